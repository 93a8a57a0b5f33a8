import Derived.Test.YtpkclpjdpanekaaGreatLefDXFA
import Derived.KernelRfl
set_option linter.unusedVariables false
set_option linter.unusedSimpArgs false
namespace Go.D
open Go.Proofs
theorem ok_impl_Part_kind_1 {a0 : Int} {b0 : List Int} {y : Bool} (h : impl_Part_kind_1 a0 b0 = some y) : OK Tryz.prog 163 [I a0, .fptr (Enc.cells b0) 0] (B y) := by
  refine OK_of_pwp τ_ok Tryz.func163 rfl (by kernel_rfl) rfl fun Γ hX => ?_
  unfold impl_Part_kind_1 at h
  refine srve 8 [(1, .fptr (Enc.cells b0) 0), (2, .fptr (Enc.cells a0) 0)] [] ?_
  refine srv 2 8 [(4, A b0), (5, .fn 165 [.fptr (Enc.cells a0) 0])] [] ?_
  obtain ⟨v1, hv2, h⟩ := bindS h
  refine opsP_callF τ 6 (ok_slices_ContainsFunc_int_int (rfl) (fun _ w hw => ok_impl_Part_kind_1_1 hw) hv2) (FzTo.frz rfl) rfl (by kernel_rfl) ?_
  refine ve 2 8 [(3, B ((!v1)))] [] ?_
  cases h
  exact pwp_ret rz
def impl_AndOf (a0 : Int) (a1 : Int) : Option Int := (impl_fold a0 a1 0).bind fun v1 => some v1
theorem ok_impl_AndOf {a0 : Int} {a1 : Int} {y : Int} (h : impl_AndOf a0 a1 = some y) : OK Tryz.prog 171 [I a0, I a1] (I y) := by
  refine OK_of_pwp τ_ok Tryz.func171 rfl (by kernel_rfl) rfl fun Γ hX => ?_
  unfold impl_AndOf at h
  refine srve 8 [(0, I a0), (1, I a1)] [] ?_
  refine srv 2 8 [(5, I a0), (6, I a1)] [] ?_
  obtain ⟨v1, hv2, h⟩ := bindS h
  refine opsP_callF τ 7 (ok_impl_fold hv2) (FzTo.frz rfl) rfl (by kernel_rfl) ?_
  refine ve 1 8 [(4, I v1)] [] ?_
  cases h
  exact pwp_ret rz
def impl_OrOf (a0 : Int) (a1 : Int) : Option Int := (impl_fold a0 a1 1).bind fun v1 => some v1
theorem ok_impl_OrOf {a0 : Int} {a1 : Int} {y : Int} (h : impl_OrOf a0 a1 = some y) : OK Tryz.prog 173 [I a0, I a1] (I y) := by
  refine OK_of_pwp τ_ok Tryz.func173 rfl (by kernel_rfl) rfl fun Γ hX => ?_
  unfold impl_OrOf at h
  refine srve 8 [(0, I a0), (1, I a1)] [] ?_
  refine srv 2 8 [(5, I a0), (6, I a1)] [] ?_
  obtain ⟨v1, hv2, h⟩ := bindS h
  refine opsP_callF τ 7 (ok_impl_fold hv2) (FzTo.frz rfl) rfl (by kernel_rfl) ?_
  refine ve 1 8 [(4, I v1)] [] ?_
  cases h
  exact pwp_ret rz
def impl_Value_order (a0 : T_impl_Value) (a1 : T_impl_Value) : Option Int := (cmp_Compare_int a0.fKind a1.fKind).bind fun v1 => (cmp_Compare_int a0.fN a1.fN).bind fun v3 => (cmp_Compare_string a0.fS a1.fS).bind fun v5 => (cmp_Or_int ([v1, v3, v5])).bind fun v7 => some v7
theorem ok_impl_Value_order {a0 : T_impl_Value} {a1 : T_impl_Value} {y : Int} (h : impl_Value_order a0 a1 = some y) : OK Tryz.prog 193 [E a0, E a1] (I y) := by
  refine OK_of_pwp τ_ok Tryz.func193 rfl (by kernel_rfl) rfl fun Γ hX => ?_
  unfold impl_Value_order at h
  refine srve 22 [(2, .fptr (Enc.cells a0) 0), (3, .fptr (Enc.cells a1) 0)] [] ?_
  refine pwp_seq ?_
  refine pwp_imp (Imp.to (st' := ⟨22, [(2, .fptr (Enc.cells a0) 0), (3, .fptr (Enc.cells a1) 0)], []⟩) [2, 3] (by kernel_rfl)) ?_
  refine pwp_any ([[], [], [], [], [], [], [], [], [], [], [], [], [], [], [], [], [], []]) ([[], [], [], [], [], [], [], [], [], [], [], [], [], [], [], [], [], []]) rfl (by kernel_rfl) ?_
  refine qA_ev (st' := ⟨22, [(8, I a1.fKind), (7, .fptr (Enc.cells a1) 0), (6, I a0.fKind), (5, .fptr (Enc.cells a0) 0), (2, .fptr (Enc.cells a0) 0), (3, .fptr (Enc.cells a1) 0)], []⟩) τ_ok [] [] 4 (by exact trivial) (by kernel_rfl) ?_
  obtain ⟨v1, hv2, h⟩ := bindS h
  refine qA_E (dd := some 9) (x := I v1) ([]) (⟨22, [(9, I v1), (8, I a1.fKind), (7, .fptr (Enc.cells a1) 0), (6, I a0.fKind), (5, .fptr (Enc.cells a0) 0), (2, .fptr (Enc.cells a0) 0), (3, .fptr (Enc.cells a1) 0)], []⟩) (fun Γ' hΓ => CoreE.of_g (callV_sound (τ := τ) (by kernel_rfl) rfl (ok_cmp_Compare_int hv2) (FzTo.frz rfl))) (by kernel_rfl) (by kernel_rfl) (by exact trivial) (.inr (.inr rfl)) (by kernel_rfl) ?_
  refine qA_ev (st' := ⟨22, [(13, I a1.fN), (12, .fptr (Enc.cells a1) 1), (11, I a0.fN), (10, .fptr (Enc.cells a0) 1), (9, I v1), (8, I a1.fKind), (7, .fptr (Enc.cells a1) 0), (6, I a0.fKind), (5, .fptr (Enc.cells a0) 0), (2, .fptr (Enc.cells a0) 0), (3, .fptr (Enc.cells a1) 0)], []⟩) τ_ok [] [] 4 (by exact trivial) (by kernel_rfl) ?_
  obtain ⟨v3, hv4, h⟩ := bindS h
  refine qA_E (dd := some 14) (x := I v3) ([]) (⟨22, [(14, I v3), (13, I a1.fN), (12, .fptr (Enc.cells a1) 1), (11, I a0.fN), (10, .fptr (Enc.cells a0) 1), (9, I v1), (8, I a1.fKind), (7, .fptr (Enc.cells a1) 0), (6, I a0.fKind), (5, .fptr (Enc.cells a0) 0), (2, .fptr (Enc.cells a0) 0), (3, .fptr (Enc.cells a1) 0)], []⟩) (fun Γ' hΓ => CoreE.of_g (callV_sound (τ := τ) (by kernel_rfl) rfl (ok_cmp_Compare_int hv4) (FzTo.frz rfl))) (by kernel_rfl) (by kernel_rfl) (by exact trivial) (.inr (.inr rfl)) (by kernel_rfl) ?_
  refine qA_ev (st' := ⟨22, [(18, S a1.fS), (17, .fptr (Enc.cells a1) 2), (16, S a0.fS), (15, .fptr (Enc.cells a0) 2), (14, I v3), (13, I a1.fN), (12, .fptr (Enc.cells a1) 1), (11, I a0.fN), (10, .fptr (Enc.cells a0) 1), (9, I v1), (8, I a1.fKind), (7, .fptr (Enc.cells a1) 0), (6, I a0.fKind), (5, .fptr (Enc.cells a0) 0), (2, .fptr (Enc.cells a0) 0), (3, .fptr (Enc.cells a1) 0)], []⟩) τ_ok [] [] 4 (by exact trivial) (by kernel_rfl) ?_
  obtain ⟨v5, hv6, h⟩ := bindS h
  refine qA_E (dd := some 19) (x := I v5) ([]) (⟨22, [(19, I v5), (18, S a1.fS), (17, .fptr (Enc.cells a1) 2), (16, S a0.fS), (15, .fptr (Enc.cells a0) 2), (14, I v3), (13, I a1.fN), (12, .fptr (Enc.cells a1) 1), (11, I a0.fN), (10, .fptr (Enc.cells a0) 1), (9, I v1), (8, I a1.fKind), (7, .fptr (Enc.cells a1) 0), (6, I a0.fKind), (5, .fptr (Enc.cells a0) 0), (2, .fptr (Enc.cells a0) 0), (3, .fptr (Enc.cells a1) 0)], []⟩) (fun Γ' hΓ => CoreE.of_g (callV_sound (τ := τ) (by kernel_rfl) rfl (ok_cmp_Compare_string hv6) (FzTo.frz rfl))) (by kernel_rfl) (by kernel_rfl) (by exact trivial) (.inr (.inr rfl)) (by kernel_rfl) ?_
  refine qA_ev (st' := ⟨22, [(20, .arr 1 (([v1, v3, v5] : List Int)).length (eL ([v1, v3, v5] : List Int)) true), (19, I v5), (18, S a1.fS), (17, .fptr (Enc.cells a1) 2), (16, S a0.fS), (15, .fptr (Enc.cells a0) 2), (14, I v3), (13, I a1.fN), (12, .fptr (Enc.cells a1) 1), (11, I a0.fN), (10, .fptr (Enc.cells a0) 1), (9, I v1), (8, I a1.fKind), (7, .fptr (Enc.cells a1) 0), (6, I a0.fKind), (5, .fptr (Enc.cells a0) 0), (2, .fptr (Enc.cells a0) 0), (3, .fptr (Enc.cells a1) 0)], []⟩) τ_ok [] [] 1 (by exact trivial) (by kernel_rfl) ?_
  obtain ⟨v7, hv8, h⟩ := bindS h
  refine qA_E (dd := some 21) (x := I v7) ([]) (⟨22, [(21, I v7), (20, .arr 1 (([v1, v3, v5] : List Int)).length (eL ([v1, v3, v5] : List Int)) true), (19, I v5), (18, S a1.fS), (17, .fptr (Enc.cells a1) 2), (16, S a0.fS), (15, .fptr (Enc.cells a0) 2), (14, I v3), (13, I a1.fN), (12, .fptr (Enc.cells a1) 1), (11, I a0.fN), (10, .fptr (Enc.cells a0) 1), (9, I v1), (8, I a1.fKind), (7, .fptr (Enc.cells a1) 0), (6, I a0.fKind), (5, .fptr (Enc.cells a0) 0), (2, .fptr (Enc.cells a0) 0), (3, .fptr (Enc.cells a1) 0)], []⟩) (fun Γ' hΓ => CoreE.of_g (callV_sound (τ := τ) (by kernel_rfl) rfl (ok_cmp_Or_int hv8) (FzTo.frz rfl))) (by kernel_rfl) (by kernel_rfl) (by exact trivial) (.inr (.inr rfl)) (by kernel_rfl) ?_
  refine qA_ev (st' := ⟨22, [(4, I v7), (21, I v7), (20, .arr 1 (([v1, v3, v5] : List Int)).length (eL ([v1, v3, v5] : List Int)) true), (19, I v5), (18, S a1.fS), (17, .fptr (Enc.cells a1) 2), (16, S a0.fS), (15, .fptr (Enc.cells a0) 2), (14, I v3), (13, I a1.fN), (12, .fptr (Enc.cells a1) 1), (11, I a0.fN), (10, .fptr (Enc.cells a0) 1), (9, I v1), (8, I a1.fKind), (7, .fptr (Enc.cells a1) 0), (6, I a0.fKind), (5, .fptr (Enc.cells a0) 0), (2, .fptr (Enc.cells a0) 0), (3, .fptr (Enc.cells a1) 0)], []⟩) τ_ok [] [] 1 (by exact trivial) (by kernel_rfl) ?_
  refine qA_end ?_
  refine opsP_imp (Imp.to (st' := ⟨22, [(4, I v7)], []⟩) [4] (by kernel_rfl)) ?_
  refine opsP_end rfl ?_
  cases h
  exact pwp_ret rz
def spec_ExprKind_j3 (x6 : List Int) (x15 : Bool) : Option Int := bif x15 then some (-1) else (getI x6 0).bind fun v17 => some v17
def spec_ExprKind_j2 (a0 : List T_impl_Column) (a1 : List T_impl_Part) (x4 : Bool) (x5 : Int) (x6 : List Int) (K8 : Bool → Int → (List Int) → Option Int) (x9 : Bool) : Option Int := bif x9 then (getI a1 x5).bind fun v11 => (spec_l4Step a0 x6 v11).bind fun v13 => K8 v13.2 ((w64 (x5 + 1))) v13.1 else bif (!x4) then spec_ExprKind_j3 x6 true else spec_ExprKind_j3 x6 ((!(((x6.length : Int)) == 1)))
def spec_ExprKind_l1 (a0 : List T_impl_Column) (a1 : List T_impl_Part) : Nat → Bool → Int → (List Int) → Option Int
  | 0, _, _, _ => none
  | f7 + 1, x4, x5, x6 => bif (decide (x5 < ((a1.length : Int)))) then spec_ExprKind_j2 a0 a1 x4 x5 x6 (spec_ExprKind_l1 a0 a1 f7) x4 else spec_ExprKind_j2 a0 a1 x4 x5 x6 (spec_ExprKind_l1 a0 a1 f7) false
def spec_ExprKind_j0 (a0 : List T_impl_Column) (a1 : List T_impl_Part) (x1 : Bool) : Option Int := bif x1 then some (-1) else spec_ExprKind_l1 a0 a1 FUEL true 0 (([] : List Int))
def spec_ExprKind (a0 : List T_impl_Column) (a1 : List T_impl_Part) : Option Int := (spec_ColumnsOk a0).bind fun v21 => bif (!v21) then spec_ExprKind_j0 a0 a1 true else spec_ExprKind_j0 a0 a1 ((decide (((a1.length : Int)) > 12)))
theorem ok_spec_ExprKind {a0 : List T_impl_Column} {a1 : List T_impl_Part} {y : Int} (h : spec_ExprKind a0 a1 = some y) : OK Tryz.prog 72 [A a0, A a1] (I y) := by
  refine OK_of_pwp τ_ok Tryz.func72 rfl (by kernel_rfl) rfl fun Γ hX => ?_
  unfold spec_ExprKind at h
  refine srve 46 [(0, A a0), (1, A a1)] [] ?_
  refine pwp_seq ?_
  refine pwp_seq ?_
  refine pwp_join (σ := Bool) (fun x1 => (⟨46, [(0, A a0), (1, A a1), (15, B x1)], []⟩ : St)) (fun x1 => spec_ExprKind_j0 a0 a1 x1 = some y) ?_ ?_
  refine rv 1 46 [(0, A a0), (1, A a1), (8, A a0)] [] ?_
  obtain ⟨v21, hv22, h⟩ := bindS h
  refine opsP_callF τ 9 (ok_spec_ColumnsOk hv22) (FzTo.frz rfl) rfl (by kernel_rfl) ?_
  refine v 2 46 [(0, A a0), (1, A a1), (11, B ((!v21)))] [] ?_
  rcases fk ((!v21)) with hc23 | hc23
  replace h := bT hc23 h
  rw [hc23]
  refine ve 4 46 [(0, A a0), (1, A a1), (15, B true)] [] ?_
  exact ⟨true, h, (Imp.to (st' := ⟨46, [(0, A a0), (1, A a1), (15, B true)], []⟩) [0, 1, 15] (by kernel_rfl)).trans (Imp.to [0, 1, 15] (by kernel_rfl))⟩
  replace h := bF hc23 h
  rw [hc23]
  refine ve 4 46 [(0, A a0), (1, A a1), (15, B ((decide (((a1.length : Int)) > 12))))] [] ?_
  exact ⟨(decide (((a1.length : Int)) > 12)), h, (Imp.to (st' := ⟨46, [(0, A a0), (1, A a1), (15, B ((decide (((a1.length : Int)) > 12))))], []⟩) [0, 1, 15] (by kernel_rfl)).trans (Imp.to [0, 1, 15] (by kernel_rfl))⟩
  rintro x1 h
  unfold spec_ExprKind_j0 at h
  refine pc h (fun h => ?_) (fun h => ?_)
  refine srve 46 [(4, I (-1))] [] ?_
  cases h
  exact pwp_ret rz
  refine pwp_skip ?_
  refine srve 46 [(0, A a0), (1, A a1), (5, .arr 1 0 (eL ([] : List Int)) true)] [] ?_
  refine srve 46 [(0, A a0), (1, A a1), (5, .arr 1 0 (eL ([] : List Int)) true), (6, B true)] [] ?_
  refine pwp_seq ?_
  refine srve 46 [(0, A a0), (1, A a1), (5, .arr 1 0 (eL ([] : List Int)) true), (6, B true), (7, I 0)] [] ?_
  refine pwp_block ?_
  refine pwp_loop (ι := Nat × Bool × Int × (List Int)) (fun (f7, x4, x5, x6) => (⟨46, [(0, A a0), (1, A a1), (5, .ref 0 0 0 1 x6.length false), (6, B x4), (7, I x5)], [some ⟨0, eL x6⟩]⟩ : St)) (fun (f7, x4, x5, x6) => spec_ExprKind_l1 a0 a1 f7 x4 x5 x6 = some y) (fun (f7, x4, x5, x6) => f7) (FUEL, true, 0, ([] : List Int)) h ((Imp.to (st' := ⟨46, [(0, A a0), (1, A a1), (5, .arr 1 0 (eL ([] : List Int)) true), (6, B true), (7, I 0)], []⟩) [0, 1, 5, 6, 7] (by kernel_rfl)).trans ((Imp.thawS (st' := ⟨46, [(0, A a0), (1, A a1), (5, .ref 0 0 0 1 (([] : List Int)).length false), (6, B true), (7, I 0)], [some ⟨0, eL (([] : List Int))⟩]⟩) 5 [0, 1, 5, 6, 7] (by kernel_rfl)).trans (Imp.to [0, 1, 5, 6, 7] (by kernel_rfl)))) ?_
  rintro ⟨f7, x4, x5, x6⟩ h
  dsimp only at h ⊢
  rcases f7 with _ | f7
  cases h
  rw [spec_ExprKind_l1] at h
  refine pwp_seq ?_
  refine pwp_seq ?_
  refine pwp_join (σ := Bool) (fun x9 => (⟨46, [(0, A a0), (1, A a1), (5, .ref 0 0 0 1 x6.length false), (6, B x4), (7, I x5), (23, B x9)], [some ⟨0, eL x6⟩]⟩ : St)) (fun x9 => spec_ExprKind_j2 a0 a1 x4 x5 x6 (spec_ExprKind_l1 a0 a1 f7) x9 = some y) ?_ ?_
  refine rv 5 46 [(0, A a0), (1, A a1), (5, .ref 0 0 0 1 x6.length false), (6, B x4), (7, I x5), (21, B ((decide (x5 < ((a1.length : Int))))))] [some ⟨0, eL x6⟩] ?_
  rcases fk ((decide (x5 < ((a1.length : Int))))) with hc20 | hc20
  replace h := bT hc20 h
  rw [hc20]
  refine ve 2 46 [(0, A a0), (1, A a1), (5, .ref 0 0 0 1 x6.length false), (6, B x4), (7, I x5), (22, B x4), (23, B x4)] [some ⟨0, eL x6⟩] ?_
  exact ⟨x4, h, (Imp.to (st' := ⟨46, [(0, A a0), (1, A a1), (5, .ref 0 0 0 1 x6.length false), (6, B x4), (7, I x5), (23, B x4)], [some ⟨0, eL x6⟩]⟩) [0, 1, 5, 6, 7, 23] (by kernel_rfl)).trans (Imp.to [0, 1, 5, 6, 7, 23] (by kernel_rfl))⟩
  replace h := bF hc20 h
  rw [hc20]
  refine ve 2 46 [(0, A a0), (1, A a1), (5, .ref 0 0 0 1 x6.length false), (6, B x4), (7, I x5), (22, .lit undef), (23, B false)] [some ⟨0, eL x6⟩] ?_
  exact ⟨false, h, (Imp.to (st' := ⟨46, [(0, A a0), (1, A a1), (5, .ref 0 0 0 1 x6.length false), (6, B x4), (7, I x5), (23, B false)], [some ⟨0, eL x6⟩]⟩) [0, 1, 5, 6, 7, 23] (by kernel_rfl)).trans (Imp.to [0, 1, 5, 6, 7, 23] (by kernel_rfl))⟩
  rintro x9 h
  unfold spec_ExprKind_j2 at h
  refine pc h (fun h => ?_) (fun h => ?_)
  refine pwp_skip ?_
  refine pwp_seq ?_
  refine pwp_block ?_
  refine rv 4 46 [(0, A a0), (1, A a1), (7, I x5), (27, A a0), (28, .ref 0 0 0 1 x6.length false), (29, A a1), (30, I x5)] [some ⟨0, eL x6⟩] ?_
  obtain ⟨v11, hv12, h⟩ := bindS h
  refine opsP_idx τ_ok 31 hv12 (by kernel_rfl) ?_
  refine v 1 46 [(0, A a0), (1, A a1), (7, I x5), (27, A a0), (28, .ref 0 0 0 1 x6.length false), (32, E v11)] [some ⟨0, eL x6⟩] ?_
  obtain ⟨v13, hv14, h⟩ := bindS h
  refine opsP_callM (xs := [A a0, .ref 0 0 0 1 x6.length false, E v11]) (x := .tup [.ref 1 0 0 1 v13.1.length false, B v13.2]) (bs := [⟨0, eL v13.1⟩]) τ 33 [0] (fun b hb => absurd hb (hX b)) (ok_spec_l4Step hv14) (by kernel_rfl) (OutL.cons (OutP.frz rfl) (OutL.cons (OutP.list (v := 0) (by kernel_rfl)) (OutL.cons (OutP.frz rfl) (OutL.nil _)))) (by decide) (by kernel_rfl) ?_
  refine ve 5 46 [(0, A a0), (1, A a1), (5, .ref 1 0 0 1 v13.1.length false), (6, B v13.2), (7, I x5)] [none, some ⟨0, eL v13.1⟩] ?_
  refine rve 46 [(0, A a0), (1, A a1), (5, .ref 1 0 0 1 v13.1.length false), (6, B v13.2), (7, I ((w64 (x5 + 1))))] [none, some ⟨0, eL v13.1⟩] ?_
  exact ⟨(f7, v13.2, (w64 (x5 + 1)), v13.1), h, Nat.lt_succ_self _, (Imp.to (st' := ⟨46, [(0, A a0), (1, A a1), (5, .ref 1 0 0 1 v13.1.length false), (6, B v13.2), (7, I ((w64 (x5 + 1))))], [none, some ⟨0, eL v13.1⟩]⟩) [0, 1, 5, 6, 7] (by kernel_rfl)).trans ((Imp.mvS (st' := ⟨46, [(0, A a0), (1, A a1), (5, .ref 0 0 0 1 v13.1.length false), (6, B v13.2), (7, I ((w64 (x5 + 1))))], [some ⟨0, eL v13.1⟩, none]⟩) 1 0 [0, 1, 5, 6, 7] (fun b hb => absurd hb (hX b)) (v := 0) (cs := eL v13.1) (by kernel_rfl) (by kernel_rfl) (by exact (And.intro (eL_frz _) trivial)) (by kernel_rfl) (by kernel_rfl)).trans ((Imp.truncS (st' := ⟨46, [(0, A a0), (1, A a1), (5, .ref 0 0 0 1 v13.1.length false), (6, B v13.2), (7, I ((w64 (x5 + 1))))], [some ⟨0, eL v13.1⟩]⟩) 1 (fun b hb => absurd hb (hX b)) (by kernel_rfl) (allBelow_mem (by exact (And.intro rfl (And.intro rfl (And.intro rfl (And.intro rfl (And.intro rfl trivial))))))) (by exact (And.intro (frz_below (eL_frz _)) trivial)) (by kernel_rfl)).trans (Imp.to [0, 1, 5, 6, 7] (by kernel_rfl))))⟩
  refine pwp_exit ?_
  refine pwp_seq ?_
  refine pwp_seq ?_
  refine pwp_join (σ := Bool) (fun x15 => (⟨46, [(5, .ref 0 0 0 1 x6.length false), (42, B x15)], [some ⟨0, eL x6⟩]⟩ : St)) (fun x15 => spec_ExprKind_j3 x6 x15 = some y) ?_ ?_
  refine rv 3 46 [(5, .ref 0 0 0 1 x6.length false), (38, B ((!x4)))] [some ⟨0, eL x6⟩] ?_
  rcases fk ((!x4)) with hc19 | hc19
  replace h := bT hc19 h
  rw [hc19]
  refine ve 4 46 [(5, .ref 0 0 0 1 x6.length false), (42, B true)] [some ⟨0, eL x6⟩] ?_
  exact ⟨true, h, (Imp.to (st' := ⟨46, [(5, .ref 0 0 0 1 x6.length false), (42, B true)], [some ⟨0, eL x6⟩]⟩) [5, 42] (by kernel_rfl)).trans (Imp.to [5, 42] (by kernel_rfl))⟩
  replace h := bF hc19 h
  rw [hc19]
  refine ve 4 46 [(5, .ref 0 0 0 1 x6.length false), (42, B ((!(((x6.length : Int)) == 1))))] [some ⟨0, eL x6⟩] ?_
  exact ⟨(!(((x6.length : Int)) == 1)), h, (Imp.to (st' := ⟨46, [(5, .ref 0 0 0 1 x6.length false), (42, B ((!(((x6.length : Int)) == 1))))], [some ⟨0, eL x6⟩]⟩) [5, 42] (by kernel_rfl)).trans (Imp.to [5, 42] (by kernel_rfl))⟩
  rintro x15 h
  unfold spec_ExprKind_j3 at h
  refine pc h (fun h => ?_) (fun h => ?_)
  refine srve 46 [(4, I (-1))] [some ⟨0, eL x6⟩] ?_
  cases h
  exact pwp_ret rz
  refine pwp_skip ?_
  refine srv 1 46 [(43, .ref 0 0 0 1 x6.length false)] [some ⟨0, eL x6⟩] ?_
  obtain ⟨v17, hv18, h⟩ := bindS h
  refine opsP_idr τ_ok 44 0 0 x6.length hv18 rfl (by kernel_rfl) ?_
  refine opsP_lde (r := I v17) τ_ok 45 3 0 hv18 (by kernel_rfl) (by kernel_rfl) ?_
  refine ve 1 46 [(4, I v17)] [some ⟨0, eL x6⟩] ?_
  cases h
  exact pwp_ret rz
def spec_RowFits_j2 (x3 : Int) (K5 : Int → Option Bool) (x7 : Bool) : Option Bool := bif x7 then some false else K5 ((w64 (x3 + 1)))
def spec_RowFits_l1 (a0 : List T_impl_Column) (a1 : List T_impl_Value) : Nat → Int → Option Bool
  | 0, _ => none
  | f4 + 1, x3 => bif (decide (x3 < ((a1.length : Int)))) then (getI a1 x3).bind fun v9 => (getI a0 x3).bind fun v11 => bif (!(v9.fKind == v11.fKind)) then (getI a1 x3).bind fun v13 => bif (!(v13.fKind == 0)) then spec_RowFits_j2 x3 (spec_RowFits_l1 a0 a1 f4) true else (getI a0 x3).bind fun v15 => spec_RowFits_j2 x3 (spec_RowFits_l1 a0 a1 f4) ((!v15.fEmpty)) else spec_RowFits_j2 x3 (spec_RowFits_l1 a0 a1 f4) false else some true
def spec_RowFits_j0 (a0 : List T_impl_Column) (a1 : List T_impl_Value) (x1 : Bool) : Option Bool := bif x1 then some false else spec_RowFits_l1 a0 a1 FUEL 0
def spec_RowFits (a0 : List T_impl_Column) (a1 : List T_impl_Value) : Option Bool := (spec_ColumnsOk a0).bind fun v19 => bif (!v19) then spec_RowFits_j0 a0 a1 true else (spec_RowOk a1).bind fun v21 => bif (!v21) then spec_RowFits_j0 a0 a1 true else spec_RowFits_j0 a0 a1 ((!(((a1.length : Int)) == ((a0.length : Int)))))
theorem ok_spec_RowFits {a0 : List T_impl_Column} {a1 : List T_impl_Value} {y : Bool} (h : spec_RowFits a0 a1 = some y) : OK Tryz.prog 106 [A a0, A a1] (B y) := by
  refine OK_of_pwp τ_ok Tryz.func106 rfl (by kernel_rfl) rfl fun Γ hX => ?_
  unfold spec_RowFits at h
  refine srve 54 [(0, A a0), (1, A a1)] [] ?_
  refine pwp_seq ?_
  refine pwp_seq ?_
  refine pwp_join (σ := Bool) (fun x1 => (⟨54, [(0, A a0), (1, A a1), (20, B x1)], []⟩ : St)) (fun x1 => spec_RowFits_j0 a0 a1 x1 = some y) ?_ ?_
  refine rv 1 54 [(0, A a0), (1, A a1), (6, A a0)] [] ?_
  obtain ⟨v19, hv20, h⟩ := bindS h
  refine opsP_callF τ 7 (ok_spec_ColumnsOk hv20) (FzTo.frz rfl) rfl (by kernel_rfl) ?_
  refine v 2 54 [(0, A a0), (1, A a1), (9, B ((!v19)))] [] ?_
  rcases fk ((!v19)) with hc24 | hc24
  replace h := bT hc24 h
  rw [hc24]
  refine ve 11 54 [(0, A a0), (1, A a1), (20, B true)] [] ?_
  exact ⟨true, h, (Imp.to (st' := ⟨54, [(0, A a0), (1, A a1), (20, B true)], []⟩) [0, 1, 20] (by kernel_rfl)).trans (Imp.to [0, 1, 20] (by kernel_rfl))⟩
  replace h := bF hc24 h
  rw [hc24]
  refine v 1 54 [(0, A a0), (1, A a1), (9, B false), (10, A a1)] [] ?_
  obtain ⟨v21, hv22, h⟩ := bindS h
  refine opsP_callF τ 11 (ok_spec_RowOk hv22) (FzTo.frz rfl) rfl (by kernel_rfl) ?_
  refine v 3 54 [(0, A a0), (1, A a1), (14, B ((!v21)))] [] ?_
  rcases fk ((!v21)) with hc23 | hc23
  replace h := bT hc23 h
  rw [hc23]
  refine ve 6 54 [(0, A a0), (1, A a1), (20, B true)] [] ?_
  exact ⟨true, h, (Imp.to (st' := ⟨54, [(0, A a0), (1, A a1), (20, B true)], []⟩) [0, 1, 20] (by kernel_rfl)).trans (Imp.to [0, 1, 20] (by kernel_rfl))⟩
  replace h := bF hc23 h
  rw [hc23]
  refine ve 6 54 [(0, A a0), (1, A a1), (20, B ((!(((a1.length : Int)) == ((a0.length : Int))))))] [] ?_
  exact ⟨(!(((a1.length : Int)) == ((a0.length : Int)))), h, (Imp.to (st' := ⟨54, [(0, A a0), (1, A a1), (20, B ((!(((a1.length : Int)) == ((a0.length : Int))))))], []⟩) [0, 1, 20] (by kernel_rfl)).trans (Imp.to [0, 1, 20] (by kernel_rfl))⟩
  rintro x1 h
  unfold spec_RowFits_j0 at h
  refine pc h (fun h => ?_) (fun h => ?_)
  refine srve 54 [(4, B false)] [] ?_
  cases h
  exact pwp_ret rz
  refine pwp_skip ?_
  refine pwp_seq ?_
  refine srve 54 [(0, A a0), (1, A a1), (5, I 0)] [] ?_
  refine pwp_block ?_
  refine pwp_loop (ι := Nat × Int) (fun (f4, x3) => (⟨54, [(0, A a0), (1, A a1), (5, I x3)], []⟩ : St)) (fun (f4, x3) => spec_RowFits_l1 a0 a1 f4 x3 = some y) (fun (f4, x3) => f4) (FUEL, 0) h ((Imp.to (st' := ⟨54, [(0, A a0), (1, A a1), (5, I 0)], []⟩) [0, 1, 5] (by kernel_rfl)).trans (Imp.to [0, 1, 5] (by kernel_rfl))) ?_
  rintro ⟨f4, x3⟩ h
  dsimp only at h ⊢
  rcases f4 with _ | f4
  cases h
  rw [spec_RowFits_l1] at h
  refine pwp_seq ?_
  refine srve 54 [(0, A a0), (1, A a1), (5, I x3), (24, B ((decide (x3 < ((a1.length : Int))))))] [] ?_
  refine pc h (fun h => ?_) (fun h => ?_)
  refine pwp_skip ?_
  refine pwp_seq ?_
  refine pwp_block ?_
  refine pwp_seq ?_
  refine pwp_join (σ := Bool) (fun x7 => (⟨54, [(0, A a0), (1, A a1), (5, I x3), (53, B x7)], []⟩ : St)) (fun x7 => spec_RowFits_j2 x3 (spec_RowFits_l1 a0 a1 f4) x7 = some y) ?_ ?_
  refine pwp_imp (Imp.to (st' := ⟨54, [(0, A a0), (1, A a1), (5, I x3)], []⟩) [0, 1, 5] (by kernel_rfl)) ?_
  refine pwp_any ([[], [], [], [], [], [], [], [], [], [], [], [], [], [], [], [], [], [], [], [], [], [], [], [], [], [], []]) ([[], [], [], [], [], [], [], [], [], [], [], [], [], [], [], [], [], [], [], [], [], [], [], [], [], [], []]) rfl (by kernel_rfl) ?_
  refine qA_ev (st' := ⟨54, [(28, I x3), (27, A a1), (0, A a0), (1, A a1), (5, I x3)], []⟩) τ_ok [] [] 2 (by exact trivial) (by kernel_rfl) ?_
  obtain ⟨v9, hv10, h⟩ := bindS h
  refine qA_E (dd := some 29) (x := .fptr (Enc.cells v9) 0) ([]) (⟨54, [(29, .fptr (Enc.cells v9) 0), (28, I x3), (27, A a1), (0, A a0), (1, A a1), (5, I x3)], []⟩) (fun Γ' hΓ => CoreE.of_y (idxV_sound τ_ok (by kernel_rfl) hv10)) (by kernel_rfl) (by kernel_rfl) (by exact trivial) (.inr (.inr rfl)) (by kernel_rfl) ?_
  refine qA_ev (st' := ⟨54, [(33, I x3), (32, A a0), (31, I v9.fKind), (30, .fptr (Enc.cells v9) 0), (29, .fptr (Enc.cells v9) 0), (28, I x3), (27, A a1), (0, A a0), (1, A a1), (5, I x3)], []⟩) τ_ok [] [] 4 (by exact trivial) (by kernel_rfl) ?_
  obtain ⟨v11, hv12, h⟩ := bindS h
  refine qA_E (dd := some 34) (x := .fptr (Enc.cells v11) 0) ([]) (⟨54, [(34, .fptr (Enc.cells v11) 0), (33, I x3), (32, A a0), (31, I v9.fKind), (30, .fptr (Enc.cells v9) 0), (29, .fptr (Enc.cells v9) 0), (28, I x3), (27, A a1), (0, A a0), (1, A a1), (5, I x3)], []⟩) (fun Γ' hΓ => CoreE.of_y (idxV_sound τ_ok (by kernel_rfl) hv12)) (by kernel_rfl) (by kernel_rfl) (by exact trivial) (.inr (.inr rfl)) (by kernel_rfl) ?_
  refine qA_ev (st' := ⟨54, [(38, B ((!(v9.fKind == v11.fKind)))), (37, B ((!(v9.fKind == v11.fKind)))), (36, I v11.fKind), (35, .fptr (Enc.cells v11) 0), (34, .fptr (Enc.cells v11) 0), (33, I x3), (32, A a0), (31, I v9.fKind), (30, .fptr (Enc.cells v9) 0), (29, .fptr (Enc.cells v9) 0), (28, I x3), (27, A a1), (0, A a0), (1, A a1), (5, I x3)], []⟩) τ_ok [] [] 4 (by exact trivial) (by kernel_rfl) ?_
  rcases fk ((!(v9.fKind == v11.fKind))) with hc18 | hc18
  replace h := bT hc18 h
  rw [hc18]
  refine qA_ev (st' := ⟨54, [(40, I x3), (39, A a1), (38, B true), (37, B true), (36, I v11.fKind), (35, .fptr (Enc.cells v11) 0), (34, .fptr (Enc.cells v11) 0), (33, I x3), (32, A a0), (31, I v9.fKind), (30, .fptr (Enc.cells v9) 0), (29, .fptr (Enc.cells v9) 0), (28, I x3), (27, A a1), (0, A a0), (1, A a1), (5, I x3)], []⟩) τ_ok [] [] 2 (by exact trivial) (by kernel_rfl) ?_
  obtain ⟨v13, hv14, h⟩ := bindS h
  refine qA_E (dd := some 41) (x := .fptr (Enc.cells v13) 0) ([]) (⟨54, [(41, .fptr (Enc.cells v13) 0), (40, I x3), (39, A a1), (38, B true), (37, B true), (36, I v11.fKind), (35, .fptr (Enc.cells v11) 0), (34, .fptr (Enc.cells v11) 0), (33, I x3), (32, A a0), (31, I v9.fKind), (30, .fptr (Enc.cells v9) 0), (29, .fptr (Enc.cells v9) 0), (28, I x3), (27, A a1), (0, A a0), (1, A a1), (5, I x3)], []⟩) (fun Γ' hΓ => CoreE.of_y (idxV_sound τ_ok (by kernel_rfl) hv14)) (by kernel_rfl) (by kernel_rfl) (by exact trivial) (.inr (.inr rfl)) (by kernel_rfl) ?_
  refine qA_ev (st' := ⟨54, [(45, B ((!(v13.fKind == 0)))), (44, B ((!(v13.fKind == 0)))), (43, I v13.fKind), (42, .fptr (Enc.cells v13) 0), (41, .fptr (Enc.cells v13) 0), (40, I x3), (39, A a1), (38, B true), (37, B true), (36, I v11.fKind), (35, .fptr (Enc.cells v11) 0), (34, .fptr (Enc.cells v11) 0), (33, I x3), (32, A a0), (31, I v9.fKind), (30, .fptr (Enc.cells v9) 0), (29, .fptr (Enc.cells v9) 0), (28, I x3), (27, A a1), (0, A a0), (1, A a1), (5, I x3)], []⟩) τ_ok [] [] 4 (by exact trivial) (by kernel_rfl) ?_
  rcases fk ((!(v13.fKind == 0))) with hc17 | hc17
  replace h := bT hc17 h
  rw [hc17]
  refine qA_ev (st' := ⟨54, [(53, B true), (52, B true), (51, .lit undef), (50, .lit undef), (49, .lit undef), (48, .lit undef), (47, .lit undef), (46, .lit undef), (45, B true), (44, B true), (43, I v13.fKind), (42, .fptr (Enc.cells v13) 0), (41, .fptr (Enc.cells v13) 0), (40, I x3), (39, A a1), (38, B true), (37, B true), (36, I v11.fKind), (35, .fptr (Enc.cells v11) 0), (34, .fptr (Enc.cells v11) 0), (33, I x3), (32, A a0), (31, I v9.fKind), (30, .fptr (Enc.cells v9) 0), (29, .fptr (Enc.cells v9) 0), (28, I x3), (27, A a1), (0, A a0), (1, A a1), (5, I x3)], []⟩) τ_ok [] [] 8 (by exact trivial) (by kernel_rfl) ?_
  refine qA_end ?_
  refine opsP_imp (Imp.to (st' := ⟨54, [(0, A a0), (1, A a1), (5, I x3), (39, A a1), (40, I x3), (41, .fptr (Enc.cells v13) 0), (42, .fptr (Enc.cells v13) 0), (43, I v13.fKind), (44, B true), (45, B true), (46, .lit undef), (47, .lit undef), (48, .lit undef), (49, .lit undef), (50, .lit undef), (51, .lit undef), (52, B true), (53, B true)], []⟩) [0, 1, 5, 39, 40, 41, 42, 43, 44, 45, 46, 47, 48, 49, 50, 51, 52, 53] (by kernel_rfl)) ?_
  refine opsP_end rfl ?_
  exact ⟨true, h, (Imp.to (st' := ⟨54, [(0, A a0), (1, A a1), (5, I x3), (53, B true)], []⟩) [0, 1, 5, 53] (by kernel_rfl)).trans (Imp.to [0, 1, 5, 53] (by kernel_rfl))⟩
  replace h := bF hc17 h
  rw [hc17]
  refine qA_ev (st' := ⟨54, [(47, I x3), (46, A a0), (45, B false), (44, B false), (43, I v13.fKind), (42, .fptr (Enc.cells v13) 0), (41, .fptr (Enc.cells v13) 0), (40, I x3), (39, A a1), (38, B true), (37, B true), (36, I v11.fKind), (35, .fptr (Enc.cells v11) 0), (34, .fptr (Enc.cells v11) 0), (33, I x3), (32, A a0), (31, I v9.fKind), (30, .fptr (Enc.cells v9) 0), (29, .fptr (Enc.cells v9) 0), (28, I x3), (27, A a1), (0, A a0), (1, A a1), (5, I x3)], []⟩) τ_ok [] [] 2 (by exact trivial) (by kernel_rfl) ?_
  obtain ⟨v15, hv16, h⟩ := bindS h
  refine qA_E (dd := some 48) (x := .fptr (Enc.cells v15) 0) ([]) (⟨54, [(48, .fptr (Enc.cells v15) 0), (47, I x3), (46, A a0), (45, B false), (44, B false), (43, I v13.fKind), (42, .fptr (Enc.cells v13) 0), (41, .fptr (Enc.cells v13) 0), (40, I x3), (39, A a1), (38, B true), (37, B true), (36, I v11.fKind), (35, .fptr (Enc.cells v11) 0), (34, .fptr (Enc.cells v11) 0), (33, I x3), (32, A a0), (31, I v9.fKind), (30, .fptr (Enc.cells v9) 0), (29, .fptr (Enc.cells v9) 0), (28, I x3), (27, A a1), (0, A a0), (1, A a1), (5, I x3)], []⟩) (fun Γ' hΓ => CoreE.of_y (idxV_sound τ_ok (by kernel_rfl) hv16)) (by kernel_rfl) (by kernel_rfl) (by exact trivial) (.inr (.inr rfl)) (by kernel_rfl) ?_
  refine qA_ev (st' := ⟨54, [(53, B ((!v15.fEmpty))), (52, B ((!v15.fEmpty))), (51, B ((!v15.fEmpty))), (50, B v15.fEmpty), (49, .fptr (Enc.cells v15) 1), (48, .fptr (Enc.cells v15) 0), (47, I x3), (46, A a0), (45, B false), (44, B false), (43, I v13.fKind), (42, .fptr (Enc.cells v13) 0), (41, .fptr (Enc.cells v13) 0), (40, I x3), (39, A a1), (38, B true), (37, B true), (36, I v11.fKind), (35, .fptr (Enc.cells v11) 0), (34, .fptr (Enc.cells v11) 0), (33, I x3), (32, A a0), (31, I v9.fKind), (30, .fptr (Enc.cells v9) 0), (29, .fptr (Enc.cells v9) 0), (28, I x3), (27, A a1), (0, A a0), (1, A a1), (5, I x3)], []⟩) τ_ok [] [] 5 (by exact trivial) (by kernel_rfl) ?_
  refine qA_end ?_
  refine opsP_imp (Imp.to (st' := ⟨54, [(0, A a0), (1, A a1), (5, I x3), (39, A a1), (40, I x3), (41, .fptr (Enc.cells v13) 0), (42, .fptr (Enc.cells v13) 0), (43, I v13.fKind), (44, B false), (45, B false), (46, A a0), (47, I x3), (48, .fptr (Enc.cells v15) 0), (49, .fptr (Enc.cells v15) 1), (50, B v15.fEmpty), (51, B ((!v15.fEmpty))), (52, B ((!v15.fEmpty))), (53, B ((!v15.fEmpty)))], []⟩) [0, 1, 5, 39, 40, 41, 42, 43, 44, 45, 46, 47, 48, 49, 50, 51, 52, 53] (by kernel_rfl)) ?_
  refine opsP_end rfl ?_
  exact ⟨(!v15.fEmpty), h, (Imp.to (st' := ⟨54, [(0, A a0), (1, A a1), (5, I x3), (53, B ((!v15.fEmpty)))], []⟩) [0, 1, 5, 53] (by kernel_rfl)).trans (Imp.to [0, 1, 5, 53] (by kernel_rfl))⟩
  replace h := bF hc18 h
  rw [hc18]
  refine qA_ev (st' := ⟨54, [(53, B false), (52, .lit undef), (51, .lit undef), (50, .lit undef), (49, .lit undef), (48, .lit undef), (47, .lit undef), (46, .lit undef), (45, .lit undef), (44, .lit undef), (43, .lit undef), (42, .lit undef), (41, .lit undef), (40, .lit undef), (39, .lit undef), (38, B false), (37, B false), (36, I v11.fKind), (35, .fptr (Enc.cells v11) 0), (34, .fptr (Enc.cells v11) 0), (33, I x3), (32, A a0), (31, I v9.fKind), (30, .fptr (Enc.cells v9) 0), (29, .fptr (Enc.cells v9) 0), (28, I x3), (27, A a1), (0, A a0), (1, A a1), (5, I x3)], []⟩) τ_ok [] [] 15 (by exact trivial) (by kernel_rfl) ?_
  refine qA_end ?_
  refine opsP_imp (Imp.to (st' := ⟨54, [(0, A a0), (1, A a1), (5, I x3), (39, .lit undef), (40, .lit undef), (41, .lit undef), (42, .lit undef), (43, .lit undef), (44, .lit undef), (45, .lit undef), (46, .lit undef), (47, .lit undef), (48, .lit undef), (49, .lit undef), (50, .lit undef), (51, .lit undef), (52, .lit undef), (53, B false)], []⟩) [0, 1, 5, 39, 40, 41, 42, 43, 44, 45, 46, 47, 48, 49, 50, 51, 52, 53] (by kernel_rfl)) ?_
  refine opsP_end rfl ?_
  exact ⟨false, h, (Imp.to (st' := ⟨54, [(0, A a0), (1, A a1), (5, I x3), (53, B false)], []⟩) [0, 1, 5, 53] (by kernel_rfl)).trans (Imp.to [0, 1, 5, 53] (by kernel_rfl))⟩
  rintro x7 h
  unfold spec_RowFits_j2 at h
  refine pc h (fun h => ?_) (fun h => ?_)
  refine srve 54 [(4, B false)] [] ?_
  cases h
  exact pwp_ret rz
  refine pwp_skip ?_
  refine rve 54 [(0, A a0), (1, A a1), (5, I ((w64 (x3 + 1))))] [] ?_
  exact ⟨(f4, (w64 (x3 + 1))), h, Nat.lt_succ_self _, (Imp.to (st' := ⟨54, [(0, A a0), (1, A a1), (5, I ((w64 (x3 + 1))))], []⟩) [0, 1, 5] (by kernel_rfl)).trans (Imp.to [0, 1, 5] (by kernel_rfl))⟩
  refine pwp_exit ?_
  refine srve 54 [(4, B true)] [] ?_
  cases h
  exact pwp_ret rz
def impl_RowFits_j2 (x3 : Int) (K5 : Int → Option Bool) (x9 : Bool) : Option Bool := bif x9 then some false else K5 ((w64 (x3 + 1)))
def impl_RowFits_l1 (a0 : List T_impl_Column) (a1 : List T_impl_Value) : Nat → Int → Option Bool
  | 0, _ => none
  | f4 + 1, x3 => bif (decide (x3 < ((a1.length : Int)))) then (getI a1 x3).bind fun v7 => (getI a0 x3).bind fun v11 => bif (!(v7.fKind == v11.fKind)) then bif (!(v7.fKind == 0)) then impl_RowFits_j2 x3 (impl_RowFits_l1 a0 a1 f4) true else (getI a0 x3).bind fun v13 => impl_RowFits_j2 x3 (impl_RowFits_l1 a0 a1 f4) ((!v13.fEmpty)) else impl_RowFits_j2 x3 (impl_RowFits_l1 a0 a1 f4) false else some true
def impl_RowFits_j0 (a0 : List T_impl_Column) (a1 : List T_impl_Value) (x1 : Bool) : Option Bool := bif x1 then some false else impl_RowFits_l1 a0 a1 FUEL 0
def impl_RowFits (a0 : List T_impl_Column) (a1 : List T_impl_Value) : Option Bool := (impl_ColumnsOk a0).bind fun v17 => bif (!v17) then impl_RowFits_j0 a0 a1 true else (impl_RowOk a1).bind fun v19 => bif (!v19) then impl_RowFits_j0 a0 a1 true else impl_RowFits_j0 a0 a1 ((!(((a1.length : Int)) == ((a0.length : Int)))))
theorem ok_impl_RowFits {a0 : List T_impl_Column} {a1 : List T_impl_Value} {y : Bool} (h : impl_RowFits a0 a1 = some y) : OK Tryz.prog 116 [A a0, A a1] (B y) := by
  refine OK_of_pwp τ_ok Tryz.func116 rfl (by kernel_rfl) rfl fun Γ hX => ?_
  unfold impl_RowFits at h
  refine srveM [6] 51 [(0, A a0), (1, A a1)] [] ?_
  refine pwp_seq ?_
  refine pwp_seq ?_
  refine pwp_join (σ := Bool) (fun x1 => (⟨51, [(0, A a0), (1, A a1), (21, B x1)], []⟩ : St)) (fun x1 => impl_RowFits_j0 a0 a1 x1 = some y) ?_ ?_
  refine rvM [6] 1 51 [(0, A a0), (1, A a1), (7, A a0)] [] ?_
  obtain ⟨v17, hv18, h⟩ := bindS h
  refine opsP_callF τ 8 (ok_impl_ColumnsOk hv18) (FzTo.frz rfl) rfl (by kernel_rfl) ?_
  refine vM [6] 2 51 [(0, A a0), (1, A a1), (10, B ((!v17)))] [] ?_
  rcases fk ((!v17)) with hc22 | hc22
  replace h := bT hc22 h
  rw [hc22]
  refine veM [6] 11 51 [(0, A a0), (1, A a1), (21, B true)] [] ?_
  exact ⟨true, h, (Imp.to (st' := ⟨51, [(0, A a0), (1, A a1), (21, B true)], []⟩) [0, 1, 21] (by kernel_rfl)).trans (Imp.to [0, 1, 21] (by kernel_rfl))⟩
  replace h := bF hc22 h
  rw [hc22]
  refine vM [6] 1 51 [(0, A a0), (1, A a1), (10, B false), (11, A a1)] [] ?_
  obtain ⟨v19, hv20, h⟩ := bindS h
  refine opsP_callF τ 12 (ok_impl_RowOk hv20) (FzTo.frz rfl) rfl (by kernel_rfl) ?_
  refine vM [6] 3 51 [(0, A a0), (1, A a1), (15, B ((!v19)))] [] ?_
  rcases fk ((!v19)) with hc21 | hc21
  replace h := bT hc21 h
  rw [hc21]
  refine veM [6] 6 51 [(0, A a0), (1, A a1), (21, B true)] [] ?_
  exact ⟨true, h, (Imp.to (st' := ⟨51, [(0, A a0), (1, A a1), (21, B true)], []⟩) [0, 1, 21] (by kernel_rfl)).trans (Imp.to [0, 1, 21] (by kernel_rfl))⟩
  replace h := bF hc21 h
  rw [hc21]
  refine veM [6] 6 51 [(0, A a0), (1, A a1), (21, B ((!(((a1.length : Int)) == ((a0.length : Int))))))] [] ?_
  exact ⟨(!(((a1.length : Int)) == ((a0.length : Int)))), h, (Imp.to (st' := ⟨51, [(0, A a0), (1, A a1), (21, B ((!(((a1.length : Int)) == ((a0.length : Int))))))], []⟩) [0, 1, 21] (by kernel_rfl)).trans (Imp.to [0, 1, 21] (by kernel_rfl))⟩
  rintro x1 h
  unfold impl_RowFits_j0 at h
  refine pc h (fun h => ?_) (fun h => ?_)
  refine srveM [6] 51 [(4, B false)] [] ?_
  cases h
  exact pwp_ret rz
  refine pwp_skip ?_
  refine pwp_seq ?_
  refine srveM [6] 51 [(0, A a0), (22, A a1), (23, I ((a1.length : Int))), (24, I 0)] [] ?_
  refine pwp_block ?_
  refine pwp_loop (ι := Nat × Int) (fun (f4, x3) => (⟨51, [(0, A a0), (22, A a1), (23, I ((a1.length : Int))), (24, I x3)], []⟩ : St)) (fun (f4, x3) => impl_RowFits_l1 a0 a1 f4 x3 = some y) (fun (f4, x3) => f4) (FUEL, 0) h ((Imp.to (st' := ⟨51, [(0, A a0), (22, A a1), (23, I ((a1.length : Int))), (24, I 0)], []⟩) [0, 22, 23, 24] (by kernel_rfl)).trans (Imp.to [0, 22, 23, 24] (by kernel_rfl))) ?_
  rintro ⟨f4, x3⟩ h
  dsimp only at h ⊢
  rcases f4 with _ | f4
  cases h
  rw [impl_RowFits_l1] at h
  refine srveM [6] 51 [(0, A a0), (22, A a1), (23, I ((a1.length : Int))), (24, I x3), (25, B ((decide (x3 < ((a1.length : Int))))))] [] ?_
  refine pwp_seq ?_
  refine pc h (fun h => ?_) (fun h => ?_)
  refine pwp_skip ?_
  refine pwp_seq ?_
  refine pwp_block ?_
  refine srvM [6] 1 51 [(0, A a0), (22, A a1), (23, I ((a1.length : Int))), (24, I x3), (26, I x3)] [] ?_
  obtain ⟨v7, hv8, h⟩ := bindS h
  refine opsP_idx τ_ok 27 hv8 (by kernel_rfl) ?_
  refine veM [6] 4 51 [(0, A a0), (5, I x3), (6, .ptr 0 0 0), (22, A a1), (23, I ((a1.length : Int))), (24, I x3)] [some ⟨0, Enc.cells v7⟩] ?_
  refine pwp_seq ?_
  refine pwp_join (σ := Bool) (fun x9 => (⟨51, [(0, A a0), (22, A a1), (23, I ((a1.length : Int))), (24, I x3), (49, B x9)], [some ⟨0, Enc.cells v7⟩]⟩ : St)) (fun x9 => impl_RowFits_j2 x3 (impl_RowFits_l1 a0 a1 f4) x9 = some y) ?_ ?_
  refine pwp_imp (Imp.to (st' := ⟨51, [(0, A a0), (5, I x3), (6, .ptr 0 0 0), (22, A a1), (23, I ((a1.length : Int))), (24, I x3)], [some ⟨0, Enc.cells v7⟩]⟩) [0, 5, 6, 22, 23, 24] (by kernel_rfl)) ?_
  refine pwp_any ([[0], [0], [], [], [], [], [], [], [], [0], [0], [], [], [], [], [], [], [], [], [], []]) ([[], [], [], [], [], [], [], [], [], [], [], [], [], [], [], [], [], [], [], [], []]) rfl (by kernel_rfl) ?_
  refine qA_ev (st' := ⟨51, [(30, I v7.fKind), (29, .ptr 0 0 0), (0, A a0), (5, I x3), (6, .ptr 0 0 0), (22, A a1), (23, I ((a1.length : Int))), (24, I x3)], [some ⟨0, Enc.cells v7⟩]⟩) τ_ok [6] [0] 2 (by exact (And.intro (.inl (Enc.frz _)) trivial)) (by kernel_rfl) ?_
  refine qA_ev (st' := ⟨51, [(32, I x3), (31, A a0), (30, I v7.fKind), (29, .ptr 0 0 0), (0, A a0), (5, I x3), (6, .ptr 0 0 0), (22, A a1), (23, I ((a1.length : Int))), (24, I x3)], [some ⟨0, Enc.cells v7⟩]⟩) τ_ok [6] [] 2 (by exact trivial) (by kernel_rfl) ?_
  obtain ⟨v11, hv12, h⟩ := bindS h
  refine qA_E (dd := some 33) (x := .fptr (Enc.cells v11) 0) ([none]) (⟨51, [(33, .fptr (Enc.cells v11) 0), (32, I x3), (31, A a0), (30, I v7.fKind), (29, .ptr 0 0 0), (0, A a0), (5, I x3), (6, .ptr 0 0 0), (22, A a1), (23, I ((a1.length : Int))), (24, I x3)], [some ⟨0, Enc.cells v7⟩]⟩) (fun Γ' hΓ => CoreE.of_y (idxV_sound τ_ok (by kernel_rfl) hv12)) (by kernel_rfl) (by kernel_rfl) (by exact trivial) (.inr (.inr rfl)) (by kernel_rfl) ?_
  refine qA_ev (st' := ⟨51, [(37, B ((!(v7.fKind == v11.fKind)))), (36, B ((!(v7.fKind == v11.fKind)))), (35, I v11.fKind), (34, .fptr (Enc.cells v11) 0), (33, .fptr (Enc.cells v11) 0), (32, I x3), (31, A a0), (30, I v7.fKind), (29, .ptr 0 0 0), (0, A a0), (5, I x3), (6, .ptr 0 0 0), (22, A a1), (23, I ((a1.length : Int))), (24, I x3)], [some ⟨0, Enc.cells v7⟩]⟩) τ_ok [6] [] 4 (by exact trivial) (by kernel_rfl) ?_
  rcases fk ((!(v7.fKind == v11.fKind))) with hc16 | hc16
  replace h := bT hc16 h
  rw [hc16]
  refine qA_ev (st' := ⟨51, [(39, I v7.fKind), (38, .ptr 0 0 0), (37, B true), (36, B true), (35, I v11.fKind), (34, .fptr (Enc.cells v11) 0), (33, .fptr (Enc.cells v11) 0), (32, I x3), (31, A a0), (30, I v7.fKind), (29, .ptr 0 0 0), (0, A a0), (5, I x3), (6, .ptr 0 0 0), (22, A a1), (23, I ((a1.length : Int))), (24, I x3)], [some ⟨0, Enc.cells v7⟩]⟩) τ_ok [6] [0] 2 (by exact (And.intro (.inl (Enc.frz _)) trivial)) (by kernel_rfl) ?_
  refine qA_ev (st' := ⟨51, [(41, B ((!(v7.fKind == 0)))), (40, B ((!(v7.fKind == 0)))), (39, I v7.fKind), (38, .ptr 0 0 0), (37, B true), (36, B true), (35, I v11.fKind), (34, .fptr (Enc.cells v11) 0), (33, .fptr (Enc.cells v11) 0), (32, I x3), (31, A a0), (30, I v7.fKind), (29, .ptr 0 0 0), (0, A a0), (5, I x3), (6, .ptr 0 0 0), (22, A a1), (23, I ((a1.length : Int))), (24, I x3)], [some ⟨0, Enc.cells v7⟩]⟩) τ_ok [6] [] 2 (by exact trivial) (by kernel_rfl) ?_
  rcases fk ((!(v7.fKind == 0))) with hc15 | hc15
  replace h := bT hc15 h
  rw [hc15]
  refine qA_ev (st' := ⟨51, [(49, B true), (48, B true), (47, .lit undef), (46, .lit undef), (45, .lit undef), (44, .lit undef), (43, .lit undef), (42, .lit undef), (41, B true), (40, B true), (39, I v7.fKind), (38, .ptr 0 0 0), (37, B true), (36, B true), (35, I v11.fKind), (34, .fptr (Enc.cells v11) 0), (33, .fptr (Enc.cells v11) 0), (32, I x3), (31, A a0), (30, I v7.fKind), (29, .ptr 0 0 0), (0, A a0), (5, I x3), (6, .ptr 0 0 0), (22, A a1), (23, I ((a1.length : Int))), (24, I x3)], [some ⟨0, Enc.cells v7⟩]⟩) τ_ok [6] [] 8 (by exact trivial) (by kernel_rfl) ?_
  refine qA_end ?_
  refine opsP_imp (Imp.to (st' := ⟨51, [(0, A a0), (22, A a1), (23, I ((a1.length : Int))), (24, I x3), (38, .ptr 0 0 0), (39, I v7.fKind), (40, B true), (41, B true), (42, .lit undef), (43, .lit undef), (44, .lit undef), (45, .lit undef), (46, .lit undef), (47, .lit undef), (48, B true), (49, B true)], [some ⟨0, Enc.cells v7⟩]⟩) [0, 22, 23, 24, 38, 39, 40, 41, 42, 43, 44, 45, 46, 47, 48, 49] (by kernel_rfl)) ?_
  refine opsP_end rfl ?_
  exact ⟨true, h, (Imp.to (st' := ⟨51, [(0, A a0), (22, A a1), (23, I ((a1.length : Int))), (24, I x3), (49, B true)], [some ⟨0, Enc.cells v7⟩]⟩) [0, 22, 23, 24, 49] (by kernel_rfl)).trans (Imp.to [0, 22, 23, 24, 49] (by kernel_rfl))⟩
  replace h := bF hc15 h
  rw [hc15]
  refine qA_ev (st' := ⟨51, [(43, I x3), (42, A a0), (41, B false), (40, B false), (39, I v7.fKind), (38, .ptr 0 0 0), (37, B true), (36, B true), (35, I v11.fKind), (34, .fptr (Enc.cells v11) 0), (33, .fptr (Enc.cells v11) 0), (32, I x3), (31, A a0), (30, I v7.fKind), (29, .ptr 0 0 0), (0, A a0), (5, I x3), (6, .ptr 0 0 0), (22, A a1), (23, I ((a1.length : Int))), (24, I x3)], [some ⟨0, Enc.cells v7⟩]⟩) τ_ok [6] [] 2 (by exact trivial) (by kernel_rfl) ?_
  obtain ⟨v13, hv14, h⟩ := bindS h
  refine qA_E (dd := some 44) (x := .fptr (Enc.cells v13) 0) ([none]) (⟨51, [(44, .fptr (Enc.cells v13) 0), (43, I x3), (42, A a0), (41, B false), (40, B false), (39, I v7.fKind), (38, .ptr 0 0 0), (37, B true), (36, B true), (35, I v11.fKind), (34, .fptr (Enc.cells v11) 0), (33, .fptr (Enc.cells v11) 0), (32, I x3), (31, A a0), (30, I v7.fKind), (29, .ptr 0 0 0), (0, A a0), (5, I x3), (6, .ptr 0 0 0), (22, A a1), (23, I ((a1.length : Int))), (24, I x3)], [some ⟨0, Enc.cells v7⟩]⟩) (fun Γ' hΓ => CoreE.of_y (idxV_sound τ_ok (by kernel_rfl) hv14)) (by kernel_rfl) (by kernel_rfl) (by exact trivial) (.inr (.inr rfl)) (by kernel_rfl) ?_
  refine qA_ev (st' := ⟨51, [(49, B ((!v13.fEmpty))), (48, B ((!v13.fEmpty))), (47, B ((!v13.fEmpty))), (46, B v13.fEmpty), (45, .fptr (Enc.cells v13) 1), (44, .fptr (Enc.cells v13) 0), (43, I x3), (42, A a0), (41, B false), (40, B false), (39, I v7.fKind), (38, .ptr 0 0 0), (37, B true), (36, B true), (35, I v11.fKind), (34, .fptr (Enc.cells v11) 0), (33, .fptr (Enc.cells v11) 0), (32, I x3), (31, A a0), (30, I v7.fKind), (29, .ptr 0 0 0), (0, A a0), (5, I x3), (6, .ptr 0 0 0), (22, A a1), (23, I ((a1.length : Int))), (24, I x3)], [some ⟨0, Enc.cells v7⟩]⟩) τ_ok [6] [] 5 (by exact trivial) (by kernel_rfl) ?_
  refine qA_end ?_
  refine opsP_imp (Imp.to (st' := ⟨51, [(0, A a0), (22, A a1), (23, I ((a1.length : Int))), (24, I x3), (38, .ptr 0 0 0), (39, I v7.fKind), (40, B false), (41, B false), (42, A a0), (43, I x3), (44, .fptr (Enc.cells v13) 0), (45, .fptr (Enc.cells v13) 1), (46, B v13.fEmpty), (47, B ((!v13.fEmpty))), (48, B ((!v13.fEmpty))), (49, B ((!v13.fEmpty)))], [some ⟨0, Enc.cells v7⟩]⟩) [0, 22, 23, 24, 38, 39, 40, 41, 42, 43, 44, 45, 46, 47, 48, 49] (by kernel_rfl)) ?_
  refine opsP_end rfl ?_
  exact ⟨(!v13.fEmpty), h, (Imp.to (st' := ⟨51, [(0, A a0), (22, A a1), (23, I ((a1.length : Int))), (24, I x3), (49, B ((!v13.fEmpty)))], [some ⟨0, Enc.cells v7⟩]⟩) [0, 22, 23, 24, 49] (by kernel_rfl)).trans (Imp.to [0, 22, 23, 24, 49] (by kernel_rfl))⟩
  replace h := bF hc16 h
  rw [hc16]
  refine qA_ev (st' := ⟨51, [(39, .lit undef), (38, .lit undef), (37, B false), (36, B false), (35, I v11.fKind), (34, .fptr (Enc.cells v11) 0), (33, .fptr (Enc.cells v11) 0), (32, I x3), (31, A a0), (30, I v7.fKind), (29, .ptr 0 0 0), (0, A a0), (5, I x3), (6, .ptr 0 0 0), (22, A a1), (23, I ((a1.length : Int))), (24, I x3)], [some ⟨0, Enc.cells v7⟩]⟩) τ_ok [6] [0] 2 (by exact (And.intro (.inl (Enc.frz _)) trivial)) (by kernel_rfl) ?_
  refine qA_ev (st' := ⟨51, [(49, B false), (48, .lit undef), (47, .lit undef), (46, .lit undef), (45, .lit undef), (44, .lit undef), (43, .lit undef), (42, .lit undef), (41, .lit undef), (40, .lit undef), (39, .lit undef), (38, .lit undef), (37, B false), (36, B false), (35, I v11.fKind), (34, .fptr (Enc.cells v11) 0), (33, .fptr (Enc.cells v11) 0), (32, I x3), (31, A a0), (30, I v7.fKind), (29, .ptr 0 0 0), (0, A a0), (5, I x3), (6, .ptr 0 0 0), (22, A a1), (23, I ((a1.length : Int))), (24, I x3)], [some ⟨0, Enc.cells v7⟩]⟩) τ_ok [6] [] 10 (by exact trivial) (by kernel_rfl) ?_
  refine qA_end ?_
  refine opsP_imp (Imp.to (st' := ⟨51, [(0, A a0), (22, A a1), (23, I ((a1.length : Int))), (24, I x3), (38, .lit undef), (39, .lit undef), (40, .lit undef), (41, .lit undef), (42, .lit undef), (43, .lit undef), (44, .lit undef), (45, .lit undef), (46, .lit undef), (47, .lit undef), (48, .lit undef), (49, B false)], [some ⟨0, Enc.cells v7⟩]⟩) [0, 22, 23, 24, 38, 39, 40, 41, 42, 43, 44, 45, 46, 47, 48, 49] (by kernel_rfl)) ?_
  refine opsP_end rfl ?_
  exact ⟨false, h, (Imp.to (st' := ⟨51, [(0, A a0), (22, A a1), (23, I ((a1.length : Int))), (24, I x3), (49, B false)], [some ⟨0, Enc.cells v7⟩]⟩) [0, 22, 23, 24, 49] (by kernel_rfl)).trans (Imp.to [0, 22, 23, 24, 49] (by kernel_rfl))⟩
  rintro x9 h
  unfold impl_RowFits_j2 at h
  refine pc h (fun h => ?_) (fun h => ?_)
  refine srveM [6] 51 [(4, B false)] [some ⟨0, Enc.cells v7⟩] ?_
  cases h
  exact pwp_ret rz
  refine pwp_skip ?_
  refine rveM [6] 51 [(0, A a0), (22, A a1), (23, I ((a1.length : Int))), (24, I ((w64 (x3 + 1))))] [some ⟨0, Enc.cells v7⟩] ?_
  exact ⟨(f4, (w64 (x3 + 1))), h, Nat.lt_succ_self _, (Imp.to (st' := ⟨51, [(0, A a0), (22, A a1), (23, I ((a1.length : Int))), (24, I ((w64 (x3 + 1))))], [some ⟨0, Enc.cells v7⟩]⟩) [0, 22, 23, 24] (by kernel_rfl)).trans ((Imp.truncS (st' := ⟨51, [(0, A a0), (22, A a1), (23, I ((a1.length : Int))), (24, I ((w64 (x3 + 1))))], []⟩) 0 (fun b hb => absurd hb (hX b)) (by kernel_rfl) (allBelow_mem (by exact (And.intro rfl (And.intro rfl (And.intro rfl (And.intro rfl trivial)))))) (by exact trivial) (by kernel_rfl)).trans (Imp.to [0, 22, 23, 24] (by kernel_rfl)))⟩
  refine pwp_exit ?_
  refine srveM [6] 51 [(4, B true)] [] ?_
  cases h
  exact pwp_ret rz
def spec_l4Do (a0 : List T_impl_Value) (a1 : List T_impl_Value) (a2 : T_impl_Part) : Option (List T_impl_Value) := bif (a2.fKind == 1) then (app a1 (([a2.fV] : List T_impl_Value))).bind fun v2 => some v2 else bif (a2.fKind == 2) then (getI a0 a2.fN).bind fun v5 => (app a1 (([v5] : List T_impl_Value))).bind fun v7 => some v7 else bif (a2.fKind == 3) then (slI a1 none (some ((w64 (((a1.length : Int)) - 2)))) none).bind fun v10 => (getI a1 ((w64 (((a1.length : Int)) - 2)))).bind fun v12 => (getI a1 ((w64 (((a1.length : Int)) - 1)))).bind fun v14 => (spec_l4Sum v12 v14).bind fun v16 => (appT a1 (([v16] : List T_impl_Value)) v10.length).bind fun v18 => some v18 else bif (a2.fKind == 4) then (slI a1 none (some ((w64 (((a1.length : Int)) - 2)))) none).bind fun v21 => (getI a1 ((w64 (((a1.length : Int)) - 2)))).bind fun v23 => (getI a1 ((w64 (((a1.length : Int)) - 1)))).bind fun v25 => (spec_Compare a2.fN v23 v25).bind fun v27 => (spec_ValueOf v27).bind fun v29 => (appT a1 (([v29] : List T_impl_Value)) v21.length).bind fun v31 => some v31 else bif (a2.fKind == 5) then (slI a1 none (some ((w64 (((a1.length : Int)) - 2)))) none).bind fun v34 => (getI a1 ((w64 (((a1.length : Int)) - 2)))).bind fun v36 => (spec_TruthOf v36).bind fun v38 => (getI a1 ((w64 (((a1.length : Int)) - 1)))).bind fun v40 => (spec_TruthOf v40).bind fun v42 => (spec_AndOf v38 v42).bind fun v44 => (spec_ValueOf v44).bind fun v46 => (appT a1 (([v46] : List T_impl_Value)) v34.length).bind fun v48 => some v48 else bif (a2.fKind == 6) then (slI a1 none (some ((w64 (((a1.length : Int)) - 2)))) none).bind fun v51 => (getI a1 ((w64 (((a1.length : Int)) - 2)))).bind fun v53 => (spec_TruthOf v53).bind fun v55 => (getI a1 ((w64 (((a1.length : Int)) - 1)))).bind fun v57 => (spec_TruthOf v57).bind fun v59 => (spec_OrOf v55 v59).bind fun v61 => (spec_ValueOf v61).bind fun v63 => (appT a1 (([v63] : List T_impl_Value)) v51.length).bind fun v65 => some v65 else bif (a2.fKind == 7) then (slI a1 none (some ((w64 (((a1.length : Int)) - 1)))) none).bind fun v68 => (getI a1 ((w64 (((a1.length : Int)) - 1)))).bind fun v70 => (spec_TruthOf v70).bind fun v72 => (spec_NotOf v72).bind fun v74 => (spec_ValueOf v74).bind fun v76 => (appT a1 (([v76] : List T_impl_Value)) v68.length).bind fun v78 => some v78 else (slI a1 none (some ((w64 (((a1.length : Int)) - 1)))) none).bind fun v80 => (getI a1 ((w64 (((a1.length : Int)) - 1)))).bind fun v82 => (spec_l2Bool ((v82.fKind == 0))).bind fun v84 => (spec_ValueOf v84).bind fun v86 => (appT a1 (([v86] : List T_impl_Value)) v80.length).bind fun v88 => some v88
theorem ok_spec_l4Do {a0 : List T_impl_Value} {a1 : List T_impl_Value} {a2 : T_impl_Part} {y : List T_impl_Value} (h : spec_l4Do a0 a1 a2 = some y) : OKm Tryz.prog 123 [A a0, O a1, E a2] (O y) := by
  refine OKm_of_pwp (sl := [A a0, .ref 0 0 0 3 a1.length false, E a2]) (bs := [⟨0, eL a1⟩]) τ_ok Tryz.func123 rfl (by kernel_rfl) rfl (by kernel_rfl) fun Γ hX => ?_
  refine pwp_imp (Imp.to (st' := ⟨145, [(0, A a0), (1, .ref 0 0 0 3 a1.length false), (2, E a2)], [some ⟨0, eL a1⟩]⟩) [0, 1, 2] (by kernel_rfl)) ?_
  unfold spec_l4Do at h
  refine srve 145 [(0, A a0), (1, .ref 0 0 0 3 a1.length false), (5, .fptr (Enc.cells a2) 0)] [some ⟨0, eL a1⟩] ?_
  refine srve 145 [(0, A a0), (1, .ref 0 0 0 3 a1.length false), (5, .fptr (Enc.cells a2) 0), (7, I ((a1.length : Int)))] [some ⟨0, eL a1⟩] ?_
  refine pwp_seq ?_
  refine srve 145 [(0, A a0), (1, .ref 0 0 0 3 a1.length false), (5, .fptr (Enc.cells a2) 0), (7, I ((a1.length : Int))), (11, I a2.fKind)] [some ⟨0, eL a1⟩] ?_
  refine pwp_block ?_
  refine srve 145 [(0, A a0), (1, .ref 0 0 0 3 a1.length false), (5, .fptr (Enc.cells a2) 0), (7, I ((a1.length : Int))), (11, I a2.fKind), (12, B ((a2.fKind == 1)))] [some ⟨0, eL a1⟩] ?_
  refine pc h (fun h => ?_) (fun h => ?_)
  refine srv 4 145 [(14, .ref 0 0 0 3 a1.length false), (17, .arr 3 (([a2.fV] : List T_impl_Value)).length (eL ([a2.fV] : List T_impl_Value)) true)] [some ⟨0, eL a1⟩] ?_
  obtain ⟨v2, hv3, h⟩ := bindS h
  refine opsP_app τ_ok 18 0 0 (fun b hb => absurd hb (hX b)) hv3 (by kernel_rfl) ?_
  refine ve 1 145 [(6, .ref 0 1 0 3 v2.length false)] [some ⟨1, eL v2⟩] ?_
  have h := si h
  subst h
  exact pwp_ret (rt (.ref 0 1 0 3 v2.length false) (OutP.list (v := 1) (by kernel_rfl)))
  refine srve 145 [(0, A a0), (1, .ref 0 0 0 3 a1.length false), (5, .fptr (Enc.cells a2) 0), (7, I ((a1.length : Int))), (11, I a2.fKind), (19, B ((a2.fKind == 2)))] [some ⟨0, eL a1⟩] ?_
  refine pc h (fun h => ?_) (fun h => ?_)
  refine srv 4 145 [(21, .ref 0 0 0 3 a1.length false), (22, A a0), (24, I a2.fN)] [some ⟨0, eL a1⟩] ?_
  obtain ⟨v5, hv6, h⟩ := bindS h
  refine opsP_idx τ_ok 25 hv6 (by kernel_rfl) ?_
  refine v 2 145 [(21, .ref 0 0 0 3 a1.length false), (27, .arr 3 (([v5] : List T_impl_Value)).length (eL ([v5] : List T_impl_Value)) true)] [some ⟨0, eL a1⟩] ?_
  obtain ⟨v7, hv8, h⟩ := bindS h
  refine opsP_app τ_ok 28 0 0 (fun b hb => absurd hb (hX b)) hv8 (by kernel_rfl) ?_
  refine ve 1 145 [(6, .ref 0 1 0 3 v7.length false)] [some ⟨1, eL v7⟩] ?_
  have h := si h
  subst h
  exact pwp_ret (rt (.ref 0 1 0 3 v7.length false) (OutP.list (v := 1) (by kernel_rfl)))
  refine srve 145 [(1, .ref 0 0 0 3 a1.length false), (5, .fptr (Enc.cells a2) 0), (7, I ((a1.length : Int))), (11, I a2.fKind), (29, B ((a2.fKind == 3)))] [some ⟨0, eL a1⟩] ?_
  refine pc h (fun h => ?_) (fun h => ?_)
  refine pwp_seq ?_
  refine pwp_imp (Imp.to (st' := ⟨145, [(1, .ref 0 0 0 3 a1.length false), (7, I ((a1.length : Int)))], [some ⟨0, eL a1⟩]⟩) [1, 7] (by kernel_rfl)) ?_
  refine pwp_any ([[0], [], [], [0], [0], [], [], [0], [0], [0], [], [], [0], [0], [], [], [0], [0]]) ([[], [], [], [], [], [], [], [], [], [], [], [], [], [], [], [], [0], []]) rfl (by kernel_rfl) ?_
  refine qA_ev (st' := ⟨145, [(31, .ref 0 0 0 3 a1.length false), (1, .ref 0 0 0 3 a1.length false), (7, I ((a1.length : Int)))], [some ⟨0, eL a1⟩]⟩) τ_ok [] [0] 1 (by exact (And.intro (.inl (eL_frz _)) trivial)) (by kernel_rfl) ?_
  refine qA_ev (st' := ⟨145, [(33, I ((w64 (((a1.length : Int)) - 2)))), (32, I ((a1.length : Int))), (31, .ref 0 0 0 3 a1.length false), (1, .ref 0 0 0 3 a1.length false), (7, I ((a1.length : Int)))], [some ⟨0, eL a1⟩]⟩) τ_ok [] [] 2 (by exact trivial) (by kernel_rfl) ?_
  obtain ⟨v10, hv11, h⟩ := bindS h
  refine qA_E (dd := some 34) (x := .ref 0 0 0 3 v10.length false) ([some ⟨0, eL a1⟩]) (⟨145, [(34, .ref 0 0 0 3 v10.length false), (33, I ((w64 (((a1.length : Int)) - 2)))), (32, I ((a1.length : Int))), (31, .ref 0 0 0 3 a1.length false), (1, .ref 0 0 0 3 a1.length false), (7, I ((a1.length : Int)))], [some ⟨0, eL a1⟩]⟩) (fun Γ' hΓ => CoreE.of_y (slrV_sound (n := a1.length) τ_ok (by kernel_rfl) rfl hv11)) (by kernel_rfl) (by kernel_rfl) (by exact (And.intro (.inl (eL_frz _)) trivial)) (.inr (.inl rfl)) (by kernel_rfl) ?_
  refine qA_ev (st' := ⟨145, [(35, .ref 0 0 0 3 a1.length false), (34, .ref 0 0 0 3 v10.length false), (33, I ((w64 (((a1.length : Int)) - 2)))), (32, I ((a1.length : Int))), (31, .ref 0 0 0 3 a1.length false), (1, .ref 0 0 0 3 a1.length false), (7, I ((a1.length : Int)))], [some ⟨0, eL a1⟩]⟩) τ_ok [] [0] 1 (by exact (And.intro (.inl (eL_frz _)) trivial)) (by kernel_rfl) ?_
  refine qA_ev (st' := ⟨145, [(37, I ((w64 (((a1.length : Int)) - 2)))), (36, I ((a1.length : Int))), (35, .ref 0 0 0 3 a1.length false), (34, .ref 0 0 0 3 v10.length false), (33, I ((w64 (((a1.length : Int)) - 2)))), (32, I ((a1.length : Int))), (31, .ref 0 0 0 3 a1.length false), (1, .ref 0 0 0 3 a1.length false), (7, I ((a1.length : Int)))], [some ⟨0, eL a1⟩]⟩) τ_ok [] [] 2 (by exact trivial) (by kernel_rfl) ?_
  obtain ⟨v12, hv13, h⟩ := bindS h
  refine qA_E (dd := some 38) (x := .ptr 0 0 (((w64 (((a1.length : Int)) - 2))).toNat * 3)) ([some ⟨0, eL a1⟩]) (⟨145, [(38, .ptr 0 0 (((w64 (((a1.length : Int)) - 2))).toNat * 3)), (37, I ((w64 (((a1.length : Int)) - 2)))), (36, I ((a1.length : Int))), (35, .ref 0 0 0 3 a1.length false), (34, .ref 0 0 0 3 v10.length false), (33, I ((w64 (((a1.length : Int)) - 2)))), (32, I ((a1.length : Int))), (31, .ref 0 0 0 3 a1.length false), (1, .ref 0 0 0 3 a1.length false), (7, I ((a1.length : Int)))], [some ⟨0, eL a1⟩]⟩) (fun Γ' hΓ => CoreE.of_y (idrV_sound (n := a1.length) τ_ok (by kernel_rfl) hv13 rfl)) (by kernel_rfl) (by kernel_rfl) (by exact (And.intro (.inl (eL_frz _)) trivial)) (.inr (.inl rfl)) (by kernel_rfl) ?_
  refine qA_E (dd := some 39) (x := E v12) ([some ⟨0, eL a1⟩]) (⟨145, [(39, E v12), (38, .ptr 0 0 (((w64 (((a1.length : Int)) - 2))).toNat * 3)), (37, I ((w64 (((a1.length : Int)) - 2)))), (36, I ((a1.length : Int))), (35, .ref 0 0 0 3 a1.length false), (34, .ref 0 0 0 3 v10.length false), (33, I ((w64 (((a1.length : Int)) - 2)))), (32, I ((a1.length : Int))), (31, .ref 0 0 0 3 a1.length false), (1, .ref 0 0 0 3 a1.length false), (7, I ((a1.length : Int)))], [some ⟨0, eL a1⟩]⟩) (fun Γ' hΓ => CoreE.of_y (ldeV_sound (t := 117) (o' := 0) (r := E v12) τ_ok hv13 (by kernel_rfl) (by kernel_rfl))) (by kernel_rfl) (by kernel_rfl) (by exact (And.intro (.inl (eL_frz _)) trivial)) (.inr (.inr rfl)) (by kernel_rfl) ?_
  refine qA_ev (st' := ⟨145, [(40, .ref 0 0 0 3 a1.length false), (39, E v12), (38, .ptr 0 0 (((w64 (((a1.length : Int)) - 2))).toNat * 3)), (37, I ((w64 (((a1.length : Int)) - 2)))), (36, I ((a1.length : Int))), (35, .ref 0 0 0 3 a1.length false), (34, .ref 0 0 0 3 v10.length false), (33, I ((w64 (((a1.length : Int)) - 2)))), (32, I ((a1.length : Int))), (31, .ref 0 0 0 3 a1.length false), (1, .ref 0 0 0 3 a1.length false), (7, I ((a1.length : Int)))], [some ⟨0, eL a1⟩]⟩) τ_ok [] [0] 1 (by exact (And.intro (.inl (eL_frz _)) trivial)) (by kernel_rfl) ?_
  refine qA_ev (st' := ⟨145, [(42, I ((w64 (((a1.length : Int)) - 1)))), (41, I ((a1.length : Int))), (40, .ref 0 0 0 3 a1.length false), (39, E v12), (38, .ptr 0 0 (((w64 (((a1.length : Int)) - 2))).toNat * 3)), (37, I ((w64 (((a1.length : Int)) - 2)))), (36, I ((a1.length : Int))), (35, .ref 0 0 0 3 a1.length false), (34, .ref 0 0 0 3 v10.length false), (33, I ((w64 (((a1.length : Int)) - 2)))), (32, I ((a1.length : Int))), (31, .ref 0 0 0 3 a1.length false), (1, .ref 0 0 0 3 a1.length false), (7, I ((a1.length : Int)))], [some ⟨0, eL a1⟩]⟩) τ_ok [] [] 2 (by exact trivial) (by kernel_rfl) ?_
  obtain ⟨v14, hv15, h⟩ := bindS h
  refine qA_E (dd := some 43) (x := .ptr 0 0 (((w64 (((a1.length : Int)) - 1))).toNat * 3)) ([some ⟨0, eL a1⟩]) (⟨145, [(43, .ptr 0 0 (((w64 (((a1.length : Int)) - 1))).toNat * 3)), (42, I ((w64 (((a1.length : Int)) - 1)))), (41, I ((a1.length : Int))), (40, .ref 0 0 0 3 a1.length false), (39, E v12), (38, .ptr 0 0 (((w64 (((a1.length : Int)) - 2))).toNat * 3)), (37, I ((w64 (((a1.length : Int)) - 2)))), (36, I ((a1.length : Int))), (35, .ref 0 0 0 3 a1.length false), (34, .ref 0 0 0 3 v10.length false), (33, I ((w64 (((a1.length : Int)) - 2)))), (32, I ((a1.length : Int))), (31, .ref 0 0 0 3 a1.length false), (1, .ref 0 0 0 3 a1.length false), (7, I ((a1.length : Int)))], [some ⟨0, eL a1⟩]⟩) (fun Γ' hΓ => CoreE.of_y (idrV_sound (n := a1.length) τ_ok (by kernel_rfl) hv15 rfl)) (by kernel_rfl) (by kernel_rfl) (by exact (And.intro (.inl (eL_frz _)) trivial)) (.inr (.inl rfl)) (by kernel_rfl) ?_
  refine qA_E (dd := some 44) (x := E v14) ([some ⟨0, eL a1⟩]) (⟨145, [(44, E v14), (43, .ptr 0 0 (((w64 (((a1.length : Int)) - 1))).toNat * 3)), (42, I ((w64 (((a1.length : Int)) - 1)))), (41, I ((a1.length : Int))), (40, .ref 0 0 0 3 a1.length false), (39, E v12), (38, .ptr 0 0 (((w64 (((a1.length : Int)) - 2))).toNat * 3)), (37, I ((w64 (((a1.length : Int)) - 2)))), (36, I ((a1.length : Int))), (35, .ref 0 0 0 3 a1.length false), (34, .ref 0 0 0 3 v10.length false), (33, I ((w64 (((a1.length : Int)) - 2)))), (32, I ((a1.length : Int))), (31, .ref 0 0 0 3 a1.length false), (1, .ref 0 0 0 3 a1.length false), (7, I ((a1.length : Int)))], [some ⟨0, eL a1⟩]⟩) (fun Γ' hΓ => CoreE.of_y (ldeV_sound (t := 117) (o' := 0) (r := E v14) τ_ok hv15 (by kernel_rfl) (by kernel_rfl))) (by kernel_rfl) (by kernel_rfl) (by exact (And.intro (.inl (eL_frz _)) trivial)) (.inr (.inr rfl)) (by kernel_rfl) ?_
  obtain ⟨v16, hv17, h⟩ := bindS h
  refine qA_E (dd := some 45) (x := E v16) ([none]) (⟨145, [(45, E v16), (44, E v14), (43, .ptr 0 0 (((w64 (((a1.length : Int)) - 1))).toNat * 3)), (42, I ((w64 (((a1.length : Int)) - 1)))), (41, I ((a1.length : Int))), (40, .ref 0 0 0 3 a1.length false), (39, E v12), (38, .ptr 0 0 (((w64 (((a1.length : Int)) - 2))).toNat * 3)), (37, I ((w64 (((a1.length : Int)) - 2)))), (36, I ((a1.length : Int))), (35, .ref 0 0 0 3 a1.length false), (34, .ref 0 0 0 3 v10.length false), (33, I ((w64 (((a1.length : Int)) - 2)))), (32, I ((a1.length : Int))), (31, .ref 0 0 0 3 a1.length false), (1, .ref 0 0 0 3 a1.length false), (7, I ((a1.length : Int)))], [some ⟨0, eL a1⟩]⟩) (fun Γ' hΓ => CoreE.of_g (callV_sound (τ := τ) (by kernel_rfl) rfl (ok_spec_l4Sum hv17) (FzTo.frz rfl))) (by kernel_rfl) (by kernel_rfl) (by exact trivial) (.inr (.inr rfl)) (by kernel_rfl) ?_
  refine qA_ev (st' := ⟨145, [(46, .arr 3 (([v16] : List T_impl_Value)).length (eL ([v16] : List T_impl_Value)) true), (45, E v16), (44, E v14), (43, .ptr 0 0 (((w64 (((a1.length : Int)) - 1))).toNat * 3)), (42, I ((w64 (((a1.length : Int)) - 1)))), (41, I ((a1.length : Int))), (40, .ref 0 0 0 3 a1.length false), (39, E v12), (38, .ptr 0 0 (((w64 (((a1.length : Int)) - 2))).toNat * 3)), (37, I ((w64 (((a1.length : Int)) - 2)))), (36, I ((a1.length : Int))), (35, .ref 0 0 0 3 a1.length false), (34, .ref 0 0 0 3 v10.length false), (33, I ((w64 (((a1.length : Int)) - 2)))), (32, I ((a1.length : Int))), (31, .ref 0 0 0 3 a1.length false), (1, .ref 0 0 0 3 a1.length false), (7, I ((a1.length : Int)))], [some ⟨0, eL a1⟩]⟩) τ_ok [] [] 1 (by exact trivial) (by kernel_rfl) ?_
  obtain ⟨v18, hv19, h⟩ := bindS h
  refine qA_E (dd := some 47) (x := .ref 0 1 0 3 v18.length false) ([some ⟨1, eL v18⟩]) (⟨145, [(47, .ref 0 1 0 3 v18.length false), (46, .arr 3 (([v16] : List T_impl_Value)).length (eL ([v16] : List T_impl_Value)) true), (45, E v16), (44, E v14), (43, .ptr 0 0 (((w64 (((a1.length : Int)) - 1))).toNat * 3)), (42, I ((w64 (((a1.length : Int)) - 1)))), (41, I ((a1.length : Int))), (40, .ref 0 0 0 3 a1.length false), (39, E v12), (38, .ptr 0 0 (((w64 (((a1.length : Int)) - 2))).toNat * 3)), (37, I ((w64 (((a1.length : Int)) - 2)))), (36, I ((a1.length : Int))), (35, .ref 0 0 0 3 a1.length false), (34, .ref 0 0 0 3 v10.length false), (33, I ((w64 (((a1.length : Int)) - 2)))), (32, I ((a1.length : Int))), (31, .ref 0 0 0 3 a1.length false), (1, .ref 0 0 0 3 a1.length false), (7, I ((a1.length : Int)))], [some ⟨1, eL v18⟩]⟩) (fun Γ' hΓ => app_E τ_ok 47 0 0 v10.length (fun b hb => absurd (hΓ b hb) (hX b)) hv19 (slI_le hv11) (by kernel_rfl)) (by kernel_rfl) (by kernel_rfl) (by exact (And.intro (.inl (eL_frz _)) trivial)) (.inr (.inl rfl)) (by kernel_rfl) ?_
  refine qA_ev (st' := ⟨145, [(6, .ref 0 1 0 3 v18.length false), (47, .ref 0 1 0 3 v18.length false), (46, .arr 3 (([v16] : List T_impl_Value)).length (eL ([v16] : List T_impl_Value)) true), (45, E v16), (44, E v14), (43, .ptr 0 0 (((w64 (((a1.length : Int)) - 1))).toNat * 3)), (42, I ((w64 (((a1.length : Int)) - 1)))), (41, I ((a1.length : Int))), (40, .ref 0 0 0 3 a1.length false), (39, E v12), (38, .ptr 0 0 (((w64 (((a1.length : Int)) - 2))).toNat * 3)), (37, I ((w64 (((a1.length : Int)) - 2)))), (36, I ((a1.length : Int))), (35, .ref 0 0 0 3 a1.length false), (34, .ref 0 0 0 3 v10.length false), (33, I ((w64 (((a1.length : Int)) - 2)))), (32, I ((a1.length : Int))), (31, .ref 0 0 0 3 a1.length false), (1, .ref 0 0 0 3 a1.length false), (7, I ((a1.length : Int)))], [some ⟨1, eL v18⟩]⟩) τ_ok [] [0] 1 (by exact (And.intro (.inl (eL_frz _)) trivial)) (by kernel_rfl) ?_
  refine qA_end ?_
  refine opsP_imp (Imp.to (st' := ⟨145, [(6, .ref 0 1 0 3 v18.length false)], [some ⟨1, eL v18⟩]⟩) [6] (by kernel_rfl)) ?_
  refine opsP_end rfl ?_
  have h := si h
  subst h
  exact pwp_ret (rt (.ref 0 1 0 3 v18.length false) (OutP.list (v := 1) (by kernel_rfl)))
  refine srve 145 [(1, .ref 0 0 0 3 a1.length false), (5, .fptr (Enc.cells a2) 0), (7, I ((a1.length : Int))), (11, I a2.fKind), (48, B ((a2.fKind == 4)))] [some ⟨0, eL a1⟩] ?_
  refine pc h (fun h => ?_) (fun h => ?_)
  refine pwp_seq ?_
  refine pwp_imp (Imp.to (st' := ⟨145, [(1, .ref 0 0 0 3 a1.length false), (5, .fptr (Enc.cells a2) 0), (7, I ((a1.length : Int)))], [some ⟨0, eL a1⟩]⟩) [1, 5, 7] (by kernel_rfl)) ?_
  refine pwp_any ([[0], [], [], [0], [], [], [0], [], [], [0], [0], [0], [], [], [0], [0], [], [], [], [0], [0]]) ([[], [], [], [], [], [], [], [], [], [], [], [], [], [], [], [], [], [], [], [0], []]) rfl (by kernel_rfl) ?_
  refine qA_ev (st' := ⟨145, [(50, .ref 0 0 0 3 a1.length false), (1, .ref 0 0 0 3 a1.length false), (5, .fptr (Enc.cells a2) 0), (7, I ((a1.length : Int)))], [some ⟨0, eL a1⟩]⟩) τ_ok [] [0] 1 (by exact (And.intro (.inl (eL_frz _)) trivial)) (by kernel_rfl) ?_
  refine qA_ev (st' := ⟨145, [(52, I ((w64 (((a1.length : Int)) - 2)))), (51, I ((a1.length : Int))), (50, .ref 0 0 0 3 a1.length false), (1, .ref 0 0 0 3 a1.length false), (5, .fptr (Enc.cells a2) 0), (7, I ((a1.length : Int)))], [some ⟨0, eL a1⟩]⟩) τ_ok [] [] 2 (by exact trivial) (by kernel_rfl) ?_
  obtain ⟨v21, hv22, h⟩ := bindS h
  refine qA_E (dd := some 53) (x := .ref 0 0 0 3 v21.length false) ([some ⟨0, eL a1⟩]) (⟨145, [(53, .ref 0 0 0 3 v21.length false), (52, I ((w64 (((a1.length : Int)) - 2)))), (51, I ((a1.length : Int))), (50, .ref 0 0 0 3 a1.length false), (1, .ref 0 0 0 3 a1.length false), (5, .fptr (Enc.cells a2) 0), (7, I ((a1.length : Int)))], [some ⟨0, eL a1⟩]⟩) (fun Γ' hΓ => CoreE.of_y (slrV_sound (n := a1.length) τ_ok (by kernel_rfl) rfl hv22)) (by kernel_rfl) (by kernel_rfl) (by exact (And.intro (.inl (eL_frz _)) trivial)) (.inr (.inl rfl)) (by kernel_rfl) ?_
  refine qA_ev (st' := ⟨145, [(55, I a2.fN), (54, .fptr (Enc.cells a2) 1), (53, .ref 0 0 0 3 v21.length false), (52, I ((w64 (((a1.length : Int)) - 2)))), (51, I ((a1.length : Int))), (50, .ref 0 0 0 3 a1.length false), (1, .ref 0 0 0 3 a1.length false), (5, .fptr (Enc.cells a2) 0), (7, I ((a1.length : Int)))], [some ⟨0, eL a1⟩]⟩) τ_ok [] [] 2 (by exact trivial) (by kernel_rfl) ?_
  refine qA_ev (st' := ⟨145, [(56, .ref 0 0 0 3 a1.length false), (55, I a2.fN), (54, .fptr (Enc.cells a2) 1), (53, .ref 0 0 0 3 v21.length false), (52, I ((w64 (((a1.length : Int)) - 2)))), (51, I ((a1.length : Int))), (50, .ref 0 0 0 3 a1.length false), (1, .ref 0 0 0 3 a1.length false), (5, .fptr (Enc.cells a2) 0), (7, I ((a1.length : Int)))], [some ⟨0, eL a1⟩]⟩) τ_ok [] [0] 1 (by exact (And.intro (.inl (eL_frz _)) trivial)) (by kernel_rfl) ?_
  refine qA_ev (st' := ⟨145, [(58, I ((w64 (((a1.length : Int)) - 2)))), (57, I ((a1.length : Int))), (56, .ref 0 0 0 3 a1.length false), (55, I a2.fN), (54, .fptr (Enc.cells a2) 1), (53, .ref 0 0 0 3 v21.length false), (52, I ((w64 (((a1.length : Int)) - 2)))), (51, I ((a1.length : Int))), (50, .ref 0 0 0 3 a1.length false), (1, .ref 0 0 0 3 a1.length false), (5, .fptr (Enc.cells a2) 0), (7, I ((a1.length : Int)))], [some ⟨0, eL a1⟩]⟩) τ_ok [] [] 2 (by exact trivial) (by kernel_rfl) ?_
  obtain ⟨v23, hv24, h⟩ := bindS h
  refine qA_E (dd := some 59) (x := .ptr 0 0 (((w64 (((a1.length : Int)) - 2))).toNat * 3)) ([some ⟨0, eL a1⟩]) (⟨145, [(59, .ptr 0 0 (((w64 (((a1.length : Int)) - 2))).toNat * 3)), (58, I ((w64 (((a1.length : Int)) - 2)))), (57, I ((a1.length : Int))), (56, .ref 0 0 0 3 a1.length false), (55, I a2.fN), (54, .fptr (Enc.cells a2) 1), (53, .ref 0 0 0 3 v21.length false), (52, I ((w64 (((a1.length : Int)) - 2)))), (51, I ((a1.length : Int))), (50, .ref 0 0 0 3 a1.length false), (1, .ref 0 0 0 3 a1.length false), (5, .fptr (Enc.cells a2) 0), (7, I ((a1.length : Int)))], [some ⟨0, eL a1⟩]⟩) (fun Γ' hΓ => CoreE.of_y (idrV_sound (n := a1.length) τ_ok (by kernel_rfl) hv24 rfl)) (by kernel_rfl) (by kernel_rfl) (by exact (And.intro (.inl (eL_frz _)) trivial)) (.inr (.inl rfl)) (by kernel_rfl) ?_
  refine qA_E (dd := some 60) (x := E v23) ([some ⟨0, eL a1⟩]) (⟨145, [(60, E v23), (59, .ptr 0 0 (((w64 (((a1.length : Int)) - 2))).toNat * 3)), (58, I ((w64 (((a1.length : Int)) - 2)))), (57, I ((a1.length : Int))), (56, .ref 0 0 0 3 a1.length false), (55, I a2.fN), (54, .fptr (Enc.cells a2) 1), (53, .ref 0 0 0 3 v21.length false), (52, I ((w64 (((a1.length : Int)) - 2)))), (51, I ((a1.length : Int))), (50, .ref 0 0 0 3 a1.length false), (1, .ref 0 0 0 3 a1.length false), (5, .fptr (Enc.cells a2) 0), (7, I ((a1.length : Int)))], [some ⟨0, eL a1⟩]⟩) (fun Γ' hΓ => CoreE.of_y (ldeV_sound (t := 117) (o' := 0) (r := E v23) τ_ok hv24 (by kernel_rfl) (by kernel_rfl))) (by kernel_rfl) (by kernel_rfl) (by exact (And.intro (.inl (eL_frz _)) trivial)) (.inr (.inr rfl)) (by kernel_rfl) ?_
  refine qA_ev (st' := ⟨145, [(61, .ref 0 0 0 3 a1.length false), (60, E v23), (59, .ptr 0 0 (((w64 (((a1.length : Int)) - 2))).toNat * 3)), (58, I ((w64 (((a1.length : Int)) - 2)))), (57, I ((a1.length : Int))), (56, .ref 0 0 0 3 a1.length false), (55, I a2.fN), (54, .fptr (Enc.cells a2) 1), (53, .ref 0 0 0 3 v21.length false), (52, I ((w64 (((a1.length : Int)) - 2)))), (51, I ((a1.length : Int))), (50, .ref 0 0 0 3 a1.length false), (1, .ref 0 0 0 3 a1.length false), (5, .fptr (Enc.cells a2) 0), (7, I ((a1.length : Int)))], [some ⟨0, eL a1⟩]⟩) τ_ok [] [0] 1 (by exact (And.intro (.inl (eL_frz _)) trivial)) (by kernel_rfl) ?_
  refine qA_ev (st' := ⟨145, [(63, I ((w64 (((a1.length : Int)) - 1)))), (62, I ((a1.length : Int))), (61, .ref 0 0 0 3 a1.length false), (60, E v23), (59, .ptr 0 0 (((w64 (((a1.length : Int)) - 2))).toNat * 3)), (58, I ((w64 (((a1.length : Int)) - 2)))), (57, I ((a1.length : Int))), (56, .ref 0 0 0 3 a1.length false), (55, I a2.fN), (54, .fptr (Enc.cells a2) 1), (53, .ref 0 0 0 3 v21.length false), (52, I ((w64 (((a1.length : Int)) - 2)))), (51, I ((a1.length : Int))), (50, .ref 0 0 0 3 a1.length false), (1, .ref 0 0 0 3 a1.length false), (5, .fptr (Enc.cells a2) 0), (7, I ((a1.length : Int)))], [some ⟨0, eL a1⟩]⟩) τ_ok [] [] 2 (by exact trivial) (by kernel_rfl) ?_
  obtain ⟨v25, hv26, h⟩ := bindS h
  refine qA_E (dd := some 64) (x := .ptr 0 0 (((w64 (((a1.length : Int)) - 1))).toNat * 3)) ([some ⟨0, eL a1⟩]) (⟨145, [(64, .ptr 0 0 (((w64 (((a1.length : Int)) - 1))).toNat * 3)), (63, I ((w64 (((a1.length : Int)) - 1)))), (62, I ((a1.length : Int))), (61, .ref 0 0 0 3 a1.length false), (60, E v23), (59, .ptr 0 0 (((w64 (((a1.length : Int)) - 2))).toNat * 3)), (58, I ((w64 (((a1.length : Int)) - 2)))), (57, I ((a1.length : Int))), (56, .ref 0 0 0 3 a1.length false), (55, I a2.fN), (54, .fptr (Enc.cells a2) 1), (53, .ref 0 0 0 3 v21.length false), (52, I ((w64 (((a1.length : Int)) - 2)))), (51, I ((a1.length : Int))), (50, .ref 0 0 0 3 a1.length false), (1, .ref 0 0 0 3 a1.length false), (5, .fptr (Enc.cells a2) 0), (7, I ((a1.length : Int)))], [some ⟨0, eL a1⟩]⟩) (fun Γ' hΓ => CoreE.of_y (idrV_sound (n := a1.length) τ_ok (by kernel_rfl) hv26 rfl)) (by kernel_rfl) (by kernel_rfl) (by exact (And.intro (.inl (eL_frz _)) trivial)) (.inr (.inl rfl)) (by kernel_rfl) ?_
  refine qA_E (dd := some 65) (x := E v25) ([some ⟨0, eL a1⟩]) (⟨145, [(65, E v25), (64, .ptr 0 0 (((w64 (((a1.length : Int)) - 1))).toNat * 3)), (63, I ((w64 (((a1.length : Int)) - 1)))), (62, I ((a1.length : Int))), (61, .ref 0 0 0 3 a1.length false), (60, E v23), (59, .ptr 0 0 (((w64 (((a1.length : Int)) - 2))).toNat * 3)), (58, I ((w64 (((a1.length : Int)) - 2)))), (57, I ((a1.length : Int))), (56, .ref 0 0 0 3 a1.length false), (55, I a2.fN), (54, .fptr (Enc.cells a2) 1), (53, .ref 0 0 0 3 v21.length false), (52, I ((w64 (((a1.length : Int)) - 2)))), (51, I ((a1.length : Int))), (50, .ref 0 0 0 3 a1.length false), (1, .ref 0 0 0 3 a1.length false), (5, .fptr (Enc.cells a2) 0), (7, I ((a1.length : Int)))], [some ⟨0, eL a1⟩]⟩) (fun Γ' hΓ => CoreE.of_y (ldeV_sound (t := 117) (o' := 0) (r := E v25) τ_ok hv26 (by kernel_rfl) (by kernel_rfl))) (by kernel_rfl) (by kernel_rfl) (by exact (And.intro (.inl (eL_frz _)) trivial)) (.inr (.inr rfl)) (by kernel_rfl) ?_
  obtain ⟨v27, hv28, h⟩ := bindS h
  refine qA_E (dd := some 66) (x := I v27) ([none]) (⟨145, [(66, I v27), (65, E v25), (64, .ptr 0 0 (((w64 (((a1.length : Int)) - 1))).toNat * 3)), (63, I ((w64 (((a1.length : Int)) - 1)))), (62, I ((a1.length : Int))), (61, .ref 0 0 0 3 a1.length false), (60, E v23), (59, .ptr 0 0 (((w64 (((a1.length : Int)) - 2))).toNat * 3)), (58, I ((w64 (((a1.length : Int)) - 2)))), (57, I ((a1.length : Int))), (56, .ref 0 0 0 3 a1.length false), (55, I a2.fN), (54, .fptr (Enc.cells a2) 1), (53, .ref 0 0 0 3 v21.length false), (52, I ((w64 (((a1.length : Int)) - 2)))), (51, I ((a1.length : Int))), (50, .ref 0 0 0 3 a1.length false), (1, .ref 0 0 0 3 a1.length false), (5, .fptr (Enc.cells a2) 0), (7, I ((a1.length : Int)))], [some ⟨0, eL a1⟩]⟩) (fun Γ' hΓ => CoreE.of_g (callV_sound (τ := τ) (by kernel_rfl) rfl (ok_spec_Compare hv28) (FzTo.frz rfl))) (by kernel_rfl) (by kernel_rfl) (by exact trivial) (.inr (.inr rfl)) (by kernel_rfl) ?_
  obtain ⟨v29, hv30, h⟩ := bindS h
  refine qA_E (dd := some 67) (x := E v29) ([none]) (⟨145, [(67, E v29), (66, I v27), (65, E v25), (64, .ptr 0 0 (((w64 (((a1.length : Int)) - 1))).toNat * 3)), (63, I ((w64 (((a1.length : Int)) - 1)))), (62, I ((a1.length : Int))), (61, .ref 0 0 0 3 a1.length false), (60, E v23), (59, .ptr 0 0 (((w64 (((a1.length : Int)) - 2))).toNat * 3)), (58, I ((w64 (((a1.length : Int)) - 2)))), (57, I ((a1.length : Int))), (56, .ref 0 0 0 3 a1.length false), (55, I a2.fN), (54, .fptr (Enc.cells a2) 1), (53, .ref 0 0 0 3 v21.length false), (52, I ((w64 (((a1.length : Int)) - 2)))), (51, I ((a1.length : Int))), (50, .ref 0 0 0 3 a1.length false), (1, .ref 0 0 0 3 a1.length false), (5, .fptr (Enc.cells a2) 0), (7, I ((a1.length : Int)))], [some ⟨0, eL a1⟩]⟩) (fun Γ' hΓ => CoreE.of_g (callV_sound (τ := τ) (by kernel_rfl) rfl (ok_spec_ValueOf hv30) (FzTo.frz rfl))) (by kernel_rfl) (by kernel_rfl) (by exact trivial) (.inr (.inr rfl)) (by kernel_rfl) ?_
  refine qA_ev (st' := ⟨145, [(68, .arr 3 (([v29] : List T_impl_Value)).length (eL ([v29] : List T_impl_Value)) true), (67, E v29), (66, I v27), (65, E v25), (64, .ptr 0 0 (((w64 (((a1.length : Int)) - 1))).toNat * 3)), (63, I ((w64 (((a1.length : Int)) - 1)))), (62, I ((a1.length : Int))), (61, .ref 0 0 0 3 a1.length false), (60, E v23), (59, .ptr 0 0 (((w64 (((a1.length : Int)) - 2))).toNat * 3)), (58, I ((w64 (((a1.length : Int)) - 2)))), (57, I ((a1.length : Int))), (56, .ref 0 0 0 3 a1.length false), (55, I a2.fN), (54, .fptr (Enc.cells a2) 1), (53, .ref 0 0 0 3 v21.length false), (52, I ((w64 (((a1.length : Int)) - 2)))), (51, I ((a1.length : Int))), (50, .ref 0 0 0 3 a1.length false), (1, .ref 0 0 0 3 a1.length false), (5, .fptr (Enc.cells a2) 0), (7, I ((a1.length : Int)))], [some ⟨0, eL a1⟩]⟩) τ_ok [] [] 1 (by exact trivial) (by kernel_rfl) ?_
  obtain ⟨v31, hv32, h⟩ := bindS h
  refine qA_E (dd := some 69) (x := .ref 0 1 0 3 v31.length false) ([some ⟨1, eL v31⟩]) (⟨145, [(69, .ref 0 1 0 3 v31.length false), (68, .arr 3 (([v29] : List T_impl_Value)).length (eL ([v29] : List T_impl_Value)) true), (67, E v29), (66, I v27), (65, E v25), (64, .ptr 0 0 (((w64 (((a1.length : Int)) - 1))).toNat * 3)), (63, I ((w64 (((a1.length : Int)) - 1)))), (62, I ((a1.length : Int))), (61, .ref 0 0 0 3 a1.length false), (60, E v23), (59, .ptr 0 0 (((w64 (((a1.length : Int)) - 2))).toNat * 3)), (58, I ((w64 (((a1.length : Int)) - 2)))), (57, I ((a1.length : Int))), (56, .ref 0 0 0 3 a1.length false), (55, I a2.fN), (54, .fptr (Enc.cells a2) 1), (53, .ref 0 0 0 3 v21.length false), (52, I ((w64 (((a1.length : Int)) - 2)))), (51, I ((a1.length : Int))), (50, .ref 0 0 0 3 a1.length false), (1, .ref 0 0 0 3 a1.length false), (5, .fptr (Enc.cells a2) 0), (7, I ((a1.length : Int)))], [some ⟨1, eL v31⟩]⟩) (fun Γ' hΓ => app_E τ_ok 69 0 0 v21.length (fun b hb => absurd (hΓ b hb) (hX b)) hv32 (slI_le hv22) (by kernel_rfl)) (by kernel_rfl) (by kernel_rfl) (by exact (And.intro (.inl (eL_frz _)) trivial)) (.inr (.inl rfl)) (by kernel_rfl) ?_
  refine qA_ev (st' := ⟨145, [(6, .ref 0 1 0 3 v31.length false), (69, .ref 0 1 0 3 v31.length false), (68, .arr 3 (([v29] : List T_impl_Value)).length (eL ([v29] : List T_impl_Value)) true), (67, E v29), (66, I v27), (65, E v25), (64, .ptr 0 0 (((w64 (((a1.length : Int)) - 1))).toNat * 3)), (63, I ((w64 (((a1.length : Int)) - 1)))), (62, I ((a1.length : Int))), (61, .ref 0 0 0 3 a1.length false), (60, E v23), (59, .ptr 0 0 (((w64 (((a1.length : Int)) - 2))).toNat * 3)), (58, I ((w64 (((a1.length : Int)) - 2)))), (57, I ((a1.length : Int))), (56, .ref 0 0 0 3 a1.length false), (55, I a2.fN), (54, .fptr (Enc.cells a2) 1), (53, .ref 0 0 0 3 v21.length false), (52, I ((w64 (((a1.length : Int)) - 2)))), (51, I ((a1.length : Int))), (50, .ref 0 0 0 3 a1.length false), (1, .ref 0 0 0 3 a1.length false), (5, .fptr (Enc.cells a2) 0), (7, I ((a1.length : Int)))], [some ⟨1, eL v31⟩]⟩) τ_ok [] [0] 1 (by exact (And.intro (.inl (eL_frz _)) trivial)) (by kernel_rfl) ?_
  refine qA_end ?_
  refine opsP_imp (Imp.to (st' := ⟨145, [(6, .ref 0 1 0 3 v31.length false)], [some ⟨1, eL v31⟩]⟩) [6] (by kernel_rfl)) ?_
  refine opsP_end rfl ?_
  have h := si h
  subst h
  exact pwp_ret (rt (.ref 0 1 0 3 v31.length false) (OutP.list (v := 1) (by kernel_rfl)))
  refine srve 145 [(1, .ref 0 0 0 3 a1.length false), (7, I ((a1.length : Int))), (11, I a2.fKind), (70, B ((a2.fKind == 5)))] [some ⟨0, eL a1⟩] ?_
  refine pc h (fun h => ?_) (fun h => ?_)
  refine pwp_seq ?_
  refine pwp_imp (Imp.to (st' := ⟨145, [(1, .ref 0 0 0 3 a1.length false), (7, I ((a1.length : Int)))], [some ⟨0, eL a1⟩]⟩) [1, 7] (by kernel_rfl)) ?_
  refine pwp_any ([[0], [], [], [0], [0], [], [], [0], [0], [], [0], [], [], [0], [0], [], [], [], [], [0], [0]]) ([[], [], [], [], [], [], [], [], [], [], [], [], [], [], [], [], [], [], [], [0], []]) rfl (by kernel_rfl) ?_
  refine qA_ev (st' := ⟨145, [(72, .ref 0 0 0 3 a1.length false), (1, .ref 0 0 0 3 a1.length false), (7, I ((a1.length : Int)))], [some ⟨0, eL a1⟩]⟩) τ_ok [] [0] 1 (by exact (And.intro (.inl (eL_frz _)) trivial)) (by kernel_rfl) ?_
  refine qA_ev (st' := ⟨145, [(74, I ((w64 (((a1.length : Int)) - 2)))), (73, I ((a1.length : Int))), (72, .ref 0 0 0 3 a1.length false), (1, .ref 0 0 0 3 a1.length false), (7, I ((a1.length : Int)))], [some ⟨0, eL a1⟩]⟩) τ_ok [] [] 2 (by exact trivial) (by kernel_rfl) ?_
  obtain ⟨v34, hv35, h⟩ := bindS h
  refine qA_E (dd := some 75) (x := .ref 0 0 0 3 v34.length false) ([some ⟨0, eL a1⟩]) (⟨145, [(75, .ref 0 0 0 3 v34.length false), (74, I ((w64 (((a1.length : Int)) - 2)))), (73, I ((a1.length : Int))), (72, .ref 0 0 0 3 a1.length false), (1, .ref 0 0 0 3 a1.length false), (7, I ((a1.length : Int)))], [some ⟨0, eL a1⟩]⟩) (fun Γ' hΓ => CoreE.of_y (slrV_sound (n := a1.length) τ_ok (by kernel_rfl) rfl hv35)) (by kernel_rfl) (by kernel_rfl) (by exact (And.intro (.inl (eL_frz _)) trivial)) (.inr (.inl rfl)) (by kernel_rfl) ?_
  refine qA_ev (st' := ⟨145, [(76, .ref 0 0 0 3 a1.length false), (75, .ref 0 0 0 3 v34.length false), (74, I ((w64 (((a1.length : Int)) - 2)))), (73, I ((a1.length : Int))), (72, .ref 0 0 0 3 a1.length false), (1, .ref 0 0 0 3 a1.length false), (7, I ((a1.length : Int)))], [some ⟨0, eL a1⟩]⟩) τ_ok [] [0] 1 (by exact (And.intro (.inl (eL_frz _)) trivial)) (by kernel_rfl) ?_
  refine qA_ev (st' := ⟨145, [(78, I ((w64 (((a1.length : Int)) - 2)))), (77, I ((a1.length : Int))), (76, .ref 0 0 0 3 a1.length false), (75, .ref 0 0 0 3 v34.length false), (74, I ((w64 (((a1.length : Int)) - 2)))), (73, I ((a1.length : Int))), (72, .ref 0 0 0 3 a1.length false), (1, .ref 0 0 0 3 a1.length false), (7, I ((a1.length : Int)))], [some ⟨0, eL a1⟩]⟩) τ_ok [] [] 2 (by exact trivial) (by kernel_rfl) ?_
  obtain ⟨v36, hv37, h⟩ := bindS h
  refine qA_E (dd := some 79) (x := .ptr 0 0 (((w64 (((a1.length : Int)) - 2))).toNat * 3)) ([some ⟨0, eL a1⟩]) (⟨145, [(79, .ptr 0 0 (((w64 (((a1.length : Int)) - 2))).toNat * 3)), (78, I ((w64 (((a1.length : Int)) - 2)))), (77, I ((a1.length : Int))), (76, .ref 0 0 0 3 a1.length false), (75, .ref 0 0 0 3 v34.length false), (74, I ((w64 (((a1.length : Int)) - 2)))), (73, I ((a1.length : Int))), (72, .ref 0 0 0 3 a1.length false), (1, .ref 0 0 0 3 a1.length false), (7, I ((a1.length : Int)))], [some ⟨0, eL a1⟩]⟩) (fun Γ' hΓ => CoreE.of_y (idrV_sound (n := a1.length) τ_ok (by kernel_rfl) hv37 rfl)) (by kernel_rfl) (by kernel_rfl) (by exact (And.intro (.inl (eL_frz _)) trivial)) (.inr (.inl rfl)) (by kernel_rfl) ?_
  refine qA_E (dd := some 80) (x := E v36) ([some ⟨0, eL a1⟩]) (⟨145, [(80, E v36), (79, .ptr 0 0 (((w64 (((a1.length : Int)) - 2))).toNat * 3)), (78, I ((w64 (((a1.length : Int)) - 2)))), (77, I ((a1.length : Int))), (76, .ref 0 0 0 3 a1.length false), (75, .ref 0 0 0 3 v34.length false), (74, I ((w64 (((a1.length : Int)) - 2)))), (73, I ((a1.length : Int))), (72, .ref 0 0 0 3 a1.length false), (1, .ref 0 0 0 3 a1.length false), (7, I ((a1.length : Int)))], [some ⟨0, eL a1⟩]⟩) (fun Γ' hΓ => CoreE.of_y (ldeV_sound (t := 117) (o' := 0) (r := E v36) τ_ok hv37 (by kernel_rfl) (by kernel_rfl))) (by kernel_rfl) (by kernel_rfl) (by exact (And.intro (.inl (eL_frz _)) trivial)) (.inr (.inr rfl)) (by kernel_rfl) ?_
  obtain ⟨v38, hv39, h⟩ := bindS h
  refine qA_E (dd := some 81) (x := I v38) ([none]) (⟨145, [(81, I v38), (80, E v36), (79, .ptr 0 0 (((w64 (((a1.length : Int)) - 2))).toNat * 3)), (78, I ((w64 (((a1.length : Int)) - 2)))), (77, I ((a1.length : Int))), (76, .ref 0 0 0 3 a1.length false), (75, .ref 0 0 0 3 v34.length false), (74, I ((w64 (((a1.length : Int)) - 2)))), (73, I ((a1.length : Int))), (72, .ref 0 0 0 3 a1.length false), (1, .ref 0 0 0 3 a1.length false), (7, I ((a1.length : Int)))], [some ⟨0, eL a1⟩]⟩) (fun Γ' hΓ => CoreE.of_g (callV_sound (τ := τ) (by kernel_rfl) rfl (ok_spec_TruthOf hv39) (FzTo.frz rfl))) (by kernel_rfl) (by kernel_rfl) (by exact trivial) (.inr (.inr rfl)) (by kernel_rfl) ?_
  refine qA_ev (st' := ⟨145, [(82, .ref 0 0 0 3 a1.length false), (81, I v38), (80, E v36), (79, .ptr 0 0 (((w64 (((a1.length : Int)) - 2))).toNat * 3)), (78, I ((w64 (((a1.length : Int)) - 2)))), (77, I ((a1.length : Int))), (76, .ref 0 0 0 3 a1.length false), (75, .ref 0 0 0 3 v34.length false), (74, I ((w64 (((a1.length : Int)) - 2)))), (73, I ((a1.length : Int))), (72, .ref 0 0 0 3 a1.length false), (1, .ref 0 0 0 3 a1.length false), (7, I ((a1.length : Int)))], [some ⟨0, eL a1⟩]⟩) τ_ok [] [0] 1 (by exact (And.intro (.inl (eL_frz _)) trivial)) (by kernel_rfl) ?_
  refine qA_ev (st' := ⟨145, [(84, I ((w64 (((a1.length : Int)) - 1)))), (83, I ((a1.length : Int))), (82, .ref 0 0 0 3 a1.length false), (81, I v38), (80, E v36), (79, .ptr 0 0 (((w64 (((a1.length : Int)) - 2))).toNat * 3)), (78, I ((w64 (((a1.length : Int)) - 2)))), (77, I ((a1.length : Int))), (76, .ref 0 0 0 3 a1.length false), (75, .ref 0 0 0 3 v34.length false), (74, I ((w64 (((a1.length : Int)) - 2)))), (73, I ((a1.length : Int))), (72, .ref 0 0 0 3 a1.length false), (1, .ref 0 0 0 3 a1.length false), (7, I ((a1.length : Int)))], [some ⟨0, eL a1⟩]⟩) τ_ok [] [] 2 (by exact trivial) (by kernel_rfl) ?_
  obtain ⟨v40, hv41, h⟩ := bindS h
  refine qA_E (dd := some 85) (x := .ptr 0 0 (((w64 (((a1.length : Int)) - 1))).toNat * 3)) ([some ⟨0, eL a1⟩]) (⟨145, [(85, .ptr 0 0 (((w64 (((a1.length : Int)) - 1))).toNat * 3)), (84, I ((w64 (((a1.length : Int)) - 1)))), (83, I ((a1.length : Int))), (82, .ref 0 0 0 3 a1.length false), (81, I v38), (80, E v36), (79, .ptr 0 0 (((w64 (((a1.length : Int)) - 2))).toNat * 3)), (78, I ((w64 (((a1.length : Int)) - 2)))), (77, I ((a1.length : Int))), (76, .ref 0 0 0 3 a1.length false), (75, .ref 0 0 0 3 v34.length false), (74, I ((w64 (((a1.length : Int)) - 2)))), (73, I ((a1.length : Int))), (72, .ref 0 0 0 3 a1.length false), (1, .ref 0 0 0 3 a1.length false), (7, I ((a1.length : Int)))], [some ⟨0, eL a1⟩]⟩) (fun Γ' hΓ => CoreE.of_y (idrV_sound (n := a1.length) τ_ok (by kernel_rfl) hv41 rfl)) (by kernel_rfl) (by kernel_rfl) (by exact (And.intro (.inl (eL_frz _)) trivial)) (.inr (.inl rfl)) (by kernel_rfl) ?_
  refine qA_E (dd := some 86) (x := E v40) ([some ⟨0, eL a1⟩]) (⟨145, [(86, E v40), (85, .ptr 0 0 (((w64 (((a1.length : Int)) - 1))).toNat * 3)), (84, I ((w64 (((a1.length : Int)) - 1)))), (83, I ((a1.length : Int))), (82, .ref 0 0 0 3 a1.length false), (81, I v38), (80, E v36), (79, .ptr 0 0 (((w64 (((a1.length : Int)) - 2))).toNat * 3)), (78, I ((w64 (((a1.length : Int)) - 2)))), (77, I ((a1.length : Int))), (76, .ref 0 0 0 3 a1.length false), (75, .ref 0 0 0 3 v34.length false), (74, I ((w64 (((a1.length : Int)) - 2)))), (73, I ((a1.length : Int))), (72, .ref 0 0 0 3 a1.length false), (1, .ref 0 0 0 3 a1.length false), (7, I ((a1.length : Int)))], [some ⟨0, eL a1⟩]⟩) (fun Γ' hΓ => CoreE.of_y (ldeV_sound (t := 117) (o' := 0) (r := E v40) τ_ok hv41 (by kernel_rfl) (by kernel_rfl))) (by kernel_rfl) (by kernel_rfl) (by exact (And.intro (.inl (eL_frz _)) trivial)) (.inr (.inr rfl)) (by kernel_rfl) ?_
  obtain ⟨v42, hv43, h⟩ := bindS h
  refine qA_E (dd := some 87) (x := I v42) ([none]) (⟨145, [(87, I v42), (86, E v40), (85, .ptr 0 0 (((w64 (((a1.length : Int)) - 1))).toNat * 3)), (84, I ((w64 (((a1.length : Int)) - 1)))), (83, I ((a1.length : Int))), (82, .ref 0 0 0 3 a1.length false), (81, I v38), (80, E v36), (79, .ptr 0 0 (((w64 (((a1.length : Int)) - 2))).toNat * 3)), (78, I ((w64 (((a1.length : Int)) - 2)))), (77, I ((a1.length : Int))), (76, .ref 0 0 0 3 a1.length false), (75, .ref 0 0 0 3 v34.length false), (74, I ((w64 (((a1.length : Int)) - 2)))), (73, I ((a1.length : Int))), (72, .ref 0 0 0 3 a1.length false), (1, .ref 0 0 0 3 a1.length false), (7, I ((a1.length : Int)))], [some ⟨0, eL a1⟩]⟩) (fun Γ' hΓ => CoreE.of_g (callV_sound (τ := τ) (by kernel_rfl) rfl (ok_spec_TruthOf hv43) (FzTo.frz rfl))) (by kernel_rfl) (by kernel_rfl) (by exact trivial) (.inr (.inr rfl)) (by kernel_rfl) ?_
  obtain ⟨v44, hv45, h⟩ := bindS h
  refine qA_E (dd := some 88) (x := I v44) ([none]) (⟨145, [(88, I v44), (87, I v42), (86, E v40), (85, .ptr 0 0 (((w64 (((a1.length : Int)) - 1))).toNat * 3)), (84, I ((w64 (((a1.length : Int)) - 1)))), (83, I ((a1.length : Int))), (82, .ref 0 0 0 3 a1.length false), (81, I v38), (80, E v36), (79, .ptr 0 0 (((w64 (((a1.length : Int)) - 2))).toNat * 3)), (78, I ((w64 (((a1.length : Int)) - 2)))), (77, I ((a1.length : Int))), (76, .ref 0 0 0 3 a1.length false), (75, .ref 0 0 0 3 v34.length false), (74, I ((w64 (((a1.length : Int)) - 2)))), (73, I ((a1.length : Int))), (72, .ref 0 0 0 3 a1.length false), (1, .ref 0 0 0 3 a1.length false), (7, I ((a1.length : Int)))], [some ⟨0, eL a1⟩]⟩) (fun Γ' hΓ => CoreE.of_g (callV_sound (τ := τ) (by kernel_rfl) rfl (ok_spec_AndOf hv45) (FzTo.frz rfl))) (by kernel_rfl) (by kernel_rfl) (by exact trivial) (.inr (.inr rfl)) (by kernel_rfl) ?_
  obtain ⟨v46, hv47, h⟩ := bindS h
  refine qA_E (dd := some 89) (x := E v46) ([none]) (⟨145, [(89, E v46), (88, I v44), (87, I v42), (86, E v40), (85, .ptr 0 0 (((w64 (((a1.length : Int)) - 1))).toNat * 3)), (84, I ((w64 (((a1.length : Int)) - 1)))), (83, I ((a1.length : Int))), (82, .ref 0 0 0 3 a1.length false), (81, I v38), (80, E v36), (79, .ptr 0 0 (((w64 (((a1.length : Int)) - 2))).toNat * 3)), (78, I ((w64 (((a1.length : Int)) - 2)))), (77, I ((a1.length : Int))), (76, .ref 0 0 0 3 a1.length false), (75, .ref 0 0 0 3 v34.length false), (74, I ((w64 (((a1.length : Int)) - 2)))), (73, I ((a1.length : Int))), (72, .ref 0 0 0 3 a1.length false), (1, .ref 0 0 0 3 a1.length false), (7, I ((a1.length : Int)))], [some ⟨0, eL a1⟩]⟩) (fun Γ' hΓ => CoreE.of_g (callV_sound (τ := τ) (by kernel_rfl) rfl (ok_spec_ValueOf hv47) (FzTo.frz rfl))) (by kernel_rfl) (by kernel_rfl) (by exact trivial) (.inr (.inr rfl)) (by kernel_rfl) ?_
  refine qA_ev (st' := ⟨145, [(90, .arr 3 (([v46] : List T_impl_Value)).length (eL ([v46] : List T_impl_Value)) true), (89, E v46), (88, I v44), (87, I v42), (86, E v40), (85, .ptr 0 0 (((w64 (((a1.length : Int)) - 1))).toNat * 3)), (84, I ((w64 (((a1.length : Int)) - 1)))), (83, I ((a1.length : Int))), (82, .ref 0 0 0 3 a1.length false), (81, I v38), (80, E v36), (79, .ptr 0 0 (((w64 (((a1.length : Int)) - 2))).toNat * 3)), (78, I ((w64 (((a1.length : Int)) - 2)))), (77, I ((a1.length : Int))), (76, .ref 0 0 0 3 a1.length false), (75, .ref 0 0 0 3 v34.length false), (74, I ((w64 (((a1.length : Int)) - 2)))), (73, I ((a1.length : Int))), (72, .ref 0 0 0 3 a1.length false), (1, .ref 0 0 0 3 a1.length false), (7, I ((a1.length : Int)))], [some ⟨0, eL a1⟩]⟩) τ_ok [] [] 1 (by exact trivial) (by kernel_rfl) ?_
  obtain ⟨v48, hv49, h⟩ := bindS h
  refine qA_E (dd := some 91) (x := .ref 0 1 0 3 v48.length false) ([some ⟨1, eL v48⟩]) (⟨145, [(91, .ref 0 1 0 3 v48.length false), (90, .arr 3 (([v46] : List T_impl_Value)).length (eL ([v46] : List T_impl_Value)) true), (89, E v46), (88, I v44), (87, I v42), (86, E v40), (85, .ptr 0 0 (((w64 (((a1.length : Int)) - 1))).toNat * 3)), (84, I ((w64 (((a1.length : Int)) - 1)))), (83, I ((a1.length : Int))), (82, .ref 0 0 0 3 a1.length false), (81, I v38), (80, E v36), (79, .ptr 0 0 (((w64 (((a1.length : Int)) - 2))).toNat * 3)), (78, I ((w64 (((a1.length : Int)) - 2)))), (77, I ((a1.length : Int))), (76, .ref 0 0 0 3 a1.length false), (75, .ref 0 0 0 3 v34.length false), (74, I ((w64 (((a1.length : Int)) - 2)))), (73, I ((a1.length : Int))), (72, .ref 0 0 0 3 a1.length false), (1, .ref 0 0 0 3 a1.length false), (7, I ((a1.length : Int)))], [some ⟨1, eL v48⟩]⟩) (fun Γ' hΓ => app_E τ_ok 91 0 0 v34.length (fun b hb => absurd (hΓ b hb) (hX b)) hv49 (slI_le hv35) (by kernel_rfl)) (by kernel_rfl) (by kernel_rfl) (by exact (And.intro (.inl (eL_frz _)) trivial)) (.inr (.inl rfl)) (by kernel_rfl) ?_
  refine qA_ev (st' := ⟨145, [(6, .ref 0 1 0 3 v48.length false), (91, .ref 0 1 0 3 v48.length false), (90, .arr 3 (([v46] : List T_impl_Value)).length (eL ([v46] : List T_impl_Value)) true), (89, E v46), (88, I v44), (87, I v42), (86, E v40), (85, .ptr 0 0 (((w64 (((a1.length : Int)) - 1))).toNat * 3)), (84, I ((w64 (((a1.length : Int)) - 1)))), (83, I ((a1.length : Int))), (82, .ref 0 0 0 3 a1.length false), (81, I v38), (80, E v36), (79, .ptr 0 0 (((w64 (((a1.length : Int)) - 2))).toNat * 3)), (78, I ((w64 (((a1.length : Int)) - 2)))), (77, I ((a1.length : Int))), (76, .ref 0 0 0 3 a1.length false), (75, .ref 0 0 0 3 v34.length false), (74, I ((w64 (((a1.length : Int)) - 2)))), (73, I ((a1.length : Int))), (72, .ref 0 0 0 3 a1.length false), (1, .ref 0 0 0 3 a1.length false), (7, I ((a1.length : Int)))], [some ⟨1, eL v48⟩]⟩) τ_ok [] [0] 1 (by exact (And.intro (.inl (eL_frz _)) trivial)) (by kernel_rfl) ?_
  refine qA_end ?_
  refine opsP_imp (Imp.to (st' := ⟨145, [(6, .ref 0 1 0 3 v48.length false)], [some ⟨1, eL v48⟩]⟩) [6] (by kernel_rfl)) ?_
  refine opsP_end rfl ?_
  have h := si h
  subst h
  exact pwp_ret (rt (.ref 0 1 0 3 v48.length false) (OutP.list (v := 1) (by kernel_rfl)))
  refine srve 145 [(1, .ref 0 0 0 3 a1.length false), (7, I ((a1.length : Int))), (11, I a2.fKind), (92, B ((a2.fKind == 6)))] [some ⟨0, eL a1⟩] ?_
  refine pc h (fun h => ?_) (fun h => ?_)
  refine pwp_seq ?_
  refine pwp_imp (Imp.to (st' := ⟨145, [(1, .ref 0 0 0 3 a1.length false), (7, I ((a1.length : Int)))], [some ⟨0, eL a1⟩]⟩) [1, 7] (by kernel_rfl)) ?_
  refine pwp_any ([[0], [], [], [0], [0], [], [], [0], [0], [], [0], [], [], [0], [0], [], [], [], [], [0], [0]]) ([[], [], [], [], [], [], [], [], [], [], [], [], [], [], [], [], [], [], [], [0], []]) rfl (by kernel_rfl) ?_
  refine qA_ev (st' := ⟨145, [(94, .ref 0 0 0 3 a1.length false), (1, .ref 0 0 0 3 a1.length false), (7, I ((a1.length : Int)))], [some ⟨0, eL a1⟩]⟩) τ_ok [] [0] 1 (by exact (And.intro (.inl (eL_frz _)) trivial)) (by kernel_rfl) ?_
  refine qA_ev (st' := ⟨145, [(96, I ((w64 (((a1.length : Int)) - 2)))), (95, I ((a1.length : Int))), (94, .ref 0 0 0 3 a1.length false), (1, .ref 0 0 0 3 a1.length false), (7, I ((a1.length : Int)))], [some ⟨0, eL a1⟩]⟩) τ_ok [] [] 2 (by exact trivial) (by kernel_rfl) ?_
  obtain ⟨v51, hv52, h⟩ := bindS h
  refine qA_E (dd := some 97) (x := .ref 0 0 0 3 v51.length false) ([some ⟨0, eL a1⟩]) (⟨145, [(97, .ref 0 0 0 3 v51.length false), (96, I ((w64 (((a1.length : Int)) - 2)))), (95, I ((a1.length : Int))), (94, .ref 0 0 0 3 a1.length false), (1, .ref 0 0 0 3 a1.length false), (7, I ((a1.length : Int)))], [some ⟨0, eL a1⟩]⟩) (fun Γ' hΓ => CoreE.of_y (slrV_sound (n := a1.length) τ_ok (by kernel_rfl) rfl hv52)) (by kernel_rfl) (by kernel_rfl) (by exact (And.intro (.inl (eL_frz _)) trivial)) (.inr (.inl rfl)) (by kernel_rfl) ?_
  refine qA_ev (st' := ⟨145, [(98, .ref 0 0 0 3 a1.length false), (97, .ref 0 0 0 3 v51.length false), (96, I ((w64 (((a1.length : Int)) - 2)))), (95, I ((a1.length : Int))), (94, .ref 0 0 0 3 a1.length false), (1, .ref 0 0 0 3 a1.length false), (7, I ((a1.length : Int)))], [some ⟨0, eL a1⟩]⟩) τ_ok [] [0] 1 (by exact (And.intro (.inl (eL_frz _)) trivial)) (by kernel_rfl) ?_
  refine qA_ev (st' := ⟨145, [(100, I ((w64 (((a1.length : Int)) - 2)))), (99, I ((a1.length : Int))), (98, .ref 0 0 0 3 a1.length false), (97, .ref 0 0 0 3 v51.length false), (96, I ((w64 (((a1.length : Int)) - 2)))), (95, I ((a1.length : Int))), (94, .ref 0 0 0 3 a1.length false), (1, .ref 0 0 0 3 a1.length false), (7, I ((a1.length : Int)))], [some ⟨0, eL a1⟩]⟩) τ_ok [] [] 2 (by exact trivial) (by kernel_rfl) ?_
  obtain ⟨v53, hv54, h⟩ := bindS h
  refine qA_E (dd := some 101) (x := .ptr 0 0 (((w64 (((a1.length : Int)) - 2))).toNat * 3)) ([some ⟨0, eL a1⟩]) (⟨145, [(101, .ptr 0 0 (((w64 (((a1.length : Int)) - 2))).toNat * 3)), (100, I ((w64 (((a1.length : Int)) - 2)))), (99, I ((a1.length : Int))), (98, .ref 0 0 0 3 a1.length false), (97, .ref 0 0 0 3 v51.length false), (96, I ((w64 (((a1.length : Int)) - 2)))), (95, I ((a1.length : Int))), (94, .ref 0 0 0 3 a1.length false), (1, .ref 0 0 0 3 a1.length false), (7, I ((a1.length : Int)))], [some ⟨0, eL a1⟩]⟩) (fun Γ' hΓ => CoreE.of_y (idrV_sound (n := a1.length) τ_ok (by kernel_rfl) hv54 rfl)) (by kernel_rfl) (by kernel_rfl) (by exact (And.intro (.inl (eL_frz _)) trivial)) (.inr (.inl rfl)) (by kernel_rfl) ?_
  refine qA_E (dd := some 102) (x := E v53) ([some ⟨0, eL a1⟩]) (⟨145, [(102, E v53), (101, .ptr 0 0 (((w64 (((a1.length : Int)) - 2))).toNat * 3)), (100, I ((w64 (((a1.length : Int)) - 2)))), (99, I ((a1.length : Int))), (98, .ref 0 0 0 3 a1.length false), (97, .ref 0 0 0 3 v51.length false), (96, I ((w64 (((a1.length : Int)) - 2)))), (95, I ((a1.length : Int))), (94, .ref 0 0 0 3 a1.length false), (1, .ref 0 0 0 3 a1.length false), (7, I ((a1.length : Int)))], [some ⟨0, eL a1⟩]⟩) (fun Γ' hΓ => CoreE.of_y (ldeV_sound (t := 117) (o' := 0) (r := E v53) τ_ok hv54 (by kernel_rfl) (by kernel_rfl))) (by kernel_rfl) (by kernel_rfl) (by exact (And.intro (.inl (eL_frz _)) trivial)) (.inr (.inr rfl)) (by kernel_rfl) ?_
  obtain ⟨v55, hv56, h⟩ := bindS h
  refine qA_E (dd := some 103) (x := I v55) ([none]) (⟨145, [(103, I v55), (102, E v53), (101, .ptr 0 0 (((w64 (((a1.length : Int)) - 2))).toNat * 3)), (100, I ((w64 (((a1.length : Int)) - 2)))), (99, I ((a1.length : Int))), (98, .ref 0 0 0 3 a1.length false), (97, .ref 0 0 0 3 v51.length false), (96, I ((w64 (((a1.length : Int)) - 2)))), (95, I ((a1.length : Int))), (94, .ref 0 0 0 3 a1.length false), (1, .ref 0 0 0 3 a1.length false), (7, I ((a1.length : Int)))], [some ⟨0, eL a1⟩]⟩) (fun Γ' hΓ => CoreE.of_g (callV_sound (τ := τ) (by kernel_rfl) rfl (ok_spec_TruthOf hv56) (FzTo.frz rfl))) (by kernel_rfl) (by kernel_rfl) (by exact trivial) (.inr (.inr rfl)) (by kernel_rfl) ?_
  refine qA_ev (st' := ⟨145, [(104, .ref 0 0 0 3 a1.length false), (103, I v55), (102, E v53), (101, .ptr 0 0 (((w64 (((a1.length : Int)) - 2))).toNat * 3)), (100, I ((w64 (((a1.length : Int)) - 2)))), (99, I ((a1.length : Int))), (98, .ref 0 0 0 3 a1.length false), (97, .ref 0 0 0 3 v51.length false), (96, I ((w64 (((a1.length : Int)) - 2)))), (95, I ((a1.length : Int))), (94, .ref 0 0 0 3 a1.length false), (1, .ref 0 0 0 3 a1.length false), (7, I ((a1.length : Int)))], [some ⟨0, eL a1⟩]⟩) τ_ok [] [0] 1 (by exact (And.intro (.inl (eL_frz _)) trivial)) (by kernel_rfl) ?_
  refine qA_ev (st' := ⟨145, [(106, I ((w64 (((a1.length : Int)) - 1)))), (105, I ((a1.length : Int))), (104, .ref 0 0 0 3 a1.length false), (103, I v55), (102, E v53), (101, .ptr 0 0 (((w64 (((a1.length : Int)) - 2))).toNat * 3)), (100, I ((w64 (((a1.length : Int)) - 2)))), (99, I ((a1.length : Int))), (98, .ref 0 0 0 3 a1.length false), (97, .ref 0 0 0 3 v51.length false), (96, I ((w64 (((a1.length : Int)) - 2)))), (95, I ((a1.length : Int))), (94, .ref 0 0 0 3 a1.length false), (1, .ref 0 0 0 3 a1.length false), (7, I ((a1.length : Int)))], [some ⟨0, eL a1⟩]⟩) τ_ok [] [] 2 (by exact trivial) (by kernel_rfl) ?_
  obtain ⟨v57, hv58, h⟩ := bindS h
  refine qA_E (dd := some 107) (x := .ptr 0 0 (((w64 (((a1.length : Int)) - 1))).toNat * 3)) ([some ⟨0, eL a1⟩]) (⟨145, [(107, .ptr 0 0 (((w64 (((a1.length : Int)) - 1))).toNat * 3)), (106, I ((w64 (((a1.length : Int)) - 1)))), (105, I ((a1.length : Int))), (104, .ref 0 0 0 3 a1.length false), (103, I v55), (102, E v53), (101, .ptr 0 0 (((w64 (((a1.length : Int)) - 2))).toNat * 3)), (100, I ((w64 (((a1.length : Int)) - 2)))), (99, I ((a1.length : Int))), (98, .ref 0 0 0 3 a1.length false), (97, .ref 0 0 0 3 v51.length false), (96, I ((w64 (((a1.length : Int)) - 2)))), (95, I ((a1.length : Int))), (94, .ref 0 0 0 3 a1.length false), (1, .ref 0 0 0 3 a1.length false), (7, I ((a1.length : Int)))], [some ⟨0, eL a1⟩]⟩) (fun Γ' hΓ => CoreE.of_y (idrV_sound (n := a1.length) τ_ok (by kernel_rfl) hv58 rfl)) (by kernel_rfl) (by kernel_rfl) (by exact (And.intro (.inl (eL_frz _)) trivial)) (.inr (.inl rfl)) (by kernel_rfl) ?_
  refine qA_E (dd := some 108) (x := E v57) ([some ⟨0, eL a1⟩]) (⟨145, [(108, E v57), (107, .ptr 0 0 (((w64 (((a1.length : Int)) - 1))).toNat * 3)), (106, I ((w64 (((a1.length : Int)) - 1)))), (105, I ((a1.length : Int))), (104, .ref 0 0 0 3 a1.length false), (103, I v55), (102, E v53), (101, .ptr 0 0 (((w64 (((a1.length : Int)) - 2))).toNat * 3)), (100, I ((w64 (((a1.length : Int)) - 2)))), (99, I ((a1.length : Int))), (98, .ref 0 0 0 3 a1.length false), (97, .ref 0 0 0 3 v51.length false), (96, I ((w64 (((a1.length : Int)) - 2)))), (95, I ((a1.length : Int))), (94, .ref 0 0 0 3 a1.length false), (1, .ref 0 0 0 3 a1.length false), (7, I ((a1.length : Int)))], [some ⟨0, eL a1⟩]⟩) (fun Γ' hΓ => CoreE.of_y (ldeV_sound (t := 117) (o' := 0) (r := E v57) τ_ok hv58 (by kernel_rfl) (by kernel_rfl))) (by kernel_rfl) (by kernel_rfl) (by exact (And.intro (.inl (eL_frz _)) trivial)) (.inr (.inr rfl)) (by kernel_rfl) ?_
  obtain ⟨v59, hv60, h⟩ := bindS h
  refine qA_E (dd := some 109) (x := I v59) ([none]) (⟨145, [(109, I v59), (108, E v57), (107, .ptr 0 0 (((w64 (((a1.length : Int)) - 1))).toNat * 3)), (106, I ((w64 (((a1.length : Int)) - 1)))), (105, I ((a1.length : Int))), (104, .ref 0 0 0 3 a1.length false), (103, I v55), (102, E v53), (101, .ptr 0 0 (((w64 (((a1.length : Int)) - 2))).toNat * 3)), (100, I ((w64 (((a1.length : Int)) - 2)))), (99, I ((a1.length : Int))), (98, .ref 0 0 0 3 a1.length false), (97, .ref 0 0 0 3 v51.length false), (96, I ((w64 (((a1.length : Int)) - 2)))), (95, I ((a1.length : Int))), (94, .ref 0 0 0 3 a1.length false), (1, .ref 0 0 0 3 a1.length false), (7, I ((a1.length : Int)))], [some ⟨0, eL a1⟩]⟩) (fun Γ' hΓ => CoreE.of_g (callV_sound (τ := τ) (by kernel_rfl) rfl (ok_spec_TruthOf hv60) (FzTo.frz rfl))) (by kernel_rfl) (by kernel_rfl) (by exact trivial) (.inr (.inr rfl)) (by kernel_rfl) ?_
  obtain ⟨v61, hv62, h⟩ := bindS h
  refine qA_E (dd := some 110) (x := I v61) ([none]) (⟨145, [(110, I v61), (109, I v59), (108, E v57), (107, .ptr 0 0 (((w64 (((a1.length : Int)) - 1))).toNat * 3)), (106, I ((w64 (((a1.length : Int)) - 1)))), (105, I ((a1.length : Int))), (104, .ref 0 0 0 3 a1.length false), (103, I v55), (102, E v53), (101, .ptr 0 0 (((w64 (((a1.length : Int)) - 2))).toNat * 3)), (100, I ((w64 (((a1.length : Int)) - 2)))), (99, I ((a1.length : Int))), (98, .ref 0 0 0 3 a1.length false), (97, .ref 0 0 0 3 v51.length false), (96, I ((w64 (((a1.length : Int)) - 2)))), (95, I ((a1.length : Int))), (94, .ref 0 0 0 3 a1.length false), (1, .ref 0 0 0 3 a1.length false), (7, I ((a1.length : Int)))], [some ⟨0, eL a1⟩]⟩) (fun Γ' hΓ => CoreE.of_g (callV_sound (τ := τ) (by kernel_rfl) rfl (ok_spec_OrOf hv62) (FzTo.frz rfl))) (by kernel_rfl) (by kernel_rfl) (by exact trivial) (.inr (.inr rfl)) (by kernel_rfl) ?_
  obtain ⟨v63, hv64, h⟩ := bindS h
  refine qA_E (dd := some 111) (x := E v63) ([none]) (⟨145, [(111, E v63), (110, I v61), (109, I v59), (108, E v57), (107, .ptr 0 0 (((w64 (((a1.length : Int)) - 1))).toNat * 3)), (106, I ((w64 (((a1.length : Int)) - 1)))), (105, I ((a1.length : Int))), (104, .ref 0 0 0 3 a1.length false), (103, I v55), (102, E v53), (101, .ptr 0 0 (((w64 (((a1.length : Int)) - 2))).toNat * 3)), (100, I ((w64 (((a1.length : Int)) - 2)))), (99, I ((a1.length : Int))), (98, .ref 0 0 0 3 a1.length false), (97, .ref 0 0 0 3 v51.length false), (96, I ((w64 (((a1.length : Int)) - 2)))), (95, I ((a1.length : Int))), (94, .ref 0 0 0 3 a1.length false), (1, .ref 0 0 0 3 a1.length false), (7, I ((a1.length : Int)))], [some ⟨0, eL a1⟩]⟩) (fun Γ' hΓ => CoreE.of_g (callV_sound (τ := τ) (by kernel_rfl) rfl (ok_spec_ValueOf hv64) (FzTo.frz rfl))) (by kernel_rfl) (by kernel_rfl) (by exact trivial) (.inr (.inr rfl)) (by kernel_rfl) ?_
  refine qA_ev (st' := ⟨145, [(112, .arr 3 (([v63] : List T_impl_Value)).length (eL ([v63] : List T_impl_Value)) true), (111, E v63), (110, I v61), (109, I v59), (108, E v57), (107, .ptr 0 0 (((w64 (((a1.length : Int)) - 1))).toNat * 3)), (106, I ((w64 (((a1.length : Int)) - 1)))), (105, I ((a1.length : Int))), (104, .ref 0 0 0 3 a1.length false), (103, I v55), (102, E v53), (101, .ptr 0 0 (((w64 (((a1.length : Int)) - 2))).toNat * 3)), (100, I ((w64 (((a1.length : Int)) - 2)))), (99, I ((a1.length : Int))), (98, .ref 0 0 0 3 a1.length false), (97, .ref 0 0 0 3 v51.length false), (96, I ((w64 (((a1.length : Int)) - 2)))), (95, I ((a1.length : Int))), (94, .ref 0 0 0 3 a1.length false), (1, .ref 0 0 0 3 a1.length false), (7, I ((a1.length : Int)))], [some ⟨0, eL a1⟩]⟩) τ_ok [] [] 1 (by exact trivial) (by kernel_rfl) ?_
  obtain ⟨v65, hv66, h⟩ := bindS h
  refine qA_E (dd := some 113) (x := .ref 0 1 0 3 v65.length false) ([some ⟨1, eL v65⟩]) (⟨145, [(113, .ref 0 1 0 3 v65.length false), (112, .arr 3 (([v63] : List T_impl_Value)).length (eL ([v63] : List T_impl_Value)) true), (111, E v63), (110, I v61), (109, I v59), (108, E v57), (107, .ptr 0 0 (((w64 (((a1.length : Int)) - 1))).toNat * 3)), (106, I ((w64 (((a1.length : Int)) - 1)))), (105, I ((a1.length : Int))), (104, .ref 0 0 0 3 a1.length false), (103, I v55), (102, E v53), (101, .ptr 0 0 (((w64 (((a1.length : Int)) - 2))).toNat * 3)), (100, I ((w64 (((a1.length : Int)) - 2)))), (99, I ((a1.length : Int))), (98, .ref 0 0 0 3 a1.length false), (97, .ref 0 0 0 3 v51.length false), (96, I ((w64 (((a1.length : Int)) - 2)))), (95, I ((a1.length : Int))), (94, .ref 0 0 0 3 a1.length false), (1, .ref 0 0 0 3 a1.length false), (7, I ((a1.length : Int)))], [some ⟨1, eL v65⟩]⟩) (fun Γ' hΓ => app_E τ_ok 113 0 0 v51.length (fun b hb => absurd (hΓ b hb) (hX b)) hv66 (slI_le hv52) (by kernel_rfl)) (by kernel_rfl) (by kernel_rfl) (by exact (And.intro (.inl (eL_frz _)) trivial)) (.inr (.inl rfl)) (by kernel_rfl) ?_
  refine qA_ev (st' := ⟨145, [(6, .ref 0 1 0 3 v65.length false), (113, .ref 0 1 0 3 v65.length false), (112, .arr 3 (([v63] : List T_impl_Value)).length (eL ([v63] : List T_impl_Value)) true), (111, E v63), (110, I v61), (109, I v59), (108, E v57), (107, .ptr 0 0 (((w64 (((a1.length : Int)) - 1))).toNat * 3)), (106, I ((w64 (((a1.length : Int)) - 1)))), (105, I ((a1.length : Int))), (104, .ref 0 0 0 3 a1.length false), (103, I v55), (102, E v53), (101, .ptr 0 0 (((w64 (((a1.length : Int)) - 2))).toNat * 3)), (100, I ((w64 (((a1.length : Int)) - 2)))), (99, I ((a1.length : Int))), (98, .ref 0 0 0 3 a1.length false), (97, .ref 0 0 0 3 v51.length false), (96, I ((w64 (((a1.length : Int)) - 2)))), (95, I ((a1.length : Int))), (94, .ref 0 0 0 3 a1.length false), (1, .ref 0 0 0 3 a1.length false), (7, I ((a1.length : Int)))], [some ⟨1, eL v65⟩]⟩) τ_ok [] [0] 1 (by exact (And.intro (.inl (eL_frz _)) trivial)) (by kernel_rfl) ?_
  refine qA_end ?_
  refine opsP_imp (Imp.to (st' := ⟨145, [(6, .ref 0 1 0 3 v65.length false)], [some ⟨1, eL v65⟩]⟩) [6] (by kernel_rfl)) ?_
  refine opsP_end rfl ?_
  have h := si h
  subst h
  exact pwp_ret (rt (.ref 0 1 0 3 v65.length false) (OutP.list (v := 1) (by kernel_rfl)))
  refine srve 145 [(1, .ref 0 0 0 3 a1.length false), (7, I ((a1.length : Int))), (114, B ((a2.fKind == 7)))] [some ⟨0, eL a1⟩] ?_
  refine pc h (fun h => ?_) (fun h => ?_)
  refine pwp_seq ?_
  refine pwp_imp (Imp.to (st' := ⟨145, [(1, .ref 0 0 0 3 a1.length false), (7, I ((a1.length : Int)))], [some ⟨0, eL a1⟩]⟩) [1, 7] (by kernel_rfl)) ?_
  refine pwp_any ([[0], [], [], [0], [0], [], [], [0], [0], [], [], [], [], [0], [0]]) ([[], [], [], [], [], [], [], [], [], [], [], [], [], [0], []]) rfl (by kernel_rfl) ?_
  refine qA_ev (st' := ⟨145, [(116, .ref 0 0 0 3 a1.length false), (1, .ref 0 0 0 3 a1.length false), (7, I ((a1.length : Int)))], [some ⟨0, eL a1⟩]⟩) τ_ok [] [0] 1 (by exact (And.intro (.inl (eL_frz _)) trivial)) (by kernel_rfl) ?_
  refine qA_ev (st' := ⟨145, [(118, I ((w64 (((a1.length : Int)) - 1)))), (117, I ((a1.length : Int))), (116, .ref 0 0 0 3 a1.length false), (1, .ref 0 0 0 3 a1.length false), (7, I ((a1.length : Int)))], [some ⟨0, eL a1⟩]⟩) τ_ok [] [] 2 (by exact trivial) (by kernel_rfl) ?_
  obtain ⟨v68, hv69, h⟩ := bindS h
  refine qA_E (dd := some 119) (x := .ref 0 0 0 3 v68.length false) ([some ⟨0, eL a1⟩]) (⟨145, [(119, .ref 0 0 0 3 v68.length false), (118, I ((w64 (((a1.length : Int)) - 1)))), (117, I ((a1.length : Int))), (116, .ref 0 0 0 3 a1.length false), (1, .ref 0 0 0 3 a1.length false), (7, I ((a1.length : Int)))], [some ⟨0, eL a1⟩]⟩) (fun Γ' hΓ => CoreE.of_y (slrV_sound (n := a1.length) τ_ok (by kernel_rfl) rfl hv69)) (by kernel_rfl) (by kernel_rfl) (by exact (And.intro (.inl (eL_frz _)) trivial)) (.inr (.inl rfl)) (by kernel_rfl) ?_
  refine qA_ev (st' := ⟨145, [(120, .ref 0 0 0 3 a1.length false), (119, .ref 0 0 0 3 v68.length false), (118, I ((w64 (((a1.length : Int)) - 1)))), (117, I ((a1.length : Int))), (116, .ref 0 0 0 3 a1.length false), (1, .ref 0 0 0 3 a1.length false), (7, I ((a1.length : Int)))], [some ⟨0, eL a1⟩]⟩) τ_ok [] [0] 1 (by exact (And.intro (.inl (eL_frz _)) trivial)) (by kernel_rfl) ?_
  refine qA_ev (st' := ⟨145, [(122, I ((w64 (((a1.length : Int)) - 1)))), (121, I ((a1.length : Int))), (120, .ref 0 0 0 3 a1.length false), (119, .ref 0 0 0 3 v68.length false), (118, I ((w64 (((a1.length : Int)) - 1)))), (117, I ((a1.length : Int))), (116, .ref 0 0 0 3 a1.length false), (1, .ref 0 0 0 3 a1.length false), (7, I ((a1.length : Int)))], [some ⟨0, eL a1⟩]⟩) τ_ok [] [] 2 (by exact trivial) (by kernel_rfl) ?_
  obtain ⟨v70, hv71, h⟩ := bindS h
  refine qA_E (dd := some 123) (x := .ptr 0 0 (((w64 (((a1.length : Int)) - 1))).toNat * 3)) ([some ⟨0, eL a1⟩]) (⟨145, [(123, .ptr 0 0 (((w64 (((a1.length : Int)) - 1))).toNat * 3)), (122, I ((w64 (((a1.length : Int)) - 1)))), (121, I ((a1.length : Int))), (120, .ref 0 0 0 3 a1.length false), (119, .ref 0 0 0 3 v68.length false), (118, I ((w64 (((a1.length : Int)) - 1)))), (117, I ((a1.length : Int))), (116, .ref 0 0 0 3 a1.length false), (1, .ref 0 0 0 3 a1.length false), (7, I ((a1.length : Int)))], [some ⟨0, eL a1⟩]⟩) (fun Γ' hΓ => CoreE.of_y (idrV_sound (n := a1.length) τ_ok (by kernel_rfl) hv71 rfl)) (by kernel_rfl) (by kernel_rfl) (by exact (And.intro (.inl (eL_frz _)) trivial)) (.inr (.inl rfl)) (by kernel_rfl) ?_
  refine qA_E (dd := some 124) (x := E v70) ([some ⟨0, eL a1⟩]) (⟨145, [(124, E v70), (123, .ptr 0 0 (((w64 (((a1.length : Int)) - 1))).toNat * 3)), (122, I ((w64 (((a1.length : Int)) - 1)))), (121, I ((a1.length : Int))), (120, .ref 0 0 0 3 a1.length false), (119, .ref 0 0 0 3 v68.length false), (118, I ((w64 (((a1.length : Int)) - 1)))), (117, I ((a1.length : Int))), (116, .ref 0 0 0 3 a1.length false), (1, .ref 0 0 0 3 a1.length false), (7, I ((a1.length : Int)))], [some ⟨0, eL a1⟩]⟩) (fun Γ' hΓ => CoreE.of_y (ldeV_sound (t := 117) (o' := 0) (r := E v70) τ_ok hv71 (by kernel_rfl) (by kernel_rfl))) (by kernel_rfl) (by kernel_rfl) (by exact (And.intro (.inl (eL_frz _)) trivial)) (.inr (.inr rfl)) (by kernel_rfl) ?_
  obtain ⟨v72, hv73, h⟩ := bindS h
  refine qA_E (dd := some 125) (x := I v72) ([none]) (⟨145, [(125, I v72), (124, E v70), (123, .ptr 0 0 (((w64 (((a1.length : Int)) - 1))).toNat * 3)), (122, I ((w64 (((a1.length : Int)) - 1)))), (121, I ((a1.length : Int))), (120, .ref 0 0 0 3 a1.length false), (119, .ref 0 0 0 3 v68.length false), (118, I ((w64 (((a1.length : Int)) - 1)))), (117, I ((a1.length : Int))), (116, .ref 0 0 0 3 a1.length false), (1, .ref 0 0 0 3 a1.length false), (7, I ((a1.length : Int)))], [some ⟨0, eL a1⟩]⟩) (fun Γ' hΓ => CoreE.of_g (callV_sound (τ := τ) (by kernel_rfl) rfl (ok_spec_TruthOf hv73) (FzTo.frz rfl))) (by kernel_rfl) (by kernel_rfl) (by exact trivial) (.inr (.inr rfl)) (by kernel_rfl) ?_
  obtain ⟨v74, hv75, h⟩ := bindS h
  refine qA_E (dd := some 126) (x := I v74) ([none]) (⟨145, [(126, I v74), (125, I v72), (124, E v70), (123, .ptr 0 0 (((w64 (((a1.length : Int)) - 1))).toNat * 3)), (122, I ((w64 (((a1.length : Int)) - 1)))), (121, I ((a1.length : Int))), (120, .ref 0 0 0 3 a1.length false), (119, .ref 0 0 0 3 v68.length false), (118, I ((w64 (((a1.length : Int)) - 1)))), (117, I ((a1.length : Int))), (116, .ref 0 0 0 3 a1.length false), (1, .ref 0 0 0 3 a1.length false), (7, I ((a1.length : Int)))], [some ⟨0, eL a1⟩]⟩) (fun Γ' hΓ => CoreE.of_g (callV_sound (τ := τ) (by kernel_rfl) rfl (ok_spec_NotOf hv75) (FzTo.frz rfl))) (by kernel_rfl) (by kernel_rfl) (by exact trivial) (.inr (.inr rfl)) (by kernel_rfl) ?_
  obtain ⟨v76, hv77, h⟩ := bindS h
  refine qA_E (dd := some 127) (x := E v76) ([none]) (⟨145, [(127, E v76), (126, I v74), (125, I v72), (124, E v70), (123, .ptr 0 0 (((w64 (((a1.length : Int)) - 1))).toNat * 3)), (122, I ((w64 (((a1.length : Int)) - 1)))), (121, I ((a1.length : Int))), (120, .ref 0 0 0 3 a1.length false), (119, .ref 0 0 0 3 v68.length false), (118, I ((w64 (((a1.length : Int)) - 1)))), (117, I ((a1.length : Int))), (116, .ref 0 0 0 3 a1.length false), (1, .ref 0 0 0 3 a1.length false), (7, I ((a1.length : Int)))], [some ⟨0, eL a1⟩]⟩) (fun Γ' hΓ => CoreE.of_g (callV_sound (τ := τ) (by kernel_rfl) rfl (ok_spec_ValueOf hv77) (FzTo.frz rfl))) (by kernel_rfl) (by kernel_rfl) (by exact trivial) (.inr (.inr rfl)) (by kernel_rfl) ?_
  refine qA_ev (st' := ⟨145, [(128, .arr 3 (([v76] : List T_impl_Value)).length (eL ([v76] : List T_impl_Value)) true), (127, E v76), (126, I v74), (125, I v72), (124, E v70), (123, .ptr 0 0 (((w64 (((a1.length : Int)) - 1))).toNat * 3)), (122, I ((w64 (((a1.length : Int)) - 1)))), (121, I ((a1.length : Int))), (120, .ref 0 0 0 3 a1.length false), (119, .ref 0 0 0 3 v68.length false), (118, I ((w64 (((a1.length : Int)) - 1)))), (117, I ((a1.length : Int))), (116, .ref 0 0 0 3 a1.length false), (1, .ref 0 0 0 3 a1.length false), (7, I ((a1.length : Int)))], [some ⟨0, eL a1⟩]⟩) τ_ok [] [] 1 (by exact trivial) (by kernel_rfl) ?_
  obtain ⟨v78, hv79, h⟩ := bindS h
  refine qA_E (dd := some 129) (x := .ref 0 1 0 3 v78.length false) ([some ⟨1, eL v78⟩]) (⟨145, [(129, .ref 0 1 0 3 v78.length false), (128, .arr 3 (([v76] : List T_impl_Value)).length (eL ([v76] : List T_impl_Value)) true), (127, E v76), (126, I v74), (125, I v72), (124, E v70), (123, .ptr 0 0 (((w64 (((a1.length : Int)) - 1))).toNat * 3)), (122, I ((w64 (((a1.length : Int)) - 1)))), (121, I ((a1.length : Int))), (120, .ref 0 0 0 3 a1.length false), (119, .ref 0 0 0 3 v68.length false), (118, I ((w64 (((a1.length : Int)) - 1)))), (117, I ((a1.length : Int))), (116, .ref 0 0 0 3 a1.length false), (1, .ref 0 0 0 3 a1.length false), (7, I ((a1.length : Int)))], [some ⟨1, eL v78⟩]⟩) (fun Γ' hΓ => app_E τ_ok 129 0 0 v68.length (fun b hb => absurd (hΓ b hb) (hX b)) hv79 (slI_le hv69) (by kernel_rfl)) (by kernel_rfl) (by kernel_rfl) (by exact (And.intro (.inl (eL_frz _)) trivial)) (.inr (.inl rfl)) (by kernel_rfl) ?_
  refine qA_ev (st' := ⟨145, [(6, .ref 0 1 0 3 v78.length false), (129, .ref 0 1 0 3 v78.length false), (128, .arr 3 (([v76] : List T_impl_Value)).length (eL ([v76] : List T_impl_Value)) true), (127, E v76), (126, I v74), (125, I v72), (124, E v70), (123, .ptr 0 0 (((w64 (((a1.length : Int)) - 1))).toNat * 3)), (122, I ((w64 (((a1.length : Int)) - 1)))), (121, I ((a1.length : Int))), (120, .ref 0 0 0 3 a1.length false), (119, .ref 0 0 0 3 v68.length false), (118, I ((w64 (((a1.length : Int)) - 1)))), (117, I ((a1.length : Int))), (116, .ref 0 0 0 3 a1.length false), (1, .ref 0 0 0 3 a1.length false), (7, I ((a1.length : Int)))], [some ⟨1, eL v78⟩]⟩) τ_ok [] [0] 1 (by exact (And.intro (.inl (eL_frz _)) trivial)) (by kernel_rfl) ?_
  refine qA_end ?_
  refine opsP_imp (Imp.to (st' := ⟨145, [(6, .ref 0 1 0 3 v78.length false)], [some ⟨1, eL v78⟩]⟩) [6] (by kernel_rfl)) ?_
  refine opsP_end rfl ?_
  have h := si h
  subst h
  exact pwp_ret (rt (.ref 0 1 0 3 v78.length false) (OutP.list (v := 1) (by kernel_rfl)))
  refine pwp_skip ?_
  refine pwp_seq ?_
  refine pwp_imp (Imp.to (st' := ⟨145, [(1, .ref 0 0 0 3 a1.length false), (7, I ((a1.length : Int)))], [some ⟨0, eL a1⟩]⟩) [1, 7] (by kernel_rfl)) ?_
  refine pwp_any ([[0], [], [], [0], [0], [], [], [0], [0], [0], [], [], [], [], [0], [0]]) ([[], [], [], [], [], [], [], [], [], [], [], [], [], [], [0], []]) rfl (by kernel_rfl) ?_
  refine qA_ev (st' := ⟨145, [(130, .ref 0 0 0 3 a1.length false), (1, .ref 0 0 0 3 a1.length false), (7, I ((a1.length : Int)))], [some ⟨0, eL a1⟩]⟩) τ_ok [] [0] 1 (by exact (And.intro (.inl (eL_frz _)) trivial)) (by kernel_rfl) ?_
  refine qA_ev (st' := ⟨145, [(132, I ((w64 (((a1.length : Int)) - 1)))), (131, I ((a1.length : Int))), (130, .ref 0 0 0 3 a1.length false), (1, .ref 0 0 0 3 a1.length false), (7, I ((a1.length : Int)))], [some ⟨0, eL a1⟩]⟩) τ_ok [] [] 2 (by exact trivial) (by kernel_rfl) ?_
  obtain ⟨v80, hv81, h⟩ := bindS h
  refine qA_E (dd := some 133) (x := .ref 0 0 0 3 v80.length false) ([some ⟨0, eL a1⟩]) (⟨145, [(133, .ref 0 0 0 3 v80.length false), (132, I ((w64 (((a1.length : Int)) - 1)))), (131, I ((a1.length : Int))), (130, .ref 0 0 0 3 a1.length false), (1, .ref 0 0 0 3 a1.length false), (7, I ((a1.length : Int)))], [some ⟨0, eL a1⟩]⟩) (fun Γ' hΓ => CoreE.of_y (slrV_sound (n := a1.length) τ_ok (by kernel_rfl) rfl hv81)) (by kernel_rfl) (by kernel_rfl) (by exact (And.intro (.inl (eL_frz _)) trivial)) (.inr (.inl rfl)) (by kernel_rfl) ?_
  refine qA_ev (st' := ⟨145, [(134, .ref 0 0 0 3 a1.length false), (133, .ref 0 0 0 3 v80.length false), (132, I ((w64 (((a1.length : Int)) - 1)))), (131, I ((a1.length : Int))), (130, .ref 0 0 0 3 a1.length false), (1, .ref 0 0 0 3 a1.length false), (7, I ((a1.length : Int)))], [some ⟨0, eL a1⟩]⟩) τ_ok [] [0] 1 (by exact (And.intro (.inl (eL_frz _)) trivial)) (by kernel_rfl) ?_
  refine qA_ev (st' := ⟨145, [(136, I ((w64 (((a1.length : Int)) - 1)))), (135, I ((a1.length : Int))), (134, .ref 0 0 0 3 a1.length false), (133, .ref 0 0 0 3 v80.length false), (132, I ((w64 (((a1.length : Int)) - 1)))), (131, I ((a1.length : Int))), (130, .ref 0 0 0 3 a1.length false), (1, .ref 0 0 0 3 a1.length false), (7, I ((a1.length : Int)))], [some ⟨0, eL a1⟩]⟩) τ_ok [] [] 2 (by exact trivial) (by kernel_rfl) ?_
  obtain ⟨v82, hv83, h⟩ := bindS h
  refine qA_E (dd := some 137) (x := .ptr 0 0 (((w64 (((a1.length : Int)) - 1))).toNat * 3)) ([some ⟨0, eL a1⟩]) (⟨145, [(137, .ptr 0 0 (((w64 (((a1.length : Int)) - 1))).toNat * 3)), (136, I ((w64 (((a1.length : Int)) - 1)))), (135, I ((a1.length : Int))), (134, .ref 0 0 0 3 a1.length false), (133, .ref 0 0 0 3 v80.length false), (132, I ((w64 (((a1.length : Int)) - 1)))), (131, I ((a1.length : Int))), (130, .ref 0 0 0 3 a1.length false), (1, .ref 0 0 0 3 a1.length false), (7, I ((a1.length : Int)))], [some ⟨0, eL a1⟩]⟩) (fun Γ' hΓ => CoreE.of_y (idrV_sound (n := a1.length) τ_ok (by kernel_rfl) hv83 rfl)) (by kernel_rfl) (by kernel_rfl) (by exact (And.intro (.inl (eL_frz _)) trivial)) (.inr (.inl rfl)) (by kernel_rfl) ?_
  refine qA_ev (st' := ⟨145, [(138, .ptr 0 0 (((w64 (((a1.length : Int)) - 1))).toNat * 3)), (137, .ptr 0 0 (((w64 (((a1.length : Int)) - 1))).toNat * 3)), (136, I ((w64 (((a1.length : Int)) - 1)))), (135, I ((a1.length : Int))), (134, .ref 0 0 0 3 a1.length false), (133, .ref 0 0 0 3 v80.length false), (132, I ((w64 (((a1.length : Int)) - 1)))), (131, I ((a1.length : Int))), (130, .ref 0 0 0 3 a1.length false), (1, .ref 0 0 0 3 a1.length false), (7, I ((a1.length : Int)))], [some ⟨0, eL a1⟩]⟩) τ_ok [] [0] 1 (by exact (And.intro (.inl (eL_frz _)) trivial)) (by kernel_rfl) ?_
  refine qA_E (dd := some 139) (x := I v82.fKind) ([some ⟨0, eL a1⟩]) (⟨145, [(139, I v82.fKind), (138, .ptr 0 0 (((w64 (((a1.length : Int)) - 1))).toNat * 3)), (137, .ptr 0 0 (((w64 (((a1.length : Int)) - 1))).toNat * 3)), (136, I ((w64 (((a1.length : Int)) - 1)))), (135, I ((a1.length : Int))), (134, .ref 0 0 0 3 a1.length false), (133, .ref 0 0 0 3 v80.length false), (132, I ((w64 (((a1.length : Int)) - 1)))), (131, I ((a1.length : Int))), (130, .ref 0 0 0 3 a1.length false), (1, .ref 0 0 0 3 a1.length false), (7, I ((a1.length : Int)))], [some ⟨0, eL a1⟩]⟩) (fun Γ' hΓ => CoreE.of_y (ldeV_sound (t := 3) (o' := 0) (r := I v82.fKind) τ_ok hv83 (by kernel_rfl) (by kernel_rfl))) (by kernel_rfl) (by kernel_rfl) (by exact (And.intro (.inl (eL_frz _)) trivial)) (.inr (.inr rfl)) (by kernel_rfl) ?_
  refine qA_ev (st' := ⟨145, [(140, B ((v82.fKind == 0))), (139, I v82.fKind), (138, .ptr 0 0 (((w64 (((a1.length : Int)) - 1))).toNat * 3)), (137, .ptr 0 0 (((w64 (((a1.length : Int)) - 1))).toNat * 3)), (136, I ((w64 (((a1.length : Int)) - 1)))), (135, I ((a1.length : Int))), (134, .ref 0 0 0 3 a1.length false), (133, .ref 0 0 0 3 v80.length false), (132, I ((w64 (((a1.length : Int)) - 1)))), (131, I ((a1.length : Int))), (130, .ref 0 0 0 3 a1.length false), (1, .ref 0 0 0 3 a1.length false), (7, I ((a1.length : Int)))], [some ⟨0, eL a1⟩]⟩) τ_ok [] [] 1 (by exact trivial) (by kernel_rfl) ?_
  obtain ⟨v84, hv85, h⟩ := bindS h
  refine qA_E (dd := some 141) (x := I v84) ([none]) (⟨145, [(141, I v84), (140, B ((v82.fKind == 0))), (139, I v82.fKind), (138, .ptr 0 0 (((w64 (((a1.length : Int)) - 1))).toNat * 3)), (137, .ptr 0 0 (((w64 (((a1.length : Int)) - 1))).toNat * 3)), (136, I ((w64 (((a1.length : Int)) - 1)))), (135, I ((a1.length : Int))), (134, .ref 0 0 0 3 a1.length false), (133, .ref 0 0 0 3 v80.length false), (132, I ((w64 (((a1.length : Int)) - 1)))), (131, I ((a1.length : Int))), (130, .ref 0 0 0 3 a1.length false), (1, .ref 0 0 0 3 a1.length false), (7, I ((a1.length : Int)))], [some ⟨0, eL a1⟩]⟩) (fun Γ' hΓ => CoreE.of_g (callV_sound (τ := τ) (by kernel_rfl) rfl (ok_spec_l2Bool hv85) (FzTo.frz rfl))) (by kernel_rfl) (by kernel_rfl) (by exact trivial) (.inr (.inr rfl)) (by kernel_rfl) ?_
  obtain ⟨v86, hv87, h⟩ := bindS h
  refine qA_E (dd := some 142) (x := E v86) ([none]) (⟨145, [(142, E v86), (141, I v84), (140, B ((v82.fKind == 0))), (139, I v82.fKind), (138, .ptr 0 0 (((w64 (((a1.length : Int)) - 1))).toNat * 3)), (137, .ptr 0 0 (((w64 (((a1.length : Int)) - 1))).toNat * 3)), (136, I ((w64 (((a1.length : Int)) - 1)))), (135, I ((a1.length : Int))), (134, .ref 0 0 0 3 a1.length false), (133, .ref 0 0 0 3 v80.length false), (132, I ((w64 (((a1.length : Int)) - 1)))), (131, I ((a1.length : Int))), (130, .ref 0 0 0 3 a1.length false), (1, .ref 0 0 0 3 a1.length false), (7, I ((a1.length : Int)))], [some ⟨0, eL a1⟩]⟩) (fun Γ' hΓ => CoreE.of_g (callV_sound (τ := τ) (by kernel_rfl) rfl (ok_spec_ValueOf hv87) (FzTo.frz rfl))) (by kernel_rfl) (by kernel_rfl) (by exact trivial) (.inr (.inr rfl)) (by kernel_rfl) ?_
  refine qA_ev (st' := ⟨145, [(143, .arr 3 (([v86] : List T_impl_Value)).length (eL ([v86] : List T_impl_Value)) true), (142, E v86), (141, I v84), (140, B ((v82.fKind == 0))), (139, I v82.fKind), (138, .ptr 0 0 (((w64 (((a1.length : Int)) - 1))).toNat * 3)), (137, .ptr 0 0 (((w64 (((a1.length : Int)) - 1))).toNat * 3)), (136, I ((w64 (((a1.length : Int)) - 1)))), (135, I ((a1.length : Int))), (134, .ref 0 0 0 3 a1.length false), (133, .ref 0 0 0 3 v80.length false), (132, I ((w64 (((a1.length : Int)) - 1)))), (131, I ((a1.length : Int))), (130, .ref 0 0 0 3 a1.length false), (1, .ref 0 0 0 3 a1.length false), (7, I ((a1.length : Int)))], [some ⟨0, eL a1⟩]⟩) τ_ok [] [] 1 (by exact trivial) (by kernel_rfl) ?_
  obtain ⟨v88, hv89, h⟩ := bindS h
  refine qA_E (dd := some 144) (x := .ref 0 1 0 3 v88.length false) ([some ⟨1, eL v88⟩]) (⟨145, [(144, .ref 0 1 0 3 v88.length false), (143, .arr 3 (([v86] : List T_impl_Value)).length (eL ([v86] : List T_impl_Value)) true), (142, E v86), (141, I v84), (140, B ((v82.fKind == 0))), (139, I v82.fKind), (138, .ptr 0 0 (((w64 (((a1.length : Int)) - 1))).toNat * 3)), (137, .ptr 0 0 (((w64 (((a1.length : Int)) - 1))).toNat * 3)), (136, I ((w64 (((a1.length : Int)) - 1)))), (135, I ((a1.length : Int))), (134, .ref 0 0 0 3 a1.length false), (133, .ref 0 0 0 3 v80.length false), (132, I ((w64 (((a1.length : Int)) - 1)))), (131, I ((a1.length : Int))), (130, .ref 0 0 0 3 a1.length false), (1, .ref 0 0 0 3 a1.length false), (7, I ((a1.length : Int)))], [some ⟨1, eL v88⟩]⟩) (fun Γ' hΓ => app_E τ_ok 144 0 0 v80.length (fun b hb => absurd (hΓ b hb) (hX b)) hv89 (slI_le hv81) (by kernel_rfl)) (by kernel_rfl) (by kernel_rfl) (by exact (And.intro (.inl (eL_frz _)) trivial)) (.inr (.inl rfl)) (by kernel_rfl) ?_
  refine qA_ev (st' := ⟨145, [(6, .ref 0 1 0 3 v88.length false), (144, .ref 0 1 0 3 v88.length false), (143, .arr 3 (([v86] : List T_impl_Value)).length (eL ([v86] : List T_impl_Value)) true), (142, E v86), (141, I v84), (140, B ((v82.fKind == 0))), (139, I v82.fKind), (138, .ptr 0 0 (((w64 (((a1.length : Int)) - 1))).toNat * 3)), (137, .ptr 0 0 (((w64 (((a1.length : Int)) - 1))).toNat * 3)), (136, I ((w64 (((a1.length : Int)) - 1)))), (135, I ((a1.length : Int))), (134, .ref 0 0 0 3 a1.length false), (133, .ref 0 0 0 3 v80.length false), (132, I ((w64 (((a1.length : Int)) - 1)))), (131, I ((a1.length : Int))), (130, .ref 0 0 0 3 a1.length false), (1, .ref 0 0 0 3 a1.length false), (7, I ((a1.length : Int)))], [some ⟨1, eL v88⟩]⟩) τ_ok [] [0] 1 (by exact (And.intro (.inl (eL_frz _)) trivial)) (by kernel_rfl) ?_
  refine qA_end ?_
  refine opsP_imp (Imp.to (st' := ⟨145, [(6, .ref 0 1 0 3 v88.length false)], [some ⟨1, eL v88⟩]⟩) [6] (by kernel_rfl)) ?_
  refine opsP_end rfl ?_
  have h := si h
  subst h
  exact pwp_ret (rt (.ref 0 1 0 3 v88.length false) (OutP.list (v := 1) (by kernel_rfl)))
def impl_Part_kind (a0 : T_impl_Part) (a1 : List T_impl_Column) (a2 : List Int) : Option (Int × Bool) := bif (a0.fKind == 1) then some (a0.fV.fKind, true) else bif (a0.fKind == 2) then (getI a1 a0.fN).bind fun v3 => some (v3.fKind, true) else bif (a0.fKind == 3) then (impl_Part_kind_1 1 a2).bind fun v6 => some (1, v6) else bif (a0.fKind == 4) then (getI a2 0).bind fun v9 => (getI a2 1).bind fun v11 => some (3, (v9 == v11)) else bif (a0.fKind == 8) then some (3, true) else (impl_Part_kind_1 3 a2).bind fun v14 => some (3, v14)
theorem ok_impl_Part_kind {a0 : T_impl_Part} {a1 : List T_impl_Column} {a2 : List Int} {y : Int × Bool} (h : impl_Part_kind a0 a1 a2 = some y) : OK Tryz.prog 127 [E a0, A a1, A a2] (.tup [I y.1, B y.2]) := by
  refine OK_of_pwp τ_ok Tryz.func127 rfl (by kernel_rfl) rfl fun Γ hX => ?_
  unfold impl_Part_kind at h
  refine srve 42 [(1, A a1), (3, .fptr (Enc.cells a0) 0), (5, .fptr (Enc.cells a2) 0)] [] ?_
  refine srve 42 [(1, A a1), (3, .fptr (Enc.cells a0) 0), (5, .fptr (Enc.cells a2) 0), (8, .fn 163 [.fptr (Enc.cells a2) 0])] [] ?_
  refine pwp_seq ?_
  refine srve 42 [(1, A a1), (3, .fptr (Enc.cells a0) 0), (5, .fptr (Enc.cells a2) 0), (8, .fn 163 [.fptr (Enc.cells a2) 0]), (11, I a0.fKind)] [] ?_
  refine pwp_block ?_
  refine srve 42 [(1, A a1), (3, .fptr (Enc.cells a0) 0), (5, .fptr (Enc.cells a2) 0), (8, .fn 163 [.fptr (Enc.cells a2) 0]), (11, I a0.fKind), (12, B ((a0.fKind == 1)))] [] ?_
  refine pc h (fun h => ?_) (fun h => ?_)
  refine srve 42 [(6, I a0.fV.fKind), (7, B true)] [] ?_
  have h := si h
  subst h
  exact pwp_ret (rt (.tup [I a0.fV.fKind, B true]) (OutP.tup (OutL.cons (OutP.frz (by kernel_rfl)) (OutL.cons (OutP.frz (by kernel_rfl)) (OutL.nil _)))))
  refine srve 42 [(1, A a1), (3, .fptr (Enc.cells a0) 0), (5, .fptr (Enc.cells a2) 0), (8, .fn 163 [.fptr (Enc.cells a2) 0]), (11, I a0.fKind), (17, B ((a0.fKind == 2)))] [] ?_
  refine pc h (fun h => ?_) (fun h => ?_)
  refine srv 3 42 [(19, A a1), (21, I a0.fN)] [] ?_
  obtain ⟨v3, hv4, h⟩ := bindS h
  refine opsP_idx τ_ok 22 hv4 (by kernel_rfl) ?_
  refine ve 4 42 [(6, I v3.fKind), (7, B true)] [] ?_
  have h := si h
  subst h
  exact pwp_ret (rt (.tup [I v3.fKind, B true]) (OutP.tup (OutL.cons (OutP.frz (by kernel_rfl)) (OutL.cons (OutP.frz (by kernel_rfl)) (OutL.nil _)))))
  refine srve 42 [(5, .fptr (Enc.cells a2) 0), (8, .fn 163 [.fptr (Enc.cells a2) 0]), (11, I a0.fKind), (25, B ((a0.fKind == 3)))] [] ?_
  refine pc h (fun h => ?_) (fun h => ?_)
  refine srv 1 42 [(27, .fn 163 [.fptr (Enc.cells a2) 0])] [] ?_
  obtain ⟨v6, hv7, h⟩ := bindS h
  refine opsP_callF τ 28 (ok_impl_Part_kind_1 hv7) (FzTo.frz rfl) rfl (by kernel_rfl) ?_
  refine ve 2 42 [(6, I 1), (7, B v6)] [] ?_
  have h := si h
  subst h
  exact pwp_ret (rt (.tup [I 1, B v6]) (OutP.tup (OutL.cons (OutP.frz (by kernel_rfl)) (OutL.cons (OutP.frz (by kernel_rfl)) (OutL.nil _)))))
  refine srve 42 [(5, .fptr (Enc.cells a2) 0), (8, .fn 163 [.fptr (Enc.cells a2) 0]), (11, I a0.fKind), (29, B ((a0.fKind == 4)))] [] ?_
  refine pc h (fun h => ?_) (fun h => ?_)
  refine pwp_seq ?_
  refine pwp_imp (Imp.to (st' := ⟨42, [(5, .fptr (Enc.cells a2) 0)], []⟩) [5] (by kernel_rfl)) ?_
  refine pwp_any ([[], [], [], [], [], [], [], [], []]) ([[], [], [], [], [], [], [], [], []]) rfl (by kernel_rfl) ?_
  refine qA_ev (st' := ⟨42, [(31, A a2), (5, .fptr (Enc.cells a2) 0)], []⟩) τ_ok [] [] 1 (by exact trivial) (by kernel_rfl) ?_
  obtain ⟨v9, hv10, h⟩ := bindS h
  refine qA_E (dd := some 32) (x := .fptr (Enc.cells v9) 0) ([]) (⟨42, [(32, .fptr (Enc.cells v9) 0), (31, A a2), (5, .fptr (Enc.cells a2) 0)], []⟩) (fun Γ' hΓ => CoreE.of_y (idxV_sound τ_ok (by kernel_rfl) hv10)) (by kernel_rfl) (by kernel_rfl) (by exact trivial) (.inr (.inr rfl)) (by kernel_rfl) ?_
  refine qA_ev (st' := ⟨42, [(34, A a2), (33, I v9), (32, .fptr (Enc.cells v9) 0), (31, A a2), (5, .fptr (Enc.cells a2) 0)], []⟩) τ_ok [] [] 2 (by exact trivial) (by kernel_rfl) ?_
  obtain ⟨v11, hv12, h⟩ := bindS h
  refine qA_E (dd := some 35) (x := .fptr (Enc.cells v11) 0) ([]) (⟨42, [(35, .fptr (Enc.cells v11) 0), (34, A a2), (33, I v9), (32, .fptr (Enc.cells v9) 0), (31, A a2), (5, .fptr (Enc.cells a2) 0)], []⟩) (fun Γ' hΓ => CoreE.of_y (idxV_sound τ_ok (by kernel_rfl) hv12)) (by kernel_rfl) (by kernel_rfl) (by exact trivial) (.inr (.inr rfl)) (by kernel_rfl) ?_
  refine qA_ev (st' := ⟨42, [(7, B ((v9 == v11))), (6, I 3), (37, B ((v9 == v11))), (36, I v11), (35, .fptr (Enc.cells v11) 0), (34, A a2), (33, I v9), (32, .fptr (Enc.cells v9) 0), (31, A a2), (5, .fptr (Enc.cells a2) 0)], []⟩) τ_ok [] [] 4 (by exact trivial) (by kernel_rfl) ?_
  refine qA_end ?_
  refine opsP_imp (Imp.to (st' := ⟨42, [(6, I 3), (7, B ((v9 == v11)))], []⟩) [6, 7] (by kernel_rfl)) ?_
  refine opsP_end rfl ?_
  have h := si h
  subst h
  exact pwp_ret (rt (.tup [I 3, B ((v9 == v11))]) (OutP.tup (OutL.cons (OutP.frz (by kernel_rfl)) (OutL.cons (OutP.frz (by kernel_rfl)) (OutL.nil _)))))
  refine srve 42 [(8, .fn 163 [.fptr (Enc.cells a2) 0]), (38, B ((a0.fKind == 8)))] [] ?_
  refine pc h (fun h => ?_) (fun h => ?_)
  refine srve 42 [(6, I 3), (7, B true)] [] ?_
  have h := si h
  subst h
  exact pwp_ret (rt (.tup [I 3, B true]) (OutP.tup (OutL.cons (OutP.frz (by kernel_rfl)) (OutL.cons (OutP.frz (by kernel_rfl)) (OutL.nil _)))))
  refine pwp_skip ?_
  refine srv 1 42 [(40, .fn 163 [.fptr (Enc.cells a2) 0])] [] ?_
  obtain ⟨v14, hv15, h⟩ := bindS h
  refine opsP_callF τ 41 (ok_impl_Part_kind_1 hv15) (FzTo.frz rfl) rfl (by kernel_rfl) ?_
  refine ve 2 42 [(6, I 3), (7, B v14)] [] ?_
  have h := si h
  subst h
  exact pwp_ret (rt (.tup [I 3, B v14]) (OutP.tup (OutL.cons (OutP.frz (by kernel_rfl)) (OutL.cons (OutP.frz (by kernel_rfl)) (OutL.nil _)))))
def spec_RowsOk_l0 (a0 : List T_impl_Column) (a1 : List (List T_impl_Value)) : Nat → Int → Option Bool
  | 0, _ => none
  | f2 + 1, x1 => bif (decide (x1 < ((a1.length : Int)))) then (getI a1 x1).bind fun v5 => (spec_RowFits a0 v5).bind fun v7 => bif (!v7) then some false else (spec_RowsOk_l0 a0 a1 f2) ((w64 (x1 + 1))) else (spec_ColumnsOk a0).bind fun v10 => some v10
def spec_RowsOk (a0 : List T_impl_Column) (a1 : List (List T_impl_Value)) : Option Bool := spec_RowsOk_l0 a0 a1 FUEL 0
theorem ok_spec_RowsOk {a0 : List T_impl_Column} {a1 : List (List T_impl_Value)} {y : Bool} (h : spec_RowsOk a0 a1 = some y) : OK Tryz.prog 134 [A a0, A a1] (B y) := by
  refine OK_of_pwp τ_ok Tryz.func134 rfl (by kernel_rfl) rfl fun Γ hX => ?_
  unfold spec_RowsOk at h
  refine srve 21 [(0, A a0), (1, A a1)] [] ?_
  refine pwp_seq ?_
  refine srve 21 [(0, A a0), (1, A a1), (5, I 0)] [] ?_
  refine pwp_block ?_
  refine pwp_loop (ι := Nat × Int) (fun (f2, x1) => (⟨21, [(0, A a0), (1, A a1), (5, I x1)], []⟩ : St)) (fun (f2, x1) => spec_RowsOk_l0 a0 a1 f2 x1 = some y) (fun (f2, x1) => f2) (FUEL, 0) h ((Imp.to (st' := ⟨21, [(0, A a0), (1, A a1), (5, I 0)], []⟩) [0, 1, 5] (by kernel_rfl)).trans (Imp.to [0, 1, 5] (by kernel_rfl))) ?_
  rintro ⟨f2, x1⟩ h
  dsimp only at h ⊢
  rcases f2 with _ | f2
  cases h
  rw [spec_RowsOk_l0] at h
  refine pwp_seq ?_
  refine srve 21 [(0, A a0), (1, A a1), (5, I x1), (9, B ((decide (x1 < ((a1.length : Int))))))] [] ?_
  refine pc h (fun h => ?_) (fun h => ?_)
  refine pwp_skip ?_
  refine pwp_seq ?_
  refine pwp_block ?_
  refine srv 3 21 [(0, A a0), (1, A a1), (5, I x1), (12, A a0), (13, A a1), (14, I x1)] [] ?_
  obtain ⟨v5, hv6, h⟩ := bindS h
  refine opsP_idx τ_ok 15 hv6 (by kernel_rfl) ?_
  refine v 1 21 [(0, A a0), (1, A a1), (5, I x1), (12, A a0), (16, A v5)] [] ?_
  obtain ⟨v7, hv8, h⟩ := bindS h
  refine opsP_callF τ 17 (ok_spec_RowFits hv8) (FzTo.frz rfl) rfl (by kernel_rfl) ?_
  refine ve 1 21 [(0, A a0), (1, A a1), (5, I x1), (18, B ((!v7)))] [] ?_
  refine pc h (fun h => ?_) (fun h => ?_)
  refine srve 21 [(4, B false)] [] ?_
  cases h
  exact pwp_ret rz
  refine pwp_skip ?_
  refine rve 21 [(0, A a0), (1, A a1), (5, I ((w64 (x1 + 1))))] [] ?_
  exact ⟨(f2, (w64 (x1 + 1))), h, Nat.lt_succ_self _, (Imp.to (st' := ⟨21, [(0, A a0), (1, A a1), (5, I ((w64 (x1 + 1))))], []⟩) [0, 1, 5] (by kernel_rfl)).trans (Imp.to [0, 1, 5] (by kernel_rfl))⟩
  refine pwp_exit ?_
  refine srv 1 21 [(19, A a0)] [] ?_
  obtain ⟨v10, hv11, h⟩ := bindS h
  refine opsP_callF τ 20 (ok_spec_ColumnsOk hv11) (FzTo.frz rfl) rfl (by kernel_rfl) ?_
  refine ve 1 21 [(4, B v10)] [] ?_
  cases h
  exact pwp_ret rz
def spec_l4Value_l0 (a0 : List T_impl_Value) (a1 : List T_impl_Part) : Nat → Int → (List T_impl_Value) → Option T_impl_Value
  | 0, _, _ => none
  | f5 + 1, x3, x4 => bif (decide (x3 < ((a1.length : Int)))) then (getI a1 x3).bind fun v8 => (spec_l4Do a0 x4 v8).bind fun v10 => (spec_l4Value_l0 a0 a1 f5) ((w64 (x3 + 1))) v10 else (getI x4 0).bind fun v12 => some v12
def spec_l4Value (a0 : List T_impl_Value) (a1 : List T_impl_Part) : Option T_impl_Value := spec_l4Value_l0 a0 a1 FUEL 0 (([] : List T_impl_Value))
theorem ok_spec_l4Value {a0 : List T_impl_Value} {a1 : List T_impl_Part} {y : T_impl_Value} (h : spec_l4Value a0 a1 = some y) : OK Tryz.prog 139 [A a0, A a1] (E y) := by
  refine OK_of_pwp τ_ok Tryz.func139 rfl (by kernel_rfl) rfl fun Γ hX => ?_
  unfold spec_l4Value at h
  refine srveM [4] 24 [(0, A a0), (1, A a1), (4, .ptr 0 0 0)] [some ⟨0, Enc.cells ((T_impl_Value.mk 0 0 (ByteArray.mk #[])))⟩] ?_
  refine srveM [4] 24 [(0, A a0), (1, A a1), (4, .ptr 0 0 0), (5, .arr 3 0 (eL ([] : List T_impl_Value)) true)] [some ⟨0, Enc.cells ((T_impl_Value.mk 0 0 (ByteArray.mk #[])))⟩] ?_
  refine pwp_seq ?_
  refine srveM [4] 24 [(0, A a0), (1, A a1), (4, .ptr 0 0 0), (5, .arr 3 0 (eL ([] : List T_impl_Value)) true), (6, I 0)] [some ⟨0, Enc.cells ((T_impl_Value.mk 0 0 (ByteArray.mk #[])))⟩] ?_
  refine pwp_block ?_
  refine pwp_loop (ι := Nat × Int × (List T_impl_Value)) (fun (f5, x3, x4) => (⟨24, [(0, A a0), (1, A a1), (4, .ptr 0 0 0), (5, .ref 1 0 0 3 x4.length false), (6, I x3)], [some ⟨0, Enc.cells ((T_impl_Value.mk 0 0 (ByteArray.mk #[])))⟩, some ⟨0, eL x4⟩]⟩ : St)) (fun (f5, x3, x4) => spec_l4Value_l0 a0 a1 f5 x3 x4 = some y) (fun (f5, x3, x4) => f5) (FUEL, 0, ([] : List T_impl_Value)) h ((Imp.to (st' := ⟨24, [(0, A a0), (1, A a1), (4, .ptr 0 0 0), (5, .arr 3 0 (eL ([] : List T_impl_Value)) true), (6, I 0)], [some ⟨0, Enc.cells ((T_impl_Value.mk 0 0 (ByteArray.mk #[])))⟩]⟩) [0, 1, 4, 5, 6] (by kernel_rfl)).trans ((Imp.thawS (st' := ⟨24, [(0, A a0), (1, A a1), (4, .ptr 0 0 0), (5, .ref 1 0 0 3 (([] : List T_impl_Value)).length false), (6, I 0)], [some ⟨0, Enc.cells ((T_impl_Value.mk 0 0 (ByteArray.mk #[])))⟩, some ⟨0, eL (([] : List T_impl_Value))⟩]⟩) 5 [0, 1, 4, 5, 6] (by kernel_rfl)).trans (Imp.to [0, 1, 4, 5, 6] (by kernel_rfl)))) ?_
  rintro ⟨f5, x3, x4⟩ h
  dsimp only at h ⊢
  rcases f5 with _ | f5
  cases h
  rw [spec_l4Value_l0] at h
  refine pwp_seq ?_
  refine srveM [4] 24 [(0, A a0), (1, A a1), (4, .ptr 0 0 0), (5, .ref 1 0 0 3 x4.length false), (6, I x3), (11, B ((decide (x3 < ((a1.length : Int))))))] [some ⟨0, Enc.cells ((T_impl_Value.mk 0 0 (ByteArray.mk #[])))⟩, some ⟨0, eL x4⟩] ?_
  refine pc h (fun h => ?_) (fun h => ?_)
  refine pwp_skip ?_
  refine pwp_seq ?_
  refine pwp_block ?_
  refine rvM [4] 4 24 [(0, A a0), (1, A a1), (4, .ptr 0 0 0), (6, I x3), (14, A a0), (15, .ref 1 0 0 3 x4.length false), (16, A a1), (17, I x3)] [some ⟨0, Enc.cells ((T_impl_Value.mk 0 0 (ByteArray.mk #[])))⟩, some ⟨0, eL x4⟩] ?_
  obtain ⟨v8, hv9, h⟩ := bindS h
  refine opsP_idx τ_ok 18 hv9 (by kernel_rfl) ?_
  refine vM [4] 1 24 [(0, A a0), (1, A a1), (4, .ptr 0 0 0), (6, I x3), (14, A a0), (15, .ref 1 0 0 3 x4.length false), (19, E v8)] [some ⟨0, Enc.cells ((T_impl_Value.mk 0 0 (ByteArray.mk #[])))⟩, some ⟨0, eL x4⟩] ?_
  obtain ⟨v10, hv11, h⟩ := bindS h
  refine opsP_callM (xs := [A a0, .ref 1 0 0 3 x4.length false, E v8]) (x := .ref 2 0 0 3 v10.length false) (bs := [⟨0, eL v10⟩]) τ 20 [1] (fun b hb => absurd hb (hX b)) (ok_spec_l4Do hv11) (by kernel_rfl) (OutL.cons (OutP.frz rfl) (OutL.cons (OutP.list (v := 0) (by kernel_rfl)) (OutL.cons (OutP.frz rfl) (OutL.nil _)))) (by decide) (by kernel_rfl) ?_
  refine veM [4] 1 24 [(0, A a0), (1, A a1), (4, .ptr 0 0 0), (5, .ref 2 0 0 3 v10.length false), (6, I x3)] [some ⟨0, Enc.cells ((T_impl_Value.mk 0 0 (ByteArray.mk #[])))⟩, none, some ⟨0, eL v10⟩] ?_
  refine rveM [4] 24 [(0, A a0), (1, A a1), (4, .ptr 0 0 0), (5, .ref 2 0 0 3 v10.length false), (6, I ((w64 (x3 + 1))))] [some ⟨0, Enc.cells ((T_impl_Value.mk 0 0 (ByteArray.mk #[])))⟩, none, some ⟨0, eL v10⟩] ?_
  exact ⟨(f5, (w64 (x3 + 1)), v10), h, Nat.lt_succ_self _, (Imp.to (st' := ⟨24, [(0, A a0), (1, A a1), (4, .ptr 0 0 0), (5, .ref 2 0 0 3 v10.length false), (6, I ((w64 (x3 + 1))))], [some ⟨0, Enc.cells ((T_impl_Value.mk 0 0 (ByteArray.mk #[])))⟩, none, some ⟨0, eL v10⟩]⟩) [0, 1, 4, 5, 6] (by kernel_rfl)).trans ((Imp.mvS (st' := ⟨24, [(0, A a0), (1, A a1), (4, .ptr 0 0 0), (5, .ref 1 0 0 3 v10.length false), (6, I ((w64 (x3 + 1))))], [some ⟨0, Enc.cells ((T_impl_Value.mk 0 0 (ByteArray.mk #[])))⟩, some ⟨0, eL v10⟩, none]⟩) 2 1 [0, 1, 4, 5, 6] (fun b hb => absurd hb (hX b)) (v := 0) (cs := eL v10) (by kernel_rfl) (by kernel_rfl) (by exact (And.intro (rfl) (And.intro (eL_frz _) trivial))) (by kernel_rfl) (by kernel_rfl)).trans ((Imp.truncS (st' := ⟨24, [(0, A a0), (1, A a1), (4, .ptr 0 0 0), (5, .ref 1 0 0 3 v10.length false), (6, I ((w64 (x3 + 1))))], [some ⟨0, Enc.cells ((T_impl_Value.mk 0 0 (ByteArray.mk #[])))⟩, some ⟨0, eL v10⟩]⟩) 2 (fun b hb => absurd hb (hX b)) (by kernel_rfl) (allBelow_mem (by exact (And.intro rfl (And.intro rfl (And.intro rfl (And.intro rfl (And.intro rfl trivial))))))) (by exact (And.intro (rfl) (And.intro (frz_below (eL_frz _)) trivial))) (by kernel_rfl)).trans (Imp.to [0, 1, 4, 5, 6] (by kernel_rfl))))⟩
  refine pwp_exit ?_
  refine srvM [4] 1 24 [(4, .ptr 0 0 0), (21, .ref 1 0 0 3 x4.length false)] [some ⟨0, Enc.cells ((T_impl_Value.mk 0 0 (ByteArray.mk #[])))⟩, some ⟨0, eL x4⟩] ?_
  obtain ⟨v12, hv13, h⟩ := bindS h
  refine opsP_idr τ_ok 22 1 0 x4.length hv13 rfl (by kernel_rfl) ?_
  refine opsP_lde (r := E v12) τ_ok 23 117 0 hv13 (by kernel_rfl) (by kernel_rfl) ?_
  refine veM [4] 1 24 [(4, .ptr 0 0 0)] [some ⟨0, Enc.cells v12⟩, some ⟨0, eL x4⟩] ?_
  cases h
  exact pwp_ret rz
def impl_Compare_j1 (a0 : Int) (a1 : T_impl_Value) (a2 : T_impl_Value) (x3 : Bool) : Option Int := bif x3 then some 2 else bif (!(a1.fKind == a2.fKind)) then some (-1) else (impl_Value_order a1 a2).bind fun v6 => bif (a0 == 1) then bif (v6 == 0) then (impl_truthIf true).bind fun v8 => some v8 else bif (a0 == 2) then bif (!(v6 == 0)) then (impl_truthIf true).bind fun v10 => some v10 else bif (a0 == 3) then bif (decide (v6 < 0)) then (impl_truthIf true).bind fun v12 => some v12 else bif (a0 == 4) then (impl_truthIf ((decide (v6 ≤ 0)))).bind fun v14 => some v14 else (impl_truthIf false).bind fun v16 => some v16 else bif (a0 == 4) then (impl_truthIf ((decide (v6 ≤ 0)))).bind fun v20 => some v20 else (impl_truthIf false).bind fun v22 => some v22 else bif (a0 == 3) then bif (decide (v6 < 0)) then (impl_truthIf true).bind fun v27 => some v27 else bif (a0 == 4) then (impl_truthIf ((decide (v6 ≤ 0)))).bind fun v29 => some v29 else (impl_truthIf false).bind fun v31 => some v31 else bif (a0 == 4) then (impl_truthIf ((decide (v6 ≤ 0)))).bind fun v35 => some v35 else (impl_truthIf false).bind fun v37 => some v37 else bif (a0 == 2) then bif (!(v6 == 0)) then (impl_truthIf true).bind fun v43 => some v43 else bif (a0 == 3) then bif (decide (v6 < 0)) then (impl_truthIf true).bind fun v45 => some v45 else bif (a0 == 4) then (impl_truthIf ((decide (v6 ≤ 0)))).bind fun v47 => some v47 else (impl_truthIf false).bind fun v49 => some v49 else bif (a0 == 4) then (impl_truthIf ((decide (v6 ≤ 0)))).bind fun v53 => some v53 else (impl_truthIf false).bind fun v55 => some v55 else bif (a0 == 3) then bif (decide (v6 < 0)) then (impl_truthIf true).bind fun v60 => some v60 else bif (a0 == 4) then (impl_truthIf ((decide (v6 ≤ 0)))).bind fun v62 => some v62 else (impl_truthIf false).bind fun v64 => some v64 else bif (a0 == 4) then (impl_truthIf ((decide (v6 ≤ 0)))).bind fun v68 => some v68 else (impl_truthIf false).bind fun v70 => some v70
def impl_Compare_j0 (a0 : Int) (a1 : T_impl_Value) (a2 : T_impl_Value) (x1 : Bool) : Option Int := bif x1 then some (-1) else bif (a1.fKind == 0) then impl_Compare_j1 a0 a1 a2 true else impl_Compare_j1 a0 a1 a2 ((a2.fKind == 0))
def impl_Compare (a0 : Int) (a1 : T_impl_Value) (a2 : T_impl_Value) : Option Int := (impl_between a0 1 4).bind fun v77 => bif (!v77) then impl_Compare_j0 a0 a1 a2 true else (impl_Value_ok a1).bind fun v79 => bif (!v79) then impl_Compare_j0 a0 a1 a2 true else (impl_Value_ok a2).bind fun v81 => impl_Compare_j0 a0 a1 a2 ((!v81))
theorem ok_impl_Compare {a0 : Int} {a1 : T_impl_Value} {a2 : T_impl_Value} {y : Int} (h : impl_Compare a0 a1 a2 = some y) : OK Tryz.prog 170 [I a0, E a1, E a2] (I y) := by
  refine OK_of_pwp τ_ok Tryz.func170 rfl (by kernel_rfl) rfl fun Γ hX => ?_
  unfold impl_Compare at h
  refine srve 71 [(0, I a0), (4, .fptr (Enc.cells a1) 0), (5, .fptr (Enc.cells a2) 0)] [] ?_
  refine pwp_seq ?_
  refine pwp_block ?_
  refine pwp_seq ?_
  refine pwp_join (σ := Bool) (fun x1 => (⟨71, [(0, I a0), (4, .fptr (Enc.cells a1) 0), (5, .fptr (Enc.cells a2) 0), (8, B x1)], []⟩ : St)) (fun x1 => impl_Compare_j0 a0 a1 a2 x1 = some y) ?_ ?_
  refine rv 1 71 [(0, I a0), (4, .fptr (Enc.cells a1) 0), (5, .fptr (Enc.cells a2) 0), (9, I a0)] [] ?_
  obtain ⟨v77, hv78, h⟩ := bindS h
  refine opsP_callF τ 10 (ok_impl_between hv78) (FzTo.frz rfl) rfl (by kernel_rfl) ?_
  refine v 2 71 [(0, I a0), (4, .fptr (Enc.cells a1) 0), (5, .fptr (Enc.cells a2) 0), (12, B ((!v77)))] [] ?_
  rcases fk ((!v77)) with hc84 | hc84
  replace h := bT hc84 h
  rw [hc84]
  refine ve 10 71 [(0, I a0), (4, .fptr (Enc.cells a1) 0), (5, .fptr (Enc.cells a2) 0), (8, B true)] [] ?_
  exact ⟨true, h, (Imp.to (st' := ⟨71, [(0, I a0), (4, .fptr (Enc.cells a1) 0), (5, .fptr (Enc.cells a2) 0), (8, B true)], []⟩) [0, 4, 5, 8] (by kernel_rfl)).trans (Imp.to [0, 4, 5, 8] (by kernel_rfl))⟩
  replace h := bF hc84 h
  rw [hc84]
  refine v 1 71 [(0, I a0), (4, .fptr (Enc.cells a1) 0), (5, .fptr (Enc.cells a2) 0), (12, B false), (13, E a1)] [] ?_
  obtain ⟨v79, hv80, h⟩ := bindS h
  refine opsP_callF τ 14 (ok_impl_Value_ok hv80) (FzTo.frz rfl) rfl (by kernel_rfl) ?_
  refine v 3 71 [(0, I a0), (4, .fptr (Enc.cells a1) 0), (5, .fptr (Enc.cells a2) 0), (17, B ((!v79)))] [] ?_
  rcases fk ((!v79)) with hc83 | hc83
  replace h := bT hc83 h
  rw [hc83]
  refine ve 5 71 [(0, I a0), (4, .fptr (Enc.cells a1) 0), (5, .fptr (Enc.cells a2) 0), (8, B true)] [] ?_
  exact ⟨true, h, (Imp.to (st' := ⟨71, [(0, I a0), (4, .fptr (Enc.cells a1) 0), (5, .fptr (Enc.cells a2) 0), (8, B true)], []⟩) [0, 4, 5, 8] (by kernel_rfl)).trans (Imp.to [0, 4, 5, 8] (by kernel_rfl))⟩
  replace h := bF hc83 h
  rw [hc83]
  refine v 1 71 [(0, I a0), (4, .fptr (Enc.cells a1) 0), (5, .fptr (Enc.cells a2) 0), (17, B false), (18, E a2)] [] ?_
  obtain ⟨v81, hv82, h⟩ := bindS h
  refine opsP_callF τ 19 (ok_impl_Value_ok hv82) (FzTo.frz rfl) rfl (by kernel_rfl) ?_
  refine ve 3 71 [(0, I a0), (4, .fptr (Enc.cells a1) 0), (5, .fptr (Enc.cells a2) 0), (8, B ((!v81)))] [] ?_
  exact ⟨(!v81), h, (Imp.to (st' := ⟨71, [(0, I a0), (4, .fptr (Enc.cells a1) 0), (5, .fptr (Enc.cells a2) 0), (8, B ((!v81)))], []⟩) [0, 4, 5, 8] (by kernel_rfl)).trans (Imp.to [0, 4, 5, 8] (by kernel_rfl))⟩
  rintro x1 h
  unfold impl_Compare_j0 at h
  refine pc h (fun h => ?_) (fun h => ?_)
  refine srve 71 [(6, I (-1))] [] ?_
  cases h
  exact pwp_ret rz
  refine pwp_seq ?_
  refine pwp_join (σ := Bool) (fun x3 => (⟨71, [(0, I a0), (4, .fptr (Enc.cells a1) 0), (5, .fptr (Enc.cells a2) 0), (22, B x3)], []⟩ : St)) (fun x3 => impl_Compare_j1 a0 a1 a2 x3 = some y) ?_ ?_
  refine rv 4 71 [(0, I a0), (4, .fptr (Enc.cells a1) 0), (5, .fptr (Enc.cells a2) 0), (26, B ((a1.fKind == 0)))] [] ?_
  rcases fk ((a1.fKind == 0)) with hc76 | hc76
  replace h := bT hc76 h
  rw [hc76]
  refine ve 5 71 [(0, I a0), (4, .fptr (Enc.cells a1) 0), (5, .fptr (Enc.cells a2) 0), (22, B true)] [] ?_
  exact ⟨true, h, (Imp.to (st' := ⟨71, [(0, I a0), (4, .fptr (Enc.cells a1) 0), (5, .fptr (Enc.cells a2) 0), (22, B true)], []⟩) [0, 4, 5, 22] (by kernel_rfl)).trans (Imp.to [0, 4, 5, 22] (by kernel_rfl))⟩
  replace h := bF hc76 h
  rw [hc76]
  refine ve 5 71 [(0, I a0), (4, .fptr (Enc.cells a1) 0), (5, .fptr (Enc.cells a2) 0), (22, B ((a2.fKind == 0)))] [] ?_
  exact ⟨(a2.fKind == 0), h, (Imp.to (st' := ⟨71, [(0, I a0), (4, .fptr (Enc.cells a1) 0), (5, .fptr (Enc.cells a2) 0), (22, B ((a2.fKind == 0)))], []⟩) [0, 4, 5, 22] (by kernel_rfl)).trans (Imp.to [0, 4, 5, 22] (by kernel_rfl))⟩
  rintro x3 h
  unfold impl_Compare_j1 at h
  refine pc h (fun h => ?_) (fun h => ?_)
  refine srve 71 [(6, I 2)] [] ?_
  cases h
  exact pwp_ret rz
  refine srve 71 [(0, I a0), (4, .fptr (Enc.cells a1) 0), (5, .fptr (Enc.cells a2) 0), (31, B ((!(a1.fKind == a2.fKind))))] [] ?_
  refine pc h (fun h => ?_) (fun h => ?_)
  refine srve 71 [(6, I (-1))] [] ?_
  cases h
  exact pwp_ret rz
  refine pwp_skip ?_
  refine srv 2 71 [(0, I a0), (37, E a1), (38, E a2)] [] ?_
  obtain ⟨v6, hv7, h⟩ := bindS h
  refine opsP_callF τ 39 (ok_impl_Value_order hv7) (FzTo.frz rfl) rfl (by kernel_rfl) ?_
  refine ve 1 71 [(0, I a0), (7, I v6)] [] ?_
  refine srv 3 71 [(0, I a0), (7, I v6), (42, B ((a0 == 1)))] [] ?_
  rcases fk ((a0 == 1)) with hc75 | hc75
  replace h := bT hc75 h
  rw [hc75]
  refine v 4 71 [(0, I a0), (7, I v6), (46, B ((v6 == 0)))] [] ?_
  rcases fk ((v6 == 0)) with hc42 | hc42
  replace h := bT hc42 h
  rw [hc42]
  refine v 23 71 [(69, B true)] [] ?_
  obtain ⟨v8, hv9, h⟩ := bindS h
  refine opsP_callF τ 70 (ok_impl_truthIf hv9) (FzTo.frz rfl) rfl (by kernel_rfl) ?_
  refine ve 1 71 [(6, I v8)] [] ?_
  cases h
  exact pwp_ret rz
  replace h := bF hc42 h
  rw [hc42]
  refine v 3 71 [(0, I a0), (7, I v6), (46, B false), (49, B ((a0 == 2)))] [] ?_
  rcases fk ((a0 == 2)) with hc41 | hc41
  replace h := bT hc41 h
  rw [hc41]
  refine v 5 71 [(0, I a0), (7, I v6), (54, B ((!(v6 == 0))))] [] ?_
  rcases fk ((!(v6 == 0))) with hc26 | hc26
  replace h := bT hc26 h
  rw [hc26]
  refine v 15 71 [(69, B true)] [] ?_
  obtain ⟨v10, hv11, h⟩ := bindS h
  refine opsP_callF τ 70 (ok_impl_truthIf hv11) (FzTo.frz rfl) rfl (by kernel_rfl) ?_
  refine ve 1 71 [(6, I v10)] [] ?_
  cases h
  exact pwp_ret rz
  replace h := bF hc26 h
  rw [hc26]
  refine v 3 71 [(0, I a0), (7, I v6), (54, B false), (57, B ((a0 == 3)))] [] ?_
  rcases fk ((a0 == 3)) with hc25 | hc25
  replace h := bT hc25 h
  rw [hc25]
  refine v 5 71 [(0, I a0), (7, I v6), (62, B ((decide (v6 < 0))))] [] ?_
  rcases fk ((decide (v6 < 0))) with hc19 | hc19
  replace h := bT hc19 h
  rw [hc19]
  refine v 7 71 [(69, B true)] [] ?_
  obtain ⟨v12, hv13, h⟩ := bindS h
  refine opsP_callF τ 70 (ok_impl_truthIf hv13) (FzTo.frz rfl) rfl (by kernel_rfl) ?_
  refine ve 1 71 [(6, I v12)] [] ?_
  cases h
  exact pwp_ret rz
  replace h := bF hc19 h
  rw [hc19]
  refine v 3 71 [(7, I v6), (62, B false), (65, B ((a0 == 4)))] [] ?_
  rcases fk ((a0 == 4)) with hc18 | hc18
  replace h := bT hc18 h
  rw [hc18]
  refine v 4 71 [(69, B ((decide (v6 ≤ 0))))] [] ?_
  obtain ⟨v14, hv15, h⟩ := bindS h
  refine opsP_callF τ 70 (ok_impl_truthIf hv15) (FzTo.frz rfl) rfl (by kernel_rfl) ?_
  refine ve 1 71 [(6, I v14)] [] ?_
  cases h
  exact pwp_ret rz
  replace h := bF hc18 h
  rw [hc18]
  refine v 4 71 [(69, B false)] [] ?_
  obtain ⟨v16, hv17, h⟩ := bindS h
  refine opsP_callF τ 70 (ok_impl_truthIf hv17) (FzTo.frz rfl) rfl (by kernel_rfl) ?_
  refine ve 1 71 [(6, I v16)] [] ?_
  cases h
  exact pwp_ret rz
  replace h := bF hc25 h
  rw [hc25]
  refine v 8 71 [(7, I v6), (62, B false), (65, B ((a0 == 4)))] [] ?_
  rcases fk ((a0 == 4)) with hc24 | hc24
  replace h := bT hc24 h
  rw [hc24]
  refine v 4 71 [(69, B ((decide (v6 ≤ 0))))] [] ?_
  obtain ⟨v20, hv21, h⟩ := bindS h
  refine opsP_callF τ 70 (ok_impl_truthIf hv21) (FzTo.frz rfl) rfl (by kernel_rfl) ?_
  refine ve 1 71 [(6, I v20)] [] ?_
  cases h
  exact pwp_ret rz
  replace h := bF hc24 h
  rw [hc24]
  refine v 4 71 [(69, B false)] [] ?_
  obtain ⟨v22, hv23, h⟩ := bindS h
  refine opsP_callF τ 70 (ok_impl_truthIf hv23) (FzTo.frz rfl) rfl (by kernel_rfl) ?_
  refine ve 1 71 [(6, I v22)] [] ?_
  cases h
  exact pwp_ret rz
  replace h := bF hc41 h
  rw [hc41]
  refine v 8 71 [(0, I a0), (7, I v6), (54, B false), (57, B ((a0 == 3)))] [] ?_
  rcases fk ((a0 == 3)) with hc40 | hc40
  replace h := bT hc40 h
  rw [hc40]
  refine v 5 71 [(0, I a0), (7, I v6), (62, B ((decide (v6 < 0))))] [] ?_
  rcases fk ((decide (v6 < 0))) with hc34 | hc34
  replace h := bT hc34 h
  rw [hc34]
  refine v 7 71 [(69, B true)] [] ?_
  obtain ⟨v27, hv28, h⟩ := bindS h
  refine opsP_callF τ 70 (ok_impl_truthIf hv28) (FzTo.frz rfl) rfl (by kernel_rfl) ?_
  refine ve 1 71 [(6, I v27)] [] ?_
  cases h
  exact pwp_ret rz
  replace h := bF hc34 h
  rw [hc34]
  refine v 3 71 [(7, I v6), (62, B false), (65, B ((a0 == 4)))] [] ?_
  rcases fk ((a0 == 4)) with hc33 | hc33
  replace h := bT hc33 h
  rw [hc33]
  refine v 4 71 [(69, B ((decide (v6 ≤ 0))))] [] ?_
  obtain ⟨v29, hv30, h⟩ := bindS h
  refine opsP_callF τ 70 (ok_impl_truthIf hv30) (FzTo.frz rfl) rfl (by kernel_rfl) ?_
  refine ve 1 71 [(6, I v29)] [] ?_
  cases h
  exact pwp_ret rz
  replace h := bF hc33 h
  rw [hc33]
  refine v 4 71 [(69, B false)] [] ?_
  obtain ⟨v31, hv32, h⟩ := bindS h
  refine opsP_callF τ 70 (ok_impl_truthIf hv32) (FzTo.frz rfl) rfl (by kernel_rfl) ?_
  refine ve 1 71 [(6, I v31)] [] ?_
  cases h
  exact pwp_ret rz
  replace h := bF hc40 h
  rw [hc40]
  refine v 8 71 [(7, I v6), (62, B false), (65, B ((a0 == 4)))] [] ?_
  rcases fk ((a0 == 4)) with hc39 | hc39
  replace h := bT hc39 h
  rw [hc39]
  refine v 4 71 [(69, B ((decide (v6 ≤ 0))))] [] ?_
  obtain ⟨v35, hv36, h⟩ := bindS h
  refine opsP_callF τ 70 (ok_impl_truthIf hv36) (FzTo.frz rfl) rfl (by kernel_rfl) ?_
  refine ve 1 71 [(6, I v35)] [] ?_
  cases h
  exact pwp_ret rz
  replace h := bF hc39 h
  rw [hc39]
  refine v 4 71 [(69, B false)] [] ?_
  obtain ⟨v37, hv38, h⟩ := bindS h
  refine opsP_callF τ 70 (ok_impl_truthIf hv38) (FzTo.frz rfl) rfl (by kernel_rfl) ?_
  refine ve 1 71 [(6, I v37)] [] ?_
  cases h
  exact pwp_ret rz
  replace h := bF hc75 h
  rw [hc75]
  refine v 7 71 [(0, I a0), (7, I v6), (46, B false), (49, B ((a0 == 2)))] [] ?_
  rcases fk ((a0 == 2)) with hc74 | hc74
  replace h := bT hc74 h
  rw [hc74]
  refine v 5 71 [(0, I a0), (7, I v6), (54, B ((!(v6 == 0))))] [] ?_
  rcases fk ((!(v6 == 0))) with hc59 | hc59
  replace h := bT hc59 h
  rw [hc59]
  refine v 15 71 [(69, B true)] [] ?_
  obtain ⟨v43, hv44, h⟩ := bindS h
  refine opsP_callF τ 70 (ok_impl_truthIf hv44) (FzTo.frz rfl) rfl (by kernel_rfl) ?_
  refine ve 1 71 [(6, I v43)] [] ?_
  cases h
  exact pwp_ret rz
  replace h := bF hc59 h
  rw [hc59]
  refine v 3 71 [(0, I a0), (7, I v6), (54, B false), (57, B ((a0 == 3)))] [] ?_
  rcases fk ((a0 == 3)) with hc58 | hc58
  replace h := bT hc58 h
  rw [hc58]
  refine v 5 71 [(0, I a0), (7, I v6), (62, B ((decide (v6 < 0))))] [] ?_
  rcases fk ((decide (v6 < 0))) with hc52 | hc52
  replace h := bT hc52 h
  rw [hc52]
  refine v 7 71 [(69, B true)] [] ?_
  obtain ⟨v45, hv46, h⟩ := bindS h
  refine opsP_callF τ 70 (ok_impl_truthIf hv46) (FzTo.frz rfl) rfl (by kernel_rfl) ?_
  refine ve 1 71 [(6, I v45)] [] ?_
  cases h
  exact pwp_ret rz
  replace h := bF hc52 h
  rw [hc52]
  refine v 3 71 [(7, I v6), (62, B false), (65, B ((a0 == 4)))] [] ?_
  rcases fk ((a0 == 4)) with hc51 | hc51
  replace h := bT hc51 h
  rw [hc51]
  refine v 4 71 [(69, B ((decide (v6 ≤ 0))))] [] ?_
  obtain ⟨v47, hv48, h⟩ := bindS h
  refine opsP_callF τ 70 (ok_impl_truthIf hv48) (FzTo.frz rfl) rfl (by kernel_rfl) ?_
  refine ve 1 71 [(6, I v47)] [] ?_
  cases h
  exact pwp_ret rz
  replace h := bF hc51 h
  rw [hc51]
  refine v 4 71 [(69, B false)] [] ?_
  obtain ⟨v49, hv50, h⟩ := bindS h
  refine opsP_callF τ 70 (ok_impl_truthIf hv50) (FzTo.frz rfl) rfl (by kernel_rfl) ?_
  refine ve 1 71 [(6, I v49)] [] ?_
  cases h
  exact pwp_ret rz
  replace h := bF hc58 h
  rw [hc58]
  refine v 8 71 [(7, I v6), (62, B false), (65, B ((a0 == 4)))] [] ?_
  rcases fk ((a0 == 4)) with hc57 | hc57
  replace h := bT hc57 h
  rw [hc57]
  refine v 4 71 [(69, B ((decide (v6 ≤ 0))))] [] ?_
  obtain ⟨v53, hv54, h⟩ := bindS h
  refine opsP_callF τ 70 (ok_impl_truthIf hv54) (FzTo.frz rfl) rfl (by kernel_rfl) ?_
  refine ve 1 71 [(6, I v53)] [] ?_
  cases h
  exact pwp_ret rz
  replace h := bF hc57 h
  rw [hc57]
  refine v 4 71 [(69, B false)] [] ?_
  obtain ⟨v55, hv56, h⟩ := bindS h
  refine opsP_callF τ 70 (ok_impl_truthIf hv56) (FzTo.frz rfl) rfl (by kernel_rfl) ?_
  refine ve 1 71 [(6, I v55)] [] ?_
  cases h
  exact pwp_ret rz
  replace h := bF hc74 h
  rw [hc74]
  refine v 8 71 [(0, I a0), (7, I v6), (54, B false), (57, B ((a0 == 3)))] [] ?_
  rcases fk ((a0 == 3)) with hc73 | hc73
  replace h := bT hc73 h
  rw [hc73]
  refine v 5 71 [(0, I a0), (7, I v6), (62, B ((decide (v6 < 0))))] [] ?_
  rcases fk ((decide (v6 < 0))) with hc67 | hc67
  replace h := bT hc67 h
  rw [hc67]
  refine v 7 71 [(69, B true)] [] ?_
  obtain ⟨v60, hv61, h⟩ := bindS h
  refine opsP_callF τ 70 (ok_impl_truthIf hv61) (FzTo.frz rfl) rfl (by kernel_rfl) ?_
  refine ve 1 71 [(6, I v60)] [] ?_
  cases h
  exact pwp_ret rz
  replace h := bF hc67 h
  rw [hc67]
  refine v 3 71 [(7, I v6), (62, B false), (65, B ((a0 == 4)))] [] ?_
  rcases fk ((a0 == 4)) with hc66 | hc66
  replace h := bT hc66 h
  rw [hc66]
  refine v 4 71 [(69, B ((decide (v6 ≤ 0))))] [] ?_
  obtain ⟨v62, hv63, h⟩ := bindS h
  refine opsP_callF τ 70 (ok_impl_truthIf hv63) (FzTo.frz rfl) rfl (by kernel_rfl) ?_
  refine ve 1 71 [(6, I v62)] [] ?_
  cases h
  exact pwp_ret rz
  replace h := bF hc66 h
  rw [hc66]
  refine v 4 71 [(69, B false)] [] ?_
  obtain ⟨v64, hv65, h⟩ := bindS h
  refine opsP_callF τ 70 (ok_impl_truthIf hv65) (FzTo.frz rfl) rfl (by kernel_rfl) ?_
  refine ve 1 71 [(6, I v64)] [] ?_
  cases h
  exact pwp_ret rz
  replace h := bF hc73 h
  rw [hc73]
  refine v 8 71 [(7, I v6), (62, B false), (65, B ((a0 == 4)))] [] ?_
  rcases fk ((a0 == 4)) with hc72 | hc72
  replace h := bT hc72 h
  rw [hc72]
  refine v 4 71 [(69, B ((decide (v6 ≤ 0))))] [] ?_
  obtain ⟨v68, hv69, h⟩ := bindS h
  refine opsP_callF τ 70 (ok_impl_truthIf hv69) (FzTo.frz rfl) rfl (by kernel_rfl) ?_
  refine ve 1 71 [(6, I v68)] [] ?_
  cases h
  exact pwp_ret rz
  replace h := bF hc72 h
  rw [hc72]
  refine v 4 71 [(69, B false)] [] ?_
  obtain ⟨v70, hv71, h⟩ := bindS h
  refine opsP_callF τ 70 (ok_impl_truthIf hv71) (FzTo.frz rfl) rfl (by kernel_rfl) ?_
  refine ve 1 71 [(6, I v70)] [] ?_
  cases h
  exact pwp_ret rz
def impl_RowsOk_1 (a0 : List T_impl_Value) (b0 : List T_impl_Column) : Option Bool := (impl_RowFits b0 a0).bind fun v1 => some ((!v1))
theorem ok_impl_RowsOk_1 {a0 : List T_impl_Value} {b0 : List T_impl_Column} {y : Bool} (h : impl_RowsOk_1 a0 b0 = some y) : OK Tryz.prog 182 [A a0, .fptr (Enc.cells b0) 0] (B y) := by
  refine OK_of_pwp τ_ok Tryz.func182 rfl (by kernel_rfl) rfl fun Γ hX => ?_
  unfold impl_RowsOk_1 at h
  refine srve 8 [(0, A a0), (1, .fptr (Enc.cells b0) 0)] [] ?_
  refine srv 2 8 [(4, A b0), (5, A a0)] [] ?_
  obtain ⟨v1, hv2, h⟩ := bindS h
  refine opsP_callF τ 6 (ok_impl_RowFits hv2) (FzTo.frz rfl) rfl (by kernel_rfl) ?_
  refine ve 2 8 [(3, B ((!v1)))] [] ?_
  cases h
  exact pwp_ret rz
def impl_ExprKind_j2 (a0 : List T_impl_Column) (x4 : Int) (x5 : List Int) (K7 : Int → (List Int) → Option Int) (v9 : T_impl_Part) (v11 : Int) (x13 : Bool) : Option Int := bif x13 then some (-1) else (slI x5 (some ((w64 (((x5.length : Int)) - v11)))) none none).bind fun v15 => (impl_Part_kind v9 a0 v15).bind fun v17 => bif (!v17.2) then some (-1) else (slI x5 none (some ((w64 (((x5.length : Int)) - v11)))) none).bind fun v20 => (appT x5 (([v17.1] : List Int)) v20.length).bind fun v22 => K7 ((w64 (x4 + 1))) v22
def impl_ExprKind_l1 (a0 : List T_impl_Column) (a1 : List T_impl_Part) : Nat → Int → (List Int) → Option Int
  | 0, _, _ => none
  | f6 + 1, x4, x5 => bif (decide (x4 < ((a1.length : Int)))) then (getI a1 x4).bind fun v9 => (impl_Part_takes v9).bind fun v11 => (impl_Part_tells v9 a0).bind fun v24 => bif (!v24) then impl_ExprKind_j2 a0 x4 x5 (impl_ExprKind_l1 a0 a1 f6) v9 v11 true else impl_ExprKind_j2 a0 x4 x5 (impl_ExprKind_l1 a0 a1 f6) v9 v11 ((decide (((x5.length : Int)) < v11))) else bif (!(((x5.length : Int)) == 1)) then some (-1) else (getI x5 0).bind fun v28 => some v28
def impl_ExprKind_j0 (a0 : List T_impl_Column) (a1 : List T_impl_Part) (x1 : Bool) : Option Int := bif x1 then some (-1) else impl_ExprKind_l1 a0 a1 FUEL 0 (([] : List Int))
def impl_ExprKind (a0 : List T_impl_Column) (a1 : List T_impl_Part) : Option Int := (impl_ColumnsOk a0).bind fun v30 => bif (!v30) then impl_ExprKind_j0 a0 a1 true else impl_ExprKind_j0 a0 a1 ((decide (((a1.length : Int)) > 12)))
theorem ok_impl_ExprKind {a0 : List T_impl_Column} {a1 : List T_impl_Part} {y : Int} (h : impl_ExprKind a0 a1 = some y) : OK Tryz.prog 78 [A a0, A a1] (I y) := by
  refine OK_of_pwp τ_ok Tryz.func78 rfl (by kernel_rfl) rfl fun Γ hX => ?_
  unfold impl_ExprKind at h
  refine srveM [7] 67 [(0, A a0), (1, A a1)] [] ?_
  refine pwp_seq ?_
  refine pwp_seq ?_
  refine pwp_join (σ := Bool) (fun x1 => (⟨67, [(0, A a0), (1, A a1), (18, B x1)], []⟩ : St)) (fun x1 => impl_ExprKind_j0 a0 a1 x1 = some y) ?_ ?_
  refine rvM [7] 1 67 [(0, A a0), (1, A a1), (11, A a0)] [] ?_
  obtain ⟨v30, hv31, h⟩ := bindS h
  refine opsP_callF τ 12 (ok_impl_ColumnsOk hv31) (FzTo.frz rfl) rfl (by kernel_rfl) ?_
  refine vM [7] 2 67 [(0, A a0), (1, A a1), (14, B ((!v30)))] [] ?_
  rcases fk ((!v30)) with hc32 | hc32
  replace h := bT hc32 h
  rw [hc32]
  refine veM [7] 4 67 [(0, A a0), (1, A a1), (18, B true)] [] ?_
  exact ⟨true, h, (Imp.to (st' := ⟨67, [(0, A a0), (1, A a1), (18, B true)], []⟩) [0, 1, 18] (by kernel_rfl)).trans (Imp.to [0, 1, 18] (by kernel_rfl))⟩
  replace h := bF hc32 h
  rw [hc32]
  refine veM [7] 4 67 [(0, A a0), (1, A a1), (18, B ((decide (((a1.length : Int)) > 12))))] [] ?_
  exact ⟨(decide (((a1.length : Int)) > 12)), h, (Imp.to (st' := ⟨67, [(0, A a0), (1, A a1), (18, B ((decide (((a1.length : Int)) > 12))))], []⟩) [0, 1, 18] (by kernel_rfl)).trans (Imp.to [0, 1, 18] (by kernel_rfl))⟩
  rintro x1 h
  unfold impl_ExprKind_j0 at h
  refine pc h (fun h => ?_) (fun h => ?_)
  refine srveM [7] 67 [(4, I (-1))] [] ?_
  cases h
  exact pwp_ret rz
  refine pwp_skip ?_
  refine srveM [7] 67 [(0, A a0), (1, A a1), (5, .arr 1 0 (eL ([] : List Int)) true)] [] ?_
  refine pwp_seq ?_
  refine srveM [7] 67 [(0, A a0), (5, .arr 1 0 (eL ([] : List Int)) true), (19, A a1), (20, I ((a1.length : Int))), (21, I 0)] [] ?_
  refine pwp_block ?_
  refine pwp_loop (ι := Nat × Int × (List Int)) (fun (f6, x4, x5) => (⟨67, [(0, A a0), (5, .ref 0 0 0 1 x5.length false), (19, A a1), (20, I ((a1.length : Int))), (21, I x4)], [some ⟨0, eL x5⟩]⟩ : St)) (fun (f6, x4, x5) => impl_ExprKind_l1 a0 a1 f6 x4 x5 = some y) (fun (f6, x4, x5) => f6) (FUEL, 0, ([] : List Int)) h ((Imp.to (st' := ⟨67, [(0, A a0), (5, .arr 1 0 (eL ([] : List Int)) true), (19, A a1), (20, I ((a1.length : Int))), (21, I 0)], []⟩) [0, 5, 19, 20, 21] (by kernel_rfl)).trans ((Imp.thawS (st' := ⟨67, [(0, A a0), (5, .ref 0 0 0 1 (([] : List Int)).length false), (19, A a1), (20, I ((a1.length : Int))), (21, I 0)], [some ⟨0, eL (([] : List Int))⟩]⟩) 5 [0, 5, 19, 20, 21] (by kernel_rfl)).trans (Imp.to [0, 5, 19, 20, 21] (by kernel_rfl)))) ?_
  rintro ⟨f6, x4, x5⟩ h
  dsimp only at h ⊢
  rcases f6 with _ | f6
  cases h
  rw [impl_ExprKind_l1] at h
  refine srveM [7] 67 [(0, A a0), (5, .ref 0 0 0 1 x5.length false), (19, A a1), (20, I ((a1.length : Int))), (21, I x4), (22, B ((decide (x4 < ((a1.length : Int))))))] [some ⟨0, eL x5⟩] ?_
  refine pwp_seq ?_
  refine pc h (fun h => ?_) (fun h => ?_)
  refine pwp_skip ?_
  refine pwp_seq ?_
  refine pwp_block ?_
  refine pwp_seq ?_
  refine pwp_region ?_
  obtain ⟨v9, hv10, h⟩ := bindS h
  refine opsP_idx τ_ok 23 hv10 (by kernel_rfl) ?_
  refine veM [7] 3 67 [(0, A a0), (5, .ref 0 0 0 1 x5.length false), (7, .ptr 1 0 0), (19, A a1), (20, I ((a1.length : Int))), (21, I x4)] [some ⟨0, eL x5⟩, some ⟨0, Enc.cells v9⟩] ?_
  refine srvM [7] 1 67 [(0, A a0), (5, .ref 0 0 0 1 x5.length false), (7, .ptr 1 0 0), (19, A a1), (20, I ((a1.length : Int))), (21, I x4), (25, E v9)] [some ⟨0, eL x5⟩, some ⟨0, Enc.cells v9⟩] ?_
  obtain ⟨v11, hv12, h⟩ := bindS h
  refine opsP_callF τ 26 (ok_impl_Part_takes hv12) (FzTo.frz rfl) rfl (by kernel_rfl) ?_
  refine veM [7] 1 67 [(0, A a0), (5, .ref 0 0 0 1 x5.length false), (7, .ptr 1 0 0), (8, I v11), (19, A a1), (20, I ((a1.length : Int))), (21, I x4)] [some ⟨0, eL x5⟩, some ⟨0, Enc.cells v9⟩] ?_
  refine pwp_seq ?_
  refine pwp_seq ?_
  refine pwp_join (σ := Bool) (fun x13 => (⟨67, [(0, A a0), (5, .ref 0 0 0 1 x5.length false), (7, .ptr 1 0 0), (8, I v11), (19, A a1), (20, I ((a1.length : Int))), (21, I x4), (36, B x13)], [some ⟨0, eL x5⟩, some ⟨0, Enc.cells v9⟩]⟩ : St)) (fun x13 => impl_ExprKind_j2 a0 x4 x5 (impl_ExprKind_l1 a0 a1 f6) v9 v11 x13 = some y) ?_ ?_
  refine rvM [7] 2 67 [(0, A a0), (5, .ref 0 0 0 1 x5.length false), (7, .ptr 1 0 0), (8, I v11), (19, A a1), (20, I ((a1.length : Int))), (21, I x4), (27, E v9), (28, A a0)] [some ⟨0, eL x5⟩, some ⟨0, Enc.cells v9⟩] ?_
  obtain ⟨v24, hv25, h⟩ := bindS h
  refine opsP_callF τ 29 (ok_impl_Part_tells hv25) (FzTo.frz rfl) rfl (by kernel_rfl) ?_
  refine vM [7] 2 67 [(0, A a0), (5, .ref 0 0 0 1 x5.length false), (7, .ptr 1 0 0), (8, I v11), (19, A a1), (20, I ((a1.length : Int))), (21, I x4), (31, B ((!v24)))] [some ⟨0, eL x5⟩, some ⟨0, Enc.cells v9⟩] ?_
  rcases fk ((!v24)) with hc26 | hc26
  replace h := bT hc26 h
  rw [hc26]
  refine veM [7] 5 67 [(0, A a0), (5, .ref 0 0 0 1 x5.length false), (7, .ptr 1 0 0), (8, I v11), (19, A a1), (20, I ((a1.length : Int))), (21, I x4), (32, .lit undef), (33, .lit undef), (34, .lit undef), (35, .lit undef), (36, B true)] [some ⟨0, eL x5⟩, some ⟨0, Enc.cells v9⟩] ?_
  exact ⟨true, h, (Imp.to (st' := ⟨67, [(0, A a0), (5, .ref 0 0 0 1 x5.length false), (7, .ptr 1 0 0), (8, I v11), (19, A a1), (20, I ((a1.length : Int))), (21, I x4), (36, B true)], [some ⟨0, eL x5⟩, some ⟨0, Enc.cells v9⟩]⟩) [0, 5, 7, 8, 19, 20, 21, 36] (by kernel_rfl)).trans (Imp.to [0, 5, 7, 8, 19, 20, 21, 36] (by kernel_rfl))⟩
  replace h := bF hc26 h
  rw [hc26]
  refine veM [7] 5 67 [(0, A a0), (5, .ref 0 0 0 1 x5.length false), (7, .ptr 1 0 0), (8, I v11), (19, A a1), (20, I ((a1.length : Int))), (21, I x4), (32, .ref 0 0 0 1 x5.length false), (33, I ((x5.length : Int))), (34, I v11), (35, B ((decide (((x5.length : Int)) < v11)))), (36, B ((decide (((x5.length : Int)) < v11))))] [some ⟨0, eL x5⟩, some ⟨0, Enc.cells v9⟩] ?_
  exact ⟨(decide (((x5.length : Int)) < v11)), h, (Imp.to (st' := ⟨67, [(0, A a0), (5, .ref 0 0 0 1 x5.length false), (7, .ptr 1 0 0), (8, I v11), (19, A a1), (20, I ((a1.length : Int))), (21, I x4), (36, B ((decide (((x5.length : Int)) < v11))))], [some ⟨0, eL x5⟩, some ⟨0, Enc.cells v9⟩]⟩) [0, 5, 7, 8, 19, 20, 21, 36] (by kernel_rfl)).trans (Imp.to [0, 5, 7, 8, 19, 20, 21, 36] (by kernel_rfl))⟩
  rintro x13 h
  unfold impl_ExprKind_j2 at h
  refine pc h (fun h => ?_) (fun h => ?_)
  refine srveM [7] 67 [(4, I (-1))] [some ⟨0, eL x5⟩, some ⟨0, Enc.cells v9⟩] ?_
  cases h
  exact pwp_ret rz
  refine pwp_skip ?_
  refine pwp_seq ?_
  refine pwp_imp (Imp.to (st' := ⟨67, [(0, A a0), (5, .ref 0 0 0 1 x5.length false), (7, .ptr 1 0 0), (8, I v11), (19, A a1), (20, I ((a1.length : Int))), (21, I x4)], [some ⟨0, eL x5⟩, some ⟨0, Enc.cells v9⟩]⟩) [0, 5, 7, 8, 19, 20, 21] (by kernel_rfl)) ?_
  refine pwp_any ([[1], [], [0], [0], [0], [], [], [0], [0], [], [], [], [], []]) ([[], [], [], [], [], [], [], [], [], [], [], [], [], []]) rfl (by kernel_rfl) ?_
  refine qA_ev (st' := ⟨67, [(38, E v9), (0, A a0), (5, .ref 0 0 0 1 x5.length false), (7, .ptr 1 0 0), (8, I v11), (19, A a1), (20, I ((a1.length : Int))), (21, I x4)], [some ⟨0, eL x5⟩, some ⟨0, Enc.cells v9⟩]⟩) τ_ok [7] [1] 1 (by exact (And.intro (.inl (Enc.frz _)) trivial)) (by kernel_rfl) ?_
  refine qA_ev (st' := ⟨67, [(39, A a0), (38, E v9), (0, A a0), (5, .ref 0 0 0 1 x5.length false), (7, .ptr 1 0 0), (8, I v11), (19, A a1), (20, I ((a1.length : Int))), (21, I x4)], [some ⟨0, eL x5⟩, some ⟨0, Enc.cells v9⟩]⟩) τ_ok [7] [] 1 (by exact trivial) (by kernel_rfl) ?_
  refine qA_ev (st' := ⟨67, [(42, I ((x5.length : Int))), (41, .ref 0 0 0 1 x5.length false), (40, .ref 0 0 0 1 x5.length false), (39, A a0), (38, E v9), (0, A a0), (5, .ref 0 0 0 1 x5.length false), (7, .ptr 1 0 0), (8, I v11), (19, A a1), (20, I ((a1.length : Int))), (21, I x4)], [some ⟨0, eL x5⟩, some ⟨0, Enc.cells v9⟩]⟩) τ_ok [7] [0] 3 (by exact (And.intro (.inl (eL_frz _)) trivial)) (by kernel_rfl) ?_
  refine qA_ev (st' := ⟨67, [(44, I ((w64 (((x5.length : Int)) - v11)))), (43, I v11), (42, I ((x5.length : Int))), (41, .ref 0 0 0 1 x5.length false), (40, .ref 0 0 0 1 x5.length false), (39, A a0), (38, E v9), (0, A a0), (5, .ref 0 0 0 1 x5.length false), (7, .ptr 1 0 0), (8, I v11), (19, A a1), (20, I ((a1.length : Int))), (21, I x4)], [some ⟨0, eL x5⟩, some ⟨0, Enc.cells v9⟩]⟩) τ_ok [7] [] 2 (by exact trivial) (by kernel_rfl) ?_
  obtain ⟨v15, hv16, h⟩ := bindS h
  refine qA_E (dd := some 45) (x := .ref 0 0 ((w64 (((x5.length : Int)) - v11)).toNat * 1) 1 v15.length false) ([some ⟨0, eL x5⟩, none]) (⟨67, [(45, .ref 0 0 ((w64 (((x5.length : Int)) - v11)).toNat * 1) 1 v15.length false), (44, I ((w64 (((x5.length : Int)) - v11)))), (43, I v11), (42, I ((x5.length : Int))), (41, .ref 0 0 0 1 x5.length false), (40, .ref 0 0 0 1 x5.length false), (39, A a0), (38, E v9), (0, A a0), (5, .ref 0 0 0 1 x5.length false), (7, .ptr 1 0 0), (8, I v11), (19, A a1), (20, I ((a1.length : Int))), (21, I x4)], [some ⟨0, eL x5⟩, some ⟨0, Enc.cells v9⟩]⟩) (fun Γ' hΓ => CoreE.of_y (slrV_sound (n := x5.length) τ_ok (by kernel_rfl) rfl hv16)) (by kernel_rfl) (by kernel_rfl) (by exact (And.intro (.inl (eL_frz _)) trivial)) (.inr (.inl rfl)) (by kernel_rfl) ?_
  obtain ⟨v17, hv18, h⟩ := bindS h
  refine qA_E (dd := some 46) (x := .tup [I v17.1, B v17.2]) ([some ⟨0, eL x5⟩, none]) (⟨67, [(46, .tup [I v17.1, B v17.2]), (45, .ref 0 0 ((w64 (((x5.length : Int)) - v11)).toNat * 1) 1 v15.length false), (44, I ((w64 (((x5.length : Int)) - v11)))), (43, I v11), (42, I ((x5.length : Int))), (41, .ref 0 0 0 1 x5.length false), (40, .ref 0 0 0 1 x5.length false), (39, A a0), (38, E v9), (0, A a0), (5, .ref 0 0 0 1 x5.length false), (7, .ptr 1 0 0), (8, I v11), (19, A a1), (20, I ((a1.length : Int))), (21, I x4)], [some ⟨0, eL x5⟩, some ⟨0, Enc.cells v9⟩]⟩) (fun Γ' hΓ => CoreE.of_g (callVV_sound (xs := [E v9, A a0, .ref 0 0 ((w64 (((x5.length : Int)) - v11)).toNat * 1) 1 v15.length false]) (τ := τ) (by kernel_rfl) (ViewL.cons (View.frz rfl) (ViewL.cons (View.frz rfl) (ViewL.cons (View.ref (v := 0) (lo := (w64 (((x5.length : Int)) - v11)).toNat) x5 v15 (by kernel_rfl) (slI_view hv16) rfl) (ViewL.nil _)))) (ok_impl_Part_kind hv18) (Blind.tup (BlindL.cons (Blind.lit _) (BlindL.cons (Blind.lit _) BlindL.nil))) (FzTo.tup (FzToL.cons (FzTo.frz rfl) (FzToL.cons (FzTo.frz rfl) FzToL.nil))))) (by kernel_rfl) (by kernel_rfl) (by exact (And.intro (.inl (eL_frz _)) trivial)) (.inr (.inr rfl)) (by kernel_rfl) ?_
  refine qA_ev (st' := ⟨67, [(10, B v17.2), (9, I v17.1), (48, B v17.2), (47, I v17.1), (37, .tup [I v17.1, B v17.2]), (46, .tup [I v17.1, B v17.2]), (45, .ref 0 0 ((w64 (((x5.length : Int)) - v11)).toNat * 1) 1 v15.length false), (44, I ((w64 (((x5.length : Int)) - v11)))), (43, I v11), (42, I ((x5.length : Int))), (41, .ref 0 0 0 1 x5.length false), (40, .ref 0 0 0 1 x5.length false), (39, A a0), (38, E v9), (0, A a0), (5, .ref 0 0 0 1 x5.length false), (7, .ptr 1 0 0), (8, I v11), (19, A a1), (20, I ((a1.length : Int))), (21, I x4)], [some ⟨0, eL x5⟩, some ⟨0, Enc.cells v9⟩]⟩) τ_ok [7] [] 5 (by exact trivial) (by kernel_rfl) ?_
  refine qA_end ?_
  refine opsP_imp (Imp.to (st' := ⟨67, [(0, A a0), (5, .ref 0 0 0 1 x5.length false), (8, I v11), (9, I v17.1), (10, B v17.2), (19, A a1), (20, I ((a1.length : Int))), (21, I x4)], [some ⟨0, eL x5⟩, some ⟨0, Enc.cells v9⟩]⟩) [0, 5, 8, 9, 10, 19, 20, 21] (by kernel_rfl)) ?_
  refine opsP_end rfl ?_
  refine pwp_seq ?_
  refine srveM [7] 67 [(0, A a0), (5, .ref 0 0 0 1 x5.length false), (8, I v11), (9, I v17.1), (19, A a1), (20, I ((a1.length : Int))), (21, I x4), (50, B ((!v17.2)))] [some ⟨0, eL x5⟩, some ⟨0, Enc.cells v9⟩] ?_
  refine pc h (fun h => ?_) (fun h => ?_)
  refine srveM [7] 67 [(4, I (-1))] [some ⟨0, eL x5⟩, some ⟨0, Enc.cells v9⟩] ?_
  cases h
  exact pwp_ret rz
  refine pwp_skip ?_
  refine rvM [7] 5 67 [(0, A a0), (9, I v17.1), (19, A a1), (20, I ((a1.length : Int))), (21, I x4), (51, .ref 0 0 0 1 x5.length false), (55, I ((w64 (((x5.length : Int)) - v11))))] [some ⟨0, eL x5⟩, some ⟨0, Enc.cells v9⟩] ?_
  obtain ⟨v20, hv21, h⟩ := bindS h
  refine opsP_slr τ_ok 56 0 0 x5.length hv21 rfl (by kernel_rfl) ?_
  refine vM [7] 2 67 [(0, A a0), (19, A a1), (20, I ((a1.length : Int))), (21, I x4), (56, .ref 0 0 0 1 v20.length false), (58, .arr 1 (([v17.1] : List Int)).length (eL ([v17.1] : List Int)) true)] [some ⟨0, eL x5⟩, some ⟨0, Enc.cells v9⟩] ?_
  obtain ⟨v22, hv23, h⟩ := bindS h
  refine opsP_apt τ_ok 59 0 0 v20.length (fun b hb => absurd hb (hX b)) hv23 (slI_le hv21) (by kernel_rfl) ?_
  refine veM [7] 1 67 [(0, A a0), (5, .ref 0 1 0 1 v22.length false), (19, A a1), (20, I ((a1.length : Int))), (21, I x4)] [some ⟨1, eL v22⟩, some ⟨0, Enc.cells v9⟩] ?_
  refine rveM [7] 67 [(0, A a0), (5, .ref 0 1 0 1 v22.length false), (19, A a1), (20, I ((a1.length : Int))), (21, I ((w64 (x4 + 1))))] [some ⟨1, eL v22⟩, some ⟨0, Enc.cells v9⟩] ?_
  exact ⟨(f6, (w64 (x4 + 1)), v22), h, Nat.lt_succ_self _, (Imp.to (st' := ⟨67, [(0, A a0), (5, .ref 0 1 0 1 v22.length false), (19, A a1), (20, I ((a1.length : Int))), (21, I ((w64 (x4 + 1))))], [some ⟨1, eL v22⟩, some ⟨0, Enc.cells v9⟩]⟩) [0, 5, 19, 20, 21] (by kernel_rfl)).trans ((Imp.truncS (st' := ⟨67, [(0, A a0), (5, .ref 0 1 0 1 v22.length false), (19, A a1), (20, I ((a1.length : Int))), (21, I ((w64 (x4 + 1))))], [some ⟨1, eL v22⟩]⟩) 1 (fun b hb => absurd hb (hX b)) (by kernel_rfl) (allBelow_mem (by exact (And.intro rfl (And.intro rfl (And.intro rfl (And.intro rfl (And.intro rfl trivial))))))) (by exact (And.intro (frz_below (eL_frz _)) trivial)) (by kernel_rfl)).trans ((Imp.reverS (st' := ⟨67, [(0, A a0), (5, .ref 0 0 0 1 v22.length false), (19, A a1), (20, I ((a1.length : Int))), (21, I ((w64 (x4 + 1))))], [some ⟨0, eL v22⟩]⟩) 0 1 (eL v22) [0, 5, 19, 20, 21] (by kernel_rfl) (by exact (And.intro (eL_frz _) trivial)) (by kernel_rfl)).trans (Imp.to [0, 5, 19, 20, 21] (by kernel_rfl))))⟩
  refine pwp_exit ?_
  refine pwp_seq ?_
  refine srveM [7] 67 [(5, .ref 0 0 0 1 x5.length false), (63, B ((!(((x5.length : Int)) == 1))))] [some ⟨0, eL x5⟩] ?_
  refine pc h (fun h => ?_) (fun h => ?_)
  refine srveM [7] 67 [(4, I (-1))] [some ⟨0, eL x5⟩] ?_
  cases h
  exact pwp_ret rz
  refine pwp_skip ?_
  refine srvM [7] 1 67 [(64, .ref 0 0 0 1 x5.length false)] [some ⟨0, eL x5⟩] ?_
  obtain ⟨v28, hv29, h⟩ := bindS h
  refine opsP_idr τ_ok 65 0 0 x5.length hv29 rfl (by kernel_rfl) ?_
  refine opsP_lde (r := I v28) τ_ok 66 3 0 hv29 (by kernel_rfl) (by kernel_rfl) ?_
  refine veM [7] 1 67 [(4, I v28)] [some ⟨0, eL x5⟩] ?_
  cases h
  exact pwp_ret rz
def spec_l23Ready (a0 : List T_impl_Column) (a1 : List T_impl_Column) (a2 : List (List T_impl_Value)) (a3 : List (List T_impl_Value)) (a4 : List T_impl_Part) : Option Bool := (app (([] : List T_impl_Column)) a0).bind fun v1 => (app v1 a1).bind fun v3 => (spec_RowsOk a0 a2).bind fun v5 => bif v5 then (spec_RowsOk a1 a3).bind fun v7 => bif v7 then (spec_ExprKind v3 a4).bind fun v9 => bif (v9 == 3) then bif (decide (((a2.length : Int)) ≤ 30)) then some ((decide (((a3.length : Int)) ≤ 30))) else some false else some false else some false else some false
theorem ok_spec_l23Ready {a0 : List T_impl_Column} {a1 : List T_impl_Column} {a2 : List (List T_impl_Value)} {a3 : List (List T_impl_Value)} {a4 : List T_impl_Part} {y : Bool} (h : spec_l23Ready a0 a1 a2 a3 a4 = some y) : OK Tryz.prog 91 [A a0, A a1, A a2, A a3, A a4] (B y) := by
  refine OK_of_pwp τ_ok Tryz.func91 rfl (by kernel_rfl) rfl fun Γ hX => ?_
  unfold spec_l23Ready at h
  refine srve 41 [(0, A a0), (1, A a1), (2, A a2), (3, A a3), (4, A a4)] [] ?_
  refine srv 2 41 [(0, A a0), (1, A a1), (2, A a2), (3, A a3), (4, A a4), (12, .arr 2 0 (eL ([] : List T_impl_Column)) true), (13, A a0)] [] ?_
  refine opsP_thaw 12 2 (by kernel_rfl) ?_
  obtain ⟨v1, hv2, h⟩ := bindS h
  refine opsP_app τ_ok 14 0 0 (fun b hb => absurd hb (hX b)) hv2 (by kernel_rfl) ?_
  refine v 1 41 [(0, A a0), (1, A a1), (2, A a2), (3, A a3), (4, A a4), (14, .ref 0 1 0 2 v1.length false), (15, A a1)] [some ⟨1, eL v1⟩] ?_
  obtain ⟨v3, hv4, h⟩ := bindS h
  refine opsP_app τ_ok 16 0 1 (fun b hb => absurd hb (hX b)) hv4 (by kernel_rfl) ?_
  refine ve 1 41 [(0, A a0), (1, A a1), (2, A a2), (3, A a3), (4, A a4), (11, .ref 0 2 0 2 v3.length false)] [some ⟨2, eL v3⟩] ?_
  refine srv 2 41 [(1, A a1), (2, A a2), (3, A a3), (4, A a4), (11, .ref 0 2 0 2 v3.length false), (17, A a0), (18, A a2)] [some ⟨2, eL v3⟩] ?_
  obtain ⟨v5, hv6, h⟩ := bindS h
  refine opsP_callF τ 19 (ok_spec_RowsOk hv6) (FzTo.frz rfl) rfl (by kernel_rfl) ?_
  refine v 1 41 [(1, A a1), (2, A a2), (3, A a3), (4, A a4), (11, .ref 0 2 0 2 v3.length false), (20, B v5)] [some ⟨2, eL v3⟩] ?_
  rcases Bool.eq_false_or_eq_true v5 with hc14 | hc14
  replace h := bT hc14 h
  rw [hc14]
  refine v 2 41 [(2, A a2), (3, A a3), (4, A a4), (11, .ref 0 2 0 2 v3.length false), (20, B true), (21, A a1), (22, A a3)] [some ⟨2, eL v3⟩] ?_
  obtain ⟨v7, hv8, h⟩ := bindS h
  refine opsP_callF τ 23 (ok_spec_RowsOk hv8) (FzTo.frz rfl) rfl (by kernel_rfl) ?_
  refine v 2 41 [(2, A a2), (3, A a3), (4, A a4), (11, .ref 0 2 0 2 v3.length false), (25, B v7)] [some ⟨2, eL v3⟩] ?_
  rcases Bool.eq_false_or_eq_true v7 with hc13 | hc13
  replace h := bT hc13 h
  rw [hc13]
  refine v 2 41 [(2, A a2), (3, A a3), (25, B true), (26, .ref 0 2 0 2 v3.length false), (27, A a4)] [some ⟨2, eL v3⟩] ?_
  obtain ⟨v9, hv10, h⟩ := bindS h
  refine opsP_callV (xs := [.ref 0 2 0 2 v3.length false, A a4]) τ 28 (ok_spec_ExprKind hv10) (Blind.lit _) (FzTo.frz rfl) (by kernel_rfl) (ViewL.cons (View.whole (v := 2) v3 (by kernel_rfl) rfl) (ViewL.cons (View.frz rfl) (ViewL.nil _))) ?_
  refine v 3 41 [(2, A a2), (3, A a3), (31, B ((v9 == 3)))] [some ⟨2, eL v3⟩] ?_
  rcases fk ((v9 == 3)) with hc12 | hc12
  replace h := bT hc12 h
  rw [hc12]
  refine v 5 41 [(3, A a3), (36, B ((decide (((a2.length : Int)) ≤ 30))))] [some ⟨2, eL v3⟩] ?_
  rcases fk ((decide (((a2.length : Int)) ≤ 30))) with hc11 | hc11
  replace h := bT hc11 h
  rw [hc11]
  refine ve 5 41 [(10, B ((decide (((a3.length : Int)) ≤ 30))))] [some ⟨2, eL v3⟩] ?_
  cases h
  exact pwp_ret rz
  replace h := bF hc11 h
  rw [hc11]
  refine ve 5 41 [(10, B false)] [some ⟨2, eL v3⟩] ?_
  cases h
  exact pwp_ret rz
  replace h := bF hc12 h
  rw [hc12]
  refine ve 10 41 [(10, B false)] [some ⟨2, eL v3⟩] ?_
  cases h
  exact pwp_ret rz
  replace h := bF hc13 h
  rw [hc13]
  refine ve 16 41 [(10, B false)] [some ⟨2, eL v3⟩] ?_
  cases h
  exact pwp_ret rz
  replace h := bF hc14 h
  rw [hc14]
  refine ve 21 41 [(10, B false)] [some ⟨2, eL v3⟩] ?_
  cases h
  exact pwp_ret rz
def spec_l6Holds (a0 : List T_impl_Value) (a1 : List T_impl_Part) : Option Bool := (spec_l4Value a0 a1).bind fun v1 => (spec_ValueOf 1).bind fun v3 => some ((eq_T_impl_Value v1 v3))
theorem ok_spec_l6Holds {a0 : List T_impl_Value} {a1 : List T_impl_Part} {y : Bool} (h : spec_l6Holds a0 a1 = some y) : OK Tryz.prog 99 [A a0, A a1] (B y) := by
  refine OK_of_pwp τ_ok Tryz.func99 rfl (by kernel_rfl) rfl fun Γ hX => ?_
  unfold spec_l6Holds at h
  refine srve 10 [(0, A a0), (1, A a1)] [] ?_
  refine srv 2 10 [(5, A a0), (6, A a1)] [] ?_
  obtain ⟨v1, hv2, h⟩ := bindS h
  refine opsP_callF τ 7 (ok_spec_l4Value hv2) (FzTo.frz rfl) rfl (by kernel_rfl) ?_
  obtain ⟨v3, hv4, h⟩ := bindS h
  refine opsP_callF τ 8 (ok_spec_ValueOf hv4) (FzTo.frz rfl) rfl (by kernel_rfl) ?_
  refine ve 2 10 [(4, B ((eq_T_impl_Value v1 v3)))] [] ?_
  cases h
  exact pwp_ret rz
def impl_Part_value_j0 (v6 : T_impl_Value) (v8 : T_impl_Value) (x10 : Bool) : Option T_impl_Value := bif x10 then some ((T_impl_Value.mk 0 0 (ByteArray.mk #[]))) else some ((T_impl_Value.mk 1 ((w64 (v6.fN + v8.fN))) (ByteArray.mk #[])))
def impl_Part_value (a0 : T_impl_Part) (a1 : List T_impl_Value) (a2 : List T_impl_Value) : Option T_impl_Value := bif (a0.fKind == 1) then some a0.fV else bif (a0.fKind == 2) then (getI a1 a0.fN).bind fun v3 => some v3 else bif (a0.fKind == 3) then (getI a2 0).bind fun v6 => (getI a2 1).bind fun v8 => (getI a2 0).bind fun v12 => bif (v12.fKind == 0) then impl_Part_value_j0 v6 v8 true else (getI a2 1).bind fun v14 => bif (v14.fKind == 0) then impl_Part_value_j0 v6 v8 true else (impl_Value_ok ((T_impl_Value.mk 1 ((w64 (v6.fN + v8.fN))) (ByteArray.mk #[])))).bind fun v16 => impl_Part_value_j0 v6 v8 ((!v16)) else bif (a0.fKind == 4) then (getI a2 0).bind fun v21 => (getI a2 1).bind fun v23 => (impl_Compare a0.fN v21 v23).bind fun v25 => (impl_ValueOf v25).bind fun v27 => some v27 else bif (a0.fKind == 5) then (getI a2 0).bind fun v30 => (impl_TruthOf v30).bind fun v32 => (getI a2 1).bind fun v34 => (impl_TruthOf v34).bind fun v36 => (impl_AndOf v32 v36).bind fun v38 => (impl_ValueOf v38).bind fun v40 => some v40 else bif (a0.fKind == 6) then (getI a2 0).bind fun v43 => (impl_TruthOf v43).bind fun v45 => (getI a2 1).bind fun v47 => (impl_TruthOf v47).bind fun v49 => (impl_OrOf v45 v49).bind fun v51 => (impl_ValueOf v51).bind fun v53 => some v53 else bif (a0.fKind == 7) then (getI a2 0).bind fun v56 => (impl_TruthOf v56).bind fun v58 => (impl_NotOf v58).bind fun v60 => (impl_ValueOf v60).bind fun v62 => some v62 else (getI a2 0).bind fun v64 => (impl_truthIf ((v64.fKind == 0))).bind fun v66 => (impl_ValueOf v66).bind fun v68 => some v68
theorem ok_impl_Part_value {a0 : T_impl_Part} {a1 : List T_impl_Value} {a2 : List T_impl_Value} {y : T_impl_Value} (h : impl_Part_value a0 a1 a2 = some y) : OK Tryz.prog 130 [E a0, A a1, A a2] (E y) := by
  refine OK_of_pwp τ_ok Tryz.func130 rfl (by kernel_rfl) rfl fun Γ hX => ?_
  unfold impl_Part_value at h
  refine srveM [6, 7] 103 [(1, A a1), (2, A a2), (3, .fptr (Enc.cells a0) 0), (6, .ptr 0 0 0)] [some ⟨0, Enc.cells ((T_impl_Value.mk 0 0 (ByteArray.mk #[])))⟩] ?_
  refine pwp_seq ?_
  refine srveM [6, 7] 103 [(1, A a1), (2, A a2), (3, .fptr (Enc.cells a0) 0), (6, .ptr 0 0 0), (9, I a0.fKind)] [some ⟨0, Enc.cells ((T_impl_Value.mk 0 0 (ByteArray.mk #[])))⟩] ?_
  refine pwp_block ?_
  refine srveM [6, 7] 103 [(1, A a1), (2, A a2), (3, .fptr (Enc.cells a0) 0), (6, .ptr 0 0 0), (9, I a0.fKind), (10, B ((a0.fKind == 1)))] [some ⟨0, Enc.cells ((T_impl_Value.mk 0 0 (ByteArray.mk #[])))⟩] ?_
  refine pc h (fun h => ?_) (fun h => ?_)
  refine srveM [6, 7] 103 [(6, .ptr 0 0 0)] [some ⟨0, Enc.cells a0.fV⟩] ?_
  cases h
  exact pwp_ret rz
  refine srveM [6, 7] 103 [(1, A a1), (2, A a2), (3, .fptr (Enc.cells a0) 0), (6, .ptr 0 0 0), (9, I a0.fKind), (14, B ((a0.fKind == 2)))] [some ⟨0, Enc.cells ((T_impl_Value.mk 0 0 (ByteArray.mk #[])))⟩] ?_
  refine pc h (fun h => ?_) (fun h => ?_)
  refine srvM [6, 7] 3 103 [(6, .ptr 0 0 0), (16, A a1), (18, I a0.fN)] [some ⟨0, Enc.cells ((T_impl_Value.mk 0 0 (ByteArray.mk #[])))⟩] ?_
  obtain ⟨v3, hv4, h⟩ := bindS h
  refine opsP_idx τ_ok 19 hv4 (by kernel_rfl) ?_
  refine veM [6, 7] 2 103 [(6, .ptr 0 0 0)] [some ⟨0, Enc.cells v3⟩] ?_
  cases h
  exact pwp_ret rz
  refine srveM [6, 7] 103 [(2, A a2), (3, .fptr (Enc.cells a0) 0), (6, .ptr 0 0 0), (9, I a0.fKind), (21, B ((a0.fKind == 3)))] [some ⟨0, Enc.cells ((T_impl_Value.mk 0 0 (ByteArray.mk #[])))⟩] ?_
  refine pc h (fun h => ?_) (fun h => ?_)
  refine pwp_seq ?_
  refine pwp_imp (Imp.to (st' := ⟨103, [(2, A a2), (6, .ptr 0 0 0)], [some ⟨0, Enc.cells ((T_impl_Value.mk 0 0 (ByteArray.mk #[])))⟩]⟩) [2, 6] (by kernel_rfl)) ?_
  refine pwp_imp (Imp.ghosts 1 (st' := ⟨103, [(2, A a2), (6, .ptr 0 0 0)], [some ⟨0, Enc.cells ((T_impl_Value.mk 0 0 (ByteArray.mk #[])))⟩, some ⟨0, []⟩]⟩) (by kernel_rfl)) ?_
  refine pwp_any ([[], [], [], [], [], [], [], [], [], [], [1], [1]]) ([[], [], [], [], [], [], [], [], [], [], [1], [1]]) rfl (by kernel_rfl) ?_
  refine qA_ev (st' := ⟨103, [(23, A a2), (2, A a2), (6, .ptr 0 0 0)], [some ⟨0, Enc.cells ((T_impl_Value.mk 0 0 (ByteArray.mk #[])))⟩, some ⟨0, []⟩]⟩) τ_ok [6, 7] [] 1 (by exact trivial) (by kernel_rfl) ?_
  obtain ⟨v6, hv7, h⟩ := bindS h
  refine qA_E (dd := some 24) (x := .fptr (Enc.cells v6) 0) ([none, none]) (⟨103, [(24, .fptr (Enc.cells v6) 0), (23, A a2), (2, A a2), (6, .ptr 0 0 0)], [some ⟨0, Enc.cells ((T_impl_Value.mk 0 0 (ByteArray.mk #[])))⟩, some ⟨0, []⟩]⟩) (fun Γ' hΓ => CoreE.of_y (idxV_sound τ_ok (by kernel_rfl) hv7)) (by kernel_rfl) (by kernel_rfl) (by exact trivial) (.inr (.inr rfl)) (by kernel_rfl) ?_
  refine qA_ev (st' := ⟨103, [(27, A a2), (26, I v6.fN), (25, .fptr (Enc.cells v6) 1), (24, .fptr (Enc.cells v6) 0), (23, A a2), (2, A a2), (6, .ptr 0 0 0)], [some ⟨0, Enc.cells ((T_impl_Value.mk 0 0 (ByteArray.mk #[])))⟩, some ⟨0, []⟩]⟩) τ_ok [6, 7] [] 3 (by exact trivial) (by kernel_rfl) ?_
  obtain ⟨v8, hv9, h⟩ := bindS h
  refine qA_E (dd := some 28) (x := .fptr (Enc.cells v8) 0) ([none, none]) (⟨103, [(28, .fptr (Enc.cells v8) 0), (27, A a2), (26, I v6.fN), (25, .fptr (Enc.cells v6) 1), (24, .fptr (Enc.cells v6) 0), (23, A a2), (2, A a2), (6, .ptr 0 0 0)], [some ⟨0, Enc.cells ((T_impl_Value.mk 0 0 (ByteArray.mk #[])))⟩, some ⟨0, []⟩]⟩) (fun Γ' hΓ => CoreE.of_y (idxV_sound τ_ok (by kernel_rfl) hv9)) (by kernel_rfl) (by kernel_rfl) (by exact trivial) (.inr (.inr rfl)) (by kernel_rfl) ?_
  refine qA_ev (st' := ⟨103, [(32, E ((T_impl_Value.mk 1 ((w64 (v6.fN + v8.fN))) (ByteArray.mk #[])))), (31, I ((w64 (v6.fN + v8.fN)))), (30, I v8.fN), (29, .fptr (Enc.cells v8) 1), (28, .fptr (Enc.cells v8) 0), (27, A a2), (26, I v6.fN), (25, .fptr (Enc.cells v6) 1), (24, .fptr (Enc.cells v6) 0), (23, A a2), (2, A a2), (6, .ptr 0 0 0)], [some ⟨0, Enc.cells ((T_impl_Value.mk 0 0 (ByteArray.mk #[])))⟩, some ⟨0, []⟩]⟩) τ_ok [6, 7] [] 4 (by exact trivial) (by kernel_rfl) ?_
  refine qA_E (dd := some 7) (x := .ptr 1 1 0) ([none, some ⟨1, Enc.cells ((T_impl_Value.mk 0 0 (ByteArray.mk #[])))⟩]) (⟨103, [(7, .ptr 1 1 0), (32, E ((T_impl_Value.mk 1 ((w64 (v6.fN + v8.fN))) (ByteArray.mk #[])))), (31, I ((w64 (v6.fN + v8.fN)))), (30, I v8.fN), (29, .fptr (Enc.cells v8) 1), (28, .fptr (Enc.cells v8) 0), (27, A a2), (26, I v6.fN), (25, .fptr (Enc.cells v6) 1), (24, .fptr (Enc.cells v6) 0), (23, A a2), (2, A a2), (6, .ptr 0 0 0)], [some ⟨0, Enc.cells ((T_impl_Value.mk 0 0 (ByteArray.mk #[])))⟩, some ⟨1, Enc.cells ((T_impl_Value.mk 0 0 (ByteArray.mk #[])))⟩]⟩) (fun Γ' hΓ => alc_E (blk := ⟨0, []⟩) τ_ok [6, 7] 7 1 0 (fun b hb => absurd (hΓ b hb) (hX b)) (by kernel_rfl) (by kernel_rfl)) (by kernel_rfl) (by kernel_rfl) (by exact (And.intro (.inl (Enc.frz _)) trivial)) (.inr (.inl rfl)) (by kernel_rfl) ?_
  refine qA_E (dd := none) (x := .any) ([none, some ⟨1, Enc.cells ((T_impl_Value.mk 1 ((w64 (v6.fN + v8.fN))) (ByteArray.mk #[])))⟩]) (⟨103, [(7, .ptr 1 1 0), (32, E ((T_impl_Value.mk 1 ((w64 (v6.fN + v8.fN))) (ByteArray.mk #[])))), (31, I ((w64 (v6.fN + v8.fN)))), (30, I v8.fN), (29, .fptr (Enc.cells v8) 1), (28, .fptr (Enc.cells v8) 0), (27, A a2), (26, I v6.fN), (25, .fptr (Enc.cells v6) 1), (24, .fptr (Enc.cells v6) 0), (23, A a2), (2, A a2), (6, .ptr 0 0 0)], [some ⟨0, Enc.cells ((T_impl_Value.mk 0 0 (ByteArray.mk #[])))⟩, some ⟨1, Enc.cells ((T_impl_Value.mk 1 ((w64 (v6.fN + v8.fN))) (ByteArray.mk #[])))⟩]⟩) (fun Γ' hΓ => sto_E τ_ok 1 1 (by kernel_rfl)) (by kernel_rfl) (by kernel_rfl) (by exact (And.intro (.inl (Enc.frz _)) trivial)) (.inl rfl) (by kernel_rfl) ?_
  refine qA_end ?_
  refine opsP_imp (Imp.to (st' := ⟨103, [(2, A a2), (6, .ptr 0 0 0), (7, .ptr 1 1 0)], [some ⟨0, Enc.cells ((T_impl_Value.mk 0 0 (ByteArray.mk #[])))⟩, some ⟨1, Enc.cells ((T_impl_Value.mk 1 ((w64 (v6.fN + v8.fN))) (ByteArray.mk #[])))⟩]⟩) [2, 6, 7] (by kernel_rfl)) ?_
  refine opsP_end rfl ?_
  refine pwp_seq ?_
  refine pwp_seq ?_
  refine pwp_join (σ := Bool) (fun x10 => (⟨103, [(6, .ptr 0 0 0), (7, .ptr 1 1 0), (49, B x10)], [some ⟨0, Enc.cells ((T_impl_Value.mk 0 0 (ByteArray.mk #[])))⟩, some ⟨1, Enc.cells ((T_impl_Value.mk 1 ((w64 (v6.fN + v8.fN))) (ByteArray.mk #[])))⟩]⟩ : St)) (fun x10 => impl_Part_value_j0 v6 v8 x10 = some y) ?_ ?_
  refine rvM [6, 7] 1 103 [(2, A a2), (6, .ptr 0 0 0), (7, .ptr 1 1 0), (33, A a2)] [some ⟨0, Enc.cells ((T_impl_Value.mk 0 0 (ByteArray.mk #[])))⟩, some ⟨1, Enc.cells ((T_impl_Value.mk 1 ((w64 (v6.fN + v8.fN))) (ByteArray.mk #[])))⟩] ?_
  obtain ⟨v12, hv13, h⟩ := bindS h
  refine opsP_idx τ_ok 34 hv13 (by kernel_rfl) ?_
  refine vM [6, 7] 4 103 [(2, A a2), (6, .ptr 0 0 0), (7, .ptr 1 1 0), (38, B ((v12.fKind == 0)))] [some ⟨0, Enc.cells ((T_impl_Value.mk 0 0 (ByteArray.mk #[])))⟩, some ⟨1, Enc.cells ((T_impl_Value.mk 1 ((w64 (v6.fN + v8.fN))) (ByteArray.mk #[])))⟩] ?_
  rcases fk ((v12.fKind == 0)) with hc19 | hc19
  replace h := bT hc19 h
  rw [hc19]
  refine veM [6, 7] 11 103 [(6, .ptr 0 0 0), (7, .ptr 1 1 0), (49, B true)] [some ⟨0, Enc.cells ((T_impl_Value.mk 0 0 (ByteArray.mk #[])))⟩, some ⟨1, Enc.cells ((T_impl_Value.mk 1 ((w64 (v6.fN + v8.fN))) (ByteArray.mk #[])))⟩] ?_
  exact ⟨true, h, (Imp.to (st' := ⟨103, [(6, .ptr 0 0 0), (7, .ptr 1 1 0), (49, B true)], [some ⟨0, Enc.cells ((T_impl_Value.mk 0 0 (ByteArray.mk #[])))⟩, some ⟨1, Enc.cells ((T_impl_Value.mk 1 ((w64 (v6.fN + v8.fN))) (ByteArray.mk #[])))⟩]⟩) [6, 7, 49] (by kernel_rfl)).trans (Imp.to [6, 7, 49] (by kernel_rfl))⟩
  replace h := bF hc19 h
  rw [hc19]
  refine vM [6, 7] 1 103 [(6, .ptr 0 0 0), (7, .ptr 1 1 0), (38, B false), (39, A a2)] [some ⟨0, Enc.cells ((T_impl_Value.mk 0 0 (ByteArray.mk #[])))⟩, some ⟨1, Enc.cells ((T_impl_Value.mk 1 ((w64 (v6.fN + v8.fN))) (ByteArray.mk #[])))⟩] ?_
  obtain ⟨v14, hv15, h⟩ := bindS h
  refine opsP_idx τ_ok 40 hv15 (by kernel_rfl) ?_
  refine vM [6, 7] 5 103 [(6, .ptr 0 0 0), (7, .ptr 1 1 0), (45, B ((v14.fKind == 0)))] [some ⟨0, Enc.cells ((T_impl_Value.mk 0 0 (ByteArray.mk #[])))⟩, some ⟨1, Enc.cells ((T_impl_Value.mk 1 ((w64 (v6.fN + v8.fN))) (ByteArray.mk #[])))⟩] ?_
  rcases fk ((v14.fKind == 0)) with hc18 | hc18
  replace h := bT hc18 h
  rw [hc18]
  refine veM [6, 7] 4 103 [(6, .ptr 0 0 0), (7, .ptr 1 1 0), (49, B true)] [some ⟨0, Enc.cells ((T_impl_Value.mk 0 0 (ByteArray.mk #[])))⟩, some ⟨1, Enc.cells ((T_impl_Value.mk 1 ((w64 (v6.fN + v8.fN))) (ByteArray.mk #[])))⟩] ?_
  exact ⟨true, h, (Imp.to (st' := ⟨103, [(6, .ptr 0 0 0), (7, .ptr 1 1 0), (49, B true)], [some ⟨0, Enc.cells ((T_impl_Value.mk 0 0 (ByteArray.mk #[])))⟩, some ⟨1, Enc.cells ((T_impl_Value.mk 1 ((w64 (v6.fN + v8.fN))) (ByteArray.mk #[])))⟩]⟩) [6, 7, 49] (by kernel_rfl)).trans (Imp.to [6, 7, 49] (by kernel_rfl))⟩
  replace h := bF hc18 h
  rw [hc18]
  refine vM [6, 7] 1 103 [(6, .ptr 0 0 0), (7, .ptr 1 1 0), (45, B false), (46, E ((T_impl_Value.mk 1 ((w64 (v6.fN + v8.fN))) (ByteArray.mk #[]))))] [some ⟨0, Enc.cells ((T_impl_Value.mk 0 0 (ByteArray.mk #[])))⟩, some ⟨1, Enc.cells ((T_impl_Value.mk 1 ((w64 (v6.fN + v8.fN))) (ByteArray.mk #[])))⟩] ?_
  obtain ⟨v16, hv17, h⟩ := bindS h
  refine opsP_callF τ 47 (ok_impl_Value_ok hv17) (FzTo.frz rfl) rfl (by kernel_rfl) ?_
  refine veM [6, 7] 2 103 [(6, .ptr 0 0 0), (7, .ptr 1 1 0), (49, B ((!v16)))] [some ⟨0, Enc.cells ((T_impl_Value.mk 0 0 (ByteArray.mk #[])))⟩, some ⟨1, Enc.cells ((T_impl_Value.mk 1 ((w64 (v6.fN + v8.fN))) (ByteArray.mk #[])))⟩] ?_
  exact ⟨(!v16), h, (Imp.to (st' := ⟨103, [(6, .ptr 0 0 0), (7, .ptr 1 1 0), (49, B ((!v16)))], [some ⟨0, Enc.cells ((T_impl_Value.mk 0 0 (ByteArray.mk #[])))⟩, some ⟨1, Enc.cells ((T_impl_Value.mk 1 ((w64 (v6.fN + v8.fN))) (ByteArray.mk #[])))⟩]⟩) [6, 7, 49] (by kernel_rfl)).trans (Imp.to [6, 7, 49] (by kernel_rfl))⟩
  rintro x10 h
  unfold impl_Part_value_j0 at h
  refine pc h (fun h => ?_) (fun h => ?_)
  refine srveM [6, 7] 103 [(6, .ptr 0 0 0)] [some ⟨0, Enc.cells ((T_impl_Value.mk 0 0 (ByteArray.mk #[])))⟩, some ⟨1, Enc.cells ((T_impl_Value.mk 1 ((w64 (v6.fN + v8.fN))) (ByteArray.mk #[])))⟩] ?_
  cases h
  exact pwp_ret rz
  refine pwp_skip ?_
  refine srveM [6, 7] 103 [(6, .ptr 0 0 0)] [some ⟨0, Enc.cells ((T_impl_Value.mk 1 ((w64 (v6.fN + v8.fN))) (ByteArray.mk #[])))⟩, some ⟨1, Enc.cells ((T_impl_Value.mk 1 ((w64 (v6.fN + v8.fN))) (ByteArray.mk #[])))⟩] ?_
  cases h
  exact pwp_ret rz
  refine srveM [6, 7] 103 [(2, A a2), (3, .fptr (Enc.cells a0) 0), (6, .ptr 0 0 0), (9, I a0.fKind), (52, B ((a0.fKind == 4)))] [some ⟨0, Enc.cells ((T_impl_Value.mk 0 0 (ByteArray.mk #[])))⟩] ?_
  refine pc h (fun h => ?_) (fun h => ?_)
  refine pwp_seq ?_
  refine pwp_imp (Imp.to (st' := ⟨103, [(2, A a2), (3, .fptr (Enc.cells a0) 0), (6, .ptr 0 0 0)], [some ⟨0, Enc.cells ((T_impl_Value.mk 0 0 (ByteArray.mk #[])))⟩]⟩) [2, 3, 6] (by kernel_rfl)) ?_
  refine pwp_any ([[], [], [], [], [], [], [], [], [], [], [0]]) ([[], [], [], [], [], [], [], [], [], [], [0]]) rfl (by kernel_rfl) ?_
  refine qA_ev (st' := ⟨103, [(56, A a2), (55, I a0.fN), (54, .fptr (Enc.cells a0) 1), (2, A a2), (3, .fptr (Enc.cells a0) 0), (6, .ptr 0 0 0)], [some ⟨0, Enc.cells ((T_impl_Value.mk 0 0 (ByteArray.mk #[])))⟩]⟩) τ_ok [6, 7] [] 3 (by exact trivial) (by kernel_rfl) ?_
  obtain ⟨v21, hv22, h⟩ := bindS h
  refine qA_E (dd := some 57) (x := .fptr (Enc.cells v21) 0) ([none]) (⟨103, [(57, .fptr (Enc.cells v21) 0), (56, A a2), (55, I a0.fN), (54, .fptr (Enc.cells a0) 1), (2, A a2), (3, .fptr (Enc.cells a0) 0), (6, .ptr 0 0 0)], [some ⟨0, Enc.cells ((T_impl_Value.mk 0 0 (ByteArray.mk #[])))⟩]⟩) (fun Γ' hΓ => CoreE.of_y (idxV_sound τ_ok (by kernel_rfl) hv22)) (by kernel_rfl) (by kernel_rfl) (by exact trivial) (.inr (.inr rfl)) (by kernel_rfl) ?_
  refine qA_ev (st' := ⟨103, [(59, A a2), (58, E v21), (57, .fptr (Enc.cells v21) 0), (56, A a2), (55, I a0.fN), (54, .fptr (Enc.cells a0) 1), (2, A a2), (3, .fptr (Enc.cells a0) 0), (6, .ptr 0 0 0)], [some ⟨0, Enc.cells ((T_impl_Value.mk 0 0 (ByteArray.mk #[])))⟩]⟩) τ_ok [6, 7] [] 2 (by exact trivial) (by kernel_rfl) ?_
  obtain ⟨v23, hv24, h⟩ := bindS h
  refine qA_E (dd := some 60) (x := .fptr (Enc.cells v23) 0) ([none]) (⟨103, [(60, .fptr (Enc.cells v23) 0), (59, A a2), (58, E v21), (57, .fptr (Enc.cells v21) 0), (56, A a2), (55, I a0.fN), (54, .fptr (Enc.cells a0) 1), (2, A a2), (3, .fptr (Enc.cells a0) 0), (6, .ptr 0 0 0)], [some ⟨0, Enc.cells ((T_impl_Value.mk 0 0 (ByteArray.mk #[])))⟩]⟩) (fun Γ' hΓ => CoreE.of_y (idxV_sound τ_ok (by kernel_rfl) hv24)) (by kernel_rfl) (by kernel_rfl) (by exact trivial) (.inr (.inr rfl)) (by kernel_rfl) ?_
  refine qA_ev (st' := ⟨103, [(61, E v23), (60, .fptr (Enc.cells v23) 0), (59, A a2), (58, E v21), (57, .fptr (Enc.cells v21) 0), (56, A a2), (55, I a0.fN), (54, .fptr (Enc.cells a0) 1), (2, A a2), (3, .fptr (Enc.cells a0) 0), (6, .ptr 0 0 0)], [some ⟨0, Enc.cells ((T_impl_Value.mk 0 0 (ByteArray.mk #[])))⟩]⟩) τ_ok [6, 7] [] 1 (by exact trivial) (by kernel_rfl) ?_
  obtain ⟨v25, hv26, h⟩ := bindS h
  refine qA_E (dd := some 62) (x := I v25) ([none]) (⟨103, [(62, I v25), (61, E v23), (60, .fptr (Enc.cells v23) 0), (59, A a2), (58, E v21), (57, .fptr (Enc.cells v21) 0), (56, A a2), (55, I a0.fN), (54, .fptr (Enc.cells a0) 1), (2, A a2), (3, .fptr (Enc.cells a0) 0), (6, .ptr 0 0 0)], [some ⟨0, Enc.cells ((T_impl_Value.mk 0 0 (ByteArray.mk #[])))⟩]⟩) (fun Γ' hΓ => CoreE.of_g (callV_sound (τ := τ) (by kernel_rfl) rfl (ok_impl_Compare hv26) (FzTo.frz rfl))) (by kernel_rfl) (by kernel_rfl) (by exact trivial) (.inr (.inr rfl)) (by kernel_rfl) ?_
  obtain ⟨v27, hv28, h⟩ := bindS h
  refine qA_E (dd := some 63) (x := E v27) ([none]) (⟨103, [(63, E v27), (62, I v25), (61, E v23), (60, .fptr (Enc.cells v23) 0), (59, A a2), (58, E v21), (57, .fptr (Enc.cells v21) 0), (56, A a2), (55, I a0.fN), (54, .fptr (Enc.cells a0) 1), (2, A a2), (3, .fptr (Enc.cells a0) 0), (6, .ptr 0 0 0)], [some ⟨0, Enc.cells ((T_impl_Value.mk 0 0 (ByteArray.mk #[])))⟩]⟩) (fun Γ' hΓ => CoreE.of_g (callV_sound (τ := τ) (by kernel_rfl) rfl (ok_impl_ValueOf hv28) (FzTo.frz rfl))) (by kernel_rfl) (by kernel_rfl) (by exact trivial) (.inr (.inr rfl)) (by kernel_rfl) ?_
  refine qA_E (dd := none) (x := .any) ([some ⟨0, Enc.cells v27⟩]) (⟨103, [(63, E v27), (62, I v25), (61, E v23), (60, .fptr (Enc.cells v23) 0), (59, A a2), (58, E v21), (57, .fptr (Enc.cells v21) 0), (56, A a2), (55, I a0.fN), (54, .fptr (Enc.cells a0) 1), (2, A a2), (3, .fptr (Enc.cells a0) 0), (6, .ptr 0 0 0)], [some ⟨0, Enc.cells v27⟩]⟩) (fun Γ' hΓ => sto_E τ_ok 0 0 (by kernel_rfl)) (by kernel_rfl) (by kernel_rfl) (by exact (And.intro (.inl (Enc.frz _)) trivial)) (.inl rfl) (by kernel_rfl) ?_
  refine qA_end ?_
  refine opsP_imp (Imp.to (st' := ⟨103, [(6, .ptr 0 0 0)], [some ⟨0, Enc.cells v27⟩]⟩) [6] (by kernel_rfl)) ?_
  refine opsP_end rfl ?_
  cases h
  exact pwp_ret rz
  refine srveM [6, 7] 103 [(2, A a2), (6, .ptr 0 0 0), (9, I a0.fKind), (64, B ((a0.fKind == 5)))] [some ⟨0, Enc.cells ((T_impl_Value.mk 0 0 (ByteArray.mk #[])))⟩] ?_
  refine pc h (fun h => ?_) (fun h => ?_)
  refine pwp_seq ?_
  refine pwp_imp (Imp.to (st' := ⟨103, [(2, A a2), (6, .ptr 0 0 0)], [some ⟨0, Enc.cells ((T_impl_Value.mk 0 0 (ByteArray.mk #[])))⟩]⟩) [2, 6] (by kernel_rfl)) ?_
  refine pwp_any ([[], [], [], [], [], [], [], [], [], [], [0]]) ([[], [], [], [], [], [], [], [], [], [], [0]]) rfl (by kernel_rfl) ?_
  refine qA_ev (st' := ⟨103, [(66, A a2), (2, A a2), (6, .ptr 0 0 0)], [some ⟨0, Enc.cells ((T_impl_Value.mk 0 0 (ByteArray.mk #[])))⟩]⟩) τ_ok [6, 7] [] 1 (by exact trivial) (by kernel_rfl) ?_
  obtain ⟨v30, hv31, h⟩ := bindS h
  refine qA_E (dd := some 67) (x := .fptr (Enc.cells v30) 0) ([none]) (⟨103, [(67, .fptr (Enc.cells v30) 0), (66, A a2), (2, A a2), (6, .ptr 0 0 0)], [some ⟨0, Enc.cells ((T_impl_Value.mk 0 0 (ByteArray.mk #[])))⟩]⟩) (fun Γ' hΓ => CoreE.of_y (idxV_sound τ_ok (by kernel_rfl) hv31)) (by kernel_rfl) (by kernel_rfl) (by exact trivial) (.inr (.inr rfl)) (by kernel_rfl) ?_
  refine qA_ev (st' := ⟨103, [(68, E v30), (67, .fptr (Enc.cells v30) 0), (66, A a2), (2, A a2), (6, .ptr 0 0 0)], [some ⟨0, Enc.cells ((T_impl_Value.mk 0 0 (ByteArray.mk #[])))⟩]⟩) τ_ok [6, 7] [] 1 (by exact trivial) (by kernel_rfl) ?_
  obtain ⟨v32, hv33, h⟩ := bindS h
  refine qA_E (dd := some 69) (x := I v32) ([none]) (⟨103, [(69, I v32), (68, E v30), (67, .fptr (Enc.cells v30) 0), (66, A a2), (2, A a2), (6, .ptr 0 0 0)], [some ⟨0, Enc.cells ((T_impl_Value.mk 0 0 (ByteArray.mk #[])))⟩]⟩) (fun Γ' hΓ => CoreE.of_g (callV_sound (τ := τ) (by kernel_rfl) rfl (ok_impl_TruthOf hv33) (FzTo.frz rfl))) (by kernel_rfl) (by kernel_rfl) (by exact trivial) (.inr (.inr rfl)) (by kernel_rfl) ?_
  refine qA_ev (st' := ⟨103, [(70, A a2), (69, I v32), (68, E v30), (67, .fptr (Enc.cells v30) 0), (66, A a2), (2, A a2), (6, .ptr 0 0 0)], [some ⟨0, Enc.cells ((T_impl_Value.mk 0 0 (ByteArray.mk #[])))⟩]⟩) τ_ok [6, 7] [] 1 (by exact trivial) (by kernel_rfl) ?_
  obtain ⟨v34, hv35, h⟩ := bindS h
  refine qA_E (dd := some 71) (x := .fptr (Enc.cells v34) 0) ([none]) (⟨103, [(71, .fptr (Enc.cells v34) 0), (70, A a2), (69, I v32), (68, E v30), (67, .fptr (Enc.cells v30) 0), (66, A a2), (2, A a2), (6, .ptr 0 0 0)], [some ⟨0, Enc.cells ((T_impl_Value.mk 0 0 (ByteArray.mk #[])))⟩]⟩) (fun Γ' hΓ => CoreE.of_y (idxV_sound τ_ok (by kernel_rfl) hv35)) (by kernel_rfl) (by kernel_rfl) (by exact trivial) (.inr (.inr rfl)) (by kernel_rfl) ?_
  refine qA_ev (st' := ⟨103, [(72, E v34), (71, .fptr (Enc.cells v34) 0), (70, A a2), (69, I v32), (68, E v30), (67, .fptr (Enc.cells v30) 0), (66, A a2), (2, A a2), (6, .ptr 0 0 0)], [some ⟨0, Enc.cells ((T_impl_Value.mk 0 0 (ByteArray.mk #[])))⟩]⟩) τ_ok [6, 7] [] 1 (by exact trivial) (by kernel_rfl) ?_
  obtain ⟨v36, hv37, h⟩ := bindS h
  refine qA_E (dd := some 73) (x := I v36) ([none]) (⟨103, [(73, I v36), (72, E v34), (71, .fptr (Enc.cells v34) 0), (70, A a2), (69, I v32), (68, E v30), (67, .fptr (Enc.cells v30) 0), (66, A a2), (2, A a2), (6, .ptr 0 0 0)], [some ⟨0, Enc.cells ((T_impl_Value.mk 0 0 (ByteArray.mk #[])))⟩]⟩) (fun Γ' hΓ => CoreE.of_g (callV_sound (τ := τ) (by kernel_rfl) rfl (ok_impl_TruthOf hv37) (FzTo.frz rfl))) (by kernel_rfl) (by kernel_rfl) (by exact trivial) (.inr (.inr rfl)) (by kernel_rfl) ?_
  obtain ⟨v38, hv39, h⟩ := bindS h
  refine qA_E (dd := some 74) (x := I v38) ([none]) (⟨103, [(74, I v38), (73, I v36), (72, E v34), (71, .fptr (Enc.cells v34) 0), (70, A a2), (69, I v32), (68, E v30), (67, .fptr (Enc.cells v30) 0), (66, A a2), (2, A a2), (6, .ptr 0 0 0)], [some ⟨0, Enc.cells ((T_impl_Value.mk 0 0 (ByteArray.mk #[])))⟩]⟩) (fun Γ' hΓ => CoreE.of_g (callV_sound (τ := τ) (by kernel_rfl) rfl (ok_impl_AndOf hv39) (FzTo.frz rfl))) (by kernel_rfl) (by kernel_rfl) (by exact trivial) (.inr (.inr rfl)) (by kernel_rfl) ?_
  obtain ⟨v40, hv41, h⟩ := bindS h
  refine qA_E (dd := some 75) (x := E v40) ([none]) (⟨103, [(75, E v40), (74, I v38), (73, I v36), (72, E v34), (71, .fptr (Enc.cells v34) 0), (70, A a2), (69, I v32), (68, E v30), (67, .fptr (Enc.cells v30) 0), (66, A a2), (2, A a2), (6, .ptr 0 0 0)], [some ⟨0, Enc.cells ((T_impl_Value.mk 0 0 (ByteArray.mk #[])))⟩]⟩) (fun Γ' hΓ => CoreE.of_g (callV_sound (τ := τ) (by kernel_rfl) rfl (ok_impl_ValueOf hv41) (FzTo.frz rfl))) (by kernel_rfl) (by kernel_rfl) (by exact trivial) (.inr (.inr rfl)) (by kernel_rfl) ?_
  refine qA_E (dd := none) (x := .any) ([some ⟨0, Enc.cells v40⟩]) (⟨103, [(75, E v40), (74, I v38), (73, I v36), (72, E v34), (71, .fptr (Enc.cells v34) 0), (70, A a2), (69, I v32), (68, E v30), (67, .fptr (Enc.cells v30) 0), (66, A a2), (2, A a2), (6, .ptr 0 0 0)], [some ⟨0, Enc.cells v40⟩]⟩) (fun Γ' hΓ => sto_E τ_ok 0 0 (by kernel_rfl)) (by kernel_rfl) (by kernel_rfl) (by exact (And.intro (.inl (Enc.frz _)) trivial)) (.inl rfl) (by kernel_rfl) ?_
  refine qA_end ?_
  refine opsP_imp (Imp.to (st' := ⟨103, [(6, .ptr 0 0 0)], [some ⟨0, Enc.cells v40⟩]⟩) [6] (by kernel_rfl)) ?_
  refine opsP_end rfl ?_
  cases h
  exact pwp_ret rz
  refine srveM [6, 7] 103 [(2, A a2), (6, .ptr 0 0 0), (9, I a0.fKind), (76, B ((a0.fKind == 6)))] [some ⟨0, Enc.cells ((T_impl_Value.mk 0 0 (ByteArray.mk #[])))⟩] ?_
  refine pc h (fun h => ?_) (fun h => ?_)
  refine pwp_seq ?_
  refine pwp_imp (Imp.to (st' := ⟨103, [(2, A a2), (6, .ptr 0 0 0)], [some ⟨0, Enc.cells ((T_impl_Value.mk 0 0 (ByteArray.mk #[])))⟩]⟩) [2, 6] (by kernel_rfl)) ?_
  refine pwp_any ([[], [], [], [], [], [], [], [], [], [], [0]]) ([[], [], [], [], [], [], [], [], [], [], [0]]) rfl (by kernel_rfl) ?_
  refine qA_ev (st' := ⟨103, [(78, A a2), (2, A a2), (6, .ptr 0 0 0)], [some ⟨0, Enc.cells ((T_impl_Value.mk 0 0 (ByteArray.mk #[])))⟩]⟩) τ_ok [6, 7] [] 1 (by exact trivial) (by kernel_rfl) ?_
  obtain ⟨v43, hv44, h⟩ := bindS h
  refine qA_E (dd := some 79) (x := .fptr (Enc.cells v43) 0) ([none]) (⟨103, [(79, .fptr (Enc.cells v43) 0), (78, A a2), (2, A a2), (6, .ptr 0 0 0)], [some ⟨0, Enc.cells ((T_impl_Value.mk 0 0 (ByteArray.mk #[])))⟩]⟩) (fun Γ' hΓ => CoreE.of_y (idxV_sound τ_ok (by kernel_rfl) hv44)) (by kernel_rfl) (by kernel_rfl) (by exact trivial) (.inr (.inr rfl)) (by kernel_rfl) ?_
  refine qA_ev (st' := ⟨103, [(80, E v43), (79, .fptr (Enc.cells v43) 0), (78, A a2), (2, A a2), (6, .ptr 0 0 0)], [some ⟨0, Enc.cells ((T_impl_Value.mk 0 0 (ByteArray.mk #[])))⟩]⟩) τ_ok [6, 7] [] 1 (by exact trivial) (by kernel_rfl) ?_
  obtain ⟨v45, hv46, h⟩ := bindS h
  refine qA_E (dd := some 81) (x := I v45) ([none]) (⟨103, [(81, I v45), (80, E v43), (79, .fptr (Enc.cells v43) 0), (78, A a2), (2, A a2), (6, .ptr 0 0 0)], [some ⟨0, Enc.cells ((T_impl_Value.mk 0 0 (ByteArray.mk #[])))⟩]⟩) (fun Γ' hΓ => CoreE.of_g (callV_sound (τ := τ) (by kernel_rfl) rfl (ok_impl_TruthOf hv46) (FzTo.frz rfl))) (by kernel_rfl) (by kernel_rfl) (by exact trivial) (.inr (.inr rfl)) (by kernel_rfl) ?_
  refine qA_ev (st' := ⟨103, [(82, A a2), (81, I v45), (80, E v43), (79, .fptr (Enc.cells v43) 0), (78, A a2), (2, A a2), (6, .ptr 0 0 0)], [some ⟨0, Enc.cells ((T_impl_Value.mk 0 0 (ByteArray.mk #[])))⟩]⟩) τ_ok [6, 7] [] 1 (by exact trivial) (by kernel_rfl) ?_
  obtain ⟨v47, hv48, h⟩ := bindS h
  refine qA_E (dd := some 83) (x := .fptr (Enc.cells v47) 0) ([none]) (⟨103, [(83, .fptr (Enc.cells v47) 0), (82, A a2), (81, I v45), (80, E v43), (79, .fptr (Enc.cells v43) 0), (78, A a2), (2, A a2), (6, .ptr 0 0 0)], [some ⟨0, Enc.cells ((T_impl_Value.mk 0 0 (ByteArray.mk #[])))⟩]⟩) (fun Γ' hΓ => CoreE.of_y (idxV_sound τ_ok (by kernel_rfl) hv48)) (by kernel_rfl) (by kernel_rfl) (by exact trivial) (.inr (.inr rfl)) (by kernel_rfl) ?_
  refine qA_ev (st' := ⟨103, [(84, E v47), (83, .fptr (Enc.cells v47) 0), (82, A a2), (81, I v45), (80, E v43), (79, .fptr (Enc.cells v43) 0), (78, A a2), (2, A a2), (6, .ptr 0 0 0)], [some ⟨0, Enc.cells ((T_impl_Value.mk 0 0 (ByteArray.mk #[])))⟩]⟩) τ_ok [6, 7] [] 1 (by exact trivial) (by kernel_rfl) ?_
  obtain ⟨v49, hv50, h⟩ := bindS h
  refine qA_E (dd := some 85) (x := I v49) ([none]) (⟨103, [(85, I v49), (84, E v47), (83, .fptr (Enc.cells v47) 0), (82, A a2), (81, I v45), (80, E v43), (79, .fptr (Enc.cells v43) 0), (78, A a2), (2, A a2), (6, .ptr 0 0 0)], [some ⟨0, Enc.cells ((T_impl_Value.mk 0 0 (ByteArray.mk #[])))⟩]⟩) (fun Γ' hΓ => CoreE.of_g (callV_sound (τ := τ) (by kernel_rfl) rfl (ok_impl_TruthOf hv50) (FzTo.frz rfl))) (by kernel_rfl) (by kernel_rfl) (by exact trivial) (.inr (.inr rfl)) (by kernel_rfl) ?_
  obtain ⟨v51, hv52, h⟩ := bindS h
  refine qA_E (dd := some 86) (x := I v51) ([none]) (⟨103, [(86, I v51), (85, I v49), (84, E v47), (83, .fptr (Enc.cells v47) 0), (82, A a2), (81, I v45), (80, E v43), (79, .fptr (Enc.cells v43) 0), (78, A a2), (2, A a2), (6, .ptr 0 0 0)], [some ⟨0, Enc.cells ((T_impl_Value.mk 0 0 (ByteArray.mk #[])))⟩]⟩) (fun Γ' hΓ => CoreE.of_g (callV_sound (τ := τ) (by kernel_rfl) rfl (ok_impl_OrOf hv52) (FzTo.frz rfl))) (by kernel_rfl) (by kernel_rfl) (by exact trivial) (.inr (.inr rfl)) (by kernel_rfl) ?_
  obtain ⟨v53, hv54, h⟩ := bindS h
  refine qA_E (dd := some 87) (x := E v53) ([none]) (⟨103, [(87, E v53), (86, I v51), (85, I v49), (84, E v47), (83, .fptr (Enc.cells v47) 0), (82, A a2), (81, I v45), (80, E v43), (79, .fptr (Enc.cells v43) 0), (78, A a2), (2, A a2), (6, .ptr 0 0 0)], [some ⟨0, Enc.cells ((T_impl_Value.mk 0 0 (ByteArray.mk #[])))⟩]⟩) (fun Γ' hΓ => CoreE.of_g (callV_sound (τ := τ) (by kernel_rfl) rfl (ok_impl_ValueOf hv54) (FzTo.frz rfl))) (by kernel_rfl) (by kernel_rfl) (by exact trivial) (.inr (.inr rfl)) (by kernel_rfl) ?_
  refine qA_E (dd := none) (x := .any) ([some ⟨0, Enc.cells v53⟩]) (⟨103, [(87, E v53), (86, I v51), (85, I v49), (84, E v47), (83, .fptr (Enc.cells v47) 0), (82, A a2), (81, I v45), (80, E v43), (79, .fptr (Enc.cells v43) 0), (78, A a2), (2, A a2), (6, .ptr 0 0 0)], [some ⟨0, Enc.cells v53⟩]⟩) (fun Γ' hΓ => sto_E τ_ok 0 0 (by kernel_rfl)) (by kernel_rfl) (by kernel_rfl) (by exact (And.intro (.inl (Enc.frz _)) trivial)) (.inl rfl) (by kernel_rfl) ?_
  refine qA_end ?_
  refine opsP_imp (Imp.to (st' := ⟨103, [(6, .ptr 0 0 0)], [some ⟨0, Enc.cells v53⟩]⟩) [6] (by kernel_rfl)) ?_
  refine opsP_end rfl ?_
  cases h
  exact pwp_ret rz
  refine srveM [6, 7] 103 [(2, A a2), (6, .ptr 0 0 0), (88, B ((a0.fKind == 7)))] [some ⟨0, Enc.cells ((T_impl_Value.mk 0 0 (ByteArray.mk #[])))⟩] ?_
  refine pc h (fun h => ?_) (fun h => ?_)
  refine srvM [6, 7] 1 103 [(6, .ptr 0 0 0), (90, A a2)] [some ⟨0, Enc.cells ((T_impl_Value.mk 0 0 (ByteArray.mk #[])))⟩] ?_
  obtain ⟨v56, hv57, h⟩ := bindS h
  refine opsP_idx τ_ok 91 hv57 (by kernel_rfl) ?_
  refine vM [6, 7] 1 103 [(6, .ptr 0 0 0), (92, E v56)] [some ⟨0, Enc.cells ((T_impl_Value.mk 0 0 (ByteArray.mk #[])))⟩] ?_
  obtain ⟨v58, hv59, h⟩ := bindS h
  refine opsP_callF τ 93 (ok_impl_TruthOf hv59) (FzTo.frz rfl) rfl (by kernel_rfl) ?_
  obtain ⟨v60, hv61, h⟩ := bindS h
  refine opsP_callF τ 94 (ok_impl_NotOf hv61) (FzTo.frz rfl) rfl (by kernel_rfl) ?_
  obtain ⟨v62, hv63, h⟩ := bindS h
  refine opsP_callF τ 95 (ok_impl_ValueOf hv63) (FzTo.frz rfl) rfl (by kernel_rfl) ?_
  refine veM [6, 7] 1 103 [(6, .ptr 0 0 0)] [some ⟨0, Enc.cells v62⟩] ?_
  cases h
  exact pwp_ret rz
  refine pwp_skip ?_
  refine srvM [6, 7] 1 103 [(6, .ptr 0 0 0), (96, A a2)] [some ⟨0, Enc.cells ((T_impl_Value.mk 0 0 (ByteArray.mk #[])))⟩] ?_
  obtain ⟨v64, hv65, h⟩ := bindS h
  refine opsP_idx τ_ok 97 hv65 (by kernel_rfl) ?_
  refine vM [6, 7] 3 103 [(6, .ptr 0 0 0), (100, B ((v64.fKind == 0)))] [some ⟨0, Enc.cells ((T_impl_Value.mk 0 0 (ByteArray.mk #[])))⟩] ?_
  obtain ⟨v66, hv67, h⟩ := bindS h
  refine opsP_callF τ 101 (ok_impl_truthIf hv67) (FzTo.frz rfl) rfl (by kernel_rfl) ?_
  obtain ⟨v68, hv69, h⟩ := bindS h
  refine opsP_callF τ 102 (ok_impl_ValueOf hv69) (FzTo.frz rfl) rfl (by kernel_rfl) ?_
  refine veM [6, 7] 1 103 [(6, .ptr 0 0 0)] [some ⟨0, Enc.cells v68⟩] ?_
  cases h
  exact pwp_ret rz
def impl_RowsOk (a0 : List T_impl_Column) (a1 : List (List T_impl_Value)) : Option Bool := (impl_ColumnsOk a0).bind fun v1 => bif v1 then (slices_ContainsFunc_impl_Value_impl_Value_s3 a1 (fun z0 => impl_RowsOk_1 z0 a0)).bind fun v3 => some ((!v3)) else some false
theorem ok_impl_RowsOk {a0 : List T_impl_Column} {a1 : List (List T_impl_Value)} {y : Bool} (h : impl_RowsOk a0 a1 = some y) : OK Tryz.prog 145 [A a0, A a1] (B y) := by
  refine OK_of_pwp τ_ok Tryz.func145 rfl (by kernel_rfl) rfl fun Γ hX => ?_
  unfold impl_RowsOk at h
  refine srve 13 [(1, A a1), (2, .fptr (Enc.cells a0) 0)] [] ?_
  refine srv 1 13 [(1, A a1), (2, .fptr (Enc.cells a0) 0), (5, A a0)] [] ?_
  obtain ⟨v1, hv2, h⟩ := bindS h
  refine opsP_callF τ 6 (ok_impl_ColumnsOk hv2) (FzTo.frz rfl) rfl (by kernel_rfl) ?_
  refine v 1 13 [(1, A a1), (2, .fptr (Enc.cells a0) 0), (7, B v1)] [] ?_
  rcases Bool.eq_false_or_eq_true v1 with hc5 | hc5
  replace h := bT hc5 h
  rw [hc5]
  refine v 2 13 [(7, B true), (8, A a1), (9, .fn 182 [.fptr (Enc.cells a0) 0])] [] ?_
  obtain ⟨v3, hv4, h⟩ := bindS h
  refine opsP_callF τ 10 (ok_slices_ContainsFunc_impl_Value_impl_Value_s3 (rfl) (fun _ w hw => ok_impl_RowsOk_1 hw) hv4) (FzTo.frz rfl) rfl (by kernel_rfl) ?_
  refine ve 3 13 [(4, B ((!v3)))] [] ?_
  cases h
  exact pwp_ret rz
  replace h := bF hc5 h
  rw [hc5]
  refine ve 6 13 [(4, B false)] [] ?_
  cases h
  exact pwp_ret rz
def impl_exprValue_l0 (a0 : List T_impl_Value) (a1 : List T_impl_Part) : Nat → Int → (List T_impl_Value) → Option T_impl_Value
  | 0, _, _ => none
  | f5 + 1, x3, x4 => bif (decide (x3 < ((a1.length : Int)))) then (getI a1 x3).bind fun v8 => (impl_Part_takes v8).bind fun v10 => (slI x4 (some ((w64 (((x4.length : Int)) - v10)))) none none).bind fun v12 => (impl_Part_value v8 a0 v12).bind fun v14 => (slI x4 none (some ((w64 (((x4.length : Int)) - v10)))) none).bind fun v16 => (appT x4 (([v14] : List T_impl_Value)) v16.length).bind fun v18 => (impl_exprValue_l0 a0 a1 f5) ((w64 (x3 + 1))) v18 else (getI x4 0).bind fun v20 => some v20
def impl_exprValue (a0 : List T_impl_Value) (a1 : List T_impl_Part) : Option T_impl_Value := impl_exprValue_l0 a0 a1 FUEL 0 (([] : List T_impl_Value))
theorem ok_impl_exprValue {a0 : List T_impl_Value} {a1 : List T_impl_Part} {y : T_impl_Value} (h : impl_exprValue a0 a1 = some y) : OK Tryz.prog 179 [A a0, A a1] (E y) := by
  refine OK_of_pwp τ_ok Tryz.func179 rfl (by kernel_rfl) rfl fun Γ hX => ?_
  unfold impl_exprValue at h
  refine srveM [4, 7, 9] 37 [(0, A a0), (1, A a1), (4, .ptr 0 0 0)] [some ⟨0, Enc.cells ((T_impl_Value.mk 0 0 (ByteArray.mk #[])))⟩] ?_
  refine srveM [4, 7, 9] 37 [(0, A a0), (1, A a1), (4, .ptr 0 0 0), (5, .arr 3 0 (eL ([] : List T_impl_Value)) true)] [some ⟨0, Enc.cells ((T_impl_Value.mk 0 0 (ByteArray.mk #[])))⟩] ?_
  refine pwp_seq ?_
  refine srveM [4, 7, 9] 37 [(0, A a0), (4, .ptr 0 0 0), (5, .arr 3 0 (eL ([] : List T_impl_Value)) true), (10, A a1), (11, I ((a1.length : Int))), (12, I 0)] [some ⟨0, Enc.cells ((T_impl_Value.mk 0 0 (ByteArray.mk #[])))⟩] ?_
  refine pwp_block ?_
  refine pwp_loop (ι := Nat × Int × (List T_impl_Value)) (fun (f5, x3, x4) => (⟨37, [(0, A a0), (4, .ptr 0 0 0), (5, .ref 1 0 0 3 x4.length false), (10, A a1), (11, I ((a1.length : Int))), (12, I x3)], [some ⟨0, Enc.cells ((T_impl_Value.mk 0 0 (ByteArray.mk #[])))⟩, some ⟨0, eL x4⟩]⟩ : St)) (fun (f5, x3, x4) => impl_exprValue_l0 a0 a1 f5 x3 x4 = some y) (fun (f5, x3, x4) => f5) (FUEL, 0, ([] : List T_impl_Value)) h ((Imp.to (st' := ⟨37, [(0, A a0), (4, .ptr 0 0 0), (5, .arr 3 0 (eL ([] : List T_impl_Value)) true), (10, A a1), (11, I ((a1.length : Int))), (12, I 0)], [some ⟨0, Enc.cells ((T_impl_Value.mk 0 0 (ByteArray.mk #[])))⟩]⟩) [0, 4, 5, 10, 11, 12] (by kernel_rfl)).trans ((Imp.thawS (st' := ⟨37, [(0, A a0), (4, .ptr 0 0 0), (5, .ref 1 0 0 3 (([] : List T_impl_Value)).length false), (10, A a1), (11, I ((a1.length : Int))), (12, I 0)], [some ⟨0, Enc.cells ((T_impl_Value.mk 0 0 (ByteArray.mk #[])))⟩, some ⟨0, eL (([] : List T_impl_Value))⟩]⟩) 5 [0, 4, 5, 10, 11, 12] (by kernel_rfl)).trans (Imp.to [0, 4, 5, 10, 11, 12] (by kernel_rfl)))) ?_
  rintro ⟨f5, x3, x4⟩ h
  dsimp only at h ⊢
  rcases f5 with _ | f5
  cases h
  rw [impl_exprValue_l0] at h
  refine srveM [4, 7, 9] 37 [(0, A a0), (4, .ptr 0 0 0), (5, .ref 1 0 0 3 x4.length false), (10, A a1), (11, I ((a1.length : Int))), (12, I x3), (13, B ((decide (x3 < ((a1.length : Int))))))] [some ⟨0, Enc.cells ((T_impl_Value.mk 0 0 (ByteArray.mk #[])))⟩, some ⟨0, eL x4⟩] ?_
  refine pwp_seq ?_
  refine pc h (fun h => ?_) (fun h => ?_)
  refine pwp_skip ?_
  refine pwp_seq ?_
  refine pwp_block ?_
  refine pwp_seq ?_
  refine pwp_region ?_
  obtain ⟨v8, hv9, h⟩ := bindS h
  refine opsP_idx τ_ok 14 hv9 (by kernel_rfl) ?_
  refine veM [4, 7, 9] 3 37 [(0, A a0), (4, .ptr 0 0 0), (5, .ref 1 0 0 3 x4.length false), (7, .ptr 2 0 0), (10, A a1), (11, I ((a1.length : Int))), (12, I x3)] [some ⟨0, Enc.cells ((T_impl_Value.mk 0 0 (ByteArray.mk #[])))⟩, some ⟨0, eL x4⟩, some ⟨0, Enc.cells v8⟩] ?_
  refine srvM [4, 7, 9] 3 37 [(0, A a0), (4, .ptr 0 0 0), (5, .ref 1 0 0 3 x4.length false), (7, .ptr 2 0 0), (10, A a1), (11, I ((a1.length : Int))), (12, I x3), (17, I ((x4.length : Int))), (18, E v8)] [some ⟨0, Enc.cells ((T_impl_Value.mk 0 0 (ByteArray.mk #[])))⟩, some ⟨0, eL x4⟩, some ⟨0, Enc.cells v8⟩] ?_
  obtain ⟨v10, hv11, h⟩ := bindS h
  refine opsP_callF τ 19 (ok_impl_Part_takes hv11) (FzTo.frz rfl) rfl (by kernel_rfl) ?_
  refine veM [4, 7, 9] 2 37 [(0, A a0), (4, .ptr 0 0 0), (5, .ref 1 0 0 3 x4.length false), (7, .ptr 2 0 0), (8, I ((w64 (((x4.length : Int)) - v10)))), (10, A a1), (11, I ((a1.length : Int))), (12, I x3)] [some ⟨0, Enc.cells ((T_impl_Value.mk 0 0 (ByteArray.mk #[])))⟩, some ⟨0, eL x4⟩, some ⟨0, Enc.cells v8⟩] ?_
  refine pwp_seq ?_
  refine pwp_imp (Imp.to (st' := ⟨37, [(0, A a0), (4, .ptr 0 0 0), (5, .ref 1 0 0 3 x4.length false), (7, .ptr 2 0 0), (8, I ((w64 (((x4.length : Int)) - v10)))), (10, A a1), (11, I ((a1.length : Int))), (12, I x3)], [some ⟨0, Enc.cells ((T_impl_Value.mk 0 0 (ByteArray.mk #[])))⟩, some ⟨0, eL x4⟩, some ⟨0, Enc.cells v8⟩]⟩) [0, 4, 5, 7, 8, 10, 11, 12] (by kernel_rfl)) ?_
  refine pwp_imp (Imp.ghosts 1 (st' := ⟨37, [(0, A a0), (4, .ptr 0 0 0), (5, .ref 1 0 0 3 x4.length false), (7, .ptr 2 0 0), (8, I ((w64 (((x4.length : Int)) - v10)))), (10, A a1), (11, I ((a1.length : Int))), (12, I x3)], [some ⟨0, Enc.cells ((T_impl_Value.mk 0 0 (ByteArray.mk #[])))⟩, some ⟨0, eL x4⟩, some ⟨0, Enc.cells v8⟩, some ⟨0, []⟩]⟩) (by kernel_rfl)) ?_
  refine pwp_any ([[2], [], [1], [], [1], [1], [3], [3]]) ([[], [], [], [], [], [], [3], [3]]) rfl (by kernel_rfl) ?_
  refine qA_ev (st' := ⟨37, [(21, E v8), (0, A a0), (4, .ptr 0 0 0), (5, .ref 1 0 0 3 x4.length false), (7, .ptr 2 0 0), (8, I ((w64 (((x4.length : Int)) - v10)))), (10, A a1), (11, I ((a1.length : Int))), (12, I x3)], [some ⟨0, Enc.cells ((T_impl_Value.mk 0 0 (ByteArray.mk #[])))⟩, some ⟨0, eL x4⟩, some ⟨0, Enc.cells v8⟩, some ⟨0, []⟩]⟩) τ_ok [4, 7, 9] [2] 1 (by exact (And.intro (.inl (Enc.frz _)) trivial)) (by kernel_rfl) ?_
  refine qA_ev (st' := ⟨37, [(22, A a0), (21, E v8), (0, A a0), (4, .ptr 0 0 0), (5, .ref 1 0 0 3 x4.length false), (7, .ptr 2 0 0), (8, I ((w64 (((x4.length : Int)) - v10)))), (10, A a1), (11, I ((a1.length : Int))), (12, I x3)], [some ⟨0, Enc.cells ((T_impl_Value.mk 0 0 (ByteArray.mk #[])))⟩, some ⟨0, eL x4⟩, some ⟨0, Enc.cells v8⟩, some ⟨0, []⟩]⟩) τ_ok [4, 7, 9] [] 1 (by exact trivial) (by kernel_rfl) ?_
  refine qA_ev (st' := ⟨37, [(23, .ref 1 0 0 3 x4.length false), (22, A a0), (21, E v8), (0, A a0), (4, .ptr 0 0 0), (5, .ref 1 0 0 3 x4.length false), (7, .ptr 2 0 0), (8, I ((w64 (((x4.length : Int)) - v10)))), (10, A a1), (11, I ((a1.length : Int))), (12, I x3)], [some ⟨0, Enc.cells ((T_impl_Value.mk 0 0 (ByteArray.mk #[])))⟩, some ⟨0, eL x4⟩, some ⟨0, Enc.cells v8⟩, some ⟨0, []⟩]⟩) τ_ok [4, 7, 9] [1] 1 (by exact (And.intro (.inl (eL_frz _)) trivial)) (by kernel_rfl) ?_
  refine qA_ev (st' := ⟨37, [(24, I ((w64 (((x4.length : Int)) - v10)))), (23, .ref 1 0 0 3 x4.length false), (22, A a0), (21, E v8), (0, A a0), (4, .ptr 0 0 0), (5, .ref 1 0 0 3 x4.length false), (7, .ptr 2 0 0), (8, I ((w64 (((x4.length : Int)) - v10)))), (10, A a1), (11, I ((a1.length : Int))), (12, I x3)], [some ⟨0, Enc.cells ((T_impl_Value.mk 0 0 (ByteArray.mk #[])))⟩, some ⟨0, eL x4⟩, some ⟨0, Enc.cells v8⟩, some ⟨0, []⟩]⟩) τ_ok [4, 7, 9] [] 1 (by exact trivial) (by kernel_rfl) ?_
  obtain ⟨v12, hv13, h⟩ := bindS h
  refine qA_E (dd := some 25) (x := .ref 1 0 ((w64 (((x4.length : Int)) - v10)).toNat * 3) 3 v12.length false) ([none, some ⟨0, eL x4⟩, none, none]) (⟨37, [(25, .ref 1 0 ((w64 (((x4.length : Int)) - v10)).toNat * 3) 3 v12.length false), (24, I ((w64 (((x4.length : Int)) - v10)))), (23, .ref 1 0 0 3 x4.length false), (22, A a0), (21, E v8), (0, A a0), (4, .ptr 0 0 0), (5, .ref 1 0 0 3 x4.length false), (7, .ptr 2 0 0), (8, I ((w64 (((x4.length : Int)) - v10)))), (10, A a1), (11, I ((a1.length : Int))), (12, I x3)], [some ⟨0, Enc.cells ((T_impl_Value.mk 0 0 (ByteArray.mk #[])))⟩, some ⟨0, eL x4⟩, some ⟨0, Enc.cells v8⟩, some ⟨0, []⟩]⟩) (fun Γ' hΓ => CoreE.of_y (slrV_sound (n := x4.length) τ_ok (by kernel_rfl) rfl hv13)) (by kernel_rfl) (by kernel_rfl) (by exact (And.intro (.inl (eL_frz _)) trivial)) (.inr (.inl rfl)) (by kernel_rfl) ?_
  obtain ⟨v14, hv15, h⟩ := bindS h
  refine qA_E (dd := some 26) (x := E v14) ([none, some ⟨0, eL x4⟩, none, none]) (⟨37, [(26, E v14), (25, .ref 1 0 ((w64 (((x4.length : Int)) - v10)).toNat * 3) 3 v12.length false), (24, I ((w64 (((x4.length : Int)) - v10)))), (23, .ref 1 0 0 3 x4.length false), (22, A a0), (21, E v8), (0, A a0), (4, .ptr 0 0 0), (5, .ref 1 0 0 3 x4.length false), (7, .ptr 2 0 0), (8, I ((w64 (((x4.length : Int)) - v10)))), (10, A a1), (11, I ((a1.length : Int))), (12, I x3)], [some ⟨0, Enc.cells ((T_impl_Value.mk 0 0 (ByteArray.mk #[])))⟩, some ⟨0, eL x4⟩, some ⟨0, Enc.cells v8⟩, some ⟨0, []⟩]⟩) (fun Γ' hΓ => CoreE.of_g (callVV_sound (xs := [E v8, A a0, .ref 1 0 ((w64 (((x4.length : Int)) - v10)).toNat * 3) 3 v12.length false]) (τ := τ) (by kernel_rfl) (ViewL.cons (View.frz rfl) (ViewL.cons (View.frz rfl) (ViewL.cons (View.ref (v := 0) (lo := (w64 (((x4.length : Int)) - v10)).toNat) x4 v12 (by kernel_rfl) (slI_view hv13) rfl) (ViewL.nil _)))) (ok_impl_Part_value hv15) (Blind.E _ rfl rfl) (FzTo.frz rfl))) (by kernel_rfl) (by kernel_rfl) (by exact (And.intro (.inl (eL_frz _)) trivial)) (.inr (.inr rfl)) (by kernel_rfl) ?_
  refine qA_E (dd := some 9) (x := .ptr 3 1 0) ([none, none, none, some ⟨1, Enc.cells ((T_impl_Value.mk 0 0 (ByteArray.mk #[])))⟩]) (⟨37, [(9, .ptr 3 1 0), (26, E v14), (25, .ref 1 0 ((w64 (((x4.length : Int)) - v10)).toNat * 3) 3 v12.length false), (24, I ((w64 (((x4.length : Int)) - v10)))), (23, .ref 1 0 0 3 x4.length false), (22, A a0), (21, E v8), (0, A a0), (4, .ptr 0 0 0), (5, .ref 1 0 0 3 x4.length false), (7, .ptr 2 0 0), (8, I ((w64 (((x4.length : Int)) - v10)))), (10, A a1), (11, I ((a1.length : Int))), (12, I x3)], [some ⟨0, Enc.cells ((T_impl_Value.mk 0 0 (ByteArray.mk #[])))⟩, some ⟨0, eL x4⟩, some ⟨0, Enc.cells v8⟩, some ⟨1, Enc.cells ((T_impl_Value.mk 0 0 (ByteArray.mk #[])))⟩]⟩) (fun Γ' hΓ => alc_E (blk := ⟨0, []⟩) τ_ok [4, 7, 9] 9 3 0 (fun b hb => absurd (hΓ b hb) (hX b)) (by kernel_rfl) (by kernel_rfl)) (by kernel_rfl) (by kernel_rfl) (by exact (And.intro (.inl (Enc.frz _)) trivial)) (.inr (.inl rfl)) (by kernel_rfl) ?_
  refine qA_E (dd := none) (x := .any) ([none, none, none, some ⟨1, Enc.cells v14⟩]) (⟨37, [(9, .ptr 3 1 0), (26, E v14), (25, .ref 1 0 ((w64 (((x4.length : Int)) - v10)).toNat * 3) 3 v12.length false), (24, I ((w64 (((x4.length : Int)) - v10)))), (23, .ref 1 0 0 3 x4.length false), (22, A a0), (21, E v8), (0, A a0), (4, .ptr 0 0 0), (5, .ref 1 0 0 3 x4.length false), (7, .ptr 2 0 0), (8, I ((w64 (((x4.length : Int)) - v10)))), (10, A a1), (11, I ((a1.length : Int))), (12, I x3)], [some ⟨0, Enc.cells ((T_impl_Value.mk 0 0 (ByteArray.mk #[])))⟩, some ⟨0, eL x4⟩, some ⟨0, Enc.cells v8⟩, some ⟨1, Enc.cells v14⟩]⟩) (fun Γ' hΓ => sto_E τ_ok 3 1 (by kernel_rfl)) (by kernel_rfl) (by kernel_rfl) (by exact (And.intro (.inl (Enc.frz _)) trivial)) (.inl rfl) (by kernel_rfl) ?_
  refine qA_end ?_
  refine opsP_imp (Imp.to (st' := ⟨37, [(0, A a0), (4, .ptr 0 0 0), (5, .ref 1 0 0 3 x4.length false), (8, I ((w64 (((x4.length : Int)) - v10)))), (9, .ptr 3 1 0), (10, A a1), (11, I ((a1.length : Int))), (12, I x3)], [some ⟨0, Enc.cells ((T_impl_Value.mk 0 0 (ByteArray.mk #[])))⟩, some ⟨0, eL x4⟩, some ⟨0, Enc.cells v8⟩, some ⟨1, Enc.cells v14⟩]⟩) [0, 4, 5, 8, 9, 10, 11, 12] (by kernel_rfl)) ?_
  refine opsP_end rfl ?_
  refine pwp_imp (Imp.to (st' := ⟨37, [(0, A a0), (4, .ptr 0 0 0), (5, .ref 1 0 0 3 x4.length false), (8, I ((w64 (((x4.length : Int)) - v10)))), (9, .ptr 3 1 0), (10, A a1), (11, I ((a1.length : Int))), (12, I x3)], [some ⟨0, Enc.cells ((T_impl_Value.mk 0 0 (ByteArray.mk #[])))⟩, some ⟨0, eL x4⟩, some ⟨0, Enc.cells v8⟩, some ⟨1, Enc.cells v14⟩]⟩) [0, 4, 5, 8, 9, 10, 11, 12] (by kernel_rfl)) ?_
  refine pwp_any ([[1], [], [1], [3], [], [1], [1]]) ([[], [], [], [], [], [1], []]) rfl (by kernel_rfl) ?_
  refine qA_ev (st' := ⟨37, [(27, .ref 1 0 0 3 x4.length false), (0, A a0), (4, .ptr 0 0 0), (5, .ref 1 0 0 3 x4.length false), (8, I ((w64 (((x4.length : Int)) - v10)))), (9, .ptr 3 1 0), (10, A a1), (11, I ((a1.length : Int))), (12, I x3)], [some ⟨0, Enc.cells ((T_impl_Value.mk 0 0 (ByteArray.mk #[])))⟩, some ⟨0, eL x4⟩, some ⟨0, Enc.cells v8⟩, some ⟨1, Enc.cells v14⟩]⟩) τ_ok [4, 7, 9] [1] 1 (by exact (And.intro (.inl (eL_frz _)) trivial)) (by kernel_rfl) ?_
  refine qA_ev (st' := ⟨37, [(28, I ((w64 (((x4.length : Int)) - v10)))), (27, .ref 1 0 0 3 x4.length false), (0, A a0), (4, .ptr 0 0 0), (5, .ref 1 0 0 3 x4.length false), (8, I ((w64 (((x4.length : Int)) - v10)))), (9, .ptr 3 1 0), (10, A a1), (11, I ((a1.length : Int))), (12, I x3)], [some ⟨0, Enc.cells ((T_impl_Value.mk 0 0 (ByteArray.mk #[])))⟩, some ⟨0, eL x4⟩, some ⟨0, Enc.cells v8⟩, some ⟨1, Enc.cells v14⟩]⟩) τ_ok [4, 7, 9] [] 1 (by exact trivial) (by kernel_rfl) ?_
  obtain ⟨v16, hv17, h⟩ := bindS h
  refine qA_E (dd := some 29) (x := .ref 1 0 0 3 v16.length false) ([none, some ⟨0, eL x4⟩, none, none]) (⟨37, [(29, .ref 1 0 0 3 v16.length false), (28, I ((w64 (((x4.length : Int)) - v10)))), (27, .ref 1 0 0 3 x4.length false), (0, A a0), (4, .ptr 0 0 0), (5, .ref 1 0 0 3 x4.length false), (8, I ((w64 (((x4.length : Int)) - v10)))), (9, .ptr 3 1 0), (10, A a1), (11, I ((a1.length : Int))), (12, I x3)], [some ⟨0, Enc.cells ((T_impl_Value.mk 0 0 (ByteArray.mk #[])))⟩, some ⟨0, eL x4⟩, some ⟨0, Enc.cells v8⟩, some ⟨1, Enc.cells v14⟩]⟩) (fun Γ' hΓ => CoreE.of_y (slrV_sound (n := x4.length) τ_ok (by kernel_rfl) rfl hv17)) (by kernel_rfl) (by kernel_rfl) (by exact (And.intro (.inl (eL_frz _)) trivial)) (.inr (.inl rfl)) (by kernel_rfl) ?_
  refine qA_ev (st' := ⟨37, [(30, E v14), (29, .ref 1 0 0 3 v16.length false), (28, I ((w64 (((x4.length : Int)) - v10)))), (27, .ref 1 0 0 3 x4.length false), (0, A a0), (4, .ptr 0 0 0), (5, .ref 1 0 0 3 x4.length false), (8, I ((w64 (((x4.length : Int)) - v10)))), (9, .ptr 3 1 0), (10, A a1), (11, I ((a1.length : Int))), (12, I x3)], [some ⟨0, Enc.cells ((T_impl_Value.mk 0 0 (ByteArray.mk #[])))⟩, some ⟨0, eL x4⟩, some ⟨0, Enc.cells v8⟩, some ⟨1, Enc.cells v14⟩]⟩) τ_ok [4, 7, 9] [3] 1 (by exact (And.intro (.inl (Enc.frz _)) trivial)) (by kernel_rfl) ?_
  refine qA_ev (st' := ⟨37, [(31, .arr 3 (([v14] : List T_impl_Value)).length (eL ([v14] : List T_impl_Value)) true), (30, E v14), (29, .ref 1 0 0 3 v16.length false), (28, I ((w64 (((x4.length : Int)) - v10)))), (27, .ref 1 0 0 3 x4.length false), (0, A a0), (4, .ptr 0 0 0), (5, .ref 1 0 0 3 x4.length false), (8, I ((w64 (((x4.length : Int)) - v10)))), (9, .ptr 3 1 0), (10, A a1), (11, I ((a1.length : Int))), (12, I x3)], [some ⟨0, Enc.cells ((T_impl_Value.mk 0 0 (ByteArray.mk #[])))⟩, some ⟨0, eL x4⟩, some ⟨0, Enc.cells v8⟩, some ⟨1, Enc.cells v14⟩]⟩) τ_ok [4, 7, 9] [] 1 (by exact trivial) (by kernel_rfl) ?_
  obtain ⟨v18, hv19, h⟩ := bindS h
  refine qA_E (dd := some 32) (x := .ref 1 1 0 3 v18.length false) ([none, some ⟨1, eL v18⟩, none, none]) (⟨37, [(32, .ref 1 1 0 3 v18.length false), (31, .arr 3 (([v14] : List T_impl_Value)).length (eL ([v14] : List T_impl_Value)) true), (30, E v14), (29, .ref 1 0 0 3 v16.length false), (28, I ((w64 (((x4.length : Int)) - v10)))), (27, .ref 1 0 0 3 x4.length false), (0, A a0), (4, .ptr 0 0 0), (5, .ref 1 0 0 3 x4.length false), (8, I ((w64 (((x4.length : Int)) - v10)))), (9, .ptr 3 1 0), (10, A a1), (11, I ((a1.length : Int))), (12, I x3)], [some ⟨0, Enc.cells ((T_impl_Value.mk 0 0 (ByteArray.mk #[])))⟩, some ⟨1, eL v18⟩, some ⟨0, Enc.cells v8⟩, some ⟨1, Enc.cells v14⟩]⟩) (fun Γ' hΓ => app_E τ_ok 32 1 0 v16.length (fun b hb => absurd (hΓ b hb) (hX b)) hv19 (slI_le hv17) (by kernel_rfl)) (by kernel_rfl) (by kernel_rfl) (by exact (And.intro (.inl (eL_frz _)) trivial)) (.inr (.inl rfl)) (by kernel_rfl) ?_
  refine qA_ev (st' := ⟨37, [(5, .ref 1 1 0 3 v18.length false), (32, .ref 1 1 0 3 v18.length false), (31, .arr 3 (([v14] : List T_impl_Value)).length (eL ([v14] : List T_impl_Value)) true), (30, E v14), (29, .ref 1 0 0 3 v16.length false), (28, I ((w64 (((x4.length : Int)) - v10)))), (27, .ref 1 0 0 3 x4.length false), (0, A a0), (4, .ptr 0 0 0), (8, I ((w64 (((x4.length : Int)) - v10)))), (9, .ptr 3 1 0), (10, A a1), (11, I ((a1.length : Int))), (12, I x3)], [some ⟨0, Enc.cells ((T_impl_Value.mk 0 0 (ByteArray.mk #[])))⟩, some ⟨1, eL v18⟩, some ⟨0, Enc.cells v8⟩, some ⟨1, Enc.cells v14⟩]⟩) τ_ok [4, 7, 9] [1] 1 (by exact (And.intro (.inl (eL_frz _)) trivial)) (by kernel_rfl) ?_
  refine qA_end ?_
  refine opsP_imp (Imp.to (st' := ⟨37, [(0, A a0), (4, .ptr 0 0 0), (5, .ref 1 1 0 3 v18.length false), (10, A a1), (11, I ((a1.length : Int))), (12, I x3)], [some ⟨0, Enc.cells ((T_impl_Value.mk 0 0 (ByteArray.mk #[])))⟩, some ⟨1, eL v18⟩, some ⟨0, Enc.cells v8⟩, some ⟨1, Enc.cells v14⟩]⟩) [0, 4, 5, 10, 11, 12] (by kernel_rfl)) ?_
  refine opsP_end rfl ?_
  refine rveM [4, 7, 9] 37 [(0, A a0), (4, .ptr 0 0 0), (5, .ref 1 1 0 3 v18.length false), (10, A a1), (11, I ((a1.length : Int))), (12, I ((w64 (x3 + 1))))] [some ⟨0, Enc.cells ((T_impl_Value.mk 0 0 (ByteArray.mk #[])))⟩, some ⟨1, eL v18⟩, some ⟨0, Enc.cells v8⟩, some ⟨1, Enc.cells v14⟩] ?_
  exact ⟨(f5, (w64 (x3 + 1)), v18), h, Nat.lt_succ_self _, (Imp.to (st' := ⟨37, [(0, A a0), (4, .ptr 0 0 0), (5, .ref 1 1 0 3 v18.length false), (10, A a1), (11, I ((a1.length : Int))), (12, I ((w64 (x3 + 1))))], [some ⟨0, Enc.cells ((T_impl_Value.mk 0 0 (ByteArray.mk #[])))⟩, some ⟨1, eL v18⟩, some ⟨0, Enc.cells v8⟩, some ⟨1, Enc.cells v14⟩]⟩) [0, 4, 5, 10, 11, 12] (by kernel_rfl)).trans ((Imp.truncS (st' := ⟨37, [(0, A a0), (4, .ptr 0 0 0), (5, .ref 1 1 0 3 v18.length false), (10, A a1), (11, I ((a1.length : Int))), (12, I ((w64 (x3 + 1))))], [some ⟨0, Enc.cells ((T_impl_Value.mk 0 0 (ByteArray.mk #[])))⟩, some ⟨1, eL v18⟩]⟩) 2 (fun b hb => absurd hb (hX b)) (by kernel_rfl) (allBelow_mem (by exact (And.intro rfl (And.intro rfl (And.intro rfl (And.intro rfl (And.intro rfl (And.intro rfl trivial)))))))) (by exact (And.intro (rfl) (And.intro (frz_below (eL_frz _)) trivial))) (by kernel_rfl)).trans ((Imp.reverS (st' := ⟨37, [(0, A a0), (4, .ptr 0 0 0), (5, .ref 1 0 0 3 v18.length false), (10, A a1), (11, I ((a1.length : Int))), (12, I ((w64 (x3 + 1))))], [some ⟨0, Enc.cells ((T_impl_Value.mk 0 0 (ByteArray.mk #[])))⟩, some ⟨0, eL v18⟩]⟩) 1 1 (eL v18) [0, 4, 5, 10, 11, 12] (by kernel_rfl) (by exact (And.intro (rfl) (And.intro (eL_frz _) trivial))) (by kernel_rfl)).trans (Imp.to [0, 4, 5, 10, 11, 12] (by kernel_rfl))))⟩
  refine pwp_exit ?_
  refine srvM [4, 7, 9] 1 37 [(4, .ptr 0 0 0), (34, .ref 1 0 0 3 x4.length false)] [some ⟨0, Enc.cells ((T_impl_Value.mk 0 0 (ByteArray.mk #[])))⟩, some ⟨0, eL x4⟩] ?_
  obtain ⟨v20, hv21, h⟩ := bindS h
  refine opsP_idr τ_ok 35 1 0 x4.length hv21 rfl (by kernel_rfl) ?_
  refine opsP_lde (r := E v20) τ_ok 36 117 0 hv21 (by kernel_rfl) (by kernel_rfl) ?_
  refine veM [4, 7, 9] 1 37 [(4, .ptr 0 0 0)] [some ⟨0, Enc.cells v20⟩, some ⟨0, eL x4⟩] ?_
  cases h
  exact pwp_ret rz
def spec_LeftRows_j1 (x5 : Int) (K8 : Int → (List (List T_impl_Value)) → Option (List (List T_impl_Value))) (x10 : List (List T_impl_Value)) : Option (List (List T_impl_Value)) := K8 ((w64 (x5 + 1))) x10
def spec_LeftRows_j3 (x13 : Int) (K16 : Bool → Int → (List (List T_impl_Value)) → Option (List (List T_impl_Value))) (x18 : Bool) (x19 : List (List T_impl_Value)) : Option (List (List T_impl_Value)) := K16 x18 ((w64 (x13 + 1))) x19
def spec_LeftRows_l2 (a1 : List T_impl_Column) (a2 : List (List T_impl_Value)) (a3 : List (List T_impl_Value)) (a4 : List T_impl_Part) (x5 : Int) (K8 : Int → (List (List T_impl_Value)) → Option (List (List T_impl_Value))) : Nat → Bool → Int → (List (List T_impl_Value)) → Option (List (List T_impl_Value))
  | 0, _, _, _ => none
  | f15 + 1, x12, x13, x14 => bif (decide (x13 < ((a3.length : Int)))) then (getI a2 x5).bind fun v20 => (getI a3 x13).bind fun v22 => (spec_l6Joined v20 v22).bind fun v24 => (spec_l6Holds v24 a4).bind fun v26 => bif v26 then (app x14 (([v24] : List (List T_impl_Value)))).bind fun v29 => spec_LeftRows_j3 x13 (spec_LeftRows_l2 a1 a2 a3 a4 x5 K8 f15) true v29 else spec_LeftRows_j3 x13 (spec_LeftRows_l2 a1 a2 a3 a4 x5 K8 f15) x12 x14 else bif (!x12) then (getI a2 x5).bind fun v32 => (mkI ((a1.length : Int)) ((T_impl_Value.mk 0 0 (ByteArray.mk #[])))).bind fun v34 => (spec_l6Joined v32 v34).bind fun v36 => (app x14 (([v36] : List (List T_impl_Value)))).bind fun v38 => spec_LeftRows_j1 x5 K8 v38 else spec_LeftRows_j1 x5 K8 x14
def spec_LeftRows_l0 (a1 : List T_impl_Column) (a2 : List (List T_impl_Value)) (a3 : List (List T_impl_Value)) (a4 : List T_impl_Part) : Nat → Int → (List (List T_impl_Value)) → Option (List (List T_impl_Value))
  | 0, _, _ => none
  | f7 + 1, x5, x6 => bif (decide (x5 < ((a2.length : Int)))) then spec_LeftRows_l2 a1 a2 a3 a4 x5 (spec_LeftRows_l0 a1 a2 a3 a4 f7) FUEL false 0 x6 else some x6
def spec_LeftRows (a0 : List T_impl_Column) (a1 : List T_impl_Column) (a2 : List (List T_impl_Value)) (a3 : List (List T_impl_Value)) (a4 : List T_impl_Part) : Option (List (List T_impl_Value)) := (spec_l23Ready a0 a1 a2 a3 a4).bind fun v1 => bif (!v1) then some (([] : List (List T_impl_Value))) else spec_LeftRows_l0 a1 a2 a3 a4 FUEL 0 (([] : List (List T_impl_Value)))
theorem ok_spec_LeftRows {a0 : List T_impl_Column} {a1 : List T_impl_Column} {a2 : List (List T_impl_Value)} {a3 : List (List T_impl_Value)} {a4 : List T_impl_Part} {y : List (List T_impl_Value)} (h : spec_LeftRows a0 a1 a2 a3 a4 = some y) : OK Tryz.prog 55 [A a0, A a1, A a2, A a3, A a4] (O y) := by
  refine OK_of_pwp τ_ok Tryz.func55 rfl (by kernel_rfl) rfl fun Γ hX => ?_
  unfold spec_LeftRows at h
  refine srve 67 [(0, A a0), (1, A a1), (2, A a2), (3, A a3), (4, A a4)] [] ?_
  refine srve 67 [(0, A a0), (1, A a1), (2, A a2), (3, A a3), (4, A a4), (11, .arr 1 0 (eL ([] : List (List T_impl_Value))) true)] [] ?_
  refine pwp_seq ?_
  refine srv 5 67 [(1, A a1), (2, A a2), (3, A a3), (4, A a4), (11, .arr 1 0 (eL ([] : List (List T_impl_Value))) true), (17, A a0), (18, A a1), (19, A a2), (20, A a3), (21, A a4)] [] ?_
  obtain ⟨v1, hv2, h⟩ := bindS h
  refine opsP_callF τ 22 (ok_spec_l23Ready hv2) (FzTo.frz rfl) rfl (by kernel_rfl) ?_
  refine ve 1 67 [(1, A a1), (2, A a2), (3, A a3), (4, A a4), (11, .arr 1 0 (eL ([] : List (List T_impl_Value))) true), (23, B ((!v1)))] [] ?_
  refine pc h (fun h => ?_) (fun h => ?_)
  refine srve 67 [(10, .arr 1 0 (eL ([] : List (List T_impl_Value))) true)] [] ?_
  refine pwp_imp (Imp.to (st' := ⟨67, [(10, .arr 1 0 (eL ([] : List (List T_impl_Value))) true)], []⟩) [10] (by kernel_rfl)) ?_
  refine pwp_imp (Imp.thawS (st' := ⟨67, [(10, .ref 0 0 0 1 (([] : List (List T_impl_Value))).length false)], [some ⟨0, eL (([] : List (List T_impl_Value)))⟩]⟩) 10 [10] (by kernel_rfl)) ?_
  have h := si h
  subst h
  exact pwp_ret (rt (.ref 0 0 0 1 (([] : List (List T_impl_Value))).length false) (OutP.list (v := 0) (by kernel_rfl)))
  refine pwp_skip ?_
  refine pwp_seq ?_
  refine srve 67 [(1, A a1), (2, A a2), (3, A a3), (4, A a4), (11, .arr 1 0 (eL ([] : List (List T_impl_Value))) true), (12, I 0)] [] ?_
  refine pwp_block ?_
  refine pwp_loop (ι := Nat × Int × (List (List T_impl_Value))) (fun (f7, x5, x6) => (⟨67, [(1, A a1), (2, A a2), (3, A a3), (4, A a4), (11, .ref 0 0 0 1 x6.length false), (12, I x5)], [some ⟨0, eL x6⟩]⟩ : St)) (fun (f7, x5, x6) => spec_LeftRows_l0 a1 a2 a3 a4 f7 x5 x6 = some y) (fun (f7, x5, x6) => f7) (FUEL, 0, ([] : List (List T_impl_Value))) h ((Imp.to (st' := ⟨67, [(1, A a1), (2, A a2), (3, A a3), (4, A a4), (11, .arr 1 0 (eL ([] : List (List T_impl_Value))) true), (12, I 0)], []⟩) [1, 2, 3, 4, 11, 12] (by kernel_rfl)).trans ((Imp.thawS (st' := ⟨67, [(1, A a1), (2, A a2), (3, A a3), (4, A a4), (11, .ref 0 0 0 1 (([] : List (List T_impl_Value))).length false), (12, I 0)], [some ⟨0, eL (([] : List (List T_impl_Value)))⟩]⟩) 11 [1, 2, 3, 4, 11, 12] (by kernel_rfl)).trans (Imp.to [1, 2, 3, 4, 11, 12] (by kernel_rfl)))) ?_
  rintro ⟨f7, x5, x6⟩ h
  dsimp only at h ⊢
  rcases f7 with _ | f7
  cases h
  rw [spec_LeftRows_l0] at h
  refine pwp_seq ?_
  refine srve 67 [(1, A a1), (2, A a2), (3, A a3), (4, A a4), (11, .ref 0 0 0 1 x6.length false), (12, I x5), (28, B ((decide (x5 < ((a2.length : Int))))))] [some ⟨0, eL x6⟩] ?_
  refine pc h (fun h => ?_) (fun h => ?_)
  refine pwp_skip ?_
  refine pwp_seq ?_
  refine pwp_join (σ := (List (List T_impl_Value))) (fun x10 => (⟨67, [(1, A a1), (2, A a2), (3, A a3), (4, A a4), (11, .ref 0 0 0 1 x10.length false), (12, I x5)], [some ⟨0, eL x10⟩]⟩ : St)) (fun x10 => spec_LeftRows_j1 x5 (spec_LeftRows_l0 a1 a2 a3 a4 f7) x10 = some y) ?_ ?_
  refine pwp_block ?_
  refine srve 67 [(1, A a1), (2, A a2), (3, A a3), (4, A a4), (11, .ref 0 0 0 1 x6.length false), (12, I x5), (13, B false)] [some ⟨0, eL x6⟩] ?_
  refine pwp_seq ?_
  refine srve 67 [(1, A a1), (2, A a2), (3, A a3), (4, A a4), (11, .ref 0 0 0 1 x6.length false), (12, I x5), (13, B false), (14, I 0)] [some ⟨0, eL x6⟩] ?_
  refine pwp_block ?_
  refine pwp_loop (ι := Nat × Bool × Int × (List (List T_impl_Value))) (fun (f15, x12, x13, x14) => (⟨67, [(1, A a1), (2, A a2), (3, A a3), (4, A a4), (11, .ref 0 0 0 1 x14.length false), (12, I x5), (13, B x12), (14, I x13)], [some ⟨0, eL x14⟩]⟩ : St)) (fun (f15, x12, x13, x14) => spec_LeftRows_l2 a1 a2 a3 a4 x5 (spec_LeftRows_l0 a1 a2 a3 a4 f7) f15 x12 x13 x14 = some y) (fun (f15, x12, x13, x14) => f15) (FUEL, false, 0, x6) h ((Imp.to (st' := ⟨67, [(1, A a1), (2, A a2), (3, A a3), (4, A a4), (11, .ref 0 0 0 1 x6.length false), (12, I x5), (13, B false), (14, I 0)], [some ⟨0, eL x6⟩]⟩) [1, 2, 3, 4, 11, 12, 13, 14] (by kernel_rfl)).trans (Imp.to [1, 2, 3, 4, 11, 12, 13, 14] (by kernel_rfl))) ?_
  rintro ⟨f15, x12, x13, x14⟩ h
  dsimp only at h ⊢
  rcases f15 with _ | f15
  cases h
  rw [spec_LeftRows_l2] at h
  refine pwp_seq ?_
  refine srve 67 [(1, A a1), (2, A a2), (3, A a3), (4, A a4), (11, .ref 0 0 0 1 x14.length false), (12, I x5), (13, B x12), (14, I x13), (34, B ((decide (x13 < ((a3.length : Int))))))] [some ⟨0, eL x14⟩] ?_
  refine pc h (fun h => ?_) (fun h => ?_)
  refine pwp_skip ?_
  refine pwp_seq ?_
  refine pwp_join (σ := Bool × (List (List T_impl_Value))) (fun (x18, x19) => (⟨67, [(1, A a1), (2, A a2), (3, A a3), (4, A a4), (11, .ref 0 0 0 1 x19.length false), (12, I x5), (13, B x18), (14, I x13)], [some ⟨0, eL x19⟩]⟩ : St)) (fun (x18, x19) => spec_LeftRows_j3 x13 (spec_LeftRows_l2 a1 a2 a3 a4 x5 (spec_LeftRows_l0 a1 a2 a3 a4 f7) f15) x18 x19 = some y) ?_ ?_
  refine pwp_block ?_
  refine pwp_seq ?_
  refine pwp_imp (Imp.to (st' := ⟨67, [(1, A a1), (2, A a2), (3, A a3), (4, A a4), (11, .ref 0 0 0 1 x14.length false), (12, I x5), (13, B x12), (14, I x13)], [some ⟨0, eL x14⟩]⟩) [1, 2, 3, 4, 11, 12, 13, 14] (by kernel_rfl)) ?_
  refine pwp_any ([[], [], [], [], [], [], [], [], [], []]) ([[], [], [], [], [], [], [], [], [], []]) rfl (by kernel_rfl) ?_
  refine qA_ev (st' := ⟨67, [(38, I x5), (37, A a2), (1, A a1), (2, A a2), (3, A a3), (4, A a4), (11, .ref 0 0 0 1 x14.length false), (12, I x5), (13, B x12), (14, I x13)], [some ⟨0, eL x14⟩]⟩) τ_ok [] [] 2 (by exact trivial) (by kernel_rfl) ?_
  obtain ⟨v20, hv21, h⟩ := bindS h
  refine qA_E (dd := some 39) (x := .fptr (Enc.cells v20) 0) ([none]) (⟨67, [(39, .fptr (Enc.cells v20) 0), (38, I x5), (37, A a2), (1, A a1), (2, A a2), (3, A a3), (4, A a4), (11, .ref 0 0 0 1 x14.length false), (12, I x5), (13, B x12), (14, I x13)], [some ⟨0, eL x14⟩]⟩) (fun Γ' hΓ => CoreE.of_y (idxV_sound τ_ok (by kernel_rfl) hv21)) (by kernel_rfl) (by kernel_rfl) (by exact trivial) (.inr (.inr rfl)) (by kernel_rfl) ?_
  refine qA_ev (st' := ⟨67, [(42, I x13), (41, A a3), (40, A v20), (39, .fptr (Enc.cells v20) 0), (38, I x5), (37, A a2), (1, A a1), (2, A a2), (3, A a3), (4, A a4), (11, .ref 0 0 0 1 x14.length false), (12, I x5), (13, B x12), (14, I x13)], [some ⟨0, eL x14⟩]⟩) τ_ok [] [] 3 (by exact trivial) (by kernel_rfl) ?_
  obtain ⟨v22, hv23, h⟩ := bindS h
  refine qA_E (dd := some 43) (x := .fptr (Enc.cells v22) 0) ([none]) (⟨67, [(43, .fptr (Enc.cells v22) 0), (42, I x13), (41, A a3), (40, A v20), (39, .fptr (Enc.cells v20) 0), (38, I x5), (37, A a2), (1, A a1), (2, A a2), (3, A a3), (4, A a4), (11, .ref 0 0 0 1 x14.length false), (12, I x5), (13, B x12), (14, I x13)], [some ⟨0, eL x14⟩]⟩) (fun Γ' hΓ => CoreE.of_y (idxV_sound τ_ok (by kernel_rfl) hv23)) (by kernel_rfl) (by kernel_rfl) (by exact trivial) (.inr (.inr rfl)) (by kernel_rfl) ?_
  refine qA_ev (st' := ⟨67, [(44, A v22), (43, .fptr (Enc.cells v22) 0), (42, I x13), (41, A a3), (40, A v20), (39, .fptr (Enc.cells v20) 0), (38, I x5), (37, A a2), (1, A a1), (2, A a2), (3, A a3), (4, A a4), (11, .ref 0 0 0 1 x14.length false), (12, I x5), (13, B x12), (14, I x13)], [some ⟨0, eL x14⟩]⟩) τ_ok [] [] 1 (by exact trivial) (by kernel_rfl) ?_
  obtain ⟨v24, hv25, h⟩ := bindS h
  refine qA_E (dd := some 45) (x := A v24) ([none]) (⟨67, [(45, A v24), (44, A v22), (43, .fptr (Enc.cells v22) 0), (42, I x13), (41, A a3), (40, A v20), (39, .fptr (Enc.cells v20) 0), (38, I x5), (37, A a2), (1, A a1), (2, A a2), (3, A a3), (4, A a4), (11, .ref 0 0 0 1 x14.length false), (12, I x5), (13, B x12), (14, I x13)], [some ⟨0, eL x14⟩]⟩) (fun Γ' hΓ => CoreE.of_g (callV_sound (τ := τ) (by kernel_rfl) rfl (ok_spec_l6Joined hv25) (FzTo.O _))) (by kernel_rfl) (by kernel_rfl) (by exact trivial) (.inr (.inr rfl)) (by kernel_rfl) ?_
  refine qA_ev (st' := ⟨67, [(15, A v24), (45, A v24), (44, A v22), (43, .fptr (Enc.cells v22) 0), (42, I x13), (41, A a3), (40, A v20), (39, .fptr (Enc.cells v20) 0), (38, I x5), (37, A a2), (1, A a1), (2, A a2), (3, A a3), (4, A a4), (11, .ref 0 0 0 1 x14.length false), (12, I x5), (13, B x12), (14, I x13)], [some ⟨0, eL x14⟩]⟩) τ_ok [] [] 1 (by exact trivial) (by kernel_rfl) ?_
  refine qA_end ?_
  refine opsP_imp (Imp.to (st' := ⟨67, [(1, A a1), (2, A a2), (3, A a3), (4, A a4), (11, .ref 0 0 0 1 x14.length false), (12, I x5), (13, B x12), (14, I x13), (15, A v24)], [some ⟨0, eL x14⟩]⟩) [1, 2, 3, 4, 11, 12, 13, 14, 15] (by kernel_rfl)) ?_
  refine opsP_end rfl ?_
  refine srv 2 67 [(1, A a1), (2, A a2), (3, A a3), (4, A a4), (11, .ref 0 0 0 1 x14.length false), (12, I x5), (13, B x12), (14, I x13), (15, A v24), (46, A v24), (47, A a4)] [some ⟨0, eL x14⟩] ?_
  obtain ⟨v26, hv27, h⟩ := bindS h
  refine opsP_callF τ 48 (ok_spec_l6Holds hv27) (FzTo.frz rfl) rfl (by kernel_rfl) ?_
  refine ve 0 67 [(1, A a1), (2, A a2), (3, A a3), (4, A a4), (11, .ref 0 0 0 1 x14.length false), (12, I x5), (13, B x12), (14, I x13), (15, A v24), (48, B v26)] [some ⟨0, eL x14⟩] ?_
  refine pc h (fun h => ?_) (fun h => ?_)
  refine srv 3 67 [(1, A a1), (2, A a2), (3, A a3), (4, A a4), (12, I x5), (14, I x13), (49, .ref 0 0 0 1 x14.length false), (51, .arr 1 (([v24] : List (List T_impl_Value))).length (eL ([v24] : List (List T_impl_Value))) true)] [some ⟨0, eL x14⟩] ?_
  obtain ⟨v29, hv30, h⟩ := bindS h
  refine opsP_app τ_ok 52 0 0 (fun b hb => absurd hb (hX b)) hv30 (by kernel_rfl) ?_
  refine ve 1 67 [(1, A a1), (2, A a2), (3, A a3), (4, A a4), (11, .ref 0 1 0 1 v29.length false), (12, I x5), (14, I x13)] [some ⟨1, eL v29⟩] ?_
  refine rve 67 [(1, A a1), (2, A a2), (3, A a3), (4, A a4), (11, .ref 0 1 0 1 v29.length false), (12, I x5), (13, B true), (14, I x13)] [some ⟨1, eL v29⟩] ?_
  exact ⟨(true, v29), h, (Imp.to (st' := ⟨67, [(1, A a1), (2, A a2), (3, A a3), (4, A a4), (11, .ref 0 1 0 1 v29.length false), (12, I x5), (13, B true), (14, I x13)], [some ⟨1, eL v29⟩]⟩) [1, 2, 3, 4, 11, 12, 13, 14] (by kernel_rfl)).trans ((Imp.reverS (st' := ⟨67, [(1, A a1), (2, A a2), (3, A a3), (4, A a4), (11, .ref 0 0 0 1 v29.length false), (12, I x5), (13, B true), (14, I x13)], [some ⟨0, eL v29⟩]⟩) 0 1 (eL v29) [1, 2, 3, 4, 11, 12, 13, 14] (by kernel_rfl) (by exact (And.intro (eL_frz _) trivial)) (by kernel_rfl)).trans (Imp.to [1, 2, 3, 4, 11, 12, 13, 14] (by kernel_rfl)))⟩
  refine pwp_skip ?_
  exact ⟨(x12, x14), h, (Imp.to (st' := ⟨67, [(1, A a1), (2, A a2), (3, A a3), (4, A a4), (11, .ref 0 0 0 1 x14.length false), (12, I x5), (13, B x12), (14, I x13)], [some ⟨0, eL x14⟩]⟩) [1, 2, 3, 4, 11, 12, 13, 14] (by kernel_rfl)).trans (Imp.to [1, 2, 3, 4, 11, 12, 13, 14] (by kernel_rfl))⟩
  rintro ⟨x18, x19⟩ h
  dsimp only at h ⊢
  unfold spec_LeftRows_j3 at h
  refine rve 67 [(1, A a1), (2, A a2), (3, A a3), (4, A a4), (11, .ref 0 0 0 1 x19.length false), (12, I x5), (13, B x18), (14, I ((w64 (x13 + 1))))] [some ⟨0, eL x19⟩] ?_
  exact ⟨(f15, x18, (w64 (x13 + 1)), x19), h, Nat.lt_succ_self _, (Imp.to (st' := ⟨67, [(1, A a1), (2, A a2), (3, A a3), (4, A a4), (11, .ref 0 0 0 1 x19.length false), (12, I x5), (13, B x18), (14, I ((w64 (x13 + 1))))], [some ⟨0, eL x19⟩]⟩) [1, 2, 3, 4, 11, 12, 13, 14] (by kernel_rfl)).trans (Imp.to [1, 2, 3, 4, 11, 12, 13, 14] (by kernel_rfl))⟩
  refine pwp_exit ?_
  refine srve 67 [(1, A a1), (2, A a2), (3, A a3), (4, A a4), (11, .ref 0 0 0 1 x14.length false), (12, I x5), (54, B ((!x12)))] [some ⟨0, eL x14⟩] ?_
  refine pc h (fun h => ?_) (fun h => ?_)
  refine pwp_imp (Imp.to (st' := ⟨67, [(1, A a1), (2, A a2), (3, A a3), (4, A a4), (11, .ref 0 0 0 1 x14.length false), (12, I x5)], [some ⟨0, eL x14⟩]⟩) [1, 2, 3, 4, 11, 12] (by kernel_rfl)) ?_
  refine pwp_imp (Imp.ghosts 1 (st' := ⟨67, [(1, A a1), (2, A a2), (3, A a3), (4, A a4), (11, .ref 0 0 0 1 x14.length false), (12, I x5)], [some ⟨0, eL x14⟩, some ⟨0, []⟩]⟩) (by kernel_rfl)) ?_
  refine pwp_any ([[0], [], [], [], [], [], [], [1], [1], [], [0], [0]]) ([[], [], [], [], [], [], [], [1], [], [], [0], []]) rfl (by kernel_rfl) ?_
  refine qA_ev (st' := ⟨67, [(55, .ref 0 0 0 1 x14.length false), (1, A a1), (2, A a2), (3, A a3), (4, A a4), (11, .ref 0 0 0 1 x14.length false), (12, I x5)], [some ⟨0, eL x14⟩, some ⟨0, []⟩]⟩) τ_ok [] [0] 1 (by exact (And.intro (.inl (eL_frz _)) trivial)) (by kernel_rfl) ?_
  refine qA_ev (st' := ⟨67, [(57, I x5), (56, A a2), (55, .ref 0 0 0 1 x14.length false), (1, A a1), (2, A a2), (3, A a3), (4, A a4), (11, .ref 0 0 0 1 x14.length false), (12, I x5)], [some ⟨0, eL x14⟩, some ⟨0, []⟩]⟩) τ_ok [] [] 2 (by exact trivial) (by kernel_rfl) ?_
  obtain ⟨v32, hv33, h⟩ := bindS h
  refine qA_E (dd := some 58) (x := .fptr (Enc.cells v32) 0) ([none, none]) (⟨67, [(58, .fptr (Enc.cells v32) 0), (57, I x5), (56, A a2), (55, .ref 0 0 0 1 x14.length false), (1, A a1), (2, A a2), (3, A a3), (4, A a4), (11, .ref 0 0 0 1 x14.length false), (12, I x5)], [some ⟨0, eL x14⟩, some ⟨0, []⟩]⟩) (fun Γ' hΓ => CoreE.of_y (idxV_sound τ_ok (by kernel_rfl) hv33)) (by kernel_rfl) (by kernel_rfl) (by exact trivial) (.inr (.inr rfl)) (by kernel_rfl) ?_
  refine qA_ev (st' := ⟨67, [(61, I ((a1.length : Int))), (60, A a1), (59, A v32), (58, .fptr (Enc.cells v32) 0), (57, I x5), (56, A a2), (55, .ref 0 0 0 1 x14.length false), (1, A a1), (2, A a2), (3, A a3), (4, A a4), (11, .ref 0 0 0 1 x14.length false), (12, I x5)], [some ⟨0, eL x14⟩, some ⟨0, []⟩]⟩) τ_ok [] [] 3 (by exact trivial) (by kernel_rfl) ?_
  obtain ⟨v34, hv35, h⟩ := bindS h
  refine qA_E (dd := some 62) (x := .ref 1 1 0 3 v34.length false) ([none, some ⟨1, eL v34⟩]) (⟨67, [(62, .ref 1 1 0 3 v34.length false), (61, I ((a1.length : Int))), (60, A a1), (59, A v32), (58, .fptr (Enc.cells v32) 0), (57, I x5), (56, A a2), (55, .ref 0 0 0 1 x14.length false), (1, A a1), (2, A a2), (3, A a3), (4, A a4), (11, .ref 0 0 0 1 x14.length false), (12, I x5)], [some ⟨0, eL x14⟩, some ⟨1, eL v34⟩]⟩) (fun Γ' hΓ => mk_E (blk := ⟨0, []⟩) τ_ok 62 1 0 (fun b hb => absurd (hΓ b hb) (hX b)) (by kernel_rfl) _ hv35 (by kernel_rfl)) (by kernel_rfl) (by kernel_rfl) (by exact (And.intro (.inl (eL_frz _)) trivial)) (.inr (.inl rfl)) (by kernel_rfl) ?_
  obtain ⟨v36, hv37, h⟩ := bindS h
  refine qA_E (dd := some 63) (x := A v36) ([none, some ⟨1, eL v34⟩]) (⟨67, [(63, A v36), (62, .ref 1 1 0 3 v34.length false), (61, I ((a1.length : Int))), (60, A a1), (59, A v32), (58, .fptr (Enc.cells v32) 0), (57, I x5), (56, A a2), (55, .ref 0 0 0 1 x14.length false), (1, A a1), (2, A a2), (3, A a3), (4, A a4), (11, .ref 0 0 0 1 x14.length false), (12, I x5)], [some ⟨0, eL x14⟩, some ⟨1, eL v34⟩]⟩) (fun Γ' hΓ => CoreE.of_g (callVV_sound (xs := [A v32, .ref 1 1 0 3 v34.length false]) (τ := τ) (by kernel_rfl) (ViewL.cons (View.frz rfl) (ViewL.cons (View.whole (v := 1) v34 (by kernel_rfl) rfl) (ViewL.nil _))) (ok_spec_l6Joined hv37) (Blind.O (fun _ => rfl) _) (FzTo.O _))) (by kernel_rfl) (by kernel_rfl) (by exact (And.intro (.inl (eL_frz _)) trivial)) (.inr (.inr rfl)) (by kernel_rfl) ?_
  refine qA_ev (st' := ⟨67, [(64, .arr 1 (([v36] : List (List T_impl_Value))).length (eL ([v36] : List (List T_impl_Value))) true), (63, A v36), (62, .ref 1 1 0 3 v34.length false), (61, I ((a1.length : Int))), (60, A a1), (59, A v32), (58, .fptr (Enc.cells v32) 0), (57, I x5), (56, A a2), (55, .ref 0 0 0 1 x14.length false), (1, A a1), (2, A a2), (3, A a3), (4, A a4), (11, .ref 0 0 0 1 x14.length false), (12, I x5)], [some ⟨0, eL x14⟩, some ⟨1, eL v34⟩]⟩) τ_ok [] [] 1 (by exact trivial) (by kernel_rfl) ?_
  obtain ⟨v38, hv39, h⟩ := bindS h
  refine qA_E (dd := some 65) (x := .ref 0 1 0 1 v38.length false) ([some ⟨1, eL v38⟩, none]) (⟨67, [(65, .ref 0 1 0 1 v38.length false), (64, .arr 1 (([v36] : List (List T_impl_Value))).length (eL ([v36] : List (List T_impl_Value))) true), (63, A v36), (62, .ref 1 1 0 3 v34.length false), (61, I ((a1.length : Int))), (60, A a1), (59, A v32), (58, .fptr (Enc.cells v32) 0), (57, I x5), (56, A a2), (55, .ref 0 0 0 1 x14.length false), (1, A a1), (2, A a2), (3, A a3), (4, A a4), (11, .ref 0 0 0 1 x14.length false), (12, I x5)], [some ⟨1, eL v38⟩, some ⟨1, eL v34⟩]⟩) (fun Γ' hΓ => app_Ew τ_ok 65 0 0 (fun b hb => absurd (hΓ b hb) (hX b)) hv39 (by kernel_rfl)) (by kernel_rfl) (by kernel_rfl) (by exact (And.intro (.inl (eL_frz _)) trivial)) (.inr (.inl rfl)) (by kernel_rfl) ?_
  refine qA_ev (st' := ⟨67, [(11, .ref 0 1 0 1 v38.length false), (65, .ref 0 1 0 1 v38.length false), (64, .arr 1 (([v36] : List (List T_impl_Value))).length (eL ([v36] : List (List T_impl_Value))) true), (63, A v36), (62, .ref 1 1 0 3 v34.length false), (61, I ((a1.length : Int))), (60, A a1), (59, A v32), (58, .fptr (Enc.cells v32) 0), (57, I x5), (56, A a2), (55, .ref 0 0 0 1 x14.length false), (1, A a1), (2, A a2), (3, A a3), (4, A a4), (12, I x5)], [some ⟨1, eL v38⟩, some ⟨1, eL v34⟩]⟩) τ_ok [] [0] 1 (by exact (And.intro (.inl (eL_frz _)) trivial)) (by kernel_rfl) ?_
  refine qA_end ?_
  refine opsP_imp (Imp.to (st' := ⟨67, [(1, A a1), (2, A a2), (3, A a3), (4, A a4), (11, .ref 0 1 0 1 v38.length false), (12, I x5)], [some ⟨1, eL v38⟩, some ⟨1, eL v34⟩]⟩) [1, 2, 3, 4, 11, 12] (by kernel_rfl)) ?_
  refine opsP_end rfl ?_
  exact ⟨v38, h, (Imp.to (st' := ⟨67, [(1, A a1), (2, A a2), (3, A a3), (4, A a4), (11, .ref 0 1 0 1 v38.length false), (12, I x5)], [some ⟨1, eL v38⟩, some ⟨1, eL v34⟩]⟩) [1, 2, 3, 4, 11, 12] (by kernel_rfl)).trans ((Imp.truncS (st' := ⟨67, [(1, A a1), (2, A a2), (3, A a3), (4, A a4), (11, .ref 0 1 0 1 v38.length false), (12, I x5)], [some ⟨1, eL v38⟩]⟩) 1 (fun b hb => absurd hb (hX b)) (by kernel_rfl) (allBelow_mem (by exact (And.intro rfl (And.intro rfl (And.intro rfl (And.intro rfl (And.intro rfl (And.intro rfl trivial)))))))) (by exact (And.intro (frz_below (eL_frz _)) trivial)) (by kernel_rfl)).trans ((Imp.reverS (st' := ⟨67, [(1, A a1), (2, A a2), (3, A a3), (4, A a4), (11, .ref 0 0 0 1 v38.length false), (12, I x5)], [some ⟨0, eL v38⟩]⟩) 0 1 (eL v38) [1, 2, 3, 4, 11, 12] (by kernel_rfl) (by exact (And.intro (eL_frz _) trivial)) (by kernel_rfl)).trans (Imp.to [1, 2, 3, 4, 11, 12] (by kernel_rfl))))⟩
  refine pwp_skip ?_
  exact ⟨x14, h, (Imp.to (st' := ⟨67, [(1, A a1), (2, A a2), (3, A a3), (4, A a4), (11, .ref 0 0 0 1 x14.length false), (12, I x5)], [some ⟨0, eL x14⟩]⟩) [1, 2, 3, 4, 11, 12] (by kernel_rfl)).trans (Imp.to [1, 2, 3, 4, 11, 12] (by kernel_rfl))⟩
  rintro x10 h
  unfold spec_LeftRows_j1 at h
  refine rve 67 [(1, A a1), (2, A a2), (3, A a3), (4, A a4), (11, .ref 0 0 0 1 x10.length false), (12, I ((w64 (x5 + 1))))] [some ⟨0, eL x10⟩] ?_
  exact ⟨(f7, (w64 (x5 + 1)), x10), h, Nat.lt_succ_self _, (Imp.to (st' := ⟨67, [(1, A a1), (2, A a2), (3, A a3), (4, A a4), (11, .ref 0 0 0 1 x10.length false), (12, I ((w64 (x5 + 1))))], [some ⟨0, eL x10⟩]⟩) [1, 2, 3, 4, 11, 12] (by kernel_rfl)).trans (Imp.to [1, 2, 3, 4, 11, 12] (by kernel_rfl))⟩
  refine pwp_exit ?_
  refine srve 67 [(10, .ref 0 0 0 1 x6.length false)] [some ⟨0, eL x6⟩] ?_
  have h := si h
  subst h
  exact pwp_ret (rt (.ref 0 0 0 1 x6.length false) (OutP.list (v := 0) (by kernel_rfl)))
def impl_sidesOk (a0 : List T_impl_Column) (a1 : List T_impl_Column) (a2 : List (List T_impl_Value)) (a3 : List (List T_impl_Value)) : Option Bool := (impl_ColumnsOk a0).bind fun v1 => bif v1 then (impl_ColumnsOk a1).bind fun v3 => bif v3 then bif (decide (((w64 (((a0.length : Int)) + ((a1.length : Int))))) ≤ 4)) then bif (decide (((a2.length : Int)) ≤ 30)) then bif (decide (((a3.length : Int)) ≤ 30)) then (impl_RowsOk a0 a2).bind fun v5 => bif v5 then (impl_RowsOk a1 a3).bind fun v7 => some v7 else some false else some false else some false else some false else some false else some false
theorem ok_impl_sidesOk {a0 : List T_impl_Column} {a1 : List T_impl_Column} {a2 : List (List T_impl_Value)} {a3 : List (List T_impl_Value)} {y : Bool} (h : impl_sidesOk a0 a1 a2 a3 = some y) : OK Tryz.prog 135 [A a0, A a1, A a2, A a3] (B y) := by
  refine OK_of_pwp τ_ok Tryz.func135 rfl (by kernel_rfl) rfl fun Γ hX => ?_
  unfold impl_sidesOk at h
  refine srve 43 [(0, A a0), (1, A a1), (2, A a2), (3, A a3)] [] ?_
  refine srv 1 43 [(0, A a0), (1, A a1), (2, A a2), (3, A a3), (9, A a0)] [] ?_
  obtain ⟨v1, hv2, h⟩ := bindS h
  refine opsP_callF τ 10 (ok_impl_ColumnsOk hv2) (FzTo.frz rfl) rfl (by kernel_rfl) ?_
  refine v 1 43 [(0, A a0), (1, A a1), (2, A a2), (3, A a3), (11, B v1)] [] ?_
  rcases Bool.eq_false_or_eq_true v1 with hc14 | hc14
  replace h := bT hc14 h
  rw [hc14]
  refine v 1 43 [(0, A a0), (1, A a1), (2, A a2), (3, A a3), (11, B true), (12, A a1)] [] ?_
  obtain ⟨v3, hv4, h⟩ := bindS h
  refine opsP_callF τ 13 (ok_impl_ColumnsOk hv4) (FzTo.frz rfl) rfl (by kernel_rfl) ?_
  refine v 2 43 [(0, A a0), (1, A a1), (2, A a2), (3, A a3), (15, B v3)] [] ?_
  rcases Bool.eq_false_or_eq_true v3 with hc13 | hc13
  replace h := bT hc13 h
  rw [hc13]
  refine v 8 43 [(0, A a0), (1, A a1), (2, A a2), (3, A a3), (23, B ((decide (((w64 (((a0.length : Int)) + ((a1.length : Int))))) ≤ 4))))] [] ?_
  rcases fk ((decide (((w64 (((a0.length : Int)) + ((a1.length : Int))))) ≤ 4))) with hc12 | hc12
  replace h := bT hc12 h
  rw [hc12]
  refine v 5 43 [(0, A a0), (1, A a1), (2, A a2), (3, A a3), (28, B ((decide (((a2.length : Int)) ≤ 30))))] [] ?_
  rcases fk ((decide (((a2.length : Int)) ≤ 30))) with hc11 | hc11
  replace h := bT hc11 h
  rw [hc11]
  refine v 5 43 [(0, A a0), (1, A a1), (2, A a2), (3, A a3), (33, B ((decide (((a3.length : Int)) ≤ 30))))] [] ?_
  rcases fk ((decide (((a3.length : Int)) ≤ 30))) with hc10 | hc10
  replace h := bT hc10 h
  rw [hc10]
  refine v 2 43 [(1, A a1), (3, A a3), (33, B true), (34, A a0), (35, A a2)] [] ?_
  obtain ⟨v5, hv6, h⟩ := bindS h
  refine opsP_callF τ 36 (ok_impl_RowsOk hv6) (FzTo.frz rfl) rfl (by kernel_rfl) ?_
  refine v 2 43 [(1, A a1), (3, A a3), (38, B v5)] [] ?_
  rcases Bool.eq_false_or_eq_true v5 with hc9 | hc9
  replace h := bT hc9 h
  rw [hc9]
  refine v 2 43 [(38, B true), (39, A a1), (40, A a3)] [] ?_
  obtain ⟨v7, hv8, h⟩ := bindS h
  refine opsP_callF τ 41 (ok_impl_RowsOk hv8) (FzTo.frz rfl) rfl (by kernel_rfl) ?_
  refine ve 2 43 [(8, B v7)] [] ?_
  cases h
  exact pwp_ret rz
  replace h := bF hc9 h
  rw [hc9]
  refine ve 5 43 [(8, B false)] [] ?_
  cases h
  exact pwp_ret rz
  replace h := bF hc10 h
  rw [hc10]
  refine ve 10 43 [(8, B false)] [] ?_
  cases h
  exact pwp_ret rz
  replace h := bF hc11 h
  rw [hc11]
  refine ve 15 43 [(8, B false)] [] ?_
  cases h
  exact pwp_ret rz
  replace h := bF hc12 h
  rw [hc12]
  refine ve 20 43 [(8, B false)] [] ?_
  cases h
  exact pwp_ret rz
  replace h := bF hc13 h
  rw [hc13]
  refine ve 28 43 [(8, B false)] [] ?_
  cases h
  exact pwp_ret rz
  replace h := bF hc14 h
  rw [hc14]
  refine ve 32 43 [(8, B false)] [] ?_
  cases h
  exact pwp_ret rz
def impl_exprHolds (a0 : List T_impl_Value) (a1 : List T_impl_Part) : Option Bool := (impl_exprValue a0 a1).bind fun v1 => (impl_ValueOf 1).bind fun v3 => some ((eq_T_impl_Value v1 v3))
theorem ok_impl_exprHolds {a0 : List T_impl_Value} {a1 : List T_impl_Part} {y : Bool} (h : impl_exprHolds a0 a1 = some y) : OK Tryz.prog 138 [A a0, A a1] (B y) := by
  refine OK_of_pwp τ_ok Tryz.func138 rfl (by kernel_rfl) rfl fun Γ hX => ?_
  unfold impl_exprHolds at h
  refine srve 10 [(0, A a0), (1, A a1)] [] ?_
  refine srv 2 10 [(5, A a0), (6, A a1)] [] ?_
  obtain ⟨v1, hv2, h⟩ := bindS h
  refine opsP_callF τ 7 (ok_impl_exprValue hv2) (FzTo.frz rfl) rfl (by kernel_rfl) ?_
  obtain ⟨v3, hv4, h⟩ := bindS h
  refine opsP_callF τ 8 (ok_impl_ValueOf hv4) (FzTo.frz rfl) rfl (by kernel_rfl) ?_
  refine ve 2 10 [(4, B ((eq_T_impl_Value v1 v3)))] [] ?_
  cases h
  exact pwp_ret rz
def impl_testOk (a0 : List T_impl_Column) (a1 : List T_impl_Column) (a2 : List (List T_impl_Value)) (a3 : List (List T_impl_Value)) (a4 : List T_impl_Part) : Option Bool := (impl_sidesOk a0 a1 a2 a3).bind fun v1 => bif v1 then (slices_Concat_impl_Column_impl_Column ([a0, a1])).bind fun v3 => (impl_ExprKind v3 a4).bind fun v5 => some ((v5 == 3)) else some false
theorem ok_impl_testOk {a0 : List T_impl_Column} {a1 : List T_impl_Column} {a2 : List (List T_impl_Value)} {a3 : List (List T_impl_Value)} {a4 : List T_impl_Part} {y : Bool} (h : impl_testOk a0 a1 a2 a3 a4 = some y) : OK Tryz.prog 93 [A a0, A a1, A a2, A a3, A a4] (B y) := by
  refine OK_of_pwp τ_ok Tryz.func93 rfl (by kernel_rfl) rfl fun Γ hX => ?_
  unfold impl_testOk at h
  refine srve 25 [(0, A a0), (1, A a1), (2, A a2), (3, A a3), (4, A a4)] [] ?_
  refine srv 4 25 [(0, A a0), (1, A a1), (4, A a4), (11, A a0), (12, A a1), (13, A a2), (14, A a3)] [] ?_
  obtain ⟨v1, hv2, h⟩ := bindS h
  refine opsP_callF τ 15 (ok_impl_sidesOk hv2) (FzTo.frz rfl) rfl (by kernel_rfl) ?_
  refine v 1 25 [(0, A a0), (1, A a1), (4, A a4), (16, B v1)] [] ?_
  rcases Bool.eq_false_or_eq_true v1 with hc7 | hc7
  replace h := bT hc7 h
  rw [hc7]
  refine v 3 25 [(4, A a4), (16, B true), (19, .arr 1 (([a0, a1] : List (List T_impl_Column))).length (eL ([a0, a1] : List (List T_impl_Column))) true)] [] ?_
  obtain ⟨v3, hv4, h⟩ := bindS h
  refine opsP_callF τ 20 (ok_slices_Concat_impl_Column_impl_Column hv4) (FzTo.O _) rfl (by kernel_rfl) ?_
  refine v 1 25 [(16, B true), (20, A v3), (21, A a4)] [] ?_
  obtain ⟨v5, hv6, h⟩ := bindS h
  refine opsP_callF τ 22 (ok_impl_ExprKind hv6) (FzTo.frz rfl) rfl (by kernel_rfl) ?_
  refine ve 3 25 [(10, B ((v5 == 3)))] [] ?_
  cases h
  exact pwp_ret rz
  replace h := bF hc7 h
  rw [hc7]
  refine ve 9 25 [(10, B false)] [] ?_
  cases h
  exact pwp_ret rz
def laws_toValueSS_D_l0 (a0 : List (List T_laws_Value)) : Nat → Int → (List (List T_impl_Value)) → Option (List (List T_impl_Value))
  | 0, _, _ => none
  | f6 + 1, x4, x5 => bif (decide (x4 < ((a0.length : Int)))) then (getI a0 x4).bind fun v9 => (laws_toValueS v9).bind fun v11 => (getI x5 x4).bind fun v13 => (laws_toValueSS_D_l0 a0 f6) ((w64 (x4 + 1))) ((x5.set x4.toNat v11)) else some x5
def laws_toValueSS_D (a0 : List (List T_laws_Value)) : Option (List (List T_impl_Value)) := (mkI ((a0.length : Int)) (([] : List T_impl_Value))).bind fun v1 => laws_toValueSS_D_l0 a0 FUEL 0 v1
theorem ok_laws_toValueSS_D {a0 : List (List T_laws_Value)} {y : List (List T_impl_Value)} (h : laws_toValueSS_D a0 = some y) : OK Tryz.prog 48 [A a0] (OD y) := by
  refine OK_of_pwp τ_ok Tryz.func48 rfl (by kernel_rfl) rfl fun Γ hX => ?_
  unfold laws_toValueSS_D at h
  refine srve 23 [(0, A a0)] [] ?_
  refine srv 2 23 [(0, A a0), (6, I ((a0.length : Int)))] [] ?_
  obtain ⟨v1, hv2, h⟩ := bindS h
  refine opsP_E (dd := some 7) (x := .ref 0 0 0 1 v1.length false) (mkD_N τ_ok 7 0 36 (fun b hb => absurd hb (hX b)) (by kernel_rfl) _ hv2 dz_ok36 (by kernel_rfl)) ?_
  refine ve 1 23 [(0, A a0), (3, .ref 0 0 0 1 v1.length false)] [some ⟨0, dL v1⟩] ?_
  refine pwp_seq ?_
  refine srve 23 [(0, A a0), (3, .ref 0 0 0 1 v1.length false), (4, I 0)] [some ⟨0, dL v1⟩] ?_
  refine pwp_block ?_
  refine pwp_loop (ι := Nat × Int × (List (List T_impl_Value))) (fun (f6, x4, x5) => (⟨23, [(0, A a0), (3, .ref 0 0 0 1 x5.length false), (4, I x4)], [some ⟨0, dL x5⟩]⟩ : St)) (fun (f6, x4, x5) => laws_toValueSS_D_l0 a0 f6 x4 x5 = some y) (fun (f6, x4, x5) => f6) (FUEL, 0, v1) h ((Imp.to (st' := ⟨23, [(0, A a0), (3, .ref 0 0 0 1 v1.length false), (4, I 0)], [some ⟨0, dL v1⟩]⟩) [0, 3, 4] (by kernel_rfl)).trans (Imp.to [0, 3, 4] (by kernel_rfl))) ?_
  rintro ⟨f6, x4, x5⟩ h
  dsimp only at h ⊢
  rcases f6 with _ | f6
  cases h
  rw [laws_toValueSS_D_l0] at h
  refine pwp_seq ?_
  refine srve 23 [(0, A a0), (3, .ref 0 0 0 1 x5.length false), (4, I x4), (11, B ((decide (x4 < ((a0.length : Int))))))] [some ⟨0, dL x5⟩] ?_
  refine pc h (fun h => ?_) (fun h => ?_)
  refine pwp_skip ?_
  refine pwp_seq ?_
  refine pwp_block ?_
  refine rv 4 23 [(0, A a0), (3, .ref 0 0 0 1 x5.length false), (4, I x4), (14, .ref 0 0 0 1 x5.length false), (15, I x4), (16, A a0), (17, I x4)] [some ⟨0, dL x5⟩] ?_
  obtain ⟨v9, hv10, h⟩ := bindS h
  refine opsP_idx τ_ok 18 hv10 (by kernel_rfl) ?_
  refine v 1 23 [(0, A a0), (3, .ref 0 0 0 1 x5.length false), (4, I x4), (14, .ref 0 0 0 1 x5.length false), (15, I x4), (19, A v9)] [some ⟨0, dL x5⟩] ?_
  obtain ⟨v11, hv12, h⟩ := bindS h
  refine opsP_callO τ 20 (ok_laws_toValueS hv12) rfl (by kernel_rfl) ?_
  obtain ⟨v13, hv14, h⟩ := bindS h
  refine opsP_idr τ_ok 21 0 0 x5.length hv14 rfl (by kernel_rfl) ?_
  refine v 0 23 [(0, A a0), (3, .ref 0 0 0 1 x5.length false), (4, I x4), (20, .ref 1 0 0 3 v11.length false), (21, .ptr 0 0 (x4.toNat * 1))] [some ⟨0, dL x5⟩, some ⟨0, eL v11⟩] ?_
  refine opsP_E (dd := none) (x := .any) ((std_E (xs := x5) (vs := [.ref 1 0 0 3 v11.length false]) (cells' := setL (dL x5) (x4.toNat * 1 + 0) [.ref 1 0 0 3 v11.length false]) τ_ok 36 0 0 0 hv14 (by kernel_rfl) (by kernel_rfl) rfl).then (H2 := [some ⟨0, dL ((x5.set x4.toNat v11))⟩, some ⟨1, []⟩]) (HStep.nestL (xs := x5) (vs := [.ref 1 0 0 3 v11.length false]) 0 0 0 v11 hv14 (by kernel_rfl) (OutL.cons (OutP.listn (v := 0) (xs := v11) rfl (by kernel_rfl)) (OutL.nil _)) (by decide) (by decide) (fun b hb => absurd hb (hX b)) (by kernel_rfl) (by kernel_rfl) (by kernel_rfl) (by kernel_rfl))) ?_
  refine opsP_imp (Imp.to (st' := ⟨23, [(0, A a0), (3, .ref 0 0 0 1 x5.length false), (4, I x4)], [some ⟨0, dL ((x5.set x4.toNat v11))⟩, some ⟨1, []⟩]⟩) [0, 3, 4] (by kernel_rfl)) ?_
  refine opsP_ren (st' := ⟨23, [(0, A a0), (3, .ref 0 0 0 1 ((x5.set x4.toNat v11)).length false), (4, I x4)], [some ⟨0, dL ((x5.set x4.toNat v11))⟩, some ⟨1, []⟩]⟩) 0 ((x5.set x4.toNat v11)).length (renC trivial (renC (ren_ref (List.length_set ..).symm) (renC trivial renC0))) (by kernel_rfl) ?_
  refine ve 0 23 [(0, A a0), (3, .ref 0 0 0 1 ((x5.set x4.toNat v11)).length false), (4, I x4)] [some ⟨0, dL ((x5.set x4.toNat v11))⟩, some ⟨1, []⟩] ?_
  refine rve 23 [(0, A a0), (3, .ref 0 0 0 1 ((x5.set x4.toNat v11)).length false), (4, I ((w64 (x4 + 1))))] [some ⟨0, dL ((x5.set x4.toNat v11))⟩, some ⟨1, []⟩] ?_
  exact ⟨(f6, (w64 (x4 + 1)), (x5.set x4.toNat v11)), h, Nat.lt_succ_self _, (Imp.to (st' := ⟨23, [(0, A a0), (3, .ref 0 0 0 1 ((x5.set x4.toNat v11)).length false), (4, I ((w64 (x4 + 1))))], [some ⟨0, dL ((x5.set x4.toNat v11))⟩, some ⟨1, []⟩]⟩) [0, 3, 4] (by kernel_rfl)).trans ((Imp.truncS (st' := ⟨23, [(0, A a0), (3, .ref 0 0 0 1 ((x5.set x4.toNat v11)).length false), (4, I ((w64 (x4 + 1))))], [some ⟨0, dL ((x5.set x4.toNat v11))⟩]⟩) 1 (fun b hb => absurd hb (hX b)) (by kernel_rfl) (allBelow_mem (by exact (And.intro rfl (And.intro rfl (And.intro rfl trivial))))) (by exact (And.intro (dL_below _ _) trivial)) (by kernel_rfl)).trans (Imp.to [0, 3, 4] (by kernel_rfl)))⟩
  refine pwp_exit ?_
  refine srve 23 [(2, .ref 0 0 0 1 x5.length false)] [some ⟨0, dL x5⟩] ?_
  have h := si h
  subst h
  exact pwp_ret (rt (.ref 0 0 0 1 x5.length false) (OutP.listD (v := 0) (by kernel_rfl)))
def slices_Clip_impl_Value_impl_Value_s3_D (a0 : List (List T_impl_Value)) : Option (List (List T_impl_Value)) := (slI a0 none (some ((a0.length : Int))) (some ((a0.length : Int)))).bind fun v1 => some v1
theorem ok_slices_Clip_impl_Value_impl_Value_s3_D {a0 : List (List T_impl_Value)} {y : List (List T_impl_Value)} (h : slices_Clip_impl_Value_impl_Value_s3_D a0 = some y) : OKm Tryz.prog 101 [OD a0] (OD y) := by
  refine OKm_of_pwp (sl := [.ref 0 0 0 1 a0.length false]) (bs := [⟨0, dL a0⟩]) τ_ok Tryz.func101 rfl (by kernel_rfl) rfl (by kernel_rfl) fun Γ hX => ?_
  refine pwp_imp (Imp.to (st' := ⟨9, [(0, .ref 0 0 0 1 a0.length false)], [some ⟨0, dL a0⟩]⟩) [0] (by kernel_rfl)) ?_
  unfold slices_Clip_impl_Value_impl_Value_s3_D at h
  refine srve 9 [(0, .ref 0 0 0 1 a0.length false)] [some ⟨0, dL a0⟩] ?_
  refine srv 5 9 [(3, .ref 0 0 0 1 a0.length false), (5, I ((a0.length : Int))), (7, I ((a0.length : Int)))] [some ⟨0, dL a0⟩] ?_
  obtain ⟨v1, hv2, h⟩ := bindS h
  refine opsP_slr τ_ok 8 0 0 a0.length hv2 rfl (by kernel_rfl) ?_
  refine ve 1 9 [(2, .ref 0 0 0 1 v1.length false)] [some ⟨0, dL a0⟩] ?_
  refine pwp_imp (Imp.to (st' := ⟨9, [(2, .ref 0 0 0 1 v1.length false)], [some ⟨0, dL a0⟩]⟩) [2] (by kernel_rfl)) ?_
  refine pwp_imp (Imp.cutD (st' := ⟨9, [(2, .ref 0 0 0 1 v1.length false)], [some ⟨0, dL v1⟩]⟩) 0 0 a0 v1 (by kernel_rfl) (slI_view hv2) (by kernel_rfl)) ?_
  have h := si h
  subst h
  exact pwp_ret (rt (.ref 0 0 0 1 v1.length false) (OutP.listD (v := 0) (by kernel_rfl)))
def slices_Clip_impl_Value_impl_Value_R (a0 : List T_impl_Value) : Option (List T_impl_Value) := (slI a0 none (some ((a0.length : Int))) (some ((a0.length : Int)))).bind fun v1 => some v1
theorem ok_slices_Clip_impl_Value_impl_Value_R {a0 : List T_impl_Value} {y : List T_impl_Value} (h : slices_Clip_impl_Value_impl_Value_R a0 = some y) : OKm Tryz.prog 176 [O a0] (O y) := by
  refine OKm_of_pwp (sl := [.ref 0 0 0 3 a0.length false]) (bs := [⟨0, eL a0⟩]) τ_ok Tryz.func176 rfl (by kernel_rfl) rfl (by kernel_rfl) fun Γ hX => ?_
  refine pwp_imp (Imp.to (st' := ⟨9, [(0, .ref 0 0 0 3 a0.length false)], [some ⟨0, eL a0⟩]⟩) [0] (by kernel_rfl)) ?_
  unfold slices_Clip_impl_Value_impl_Value_R at h
  refine srve 9 [(0, .ref 0 0 0 3 a0.length false)] [some ⟨0, eL a0⟩] ?_
  refine srv 5 9 [(3, .ref 0 0 0 3 a0.length false), (5, I ((a0.length : Int))), (7, I ((a0.length : Int)))] [some ⟨0, eL a0⟩] ?_
  obtain ⟨v1, hv2, h⟩ := bindS h
  refine opsP_slr τ_ok 8 0 0 a0.length hv2 rfl (by kernel_rfl) ?_
  refine ve 1 9 [(2, .ref 0 0 0 3 v1.length false)] [some ⟨0, eL a0⟩] ?_
  refine pwp_imp (Imp.to (st' := ⟨9, [(2, .ref 0 0 0 3 v1.length false)], [some ⟨0, eL a0⟩]⟩) [2] (by kernel_rfl)) ?_
  refine pwp_imp (Imp.cut (st' := ⟨9, [(2, .ref 0 0 0 3 v1.length false)], [some ⟨0, eL v1⟩]⟩) 0 0 a0 v1 (by kernel_rfl) (slI_view hv2) (by kernel_rfl)) ?_
  have h := si h
  subst h
  exact pwp_ret (rt (.ref 0 0 0 3 v1.length false) (OutP.list (v := 0) (by kernel_rfl)))
def impl_clone_impl_Value_R (a0 : List T_impl_Value) : Option (List T_impl_Value) := bif (((a0.length : Int)) == 0) then some (([] : List T_impl_Value)) else (app [] a0).bind fun v2 => (slices_Clip_impl_Value_impl_Value_R v2).bind fun v4 => some v4
theorem ok_impl_clone_impl_Value_R {a0 : List T_impl_Value} {y : List T_impl_Value} (h : impl_clone_impl_Value_R a0 = some y) : OK Tryz.prog 131 [A a0] (O y) := by
  refine OK_of_pwp τ_ok Tryz.func131 rfl (by kernel_rfl) rfl fun Γ hX => ?_
  unfold impl_clone_impl_Value_R at h
  refine srve 9 [(0, A a0)] [] ?_
  refine pwp_seq ?_
  refine srve 9 [(0, A a0), (5, B ((((a0.length : Int)) == 0)))] [] ?_
  refine pc h (fun h => ?_) (fun h => ?_)
  refine srve 9 [(2, .arr 3 0 (eL ([] : List T_impl_Value)) true)] [] ?_
  refine pwp_imp (Imp.to (st' := ⟨9, [(2, .arr 3 0 (eL ([] : List T_impl_Value)) true)], []⟩) [2] (by kernel_rfl)) ?_
  refine pwp_imp (Imp.thawS (st' := ⟨9, [(2, .ref 0 0 0 3 (([] : List T_impl_Value)).length false)], [some ⟨0, eL (([] : List T_impl_Value))⟩]⟩) 2 [2] (by kernel_rfl)) ?_
  have h := si h
  subst h
  exact pwp_ret (rt (.ref 0 0 0 3 (([] : List T_impl_Value)).length false) (OutP.list (v := 0) (by kernel_rfl)))
  refine pwp_skip ?_
  refine srv 1 9 [(6, A a0)] [] ?_
  obtain ⟨v2, hv3, h⟩ := bindS h
  refine opsP_apn τ_ok 7 0 (fun b hb => absurd hb (hX b)) hv3 (by kernel_rfl) ?_
  obtain ⟨v4, hv5, h⟩ := bindS h
  refine opsP_callM (xs := [.ref 0 1 0 3 v2.length false]) (x := .ref 1 0 0 3 v4.length false) (bs := [⟨0, eL v4⟩]) τ 8 [0] (fun b hb => absurd hb (hX b)) (ok_slices_Clip_impl_Value_impl_Value_R hv5) (by kernel_rfl) (OutL.cons (OutP.list (v := 1) (by kernel_rfl)) (OutL.nil _)) (by decide) (by kernel_rfl) ?_
  refine ve 1 9 [(2, .ref 1 0 0 3 v4.length false)] [none, some ⟨0, eL v4⟩] ?_
  have h := si h
  subst h
  exact pwp_ret (rt (.ref 1 0 0 3 v4.length false) (OutP.list (v := 0) (by kernel_rfl)))
def impl_beside_R (a0 : List T_impl_Value) (a1 : List T_impl_Value) : Option (List T_impl_Value) := (slices_Concat_impl_Value_impl_Value ([a0, a1])).bind fun v1 => (impl_clone_impl_Value_R v1).bind fun v3 => some v3
theorem ok_impl_beside_R {a0 : List T_impl_Value} {a1 : List T_impl_Value} {y : List T_impl_Value} (h : impl_beside_R a0 a1 = some y) : OK Tryz.prog 100 [A a0, A a1] (O y) := by
  refine OK_of_pwp τ_ok Tryz.func100 rfl (by kernel_rfl) rfl fun Γ hX => ?_
  unfold impl_beside_R at h
  refine srve 10 [(0, A a0), (1, A a1)] [] ?_
  refine srv 3 10 [(7, .arr 1 (([a0, a1] : List (List T_impl_Value))).length (eL ([a0, a1] : List (List T_impl_Value))) true)] [] ?_
  obtain ⟨v1, hv2, h⟩ := bindS h
  refine opsP_callF τ 8 (ok_slices_Concat_impl_Value_impl_Value hv2) (FzTo.O _) rfl (by kernel_rfl) ?_
  obtain ⟨v3, hv4, h⟩ := bindS h
  refine opsP_callO τ 9 (ok_impl_clone_impl_Value_R hv4) rfl (by kernel_rfl) ?_
  refine ve 1 10 [(4, .ref 0 0 0 3 v3.length false)] [some ⟨0, eL v3⟩] ?_
  have h := si h
  subst h
  exact pwp_ret (rt (.ref 0 0 0 3 v3.length false) (OutP.list (v := 0) (by kernel_rfl)))
def impl_partners_D_l0 (a0 : List T_impl_Value) (a1 : List (List T_impl_Value)) (a2 : List T_impl_Part) : Nat → Int → (List (List T_impl_Value)) → Option (List (List T_impl_Value))
  | 0, _, _ => none
  | f4 + 1, x2, x3 => bif (decide (x2 < ((a1.length : Int)))) then (getI a1 x2).bind fun v7 => (impl_beside_R a0 v7).bind fun v9 => (impl_exprHolds v9 a2).bind fun v11 => bif v11 then (app x3 (([v9] : List (List T_impl_Value)))).bind fun v14 => (impl_partners_D_l0 a0 a1 a2 f4) ((w64 (x2 + 1))) v14 else (impl_partners_D_l0 a0 a1 a2 f4) ((w64 (x2 + 1))) x3 else some x3
def impl_partners_D (a0 : List T_impl_Value) (a1 : List (List T_impl_Value)) (a2 : List T_impl_Part) : Option (List (List T_impl_Value)) := impl_partners_D_l0 a0 a1 a2 FUEL 0 (([] : List (List T_impl_Value)))
theorem ok_impl_partners_D {a0 : List T_impl_Value} {a1 : List (List T_impl_Value)} {a2 : List T_impl_Part} {y : List (List T_impl_Value)} (h : impl_partners_D a0 a1 a2 = some y) : OK Tryz.prog 96 [A a0, A a1, A a2] (OD y) := by
  refine OK_of_pwp τ_ok Tryz.func96 rfl (by kernel_rfl) rfl fun Γ hX => ?_
  unfold impl_partners_D at h
  refine srve 29 [(0, A a0), (1, A a1), (2, A a2)] [] ?_
  refine srve 29 [(0, A a0), (1, A a1), (2, A a2), (7, .arr 1 0 (eL ([] : List (List T_impl_Value))) true)] [] ?_
  refine pwp_seq ?_
  refine srve 29 [(0, A a0), (2, A a2), (7, .arr 1 0 (eL ([] : List (List T_impl_Value))) true), (11, A a1), (12, I ((a1.length : Int))), (13, I 0)] [] ?_
  refine pwp_block ?_
  refine pwp_loop (ι := Nat × Int × (List (List T_impl_Value))) (fun (f4, x2, x3) => (⟨29, [(0, A a0), (2, A a2), (7, .ref 0 0 0 1 x3.length false), (11, A a1), (12, I ((a1.length : Int))), (13, I x2)], [some ⟨0, dL x3⟩]⟩ : St)) (fun (f4, x2, x3) => impl_partners_D_l0 a0 a1 a2 f4 x2 x3 = some y) (fun (f4, x2, x3) => f4) (FUEL, 0, ([] : List (List T_impl_Value))) h ((Imp.to (st' := ⟨29, [(0, A a0), (2, A a2), (7, .arr 1 0 (eL ([] : List (List T_impl_Value))) true), (11, A a1), (12, I ((a1.length : Int))), (13, I 0)], []⟩) [0, 2, 7, 11, 12, 13] (by kernel_rfl)).trans ((Imp.thawS (st' := ⟨29, [(0, A a0), (2, A a2), (7, .ref 0 0 0 1 (([] : List (List T_impl_Value))).length false), (11, A a1), (12, I ((a1.length : Int))), (13, I 0)], [some ⟨0, dL (([] : List (List T_impl_Value)))⟩]⟩) 7 [0, 2, 7, 11, 12, 13] (by kernel_rfl)).trans (Imp.to [0, 2, 7, 11, 12, 13] (by kernel_rfl)))) ?_
  rintro ⟨f4, x2, x3⟩ h
  dsimp only at h ⊢
  rcases f4 with _ | f4
  cases h
  rw [impl_partners_D_l0] at h
  refine srve 29 [(0, A a0), (2, A a2), (7, .ref 0 0 0 1 x3.length false), (11, A a1), (12, I ((a1.length : Int))), (13, I x2), (14, B ((decide (x2 < ((a1.length : Int))))))] [some ⟨0, dL x3⟩] ?_
  refine pwp_seq ?_
  refine pc h (fun h => ?_) (fun h => ?_)
  refine pwp_skip ?_
  refine pwp_seq ?_
  refine pwp_block ?_
  refine pwp_seq ?_
  refine pwp_region ?_
  obtain ⟨v7, hv8, h⟩ := bindS h
  refine opsP_idx τ_ok 15 hv8 (by kernel_rfl) ?_
  refine ve 2 29 [(0, A a0), (2, A a2), (7, .ref 0 0 0 1 x3.length false), (9, A v7), (11, A a1), (12, I ((a1.length : Int))), (13, I x2)] [some ⟨0, dL x3⟩] ?_
  refine srv 2 29 [(0, A a0), (2, A a2), (7, .ref 0 0 0 1 x3.length false), (11, A a1), (12, I ((a1.length : Int))), (13, I x2), (17, A a0), (18, A v7)] [some ⟨0, dL x3⟩] ?_
  obtain ⟨v9, hv10, h⟩ := bindS h
  refine opsP_callO τ 19 (ok_impl_beside_R hv10) rfl (by kernel_rfl) ?_
  refine ve 1 29 [(0, A a0), (2, A a2), (7, .ref 0 0 0 1 x3.length false), (10, .ref 1 0 0 3 v9.length false), (11, A a1), (12, I ((a1.length : Int))), (13, I x2)] [some ⟨0, dL x3⟩, some ⟨0, eL v9⟩] ?_
  refine srv 2 29 [(0, A a0), (2, A a2), (7, .ref 0 0 0 1 x3.length false), (10, .ref 1 0 0 3 v9.length false), (11, A a1), (12, I ((a1.length : Int))), (13, I x2), (20, .ref 1 0 0 3 v9.length false), (21, A a2)] [some ⟨0, dL x3⟩, some ⟨0, eL v9⟩] ?_
  obtain ⟨v11, hv12, h⟩ := bindS h
  refine opsP_callV (xs := [.ref 1 0 0 3 v9.length false, A a2]) τ 22 (ok_impl_exprHolds hv12) (Blind.lit _) (FzTo.frz rfl) (by kernel_rfl) (ViewL.cons (View.whole (v := 0) v9 (by kernel_rfl) rfl) (ViewL.cons (View.frz rfl) (ViewL.nil _))) ?_
  refine ve 0 29 [(0, A a0), (2, A a2), (7, .ref 0 0 0 1 x3.length false), (10, .ref 1 0 0 3 v9.length false), (11, A a1), (12, I ((a1.length : Int))), (13, I x2), (22, B v11)] [some ⟨0, dL x3⟩, some ⟨0, eL v9⟩] ?_
  refine pc h (fun h => ?_) (fun h => ?_)
  refine rv 2 29 [(0, A a0), (2, A a2), (11, A a1), (12, I ((a1.length : Int))), (13, I x2), (23, .ref 0 0 0 1 x3.length false), (24, .ref 1 0 0 3 v9.length false)] [some ⟨0, dL x3⟩, some ⟨0, eL v9⟩] ?_
  refine opsP_E (dd := some 25) (x := .ref 2 0 0 1 (([v9] : List (List T_impl_Value))).length false) ((bslW_N (cells := [.ref 1 0 0 3 v9.length false]) τ_ok 25 2 (fun b hb => absurd hb (hX b)) (by kernel_rfl) (by kernel_rfl)).then (H2 := [some ⟨0, dL x3⟩, some ⟨1, []⟩, some ⟨0, dL (([v9] : List (List T_impl_Value)))⟩]) (HStep.nest0 (vs := [.ref 1 0 0 3 v9.length false]) 2 0 (by kernel_rfl) (OutL.cons (OutP.listn (v := 0) (xs := v9) rfl (by kernel_rfl)) (OutL.nil _)) (by decide) (by decide) (fun b hb => absurd hb (hX b)) (by kernel_rfl) (by kernel_rfl))) ?_
  obtain ⟨v14, hv15, h⟩ := bindS h
  refine opsP_E (dd := some 26) (x := .ref 0 1 0 1 v14.length false) (appD_E τ_ok 26 0 0 2 0 (fun b hb => absurd hb (hX b)) (by decide) hv15 (by kernel_rfl) (by kernel_rfl) (by kernel_rfl)) ?_
  refine ve 1 29 [(0, A a0), (2, A a2), (7, .ref 0 1 0 1 v14.length false), (11, A a1), (12, I ((a1.length : Int))), (13, I x2)] [some ⟨1, dL v14⟩, some ⟨1, []⟩, some ⟨1, []⟩] ?_
  refine rve 29 [(0, A a0), (2, A a2), (7, .ref 0 1 0 1 v14.length false), (11, A a1), (12, I ((a1.length : Int))), (13, I ((w64 (x2 + 1))))] [some ⟨1, dL v14⟩, some ⟨1, []⟩, some ⟨1, []⟩] ?_
  exact ⟨(f4, (w64 (x2 + 1)), v14), h, Nat.lt_succ_self _, (Imp.to (st' := ⟨29, [(0, A a0), (2, A a2), (7, .ref 0 1 0 1 v14.length false), (11, A a1), (12, I ((a1.length : Int))), (13, I ((w64 (x2 + 1))))], [some ⟨1, dL v14⟩, some ⟨1, []⟩, some ⟨1, []⟩]⟩) [0, 2, 7, 11, 12, 13] (by kernel_rfl)).trans ((Imp.truncS (st' := ⟨29, [(0, A a0), (2, A a2), (7, .ref 0 1 0 1 v14.length false), (11, A a1), (12, I ((a1.length : Int))), (13, I ((w64 (x2 + 1))))], [some ⟨1, dL v14⟩]⟩) 1 (fun b hb => absurd hb (hX b)) (by kernel_rfl) (allBelow_mem (by exact (And.intro rfl (And.intro rfl (And.intro rfl (And.intro rfl (And.intro rfl (And.intro rfl trivial)))))))) (by exact (And.intro (dL_below _ _) trivial)) (by kernel_rfl)).trans ((Imp.reverB (cs := dL v14) (st' := ⟨29, [(0, A a0), (2, A a2), (7, .ref 0 0 0 1 v14.length false), (11, A a1), (12, I ((a1.length : Int))), (13, I ((w64 (x2 + 1))))], [some ⟨0, dL v14⟩]⟩) 0 1 (by kernel_rfl) (dL_qu _) (HpRel.key HpRel.nil) (by kernel_rfl) (by rfl) (fun b hb => absurd hb (hX b))).trans (Imp.to [0, 2, 7, 11, 12, 13] (by kernel_rfl))))⟩
  refine pwp_skip ?_
  refine rve 29 [(0, A a0), (2, A a2), (7, .ref 0 0 0 1 x3.length false), (11, A a1), (12, I ((a1.length : Int))), (13, I ((w64 (x2 + 1))))] [some ⟨0, dL x3⟩, some ⟨0, eL v9⟩] ?_
  exact ⟨(f4, (w64 (x2 + 1)), x3), h, Nat.lt_succ_self _, (Imp.to (st' := ⟨29, [(0, A a0), (2, A a2), (7, .ref 0 0 0 1 x3.length false), (11, A a1), (12, I ((a1.length : Int))), (13, I ((w64 (x2 + 1))))], [some ⟨0, dL x3⟩, some ⟨0, eL v9⟩]⟩) [0, 2, 7, 11, 12, 13] (by kernel_rfl)).trans ((Imp.truncS (st' := ⟨29, [(0, A a0), (2, A a2), (7, .ref 0 0 0 1 x3.length false), (11, A a1), (12, I ((a1.length : Int))), (13, I ((w64 (x2 + 1))))], [some ⟨0, dL x3⟩]⟩) 1 (fun b hb => absurd hb (hX b)) (by kernel_rfl) (allBelow_mem (by exact (And.intro rfl (And.intro rfl (And.intro rfl (And.intro rfl (And.intro rfl (And.intro rfl trivial)))))))) (by exact (And.intro (dL_below _ _) trivial)) (by kernel_rfl)).trans (Imp.to [0, 2, 7, 11, 12, 13] (by kernel_rfl)))⟩
  refine pwp_exit ?_
  refine srve 29 [(6, .ref 0 0 0 1 x3.length false)] [some ⟨0, dL x3⟩] ?_
  have h := si h
  subst h
  exact pwp_ret (rt (.ref 0 0 0 1 x3.length false) (OutP.listD (v := 0) (by kernel_rfl)))
def impl_LeftRows_D_j1 (x5 : Int) (x6 : List (List T_impl_Value)) (K8 : Int → (List (List T_impl_Value)) → Option (List (List T_impl_Value))) (x14 : List (List T_impl_Value)) : Option (List (List T_impl_Value)) := (app x6 x14).bind fun v15 => K8 ((w64 (x5 + 1))) v15
def impl_LeftRows_D_l0 (a1 : List T_impl_Column) (a2 : List (List T_impl_Value)) (a3 : List (List T_impl_Value)) (a4 : List T_impl_Part) : Nat → Int → (List (List T_impl_Value)) → Option (List (List T_impl_Value))
  | 0, _, _ => none
  | f7 + 1, x5, x6 => bif (decide (x5 < ((a2.length : Int)))) then (getI a2 x5).bind fun v10 => (impl_partners_D v10 a3 a4).bind fun v12 => bif (((v12.length : Int)) == 0) then (mkI ((a1.length : Int)) ((T_impl_Value.mk 0 0 (ByteArray.mk #[])))).bind fun v18 => (impl_beside_R v10 v18).bind fun v20 => impl_LeftRows_D_j1 x5 x6 (impl_LeftRows_D_l0 a1 a2 a3 a4 f7) (([v20] : List (List T_impl_Value))) else impl_LeftRows_D_j1 x5 x6 (impl_LeftRows_D_l0 a1 a2 a3 a4 f7) v12 else (slices_Clip_impl_Value_impl_Value_s3_D x6).bind fun v22 => some v22
def impl_LeftRows_D (a0 : List T_impl_Column) (a1 : List T_impl_Column) (a2 : List (List T_impl_Value)) (a3 : List (List T_impl_Value)) (a4 : List T_impl_Part) : Option (List (List T_impl_Value)) := (impl_testOk a0 a1 a2 a3 a4).bind fun v1 => bif (!v1) then some (([] : List (List T_impl_Value))) else impl_LeftRows_D_l0 a1 a2 a3 a4 FUEL 0 (([] : List (List T_impl_Value)))
end Go.D
