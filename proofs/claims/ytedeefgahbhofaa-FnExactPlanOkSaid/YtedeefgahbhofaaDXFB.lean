import Derived.Test.YtedeefgahbhofaaDXFA
import Derived.KernelRfl
set_option linter.unusedVariables false
set_option linter.unusedSimpArgs false
namespace Go.D
open Go.Proofs
/- loop.example/tablehouse/spec.l4Step -/
def spec_l4Step_j1 (a1 : List Int) (a2 : T_impl_Part) (x4 : Bool) : Option ((List Int) × Bool) := bif x4 then some (a1, false) else (app a1 (([a2.fV.fKind] : List Int))).bind fun v6 => some (v6, true)
def spec_l4Step_j2 (a1 : List Int) (x20 : Bool) : Option ((List Int) × Bool) := (slI a1 none (some ((maxL ((w64 (((a1.length : Int)) - 2))) [0]))) none).bind fun v21 => (appT a1 (([1] : List Int)) v21.length).bind fun v23 => some (v23, x20)
def spec_l4Step_j3 (a1 : List Int) (x32 : Bool) : Option ((List Int) × Bool) := (slI a1 none (some ((maxL ((w64 (((a1.length : Int)) - 2))) [0]))) none).bind fun v33 => (appT a1 (([3] : List Int)) v33.length).bind fun v35 => some (v35, x32)
def spec_l4Step_j5 (a1 : List Int) (x47 : Bool) : Option ((List Int) × Bool) := (slI a1 none (some ((maxL ((w64 (((a1.length : Int)) - 2))) [0]))) none).bind fun v48 => (appT a1 (([3] : List Int)) v48.length).bind fun v50 => some (v50, x47)
def spec_l4Step_j4 (a1 : List Int) (a2 : T_impl_Part) (x45 : Bool) : Option ((List Int) × Bool) := bif x45 then bif (decide (((a1.length : Int)) > 1)) then (getI a1 ((w64 (((a1.length : Int)) - 1)))).bind fun v52 => bif (v52 == 3) then (getI a1 ((w64 (((a1.length : Int)) - 2)))).bind fun v54 => spec_l4Step_j5 a1 ((v54 == 3)) else spec_l4Step_j5 a1 false else spec_l4Step_j5 a1 false else bif (a2.fKind == 7) then bif (decide (((a1.length : Int)) > 0)) then (getI a1 ((w64 (((a1.length : Int)) - 1)))).bind fun v59 => some (a1, (v59 == 3)) else some (a1, false) else bif (a2.fKind == 8) then (slI a1 none (some ((maxL ((w64 (((a1.length : Int)) - 1))) [0]))) none).bind fun v63 => (appT a1 (([3] : List Int)) v63.length).bind fun v65 => some (v65, (decide (((a1.length : Int)) > 0))) else some (a1, false)
def spec_l4Step_j0 (a0 : List T_impl_Column) (a1 : List Int) (a2 : T_impl_Part) (x1 : Bool) : Option ((List Int) × Bool) := bif x1 then some (a1, false) else bif (a2.fKind == 1) then (spec_ValueOk a2.fV).bind fun v8 => bif (!v8) then spec_l4Step_j1 a1 a2 true else spec_l4Step_j1 a1 a2 ((a2.fV.fKind == 0)) else bif (a2.fKind == 2) then (spec_l1In a2.fN 0 ((w64 (((a0.length : Int)) - 1)))).bind fun v12 => bif (!v12) then some (a1, false) else (getI a0 a2.fN).bind fun v15 => (app a1 (([v15.fKind] : List Int))).bind fun v17 => some (v17, true) else bif (a2.fKind == 3) then bif (decide (((a1.length : Int)) > 1)) then (getI a1 ((w64 (((a1.length : Int)) - 1)))).bind fun v25 => bif (v25 == 1) then (getI a1 ((w64 (((a1.length : Int)) - 2)))).bind fun v27 => spec_l4Step_j2 a1 ((v27 == 1)) else spec_l4Step_j2 a1 false else spec_l4Step_j2 a1 false else bif (a2.fKind == 4) then bif (decide (((a1.length : Int)) > 1)) then (getI a1 ((w64 (((a1.length : Int)) - 1)))).bind fun v37 => (getI a1 ((w64 (((a1.length : Int)) - 2)))).bind fun v39 => bif (v37 == v39) then (spec_l1In a2.fN 1 4).bind fun v41 => spec_l4Step_j3 a1 v41 else spec_l4Step_j3 a1 false else spec_l4Step_j3 a1 false else bif (a2.fKind == 5) then spec_l4Step_j4 a1 a2 ((a2.fKind == 5)) else spec_l4Step_j4 a1 a2 ((a2.fKind == 6))
def spec_l4Step (a0 : List T_impl_Column) (a1 : List Int) (a2 : T_impl_Part) : Option ((List Int) × Bool) := bif (!(a2.fKind == 1)) then bif (!(eq_T_impl_Value a2.fV ((T_impl_Value.mk 0 0 (ByteArray.mk #[]))))) then spec_l4Step_j0 a0 a1 a2 true else bif (!(a2.fKind == 2)) then bif (!(a2.fKind == 4)) then spec_l4Step_j0 a0 a1 a2 ((!(a2.fN == 0))) else spec_l4Step_j0 a0 a1 a2 false else spec_l4Step_j0 a0 a1 a2 false else bif (!(a2.fKind == 2)) then bif (!(a2.fKind == 4)) then spec_l4Step_j0 a0 a1 a2 ((!(a2.fN == 0))) else spec_l4Step_j0 a0 a1 a2 false else spec_l4Step_j0 a0 a1 a2 false
theorem ok_spec_l4Step {a0 : List T_impl_Column} {a1 : List Int} {a2 : T_impl_Part} {y : (List Int) × Bool} (h : spec_l4Step a0 a1 a2 = some y) : OKm Try.prog 102 [A a0, O a1, E a2] (.tup [O y.1, B y.2]) := by
  refine OKm_of_pwp (sl := [A a0, .ref 0 0 0 1 a1.length false, E a2]) (bs := [⟨0, eL a1⟩]) τ_ok Try.func102 rfl (by kernel_rfl) rfl (by kernel_rfl) fun Γ hX => ?_
  refine pwp_imp (Imp.to (st' := ⟨191, [(0, A a0), (1, .ref 0 0 0 1 a1.length false), (2, E a2)], [some ⟨0, eL a1⟩]⟩) [0, 1, 2] (by kernel_rfl)) ?_
  unfold spec_l4Step at h
  refine pwp_seq ?_
  refine pwp_region ?_
  refine opsP_evk' (st' := ⟨191, [(0, A a0), (1, .ref 0 0 0 1 a1.length false), (5, .fptr (Enc.cells a2) 0)], [some ⟨0, eL a1⟩]⟩) τ_ok [] 3 [0, 1, 5] (by kernel_rfl) ?_
  refine opsP_end rfl ?_
  refine pwp_seq ?_
  refine pwp_region ?_
  refine opsP_evk' (st' := ⟨191, [(0, A a0), (1, .ref 0 0 0 1 a1.length false), (5, .fptr (Enc.cells a2) 0), (8, I ((a1.length : Int)))], [some ⟨0, eL a1⟩]⟩) τ_ok [] 3 [0, 1, 5, 8] (by kernel_rfl) ?_
  refine opsP_end rfl ?_
  refine pwp_seq ?_
  refine pwp_seq ?_
  refine pwp_join (σ := Bool) (fun x1 => (⟨191, [(0, A a0), (1, .ref 0 0 0 1 a1.length false), (5, .fptr (Enc.cells a2) 0), (8, I ((a1.length : Int))), (37, B x1)], [some ⟨0, eL a1⟩]⟩ : St)) (fun x1 => spec_l4Step_j0 a0 a1 a2 x1 = some y) ?_ ?_
  · refine pwp_region ?_
    refine opsP_evk' (st' := ⟨191, [(0, A a0), (1, .ref 0 0 0 1 a1.length false), (5, .fptr (Enc.cells a2) 0), (8, I ((a1.length : Int))), (17, B ((!(a2.fKind == 1))))], [some ⟨0, eL a1⟩]⟩) τ_ok [] 4 [0, 1, 5, 8, 17] (by kernel_rfl) ?_
    rcases Bool.eq_false_or_eq_true ((!(a2.fKind == 1))) with hc73 | hc73
    · replace h := bifT hc73 h
      rw [hc73]
      refine opsP_evk' (st' := ⟨191, [(0, A a0), (1, .ref 0 0 0 1 a1.length false), (5, .fptr (Enc.cells a2) 0), (8, I ((a1.length : Int))), (23, B ((!(eq_T_impl_Value a2.fV ((T_impl_Value.mk 0 0 (ByteArray.mk #[])))))))], [some ⟨0, eL a1⟩]⟩) τ_ok [] 6 [0, 1, 5, 8, 23] (by kernel_rfl) ?_
      rcases Bool.eq_false_or_eq_true ((!(eq_T_impl_Value a2.fV ((T_impl_Value.mk 0 0 (ByteArray.mk #[])))))) with hc70 | hc70
      · replace h := bifT hc70 h
        rw [hc70]
        refine opsP_evk' (st' := ⟨191, [(0, A a0), (1, .ref 0 0 0 1 a1.length false), (5, .fptr (Enc.cells a2) 0), (8, I ((a1.length : Int))), (37, B true)], [some ⟨0, eL a1⟩]⟩) τ_ok [] 14 [0, 1, 5, 8, 37] (by kernel_rfl) ?_
        refine opsP_end rfl ?_
        exact ⟨true, h, (Imp.to (st' := ⟨191, [(0, A a0), (1, .ref 0 0 0 1 a1.length false), (5, .fptr (Enc.cells a2) 0), (8, I ((a1.length : Int))), (37, B true)], [some ⟨0, eL a1⟩]⟩) [0, 1, 5, 8, 37] (by kernel_rfl)).trans (Imp.to [0, 1, 5, 8, 37] (by kernel_rfl))⟩
      · replace h := bifF hc70 h
        rw [hc70]
        refine opsP_evk' (st' := ⟨191, [(0, A a0), (1, .ref 0 0 0 1 a1.length false), (5, .fptr (Enc.cells a2) 0), (8, I ((a1.length : Int))), (23, B false), (27, B ((!(a2.fKind == 2))))], [some ⟨0, eL a1⟩]⟩) τ_ok [] 4 [0, 1, 5, 8, 23, 27] (by kernel_rfl) ?_
        rcases Bool.eq_false_or_eq_true ((!(a2.fKind == 2))) with hc69 | hc69
        · replace h := bifT hc69 h
          rw [hc69]
          refine opsP_evk' (st' := ⟨191, [(0, A a0), (1, .ref 0 0 0 1 a1.length false), (5, .fptr (Enc.cells a2) 0), (8, I ((a1.length : Int))), (23, B false), (32, B ((!(a2.fKind == 4))))], [some ⟨0, eL a1⟩]⟩) τ_ok [] 5 [0, 1, 5, 8, 23, 32] (by kernel_rfl) ?_
          rcases Bool.eq_false_or_eq_true ((!(a2.fKind == 4))) with hc68 | hc68
          · replace h := bifT hc68 h
            rw [hc68]
            refine opsP_evk' (st' := ⟨191, [(0, A a0), (1, .ref 0 0 0 1 a1.length false), (5, .fptr (Enc.cells a2) 0), (8, I ((a1.length : Int))), (37, B ((!(a2.fN == 0))))], [some ⟨0, eL a1⟩]⟩) τ_ok [] 5 [0, 1, 5, 8, 37] (by kernel_rfl) ?_
            refine opsP_end rfl ?_
            exact ⟨(!(a2.fN == 0)), h, (Imp.to (st' := ⟨191, [(0, A a0), (1, .ref 0 0 0 1 a1.length false), (5, .fptr (Enc.cells a2) 0), (8, I ((a1.length : Int))), (37, B ((!(a2.fN == 0))))], [some ⟨0, eL a1⟩]⟩) [0, 1, 5, 8, 37] (by kernel_rfl)).trans (Imp.to [0, 1, 5, 8, 37] (by kernel_rfl))⟩
          · replace h := bifF hc68 h
            rw [hc68]
            refine opsP_evk' (st' := ⟨191, [(0, A a0), (1, .ref 0 0 0 1 a1.length false), (5, .fptr (Enc.cells a2) 0), (8, I ((a1.length : Int))), (37, B false)], [some ⟨0, eL a1⟩]⟩) τ_ok [] 5 [0, 1, 5, 8, 37] (by kernel_rfl) ?_
            refine opsP_end rfl ?_
            exact ⟨false, h, (Imp.to (st' := ⟨191, [(0, A a0), (1, .ref 0 0 0 1 a1.length false), (5, .fptr (Enc.cells a2) 0), (8, I ((a1.length : Int))), (37, B false)], [some ⟨0, eL a1⟩]⟩) [0, 1, 5, 8, 37] (by kernel_rfl)).trans (Imp.to [0, 1, 5, 8, 37] (by kernel_rfl))⟩
        · replace h := bifF hc69 h
          rw [hc69]
          refine opsP_evk' (st' := ⟨191, [(0, A a0), (1, .ref 0 0 0 1 a1.length false), (5, .fptr (Enc.cells a2) 0), (8, I ((a1.length : Int))), (37, B false)], [some ⟨0, eL a1⟩]⟩) τ_ok [] 10 [0, 1, 5, 8, 37] (by kernel_rfl) ?_
          refine opsP_end rfl ?_
          exact ⟨false, h, (Imp.to (st' := ⟨191, [(0, A a0), (1, .ref 0 0 0 1 a1.length false), (5, .fptr (Enc.cells a2) 0), (8, I ((a1.length : Int))), (37, B false)], [some ⟨0, eL a1⟩]⟩) [0, 1, 5, 8, 37] (by kernel_rfl)).trans (Imp.to [0, 1, 5, 8, 37] (by kernel_rfl))⟩
    · replace h := bifF hc73 h
      rw [hc73]
      refine opsP_evk' (st' := ⟨191, [(0, A a0), (1, .ref 0 0 0 1 a1.length false), (5, .fptr (Enc.cells a2) 0), (8, I ((a1.length : Int))), (23, B false), (27, B ((!(a2.fKind == 2))))], [some ⟨0, eL a1⟩]⟩) τ_ok [] 10 [0, 1, 5, 8, 23, 27] (by kernel_rfl) ?_
      rcases Bool.eq_false_or_eq_true ((!(a2.fKind == 2))) with hc72 | hc72
      · replace h := bifT hc72 h
        rw [hc72]
        refine opsP_evk' (st' := ⟨191, [(0, A a0), (1, .ref 0 0 0 1 a1.length false), (5, .fptr (Enc.cells a2) 0), (8, I ((a1.length : Int))), (23, B false), (32, B ((!(a2.fKind == 4))))], [some ⟨0, eL a1⟩]⟩) τ_ok [] 5 [0, 1, 5, 8, 23, 32] (by kernel_rfl) ?_
        rcases Bool.eq_false_or_eq_true ((!(a2.fKind == 4))) with hc71 | hc71
        · replace h := bifT hc71 h
          rw [hc71]
          refine opsP_evk' (st' := ⟨191, [(0, A a0), (1, .ref 0 0 0 1 a1.length false), (5, .fptr (Enc.cells a2) 0), (8, I ((a1.length : Int))), (37, B ((!(a2.fN == 0))))], [some ⟨0, eL a1⟩]⟩) τ_ok [] 5 [0, 1, 5, 8, 37] (by kernel_rfl) ?_
          refine opsP_end rfl ?_
          exact ⟨(!(a2.fN == 0)), h, (Imp.to (st' := ⟨191, [(0, A a0), (1, .ref 0 0 0 1 a1.length false), (5, .fptr (Enc.cells a2) 0), (8, I ((a1.length : Int))), (37, B ((!(a2.fN == 0))))], [some ⟨0, eL a1⟩]⟩) [0, 1, 5, 8, 37] (by kernel_rfl)).trans (Imp.to [0, 1, 5, 8, 37] (by kernel_rfl))⟩
        · replace h := bifF hc71 h
          rw [hc71]
          refine opsP_evk' (st' := ⟨191, [(0, A a0), (1, .ref 0 0 0 1 a1.length false), (5, .fptr (Enc.cells a2) 0), (8, I ((a1.length : Int))), (37, B false)], [some ⟨0, eL a1⟩]⟩) τ_ok [] 5 [0, 1, 5, 8, 37] (by kernel_rfl) ?_
          refine opsP_end rfl ?_
          exact ⟨false, h, (Imp.to (st' := ⟨191, [(0, A a0), (1, .ref 0 0 0 1 a1.length false), (5, .fptr (Enc.cells a2) 0), (8, I ((a1.length : Int))), (37, B false)], [some ⟨0, eL a1⟩]⟩) [0, 1, 5, 8, 37] (by kernel_rfl)).trans (Imp.to [0, 1, 5, 8, 37] (by kernel_rfl))⟩
      · replace h := bifF hc72 h
        rw [hc72]
        refine opsP_evk' (st' := ⟨191, [(0, A a0), (1, .ref 0 0 0 1 a1.length false), (5, .fptr (Enc.cells a2) 0), (8, I ((a1.length : Int))), (37, B false)], [some ⟨0, eL a1⟩]⟩) τ_ok [] 10 [0, 1, 5, 8, 37] (by kernel_rfl) ?_
        refine opsP_end rfl ?_
        exact ⟨false, h, (Imp.to (st' := ⟨191, [(0, A a0), (1, .ref 0 0 0 1 a1.length false), (5, .fptr (Enc.cells a2) 0), (8, I ((a1.length : Int))), (37, B false)], [some ⟨0, eL a1⟩]⟩) [0, 1, 5, 8, 37] (by kernel_rfl)).trans (Imp.to [0, 1, 5, 8, 37] (by kernel_rfl))⟩
  · rintro x1 h
    skip
    unfold spec_l4Step_j0 at h
    refine pwp_cond x1 (by kernel_rfl) (fun hc2 => ?_) (fun hc2 => ?_)
    · replace h := bifT hc2 h
      refine pwp_seq ?_
      refine pwp_region ?_
      refine opsP_evk' (st' := ⟨191, [(6, .ref 0 0 0 1 a1.length false), (7, B false)], [some ⟨0, eL a1⟩]⟩) τ_ok [] 3 [6, 7] (by kernel_rfl) ?_
      refine opsP_end rfl ?_
      have h := Option.some.inj h
      subst h
      exact pwp_ret ⟨.inr rfl, .tup [.ref 0 0 0 1 a1.length false, B false], _, by kernel_rfl, (OutP.tup (OutL.cons (OutP.list (v := 0) (by kernel_rfl)) (OutL.cons (OutP.frz (by kernel_rfl)) (OutL.nil _)))), by decide⟩
    · replace h := bifF hc2 h
      refine pwp_skip ?_
      refine pwp_seq ?_
      refine pwp_seq ?_
      refine pwp_region ?_
      refine opsP_evk' (st' := ⟨191, [(0, A a0), (1, .ref 0 0 0 1 a1.length false), (5, .fptr (Enc.cells a2) 0), (8, I ((a1.length : Int))), (40, I a2.fKind)], [some ⟨0, eL a1⟩]⟩) τ_ok [] 2 [0, 1, 5, 8, 40] (by kernel_rfl) ?_
      refine opsP_end rfl ?_
      refine pwp_block ?_
      refine pwp_seq ?_
      refine pwp_region ?_
      refine opsP_evk' (st' := ⟨191, [(0, A a0), (1, .ref 0 0 0 1 a1.length false), (5, .fptr (Enc.cells a2) 0), (8, I ((a1.length : Int))), (40, I a2.fKind), (41, B ((a2.fKind == 1)))], [some ⟨0, eL a1⟩]⟩) τ_ok [] 2 [0, 1, 5, 8, 40, 41] (by kernel_rfl) ?_
      refine opsP_end rfl ?_
      refine pwp_cond ((a2.fKind == 1)) (by kernel_rfl) (fun hc3 => ?_) (fun hc3 => ?_)
      · replace h := bifT hc3 h
        refine pwp_seq ?_
        refine pwp_seq ?_
        refine pwp_join (σ := Bool) (fun x4 => (⟨191, [(1, .ref 0 0 0 1 a1.length false), (5, .fptr (Enc.cells a2) 0), (52, B x4)], [some ⟨0, eL a1⟩]⟩ : St)) (fun x4 => spec_l4Step_j1 a1 a2 x4 = some y) ?_ ?_
        · refine pwp_region ?_
          refine opsP_evk' (st' := ⟨191, [(1, .ref 0 0 0 1 a1.length false), (5, .fptr (Enc.cells a2) 0), (44, E a2.fV)], [some ⟨0, eL a1⟩]⟩) τ_ok [] 2 [1, 5, 44] (by kernel_rfl) ?_
          obtain ⟨v8, hv9, h⟩ := bindS h
          refine opsP_callF τ 45 (ok_spec_ValueOk hv9) (FzTo.frz rfl) rfl (by kernel_rfl) ?_
          refine opsP_evk' (st' := ⟨191, [(1, .ref 0 0 0 1 a1.length false), (5, .fptr (Enc.cells a2) 0), (47, B ((!v8)))], [some ⟨0, eL a1⟩]⟩) τ_ok [] 2 [1, 5, 47] (by kernel_rfl) ?_
          rcases Bool.eq_false_or_eq_true ((!v8)) with hc10 | hc10
          · replace h := bifT hc10 h
            rw [hc10]
            refine opsP_evk' (st' := ⟨191, [(1, .ref 0 0 0 1 a1.length false), (5, .fptr (Enc.cells a2) 0), (52, B true)], [some ⟨0, eL a1⟩]⟩) τ_ok [] 5 [1, 5, 52] (by kernel_rfl) ?_
            refine opsP_end rfl ?_
            exact ⟨true, h, (Imp.to (st' := ⟨191, [(1, .ref 0 0 0 1 a1.length false), (5, .fptr (Enc.cells a2) 0), (52, B true)], [some ⟨0, eL a1⟩]⟩) [1, 5, 52] (by kernel_rfl)).trans (Imp.to [1, 5, 52] (by kernel_rfl))⟩
          · replace h := bifF hc10 h
            rw [hc10]
            refine opsP_evk' (st' := ⟨191, [(1, .ref 0 0 0 1 a1.length false), (5, .fptr (Enc.cells a2) 0), (52, B ((a2.fV.fKind == 0)))], [some ⟨0, eL a1⟩]⟩) τ_ok [] 5 [1, 5, 52] (by kernel_rfl) ?_
            refine opsP_end rfl ?_
            exact ⟨(a2.fV.fKind == 0), h, (Imp.to (st' := ⟨191, [(1, .ref 0 0 0 1 a1.length false), (5, .fptr (Enc.cells a2) 0), (52, B ((a2.fV.fKind == 0)))], [some ⟨0, eL a1⟩]⟩) [1, 5, 52] (by kernel_rfl)).trans (Imp.to [1, 5, 52] (by kernel_rfl))⟩
        · rintro x4 h
          skip
          unfold spec_l4Step_j1 at h
          refine pwp_cond x4 (by kernel_rfl) (fun hc5 => ?_) (fun hc5 => ?_)
          · replace h := bifT hc5 h
            refine pwp_seq ?_
            refine pwp_region ?_
            refine opsP_evk' (st' := ⟨191, [(6, .ref 0 0 0 1 a1.length false), (7, B false)], [some ⟨0, eL a1⟩]⟩) τ_ok [] 3 [6, 7] (by kernel_rfl) ?_
            refine opsP_end rfl ?_
            have h := Option.some.inj h
            subst h
            exact pwp_ret ⟨.inr rfl, .tup [.ref 0 0 0 1 a1.length false, B false], _, by kernel_rfl, (OutP.tup (OutL.cons (OutP.list (v := 0) (by kernel_rfl)) (OutL.cons (OutP.frz (by kernel_rfl)) (OutL.nil _)))), by decide⟩
          · replace h := bifF hc5 h
            refine pwp_skip ?_
            refine pwp_seq ?_
            refine pwp_region ?_
            refine opsP_evk' (st' := ⟨191, [(54, .ref 0 0 0 1 a1.length false), (58, .arr 1 (([a2.fV.fKind] : List Int)).length (eL ([a2.fV.fKind] : List Int)) true)], [some ⟨0, eL a1⟩]⟩) τ_ok [] 5 [54, 58] (by kernel_rfl) ?_
            obtain ⟨v6, hv7, h⟩ := bindS h
            refine opsP_app τ_ok 59 0 0 (fun b hb => absurd hb (hX b)) hv7 (by kernel_rfl) ?_
            refine opsP_evk' (st' := ⟨191, [(6, .ref 0 1 0 1 v6.length false), (7, B true)], [some ⟨1, eL v6⟩]⟩) τ_ok [] 2 [6, 7] (by kernel_rfl) ?_
            refine opsP_end rfl ?_
            have h := Option.some.inj h
            subst h
            exact pwp_ret ⟨.inr rfl, .tup [.ref 0 1 0 1 v6.length false, B true], _, by kernel_rfl, (OutP.tup (OutL.cons (OutP.list (v := 1) (by kernel_rfl)) (OutL.cons (OutP.frz (by kernel_rfl)) (OutL.nil _)))), by decide⟩
      · replace h := bifF hc3 h
        refine pwp_seq ?_
        refine pwp_region ?_
        refine opsP_evk' (st' := ⟨191, [(0, A a0), (1, .ref 0 0 0 1 a1.length false), (5, .fptr (Enc.cells a2) 0), (8, I ((a1.length : Int))), (40, I a2.fKind), (60, B ((a2.fKind == 2)))], [some ⟨0, eL a1⟩]⟩) τ_ok [] 2 [0, 1, 5, 8, 40, 60] (by kernel_rfl) ?_
        refine opsP_end rfl ?_
        refine pwp_cond ((a2.fKind == 2)) (by kernel_rfl) (fun hc11 => ?_) (fun hc11 => ?_)
        · replace h := bifT hc11 h
          refine pwp_seq ?_
          refine pwp_seq ?_
          refine pwp_region ?_
          refine opsP_evk' (st' := ⟨191, [(0, A a0), (1, .ref 0 0 0 1 a1.length false), (5, .fptr (Enc.cells a2) 0), (63, I a2.fN), (66, I ((w64 (((a0.length : Int)) - 1))))], [some ⟨0, eL a1⟩]⟩) τ_ok [] 5 [0, 1, 5, 63, 66] (by kernel_rfl) ?_
          obtain ⟨v12, hv13, h⟩ := bindS h
          refine opsP_callF τ 67 (ok_spec_l1In hv13) (FzTo.frz rfl) rfl (by kernel_rfl) ?_
          refine opsP_evk' (st' := ⟨191, [(0, A a0), (1, .ref 0 0 0 1 a1.length false), (5, .fptr (Enc.cells a2) 0), (68, B ((!v12)))], [some ⟨0, eL a1⟩]⟩) τ_ok [] 1 [0, 1, 5, 68] (by kernel_rfl) ?_
          refine opsP_end rfl ?_
          refine pwp_cond ((!v12)) (by kernel_rfl) (fun hc14 => ?_) (fun hc14 => ?_)
          · replace h := bifT hc14 h
            refine pwp_seq ?_
            refine pwp_region ?_
            refine opsP_evk' (st' := ⟨191, [(6, .ref 0 0 0 1 a1.length false), (7, B false)], [some ⟨0, eL a1⟩]⟩) τ_ok [] 3 [6, 7] (by kernel_rfl) ?_
            refine opsP_end rfl ?_
            have h := Option.some.inj h
            subst h
            exact pwp_ret ⟨.inr rfl, .tup [.ref 0 0 0 1 a1.length false, B false], _, by kernel_rfl, (OutP.tup (OutL.cons (OutP.list (v := 0) (by kernel_rfl)) (OutL.cons (OutP.frz (by kernel_rfl)) (OutL.nil _)))), by decide⟩
          · replace h := bifF hc14 h
            refine pwp_skip ?_
            refine pwp_seq ?_
            refine pwp_region ?_
            refine opsP_evk' (st' := ⟨191, [(70, .ref 0 0 0 1 a1.length false), (71, A a0), (73, I a2.fN)], [some ⟨0, eL a1⟩]⟩) τ_ok [] 4 [70, 71, 73] (by kernel_rfl) ?_
            obtain ⟨v15, hv16, h⟩ := bindS h
            refine opsP_idx τ_ok 74 hv16 (by kernel_rfl) ?_
            refine opsP_evk' (st' := ⟨191, [(70, .ref 0 0 0 1 a1.length false), (77, .arr 1 (([v15.fKind] : List Int)).length (eL ([v15.fKind] : List Int)) true)], [some ⟨0, eL a1⟩]⟩) τ_ok [] 3 [70, 77] (by kernel_rfl) ?_
            obtain ⟨v17, hv18, h⟩ := bindS h
            refine opsP_app τ_ok 78 0 0 (fun b hb => absurd hb (hX b)) hv18 (by kernel_rfl) ?_
            refine opsP_evk' (st' := ⟨191, [(6, .ref 0 1 0 1 v17.length false), (7, B true)], [some ⟨1, eL v17⟩]⟩) τ_ok [] 2 [6, 7] (by kernel_rfl) ?_
            refine opsP_end rfl ?_
            have h := Option.some.inj h
            subst h
            exact pwp_ret ⟨.inr rfl, .tup [.ref 0 1 0 1 v17.length false, B true], _, by kernel_rfl, (OutP.tup (OutL.cons (OutP.list (v := 1) (by kernel_rfl)) (OutL.cons (OutP.frz (by kernel_rfl)) (OutL.nil _)))), by decide⟩
        · replace h := bifF hc11 h
          refine pwp_seq ?_
          refine pwp_region ?_
          refine opsP_evk' (st' := ⟨191, [(1, .ref 0 0 0 1 a1.length false), (5, .fptr (Enc.cells a2) 0), (8, I ((a1.length : Int))), (40, I a2.fKind), (79, B ((a2.fKind == 3)))], [some ⟨0, eL a1⟩]⟩) τ_ok [] 2 [1, 5, 8, 40, 79] (by kernel_rfl) ?_
          refine opsP_end rfl ?_
          refine pwp_cond ((a2.fKind == 3)) (by kernel_rfl) (fun hc19 => ?_) (fun hc19 => ?_)
          · replace h := bifT hc19 h
            refine pwp_seq ?_
            refine pwp_join (σ := Bool) (fun x20 => (⟨191, [(1, .ref 0 0 0 1 a1.length false), (8, I ((a1.length : Int))), (9, B x20)], [some ⟨0, eL a1⟩]⟩ : St)) (fun x20 => spec_l4Step_j2 a1 x20 = some y) ?_ ?_
            · refine pwp_region ?_
              refine opsP_evk' (st' := ⟨191, [(1, .ref 0 0 0 1 a1.length false), (8, I ((a1.length : Int))), (83, B ((decide (((a1.length : Int)) > 1))))], [some ⟨0, eL a1⟩]⟩) τ_ok [] 3 [1, 8, 83] (by kernel_rfl) ?_
              rcases Bool.eq_false_or_eq_true ((decide (((a1.length : Int)) > 1))) with hc30 | hc30
              · replace h := bifT hc30 h
                rw [hc30]
                refine opsP_evk' (st' := ⟨191, [(1, .ref 0 0 0 1 a1.length false), (8, I ((a1.length : Int))), (83, B true), (84, .ref 0 0 0 1 a1.length false), (86, I ((w64 (((a1.length : Int)) - 1))))], [some ⟨0, eL a1⟩]⟩) τ_ok [] 3 [1, 8, 83, 84, 86] (by kernel_rfl) ?_
                obtain ⟨v25, hv26, h⟩ := bindS h
                refine opsP_idr τ_ok 87 0 0 a1.length hv26 rfl (by kernel_rfl) ?_
                refine opsP_lde (r := I v25) τ_ok 88 3 0 hv26 (by kernel_rfl) (by kernel_rfl) ?_
                refine opsP_evk' (st' := ⟨191, [(1, .ref 0 0 0 1 a1.length false), (8, I ((a1.length : Int))), (91, B ((v25 == 1)))], [some ⟨0, eL a1⟩]⟩) τ_ok [] 3 [1, 8, 91] (by kernel_rfl) ?_
                rcases Bool.eq_false_or_eq_true ((v25 == 1)) with hc29 | hc29
                · replace h := bifT hc29 h
                  rw [hc29]
                  refine opsP_evk' (st' := ⟨191, [(1, .ref 0 0 0 1 a1.length false), (8, I ((a1.length : Int))), (91, B true), (92, .ref 0 0 0 1 a1.length false), (94, I ((w64 (((a1.length : Int)) - 2))))], [some ⟨0, eL a1⟩]⟩) τ_ok [] 3 [1, 8, 91, 92, 94] (by kernel_rfl) ?_
                  obtain ⟨v27, hv28, h⟩ := bindS h
                  refine opsP_idr τ_ok 95 0 0 a1.length hv28 rfl (by kernel_rfl) ?_
                  refine opsP_lde (r := I v27) τ_ok 96 3 0 hv28 (by kernel_rfl) (by kernel_rfl) ?_
                  refine opsP_evk' (st' := ⟨191, [(1, .ref 0 0 0 1 a1.length false), (8, I ((a1.length : Int))), (9, B ((v27 == 1)))], [some ⟨0, eL a1⟩]⟩) τ_ok [] 3 [1, 8, 9] (by kernel_rfl) ?_
                  refine opsP_end rfl ?_
                  exact ⟨(v27 == 1), h, (Imp.to (st' := ⟨191, [(1, .ref 0 0 0 1 a1.length false), (8, I ((a1.length : Int))), (9, B ((v27 == 1)))], [some ⟨0, eL a1⟩]⟩) [1, 8, 9] (by kernel_rfl)).trans (Imp.to [1, 8, 9] (by kernel_rfl))⟩
                · replace h := bifF hc29 h
                  rw [hc29]
                  refine opsP_evk' (st' := ⟨191, [(1, .ref 0 0 0 1 a1.length false), (8, I ((a1.length : Int))), (9, B false)], [some ⟨0, eL a1⟩]⟩) τ_ok [] 8 [1, 8, 9] (by kernel_rfl) ?_
                  refine opsP_end rfl ?_
                  exact ⟨false, h, (Imp.to (st' := ⟨191, [(1, .ref 0 0 0 1 a1.length false), (8, I ((a1.length : Int))), (9, B false)], [some ⟨0, eL a1⟩]⟩) [1, 8, 9] (by kernel_rfl)).trans (Imp.to [1, 8, 9] (by kernel_rfl))⟩
              · replace h := bifF hc30 h
                rw [hc30]
                refine opsP_evk' (st' := ⟨191, [(1, .ref 0 0 0 1 a1.length false), (8, I ((a1.length : Int))), (9, B false)], [some ⟨0, eL a1⟩]⟩) τ_ok [] 16 [1, 8, 9] (by kernel_rfl) ?_
                refine opsP_end rfl ?_
                exact ⟨false, h, (Imp.to (st' := ⟨191, [(1, .ref 0 0 0 1 a1.length false), (8, I ((a1.length : Int))), (9, B false)], [some ⟨0, eL a1⟩]⟩) [1, 8, 9] (by kernel_rfl)).trans (Imp.to [1, 8, 9] (by kernel_rfl))⟩
            · rintro x20 h
              skip
              unfold spec_l4Step_j2 at h
              refine pwp_seq ?_
              refine pwp_region ?_
              refine opsP_evk' (st' := ⟨191, [(9, B x20), (99, .ref 0 0 0 1 a1.length false), (101, I ((w64 (((a1.length : Int)) - 2))))], [some ⟨0, eL a1⟩]⟩) τ_ok [] 3 [9, 99, 101] (by kernel_rfl) ?_
              refine opsP_E (dd := some 102) (x := I (maxL ((w64 (((a1.length : Int)) - 2))) [0])) (CoreE.of_y (mxmV_sound (τ := τ) (m := true) (a := (w64 (((a1.length : Int)) - 2))) (l := [0]) (by kernel_rfl))) ?_
              obtain ⟨v21, hv22, h⟩ := bindS h
              refine opsP_slr τ_ok 103 0 0 a1.length hv22 rfl (by kernel_rfl) ?_
              refine opsP_evk' (st' := ⟨191, [(9, B x20), (103, .ref 0 0 0 1 v21.length false), (104, .arr 1 (([1] : List Int)).length (eL ([1] : List Int)) true)], [some ⟨0, eL a1⟩]⟩) τ_ok [] 1 [9, 103, 104] (by kernel_rfl) ?_
              obtain ⟨v23, hv24, h⟩ := bindS h
              refine opsP_apt τ_ok 105 0 0 v21.length (fun b hb => absurd hb (hX b)) hv24 (slI_le hv22) (by kernel_rfl) ?_
              refine opsP_evk' (st' := ⟨191, [(6, .ref 0 1 0 1 v23.length false), (7, B x20)], [some ⟨1, eL v23⟩]⟩) τ_ok [] 3 [6, 7] (by kernel_rfl) ?_
              refine opsP_end rfl ?_
              have h := Option.some.inj h
              subst h
              exact pwp_ret ⟨.inr rfl, .tup [.ref 0 1 0 1 v23.length false, B x20], _, by kernel_rfl, (OutP.tup (OutL.cons (OutP.list (v := 1) (by kernel_rfl)) (OutL.cons (OutP.frz (by kernel_rfl)) (OutL.nil _)))), by decide⟩
          · replace h := bifF hc19 h
            refine pwp_seq ?_
            refine pwp_region ?_
            refine opsP_evk' (st' := ⟨191, [(1, .ref 0 0 0 1 a1.length false), (5, .fptr (Enc.cells a2) 0), (8, I ((a1.length : Int))), (40, I a2.fKind), (107, B ((a2.fKind == 4)))], [some ⟨0, eL a1⟩]⟩) τ_ok [] 2 [1, 5, 8, 40, 107] (by kernel_rfl) ?_
            refine opsP_end rfl ?_
            refine pwp_cond ((a2.fKind == 4)) (by kernel_rfl) (fun hc31 => ?_) (fun hc31 => ?_)
            · replace h := bifT hc31 h
              refine pwp_seq ?_
              refine pwp_join (σ := Bool) (fun x32 => (⟨191, [(1, .ref 0 0 0 1 a1.length false), (8, I ((a1.length : Int))), (10, B x32)], [some ⟨0, eL a1⟩]⟩ : St)) (fun x32 => spec_l4Step_j3 a1 x32 = some y) ?_ ?_
              · refine pwp_imp (Imp.to (st' := ⟨191, [(1, .ref 0 0 0 1 a1.length false), (5, .fptr (Enc.cells a2) 0), (8, I ((a1.length : Int)))], [some ⟨0, eL a1⟩]⟩) [1, 5, 8] (by kernel_rfl)) ?_
                refine pwp_any ([[], [], [], [0], [], [], [0], [0], [0], [], [], [0], [0], [], [], [], [], [], [], [], []]) ([[], [], [], [], [], [], [], [], [], [], [], [], [], [], [], [], [], [], [], [], []]) rfl (by kernel_rfl) ?_
                refine qA_ev (st' := ⟨191, [(111, B ((decide (((a1.length : Int)) > 1)))), (110, B ((decide (((a1.length : Int)) > 1)))), (109, I ((a1.length : Int))), (1, .ref 0 0 0 1 a1.length false), (5, .fptr (Enc.cells a2) 0), (8, I ((a1.length : Int)))], [some ⟨0, eL a1⟩]⟩) τ_ok [] [] 3 (by exact trivial) (by kernel_rfl) ?_
                rcases Bool.eq_false_or_eq_true ((decide (((a1.length : Int)) > 1))) with hc44 | hc44
                · replace h := bifT hc44 h
                  rw [hc44]
                  refine qA_ev (st' := ⟨191, [(112, .ref 0 0 0 1 a1.length false), (111, B true), (110, B true), (109, I ((a1.length : Int))), (1, .ref 0 0 0 1 a1.length false), (5, .fptr (Enc.cells a2) 0), (8, I ((a1.length : Int)))], [some ⟨0, eL a1⟩]⟩) τ_ok [] [0] 1 (by exact (And.intro (.inl (eL_frz _)) trivial)) (by kernel_rfl) ?_
                  refine qA_ev (st' := ⟨191, [(114, I ((w64 (((a1.length : Int)) - 1)))), (113, I ((a1.length : Int))), (112, .ref 0 0 0 1 a1.length false), (111, B true), (110, B true), (109, I ((a1.length : Int))), (1, .ref 0 0 0 1 a1.length false), (5, .fptr (Enc.cells a2) 0), (8, I ((a1.length : Int)))], [some ⟨0, eL a1⟩]⟩) τ_ok [] [] 2 (by exact trivial) (by kernel_rfl) ?_
                  obtain ⟨v37, hv38, h⟩ := bindS h
                  refine qA_E (dd := some 115) (x := .ptr 0 0 (((w64 (((a1.length : Int)) - 1))).toNat * 1)) ([some ⟨0, eL a1⟩]) (⟨191, [(115, .ptr 0 0 (((w64 (((a1.length : Int)) - 1))).toNat * 1)), (114, I ((w64 (((a1.length : Int)) - 1)))), (113, I ((a1.length : Int))), (112, .ref 0 0 0 1 a1.length false), (111, B true), (110, B true), (109, I ((a1.length : Int))), (1, .ref 0 0 0 1 a1.length false), (5, .fptr (Enc.cells a2) 0), (8, I ((a1.length : Int)))], [some ⟨0, eL a1⟩]⟩) (fun Γ' hΓ => CoreE.of_y (idrV_sound (n := a1.length) τ_ok (by kernel_rfl) hv38 rfl)) (by kernel_rfl) (by kernel_rfl) (by exact (And.intro (.inl (eL_frz _)) trivial)) (.inr (.inl rfl)) (by kernel_rfl) ?_
                  refine qA_E (dd := some 116) (x := I v37) ([some ⟨0, eL a1⟩]) (⟨191, [(116, I v37), (115, .ptr 0 0 (((w64 (((a1.length : Int)) - 1))).toNat * 1)), (114, I ((w64 (((a1.length : Int)) - 1)))), (113, I ((a1.length : Int))), (112, .ref 0 0 0 1 a1.length false), (111, B true), (110, B true), (109, I ((a1.length : Int))), (1, .ref 0 0 0 1 a1.length false), (5, .fptr (Enc.cells a2) 0), (8, I ((a1.length : Int)))], [some ⟨0, eL a1⟩]⟩) (fun Γ' hΓ => CoreE.of_y (ldeV_sound (t := 3) (o' := 0) (r := I v37) τ_ok hv38 (by kernel_rfl) (by kernel_rfl))) (by kernel_rfl) (by kernel_rfl) (by exact (And.intro (.inl (eL_frz _)) trivial)) (.inr (.inr rfl)) (by kernel_rfl) ?_
                  refine qA_ev (st' := ⟨191, [(117, .ref 0 0 0 1 a1.length false), (116, I v37), (115, .ptr 0 0 (((w64 (((a1.length : Int)) - 1))).toNat * 1)), (114, I ((w64 (((a1.length : Int)) - 1)))), (113, I ((a1.length : Int))), (112, .ref 0 0 0 1 a1.length false), (111, B true), (110, B true), (109, I ((a1.length : Int))), (1, .ref 0 0 0 1 a1.length false), (5, .fptr (Enc.cells a2) 0), (8, I ((a1.length : Int)))], [some ⟨0, eL a1⟩]⟩) τ_ok [] [0] 1 (by exact (And.intro (.inl (eL_frz _)) trivial)) (by kernel_rfl) ?_
                  refine qA_ev (st' := ⟨191, [(119, I ((w64 (((a1.length : Int)) - 2)))), (118, I ((a1.length : Int))), (117, .ref 0 0 0 1 a1.length false), (116, I v37), (115, .ptr 0 0 (((w64 (((a1.length : Int)) - 1))).toNat * 1)), (114, I ((w64 (((a1.length : Int)) - 1)))), (113, I ((a1.length : Int))), (112, .ref 0 0 0 1 a1.length false), (111, B true), (110, B true), (109, I ((a1.length : Int))), (1, .ref 0 0 0 1 a1.length false), (5, .fptr (Enc.cells a2) 0), (8, I ((a1.length : Int)))], [some ⟨0, eL a1⟩]⟩) τ_ok [] [] 2 (by exact trivial) (by kernel_rfl) ?_
                  obtain ⟨v39, hv40, h⟩ := bindS h
                  refine qA_E (dd := some 120) (x := .ptr 0 0 (((w64 (((a1.length : Int)) - 2))).toNat * 1)) ([some ⟨0, eL a1⟩]) (⟨191, [(120, .ptr 0 0 (((w64 (((a1.length : Int)) - 2))).toNat * 1)), (119, I ((w64 (((a1.length : Int)) - 2)))), (118, I ((a1.length : Int))), (117, .ref 0 0 0 1 a1.length false), (116, I v37), (115, .ptr 0 0 (((w64 (((a1.length : Int)) - 1))).toNat * 1)), (114, I ((w64 (((a1.length : Int)) - 1)))), (113, I ((a1.length : Int))), (112, .ref 0 0 0 1 a1.length false), (111, B true), (110, B true), (109, I ((a1.length : Int))), (1, .ref 0 0 0 1 a1.length false), (5, .fptr (Enc.cells a2) 0), (8, I ((a1.length : Int)))], [some ⟨0, eL a1⟩]⟩) (fun Γ' hΓ => CoreE.of_y (idrV_sound (n := a1.length) τ_ok (by kernel_rfl) hv40 rfl)) (by kernel_rfl) (by kernel_rfl) (by exact (And.intro (.inl (eL_frz _)) trivial)) (.inr (.inl rfl)) (by kernel_rfl) ?_
                  refine qA_E (dd := some 121) (x := I v39) ([some ⟨0, eL a1⟩]) (⟨191, [(121, I v39), (120, .ptr 0 0 (((w64 (((a1.length : Int)) - 2))).toNat * 1)), (119, I ((w64 (((a1.length : Int)) - 2)))), (118, I ((a1.length : Int))), (117, .ref 0 0 0 1 a1.length false), (116, I v37), (115, .ptr 0 0 (((w64 (((a1.length : Int)) - 1))).toNat * 1)), (114, I ((w64 (((a1.length : Int)) - 1)))), (113, I ((a1.length : Int))), (112, .ref 0 0 0 1 a1.length false), (111, B true), (110, B true), (109, I ((a1.length : Int))), (1, .ref 0 0 0 1 a1.length false), (5, .fptr (Enc.cells a2) 0), (8, I ((a1.length : Int)))], [some ⟨0, eL a1⟩]⟩) (fun Γ' hΓ => CoreE.of_y (ldeV_sound (t := 3) (o' := 0) (r := I v39) τ_ok hv40 (by kernel_rfl) (by kernel_rfl))) (by kernel_rfl) (by kernel_rfl) (by exact (And.intro (.inl (eL_frz _)) trivial)) (.inr (.inr rfl)) (by kernel_rfl) ?_
                  refine qA_ev (st' := ⟨191, [(124, B ((v37 == v39))), (123, B ((v37 == v39))), (122, B ((v37 == v39))), (121, I v39), (120, .ptr 0 0 (((w64 (((a1.length : Int)) - 2))).toNat * 1)), (119, I ((w64 (((a1.length : Int)) - 2)))), (118, I ((a1.length : Int))), (117, .ref 0 0 0 1 a1.length false), (116, I v37), (115, .ptr 0 0 (((w64 (((a1.length : Int)) - 1))).toNat * 1)), (114, I ((w64 (((a1.length : Int)) - 1)))), (113, I ((a1.length : Int))), (112, .ref 0 0 0 1 a1.length false), (111, B true), (110, B true), (109, I ((a1.length : Int))), (1, .ref 0 0 0 1 a1.length false), (5, .fptr (Enc.cells a2) 0), (8, I ((a1.length : Int)))], [some ⟨0, eL a1⟩]⟩) τ_ok [] [] 3 (by exact trivial) (by kernel_rfl) ?_
                  rcases Bool.eq_false_or_eq_true ((v37 == v39)) with hc43 | hc43
                  · replace h := bifT hc43 h
                    rw [hc43]
                    refine qA_ev (st' := ⟨191, [(126, I a2.fN), (125, .fptr (Enc.cells a2) 1), (124, B true), (123, B true), (122, B true), (121, I v39), (120, .ptr 0 0 (((w64 (((a1.length : Int)) - 2))).toNat * 1)), (119, I ((w64 (((a1.length : Int)) - 2)))), (118, I ((a1.length : Int))), (117, .ref 0 0 0 1 a1.length false), (116, I v37), (115, .ptr 0 0 (((w64 (((a1.length : Int)) - 1))).toNat * 1)), (114, I ((w64 (((a1.length : Int)) - 1)))), (113, I ((a1.length : Int))), (112, .ref 0 0 0 1 a1.length false), (111, B true), (110, B true), (109, I ((a1.length : Int))), (1, .ref 0 0 0 1 a1.length false), (5, .fptr (Enc.cells a2) 0), (8, I ((a1.length : Int)))], [some ⟨0, eL a1⟩]⟩) τ_ok [] [] 2 (by exact trivial) (by kernel_rfl) ?_
                    obtain ⟨v41, hv42, h⟩ := bindS h
                    refine qA_E (dd := some 127) (x := B v41) ([none]) (⟨191, [(127, B v41), (126, I a2.fN), (125, .fptr (Enc.cells a2) 1), (124, B true), (123, B true), (122, B true), (121, I v39), (120, .ptr 0 0 (((w64 (((a1.length : Int)) - 2))).toNat * 1)), (119, I ((w64 (((a1.length : Int)) - 2)))), (118, I ((a1.length : Int))), (117, .ref 0 0 0 1 a1.length false), (116, I v37), (115, .ptr 0 0 (((w64 (((a1.length : Int)) - 1))).toNat * 1)), (114, I ((w64 (((a1.length : Int)) - 1)))), (113, I ((a1.length : Int))), (112, .ref 0 0 0 1 a1.length false), (111, B true), (110, B true), (109, I ((a1.length : Int))), (1, .ref 0 0 0 1 a1.length false), (5, .fptr (Enc.cells a2) 0), (8, I ((a1.length : Int)))], [some ⟨0, eL a1⟩]⟩) (fun Γ' hΓ => CoreE.of_g (callV_sound (τ := τ) (by kernel_rfl) rfl (ok_spec_l1In hv42) (FzTo.frz rfl))) (by kernel_rfl) (by kernel_rfl) (by exact trivial) (.inr (.inr rfl)) (by kernel_rfl) ?_
                    refine qA_ev (st' := ⟨191, [(10, B v41), (128, B v41), (127, B v41), (126, I a2.fN), (125, .fptr (Enc.cells a2) 1), (124, B true), (123, B true), (122, B true), (121, I v39), (120, .ptr 0 0 (((w64 (((a1.length : Int)) - 2))).toNat * 1)), (119, I ((w64 (((a1.length : Int)) - 2)))), (118, I ((a1.length : Int))), (117, .ref 0 0 0 1 a1.length false), (116, I v37), (115, .ptr 0 0 (((w64 (((a1.length : Int)) - 1))).toNat * 1)), (114, I ((w64 (((a1.length : Int)) - 1)))), (113, I ((a1.length : Int))), (112, .ref 0 0 0 1 a1.length false), (111, B true), (110, B true), (109, I ((a1.length : Int))), (1, .ref 0 0 0 1 a1.length false), (5, .fptr (Enc.cells a2) 0), (8, I ((a1.length : Int)))], [some ⟨0, eL a1⟩]⟩) τ_ok [] [] 2 (by exact trivial) (by kernel_rfl) ?_
                    refine qA_end ?_
                    refine opsP_imp (Imp.to (st' := ⟨191, [(1, .ref 0 0 0 1 a1.length false), (8, I ((a1.length : Int))), (10, B v41)], [some ⟨0, eL a1⟩]⟩) [1, 8, 10] (by kernel_rfl)) ?_
                    refine opsP_end rfl ?_
                    exact ⟨v41, h, (Imp.to (st' := ⟨191, [(1, .ref 0 0 0 1 a1.length false), (8, I ((a1.length : Int))), (10, B v41)], [some ⟨0, eL a1⟩]⟩) [1, 8, 10] (by kernel_rfl)).trans (Imp.to [1, 8, 10] (by kernel_rfl))⟩
                  · replace h := bifF hc43 h
                    rw [hc43]
                    refine qA_ev (st' := ⟨191, [(10, B false), (128, B false), (127, .lit undef), (126, .lit undef), (125, .lit undef), (124, B false), (123, B false), (122, B false), (121, I v39), (120, .ptr 0 0 (((w64 (((a1.length : Int)) - 2))).toNat * 1)), (119, I ((w64 (((a1.length : Int)) - 2)))), (118, I ((a1.length : Int))), (117, .ref 0 0 0 1 a1.length false), (116, I v37), (115, .ptr 0 0 (((w64 (((a1.length : Int)) - 1))).toNat * 1)), (114, I ((w64 (((a1.length : Int)) - 1)))), (113, I ((a1.length : Int))), (112, .ref 0 0 0 1 a1.length false), (111, B true), (110, B true), (109, I ((a1.length : Int))), (1, .ref 0 0 0 1 a1.length false), (5, .fptr (Enc.cells a2) 0), (8, I ((a1.length : Int)))], [some ⟨0, eL a1⟩]⟩) τ_ok [] [] 5 (by exact trivial) (by kernel_rfl) ?_
                    refine qA_end ?_
                    refine opsP_imp (Imp.to (st' := ⟨191, [(1, .ref 0 0 0 1 a1.length false), (8, I ((a1.length : Int))), (10, B false)], [some ⟨0, eL a1⟩]⟩) [1, 8, 10] (by kernel_rfl)) ?_
                    refine opsP_end rfl ?_
                    exact ⟨false, h, (Imp.to (st' := ⟨191, [(1, .ref 0 0 0 1 a1.length false), (8, I ((a1.length : Int))), (10, B false)], [some ⟨0, eL a1⟩]⟩) [1, 8, 10] (by kernel_rfl)).trans (Imp.to [1, 8, 10] (by kernel_rfl))⟩
                · replace h := bifF hc44 h
                  rw [hc44]
                  refine qA_ev (st' := ⟨191, [(112, .lit undef), (111, B false), (110, B false), (109, I ((a1.length : Int))), (1, .ref 0 0 0 1 a1.length false), (5, .fptr (Enc.cells a2) 0), (8, I ((a1.length : Int)))], [some ⟨0, eL a1⟩]⟩) τ_ok [] [0] 1 (by exact (And.intro (.inl (eL_frz _)) trivial)) (by kernel_rfl) ?_
                  refine qA_ev (st' := ⟨191, [(114, .lit undef), (113, .lit undef), (112, .lit undef), (111, B false), (110, B false), (109, I ((a1.length : Int))), (1, .ref 0 0 0 1 a1.length false), (5, .fptr (Enc.cells a2) 0), (8, I ((a1.length : Int)))], [some ⟨0, eL a1⟩]⟩) τ_ok [] [] 2 (by exact trivial) (by kernel_rfl) ?_
                  refine qA_ev (st' := ⟨191, [(117, .lit undef), (116, .lit undef), (115, .lit undef), (114, .lit undef), (113, .lit undef), (112, .lit undef), (111, B false), (110, B false), (109, I ((a1.length : Int))), (1, .ref 0 0 0 1 a1.length false), (5, .fptr (Enc.cells a2) 0), (8, I ((a1.length : Int)))], [some ⟨0, eL a1⟩]⟩) τ_ok [] [0] 3 (by exact (And.intro (.inl (eL_frz _)) trivial)) (by kernel_rfl) ?_
                  refine qA_ev (st' := ⟨191, [(119, .lit undef), (118, .lit undef), (117, .lit undef), (116, .lit undef), (115, .lit undef), (114, .lit undef), (113, .lit undef), (112, .lit undef), (111, B false), (110, B false), (109, I ((a1.length : Int))), (1, .ref 0 0 0 1 a1.length false), (5, .fptr (Enc.cells a2) 0), (8, I ((a1.length : Int)))], [some ⟨0, eL a1⟩]⟩) τ_ok [] [] 2 (by exact trivial) (by kernel_rfl) ?_
                  refine qA_ev (st' := ⟨191, [(121, .lit undef), (120, .lit undef), (119, .lit undef), (118, .lit undef), (117, .lit undef), (116, .lit undef), (115, .lit undef), (114, .lit undef), (113, .lit undef), (112, .lit undef), (111, B false), (110, B false), (109, I ((a1.length : Int))), (1, .ref 0 0 0 1 a1.length false), (5, .fptr (Enc.cells a2) 0), (8, I ((a1.length : Int)))], [some ⟨0, eL a1⟩]⟩) τ_ok [] [0] 2 (by exact (And.intro (.inl (eL_frz _)) trivial)) (by kernel_rfl) ?_
                  refine qA_ev (st' := ⟨191, [(10, B false), (128, B false), (127, .lit undef), (126, .lit undef), (125, .lit undef), (124, B false), (123, B false), (122, .lit undef), (121, .lit undef), (120, .lit undef), (119, .lit undef), (118, .lit undef), (117, .lit undef), (116, .lit undef), (115, .lit undef), (114, .lit undef), (113, .lit undef), (112, .lit undef), (111, B false), (110, B false), (109, I ((a1.length : Int))), (1, .ref 0 0 0 1 a1.length false), (5, .fptr (Enc.cells a2) 0), (8, I ((a1.length : Int)))], [some ⟨0, eL a1⟩]⟩) τ_ok [] [] 8 (by exact trivial) (by kernel_rfl) ?_
                  refine qA_end ?_
                  refine opsP_imp (Imp.to (st' := ⟨191, [(1, .ref 0 0 0 1 a1.length false), (8, I ((a1.length : Int))), (10, B false)], [some ⟨0, eL a1⟩]⟩) [1, 8, 10] (by kernel_rfl)) ?_
                  refine opsP_end rfl ?_
                  exact ⟨false, h, (Imp.to (st' := ⟨191, [(1, .ref 0 0 0 1 a1.length false), (8, I ((a1.length : Int))), (10, B false)], [some ⟨0, eL a1⟩]⟩) [1, 8, 10] (by kernel_rfl)).trans (Imp.to [1, 8, 10] (by kernel_rfl))⟩
              · rintro x32 h
                skip
                unfold spec_l4Step_j3 at h
                refine pwp_seq ?_
                refine pwp_region ?_
                refine opsP_evk' (st' := ⟨191, [(10, B x32), (129, .ref 0 0 0 1 a1.length false), (131, I ((w64 (((a1.length : Int)) - 2))))], [some ⟨0, eL a1⟩]⟩) τ_ok [] 3 [10, 129, 131] (by kernel_rfl) ?_
                refine opsP_E (dd := some 132) (x := I (maxL ((w64 (((a1.length : Int)) - 2))) [0])) (CoreE.of_y (mxmV_sound (τ := τ) (m := true) (a := (w64 (((a1.length : Int)) - 2))) (l := [0]) (by kernel_rfl))) ?_
                obtain ⟨v33, hv34, h⟩ := bindS h
                refine opsP_slr τ_ok 133 0 0 a1.length hv34 rfl (by kernel_rfl) ?_
                refine opsP_evk' (st' := ⟨191, [(10, B x32), (133, .ref 0 0 0 1 v33.length false), (134, .arr 1 (([3] : List Int)).length (eL ([3] : List Int)) true)], [some ⟨0, eL a1⟩]⟩) τ_ok [] 1 [10, 133, 134] (by kernel_rfl) ?_
                obtain ⟨v35, hv36, h⟩ := bindS h
                refine opsP_apt τ_ok 135 0 0 v33.length (fun b hb => absurd hb (hX b)) hv36 (slI_le hv34) (by kernel_rfl) ?_
                refine opsP_evk' (st' := ⟨191, [(6, .ref 0 1 0 1 v35.length false), (7, B x32)], [some ⟨1, eL v35⟩]⟩) τ_ok [] 3 [6, 7] (by kernel_rfl) ?_
                refine opsP_end rfl ?_
                have h := Option.some.inj h
                subst h
                exact pwp_ret ⟨.inr rfl, .tup [.ref 0 1 0 1 v35.length false, B x32], _, by kernel_rfl, (OutP.tup (OutL.cons (OutP.list (v := 1) (by kernel_rfl)) (OutL.cons (OutP.frz (by kernel_rfl)) (OutL.nil _)))), by decide⟩
            · replace h := bifF hc31 h
              refine pwp_seq ?_
              refine pwp_join (σ := Bool) (fun x45 => (⟨191, [(1, .ref 0 0 0 1 a1.length false), (8, I ((a1.length : Int))), (40, I a2.fKind), (137, B x45)], [some ⟨0, eL a1⟩]⟩ : St)) (fun x45 => spec_l4Step_j4 a1 a2 x45 = some y) ?_ ?_
              · refine pwp_seq ?_
                refine pwp_region ?_
                refine opsP_evk' (st' := ⟨191, [(1, .ref 0 0 0 1 a1.length false), (8, I ((a1.length : Int))), (40, I a2.fKind), (137, B ((a2.fKind == 5)))], [some ⟨0, eL a1⟩]⟩) τ_ok [] 2 [1, 8, 40, 137] (by kernel_rfl) ?_
                refine opsP_end rfl ?_
                refine pwp_cond ((a2.fKind == 5)) (by kernel_rfl) (fun hc67 => ?_) (fun hc67 => ?_)
                · replace h := bifT hc67 h
                  refine pwp_skip ?_
                  exact ⟨(a2.fKind == 5), h, (Imp.to (st' := ⟨191, [(1, .ref 0 0 0 1 a1.length false), (8, I ((a1.length : Int))), (40, I a2.fKind), (137, B ((a2.fKind == 5)))], [some ⟨0, eL a1⟩]⟩) [1, 8, 40, 137] (by kernel_rfl)).trans (Imp.to [1, 8, 40, 137] (by kernel_rfl))⟩
                · replace h := bifF hc67 h
                  refine pwp_region ?_
                  refine opsP_evk' (st' := ⟨191, [(1, .ref 0 0 0 1 a1.length false), (8, I ((a1.length : Int))), (40, I a2.fKind), (137, B ((a2.fKind == 6)))], [some ⟨0, eL a1⟩]⟩) τ_ok [] 2 [1, 8, 40, 137] (by kernel_rfl) ?_
                  refine opsP_end rfl ?_
                  exact ⟨(a2.fKind == 6), h, (Imp.to (st' := ⟨191, [(1, .ref 0 0 0 1 a1.length false), (8, I ((a1.length : Int))), (40, I a2.fKind), (137, B ((a2.fKind == 6)))], [some ⟨0, eL a1⟩]⟩) [1, 8, 40, 137] (by kernel_rfl)).trans (Imp.to [1, 8, 40, 137] (by kernel_rfl))⟩
              · rintro x45 h
                skip
                unfold spec_l4Step_j4 at h
                refine pwp_cond x45 (by kernel_rfl) (fun hc46 => ?_) (fun hc46 => ?_)
                · replace h := bifT hc46 h
                  refine pwp_seq ?_
                  refine pwp_join (σ := Bool) (fun x47 => (⟨191, [(1, .ref 0 0 0 1 a1.length false), (8, I ((a1.length : Int))), (11, B x47)], [some ⟨0, eL a1⟩]⟩ : St)) (fun x47 => spec_l4Step_j5 a1 x47 = some y) ?_ ?_
                  · refine pwp_region ?_
                    refine opsP_evk' (st' := ⟨191, [(1, .ref 0 0 0 1 a1.length false), (8, I ((a1.length : Int))), (142, B ((decide (((a1.length : Int)) > 1))))], [some ⟨0, eL a1⟩]⟩) τ_ok [] 3 [1, 8, 142] (by kernel_rfl) ?_
                    rcases Bool.eq_false_or_eq_true ((decide (((a1.length : Int)) > 1))) with hc57 | hc57
                    · replace h := bifT hc57 h
                      rw [hc57]
                      refine opsP_evk' (st' := ⟨191, [(1, .ref 0 0 0 1 a1.length false), (8, I ((a1.length : Int))), (142, B true), (143, .ref 0 0 0 1 a1.length false), (145, I ((w64 (((a1.length : Int)) - 1))))], [some ⟨0, eL a1⟩]⟩) τ_ok [] 3 [1, 8, 142, 143, 145] (by kernel_rfl) ?_
                      obtain ⟨v52, hv53, h⟩ := bindS h
                      refine opsP_idr τ_ok 146 0 0 a1.length hv53 rfl (by kernel_rfl) ?_
                      refine opsP_lde (r := I v52) τ_ok 147 3 0 hv53 (by kernel_rfl) (by kernel_rfl) ?_
                      refine opsP_evk' (st' := ⟨191, [(1, .ref 0 0 0 1 a1.length false), (8, I ((a1.length : Int))), (150, B ((v52 == 3)))], [some ⟨0, eL a1⟩]⟩) τ_ok [] 3 [1, 8, 150] (by kernel_rfl) ?_
                      rcases Bool.eq_false_or_eq_true ((v52 == 3)) with hc56 | hc56
                      · replace h := bifT hc56 h
                        rw [hc56]
                        refine opsP_evk' (st' := ⟨191, [(1, .ref 0 0 0 1 a1.length false), (8, I ((a1.length : Int))), (150, B true), (151, .ref 0 0 0 1 a1.length false), (153, I ((w64 (((a1.length : Int)) - 2))))], [some ⟨0, eL a1⟩]⟩) τ_ok [] 3 [1, 8, 150, 151, 153] (by kernel_rfl) ?_
                        obtain ⟨v54, hv55, h⟩ := bindS h
                        refine opsP_idr τ_ok 154 0 0 a1.length hv55 rfl (by kernel_rfl) ?_
                        refine opsP_lde (r := I v54) τ_ok 155 3 0 hv55 (by kernel_rfl) (by kernel_rfl) ?_
                        refine opsP_evk' (st' := ⟨191, [(1, .ref 0 0 0 1 a1.length false), (8, I ((a1.length : Int))), (11, B ((v54 == 3)))], [some ⟨0, eL a1⟩]⟩) τ_ok [] 3 [1, 8, 11] (by kernel_rfl) ?_
                        refine opsP_end rfl ?_
                        exact ⟨(v54 == 3), h, (Imp.to (st' := ⟨191, [(1, .ref 0 0 0 1 a1.length false), (8, I ((a1.length : Int))), (11, B ((v54 == 3)))], [some ⟨0, eL a1⟩]⟩) [1, 8, 11] (by kernel_rfl)).trans (Imp.to [1, 8, 11] (by kernel_rfl))⟩
                      · replace h := bifF hc56 h
                        rw [hc56]
                        refine opsP_evk' (st' := ⟨191, [(1, .ref 0 0 0 1 a1.length false), (8, I ((a1.length : Int))), (11, B false)], [some ⟨0, eL a1⟩]⟩) τ_ok [] 8 [1, 8, 11] (by kernel_rfl) ?_
                        refine opsP_end rfl ?_
                        exact ⟨false, h, (Imp.to (st' := ⟨191, [(1, .ref 0 0 0 1 a1.length false), (8, I ((a1.length : Int))), (11, B false)], [some ⟨0, eL a1⟩]⟩) [1, 8, 11] (by kernel_rfl)).trans (Imp.to [1, 8, 11] (by kernel_rfl))⟩
                    · replace h := bifF hc57 h
                      rw [hc57]
                      refine opsP_evk' (st' := ⟨191, [(1, .ref 0 0 0 1 a1.length false), (8, I ((a1.length : Int))), (11, B false)], [some ⟨0, eL a1⟩]⟩) τ_ok [] 16 [1, 8, 11] (by kernel_rfl) ?_
                      refine opsP_end rfl ?_
                      exact ⟨false, h, (Imp.to (st' := ⟨191, [(1, .ref 0 0 0 1 a1.length false), (8, I ((a1.length : Int))), (11, B false)], [some ⟨0, eL a1⟩]⟩) [1, 8, 11] (by kernel_rfl)).trans (Imp.to [1, 8, 11] (by kernel_rfl))⟩
                  · rintro x47 h
                    skip
                    unfold spec_l4Step_j5 at h
                    refine pwp_seq ?_
                    refine pwp_region ?_
                    refine opsP_evk' (st' := ⟨191, [(11, B x47), (158, .ref 0 0 0 1 a1.length false), (160, I ((w64 (((a1.length : Int)) - 2))))], [some ⟨0, eL a1⟩]⟩) τ_ok [] 3 [11, 158, 160] (by kernel_rfl) ?_
                    refine opsP_E (dd := some 161) (x := I (maxL ((w64 (((a1.length : Int)) - 2))) [0])) (CoreE.of_y (mxmV_sound (τ := τ) (m := true) (a := (w64 (((a1.length : Int)) - 2))) (l := [0]) (by kernel_rfl))) ?_
                    obtain ⟨v48, hv49, h⟩ := bindS h
                    refine opsP_slr τ_ok 162 0 0 a1.length hv49 rfl (by kernel_rfl) ?_
                    refine opsP_evk' (st' := ⟨191, [(11, B x47), (162, .ref 0 0 0 1 v48.length false), (163, .arr 1 (([3] : List Int)).length (eL ([3] : List Int)) true)], [some ⟨0, eL a1⟩]⟩) τ_ok [] 1 [11, 162, 163] (by kernel_rfl) ?_
                    obtain ⟨v50, hv51, h⟩ := bindS h
                    refine opsP_apt τ_ok 164 0 0 v48.length (fun b hb => absurd hb (hX b)) hv51 (slI_le hv49) (by kernel_rfl) ?_
                    refine opsP_evk' (st' := ⟨191, [(6, .ref 0 1 0 1 v50.length false), (7, B x47)], [some ⟨1, eL v50⟩]⟩) τ_ok [] 3 [6, 7] (by kernel_rfl) ?_
                    refine opsP_end rfl ?_
                    have h := Option.some.inj h
                    subst h
                    exact pwp_ret ⟨.inr rfl, .tup [.ref 0 1 0 1 v50.length false, B x47], _, by kernel_rfl, (OutP.tup (OutL.cons (OutP.list (v := 1) (by kernel_rfl)) (OutL.cons (OutP.frz (by kernel_rfl)) (OutL.nil _)))), by decide⟩
                · replace h := bifF hc46 h
                  refine pwp_seq ?_
                  refine pwp_region ?_
                  refine opsP_evk' (st' := ⟨191, [(1, .ref 0 0 0 1 a1.length false), (8, I ((a1.length : Int))), (40, I a2.fKind), (166, B ((a2.fKind == 7)))], [some ⟨0, eL a1⟩]⟩) τ_ok [] 2 [1, 8, 40, 166] (by kernel_rfl) ?_
                  refine opsP_end rfl ?_
                  refine pwp_cond ((a2.fKind == 7)) (by kernel_rfl) (fun hc58 => ?_) (fun hc58 => ?_)
                  · replace h := bifT hc58 h
                    refine pwp_seq ?_
                    refine pwp_imp (Imp.to (st' := ⟨191, [(1, .ref 0 0 0 1 a1.length false), (8, I ((a1.length : Int)))], [some ⟨0, eL a1⟩]⟩) [1, 8] (by kernel_rfl)) ?_
                    refine pwp_any ([[0], [], [], [], [0], [], [], [0], [0], [], [], [0], []]) ([[], [], [], [], [], [], [], [], [], [], [], [], []]) rfl (by kernel_rfl) ?_
                    refine qA_ev (st' := ⟨191, [(168, .ref 0 0 0 1 a1.length false), (1, .ref 0 0 0 1 a1.length false), (8, I ((a1.length : Int)))], [some ⟨0, eL a1⟩]⟩) τ_ok [] [0] 1 (by exact (And.intro (.inl (eL_frz _)) trivial)) (by kernel_rfl) ?_
                    refine qA_ev (st' := ⟨191, [(171, B ((decide (((a1.length : Int)) > 0)))), (170, B ((decide (((a1.length : Int)) > 0)))), (169, I ((a1.length : Int))), (168, .ref 0 0 0 1 a1.length false), (1, .ref 0 0 0 1 a1.length false), (8, I ((a1.length : Int)))], [some ⟨0, eL a1⟩]⟩) τ_ok [] [] 3 (by exact trivial) (by kernel_rfl) ?_
                    rcases Bool.eq_false_or_eq_true ((decide (((a1.length : Int)) > 0))) with hc61 | hc61
                    · replace h := bifT hc61 h
                      rw [hc61]
                      refine qA_ev (st' := ⟨191, [(172, .ref 0 0 0 1 a1.length false), (171, B true), (170, B true), (169, I ((a1.length : Int))), (168, .ref 0 0 0 1 a1.length false), (1, .ref 0 0 0 1 a1.length false), (8, I ((a1.length : Int)))], [some ⟨0, eL a1⟩]⟩) τ_ok [] [0] 1 (by exact (And.intro (.inl (eL_frz _)) trivial)) (by kernel_rfl) ?_
                      refine qA_ev (st' := ⟨191, [(174, I ((w64 (((a1.length : Int)) - 1)))), (173, I ((a1.length : Int))), (172, .ref 0 0 0 1 a1.length false), (171, B true), (170, B true), (169, I ((a1.length : Int))), (168, .ref 0 0 0 1 a1.length false), (1, .ref 0 0 0 1 a1.length false), (8, I ((a1.length : Int)))], [some ⟨0, eL a1⟩]⟩) τ_ok [] [] 2 (by exact trivial) (by kernel_rfl) ?_
                      obtain ⟨v59, hv60, h⟩ := bindS h
                      refine qA_E (dd := some 175) (x := .ptr 0 0 (((w64 (((a1.length : Int)) - 1))).toNat * 1)) ([some ⟨0, eL a1⟩]) (⟨191, [(175, .ptr 0 0 (((w64 (((a1.length : Int)) - 1))).toNat * 1)), (174, I ((w64 (((a1.length : Int)) - 1)))), (173, I ((a1.length : Int))), (172, .ref 0 0 0 1 a1.length false), (171, B true), (170, B true), (169, I ((a1.length : Int))), (168, .ref 0 0 0 1 a1.length false), (1, .ref 0 0 0 1 a1.length false), (8, I ((a1.length : Int)))], [some ⟨0, eL a1⟩]⟩) (fun Γ' hΓ => CoreE.of_y (idrV_sound (n := a1.length) τ_ok (by kernel_rfl) hv60 rfl)) (by kernel_rfl) (by kernel_rfl) (by exact (And.intro (.inl (eL_frz _)) trivial)) (.inr (.inl rfl)) (by kernel_rfl) ?_
                      refine qA_E (dd := some 176) (x := I v59) ([some ⟨0, eL a1⟩]) (⟨191, [(176, I v59), (175, .ptr 0 0 (((w64 (((a1.length : Int)) - 1))).toNat * 1)), (174, I ((w64 (((a1.length : Int)) - 1)))), (173, I ((a1.length : Int))), (172, .ref 0 0 0 1 a1.length false), (171, B true), (170, B true), (169, I ((a1.length : Int))), (168, .ref 0 0 0 1 a1.length false), (1, .ref 0 0 0 1 a1.length false), (8, I ((a1.length : Int)))], [some ⟨0, eL a1⟩]⟩) (fun Γ' hΓ => CoreE.of_y (ldeV_sound (t := 3) (o' := 0) (r := I v59) τ_ok hv60 (by kernel_rfl) (by kernel_rfl))) (by kernel_rfl) (by kernel_rfl) (by exact (And.intro (.inl (eL_frz _)) trivial)) (.inr (.inr rfl)) (by kernel_rfl) ?_
                      refine qA_ev (st' := ⟨191, [(178, B ((v59 == 3))), (177, B ((v59 == 3))), (176, I v59), (175, .ptr 0 0 (((w64 (((a1.length : Int)) - 1))).toNat * 1)), (174, I ((w64 (((a1.length : Int)) - 1)))), (173, I ((a1.length : Int))), (172, .ref 0 0 0 1 a1.length false), (171, B true), (170, B true), (169, I ((a1.length : Int))), (168, .ref 0 0 0 1 a1.length false), (1, .ref 0 0 0 1 a1.length false), (8, I ((a1.length : Int)))], [some ⟨0, eL a1⟩]⟩) τ_ok [] [] 2 (by exact trivial) (by kernel_rfl) ?_
                      refine qA_ev (st' := ⟨191, [(6, .ref 0 0 0 1 a1.length false), (178, B ((v59 == 3))), (177, B ((v59 == 3))), (176, I v59), (175, .ptr 0 0 (((w64 (((a1.length : Int)) - 1))).toNat * 1)), (174, I ((w64 (((a1.length : Int)) - 1)))), (173, I ((a1.length : Int))), (172, .ref 0 0 0 1 a1.length false), (171, B true), (170, B true), (169, I ((a1.length : Int))), (168, .ref 0 0 0 1 a1.length false), (1, .ref 0 0 0 1 a1.length false), (8, I ((a1.length : Int)))], [some ⟨0, eL a1⟩]⟩) τ_ok [] [0] 1 (by exact (And.intro (.inl (eL_frz _)) trivial)) (by kernel_rfl) ?_
                      refine qA_ev (st' := ⟨191, [(7, B ((v59 == 3))), (6, .ref 0 0 0 1 a1.length false), (178, B ((v59 == 3))), (177, B ((v59 == 3))), (176, I v59), (175, .ptr 0 0 (((w64 (((a1.length : Int)) - 1))).toNat * 1)), (174, I ((w64 (((a1.length : Int)) - 1)))), (173, I ((a1.length : Int))), (172, .ref 0 0 0 1 a1.length false), (171, B true), (170, B true), (169, I ((a1.length : Int))), (168, .ref 0 0 0 1 a1.length false), (1, .ref 0 0 0 1 a1.length false), (8, I ((a1.length : Int)))], [some ⟨0, eL a1⟩]⟩) τ_ok [] [] 1 (by exact trivial) (by kernel_rfl) ?_
                      refine qA_end ?_
                      refine opsP_imp (Imp.to (st' := ⟨191, [(6, .ref 0 0 0 1 a1.length false), (7, B ((v59 == 3)))], [some ⟨0, eL a1⟩]⟩) [6, 7] (by kernel_rfl)) ?_
                      refine opsP_end rfl ?_
                      have h := Option.some.inj h
                      subst h
                      exact pwp_ret ⟨.inr rfl, .tup [.ref 0 0 0 1 a1.length false, B ((v59 == 3))], _, by kernel_rfl, (OutP.tup (OutL.cons (OutP.list (v := 0) (by kernel_rfl)) (OutL.cons (OutP.frz (by kernel_rfl)) (OutL.nil _)))), by decide⟩
                    · replace h := bifF hc61 h
                      rw [hc61]
                      refine qA_ev (st' := ⟨191, [(172, .lit undef), (171, B false), (170, B false), (169, I ((a1.length : Int))), (168, .ref 0 0 0 1 a1.length false), (1, .ref 0 0 0 1 a1.length false), (8, I ((a1.length : Int)))], [some ⟨0, eL a1⟩]⟩) τ_ok [] [0] 1 (by exact (And.intro (.inl (eL_frz _)) trivial)) (by kernel_rfl) ?_
                      refine qA_ev (st' := ⟨191, [(174, .lit undef), (173, .lit undef), (172, .lit undef), (171, B false), (170, B false), (169, I ((a1.length : Int))), (168, .ref 0 0 0 1 a1.length false), (1, .ref 0 0 0 1 a1.length false), (8, I ((a1.length : Int)))], [some ⟨0, eL a1⟩]⟩) τ_ok [] [] 2 (by exact trivial) (by kernel_rfl) ?_
                      refine qA_ev (st' := ⟨191, [(176, .lit undef), (175, .lit undef), (174, .lit undef), (173, .lit undef), (172, .lit undef), (171, B false), (170, B false), (169, I ((a1.length : Int))), (168, .ref 0 0 0 1 a1.length false), (1, .ref 0 0 0 1 a1.length false), (8, I ((a1.length : Int)))], [some ⟨0, eL a1⟩]⟩) τ_ok [] [0] 2 (by exact (And.intro (.inl (eL_frz _)) trivial)) (by kernel_rfl) ?_
                      refine qA_ev (st' := ⟨191, [(178, B false), (177, .lit undef), (176, .lit undef), (175, .lit undef), (174, .lit undef), (173, .lit undef), (172, .lit undef), (171, B false), (170, B false), (169, I ((a1.length : Int))), (168, .ref 0 0 0 1 a1.length false), (1, .ref 0 0 0 1 a1.length false), (8, I ((a1.length : Int)))], [some ⟨0, eL a1⟩]⟩) τ_ok [] [] 2 (by exact trivial) (by kernel_rfl) ?_
                      refine qA_ev (st' := ⟨191, [(6, .ref 0 0 0 1 a1.length false), (178, B false), (177, .lit undef), (176, .lit undef), (175, .lit undef), (174, .lit undef), (173, .lit undef), (172, .lit undef), (171, B false), (170, B false), (169, I ((a1.length : Int))), (168, .ref 0 0 0 1 a1.length false), (1, .ref 0 0 0 1 a1.length false), (8, I ((a1.length : Int)))], [some ⟨0, eL a1⟩]⟩) τ_ok [] [0] 1 (by exact (And.intro (.inl (eL_frz _)) trivial)) (by kernel_rfl) ?_
                      refine qA_ev (st' := ⟨191, [(7, B false), (6, .ref 0 0 0 1 a1.length false), (178, B false), (177, .lit undef), (176, .lit undef), (175, .lit undef), (174, .lit undef), (173, .lit undef), (172, .lit undef), (171, B false), (170, B false), (169, I ((a1.length : Int))), (168, .ref 0 0 0 1 a1.length false), (1, .ref 0 0 0 1 a1.length false), (8, I ((a1.length : Int)))], [some ⟨0, eL a1⟩]⟩) τ_ok [] [] 1 (by exact trivial) (by kernel_rfl) ?_
                      refine qA_end ?_
                      refine opsP_imp (Imp.to (st' := ⟨191, [(6, .ref 0 0 0 1 a1.length false), (7, B false)], [some ⟨0, eL a1⟩]⟩) [6, 7] (by kernel_rfl)) ?_
                      refine opsP_end rfl ?_
                      have h := Option.some.inj h
                      subst h
                      exact pwp_ret ⟨.inr rfl, .tup [.ref 0 0 0 1 a1.length false, B false], _, by kernel_rfl, (OutP.tup (OutL.cons (OutP.list (v := 0) (by kernel_rfl)) (OutL.cons (OutP.frz (by kernel_rfl)) (OutL.nil _)))), by decide⟩
                  · replace h := bifF hc58 h
                    refine pwp_seq ?_
                    refine pwp_region ?_
                    refine opsP_evk' (st' := ⟨191, [(1, .ref 0 0 0 1 a1.length false), (8, I ((a1.length : Int))), (179, B ((a2.fKind == 8)))], [some ⟨0, eL a1⟩]⟩) τ_ok [] 2 [1, 8, 179] (by kernel_rfl) ?_
                    refine opsP_end rfl ?_
                    refine pwp_cond ((a2.fKind == 8)) (by kernel_rfl) (fun hc62 => ?_) (fun hc62 => ?_)
                    · replace h := bifT hc62 h
                      refine pwp_seq ?_
                      refine pwp_region ?_
                      refine opsP_evk' (st' := ⟨191, [(8, I ((a1.length : Int))), (181, .ref 0 0 0 1 a1.length false), (183, I ((w64 (((a1.length : Int)) - 1))))], [some ⟨0, eL a1⟩]⟩) τ_ok [] 3 [8, 181, 183] (by kernel_rfl) ?_
                      refine opsP_E (dd := some 184) (x := I (maxL ((w64 (((a1.length : Int)) - 1))) [0])) (CoreE.of_y (mxmV_sound (τ := τ) (m := true) (a := (w64 (((a1.length : Int)) - 1))) (l := [0]) (by kernel_rfl))) ?_
                      obtain ⟨v63, hv64, h⟩ := bindS h
                      refine opsP_slr τ_ok 185 0 0 a1.length hv64 rfl (by kernel_rfl) ?_
                      refine opsP_evk' (st' := ⟨191, [(8, I ((a1.length : Int))), (185, .ref 0 0 0 1 v63.length false), (186, .arr 1 (([3] : List Int)).length (eL ([3] : List Int)) true)], [some ⟨0, eL a1⟩]⟩) τ_ok [] 1 [8, 185, 186] (by kernel_rfl) ?_
                      obtain ⟨v65, hv66, h⟩ := bindS h
                      refine opsP_apt τ_ok 187 0 0 v63.length (fun b hb => absurd hb (hX b)) hv66 (slI_le hv64) (by kernel_rfl) ?_
                      refine opsP_evk' (st' := ⟨191, [(6, .ref 0 1 0 1 v65.length false), (7, B ((decide (((a1.length : Int)) > 0))))], [some ⟨1, eL v65⟩]⟩) τ_ok [] 4 [6, 7] (by kernel_rfl) ?_
                      refine opsP_end rfl ?_
                      have h := Option.some.inj h
                      subst h
                      exact pwp_ret ⟨.inr rfl, .tup [.ref 0 1 0 1 v65.length false, B ((decide (((a1.length : Int)) > 0)))], _, by kernel_rfl, (OutP.tup (OutL.cons (OutP.list (v := 1) (by kernel_rfl)) (OutL.cons (OutP.frz (by kernel_rfl)) (OutL.nil _)))), by decide⟩
                    · replace h := bifF hc62 h
                      refine pwp_skip ?_
                      refine pwp_seq ?_
                      refine pwp_region ?_
                      refine opsP_evk' (st' := ⟨191, [(6, .ref 0 0 0 1 a1.length false), (7, B false)], [some ⟨0, eL a1⟩]⟩) τ_ok [] 3 [6, 7] (by kernel_rfl) ?_
                      refine opsP_end rfl ?_
                      have h := Option.some.inj h
                      subst h
                      exact pwp_ret ⟨.inr rfl, .tup [.ref 0 0 0 1 a1.length false, B false], _, by kernel_rfl, (OutP.tup (OutL.cons (OutP.list (v := 0) (by kernel_rfl)) (OutL.cons (OutP.frz (by kernel_rfl)) (OutL.nil _)))), by decide⟩

/- loop.example/tablehouse/spec.RowOk -/
def spec_RowOk_l0 (a0 : List T_impl_Value) : Nat → Int → Option Bool
  | 0, _ => none
  | f2 + 1, x1 => bif (decide (x1 < ((a0.length : Int)))) then (getI a0 x1).bind fun v5 => (spec_ValueOk v5).bind fun v7 => bif (!v7) then some false else (spec_RowOk_l0 a0 f2) ((w64 (x1 + 1))) else some ((decide (((a0.length : Int)) ≤ 4)))
def spec_RowOk (a0 : List T_impl_Value) : Option Bool := spec_RowOk_l0 a0 FUEL 0
theorem ok_spec_RowOk {a0 : List T_impl_Value} {y : Bool} (h : spec_RowOk a0 = some y) : OK Try.prog 103 [A a0] (B y) := by
  refine OK_of_pwp τ_ok Try.func103 rfl (by kernel_rfl) rfl fun Γ hX => ?_
  unfold spec_RowOk at h
  refine pwp_seq ?_
  refine pwp_region ?_
  refine opsP_evk' (st' := ⟨19, [(0, A a0)], []⟩) τ_ok [] 1 [0] (by kernel_rfl) ?_
  refine opsP_end rfl ?_
  refine pwp_seq ?_
  refine pwp_seq ?_
  refine pwp_region ?_
  refine opsP_evk' (st' := ⟨19, [(0, A a0), (3, I 0)], []⟩) τ_ok [] 1 [0, 3] (by kernel_rfl) ?_
  refine opsP_end rfl ?_
  refine pwp_block ?_
  refine pwp_loop (ι := Nat × Int) (fun (f2, x1) => (⟨19, [(0, A a0), (3, I x1)], []⟩ : St)) (fun (f2, x1) => spec_RowOk_l0 a0 f2 x1 = some y) (fun (f2, x1) => f2) (FUEL, 0) h ((Imp.to (st' := ⟨19, [(0, A a0), (3, I 0)], []⟩) [0, 3] (by kernel_rfl)).trans (Imp.to [0, 3] (by kernel_rfl))) ?_
  rintro ⟨f2, x1⟩ h
  dsimp only at h ⊢
  cases f2 with
  | zero => cases h
  | succ f2 =>
  rw [spec_RowOk_l0] at h
  refine pwp_seq ?_
  refine pwp_seq ?_
  refine pwp_region ?_
  refine opsP_evk' (st' := ⟨19, [(0, A a0), (3, I x1), (7, B ((decide (x1 < ((a0.length : Int))))))], []⟩) τ_ok [] 4 [0, 3, 7] (by kernel_rfl) ?_
  refine opsP_end rfl ?_
  refine pwp_cond ((decide (x1 < ((a0.length : Int))))) (by kernel_rfl) (fun hc4 => ?_) (fun hc4 => ?_)
  · replace h := bifT hc4 h
    refine pwp_skip ?_
    refine pwp_seq ?_
    refine pwp_block ?_
    refine pwp_seq ?_
    refine pwp_region ?_
    refine opsP_evk' (st' := ⟨19, [(0, A a0), (3, I x1), (10, A a0), (11, I x1)], []⟩) τ_ok [] 2 [0, 3, 10, 11] (by kernel_rfl) ?_
    obtain ⟨v5, hv6, h⟩ := bindS h
    refine opsP_idx τ_ok 12 hv6 (by kernel_rfl) ?_
    refine opsP_evk' (st' := ⟨19, [(0, A a0), (3, I x1), (13, E v5)], []⟩) τ_ok [] 1 [0, 3, 13] (by kernel_rfl) ?_
    obtain ⟨v7, hv8, h⟩ := bindS h
    refine opsP_callF τ 14 (ok_spec_ValueOk hv8) (FzTo.frz rfl) rfl (by kernel_rfl) ?_
    refine opsP_evk' (st' := ⟨19, [(0, A a0), (3, I x1), (15, B ((!v7)))], []⟩) τ_ok [] 1 [0, 3, 15] (by kernel_rfl) ?_
    refine opsP_end rfl ?_
    refine pwp_cond ((!v7)) (by kernel_rfl) (fun hc9 => ?_) (fun hc9 => ?_)
    · replace h := bifT hc9 h
      refine pwp_seq ?_
      refine pwp_region ?_
      refine opsP_evk' (st' := ⟨19, [(2, B false)], []⟩) τ_ok [] 1 [2] (by kernel_rfl) ?_
      refine opsP_end rfl ?_
      have h := Option.some.inj h
      subst h
      exact pwp_ret ⟨.inr rfl, B false, _, by kernel_rfl, (OutP.frz (by kernel_rfl)), by decide⟩
    · replace h := bifF hc9 h
      refine pwp_skip ?_
      refine pwp_region ?_
      refine opsP_evk' (st' := ⟨19, [(0, A a0), (3, I ((w64 (x1 + 1))))], []⟩) τ_ok [] 3 [0, 3] (by kernel_rfl) ?_
      refine opsP_end rfl ?_
      exact ⟨(f2, (w64 (x1 + 1))), h, Nat.lt_succ_self _, (Imp.to (st' := ⟨19, [(0, A a0), (3, I ((w64 (x1 + 1))))], []⟩) [0, 3] (by kernel_rfl)).trans (Imp.to [0, 3] (by kernel_rfl))⟩
  · replace h := bifF hc4 h
    refine pwp_exit ?_
    refine pwp_seq ?_
    refine pwp_region ?_
    refine opsP_evk' (st' := ⟨19, [(2, B ((decide (((a0.length : Int)) ≤ 4))))], []⟩) τ_ok [] 4 [2] (by kernel_rfl) ?_
    refine opsP_end rfl ?_
    have h := Option.some.inj h
    subst h
    exact pwp_ret ⟨.inr rfl, B ((decide (((a0.length : Int)) ≤ 4))), _, by kernel_rfl, (OutP.frz (by kernel_rfl)), by decide⟩

/- (loop.example/tablehouse/impl.Part).tells -/
def impl_Part_tells_j0 (a0 : T_impl_Part) (x14 : Bool) : Option Bool := bif x14 then bif (a0.fN == 0) then some ((eq_T_impl_Value a0.fV ((T_impl_Value.mk 0 0 (ByteArray.mk #[]))))) else some false else some false
def impl_Part_tells (a0 : T_impl_Part) (a1 : List T_impl_Column) : Option Bool := bif (a0.fKind == 1) then bif (a0.fN == 0) then (impl_Value_ok a0.fV).bind fun v2 => bif v2 then some ((!(a0.fV.fKind == 0))) else some false else some false else bif (a0.fKind == 2) then (impl_between a0.fN 0 ((w64 (((a1.length : Int)) - 1)))).bind fun v7 => bif v7 then some ((eq_T_impl_Value a0.fV ((T_impl_Value.mk 0 0 (ByteArray.mk #[]))))) else some false else bif (a0.fKind == 4) then (impl_between a0.fN 1 4).bind fun v11 => bif v11 then some ((eq_T_impl_Value a0.fV ((T_impl_Value.mk 0 0 (ByteArray.mk #[]))))) else some false else bif (a0.fKind == 3) then impl_Part_tells_j0 a0 ((a0.fKind == 3)) else bif (a0.fKind == 5) then impl_Part_tells_j0 a0 ((a0.fKind == 5)) else bif (a0.fKind == 6) then impl_Part_tells_j0 a0 ((a0.fKind == 6)) else bif (a0.fKind == 7) then impl_Part_tells_j0 a0 ((a0.fKind == 7)) else impl_Part_tells_j0 a0 ((a0.fKind == 8))
theorem ok_impl_Part_tells {a0 : T_impl_Part} {a1 : List T_impl_Column} {y : Bool} (h : impl_Part_tells a0 a1 = some y) : OK Try.prog 106 [E a0, A a1] (B y) := by
  refine OK_of_pwp τ_ok Try.func106 rfl (by kernel_rfl) rfl fun Γ hX => ?_
  unfold impl_Part_tells at h
  refine pwp_seq ?_
  refine pwp_region ?_
  refine opsP_evk' (st' := ⟨63, [(1, A a1), (2, .fptr (Enc.cells a0) 0)], []⟩) τ_ok [] 2 [1, 2] (by kernel_rfl) ?_
  refine opsP_end rfl ?_
  refine pwp_seq ?_
  refine pwp_seq ?_
  refine pwp_region ?_
  refine opsP_evk' (st' := ⟨63, [(1, A a1), (2, .fptr (Enc.cells a0) 0), (6, I a0.fKind)], []⟩) τ_ok [] 2 [1, 2, 6] (by kernel_rfl) ?_
  refine opsP_end rfl ?_
  refine pwp_block ?_
  refine pwp_seq ?_
  refine pwp_region ?_
  refine opsP_evk' (st' := ⟨63, [(1, A a1), (2, .fptr (Enc.cells a0) 0), (6, I a0.fKind), (7, B ((a0.fKind == 1)))], []⟩) τ_ok [] 2 [1, 2, 6, 7] (by kernel_rfl) ?_
  refine opsP_end rfl ?_
  refine pwp_cond ((a0.fKind == 1)) (by kernel_rfl) (fun hc1 => ?_) (fun hc1 => ?_)
  · replace h := bifT hc1 h
    refine pwp_seq ?_
    refine pwp_region ?_
    refine opsP_evk' (st' := ⟨63, [(2, .fptr (Enc.cells a0) 0), (12, B ((a0.fN == 0)))], []⟩) τ_ok [] 4 [2, 12] (by kernel_rfl) ?_
    rcases Bool.eq_false_or_eq_true ((a0.fN == 0)) with hc5 | hc5
    · replace h := bifT hc5 h
      rw [hc5]
      refine opsP_evk' (st' := ⟨63, [(2, .fptr (Enc.cells a0) 0), (12, B true), (14, E a0.fV)], []⟩) τ_ok [] 2 [2, 12, 14] (by kernel_rfl) ?_
      obtain ⟨v2, hv3, h⟩ := bindS h
      refine opsP_callF τ 15 (ok_impl_Value_ok hv3) (FzTo.frz rfl) rfl (by kernel_rfl) ?_
      refine opsP_evk' (st' := ⟨63, [(2, .fptr (Enc.cells a0) 0), (17, B v2)], []⟩) τ_ok [] 2 [2, 17] (by kernel_rfl) ?_
      rcases Bool.eq_false_or_eq_true v2 with hc4 | hc4
      · replace h := bifT hc4 h
        rw [hc4]
        refine opsP_evk' (st' := ⟨63, [(4, B ((!(a0.fV.fKind == 0))))], []⟩) τ_ok [] 6 [4] (by kernel_rfl) ?_
        refine opsP_end rfl ?_
        have h := Option.some.inj h
        subst h
        exact pwp_ret ⟨.inr rfl, B ((!(a0.fV.fKind == 0))), _, by kernel_rfl, (OutP.frz (by kernel_rfl)), by decide⟩
      · replace h := bifF hc4 h
        rw [hc4]
        refine opsP_evk' (st' := ⟨63, [(4, B false)], []⟩) τ_ok [] 6 [4] (by kernel_rfl) ?_
        refine opsP_end rfl ?_
        have h := Option.some.inj h
        subst h
        exact pwp_ret ⟨.inr rfl, B false, _, by kernel_rfl, (OutP.frz (by kernel_rfl)), by decide⟩
    · replace h := bifF hc5 h
      rw [hc5]
      refine opsP_evk' (st' := ⟨63, [(4, B false)], []⟩) τ_ok [] 11 [4] (by kernel_rfl) ?_
      refine opsP_end rfl ?_
      have h := Option.some.inj h
      subst h
      exact pwp_ret ⟨.inr rfl, B false, _, by kernel_rfl, (OutP.frz (by kernel_rfl)), by decide⟩
  · replace h := bifF hc1 h
    refine pwp_seq ?_
    refine pwp_region ?_
    refine opsP_evk' (st' := ⟨63, [(1, A a1), (2, .fptr (Enc.cells a0) 0), (6, I a0.fKind), (23, B ((a0.fKind == 2)))], []⟩) τ_ok [] 2 [1, 2, 6, 23] (by kernel_rfl) ?_
    refine opsP_end rfl ?_
    refine pwp_cond ((a0.fKind == 2)) (by kernel_rfl) (fun hc6 => ?_) (fun hc6 => ?_)
    · replace h := bifT hc6 h
      refine pwp_seq ?_
      refine pwp_region ?_
      refine opsP_evk' (st' := ⟨63, [(2, .fptr (Enc.cells a0) 0), (26, I a0.fN), (29, I ((w64 (((a1.length : Int)) - 1))))], []⟩) τ_ok [] 5 [2, 26, 29] (by kernel_rfl) ?_
      obtain ⟨v7, hv8, h⟩ := bindS h
      refine opsP_callF τ 30 (ok_impl_between hv8) (FzTo.frz rfl) rfl (by kernel_rfl) ?_
      refine opsP_evk' (st' := ⟨63, [(2, .fptr (Enc.cells a0) 0), (31, B v7)], []⟩) τ_ok [] 1 [2, 31] (by kernel_rfl) ?_
      rcases Bool.eq_false_or_eq_true v7 with hc9 | hc9
      · replace h := bifT hc9 h
        rw [hc9]
        refine opsP_evk' (st' := ⟨63, [(4, B ((eq_T_impl_Value a0.fV ((T_impl_Value.mk 0 0 (ByteArray.mk #[]))))))], []⟩) τ_ok [] 6 [4] (by kernel_rfl) ?_
        refine opsP_end rfl ?_
        have h := Option.some.inj h
        subst h
        exact pwp_ret ⟨.inr rfl, B ((eq_T_impl_Value a0.fV ((T_impl_Value.mk 0 0 (ByteArray.mk #[]))))), _, by kernel_rfl, (OutP.frz (by kernel_rfl)), by decide⟩
      · replace h := bifF hc9 h
        rw [hc9]
        refine opsP_evk' (st' := ⟨63, [(4, B false)], []⟩) τ_ok [] 6 [4] (by kernel_rfl) ?_
        refine opsP_end rfl ?_
        have h := Option.some.inj h
        subst h
        exact pwp_ret ⟨.inr rfl, B false, _, by kernel_rfl, (OutP.frz (by kernel_rfl)), by decide⟩
    · replace h := bifF hc6 h
      refine pwp_seq ?_
      refine pwp_region ?_
      refine opsP_evk' (st' := ⟨63, [(2, .fptr (Enc.cells a0) 0), (6, I a0.fKind), (37, B ((a0.fKind == 4)))], []⟩) τ_ok [] 2 [2, 6, 37] (by kernel_rfl) ?_
      refine opsP_end rfl ?_
      refine pwp_cond ((a0.fKind == 4)) (by kernel_rfl) (fun hc10 => ?_) (fun hc10 => ?_)
      · replace h := bifT hc10 h
        refine pwp_seq ?_
        refine pwp_region ?_
        refine opsP_evk' (st' := ⟨63, [(2, .fptr (Enc.cells a0) 0), (40, I a0.fN)], []⟩) τ_ok [] 2 [2, 40] (by kernel_rfl) ?_
        obtain ⟨v11, hv12, h⟩ := bindS h
        refine opsP_callF τ 41 (ok_impl_between hv12) (FzTo.frz rfl) rfl (by kernel_rfl) ?_
        refine opsP_evk' (st' := ⟨63, [(2, .fptr (Enc.cells a0) 0), (42, B v11)], []⟩) τ_ok [] 1 [2, 42] (by kernel_rfl) ?_
        rcases Bool.eq_false_or_eq_true v11 with hc13 | hc13
        · replace h := bifT hc13 h
          rw [hc13]
          refine opsP_evk' (st' := ⟨63, [(4, B ((eq_T_impl_Value a0.fV ((T_impl_Value.mk 0 0 (ByteArray.mk #[]))))))], []⟩) τ_ok [] 6 [4] (by kernel_rfl) ?_
          refine opsP_end rfl ?_
          have h := Option.some.inj h
          subst h
          exact pwp_ret ⟨.inr rfl, B ((eq_T_impl_Value a0.fV ((T_impl_Value.mk 0 0 (ByteArray.mk #[]))))), _, by kernel_rfl, (OutP.frz (by kernel_rfl)), by decide⟩
        · replace h := bifF hc13 h
          rw [hc13]
          refine opsP_evk' (st' := ⟨63, [(4, B false)], []⟩) τ_ok [] 6 [4] (by kernel_rfl) ?_
          refine opsP_end rfl ?_
          have h := Option.some.inj h
          subst h
          exact pwp_ret ⟨.inr rfl, B false, _, by kernel_rfl, (OutP.frz (by kernel_rfl)), by decide⟩
      · replace h := bifF hc10 h
        refine pwp_seq ?_
        refine pwp_join (σ := Bool) (fun x14 => (⟨63, [(2, .fptr (Enc.cells a0) 0), (48, B x14)], []⟩ : St)) (fun x14 => impl_Part_tells_j0 a0 x14 = some y) ?_ ?_
        · refine pwp_seq ?_
          refine pwp_region ?_
          refine opsP_evk' (st' := ⟨63, [(2, .fptr (Enc.cells a0) 0), (6, I a0.fKind), (48, B ((a0.fKind == 3)))], []⟩) τ_ok [] 2 [2, 6, 48] (by kernel_rfl) ?_
          refine opsP_end rfl ?_
          refine pwp_cond ((a0.fKind == 3)) (by kernel_rfl) (fun hc17 => ?_) (fun hc17 => ?_)
          · replace h := bifT hc17 h
            refine pwp_skip ?_
            exact ⟨(a0.fKind == 3), h, (Imp.to (st' := ⟨63, [(2, .fptr (Enc.cells a0) 0), (48, B ((a0.fKind == 3)))], []⟩) [2, 48] (by kernel_rfl)).trans (Imp.to [2, 48] (by kernel_rfl))⟩
          · replace h := bifF hc17 h
            refine pwp_seq ?_
            refine pwp_region ?_
            refine opsP_evk' (st' := ⟨63, [(2, .fptr (Enc.cells a0) 0), (6, I a0.fKind), (48, B ((a0.fKind == 5)))], []⟩) τ_ok [] 2 [2, 6, 48] (by kernel_rfl) ?_
            refine opsP_end rfl ?_
            refine pwp_cond ((a0.fKind == 5)) (by kernel_rfl) (fun hc18 => ?_) (fun hc18 => ?_)
            · replace h := bifT hc18 h
              refine pwp_skip ?_
              exact ⟨(a0.fKind == 5), h, (Imp.to (st' := ⟨63, [(2, .fptr (Enc.cells a0) 0), (48, B ((a0.fKind == 5)))], []⟩) [2, 48] (by kernel_rfl)).trans (Imp.to [2, 48] (by kernel_rfl))⟩
            · replace h := bifF hc18 h
              refine pwp_seq ?_
              refine pwp_region ?_
              refine opsP_evk' (st' := ⟨63, [(2, .fptr (Enc.cells a0) 0), (6, I a0.fKind), (48, B ((a0.fKind == 6)))], []⟩) τ_ok [] 2 [2, 6, 48] (by kernel_rfl) ?_
              refine opsP_end rfl ?_
              refine pwp_cond ((a0.fKind == 6)) (by kernel_rfl) (fun hc19 => ?_) (fun hc19 => ?_)
              · replace h := bifT hc19 h
                refine pwp_skip ?_
                exact ⟨(a0.fKind == 6), h, (Imp.to (st' := ⟨63, [(2, .fptr (Enc.cells a0) 0), (48, B ((a0.fKind == 6)))], []⟩) [2, 48] (by kernel_rfl)).trans (Imp.to [2, 48] (by kernel_rfl))⟩
              · replace h := bifF hc19 h
                refine pwp_seq ?_
                refine pwp_region ?_
                refine opsP_evk' (st' := ⟨63, [(2, .fptr (Enc.cells a0) 0), (6, I a0.fKind), (48, B ((a0.fKind == 7)))], []⟩) τ_ok [] 2 [2, 6, 48] (by kernel_rfl) ?_
                refine opsP_end rfl ?_
                refine pwp_cond ((a0.fKind == 7)) (by kernel_rfl) (fun hc20 => ?_) (fun hc20 => ?_)
                · replace h := bifT hc20 h
                  refine pwp_skip ?_
                  exact ⟨(a0.fKind == 7), h, (Imp.to (st' := ⟨63, [(2, .fptr (Enc.cells a0) 0), (48, B ((a0.fKind == 7)))], []⟩) [2, 48] (by kernel_rfl)).trans (Imp.to [2, 48] (by kernel_rfl))⟩
                · replace h := bifF hc20 h
                  refine pwp_region ?_
                  refine opsP_evk' (st' := ⟨63, [(2, .fptr (Enc.cells a0) 0), (48, B ((a0.fKind == 8)))], []⟩) τ_ok [] 2 [2, 48] (by kernel_rfl) ?_
                  refine opsP_end rfl ?_
                  exact ⟨(a0.fKind == 8), h, (Imp.to (st' := ⟨63, [(2, .fptr (Enc.cells a0) 0), (48, B ((a0.fKind == 8)))], []⟩) [2, 48] (by kernel_rfl)).trans (Imp.to [2, 48] (by kernel_rfl))⟩
        · rintro x14 h
          skip
          unfold impl_Part_tells_j0 at h
          refine pwp_cond x14 (by kernel_rfl) (fun hc15 => ?_) (fun hc15 => ?_)
          · replace h := bifT hc15 h
            refine pwp_seq ?_
            refine pwp_region ?_
            refine opsP_evk' (st' := ⟨63, [(2, .fptr (Enc.cells a0) 0), (57, B ((a0.fN == 0)))], []⟩) τ_ok [] 4 [2, 57] (by kernel_rfl) ?_
            rcases Bool.eq_false_or_eq_true ((a0.fN == 0)) with hc16 | hc16
            · replace h := bifT hc16 h
              rw [hc16]
              refine opsP_evk' (st' := ⟨63, [(4, B ((eq_T_impl_Value a0.fV ((T_impl_Value.mk 0 0 (ByteArray.mk #[]))))))], []⟩) τ_ok [] 6 [4] (by kernel_rfl) ?_
              refine opsP_end rfl ?_
              have h := Option.some.inj h
              subst h
              exact pwp_ret ⟨.inr rfl, B ((eq_T_impl_Value a0.fV ((T_impl_Value.mk 0 0 (ByteArray.mk #[]))))), _, by kernel_rfl, (OutP.frz (by kernel_rfl)), by decide⟩
            · replace h := bifF hc16 h
              rw [hc16]
              refine opsP_evk' (st' := ⟨63, [(4, B false)], []⟩) τ_ok [] 6 [4] (by kernel_rfl) ?_
              refine opsP_end rfl ?_
              have h := Option.some.inj h
              subst h
              exact pwp_ret ⟨.inr rfl, B false, _, by kernel_rfl, (OutP.frz (by kernel_rfl)), by decide⟩
          · replace h := bifF hc15 h
            refine pwp_skip ?_
            refine pwp_seq ?_
            refine pwp_region ?_
            refine opsP_evk' (st' := ⟨63, [(4, B false)], []⟩) τ_ok [] 1 [4] (by kernel_rfl) ?_
            refine opsP_end rfl ?_
            have h := Option.some.inj h
            subst h
            exact pwp_ret ⟨.inr rfl, B false, _, by kernel_rfl, (OutP.frz (by kernel_rfl)), by decide⟩

/- loop.example/tablehouse/impl.RowOk -/
def impl_RowOk (a0 : List T_impl_Value) : Option Bool := bif (decide (((a0.length : Int)) ≤ 4)) then (slices_ContainsFunc_impl_Value_impl_Value_120 a0 impl_RowOk_1).bind fun v1 => some ((!v1)) else some false
theorem ok_impl_RowOk {a0 : List T_impl_Value} {y : Bool} (h : impl_RowOk a0 = some y) : OK Try.prog 112 [A a0] (B y) := by
  refine OK_of_pwp τ_ok Try.func112 rfl (by kernel_rfl) rfl fun Γ hX => ?_
  unfold impl_RowOk at h
  refine pwp_seq ?_
  refine pwp_region ?_
  refine opsP_evk' (st' := ⟨11, [(0, A a0)], []⟩) τ_ok [] 1 [0] (by kernel_rfl) ?_
  refine opsP_end rfl ?_
  refine pwp_seq ?_
  refine pwp_region ?_
  refine opsP_evk' (st' := ⟨11, [(0, A a0), (6, B ((decide (((a0.length : Int)) ≤ 4))))], []⟩) τ_ok [] 4 [0, 6] (by kernel_rfl) ?_
  rcases Bool.eq_false_or_eq_true ((decide (((a0.length : Int)) ≤ 4))) with hc3 | hc3
  · replace h := bifT hc3 h
    rw [hc3]
    refine opsP_evk' (st' := ⟨11, [(6, B true), (7, A a0)], []⟩) τ_ok [] 1 [6, 7] (by kernel_rfl) ?_
    obtain ⟨v1, hv2, h⟩ := bindS h
    refine opsP_callF τ 8 (ok_slices_ContainsFunc_impl_Value_impl_Value_120 (rfl) (fun _ w hw => ok_impl_RowOk_1 hw) hv2) (FzTo.frz rfl) rfl (by kernel_rfl) ?_
    refine opsP_evk' (st' := ⟨11, [(2, B ((!v1)))], []⟩) τ_ok [] 3 [2] (by kernel_rfl) ?_
    refine opsP_end rfl ?_
    have h := Option.some.inj h
    subst h
    exact pwp_ret ⟨.inr rfl, B ((!v1)), _, by kernel_rfl, (OutP.frz (by kernel_rfl)), by decide⟩
  · replace h := bifF hc3 h
    rw [hc3]
    refine opsP_evk' (st' := ⟨11, [(2, B false)], []⟩) τ_ok [] 5 [2] (by kernel_rfl) ?_
    refine opsP_end rfl ?_
    have h := Option.some.inj h
    subst h
    exact pwp_ret ⟨.inr rfl, B false, _, by kernel_rfl, (OutP.frz (by kernel_rfl)), by decide⟩

/- (loop.example/tablehouse/impl.Part).kind$1 -/
def impl_Part_kind_1 (a0 : Int) (b0 : List Int) : Option Bool := (slices_ContainsFunc_int_int b0 (fun z0 => impl_Part_kind_1_1 z0 a0)).bind fun v1 => some ((!v1))
theorem ok_impl_Part_kind_1 {a0 : Int} {b0 : List Int} {y : Bool} (h : impl_Part_kind_1 a0 b0 = some y) : OK Try.prog 117 [I a0, .fptr (Enc.cells b0) 0] (B y) := by
  refine OK_of_pwp τ_ok Try.func117 rfl (by kernel_rfl) rfl fun Γ hX => ?_
  unfold impl_Part_kind_1 at h
  refine pwp_seq ?_
  refine pwp_region ?_
  refine opsP_evk' (st' := ⟨8, [(1, .fptr (Enc.cells b0) 0), (2, .fptr (Enc.cells a0) 0)], []⟩) τ_ok [] 2 [1, 2] (by kernel_rfl) ?_
  refine opsP_end rfl ?_
  refine pwp_seq ?_
  refine pwp_region ?_
  refine opsP_evk' (st' := ⟨8, [(4, A b0), (5, .fn 119 [.fptr (Enc.cells a0) 0])], []⟩) τ_ok [] 2 [4, 5] (by kernel_rfl) ?_
  obtain ⟨v1, hv2, h⟩ := bindS h
  refine opsP_callF τ 6 (ok_slices_ContainsFunc_int_int (rfl) (fun _ w hw => ok_impl_Part_kind_1_1 hw) hv2) (FzTo.frz rfl) rfl (by kernel_rfl) ?_
  refine opsP_evk' (st' := ⟨8, [(3, B ((!v1)))], []⟩) τ_ok [] 2 [3] (by kernel_rfl) ?_
  refine opsP_end rfl ?_
  have h := Option.some.inj h
  subst h
  exact pwp_ret ⟨.inr rfl, B ((!v1)), _, by kernel_rfl, (OutP.frz (by kernel_rfl)), by decide⟩

/- loop.example/tablehouse/laws.szTable -/
def laws_szTable (a0 : T_laws_Table) (a1 : Int) : Option Int := (laws_szColumnS a0.fColumns a1).bind fun v1 => bif (decide (v1 < 0)) then some (-1) else (laws_szValueSS a0.fRows v1).bind fun v4 => bif (decide (v4 < 0)) then some (-1) else some v4
theorem ok_laws_szTable {a0 : T_laws_Table} {a1 : Int} {y : Int} (h : laws_szTable a0 a1 = some y) : OK Try.prog 26 [E a0, I a1] (I y) := by
  refine OK_of_pwp τ_ok Try.func26 rfl (by kernel_rfl) rfl fun Γ hX => ?_
  unfold laws_szTable at h
  refine pwp_seq ?_
  refine pwp_region ?_
  refine opsP_evk' (st' := ⟨18, [(1, I a1), (2, .fptr (Enc.cells a0) 0)], []⟩) τ_ok [] 2 [1, 2] (by kernel_rfl) ?_
  refine opsP_end rfl ?_
  refine pwp_seq ?_
  refine pwp_region ?_
  refine opsP_evk' (st' := ⟨18, [(2, .fptr (Enc.cells a0) 0), (6, A a0.fColumns), (7, I a1)], []⟩) τ_ok [] 3 [2, 6, 7] (by kernel_rfl) ?_
  obtain ⟨v1, hv2, h⟩ := bindS h
  refine opsP_callF τ 8 (ok_laws_szColumnS hv2) (FzTo.frz rfl) rfl (by kernel_rfl) ?_
  refine opsP_evk' (st' := ⟨18, [(1, I v1), (2, .fptr (Enc.cells a0) 0)], []⟩) τ_ok [] 1 [1, 2] (by kernel_rfl) ?_
  refine opsP_end rfl ?_
  refine pwp_seq ?_
  refine pwp_seq ?_
  refine pwp_region ?_
  refine opsP_evk' (st' := ⟨18, [(1, I v1), (2, .fptr (Enc.cells a0) 0), (10, B ((decide (v1 < 0))))], []⟩) τ_ok [] 2 [1, 2, 10] (by kernel_rfl) ?_
  refine opsP_end rfl ?_
  refine pwp_cond ((decide (v1 < 0))) (by kernel_rfl) (fun hc3 => ?_) (fun hc3 => ?_)
  · replace h := bifT hc3 h
    refine pwp_seq ?_
    refine pwp_region ?_
    refine opsP_evk' (st' := ⟨18, [(4, I (-1))], []⟩) τ_ok [] 1 [4] (by kernel_rfl) ?_
    refine opsP_end rfl ?_
    have h := Option.some.inj h
    subst h
    exact pwp_ret ⟨.inr rfl, I (-1), _, by kernel_rfl, (OutP.frz (by kernel_rfl)), by decide⟩
  · replace h := bifF hc3 h
    refine pwp_skip ?_
    refine pwp_seq ?_
    refine pwp_region ?_
    refine opsP_evk' (st' := ⟨18, [(12, A a0.fRows), (13, I v1)], []⟩) τ_ok [] 3 [12, 13] (by kernel_rfl) ?_
    obtain ⟨v4, hv5, h⟩ := bindS h
    refine opsP_callF τ 14 (ok_laws_szValueSS hv5) (FzTo.frz rfl) rfl (by kernel_rfl) ?_
    refine opsP_evk' (st' := ⟨18, [(1, I v4)], []⟩) τ_ok [] 1 [1] (by kernel_rfl) ?_
    refine opsP_end rfl ?_
    refine pwp_seq ?_
    refine pwp_seq ?_
    refine pwp_region ?_
    refine opsP_evk' (st' := ⟨18, [(1, I v4), (16, B ((decide (v4 < 0))))], []⟩) τ_ok [] 2 [1, 16] (by kernel_rfl) ?_
    refine opsP_end rfl ?_
    refine pwp_cond ((decide (v4 < 0))) (by kernel_rfl) (fun hc6 => ?_) (fun hc6 => ?_)
    · replace h := bifT hc6 h
      refine pwp_seq ?_
      refine pwp_region ?_
      refine opsP_evk' (st' := ⟨18, [(4, I (-1))], []⟩) τ_ok [] 1 [4] (by kernel_rfl) ?_
      refine opsP_end rfl ?_
      have h := Option.some.inj h
      subst h
      exact pwp_ret ⟨.inr rfl, I (-1), _, by kernel_rfl, (OutP.frz (by kernel_rfl)), by decide⟩
    · replace h := bifF hc6 h
      refine pwp_skip ?_
      refine pwp_seq ?_
      refine pwp_region ?_
      refine opsP_evk' (st' := ⟨18, [(4, I v4)], []⟩) τ_ok [] 2 [4] (by kernel_rfl) ?_
      refine opsP_end rfl ?_
      have h := Option.some.inj h
      subst h
      exact pwp_ret ⟨.inr rfl, I v4, _, by kernel_rfl, (OutP.frz (by kernel_rfl)), by decide⟩

/- loop.example/tablehouse/laws.szStep -/
def laws_szStep (a0 : T_laws_Step) (a1 : Int) : Option Int := (laws_szPartS a0.fE a1).bind fun v1 => bif (decide (v1 < 0)) then some (-1) else (laws_szIntS a0.fList v1).bind fun v4 => bif (decide (v4 < 0)) then some (-1) else some v4
theorem ok_laws_szStep {a0 : T_laws_Step} {a1 : Int} {y : Int} (h : laws_szStep a0 a1 = some y) : OK Try.prog 27 [E a0, I a1] (I y) := by
  refine OK_of_pwp τ_ok Try.func27 rfl (by kernel_rfl) rfl fun Γ hX => ?_
  unfold laws_szStep at h
  refine pwp_seq ?_
  refine pwp_region ?_
  refine opsP_evk' (st' := ⟨18, [(1, I a1), (2, .fptr (Enc.cells a0) 0)], []⟩) τ_ok [] 2 [1, 2] (by kernel_rfl) ?_
  refine opsP_end rfl ?_
  refine pwp_seq ?_
  refine pwp_region ?_
  refine opsP_evk' (st' := ⟨18, [(2, .fptr (Enc.cells a0) 0), (6, A a0.fE), (7, I a1)], []⟩) τ_ok [] 3 [2, 6, 7] (by kernel_rfl) ?_
  obtain ⟨v1, hv2, h⟩ := bindS h
  refine opsP_callF τ 8 (ok_laws_szPartS hv2) (FzTo.frz rfl) rfl (by kernel_rfl) ?_
  refine opsP_evk' (st' := ⟨18, [(1, I v1), (2, .fptr (Enc.cells a0) 0)], []⟩) τ_ok [] 1 [1, 2] (by kernel_rfl) ?_
  refine opsP_end rfl ?_
  refine pwp_seq ?_
  refine pwp_seq ?_
  refine pwp_region ?_
  refine opsP_evk' (st' := ⟨18, [(1, I v1), (2, .fptr (Enc.cells a0) 0), (10, B ((decide (v1 < 0))))], []⟩) τ_ok [] 2 [1, 2, 10] (by kernel_rfl) ?_
  refine opsP_end rfl ?_
  refine pwp_cond ((decide (v1 < 0))) (by kernel_rfl) (fun hc3 => ?_) (fun hc3 => ?_)
  · replace h := bifT hc3 h
    refine pwp_seq ?_
    refine pwp_region ?_
    refine opsP_evk' (st' := ⟨18, [(4, I (-1))], []⟩) τ_ok [] 1 [4] (by kernel_rfl) ?_
    refine opsP_end rfl ?_
    have h := Option.some.inj h
    subst h
    exact pwp_ret ⟨.inr rfl, I (-1), _, by kernel_rfl, (OutP.frz (by kernel_rfl)), by decide⟩
  · replace h := bifF hc3 h
    refine pwp_skip ?_
    refine pwp_seq ?_
    refine pwp_region ?_
    refine opsP_evk' (st' := ⟨18, [(12, A a0.fList), (13, I v1)], []⟩) τ_ok [] 3 [12, 13] (by kernel_rfl) ?_
    obtain ⟨v4, hv5, h⟩ := bindS h
    refine opsP_callF τ 14 (ok_laws_szIntS hv5) (FzTo.frz rfl) rfl (by kernel_rfl) ?_
    refine opsP_evk' (st' := ⟨18, [(1, I v4)], []⟩) τ_ok [] 1 [1] (by kernel_rfl) ?_
    refine opsP_end rfl ?_
    refine pwp_seq ?_
    refine pwp_seq ?_
    refine pwp_region ?_
    refine opsP_evk' (st' := ⟨18, [(1, I v4), (16, B ((decide (v4 < 0))))], []⟩) τ_ok [] 2 [1, 16] (by kernel_rfl) ?_
    refine opsP_end rfl ?_
    refine pwp_cond ((decide (v4 < 0))) (by kernel_rfl) (fun hc6 => ?_) (fun hc6 => ?_)
    · replace h := bifT hc6 h
      refine pwp_seq ?_
      refine pwp_region ?_
      refine opsP_evk' (st' := ⟨18, [(4, I (-1))], []⟩) τ_ok [] 1 [4] (by kernel_rfl) ?_
      refine opsP_end rfl ?_
      have h := Option.some.inj h
      subst h
      exact pwp_ret ⟨.inr rfl, I (-1), _, by kernel_rfl, (OutP.frz (by kernel_rfl)), by decide⟩
    · replace h := bifF hc6 h
      refine pwp_skip ?_
      refine pwp_seq ?_
      refine pwp_region ?_
      refine opsP_evk' (st' := ⟨18, [(4, I v4)], []⟩) τ_ok [] 2 [4] (by kernel_rfl) ?_
      refine opsP_end rfl ?_
      have h := Option.some.inj h
      subst h
      exact pwp_ret ⟨.inr rfl, I v4, _, by kernel_rfl, (OutP.frz (by kernel_rfl)), by decide⟩

/- loop.example/tablehouse/laws.toTable -/
def laws_toTable (a0 : T_laws_Table) : Option T_impl_Table := (laws_toColumnS a0.fColumns).bind fun v1 => (laws_toValueSS a0.fRows).bind fun v3 => some ({ ({ ((T_impl_Table.mk [] [])) with fColumns := v1 }) with fRows := v3 })
theorem ok_laws_toTable {a0 : T_laws_Table} {y : T_impl_Table} (h : laws_toTable a0 = some y) : OK Try.prog 31 [E a0] (E y) := by
  refine OK_of_pwp τ_ok Try.func31 rfl (by kernel_rfl) rfl fun Γ hX => ?_
  unfold laws_toTable at h
  refine pwp_seq ?_
  refine pwp_region ?_
  refine opsP_evk' (st' := ⟨13, [(1, .fptr (Enc.cells a0) 0), (2, .ptr 0 0 0)], [some ⟨0, Enc.cells ((T_impl_Table.mk [] []))⟩]⟩) τ_ok [2, 3] 2 [1, 2] (by kernel_rfl) ?_
  refine opsP_end rfl ?_
  refine pwp_seq ?_
  refine pwp_region ?_
  refine opsP_evk' (st' := ⟨13, [(1, .fptr (Enc.cells a0) 0), (2, .ptr 0 0 0), (3, .ptr 1 0 0)], [some ⟨0, Enc.cells ((T_impl_Table.mk [] []))⟩, some ⟨0, Enc.cells ((T_impl_Table.mk [] []))⟩]⟩) τ_ok [2, 3] 1 [1, 2, 3] (by kernel_rfl) ?_
  refine opsP_end rfl ?_
  refine pwp_seq ?_
  refine pwp_region ?_
  refine opsP_evk' (st' := ⟨13, [(1, .fptr (Enc.cells a0) 0), (2, .ptr 0 0 0), (3, .ptr 1 0 0), (5, A a0.fColumns)], [some ⟨0, Enc.cells ((T_impl_Table.mk [] []))⟩, some ⟨0, Enc.cells ((T_impl_Table.mk [] []))⟩]⟩) τ_ok [2, 3] 2 [1, 2, 3, 5] (by kernel_rfl) ?_
  obtain ⟨v1, hv2, h⟩ := bindS h
  refine opsP_callF τ 6 (ok_laws_toColumnS hv2) (FzTo.O _) rfl (by kernel_rfl) ?_
  refine opsP_evk' (st' := ⟨13, [(1, .fptr (Enc.cells a0) 0), (2, .ptr 0 0 0), (3, .ptr 1 0 0)], [some ⟨0, Enc.cells ((T_impl_Table.mk [] []))⟩, some ⟨0, Enc.cells ({ ((T_impl_Table.mk [] [])) with fColumns := v1 })⟩]⟩) τ_ok [2, 3] 2 [1, 2, 3] (by kernel_rfl) ?_
  refine opsP_end rfl ?_
  refine pwp_seq ?_
  refine pwp_region ?_
  refine opsP_evk' (st' := ⟨13, [(2, .ptr 0 0 0), (3, .ptr 1 0 0), (9, A a0.fRows)], [some ⟨0, Enc.cells ((T_impl_Table.mk [] []))⟩, some ⟨0, Enc.cells ({ ((T_impl_Table.mk [] [])) with fColumns := v1 })⟩]⟩) τ_ok [2, 3] 2 [2, 3, 9] (by kernel_rfl) ?_
  obtain ⟨v3, hv4, h⟩ := bindS h
  refine opsP_callF τ 10 (ok_laws_toValueSS hv4) (FzTo.O _) rfl (by kernel_rfl) ?_
  refine opsP_evk' (st' := ⟨13, [(2, .ptr 0 0 0), (3, .ptr 1 0 0)], [some ⟨0, Enc.cells ((T_impl_Table.mk [] []))⟩, some ⟨0, Enc.cells ({ ({ ((T_impl_Table.mk [] [])) with fColumns := v1 }) with fRows := v3 })⟩]⟩) τ_ok [2, 3] 2 [2, 3] (by kernel_rfl) ?_
  refine opsP_end rfl ?_
  refine pwp_seq ?_
  refine pwp_region ?_
  refine opsP_evk' (st' := ⟨13, [(2, .ptr 0 0 0)], [some ⟨0, Enc.cells ({ ({ ((T_impl_Table.mk [] [])) with fColumns := v1 }) with fRows := v3 })⟩, some ⟨0, Enc.cells ({ ({ ((T_impl_Table.mk [] [])) with fColumns := v1 }) with fRows := v3 })⟩]⟩) τ_ok [2, 3] 2 [2] (by kernel_rfl) ?_
  refine opsP_end rfl ?_
  have h := Option.some.inj h
  subst h
  exact pwp_ret ⟨.inr rfl, E ({ ({ ((T_impl_Table.mk [] [])) with fColumns := v1 }) with fRows := v3 }), _, by kernel_rfl, (OutP.frz (by kernel_rfl)), by decide⟩

/- loop.example/tablehouse/laws.toStep -/
def laws_toStep (a0 : T_laws_Step) : Option T_impl_Step := (laws_toPartS a0.fE).bind fun v1 => (laws_toIntS a0.fList).bind fun v3 => some ({ ({ ({ ({ ({ ({ ((T_impl_Step.mk 0 0 0 0 [] [])) with fKind := a0.fKind }) with fA := a0.fA }) with fB := a0.fB }) with fN := a0.fN }) with fE := v1 }) with fList := v3 })
theorem ok_laws_toStep {a0 : T_laws_Step} {y : T_impl_Step} (h : laws_toStep a0 = some y) : OK Try.prog 32 [E a0] (E y) := by
  refine OK_of_pwp τ_ok Try.func32 rfl (by kernel_rfl) rfl fun Γ hX => ?_
  unfold laws_toStep at h
  refine pwp_seq ?_
  refine pwp_region ?_
  refine opsP_evk' (st' := ⟨25, [(1, .fptr (Enc.cells a0) 0), (2, .ptr 0 0 0)], [some ⟨0, Enc.cells ((T_impl_Step.mk 0 0 0 0 [] []))⟩]⟩) τ_ok [2, 3] 2 [1, 2] (by kernel_rfl) ?_
  refine opsP_end rfl ?_
  refine pwp_seq ?_
  refine pwp_region ?_
  refine opsP_evk' (st' := ⟨25, [(1, .fptr (Enc.cells a0) 0), (2, .ptr 0 0 0), (3, .ptr 1 0 0)], [some ⟨0, Enc.cells ((T_impl_Step.mk 0 0 0 0 [] []))⟩, some ⟨0, Enc.cells ((T_impl_Step.mk 0 0 0 0 [] []))⟩]⟩) τ_ok [2, 3] 1 [1, 2, 3] (by kernel_rfl) ?_
  refine opsP_end rfl ?_
  refine pwp_seq ?_
  refine pwp_region ?_
  refine opsP_evk' (st' := ⟨25, [(1, .fptr (Enc.cells a0) 0), (2, .ptr 0 0 0), (3, .ptr 1 0 0)], [some ⟨0, Enc.cells ((T_impl_Step.mk 0 0 0 0 [] []))⟩, some ⟨0, Enc.cells ({ ((T_impl_Step.mk 0 0 0 0 [] [])) with fKind := a0.fKind })⟩]⟩) τ_ok [2, 3] 4 [1, 2, 3] (by kernel_rfl) ?_
  refine opsP_end rfl ?_
  refine pwp_seq ?_
  refine pwp_region ?_
  refine opsP_evk' (st' := ⟨25, [(1, .fptr (Enc.cells a0) 0), (2, .ptr 0 0 0), (3, .ptr 1 0 0)], [some ⟨0, Enc.cells ((T_impl_Step.mk 0 0 0 0 [] []))⟩, some ⟨0, Enc.cells ({ ({ ((T_impl_Step.mk 0 0 0 0 [] [])) with fKind := a0.fKind }) with fA := a0.fA })⟩]⟩) τ_ok [2, 3] 4 [1, 2, 3] (by kernel_rfl) ?_
  refine opsP_end rfl ?_
  refine pwp_seq ?_
  refine pwp_region ?_
  refine opsP_evk' (st' := ⟨25, [(1, .fptr (Enc.cells a0) 0), (2, .ptr 0 0 0), (3, .ptr 1 0 0)], [some ⟨0, Enc.cells ((T_impl_Step.mk 0 0 0 0 [] []))⟩, some ⟨0, Enc.cells ({ ({ ({ ((T_impl_Step.mk 0 0 0 0 [] [])) with fKind := a0.fKind }) with fA := a0.fA }) with fB := a0.fB })⟩]⟩) τ_ok [2, 3] 4 [1, 2, 3] (by kernel_rfl) ?_
  refine opsP_end rfl ?_
  refine pwp_seq ?_
  refine pwp_region ?_
  refine opsP_evk' (st' := ⟨25, [(1, .fptr (Enc.cells a0) 0), (2, .ptr 0 0 0), (3, .ptr 1 0 0)], [some ⟨0, Enc.cells ((T_impl_Step.mk 0 0 0 0 [] []))⟩, some ⟨0, Enc.cells ({ ({ ({ ({ ((T_impl_Step.mk 0 0 0 0 [] [])) with fKind := a0.fKind }) with fA := a0.fA }) with fB := a0.fB }) with fN := a0.fN })⟩]⟩) τ_ok [2, 3] 4 [1, 2, 3] (by kernel_rfl) ?_
  refine opsP_end rfl ?_
  refine pwp_seq ?_
  refine pwp_region ?_
  refine opsP_evk' (st' := ⟨25, [(1, .fptr (Enc.cells a0) 0), (2, .ptr 0 0 0), (3, .ptr 1 0 0), (17, A a0.fE)], [some ⟨0, Enc.cells ((T_impl_Step.mk 0 0 0 0 [] []))⟩, some ⟨0, Enc.cells ({ ({ ({ ({ ((T_impl_Step.mk 0 0 0 0 [] [])) with fKind := a0.fKind }) with fA := a0.fA }) with fB := a0.fB }) with fN := a0.fN })⟩]⟩) τ_ok [2, 3] 2 [1, 2, 3, 17] (by kernel_rfl) ?_
  obtain ⟨v1, hv2, h⟩ := bindS h
  refine opsP_callF τ 18 (ok_laws_toPartS hv2) (FzTo.O _) rfl (by kernel_rfl) ?_
  refine opsP_evk' (st' := ⟨25, [(1, .fptr (Enc.cells a0) 0), (2, .ptr 0 0 0), (3, .ptr 1 0 0)], [some ⟨0, Enc.cells ((T_impl_Step.mk 0 0 0 0 [] []))⟩, some ⟨0, Enc.cells ({ ({ ({ ({ ({ ((T_impl_Step.mk 0 0 0 0 [] [])) with fKind := a0.fKind }) with fA := a0.fA }) with fB := a0.fB }) with fN := a0.fN }) with fE := v1 })⟩]⟩) τ_ok [2, 3] 2 [1, 2, 3] (by kernel_rfl) ?_
  refine opsP_end rfl ?_
  refine pwp_seq ?_
  refine pwp_region ?_
  refine opsP_evk' (st' := ⟨25, [(2, .ptr 0 0 0), (3, .ptr 1 0 0), (21, A a0.fList)], [some ⟨0, Enc.cells ((T_impl_Step.mk 0 0 0 0 [] []))⟩, some ⟨0, Enc.cells ({ ({ ({ ({ ({ ((T_impl_Step.mk 0 0 0 0 [] [])) with fKind := a0.fKind }) with fA := a0.fA }) with fB := a0.fB }) with fN := a0.fN }) with fE := v1 })⟩]⟩) τ_ok [2, 3] 2 [2, 3, 21] (by kernel_rfl) ?_
  obtain ⟨v3, hv4, h⟩ := bindS h
  refine opsP_callF τ 22 (ok_laws_toIntS hv4) (FzTo.O _) rfl (by kernel_rfl) ?_
  refine opsP_evk' (st' := ⟨25, [(2, .ptr 0 0 0), (3, .ptr 1 0 0)], [some ⟨0, Enc.cells ((T_impl_Step.mk 0 0 0 0 [] []))⟩, some ⟨0, Enc.cells ({ ({ ({ ({ ({ ({ ((T_impl_Step.mk 0 0 0 0 [] [])) with fKind := a0.fKind }) with fA := a0.fA }) with fB := a0.fB }) with fN := a0.fN }) with fE := v1 }) with fList := v3 })⟩]⟩) τ_ok [2, 3] 2 [2, 3] (by kernel_rfl) ?_
  refine opsP_end rfl ?_
  refine pwp_seq ?_
  refine pwp_region ?_
  refine opsP_evk' (st' := ⟨25, [(2, .ptr 0 0 0)], [some ⟨0, Enc.cells ({ ({ ({ ({ ({ ({ ((T_impl_Step.mk 0 0 0 0 [] [])) with fKind := a0.fKind }) with fA := a0.fA }) with fB := a0.fB }) with fN := a0.fN }) with fE := v1 }) with fList := v3 })⟩, some ⟨0, Enc.cells ({ ({ ({ ({ ({ ({ ((T_impl_Step.mk 0 0 0 0 [] [])) with fKind := a0.fKind }) with fA := a0.fA }) with fB := a0.fB }) with fN := a0.fN }) with fE := v1 }) with fList := v3 })⟩]⟩) τ_ok [2, 3] 2 [2] (by kernel_rfl) ?_
  refine opsP_end rfl ?_
  have h := Option.some.inj h
  subst h
  exact pwp_ret ⟨.inr rfl, E ({ ({ ({ ({ ({ ({ ((T_impl_Step.mk 0 0 0 0 [] [])) with fKind := a0.fKind }) with fA := a0.fA }) with fB := a0.fB }) with fN := a0.fN }) with fE := v1 }) with fList := v3 }), _, by kernel_rfl, (OutP.frz (by kernel_rfl)), by decide⟩

/- loop.example/tablehouse/laws.eqTable -/
def laws_eqTable (a0 : T_impl_Table) (a1 : T_impl_Table) : Option Bool := (laws_eqColumnS a0.fColumns a1.fColumns).bind fun v1 => bif (!v1) then some false else (laws_eqValueSS a0.fRows a1.fRows).bind fun v4 => bif (!v4) then some false else some true
theorem ok_laws_eqTable {a0 : T_impl_Table} {a1 : T_impl_Table} {y : Bool} (h : laws_eqTable a0 a1 = some y) : OK Try.prog 34 [E a0, E a1] (B y) := by
  refine OK_of_pwp τ_ok Try.func34 rfl (by kernel_rfl) rfl fun Γ hX => ?_
  unfold laws_eqTable at h
  refine pwp_seq ?_
  refine pwp_region ?_
  refine opsP_evk' (st' := ⟨17, [(2, .fptr (Enc.cells a0) 0), (3, .fptr (Enc.cells a1) 0)], []⟩) τ_ok [] 3 [2, 3] (by kernel_rfl) ?_
  refine opsP_end rfl ?_
  refine pwp_seq ?_
  refine pwp_seq ?_
  refine pwp_region ?_
  refine opsP_evk' (st' := ⟨17, [(2, .fptr (Enc.cells a0) 0), (3, .fptr (Enc.cells a1) 0), (6, A a0.fColumns), (8, A a1.fColumns)], []⟩) τ_ok [] 4 [2, 3, 6, 8] (by kernel_rfl) ?_
  obtain ⟨v1, hv2, h⟩ := bindS h
  refine opsP_callF τ 9 (ok_laws_eqColumnS hv2) (FzTo.frz rfl) rfl (by kernel_rfl) ?_
  refine opsP_evk' (st' := ⟨17, [(2, .fptr (Enc.cells a0) 0), (3, .fptr (Enc.cells a1) 0), (10, B ((!v1)))], []⟩) τ_ok [] 1 [2, 3, 10] (by kernel_rfl) ?_
  refine opsP_end rfl ?_
  refine pwp_cond ((!v1)) (by kernel_rfl) (fun hc3 => ?_) (fun hc3 => ?_)
  · replace h := bifT hc3 h
    refine pwp_seq ?_
    refine pwp_region ?_
    refine opsP_evk' (st' := ⟨17, [(4, B false)], []⟩) τ_ok [] 1 [4] (by kernel_rfl) ?_
    refine opsP_end rfl ?_
    have h := Option.some.inj h
    subst h
    exact pwp_ret ⟨.inr rfl, B false, _, by kernel_rfl, (OutP.frz (by kernel_rfl)), by decide⟩
  · replace h := bifF hc3 h
    refine pwp_skip ?_
    refine pwp_seq ?_
    refine pwp_seq ?_
    refine pwp_region ?_
    refine opsP_evk' (st' := ⟨17, [(12, A a0.fRows), (14, A a1.fRows)], []⟩) τ_ok [] 4 [12, 14] (by kernel_rfl) ?_
    obtain ⟨v4, hv5, h⟩ := bindS h
    refine opsP_callF τ 15 (ok_laws_eqValueSS hv5) (FzTo.frz rfl) rfl (by kernel_rfl) ?_
    refine opsP_evk' (st' := ⟨17, [(16, B ((!v4)))], []⟩) τ_ok [] 1 [16] (by kernel_rfl) ?_
    refine opsP_end rfl ?_
    refine pwp_cond ((!v4)) (by kernel_rfl) (fun hc6 => ?_) (fun hc6 => ?_)
    · replace h := bifT hc6 h
      refine pwp_seq ?_
      refine pwp_region ?_
      refine opsP_evk' (st' := ⟨17, [(4, B false)], []⟩) τ_ok [] 1 [4] (by kernel_rfl) ?_
      refine opsP_end rfl ?_
      have h := Option.some.inj h
      subst h
      exact pwp_ret ⟨.inr rfl, B false, _, by kernel_rfl, (OutP.frz (by kernel_rfl)), by decide⟩
    · replace h := bifF hc6 h
      refine pwp_skip ?_
      refine pwp_seq ?_
      refine pwp_region ?_
      refine opsP_evk' (st' := ⟨17, [(4, B true)], []⟩) τ_ok [] 1 [4] (by kernel_rfl) ?_
      refine opsP_end rfl ?_
      have h := Option.some.inj h
      subst h
      exact pwp_ret ⟨.inr rfl, B true, _, by kernel_rfl, (OutP.frz (by kernel_rfl)), by decide⟩

/- loop.example/tablehouse/laws.eqStep -/
def laws_eqStep (a0 : T_impl_Step) (a1 : T_impl_Step) : Option Bool := bif (!(a0.fKind == a1.fKind)) then some false else bif (!(a0.fA == a1.fA)) then some false else bif (!(a0.fB == a1.fB)) then some false else bif (!(a0.fN == a1.fN)) then some false else (laws_eqPartS a0.fE a1.fE).bind fun v5 => bif (!v5) then some false else (laws_eqIntS a0.fList a1.fList).bind fun v8 => bif (!v8) then some false else some true
theorem ok_laws_eqStep {a0 : T_impl_Step} {a1 : T_impl_Step} {y : Bool} (h : laws_eqStep a0 a1 = some y) : OK Try.prog 35 [E a0, E a1] (B y) := by
  refine OK_of_pwp τ_ok Try.func35 rfl (by kernel_rfl) rfl fun Γ hX => ?_
  unfold laws_eqStep at h
  refine pwp_seq ?_
  refine pwp_region ?_
  refine opsP_evk' (st' := ⟨37, [(2, .fptr (Enc.cells a0) 0), (3, .fptr (Enc.cells a1) 0)], []⟩) τ_ok [] 3 [2, 3] (by kernel_rfl) ?_
  refine opsP_end rfl ?_
  refine pwp_seq ?_
  refine pwp_seq ?_
  refine pwp_region ?_
  refine opsP_evk' (st' := ⟨37, [(2, .fptr (Enc.cells a0) 0), (3, .fptr (Enc.cells a1) 0), (9, B ((!(a0.fKind == a1.fKind))))], []⟩) τ_ok [] 5 [2, 3, 9] (by kernel_rfl) ?_
  refine opsP_end rfl ?_
  refine pwp_cond ((!(a0.fKind == a1.fKind))) (by kernel_rfl) (fun hc1 => ?_) (fun hc1 => ?_)
  · replace h := bifT hc1 h
    refine pwp_seq ?_
    refine pwp_region ?_
    refine opsP_evk' (st' := ⟨37, [(4, B false)], []⟩) τ_ok [] 1 [4] (by kernel_rfl) ?_
    refine opsP_end rfl ?_
    have h := Option.some.inj h
    subst h
    exact pwp_ret ⟨.inr rfl, B false, _, by kernel_rfl, (OutP.frz (by kernel_rfl)), by decide⟩
  · replace h := bifF hc1 h
    refine pwp_skip ?_
    refine pwp_seq ?_
    refine pwp_seq ?_
    refine pwp_region ?_
    refine opsP_evk' (st' := ⟨37, [(2, .fptr (Enc.cells a0) 0), (3, .fptr (Enc.cells a1) 0), (14, B ((!(a0.fA == a1.fA))))], []⟩) τ_ok [] 5 [2, 3, 14] (by kernel_rfl) ?_
    refine opsP_end rfl ?_
    refine pwp_cond ((!(a0.fA == a1.fA))) (by kernel_rfl) (fun hc2 => ?_) (fun hc2 => ?_)
    · replace h := bifT hc2 h
      refine pwp_seq ?_
      refine pwp_region ?_
      refine opsP_evk' (st' := ⟨37, [(4, B false)], []⟩) τ_ok [] 1 [4] (by kernel_rfl) ?_
      refine opsP_end rfl ?_
      have h := Option.some.inj h
      subst h
      exact pwp_ret ⟨.inr rfl, B false, _, by kernel_rfl, (OutP.frz (by kernel_rfl)), by decide⟩
    · replace h := bifF hc2 h
      refine pwp_skip ?_
      refine pwp_seq ?_
      refine pwp_seq ?_
      refine pwp_region ?_
      refine opsP_evk' (st' := ⟨37, [(2, .fptr (Enc.cells a0) 0), (3, .fptr (Enc.cells a1) 0), (19, B ((!(a0.fB == a1.fB))))], []⟩) τ_ok [] 5 [2, 3, 19] (by kernel_rfl) ?_
      refine opsP_end rfl ?_
      refine pwp_cond ((!(a0.fB == a1.fB))) (by kernel_rfl) (fun hc3 => ?_) (fun hc3 => ?_)
      · replace h := bifT hc3 h
        refine pwp_seq ?_
        refine pwp_region ?_
        refine opsP_evk' (st' := ⟨37, [(4, B false)], []⟩) τ_ok [] 1 [4] (by kernel_rfl) ?_
        refine opsP_end rfl ?_
        have h := Option.some.inj h
        subst h
        exact pwp_ret ⟨.inr rfl, B false, _, by kernel_rfl, (OutP.frz (by kernel_rfl)), by decide⟩
      · replace h := bifF hc3 h
        refine pwp_skip ?_
        refine pwp_seq ?_
        refine pwp_seq ?_
        refine pwp_region ?_
        refine opsP_evk' (st' := ⟨37, [(2, .fptr (Enc.cells a0) 0), (3, .fptr (Enc.cells a1) 0), (24, B ((!(a0.fN == a1.fN))))], []⟩) τ_ok [] 5 [2, 3, 24] (by kernel_rfl) ?_
        refine opsP_end rfl ?_
        refine pwp_cond ((!(a0.fN == a1.fN))) (by kernel_rfl) (fun hc4 => ?_) (fun hc4 => ?_)
        · replace h := bifT hc4 h
          refine pwp_seq ?_
          refine pwp_region ?_
          refine opsP_evk' (st' := ⟨37, [(4, B false)], []⟩) τ_ok [] 1 [4] (by kernel_rfl) ?_
          refine opsP_end rfl ?_
          have h := Option.some.inj h
          subst h
          exact pwp_ret ⟨.inr rfl, B false, _, by kernel_rfl, (OutP.frz (by kernel_rfl)), by decide⟩
        · replace h := bifF hc4 h
          refine pwp_skip ?_
          refine pwp_seq ?_
          refine pwp_seq ?_
          refine pwp_region ?_
          refine opsP_evk' (st' := ⟨37, [(2, .fptr (Enc.cells a0) 0), (3, .fptr (Enc.cells a1) 0), (26, A a0.fE), (28, A a1.fE)], []⟩) τ_ok [] 4 [2, 3, 26, 28] (by kernel_rfl) ?_
          obtain ⟨v5, hv6, h⟩ := bindS h
          refine opsP_callF τ 29 (ok_laws_eqPartS hv6) (FzTo.frz rfl) rfl (by kernel_rfl) ?_
          refine opsP_evk' (st' := ⟨37, [(2, .fptr (Enc.cells a0) 0), (3, .fptr (Enc.cells a1) 0), (30, B ((!v5)))], []⟩) τ_ok [] 1 [2, 3, 30] (by kernel_rfl) ?_
          refine opsP_end rfl ?_
          refine pwp_cond ((!v5)) (by kernel_rfl) (fun hc7 => ?_) (fun hc7 => ?_)
          · replace h := bifT hc7 h
            refine pwp_seq ?_
            refine pwp_region ?_
            refine opsP_evk' (st' := ⟨37, [(4, B false)], []⟩) τ_ok [] 1 [4] (by kernel_rfl) ?_
            refine opsP_end rfl ?_
            have h := Option.some.inj h
            subst h
            exact pwp_ret ⟨.inr rfl, B false, _, by kernel_rfl, (OutP.frz (by kernel_rfl)), by decide⟩
          · replace h := bifF hc7 h
            refine pwp_skip ?_
            refine pwp_seq ?_
            refine pwp_seq ?_
            refine pwp_region ?_
            refine opsP_evk' (st' := ⟨37, [(32, A a0.fList), (34, A a1.fList)], []⟩) τ_ok [] 4 [32, 34] (by kernel_rfl) ?_
            obtain ⟨v8, hv9, h⟩ := bindS h
            refine opsP_callF τ 35 (ok_laws_eqIntS hv9) (FzTo.frz rfl) rfl (by kernel_rfl) ?_
            refine opsP_evk' (st' := ⟨37, [(36, B ((!v8)))], []⟩) τ_ok [] 1 [36] (by kernel_rfl) ?_
            refine opsP_end rfl ?_
            refine pwp_cond ((!v8)) (by kernel_rfl) (fun hc10 => ?_) (fun hc10 => ?_)
            · replace h := bifT hc10 h
              refine pwp_seq ?_
              refine pwp_region ?_
              refine opsP_evk' (st' := ⟨37, [(4, B false)], []⟩) τ_ok [] 1 [4] (by kernel_rfl) ?_
              refine opsP_end rfl ?_
              have h := Option.some.inj h
              subst h
              exact pwp_ret ⟨.inr rfl, B false, _, by kernel_rfl, (OutP.frz (by kernel_rfl)), by decide⟩
            · replace h := bifF hc10 h
              refine pwp_skip ?_
              refine pwp_seq ?_
              refine pwp_region ?_
              refine opsP_evk' (st' := ⟨37, [(4, B true)], []⟩) τ_ok [] 1 [4] (by kernel_rfl) ?_
              refine opsP_end rfl ?_
              have h := Option.some.inj h
              subst h
              exact pwp_ret ⟨.inr rfl, B true, _, by kernel_rfl, (OutP.frz (by kernel_rfl)), by decide⟩

/- loop.example/tablehouse/spec.ExprKind -/
def spec_ExprKind_j3 (x6 : List Int) (x15 : Bool) : Option Int := bif x15 then some (-1) else (getI x6 0).bind fun v17 => some v17
def spec_ExprKind_j2 (a0 : List T_impl_Column) (a1 : List T_impl_Part) (x4 : Bool) (x5 : Int) (x6 : List Int) (K8 : Bool → Int → (List Int) → Option Int) (x9 : Bool) : Option Int := bif x9 then (getI a1 x5).bind fun v11 => (spec_l4Step a0 x6 v11).bind fun v13 => K8 v13.2 ((w64 (x5 + 1))) v13.1 else bif (!x4) then spec_ExprKind_j3 x6 true else spec_ExprKind_j3 x6 ((!(((x6.length : Int)) == 1)))
def spec_ExprKind_l1 (a0 : List T_impl_Column) (a1 : List T_impl_Part) : Nat → Bool → Int → (List Int) → Option Int
  | 0, _, _, _ => none
  | f7 + 1, x4, x5, x6 => bif (decide (x5 < ((a1.length : Int)))) then spec_ExprKind_j2 a0 a1 x4 x5 x6 (spec_ExprKind_l1 a0 a1 f7) x4 else spec_ExprKind_j2 a0 a1 x4 x5 x6 (spec_ExprKind_l1 a0 a1 f7) false
def spec_ExprKind_j0 (a0 : List T_impl_Column) (a1 : List T_impl_Part) (x1 : Bool) : Option Int := bif x1 then some (-1) else spec_ExprKind_l1 a0 a1 FUEL true 0 (([] : List Int))
def spec_ExprKind (a0 : List T_impl_Column) (a1 : List T_impl_Part) : Option Int := (spec_ColumnsOk a0).bind fun v21 => bif (!v21) then spec_ExprKind_j0 a0 a1 true else spec_ExprKind_j0 a0 a1 ((decide (((a1.length : Int)) > 12)))
theorem ok_spec_ExprKind {a0 : List T_impl_Column} {a1 : List T_impl_Part} {y : Int} (h : spec_ExprKind a0 a1 = some y) : OK Try.prog 81 [A a0, A a1] (I y) := by
  refine OK_of_pwp τ_ok Try.func81 rfl (by kernel_rfl) rfl fun Γ hX => ?_
  unfold spec_ExprKind at h
  refine pwp_seq ?_
  refine pwp_region ?_
  refine opsP_evk' (st' := ⟨46, [(0, A a0), (1, A a1)], []⟩) τ_ok [] 1 [0, 1] (by kernel_rfl) ?_
  refine opsP_end rfl ?_
  refine pwp_seq ?_
  refine pwp_seq ?_
  refine pwp_join (σ := Bool) (fun x1 => (⟨46, [(0, A a0), (1, A a1), (15, B x1)], []⟩ : St)) (fun x1 => spec_ExprKind_j0 a0 a1 x1 = some y) ?_ ?_
  · refine pwp_region ?_
    refine opsP_evk' (st' := ⟨46, [(0, A a0), (1, A a1), (8, A a0)], []⟩) τ_ok [] 1 [0, 1, 8] (by kernel_rfl) ?_
    obtain ⟨v21, hv22, h⟩ := bindS h
    refine opsP_callF τ 9 (ok_spec_ColumnsOk hv22) (FzTo.frz rfl) rfl (by kernel_rfl) ?_
    refine opsP_evk' (st' := ⟨46, [(0, A a0), (1, A a1), (11, B ((!v21)))], []⟩) τ_ok [] 2 [0, 1, 11] (by kernel_rfl) ?_
    rcases Bool.eq_false_or_eq_true ((!v21)) with hc23 | hc23
    · replace h := bifT hc23 h
      rw [hc23]
      refine opsP_evk' (st' := ⟨46, [(0, A a0), (1, A a1), (15, B true)], []⟩) τ_ok [] 4 [0, 1, 15] (by kernel_rfl) ?_
      refine opsP_end rfl ?_
      exact ⟨true, h, (Imp.to (st' := ⟨46, [(0, A a0), (1, A a1), (15, B true)], []⟩) [0, 1, 15] (by kernel_rfl)).trans (Imp.to [0, 1, 15] (by kernel_rfl))⟩
    · replace h := bifF hc23 h
      rw [hc23]
      refine opsP_evk' (st' := ⟨46, [(0, A a0), (1, A a1), (15, B ((decide (((a1.length : Int)) > 12))))], []⟩) τ_ok [] 4 [0, 1, 15] (by kernel_rfl) ?_
      refine opsP_end rfl ?_
      exact ⟨(decide (((a1.length : Int)) > 12)), h, (Imp.to (st' := ⟨46, [(0, A a0), (1, A a1), (15, B ((decide (((a1.length : Int)) > 12))))], []⟩) [0, 1, 15] (by kernel_rfl)).trans (Imp.to [0, 1, 15] (by kernel_rfl))⟩
  · rintro x1 h
    skip
    unfold spec_ExprKind_j0 at h
    refine pwp_cond x1 (by kernel_rfl) (fun hc2 => ?_) (fun hc2 => ?_)
    · replace h := bifT hc2 h
      refine pwp_seq ?_
      refine pwp_region ?_
      refine opsP_evk' (st' := ⟨46, [(4, I (-1))], []⟩) τ_ok [] 1 [4] (by kernel_rfl) ?_
      refine opsP_end rfl ?_
      have h := Option.some.inj h
      subst h
      exact pwp_ret ⟨.inr rfl, I (-1), _, by kernel_rfl, (OutP.frz (by kernel_rfl)), by decide⟩
    · replace h := bifF hc2 h
      refine pwp_skip ?_
      refine pwp_seq ?_
      refine pwp_region ?_
      refine opsP_evk' (st' := ⟨46, [(0, A a0), (1, A a1), (5, .arr 1 0 (eL ([] : List Int)) true)], []⟩) τ_ok [] 2 [0, 1, 5] (by kernel_rfl) ?_
      refine opsP_end rfl ?_
      refine pwp_seq ?_
      refine pwp_region ?_
      refine opsP_evk' (st' := ⟨46, [(0, A a0), (1, A a1), (5, .arr 1 0 (eL ([] : List Int)) true), (6, B true)], []⟩) τ_ok [] 1 [0, 1, 5, 6] (by kernel_rfl) ?_
      refine opsP_end rfl ?_
      refine pwp_seq ?_
      refine pwp_seq ?_
      refine pwp_region ?_
      refine opsP_evk' (st' := ⟨46, [(0, A a0), (1, A a1), (5, .arr 1 0 (eL ([] : List Int)) true), (6, B true), (7, I 0)], []⟩) τ_ok [] 1 [0, 1, 5, 6, 7] (by kernel_rfl) ?_
      refine opsP_end rfl ?_
      refine pwp_block ?_
      refine pwp_loop (ι := Nat × Bool × Int × (List Int)) (fun (f7, x4, x5, x6) => (⟨46, [(0, A a0), (1, A a1), (5, .ref 0 0 0 1 x6.length false), (6, B x4), (7, I x5)], [some ⟨0, eL x6⟩]⟩ : St)) (fun (f7, x4, x5, x6) => spec_ExprKind_l1 a0 a1 f7 x4 x5 x6 = some y) (fun (f7, x4, x5, x6) => f7) (FUEL, true, 0, ([] : List Int)) h ((Imp.to (st' := ⟨46, [(0, A a0), (1, A a1), (5, .arr 1 0 (eL ([] : List Int)) true), (6, B true), (7, I 0)], []⟩) [0, 1, 5, 6, 7] (by kernel_rfl)).trans ((Imp.thawS (st' := ⟨46, [(0, A a0), (1, A a1), (5, .ref 0 0 0 1 (([] : List Int)).length false), (6, B true), (7, I 0)], [some ⟨0, eL (([] : List Int))⟩]⟩) 5 [0, 1, 5, 6, 7] (by kernel_rfl)).trans (Imp.to [0, 1, 5, 6, 7] (by kernel_rfl)))) ?_
      rintro ⟨f7, x4, x5, x6⟩ h
      dsimp only at h ⊢
      cases f7 with
      | zero => cases h
      | succ f7 =>
      rw [spec_ExprKind_l1] at h
      refine pwp_seq ?_
      refine pwp_seq ?_
      refine pwp_join (σ := Bool) (fun x9 => (⟨46, [(0, A a0), (1, A a1), (5, .ref 0 0 0 1 x6.length false), (6, B x4), (7, I x5), (23, B x9)], [some ⟨0, eL x6⟩]⟩ : St)) (fun x9 => spec_ExprKind_j2 a0 a1 x4 x5 x6 (spec_ExprKind_l1 a0 a1 f7) x9 = some y) ?_ ?_
      · refine pwp_region ?_
        refine opsP_evk' (st' := ⟨46, [(0, A a0), (1, A a1), (5, .ref 0 0 0 1 x6.length false), (6, B x4), (7, I x5), (21, B ((decide (x5 < ((a1.length : Int))))))], [some ⟨0, eL x6⟩]⟩) τ_ok [] 5 [0, 1, 5, 6, 7, 21] (by kernel_rfl) ?_
        rcases Bool.eq_false_or_eq_true ((decide (x5 < ((a1.length : Int))))) with hc20 | hc20
        · replace h := bifT hc20 h
          rw [hc20]
          refine opsP_evk' (st' := ⟨46, [(0, A a0), (1, A a1), (5, .ref 0 0 0 1 x6.length false), (6, B x4), (7, I x5), (22, B x4), (23, B x4)], [some ⟨0, eL x6⟩]⟩) τ_ok [] 2 [0, 1, 5, 6, 7, 22, 23] (by kernel_rfl) ?_
          refine opsP_end rfl ?_
          exact ⟨x4, h, (Imp.to (st' := ⟨46, [(0, A a0), (1, A a1), (5, .ref 0 0 0 1 x6.length false), (6, B x4), (7, I x5), (23, B x4)], [some ⟨0, eL x6⟩]⟩) [0, 1, 5, 6, 7, 23] (by kernel_rfl)).trans (Imp.to [0, 1, 5, 6, 7, 23] (by kernel_rfl))⟩
        · replace h := bifF hc20 h
          rw [hc20]
          refine opsP_evk' (st' := ⟨46, [(0, A a0), (1, A a1), (5, .ref 0 0 0 1 x6.length false), (6, B x4), (7, I x5), (22, .lit undef), (23, B false)], [some ⟨0, eL x6⟩]⟩) τ_ok [] 2 [0, 1, 5, 6, 7, 22, 23] (by kernel_rfl) ?_
          refine opsP_end rfl ?_
          exact ⟨false, h, (Imp.to (st' := ⟨46, [(0, A a0), (1, A a1), (5, .ref 0 0 0 1 x6.length false), (6, B x4), (7, I x5), (23, B false)], [some ⟨0, eL x6⟩]⟩) [0, 1, 5, 6, 7, 23] (by kernel_rfl)).trans (Imp.to [0, 1, 5, 6, 7, 23] (by kernel_rfl))⟩
      · rintro x9 h
        skip
        unfold spec_ExprKind_j2 at h
        refine pwp_cond x9 (by kernel_rfl) (fun hc10 => ?_) (fun hc10 => ?_)
        · replace h := bifT hc10 h
          refine pwp_skip ?_
          refine pwp_seq ?_
          refine pwp_block ?_
          refine pwp_region ?_
          refine opsP_evk' (st' := ⟨46, [(0, A a0), (1, A a1), (7, I x5), (27, A a0), (28, .ref 0 0 0 1 x6.length false), (29, A a1), (30, I x5)], [some ⟨0, eL x6⟩]⟩) τ_ok [] 4 [0, 1, 7, 27, 28, 29, 30] (by kernel_rfl) ?_
          obtain ⟨v11, hv12, h⟩ := bindS h
          refine opsP_idx τ_ok 31 hv12 (by kernel_rfl) ?_
          refine opsP_evk' (st' := ⟨46, [(0, A a0), (1, A a1), (7, I x5), (27, A a0), (28, .ref 0 0 0 1 x6.length false), (32, E v11)], [some ⟨0, eL x6⟩]⟩) τ_ok [] 1 [0, 1, 7, 27, 28, 32] (by kernel_rfl) ?_
          obtain ⟨v13, hv14, h⟩ := bindS h
          refine opsP_callM (xs := [A a0, .ref 0 0 0 1 x6.length false, E v11]) (x := .tup [.ref 1 0 0 1 v13.1.length false, B v13.2]) (bs := [⟨0, eL v13.1⟩]) τ 33 [0] (fun b hb => absurd hb (hX b)) (ok_spec_l4Step hv14) (by kernel_rfl) (OutL.cons (OutP.frz rfl) (OutL.cons (OutP.list (v := 0) (by kernel_rfl)) (OutL.cons (OutP.frz rfl) (OutL.nil _)))) (by decide) (by kernel_rfl) ?_
          refine opsP_evk' (st' := ⟨46, [(0, A a0), (1, A a1), (5, .ref 1 0 0 1 v13.1.length false), (6, B v13.2), (7, I x5)], [none, some ⟨0, eL v13.1⟩]⟩) τ_ok [] 5 [0, 1, 5, 6, 7] (by kernel_rfl) ?_
          refine opsP_end rfl ?_
          refine pwp_region ?_
          refine opsP_evk' (st' := ⟨46, [(0, A a0), (1, A a1), (5, .ref 1 0 0 1 v13.1.length false), (6, B v13.2), (7, I ((w64 (x5 + 1))))], [none, some ⟨0, eL v13.1⟩]⟩) τ_ok [] 3 [0, 1, 5, 6, 7] (by kernel_rfl) ?_
          refine opsP_end rfl ?_
          exact ⟨(f7, v13.2, (w64 (x5 + 1)), v13.1), h, Nat.lt_succ_self _, (Imp.to (st' := ⟨46, [(0, A a0), (1, A a1), (5, .ref 1 0 0 1 v13.1.length false), (6, B v13.2), (7, I ((w64 (x5 + 1))))], [none, some ⟨0, eL v13.1⟩]⟩) [0, 1, 5, 6, 7] (by kernel_rfl)).trans ((Imp.mvS (st' := ⟨46, [(0, A a0), (1, A a1), (5, .ref 0 0 0 1 v13.1.length false), (6, B v13.2), (7, I ((w64 (x5 + 1))))], [some ⟨0, eL v13.1⟩, none]⟩) 1 0 [0, 1, 5, 6, 7] (fun b hb => absurd hb (hX b)) (v := 0) (cs := eL v13.1) (by kernel_rfl) (by kernel_rfl) (by exact (And.intro (eL_frz _) trivial)) (by kernel_rfl) (by kernel_rfl)).trans ((Imp.truncS (st' := ⟨46, [(0, A a0), (1, A a1), (5, .ref 0 0 0 1 v13.1.length false), (6, B v13.2), (7, I ((w64 (x5 + 1))))], [some ⟨0, eL v13.1⟩]⟩) 1 (fun b hb => absurd hb (hX b)) (by kernel_rfl) (allBelow_mem (by exact (And.intro rfl (And.intro rfl (And.intro rfl (And.intro rfl (And.intro rfl trivial))))))) (by exact (And.intro (frz_below (eL_frz _)) trivial)) (by kernel_rfl)).trans (Imp.to [0, 1, 5, 6, 7] (by kernel_rfl))))⟩
        · replace h := bifF hc10 h
          refine pwp_exit ?_
          refine pwp_seq ?_
          refine pwp_seq ?_
          refine pwp_join (σ := Bool) (fun x15 => (⟨46, [(5, .ref 0 0 0 1 x6.length false), (42, B x15)], [some ⟨0, eL x6⟩]⟩ : St)) (fun x15 => spec_ExprKind_j3 x6 x15 = some y) ?_ ?_
          · refine pwp_region ?_
            refine opsP_evk' (st' := ⟨46, [(5, .ref 0 0 0 1 x6.length false), (38, B ((!x4)))], [some ⟨0, eL x6⟩]⟩) τ_ok [] 3 [5, 38] (by kernel_rfl) ?_
            rcases Bool.eq_false_or_eq_true ((!x4)) with hc19 | hc19
            · replace h := bifT hc19 h
              rw [hc19]
              refine opsP_evk' (st' := ⟨46, [(5, .ref 0 0 0 1 x6.length false), (42, B true)], [some ⟨0, eL x6⟩]⟩) τ_ok [] 4 [5, 42] (by kernel_rfl) ?_
              refine opsP_end rfl ?_
              exact ⟨true, h, (Imp.to (st' := ⟨46, [(5, .ref 0 0 0 1 x6.length false), (42, B true)], [some ⟨0, eL x6⟩]⟩) [5, 42] (by kernel_rfl)).trans (Imp.to [5, 42] (by kernel_rfl))⟩
            · replace h := bifF hc19 h
              rw [hc19]
              refine opsP_evk' (st' := ⟨46, [(5, .ref 0 0 0 1 x6.length false), (42, B ((!(((x6.length : Int)) == 1))))], [some ⟨0, eL x6⟩]⟩) τ_ok [] 4 [5, 42] (by kernel_rfl) ?_
              refine opsP_end rfl ?_
              exact ⟨(!(((x6.length : Int)) == 1)), h, (Imp.to (st' := ⟨46, [(5, .ref 0 0 0 1 x6.length false), (42, B ((!(((x6.length : Int)) == 1))))], [some ⟨0, eL x6⟩]⟩) [5, 42] (by kernel_rfl)).trans (Imp.to [5, 42] (by kernel_rfl))⟩
          · rintro x15 h
            skip
            unfold spec_ExprKind_j3 at h
            refine pwp_cond x15 (by kernel_rfl) (fun hc16 => ?_) (fun hc16 => ?_)
            · replace h := bifT hc16 h
              refine pwp_seq ?_
              refine pwp_region ?_
              refine opsP_evk' (st' := ⟨46, [(4, I (-1))], [some ⟨0, eL x6⟩]⟩) τ_ok [] 1 [4] (by kernel_rfl) ?_
              refine opsP_end rfl ?_
              have h := Option.some.inj h
              subst h
              exact pwp_ret ⟨.inr rfl, I (-1), _, by kernel_rfl, (OutP.frz (by kernel_rfl)), by decide⟩
            · replace h := bifF hc16 h
              refine pwp_skip ?_
              refine pwp_seq ?_
              refine pwp_region ?_
              refine opsP_evk' (st' := ⟨46, [(43, .ref 0 0 0 1 x6.length false)], [some ⟨0, eL x6⟩]⟩) τ_ok [] 1 [43] (by kernel_rfl) ?_
              obtain ⟨v17, hv18, h⟩ := bindS h
              refine opsP_idr τ_ok 44 0 0 x6.length hv18 rfl (by kernel_rfl) ?_
              refine opsP_lde (r := I v17) τ_ok 45 3 0 hv18 (by kernel_rfl) (by kernel_rfl) ?_
              refine opsP_evk' (st' := ⟨46, [(4, I v17)], [some ⟨0, eL x6⟩]⟩) τ_ok [] 1 [4] (by kernel_rfl) ?_
              refine opsP_end rfl ?_
              have h := Option.some.inj h
              subst h
              exact pwp_ret ⟨.inr rfl, I v17, _, by kernel_rfl, (OutP.frz (by kernel_rfl)), by decide⟩

/- loop.example/tablehouse/spec.RowFits -/
def spec_RowFits_j2 (x3 : Int) (K5 : Int → Option Bool) (x7 : Bool) : Option Bool := bif x7 then some false else K5 ((w64 (x3 + 1)))
def spec_RowFits_l1 (a0 : List T_impl_Column) (a1 : List T_impl_Value) : Nat → Int → Option Bool
  | 0, _ => none
  | f4 + 1, x3 => bif (decide (x3 < ((a1.length : Int)))) then (getI a1 x3).bind fun v9 => (getI a0 x3).bind fun v11 => bif (!(v9.fKind == v11.fKind)) then (getI a1 x3).bind fun v13 => bif (!(v13.fKind == 0)) then spec_RowFits_j2 x3 (spec_RowFits_l1 a0 a1 f4) true else (getI a0 x3).bind fun v15 => spec_RowFits_j2 x3 (spec_RowFits_l1 a0 a1 f4) ((!v15.fEmpty)) else spec_RowFits_j2 x3 (spec_RowFits_l1 a0 a1 f4) false else some true
def spec_RowFits_j0 (a0 : List T_impl_Column) (a1 : List T_impl_Value) (x1 : Bool) : Option Bool := bif x1 then some false else spec_RowFits_l1 a0 a1 FUEL 0
def spec_RowFits (a0 : List T_impl_Column) (a1 : List T_impl_Value) : Option Bool := (spec_ColumnsOk a0).bind fun v19 => bif (!v19) then spec_RowFits_j0 a0 a1 true else (spec_RowOk a1).bind fun v21 => bif (!v21) then spec_RowFits_j0 a0 a1 true else spec_RowFits_j0 a0 a1 ((!(((a1.length : Int)) == ((a0.length : Int)))))
theorem ok_spec_RowFits {a0 : List T_impl_Column} {a1 : List T_impl_Value} {y : Bool} (h : spec_RowFits a0 a1 = some y) : OK Try.prog 82 [A a0, A a1] (B y) := by
  refine OK_of_pwp τ_ok Try.func82 rfl (by kernel_rfl) rfl fun Γ hX => ?_
  unfold spec_RowFits at h
  refine pwp_seq ?_
  refine pwp_region ?_
  refine opsP_evk' (st' := ⟨54, [(0, A a0), (1, A a1)], []⟩) τ_ok [] 1 [0, 1] (by kernel_rfl) ?_
  refine opsP_end rfl ?_
  refine pwp_seq ?_
  refine pwp_seq ?_
  refine pwp_join (σ := Bool) (fun x1 => (⟨54, [(0, A a0), (1, A a1), (20, B x1)], []⟩ : St)) (fun x1 => spec_RowFits_j0 a0 a1 x1 = some y) ?_ ?_
  · refine pwp_region ?_
    refine opsP_evk' (st' := ⟨54, [(0, A a0), (1, A a1), (6, A a0)], []⟩) τ_ok [] 1 [0, 1, 6] (by kernel_rfl) ?_
    obtain ⟨v19, hv20, h⟩ := bindS h
    refine opsP_callF τ 7 (ok_spec_ColumnsOk hv20) (FzTo.frz rfl) rfl (by kernel_rfl) ?_
    refine opsP_evk' (st' := ⟨54, [(0, A a0), (1, A a1), (9, B ((!v19)))], []⟩) τ_ok [] 2 [0, 1, 9] (by kernel_rfl) ?_
    rcases Bool.eq_false_or_eq_true ((!v19)) with hc24 | hc24
    · replace h := bifT hc24 h
      rw [hc24]
      refine opsP_evk' (st' := ⟨54, [(0, A a0), (1, A a1), (20, B true)], []⟩) τ_ok [] 11 [0, 1, 20] (by kernel_rfl) ?_
      refine opsP_end rfl ?_
      exact ⟨true, h, (Imp.to (st' := ⟨54, [(0, A a0), (1, A a1), (20, B true)], []⟩) [0, 1, 20] (by kernel_rfl)).trans (Imp.to [0, 1, 20] (by kernel_rfl))⟩
    · replace h := bifF hc24 h
      rw [hc24]
      refine opsP_evk' (st' := ⟨54, [(0, A a0), (1, A a1), (9, B false), (10, A a1)], []⟩) τ_ok [] 1 [0, 1, 9, 10] (by kernel_rfl) ?_
      obtain ⟨v21, hv22, h⟩ := bindS h
      refine opsP_callF τ 11 (ok_spec_RowOk hv22) (FzTo.frz rfl) rfl (by kernel_rfl) ?_
      refine opsP_evk' (st' := ⟨54, [(0, A a0), (1, A a1), (14, B ((!v21)))], []⟩) τ_ok [] 3 [0, 1, 14] (by kernel_rfl) ?_
      rcases Bool.eq_false_or_eq_true ((!v21)) with hc23 | hc23
      · replace h := bifT hc23 h
        rw [hc23]
        refine opsP_evk' (st' := ⟨54, [(0, A a0), (1, A a1), (20, B true)], []⟩) τ_ok [] 6 [0, 1, 20] (by kernel_rfl) ?_
        refine opsP_end rfl ?_
        exact ⟨true, h, (Imp.to (st' := ⟨54, [(0, A a0), (1, A a1), (20, B true)], []⟩) [0, 1, 20] (by kernel_rfl)).trans (Imp.to [0, 1, 20] (by kernel_rfl))⟩
      · replace h := bifF hc23 h
        rw [hc23]
        refine opsP_evk' (st' := ⟨54, [(0, A a0), (1, A a1), (20, B ((!(((a1.length : Int)) == ((a0.length : Int))))))], []⟩) τ_ok [] 6 [0, 1, 20] (by kernel_rfl) ?_
        refine opsP_end rfl ?_
        exact ⟨(!(((a1.length : Int)) == ((a0.length : Int)))), h, (Imp.to (st' := ⟨54, [(0, A a0), (1, A a1), (20, B ((!(((a1.length : Int)) == ((a0.length : Int))))))], []⟩) [0, 1, 20] (by kernel_rfl)).trans (Imp.to [0, 1, 20] (by kernel_rfl))⟩
  · rintro x1 h
    skip
    unfold spec_RowFits_j0 at h
    refine pwp_cond x1 (by kernel_rfl) (fun hc2 => ?_) (fun hc2 => ?_)
    · replace h := bifT hc2 h
      refine pwp_seq ?_
      refine pwp_region ?_
      refine opsP_evk' (st' := ⟨54, [(4, B false)], []⟩) τ_ok [] 1 [4] (by kernel_rfl) ?_
      refine opsP_end rfl ?_
      have h := Option.some.inj h
      subst h
      exact pwp_ret ⟨.inr rfl, B false, _, by kernel_rfl, (OutP.frz (by kernel_rfl)), by decide⟩
    · replace h := bifF hc2 h
      refine pwp_skip ?_
      refine pwp_seq ?_
      refine pwp_seq ?_
      refine pwp_region ?_
      refine opsP_evk' (st' := ⟨54, [(0, A a0), (1, A a1), (5, I 0)], []⟩) τ_ok [] 1 [0, 1, 5] (by kernel_rfl) ?_
      refine opsP_end rfl ?_
      refine pwp_block ?_
      refine pwp_loop (ι := Nat × Int) (fun (f4, x3) => (⟨54, [(0, A a0), (1, A a1), (5, I x3)], []⟩ : St)) (fun (f4, x3) => spec_RowFits_l1 a0 a1 f4 x3 = some y) (fun (f4, x3) => f4) (FUEL, 0) h ((Imp.to (st' := ⟨54, [(0, A a0), (1, A a1), (5, I 0)], []⟩) [0, 1, 5] (by kernel_rfl)).trans (Imp.to [0, 1, 5] (by kernel_rfl))) ?_
      rintro ⟨f4, x3⟩ h
      dsimp only at h ⊢
      cases f4 with
      | zero => cases h
      | succ f4 =>
      rw [spec_RowFits_l1] at h
      refine pwp_seq ?_
      refine pwp_seq ?_
      refine pwp_region ?_
      refine opsP_evk' (st' := ⟨54, [(0, A a0), (1, A a1), (5, I x3), (24, B ((decide (x3 < ((a1.length : Int))))))], []⟩) τ_ok [] 4 [0, 1, 5, 24] (by kernel_rfl) ?_
      refine opsP_end rfl ?_
      refine pwp_cond ((decide (x3 < ((a1.length : Int))))) (by kernel_rfl) (fun hc6 => ?_) (fun hc6 => ?_)
      · replace h := bifT hc6 h
        refine pwp_skip ?_
        refine pwp_seq ?_
        refine pwp_block ?_
        refine pwp_seq ?_
        refine pwp_join (σ := Bool) (fun x7 => (⟨54, [(0, A a0), (1, A a1), (5, I x3), (53, B x7)], []⟩ : St)) (fun x7 => spec_RowFits_j2 x3 (spec_RowFits_l1 a0 a1 f4) x7 = some y) ?_ ?_
        · refine pwp_imp (Imp.to (st' := ⟨54, [(0, A a0), (1, A a1), (5, I x3)], []⟩) [0, 1, 5] (by kernel_rfl)) ?_
          refine pwp_any ([[], [], [], [], [], [], [], [], [], [], [], [], [], [], [], [], [], [], [], [], [], [], [], [], [], [], []]) ([[], [], [], [], [], [], [], [], [], [], [], [], [], [], [], [], [], [], [], [], [], [], [], [], [], [], []]) rfl (by kernel_rfl) ?_
          refine qA_ev (st' := ⟨54, [(28, I x3), (27, A a1), (0, A a0), (1, A a1), (5, I x3)], []⟩) τ_ok [] [] 2 (by exact trivial) (by kernel_rfl) ?_
          obtain ⟨v9, hv10, h⟩ := bindS h
          refine qA_E (dd := some 29) (x := .fptr (Enc.cells v9) 0) ([]) (⟨54, [(29, .fptr (Enc.cells v9) 0), (28, I x3), (27, A a1), (0, A a0), (1, A a1), (5, I x3)], []⟩) (fun Γ' hΓ => CoreE.of_y (idxV_sound τ_ok (by kernel_rfl) hv10)) (by kernel_rfl) (by kernel_rfl) (by exact trivial) (.inr (.inr rfl)) (by kernel_rfl) ?_
          refine qA_ev (st' := ⟨54, [(33, I x3), (32, A a0), (31, I v9.fKind), (30, .fptr (Enc.cells v9) 0), (29, .fptr (Enc.cells v9) 0), (28, I x3), (27, A a1), (0, A a0), (1, A a1), (5, I x3)], []⟩) τ_ok [] [] 4 (by exact trivial) (by kernel_rfl) ?_
          obtain ⟨v11, hv12, h⟩ := bindS h
          refine qA_E (dd := some 34) (x := .fptr (Enc.cells v11) 0) ([]) (⟨54, [(34, .fptr (Enc.cells v11) 0), (33, I x3), (32, A a0), (31, I v9.fKind), (30, .fptr (Enc.cells v9) 0), (29, .fptr (Enc.cells v9) 0), (28, I x3), (27, A a1), (0, A a0), (1, A a1), (5, I x3)], []⟩) (fun Γ' hΓ => CoreE.of_y (idxV_sound τ_ok (by kernel_rfl) hv12)) (by kernel_rfl) (by kernel_rfl) (by exact trivial) (.inr (.inr rfl)) (by kernel_rfl) ?_
          refine qA_ev (st' := ⟨54, [(38, B ((!(v9.fKind == v11.fKind)))), (37, B ((!(v9.fKind == v11.fKind)))), (36, I v11.fKind), (35, .fptr (Enc.cells v11) 0), (34, .fptr (Enc.cells v11) 0), (33, I x3), (32, A a0), (31, I v9.fKind), (30, .fptr (Enc.cells v9) 0), (29, .fptr (Enc.cells v9) 0), (28, I x3), (27, A a1), (0, A a0), (1, A a1), (5, I x3)], []⟩) τ_ok [] [] 4 (by exact trivial) (by kernel_rfl) ?_
          rcases Bool.eq_false_or_eq_true ((!(v9.fKind == v11.fKind))) with hc18 | hc18
          · replace h := bifT hc18 h
            rw [hc18]
            refine qA_ev (st' := ⟨54, [(40, I x3), (39, A a1), (38, B true), (37, B true), (36, I v11.fKind), (35, .fptr (Enc.cells v11) 0), (34, .fptr (Enc.cells v11) 0), (33, I x3), (32, A a0), (31, I v9.fKind), (30, .fptr (Enc.cells v9) 0), (29, .fptr (Enc.cells v9) 0), (28, I x3), (27, A a1), (0, A a0), (1, A a1), (5, I x3)], []⟩) τ_ok [] [] 2 (by exact trivial) (by kernel_rfl) ?_
            obtain ⟨v13, hv14, h⟩ := bindS h
            refine qA_E (dd := some 41) (x := .fptr (Enc.cells v13) 0) ([]) (⟨54, [(41, .fptr (Enc.cells v13) 0), (40, I x3), (39, A a1), (38, B true), (37, B true), (36, I v11.fKind), (35, .fptr (Enc.cells v11) 0), (34, .fptr (Enc.cells v11) 0), (33, I x3), (32, A a0), (31, I v9.fKind), (30, .fptr (Enc.cells v9) 0), (29, .fptr (Enc.cells v9) 0), (28, I x3), (27, A a1), (0, A a0), (1, A a1), (5, I x3)], []⟩) (fun Γ' hΓ => CoreE.of_y (idxV_sound τ_ok (by kernel_rfl) hv14)) (by kernel_rfl) (by kernel_rfl) (by exact trivial) (.inr (.inr rfl)) (by kernel_rfl) ?_
            refine qA_ev (st' := ⟨54, [(45, B ((!(v13.fKind == 0)))), (44, B ((!(v13.fKind == 0)))), (43, I v13.fKind), (42, .fptr (Enc.cells v13) 0), (41, .fptr (Enc.cells v13) 0), (40, I x3), (39, A a1), (38, B true), (37, B true), (36, I v11.fKind), (35, .fptr (Enc.cells v11) 0), (34, .fptr (Enc.cells v11) 0), (33, I x3), (32, A a0), (31, I v9.fKind), (30, .fptr (Enc.cells v9) 0), (29, .fptr (Enc.cells v9) 0), (28, I x3), (27, A a1), (0, A a0), (1, A a1), (5, I x3)], []⟩) τ_ok [] [] 4 (by exact trivial) (by kernel_rfl) ?_
            rcases Bool.eq_false_or_eq_true ((!(v13.fKind == 0))) with hc17 | hc17
            · replace h := bifT hc17 h
              rw [hc17]
              refine qA_ev (st' := ⟨54, [(53, B true), (52, B true), (51, .lit undef), (50, .lit undef), (49, .lit undef), (48, .lit undef), (47, .lit undef), (46, .lit undef), (45, B true), (44, B true), (43, I v13.fKind), (42, .fptr (Enc.cells v13) 0), (41, .fptr (Enc.cells v13) 0), (40, I x3), (39, A a1), (38, B true), (37, B true), (36, I v11.fKind), (35, .fptr (Enc.cells v11) 0), (34, .fptr (Enc.cells v11) 0), (33, I x3), (32, A a0), (31, I v9.fKind), (30, .fptr (Enc.cells v9) 0), (29, .fptr (Enc.cells v9) 0), (28, I x3), (27, A a1), (0, A a0), (1, A a1), (5, I x3)], []⟩) τ_ok [] [] 8 (by exact trivial) (by kernel_rfl) ?_
              refine qA_end ?_
              refine opsP_imp (Imp.to (st' := ⟨54, [(0, A a0), (1, A a1), (5, I x3), (39, A a1), (40, I x3), (41, .fptr (Enc.cells v13) 0), (42, .fptr (Enc.cells v13) 0), (43, I v13.fKind), (44, B true), (45, B true), (46, .lit undef), (47, .lit undef), (48, .lit undef), (49, .lit undef), (50, .lit undef), (51, .lit undef), (52, B true), (53, B true)], []⟩) [0, 1, 5, 39, 40, 41, 42, 43, 44, 45, 46, 47, 48, 49, 50, 51, 52, 53] (by kernel_rfl)) ?_
              refine opsP_end rfl ?_
              exact ⟨true, h, (Imp.to (st' := ⟨54, [(0, A a0), (1, A a1), (5, I x3), (53, B true)], []⟩) [0, 1, 5, 53] (by kernel_rfl)).trans (Imp.to [0, 1, 5, 53] (by kernel_rfl))⟩
            · replace h := bifF hc17 h
              rw [hc17]
              refine qA_ev (st' := ⟨54, [(47, I x3), (46, A a0), (45, B false), (44, B false), (43, I v13.fKind), (42, .fptr (Enc.cells v13) 0), (41, .fptr (Enc.cells v13) 0), (40, I x3), (39, A a1), (38, B true), (37, B true), (36, I v11.fKind), (35, .fptr (Enc.cells v11) 0), (34, .fptr (Enc.cells v11) 0), (33, I x3), (32, A a0), (31, I v9.fKind), (30, .fptr (Enc.cells v9) 0), (29, .fptr (Enc.cells v9) 0), (28, I x3), (27, A a1), (0, A a0), (1, A a1), (5, I x3)], []⟩) τ_ok [] [] 2 (by exact trivial) (by kernel_rfl) ?_
              obtain ⟨v15, hv16, h⟩ := bindS h
              refine qA_E (dd := some 48) (x := .fptr (Enc.cells v15) 0) ([]) (⟨54, [(48, .fptr (Enc.cells v15) 0), (47, I x3), (46, A a0), (45, B false), (44, B false), (43, I v13.fKind), (42, .fptr (Enc.cells v13) 0), (41, .fptr (Enc.cells v13) 0), (40, I x3), (39, A a1), (38, B true), (37, B true), (36, I v11.fKind), (35, .fptr (Enc.cells v11) 0), (34, .fptr (Enc.cells v11) 0), (33, I x3), (32, A a0), (31, I v9.fKind), (30, .fptr (Enc.cells v9) 0), (29, .fptr (Enc.cells v9) 0), (28, I x3), (27, A a1), (0, A a0), (1, A a1), (5, I x3)], []⟩) (fun Γ' hΓ => CoreE.of_y (idxV_sound τ_ok (by kernel_rfl) hv16)) (by kernel_rfl) (by kernel_rfl) (by exact trivial) (.inr (.inr rfl)) (by kernel_rfl) ?_
              refine qA_ev (st' := ⟨54, [(53, B ((!v15.fEmpty))), (52, B ((!v15.fEmpty))), (51, B ((!v15.fEmpty))), (50, B v15.fEmpty), (49, .fptr (Enc.cells v15) 1), (48, .fptr (Enc.cells v15) 0), (47, I x3), (46, A a0), (45, B false), (44, B false), (43, I v13.fKind), (42, .fptr (Enc.cells v13) 0), (41, .fptr (Enc.cells v13) 0), (40, I x3), (39, A a1), (38, B true), (37, B true), (36, I v11.fKind), (35, .fptr (Enc.cells v11) 0), (34, .fptr (Enc.cells v11) 0), (33, I x3), (32, A a0), (31, I v9.fKind), (30, .fptr (Enc.cells v9) 0), (29, .fptr (Enc.cells v9) 0), (28, I x3), (27, A a1), (0, A a0), (1, A a1), (5, I x3)], []⟩) τ_ok [] [] 5 (by exact trivial) (by kernel_rfl) ?_
              refine qA_end ?_
              refine opsP_imp (Imp.to (st' := ⟨54, [(0, A a0), (1, A a1), (5, I x3), (39, A a1), (40, I x3), (41, .fptr (Enc.cells v13) 0), (42, .fptr (Enc.cells v13) 0), (43, I v13.fKind), (44, B false), (45, B false), (46, A a0), (47, I x3), (48, .fptr (Enc.cells v15) 0), (49, .fptr (Enc.cells v15) 1), (50, B v15.fEmpty), (51, B ((!v15.fEmpty))), (52, B ((!v15.fEmpty))), (53, B ((!v15.fEmpty)))], []⟩) [0, 1, 5, 39, 40, 41, 42, 43, 44, 45, 46, 47, 48, 49, 50, 51, 52, 53] (by kernel_rfl)) ?_
              refine opsP_end rfl ?_
              exact ⟨(!v15.fEmpty), h, (Imp.to (st' := ⟨54, [(0, A a0), (1, A a1), (5, I x3), (53, B ((!v15.fEmpty)))], []⟩) [0, 1, 5, 53] (by kernel_rfl)).trans (Imp.to [0, 1, 5, 53] (by kernel_rfl))⟩
          · replace h := bifF hc18 h
            rw [hc18]
            refine qA_ev (st' := ⟨54, [(53, B false), (52, .lit undef), (51, .lit undef), (50, .lit undef), (49, .lit undef), (48, .lit undef), (47, .lit undef), (46, .lit undef), (45, .lit undef), (44, .lit undef), (43, .lit undef), (42, .lit undef), (41, .lit undef), (40, .lit undef), (39, .lit undef), (38, B false), (37, B false), (36, I v11.fKind), (35, .fptr (Enc.cells v11) 0), (34, .fptr (Enc.cells v11) 0), (33, I x3), (32, A a0), (31, I v9.fKind), (30, .fptr (Enc.cells v9) 0), (29, .fptr (Enc.cells v9) 0), (28, I x3), (27, A a1), (0, A a0), (1, A a1), (5, I x3)], []⟩) τ_ok [] [] 15 (by exact trivial) (by kernel_rfl) ?_
            refine qA_end ?_
            refine opsP_imp (Imp.to (st' := ⟨54, [(0, A a0), (1, A a1), (5, I x3), (39, .lit undef), (40, .lit undef), (41, .lit undef), (42, .lit undef), (43, .lit undef), (44, .lit undef), (45, .lit undef), (46, .lit undef), (47, .lit undef), (48, .lit undef), (49, .lit undef), (50, .lit undef), (51, .lit undef), (52, .lit undef), (53, B false)], []⟩) [0, 1, 5, 39, 40, 41, 42, 43, 44, 45, 46, 47, 48, 49, 50, 51, 52, 53] (by kernel_rfl)) ?_
            refine opsP_end rfl ?_
            exact ⟨false, h, (Imp.to (st' := ⟨54, [(0, A a0), (1, A a1), (5, I x3), (53, B false)], []⟩) [0, 1, 5, 53] (by kernel_rfl)).trans (Imp.to [0, 1, 5, 53] (by kernel_rfl))⟩
        · rintro x7 h
          skip
          unfold spec_RowFits_j2 at h
          refine pwp_cond x7 (by kernel_rfl) (fun hc8 => ?_) (fun hc8 => ?_)
          · replace h := bifT hc8 h
            refine pwp_seq ?_
            refine pwp_region ?_
            refine opsP_evk' (st' := ⟨54, [(4, B false)], []⟩) τ_ok [] 1 [4] (by kernel_rfl) ?_
            refine opsP_end rfl ?_
            have h := Option.some.inj h
            subst h
            exact pwp_ret ⟨.inr rfl, B false, _, by kernel_rfl, (OutP.frz (by kernel_rfl)), by decide⟩
          · replace h := bifF hc8 h
            refine pwp_skip ?_
            refine pwp_region ?_
            refine opsP_evk' (st' := ⟨54, [(0, A a0), (1, A a1), (5, I ((w64 (x3 + 1))))], []⟩) τ_ok [] 3 [0, 1, 5] (by kernel_rfl) ?_
            refine opsP_end rfl ?_
            exact ⟨(f4, (w64 (x3 + 1))), h, Nat.lt_succ_self _, (Imp.to (st' := ⟨54, [(0, A a0), (1, A a1), (5, I ((w64 (x3 + 1))))], []⟩) [0, 1, 5] (by kernel_rfl)).trans (Imp.to [0, 1, 5] (by kernel_rfl))⟩
      · replace h := bifF hc6 h
        refine pwp_exit ?_
        refine pwp_seq ?_
        refine pwp_region ?_
        refine opsP_evk' (st' := ⟨54, [(4, B true)], []⟩) τ_ok [] 1 [4] (by kernel_rfl) ?_
        refine opsP_end rfl ?_
        have h := Option.some.inj h
        subst h
        exact pwp_ret ⟨.inr rfl, B true, _, by kernel_rfl, (OutP.frz (by kernel_rfl)), by decide⟩

/- loop.example/tablehouse/impl.RowFits -/
def impl_RowFits_j2 (x3 : Int) (K5 : Int → Option Bool) (x9 : Bool) : Option Bool := bif x9 then some false else K5 ((w64 (x3 + 1)))
def impl_RowFits_l1 (a0 : List T_impl_Column) (a1 : List T_impl_Value) : Nat → Int → Option Bool
  | 0, _ => none
  | f4 + 1, x3 => bif (decide (x3 < ((a1.length : Int)))) then (getI a1 x3).bind fun v7 => (getI a0 x3).bind fun v11 => bif (!(v7.fKind == v11.fKind)) then bif (!(v7.fKind == 0)) then impl_RowFits_j2 x3 (impl_RowFits_l1 a0 a1 f4) true else (getI a0 x3).bind fun v13 => impl_RowFits_j2 x3 (impl_RowFits_l1 a0 a1 f4) ((!v13.fEmpty)) else impl_RowFits_j2 x3 (impl_RowFits_l1 a0 a1 f4) false else some true
def impl_RowFits_j0 (a0 : List T_impl_Column) (a1 : List T_impl_Value) (x1 : Bool) : Option Bool := bif x1 then some false else impl_RowFits_l1 a0 a1 FUEL 0
def impl_RowFits (a0 : List T_impl_Column) (a1 : List T_impl_Value) : Option Bool := (impl_ColumnsOk a0).bind fun v17 => bif (!v17) then impl_RowFits_j0 a0 a1 true else (impl_RowOk a1).bind fun v19 => bif (!v19) then impl_RowFits_j0 a0 a1 true else impl_RowFits_j0 a0 a1 ((!(((a1.length : Int)) == ((a0.length : Int)))))
theorem ok_impl_RowFits {a0 : List T_impl_Column} {a1 : List T_impl_Value} {y : Bool} (h : impl_RowFits a0 a1 = some y) : OK Try.prog 97 [A a0, A a1] (B y) := by
  refine OK_of_pwp τ_ok Try.func97 rfl (by kernel_rfl) rfl fun Γ hX => ?_
  unfold impl_RowFits at h
  refine pwp_seq ?_
  refine pwp_region ?_
  refine opsP_evk' (st' := ⟨51, [(0, A a0), (1, A a1)], []⟩) τ_ok [6] 1 [0, 1] (by kernel_rfl) ?_
  refine opsP_end rfl ?_
  refine pwp_seq ?_
  refine pwp_seq ?_
  refine pwp_join (σ := Bool) (fun x1 => (⟨51, [(0, A a0), (1, A a1), (21, B x1)], []⟩ : St)) (fun x1 => impl_RowFits_j0 a0 a1 x1 = some y) ?_ ?_
  · refine pwp_region ?_
    refine opsP_evk' (st' := ⟨51, [(0, A a0), (1, A a1), (7, A a0)], []⟩) τ_ok [6] 1 [0, 1, 7] (by kernel_rfl) ?_
    obtain ⟨v17, hv18, h⟩ := bindS h
    refine opsP_callF τ 8 (ok_impl_ColumnsOk hv18) (FzTo.frz rfl) rfl (by kernel_rfl) ?_
    refine opsP_evk' (st' := ⟨51, [(0, A a0), (1, A a1), (10, B ((!v17)))], []⟩) τ_ok [6] 2 [0, 1, 10] (by kernel_rfl) ?_
    rcases Bool.eq_false_or_eq_true ((!v17)) with hc22 | hc22
    · replace h := bifT hc22 h
      rw [hc22]
      refine opsP_evk' (st' := ⟨51, [(0, A a0), (1, A a1), (21, B true)], []⟩) τ_ok [6] 11 [0, 1, 21] (by kernel_rfl) ?_
      refine opsP_end rfl ?_
      exact ⟨true, h, (Imp.to (st' := ⟨51, [(0, A a0), (1, A a1), (21, B true)], []⟩) [0, 1, 21] (by kernel_rfl)).trans (Imp.to [0, 1, 21] (by kernel_rfl))⟩
    · replace h := bifF hc22 h
      rw [hc22]
      refine opsP_evk' (st' := ⟨51, [(0, A a0), (1, A a1), (10, B false), (11, A a1)], []⟩) τ_ok [6] 1 [0, 1, 10, 11] (by kernel_rfl) ?_
      obtain ⟨v19, hv20, h⟩ := bindS h
      refine opsP_callF τ 12 (ok_impl_RowOk hv20) (FzTo.frz rfl) rfl (by kernel_rfl) ?_
      refine opsP_evk' (st' := ⟨51, [(0, A a0), (1, A a1), (15, B ((!v19)))], []⟩) τ_ok [6] 3 [0, 1, 15] (by kernel_rfl) ?_
      rcases Bool.eq_false_or_eq_true ((!v19)) with hc21 | hc21
      · replace h := bifT hc21 h
        rw [hc21]
        refine opsP_evk' (st' := ⟨51, [(0, A a0), (1, A a1), (21, B true)], []⟩) τ_ok [6] 6 [0, 1, 21] (by kernel_rfl) ?_
        refine opsP_end rfl ?_
        exact ⟨true, h, (Imp.to (st' := ⟨51, [(0, A a0), (1, A a1), (21, B true)], []⟩) [0, 1, 21] (by kernel_rfl)).trans (Imp.to [0, 1, 21] (by kernel_rfl))⟩
      · replace h := bifF hc21 h
        rw [hc21]
        refine opsP_evk' (st' := ⟨51, [(0, A a0), (1, A a1), (21, B ((!(((a1.length : Int)) == ((a0.length : Int))))))], []⟩) τ_ok [6] 6 [0, 1, 21] (by kernel_rfl) ?_
        refine opsP_end rfl ?_
        exact ⟨(!(((a1.length : Int)) == ((a0.length : Int)))), h, (Imp.to (st' := ⟨51, [(0, A a0), (1, A a1), (21, B ((!(((a1.length : Int)) == ((a0.length : Int))))))], []⟩) [0, 1, 21] (by kernel_rfl)).trans (Imp.to [0, 1, 21] (by kernel_rfl))⟩
  · rintro x1 h
    skip
    unfold impl_RowFits_j0 at h
    refine pwp_cond x1 (by kernel_rfl) (fun hc2 => ?_) (fun hc2 => ?_)
    · replace h := bifT hc2 h
      refine pwp_seq ?_
      refine pwp_region ?_
      refine opsP_evk' (st' := ⟨51, [(4, B false)], []⟩) τ_ok [6] 1 [4] (by kernel_rfl) ?_
      refine opsP_end rfl ?_
      have h := Option.some.inj h
      subst h
      exact pwp_ret ⟨.inr rfl, B false, _, by kernel_rfl, (OutP.frz (by kernel_rfl)), by decide⟩
    · replace h := bifF hc2 h
      refine pwp_skip ?_
      refine pwp_seq ?_
      refine pwp_seq ?_
      refine pwp_region ?_
      refine opsP_evk' (st' := ⟨51, [(0, A a0), (22, A a1), (23, I ((a1.length : Int))), (24, I 0)], []⟩) τ_ok [6] 3 [0, 22, 23, 24] (by kernel_rfl) ?_
      refine opsP_end rfl ?_
      refine pwp_block ?_
      refine pwp_loop (ι := Nat × Int) (fun (f4, x3) => (⟨51, [(0, A a0), (22, A a1), (23, I ((a1.length : Int))), (24, I x3)], []⟩ : St)) (fun (f4, x3) => impl_RowFits_l1 a0 a1 f4 x3 = some y) (fun (f4, x3) => f4) (FUEL, 0) h ((Imp.to (st' := ⟨51, [(0, A a0), (22, A a1), (23, I ((a1.length : Int))), (24, I 0)], []⟩) [0, 22, 23, 24] (by kernel_rfl)).trans (Imp.to [0, 22, 23, 24] (by kernel_rfl))) ?_
      rintro ⟨f4, x3⟩ h
      dsimp only at h ⊢
      cases f4 with
      | zero => cases h
      | succ f4 =>
      rw [impl_RowFits_l1] at h
      refine pwp_seq ?_
      refine pwp_region ?_
      refine opsP_evk' (st' := ⟨51, [(0, A a0), (22, A a1), (23, I ((a1.length : Int))), (24, I x3), (25, B ((decide (x3 < ((a1.length : Int))))))], []⟩) τ_ok [6] 1 [0, 22, 23, 24, 25] (by kernel_rfl) ?_
      refine opsP_end rfl ?_
      refine pwp_seq ?_
      refine pwp_cond ((decide (x3 < ((a1.length : Int))))) (by kernel_rfl) (fun hc6 => ?_) (fun hc6 => ?_)
      · replace h := bifT hc6 h
        refine pwp_skip ?_
        refine pwp_seq ?_
        refine pwp_block ?_
        refine pwp_seq ?_
        refine pwp_region ?_
        refine opsP_evk' (st' := ⟨51, [(0, A a0), (22, A a1), (23, I ((a1.length : Int))), (24, I x3), (26, I x3)], []⟩) τ_ok [6] 1 [0, 22, 23, 24, 26] (by kernel_rfl) ?_
        obtain ⟨v7, hv8, h⟩ := bindS h
        refine opsP_idx τ_ok 27 hv8 (by kernel_rfl) ?_
        refine opsP_evk' (st' := ⟨51, [(0, A a0), (5, I x3), (6, .ptr 0 0 0), (22, A a1), (23, I ((a1.length : Int))), (24, I x3)], [some ⟨0, Enc.cells v7⟩]⟩) τ_ok [6] 4 [0, 5, 6, 22, 23, 24] (by kernel_rfl) ?_
        refine opsP_end rfl ?_
        refine pwp_seq ?_
        refine pwp_join (σ := Bool) (fun x9 => (⟨51, [(0, A a0), (22, A a1), (23, I ((a1.length : Int))), (24, I x3), (49, B x9)], [some ⟨0, Enc.cells v7⟩]⟩ : St)) (fun x9 => impl_RowFits_j2 x3 (impl_RowFits_l1 a0 a1 f4) x9 = some y) ?_ ?_
        · refine pwp_imp (Imp.to (st' := ⟨51, [(0, A a0), (5, I x3), (6, .ptr 0 0 0), (22, A a1), (23, I ((a1.length : Int))), (24, I x3)], [some ⟨0, Enc.cells v7⟩]⟩) [0, 5, 6, 22, 23, 24] (by kernel_rfl)) ?_
          refine pwp_any ([[0], [0], [], [], [], [], [], [], [], [0], [0], [], [], [], [], [], [], [], [], [], []]) ([[], [], [], [], [], [], [], [], [], [], [], [], [], [], [], [], [], [], [], [], []]) rfl (by kernel_rfl) ?_
          refine qA_ev (st' := ⟨51, [(30, I v7.fKind), (29, .ptr 0 0 0), (0, A a0), (5, I x3), (6, .ptr 0 0 0), (22, A a1), (23, I ((a1.length : Int))), (24, I x3)], [some ⟨0, Enc.cells v7⟩]⟩) τ_ok [6] [0] 2 (by exact (And.intro (.inl (Enc.frz _)) trivial)) (by kernel_rfl) ?_
          refine qA_ev (st' := ⟨51, [(32, I x3), (31, A a0), (30, I v7.fKind), (29, .ptr 0 0 0), (0, A a0), (5, I x3), (6, .ptr 0 0 0), (22, A a1), (23, I ((a1.length : Int))), (24, I x3)], [some ⟨0, Enc.cells v7⟩]⟩) τ_ok [6] [] 2 (by exact trivial) (by kernel_rfl) ?_
          obtain ⟨v11, hv12, h⟩ := bindS h
          refine qA_E (dd := some 33) (x := .fptr (Enc.cells v11) 0) ([none]) (⟨51, [(33, .fptr (Enc.cells v11) 0), (32, I x3), (31, A a0), (30, I v7.fKind), (29, .ptr 0 0 0), (0, A a0), (5, I x3), (6, .ptr 0 0 0), (22, A a1), (23, I ((a1.length : Int))), (24, I x3)], [some ⟨0, Enc.cells v7⟩]⟩) (fun Γ' hΓ => CoreE.of_y (idxV_sound τ_ok (by kernel_rfl) hv12)) (by kernel_rfl) (by kernel_rfl) (by exact trivial) (.inr (.inr rfl)) (by kernel_rfl) ?_
          refine qA_ev (st' := ⟨51, [(37, B ((!(v7.fKind == v11.fKind)))), (36, B ((!(v7.fKind == v11.fKind)))), (35, I v11.fKind), (34, .fptr (Enc.cells v11) 0), (33, .fptr (Enc.cells v11) 0), (32, I x3), (31, A a0), (30, I v7.fKind), (29, .ptr 0 0 0), (0, A a0), (5, I x3), (6, .ptr 0 0 0), (22, A a1), (23, I ((a1.length : Int))), (24, I x3)], [some ⟨0, Enc.cells v7⟩]⟩) τ_ok [6] [] 4 (by exact trivial) (by kernel_rfl) ?_
          rcases Bool.eq_false_or_eq_true ((!(v7.fKind == v11.fKind))) with hc16 | hc16
          · replace h := bifT hc16 h
            rw [hc16]
            refine qA_ev (st' := ⟨51, [(39, I v7.fKind), (38, .ptr 0 0 0), (37, B true), (36, B true), (35, I v11.fKind), (34, .fptr (Enc.cells v11) 0), (33, .fptr (Enc.cells v11) 0), (32, I x3), (31, A a0), (30, I v7.fKind), (29, .ptr 0 0 0), (0, A a0), (5, I x3), (6, .ptr 0 0 0), (22, A a1), (23, I ((a1.length : Int))), (24, I x3)], [some ⟨0, Enc.cells v7⟩]⟩) τ_ok [6] [0] 2 (by exact (And.intro (.inl (Enc.frz _)) trivial)) (by kernel_rfl) ?_
            refine qA_ev (st' := ⟨51, [(41, B ((!(v7.fKind == 0)))), (40, B ((!(v7.fKind == 0)))), (39, I v7.fKind), (38, .ptr 0 0 0), (37, B true), (36, B true), (35, I v11.fKind), (34, .fptr (Enc.cells v11) 0), (33, .fptr (Enc.cells v11) 0), (32, I x3), (31, A a0), (30, I v7.fKind), (29, .ptr 0 0 0), (0, A a0), (5, I x3), (6, .ptr 0 0 0), (22, A a1), (23, I ((a1.length : Int))), (24, I x3)], [some ⟨0, Enc.cells v7⟩]⟩) τ_ok [6] [] 2 (by exact trivial) (by kernel_rfl) ?_
            rcases Bool.eq_false_or_eq_true ((!(v7.fKind == 0))) with hc15 | hc15
            · replace h := bifT hc15 h
              rw [hc15]
              refine qA_ev (st' := ⟨51, [(49, B true), (48, B true), (47, .lit undef), (46, .lit undef), (45, .lit undef), (44, .lit undef), (43, .lit undef), (42, .lit undef), (41, B true), (40, B true), (39, I v7.fKind), (38, .ptr 0 0 0), (37, B true), (36, B true), (35, I v11.fKind), (34, .fptr (Enc.cells v11) 0), (33, .fptr (Enc.cells v11) 0), (32, I x3), (31, A a0), (30, I v7.fKind), (29, .ptr 0 0 0), (0, A a0), (5, I x3), (6, .ptr 0 0 0), (22, A a1), (23, I ((a1.length : Int))), (24, I x3)], [some ⟨0, Enc.cells v7⟩]⟩) τ_ok [6] [] 8 (by exact trivial) (by kernel_rfl) ?_
              refine qA_end ?_
              refine opsP_imp (Imp.to (st' := ⟨51, [(0, A a0), (22, A a1), (23, I ((a1.length : Int))), (24, I x3), (38, .ptr 0 0 0), (39, I v7.fKind), (40, B true), (41, B true), (42, .lit undef), (43, .lit undef), (44, .lit undef), (45, .lit undef), (46, .lit undef), (47, .lit undef), (48, B true), (49, B true)], [some ⟨0, Enc.cells v7⟩]⟩) [0, 22, 23, 24, 38, 39, 40, 41, 42, 43, 44, 45, 46, 47, 48, 49] (by kernel_rfl)) ?_
              refine opsP_end rfl ?_
              exact ⟨true, h, (Imp.to (st' := ⟨51, [(0, A a0), (22, A a1), (23, I ((a1.length : Int))), (24, I x3), (49, B true)], [some ⟨0, Enc.cells v7⟩]⟩) [0, 22, 23, 24, 49] (by kernel_rfl)).trans (Imp.to [0, 22, 23, 24, 49] (by kernel_rfl))⟩
            · replace h := bifF hc15 h
              rw [hc15]
              refine qA_ev (st' := ⟨51, [(43, I x3), (42, A a0), (41, B false), (40, B false), (39, I v7.fKind), (38, .ptr 0 0 0), (37, B true), (36, B true), (35, I v11.fKind), (34, .fptr (Enc.cells v11) 0), (33, .fptr (Enc.cells v11) 0), (32, I x3), (31, A a0), (30, I v7.fKind), (29, .ptr 0 0 0), (0, A a0), (5, I x3), (6, .ptr 0 0 0), (22, A a1), (23, I ((a1.length : Int))), (24, I x3)], [some ⟨0, Enc.cells v7⟩]⟩) τ_ok [6] [] 2 (by exact trivial) (by kernel_rfl) ?_
              obtain ⟨v13, hv14, h⟩ := bindS h
              refine qA_E (dd := some 44) (x := .fptr (Enc.cells v13) 0) ([none]) (⟨51, [(44, .fptr (Enc.cells v13) 0), (43, I x3), (42, A a0), (41, B false), (40, B false), (39, I v7.fKind), (38, .ptr 0 0 0), (37, B true), (36, B true), (35, I v11.fKind), (34, .fptr (Enc.cells v11) 0), (33, .fptr (Enc.cells v11) 0), (32, I x3), (31, A a0), (30, I v7.fKind), (29, .ptr 0 0 0), (0, A a0), (5, I x3), (6, .ptr 0 0 0), (22, A a1), (23, I ((a1.length : Int))), (24, I x3)], [some ⟨0, Enc.cells v7⟩]⟩) (fun Γ' hΓ => CoreE.of_y (idxV_sound τ_ok (by kernel_rfl) hv14)) (by kernel_rfl) (by kernel_rfl) (by exact trivial) (.inr (.inr rfl)) (by kernel_rfl) ?_
              refine qA_ev (st' := ⟨51, [(49, B ((!v13.fEmpty))), (48, B ((!v13.fEmpty))), (47, B ((!v13.fEmpty))), (46, B v13.fEmpty), (45, .fptr (Enc.cells v13) 1), (44, .fptr (Enc.cells v13) 0), (43, I x3), (42, A a0), (41, B false), (40, B false), (39, I v7.fKind), (38, .ptr 0 0 0), (37, B true), (36, B true), (35, I v11.fKind), (34, .fptr (Enc.cells v11) 0), (33, .fptr (Enc.cells v11) 0), (32, I x3), (31, A a0), (30, I v7.fKind), (29, .ptr 0 0 0), (0, A a0), (5, I x3), (6, .ptr 0 0 0), (22, A a1), (23, I ((a1.length : Int))), (24, I x3)], [some ⟨0, Enc.cells v7⟩]⟩) τ_ok [6] [] 5 (by exact trivial) (by kernel_rfl) ?_
              refine qA_end ?_
              refine opsP_imp (Imp.to (st' := ⟨51, [(0, A a0), (22, A a1), (23, I ((a1.length : Int))), (24, I x3), (38, .ptr 0 0 0), (39, I v7.fKind), (40, B false), (41, B false), (42, A a0), (43, I x3), (44, .fptr (Enc.cells v13) 0), (45, .fptr (Enc.cells v13) 1), (46, B v13.fEmpty), (47, B ((!v13.fEmpty))), (48, B ((!v13.fEmpty))), (49, B ((!v13.fEmpty)))], [some ⟨0, Enc.cells v7⟩]⟩) [0, 22, 23, 24, 38, 39, 40, 41, 42, 43, 44, 45, 46, 47, 48, 49] (by kernel_rfl)) ?_
              refine opsP_end rfl ?_
              exact ⟨(!v13.fEmpty), h, (Imp.to (st' := ⟨51, [(0, A a0), (22, A a1), (23, I ((a1.length : Int))), (24, I x3), (49, B ((!v13.fEmpty)))], [some ⟨0, Enc.cells v7⟩]⟩) [0, 22, 23, 24, 49] (by kernel_rfl)).trans (Imp.to [0, 22, 23, 24, 49] (by kernel_rfl))⟩
          · replace h := bifF hc16 h
            rw [hc16]
            refine qA_ev (st' := ⟨51, [(39, .lit undef), (38, .lit undef), (37, B false), (36, B false), (35, I v11.fKind), (34, .fptr (Enc.cells v11) 0), (33, .fptr (Enc.cells v11) 0), (32, I x3), (31, A a0), (30, I v7.fKind), (29, .ptr 0 0 0), (0, A a0), (5, I x3), (6, .ptr 0 0 0), (22, A a1), (23, I ((a1.length : Int))), (24, I x3)], [some ⟨0, Enc.cells v7⟩]⟩) τ_ok [6] [0] 2 (by exact (And.intro (.inl (Enc.frz _)) trivial)) (by kernel_rfl) ?_
            refine qA_ev (st' := ⟨51, [(49, B false), (48, .lit undef), (47, .lit undef), (46, .lit undef), (45, .lit undef), (44, .lit undef), (43, .lit undef), (42, .lit undef), (41, .lit undef), (40, .lit undef), (39, .lit undef), (38, .lit undef), (37, B false), (36, B false), (35, I v11.fKind), (34, .fptr (Enc.cells v11) 0), (33, .fptr (Enc.cells v11) 0), (32, I x3), (31, A a0), (30, I v7.fKind), (29, .ptr 0 0 0), (0, A a0), (5, I x3), (6, .ptr 0 0 0), (22, A a1), (23, I ((a1.length : Int))), (24, I x3)], [some ⟨0, Enc.cells v7⟩]⟩) τ_ok [6] [] 10 (by exact trivial) (by kernel_rfl) ?_
            refine qA_end ?_
            refine opsP_imp (Imp.to (st' := ⟨51, [(0, A a0), (22, A a1), (23, I ((a1.length : Int))), (24, I x3), (38, .lit undef), (39, .lit undef), (40, .lit undef), (41, .lit undef), (42, .lit undef), (43, .lit undef), (44, .lit undef), (45, .lit undef), (46, .lit undef), (47, .lit undef), (48, .lit undef), (49, B false)], [some ⟨0, Enc.cells v7⟩]⟩) [0, 22, 23, 24, 38, 39, 40, 41, 42, 43, 44, 45, 46, 47, 48, 49] (by kernel_rfl)) ?_
            refine opsP_end rfl ?_
            exact ⟨false, h, (Imp.to (st' := ⟨51, [(0, A a0), (22, A a1), (23, I ((a1.length : Int))), (24, I x3), (49, B false)], [some ⟨0, Enc.cells v7⟩]⟩) [0, 22, 23, 24, 49] (by kernel_rfl)).trans (Imp.to [0, 22, 23, 24, 49] (by kernel_rfl))⟩
        · rintro x9 h
          skip
          unfold impl_RowFits_j2 at h
          refine pwp_cond x9 (by kernel_rfl) (fun hc10 => ?_) (fun hc10 => ?_)
          · replace h := bifT hc10 h
            refine pwp_seq ?_
            refine pwp_region ?_
            refine opsP_evk' (st' := ⟨51, [(4, B false)], [some ⟨0, Enc.cells v7⟩]⟩) τ_ok [6] 1 [4] (by kernel_rfl) ?_
            refine opsP_end rfl ?_
            have h := Option.some.inj h
            subst h
            exact pwp_ret ⟨.inr rfl, B false, _, by kernel_rfl, (OutP.frz (by kernel_rfl)), by decide⟩
          · replace h := bifF hc10 h
            refine pwp_skip ?_
            refine pwp_region ?_
            refine opsP_evk' (st' := ⟨51, [(0, A a0), (22, A a1), (23, I ((a1.length : Int))), (24, I ((w64 (x3 + 1))))], [some ⟨0, Enc.cells v7⟩]⟩) τ_ok [6] 2 [0, 22, 23, 24] (by kernel_rfl) ?_
            refine opsP_end rfl ?_
            exact ⟨(f4, (w64 (x3 + 1))), h, Nat.lt_succ_self _, (Imp.to (st' := ⟨51, [(0, A a0), (22, A a1), (23, I ((a1.length : Int))), (24, I ((w64 (x3 + 1))))], [some ⟨0, Enc.cells v7⟩]⟩) [0, 22, 23, 24] (by kernel_rfl)).trans ((Imp.truncS (st' := ⟨51, [(0, A a0), (22, A a1), (23, I ((a1.length : Int))), (24, I ((w64 (x3 + 1))))], []⟩) 0 (fun b hb => absurd hb (hX b)) (by kernel_rfl) (allBelow_mem (by exact (And.intro rfl (And.intro rfl (And.intro rfl (And.intro rfl trivial)))))) (by exact trivial) (by kernel_rfl)).trans (Imp.to [0, 22, 23, 24] (by kernel_rfl)))⟩
      · replace h := bifF hc6 h
        refine pwp_exit ?_
        refine pwp_seq ?_
        refine pwp_region ?_
        refine opsP_evk' (st' := ⟨51, [(4, B true)], []⟩) τ_ok [6] 1 [4] (by kernel_rfl) ?_
        refine opsP_end rfl ?_
        have h := Option.some.inj h
        subst h
        exact pwp_ret ⟨.inr rfl, B true, _, by kernel_rfl, (OutP.frz (by kernel_rfl)), by decide⟩

/- (loop.example/tablehouse/impl.Part).kind -/
def impl_Part_kind (a0 : T_impl_Part) (a1 : List T_impl_Column) (a2 : List Int) : Option (Int × Bool) := bif (a0.fKind == 1) then some (a0.fV.fKind, true) else bif (a0.fKind == 2) then (getI a1 a0.fN).bind fun v3 => some (v3.fKind, true) else bif (a0.fKind == 3) then (impl_Part_kind_1 1 a2).bind fun v6 => some (1, v6) else bif (a0.fKind == 4) then (getI a2 0).bind fun v9 => (getI a2 1).bind fun v11 => some (3, (v9 == v11)) else bif (a0.fKind == 8) then some (3, true) else (impl_Part_kind_1 3 a2).bind fun v14 => some (3, v14)
theorem ok_impl_Part_kind {a0 : T_impl_Part} {a1 : List T_impl_Column} {a2 : List Int} {y : Int × Bool} (h : impl_Part_kind a0 a1 a2 = some y) : OK Try.prog 107 [E a0, A a1, A a2] (.tup [I y.1, B y.2]) := by
  refine OK_of_pwp τ_ok Try.func107 rfl (by kernel_rfl) rfl fun Γ hX => ?_
  unfold impl_Part_kind at h
  refine pwp_seq ?_
  refine pwp_region ?_
  refine opsP_evk' (st' := ⟨42, [(1, A a1), (3, .fptr (Enc.cells a0) 0), (5, .fptr (Enc.cells a2) 0)], []⟩) τ_ok [] 4 [1, 3, 5] (by kernel_rfl) ?_
  refine opsP_end rfl ?_
  refine pwp_seq ?_
  refine pwp_region ?_
  refine opsP_evk' (st' := ⟨42, [(1, A a1), (3, .fptr (Enc.cells a0) 0), (5, .fptr (Enc.cells a2) 0), (8, .fn 117 [.fptr (Enc.cells a2) 0])], []⟩) τ_ok [] 2 [1, 3, 5, 8] (by kernel_rfl) ?_
  refine opsP_end rfl ?_
  refine pwp_seq ?_
  refine pwp_seq ?_
  refine pwp_region ?_
  refine opsP_evk' (st' := ⟨42, [(1, A a1), (3, .fptr (Enc.cells a0) 0), (5, .fptr (Enc.cells a2) 0), (8, .fn 117 [.fptr (Enc.cells a2) 0]), (11, I a0.fKind)], []⟩) τ_ok [] 2 [1, 3, 5, 8, 11] (by kernel_rfl) ?_
  refine opsP_end rfl ?_
  refine pwp_block ?_
  refine pwp_seq ?_
  refine pwp_region ?_
  refine opsP_evk' (st' := ⟨42, [(1, A a1), (3, .fptr (Enc.cells a0) 0), (5, .fptr (Enc.cells a2) 0), (8, .fn 117 [.fptr (Enc.cells a2) 0]), (11, I a0.fKind), (12, B ((a0.fKind == 1)))], []⟩) τ_ok [] 2 [1, 3, 5, 8, 11, 12] (by kernel_rfl) ?_
  refine opsP_end rfl ?_
  refine pwp_cond ((a0.fKind == 1)) (by kernel_rfl) (fun hc1 => ?_) (fun hc1 => ?_)
  · replace h := bifT hc1 h
    refine pwp_seq ?_
    refine pwp_region ?_
    refine opsP_evk' (st' := ⟨42, [(6, I a0.fV.fKind), (7, B true)], []⟩) τ_ok [] 5 [6, 7] (by kernel_rfl) ?_
    refine opsP_end rfl ?_
    have h := Option.some.inj h
    subst h
    exact pwp_ret ⟨.inr rfl, .tup [I a0.fV.fKind, B true], _, by kernel_rfl, (OutP.tup (OutL.cons (OutP.frz (by kernel_rfl)) (OutL.cons (OutP.frz (by kernel_rfl)) (OutL.nil _)))), by decide⟩
  · replace h := bifF hc1 h
    refine pwp_seq ?_
    refine pwp_region ?_
    refine opsP_evk' (st' := ⟨42, [(1, A a1), (3, .fptr (Enc.cells a0) 0), (5, .fptr (Enc.cells a2) 0), (8, .fn 117 [.fptr (Enc.cells a2) 0]), (11, I a0.fKind), (17, B ((a0.fKind == 2)))], []⟩) τ_ok [] 2 [1, 3, 5, 8, 11, 17] (by kernel_rfl) ?_
    refine opsP_end rfl ?_
    refine pwp_cond ((a0.fKind == 2)) (by kernel_rfl) (fun hc2 => ?_) (fun hc2 => ?_)
    · replace h := bifT hc2 h
      refine pwp_seq ?_
      refine pwp_region ?_
      refine opsP_evk' (st' := ⟨42, [(19, A a1), (21, I a0.fN)], []⟩) τ_ok [] 3 [19, 21] (by kernel_rfl) ?_
      obtain ⟨v3, hv4, h⟩ := bindS h
      refine opsP_idx τ_ok 22 hv4 (by kernel_rfl) ?_
      refine opsP_evk' (st' := ⟨42, [(6, I v3.fKind), (7, B true)], []⟩) τ_ok [] 4 [6, 7] (by kernel_rfl) ?_
      refine opsP_end rfl ?_
      have h := Option.some.inj h
      subst h
      exact pwp_ret ⟨.inr rfl, .tup [I v3.fKind, B true], _, by kernel_rfl, (OutP.tup (OutL.cons (OutP.frz (by kernel_rfl)) (OutL.cons (OutP.frz (by kernel_rfl)) (OutL.nil _)))), by decide⟩
    · replace h := bifF hc2 h
      refine pwp_seq ?_
      refine pwp_region ?_
      refine opsP_evk' (st' := ⟨42, [(5, .fptr (Enc.cells a2) 0), (8, .fn 117 [.fptr (Enc.cells a2) 0]), (11, I a0.fKind), (25, B ((a0.fKind == 3)))], []⟩) τ_ok [] 2 [5, 8, 11, 25] (by kernel_rfl) ?_
      refine opsP_end rfl ?_
      refine pwp_cond ((a0.fKind == 3)) (by kernel_rfl) (fun hc5 => ?_) (fun hc5 => ?_)
      · replace h := bifT hc5 h
        refine pwp_seq ?_
        refine pwp_region ?_
        refine opsP_evk' (st' := ⟨42, [(27, .fn 117 [.fptr (Enc.cells a2) 0])], []⟩) τ_ok [] 1 [27] (by kernel_rfl) ?_
        obtain ⟨v6, hv7, h⟩ := bindS h
        refine opsP_callF τ 28 (ok_impl_Part_kind_1 hv7) (FzTo.frz rfl) rfl (by kernel_rfl) ?_
        refine opsP_evk' (st' := ⟨42, [(6, I 1), (7, B v6)], []⟩) τ_ok [] 2 [6, 7] (by kernel_rfl) ?_
        refine opsP_end rfl ?_
        have h := Option.some.inj h
        subst h
        exact pwp_ret ⟨.inr rfl, .tup [I 1, B v6], _, by kernel_rfl, (OutP.tup (OutL.cons (OutP.frz (by kernel_rfl)) (OutL.cons (OutP.frz (by kernel_rfl)) (OutL.nil _)))), by decide⟩
      · replace h := bifF hc5 h
        refine pwp_seq ?_
        refine pwp_region ?_
        refine opsP_evk' (st' := ⟨42, [(5, .fptr (Enc.cells a2) 0), (8, .fn 117 [.fptr (Enc.cells a2) 0]), (11, I a0.fKind), (29, B ((a0.fKind == 4)))], []⟩) τ_ok [] 2 [5, 8, 11, 29] (by kernel_rfl) ?_
        refine opsP_end rfl ?_
        refine pwp_cond ((a0.fKind == 4)) (by kernel_rfl) (fun hc8 => ?_) (fun hc8 => ?_)
        · replace h := bifT hc8 h
          refine pwp_seq ?_
          refine pwp_imp (Imp.to (st' := ⟨42, [(5, .fptr (Enc.cells a2) 0)], []⟩) [5] (by kernel_rfl)) ?_
          refine pwp_any ([[], [], [], [], [], [], [], [], []]) ([[], [], [], [], [], [], [], [], []]) rfl (by kernel_rfl) ?_
          refine qA_ev (st' := ⟨42, [(31, A a2), (5, .fptr (Enc.cells a2) 0)], []⟩) τ_ok [] [] 1 (by exact trivial) (by kernel_rfl) ?_
          obtain ⟨v9, hv10, h⟩ := bindS h
          refine qA_E (dd := some 32) (x := .fptr (Enc.cells v9) 0) ([]) (⟨42, [(32, .fptr (Enc.cells v9) 0), (31, A a2), (5, .fptr (Enc.cells a2) 0)], []⟩) (fun Γ' hΓ => CoreE.of_y (idxV_sound τ_ok (by kernel_rfl) hv10)) (by kernel_rfl) (by kernel_rfl) (by exact trivial) (.inr (.inr rfl)) (by kernel_rfl) ?_
          refine qA_ev (st' := ⟨42, [(34, A a2), (33, I v9), (32, .fptr (Enc.cells v9) 0), (31, A a2), (5, .fptr (Enc.cells a2) 0)], []⟩) τ_ok [] [] 2 (by exact trivial) (by kernel_rfl) ?_
          obtain ⟨v11, hv12, h⟩ := bindS h
          refine qA_E (dd := some 35) (x := .fptr (Enc.cells v11) 0) ([]) (⟨42, [(35, .fptr (Enc.cells v11) 0), (34, A a2), (33, I v9), (32, .fptr (Enc.cells v9) 0), (31, A a2), (5, .fptr (Enc.cells a2) 0)], []⟩) (fun Γ' hΓ => CoreE.of_y (idxV_sound τ_ok (by kernel_rfl) hv12)) (by kernel_rfl) (by kernel_rfl) (by exact trivial) (.inr (.inr rfl)) (by kernel_rfl) ?_
          refine qA_ev (st' := ⟨42, [(7, B ((v9 == v11))), (6, I 3), (37, B ((v9 == v11))), (36, I v11), (35, .fptr (Enc.cells v11) 0), (34, A a2), (33, I v9), (32, .fptr (Enc.cells v9) 0), (31, A a2), (5, .fptr (Enc.cells a2) 0)], []⟩) τ_ok [] [] 4 (by exact trivial) (by kernel_rfl) ?_
          refine qA_end ?_
          refine opsP_imp (Imp.to (st' := ⟨42, [(6, I 3), (7, B ((v9 == v11)))], []⟩) [6, 7] (by kernel_rfl)) ?_
          refine opsP_end rfl ?_
          have h := Option.some.inj h
          subst h
          exact pwp_ret ⟨.inr rfl, .tup [I 3, B ((v9 == v11))], _, by kernel_rfl, (OutP.tup (OutL.cons (OutP.frz (by kernel_rfl)) (OutL.cons (OutP.frz (by kernel_rfl)) (OutL.nil _)))), by decide⟩
        · replace h := bifF hc8 h
          refine pwp_seq ?_
          refine pwp_region ?_
          refine opsP_evk' (st' := ⟨42, [(8, .fn 117 [.fptr (Enc.cells a2) 0]), (38, B ((a0.fKind == 8)))], []⟩) τ_ok [] 2 [8, 38] (by kernel_rfl) ?_
          refine opsP_end rfl ?_
          refine pwp_cond ((a0.fKind == 8)) (by kernel_rfl) (fun hc13 => ?_) (fun hc13 => ?_)
          · replace h := bifT hc13 h
            refine pwp_seq ?_
            refine pwp_region ?_
            refine opsP_evk' (st' := ⟨42, [(6, I 3), (7, B true)], []⟩) τ_ok [] 2 [6, 7] (by kernel_rfl) ?_
            refine opsP_end rfl ?_
            have h := Option.some.inj h
            subst h
            exact pwp_ret ⟨.inr rfl, .tup [I 3, B true], _, by kernel_rfl, (OutP.tup (OutL.cons (OutP.frz (by kernel_rfl)) (OutL.cons (OutP.frz (by kernel_rfl)) (OutL.nil _)))), by decide⟩
          · replace h := bifF hc13 h
            refine pwp_skip ?_
            refine pwp_seq ?_
            refine pwp_region ?_
            refine opsP_evk' (st' := ⟨42, [(40, .fn 117 [.fptr (Enc.cells a2) 0])], []⟩) τ_ok [] 1 [40] (by kernel_rfl) ?_
            obtain ⟨v14, hv15, h⟩ := bindS h
            refine opsP_callF τ 41 (ok_impl_Part_kind_1 hv15) (FzTo.frz rfl) rfl (by kernel_rfl) ?_
            refine opsP_evk' (st' := ⟨42, [(6, I 3), (7, B v14)], []⟩) τ_ok [] 2 [6, 7] (by kernel_rfl) ?_
            refine opsP_end rfl ?_
            have h := Option.some.inj h
            subst h
            exact pwp_ret ⟨.inr rfl, .tup [I 3, B v14], _, by kernel_rfl, (OutP.tup (OutL.cons (OutP.frz (by kernel_rfl)) (OutL.cons (OutP.frz (by kernel_rfl)) (OutL.nil _)))), by decide⟩

/- loop.example/tablehouse/laws.szTableS -/
def laws_szTableS_l0 (a0 : List T_laws_Table) : Nat → Int → Int → Option Int
  | 0, _, _ => none
  | f4 + 1, x2, x3 => bif (decide (x3 < ((a0.length : Int)))) then (getI a0 x3).bind fun v7 => (laws_szTable v7 x2).bind fun v9 => bif (decide (v9 < 0)) then some (-1) else (laws_szTableS_l0 a0 f4) v9 ((w64 (x3 + 1))) else some x2
def laws_szTableS (a0 : List T_laws_Table) (a1 : Int) : Option Int := bif (decide (((w64 (a1 - ((a0.length : Int))))) < 0)) then some (-1) else laws_szTableS_l0 a0 FUEL ((w64 (a1 - ((a0.length : Int))))) 0
theorem ok_laws_szTableS {a0 : List T_laws_Table} {a1 : Int} {y : Int} (h : laws_szTableS a0 a1 = some y) : OK Try.prog 6 [A a0, I a1] (I y) := by
  refine OK_of_pwp τ_ok Try.func6 rfl (by kernel_rfl) rfl fun Γ hX => ?_
  unfold laws_szTableS at h
  refine pwp_seq ?_
  refine pwp_region ?_
  refine opsP_evk' (st' := ⟨27, [(0, A a0), (1, I a1)], []⟩) τ_ok [] 1 [0, 1] (by kernel_rfl) ?_
  refine opsP_end rfl ?_
  refine pwp_seq ?_
  refine pwp_region ?_
  refine opsP_evk' (st' := ⟨27, [(0, A a0), (1, I ((w64 (a1 - ((a0.length : Int))))))], []⟩) τ_ok [] 5 [0, 1] (by kernel_rfl) ?_
  refine opsP_end rfl ?_
  refine pwp_seq ?_
  refine pwp_seq ?_
  refine pwp_region ?_
  refine opsP_evk' (st' := ⟨27, [(0, A a0), (1, I ((w64 (a1 - ((a0.length : Int)))))), (11, B ((decide (((w64 (a1 - ((a0.length : Int))))) < 0))))], []⟩) τ_ok [] 2 [0, 1, 11] (by kernel_rfl) ?_
  refine opsP_end rfl ?_
  refine pwp_cond ((decide (((w64 (a1 - ((a0.length : Int))))) < 0))) (by kernel_rfl) (fun hc1 => ?_) (fun hc1 => ?_)
  · replace h := bifT hc1 h
    refine pwp_seq ?_
    refine pwp_region ?_
    refine opsP_evk' (st' := ⟨27, [(4, I (-1))], []⟩) τ_ok [] 1 [4] (by kernel_rfl) ?_
    refine opsP_end rfl ?_
    have h := Option.some.inj h
    subst h
    exact pwp_ret ⟨.inr rfl, I (-1), _, by kernel_rfl, (OutP.frz (by kernel_rfl)), by decide⟩
  · replace h := bifF hc1 h
    refine pwp_skip ?_
    refine pwp_seq ?_
    refine pwp_seq ?_
    refine pwp_region ?_
    refine opsP_evk' (st' := ⟨27, [(0, A a0), (1, I ((w64 (a1 - ((a0.length : Int)))))), (5, I 0)], []⟩) τ_ok [] 1 [0, 1, 5] (by kernel_rfl) ?_
    refine opsP_end rfl ?_
    refine pwp_block ?_
    refine pwp_loop (ι := Nat × Int × Int) (fun (f4, x2, x3) => (⟨27, [(0, A a0), (1, I x2), (5, I x3)], []⟩ : St)) (fun (f4, x2, x3) => laws_szTableS_l0 a0 f4 x2 x3 = some y) (fun (f4, x2, x3) => f4) (FUEL, (w64 (a1 - ((a0.length : Int)))), 0) h ((Imp.to (st' := ⟨27, [(0, A a0), (1, I ((w64 (a1 - ((a0.length : Int)))))), (5, I 0)], []⟩) [0, 1, 5] (by kernel_rfl)).trans (Imp.to [0, 1, 5] (by kernel_rfl))) ?_
    rintro ⟨f4, x2, x3⟩ h
    dsimp only at h ⊢
    cases f4 with
    | zero => cases h
    | succ f4 =>
    rw [laws_szTableS_l0] at h
    refine pwp_seq ?_
    refine pwp_seq ?_
    refine pwp_region ?_
    refine opsP_evk' (st' := ⟨27, [(0, A a0), (1, I x2), (5, I x3), (15, B ((decide (x3 < ((a0.length : Int))))))], []⟩) τ_ok [] 4 [0, 1, 5, 15] (by kernel_rfl) ?_
    refine opsP_end rfl ?_
    refine pwp_cond ((decide (x3 < ((a0.length : Int))))) (by kernel_rfl) (fun hc6 => ?_) (fun hc6 => ?_)
    · replace h := bifT hc6 h
      refine pwp_skip ?_
      refine pwp_seq ?_
      refine pwp_block ?_
      refine pwp_seq ?_
      refine pwp_region ?_
      refine opsP_evk' (st' := ⟨27, [(0, A a0), (1, I x2), (5, I x3), (18, A a0), (19, I x3)], []⟩) τ_ok [] 2 [0, 1, 5, 18, 19] (by kernel_rfl) ?_
      obtain ⟨v7, hv8, h⟩ := bindS h
      refine opsP_idx τ_ok 20 hv8 (by kernel_rfl) ?_
      refine opsP_evk' (st' := ⟨27, [(0, A a0), (5, I x3), (21, E v7), (22, I x2)], []⟩) τ_ok [] 2 [0, 5, 21, 22] (by kernel_rfl) ?_
      obtain ⟨v9, hv10, h⟩ := bindS h
      refine opsP_callF τ 23 (ok_laws_szTable hv10) (FzTo.frz rfl) rfl (by kernel_rfl) ?_
      refine opsP_evk' (st' := ⟨27, [(0, A a0), (1, I v9), (5, I x3)], []⟩) τ_ok [] 1 [0, 1, 5] (by kernel_rfl) ?_
      refine opsP_end rfl ?_
      refine pwp_seq ?_
      refine pwp_region ?_
      refine opsP_evk' (st' := ⟨27, [(0, A a0), (1, I v9), (5, I x3), (25, B ((decide (v9 < 0))))], []⟩) τ_ok [] 2 [0, 1, 5, 25] (by kernel_rfl) ?_
      refine opsP_end rfl ?_
      refine pwp_cond ((decide (v9 < 0))) (by kernel_rfl) (fun hc11 => ?_) (fun hc11 => ?_)
      · replace h := bifT hc11 h
        refine pwp_seq ?_
        refine pwp_region ?_
        refine opsP_evk' (st' := ⟨27, [(4, I (-1))], []⟩) τ_ok [] 1 [4] (by kernel_rfl) ?_
        refine opsP_end rfl ?_
        have h := Option.some.inj h
        subst h
        exact pwp_ret ⟨.inr rfl, I (-1), _, by kernel_rfl, (OutP.frz (by kernel_rfl)), by decide⟩
      · replace h := bifF hc11 h
        refine pwp_skip ?_
        refine pwp_region ?_
        refine opsP_evk' (st' := ⟨27, [(0, A a0), (1, I v9), (5, I ((w64 (x3 + 1))))], []⟩) τ_ok [] 3 [0, 1, 5] (by kernel_rfl) ?_
        refine opsP_end rfl ?_
        exact ⟨(f4, v9, (w64 (x3 + 1))), h, Nat.lt_succ_self _, (Imp.to (st' := ⟨27, [(0, A a0), (1, I v9), (5, I ((w64 (x3 + 1))))], []⟩) [0, 1, 5] (by kernel_rfl)).trans (Imp.to [0, 1, 5] (by kernel_rfl))⟩
    · replace h := bifF hc6 h
      refine pwp_exit ?_
      refine pwp_seq ?_
      refine pwp_region ?_
      refine opsP_evk' (st' := ⟨27, [(4, I x2)], []⟩) τ_ok [] 2 [4] (by kernel_rfl) ?_
      refine opsP_end rfl ?_
      have h := Option.some.inj h
      subst h
      exact pwp_ret ⟨.inr rfl, I x2, _, by kernel_rfl, (OutP.frz (by kernel_rfl)), by decide⟩

/- loop.example/tablehouse/laws.szStepS -/
def laws_szStepS_l0 (a0 : List T_laws_Step) : Nat → Int → Int → Option Int
  | 0, _, _ => none
  | f4 + 1, x2, x3 => bif (decide (x3 < ((a0.length : Int)))) then (getI a0 x3).bind fun v7 => (laws_szStep v7 x2).bind fun v9 => bif (decide (v9 < 0)) then some (-1) else (laws_szStepS_l0 a0 f4) v9 ((w64 (x3 + 1))) else some x2
def laws_szStepS (a0 : List T_laws_Step) (a1 : Int) : Option Int := bif (decide (((w64 (a1 - ((a0.length : Int))))) < 0)) then some (-1) else laws_szStepS_l0 a0 FUEL ((w64 (a1 - ((a0.length : Int))))) 0
theorem ok_laws_szStepS {a0 : List T_laws_Step} {a1 : Int} {y : Int} (h : laws_szStepS a0 a1 = some y) : OK Try.prog 7 [A a0, I a1] (I y) := by
  refine OK_of_pwp τ_ok Try.func7 rfl (by kernel_rfl) rfl fun Γ hX => ?_
  unfold laws_szStepS at h
  refine pwp_seq ?_
  refine pwp_region ?_
  refine opsP_evk' (st' := ⟨27, [(0, A a0), (1, I a1)], []⟩) τ_ok [] 1 [0, 1] (by kernel_rfl) ?_
  refine opsP_end rfl ?_
  refine pwp_seq ?_
  refine pwp_region ?_
  refine opsP_evk' (st' := ⟨27, [(0, A a0), (1, I ((w64 (a1 - ((a0.length : Int))))))], []⟩) τ_ok [] 5 [0, 1] (by kernel_rfl) ?_
  refine opsP_end rfl ?_
  refine pwp_seq ?_
  refine pwp_seq ?_
  refine pwp_region ?_
  refine opsP_evk' (st' := ⟨27, [(0, A a0), (1, I ((w64 (a1 - ((a0.length : Int)))))), (11, B ((decide (((w64 (a1 - ((a0.length : Int))))) < 0))))], []⟩) τ_ok [] 2 [0, 1, 11] (by kernel_rfl) ?_
  refine opsP_end rfl ?_
  refine pwp_cond ((decide (((w64 (a1 - ((a0.length : Int))))) < 0))) (by kernel_rfl) (fun hc1 => ?_) (fun hc1 => ?_)
  · replace h := bifT hc1 h
    refine pwp_seq ?_
    refine pwp_region ?_
    refine opsP_evk' (st' := ⟨27, [(4, I (-1))], []⟩) τ_ok [] 1 [4] (by kernel_rfl) ?_
    refine opsP_end rfl ?_
    have h := Option.some.inj h
    subst h
    exact pwp_ret ⟨.inr rfl, I (-1), _, by kernel_rfl, (OutP.frz (by kernel_rfl)), by decide⟩
  · replace h := bifF hc1 h
    refine pwp_skip ?_
    refine pwp_seq ?_
    refine pwp_seq ?_
    refine pwp_region ?_
    refine opsP_evk' (st' := ⟨27, [(0, A a0), (1, I ((w64 (a1 - ((a0.length : Int)))))), (5, I 0)], []⟩) τ_ok [] 1 [0, 1, 5] (by kernel_rfl) ?_
    refine opsP_end rfl ?_
    refine pwp_block ?_
    refine pwp_loop (ι := Nat × Int × Int) (fun (f4, x2, x3) => (⟨27, [(0, A a0), (1, I x2), (5, I x3)], []⟩ : St)) (fun (f4, x2, x3) => laws_szStepS_l0 a0 f4 x2 x3 = some y) (fun (f4, x2, x3) => f4) (FUEL, (w64 (a1 - ((a0.length : Int)))), 0) h ((Imp.to (st' := ⟨27, [(0, A a0), (1, I ((w64 (a1 - ((a0.length : Int)))))), (5, I 0)], []⟩) [0, 1, 5] (by kernel_rfl)).trans (Imp.to [0, 1, 5] (by kernel_rfl))) ?_
    rintro ⟨f4, x2, x3⟩ h
    dsimp only at h ⊢
    cases f4 with
    | zero => cases h
    | succ f4 =>
    rw [laws_szStepS_l0] at h
    refine pwp_seq ?_
    refine pwp_seq ?_
    refine pwp_region ?_
    refine opsP_evk' (st' := ⟨27, [(0, A a0), (1, I x2), (5, I x3), (15, B ((decide (x3 < ((a0.length : Int))))))], []⟩) τ_ok [] 4 [0, 1, 5, 15] (by kernel_rfl) ?_
    refine opsP_end rfl ?_
    refine pwp_cond ((decide (x3 < ((a0.length : Int))))) (by kernel_rfl) (fun hc6 => ?_) (fun hc6 => ?_)
    · replace h := bifT hc6 h
      refine pwp_skip ?_
      refine pwp_seq ?_
      refine pwp_block ?_
      refine pwp_seq ?_
      refine pwp_region ?_
      refine opsP_evk' (st' := ⟨27, [(0, A a0), (1, I x2), (5, I x3), (18, A a0), (19, I x3)], []⟩) τ_ok [] 2 [0, 1, 5, 18, 19] (by kernel_rfl) ?_
      obtain ⟨v7, hv8, h⟩ := bindS h
      refine opsP_idx τ_ok 20 hv8 (by kernel_rfl) ?_
      refine opsP_evk' (st' := ⟨27, [(0, A a0), (5, I x3), (21, E v7), (22, I x2)], []⟩) τ_ok [] 2 [0, 5, 21, 22] (by kernel_rfl) ?_
      obtain ⟨v9, hv10, h⟩ := bindS h
      refine opsP_callF τ 23 (ok_laws_szStep hv10) (FzTo.frz rfl) rfl (by kernel_rfl) ?_
      refine opsP_evk' (st' := ⟨27, [(0, A a0), (1, I v9), (5, I x3)], []⟩) τ_ok [] 1 [0, 1, 5] (by kernel_rfl) ?_
      refine opsP_end rfl ?_
      refine pwp_seq ?_
      refine pwp_region ?_
      refine opsP_evk' (st' := ⟨27, [(0, A a0), (1, I v9), (5, I x3), (25, B ((decide (v9 < 0))))], []⟩) τ_ok [] 2 [0, 1, 5, 25] (by kernel_rfl) ?_
      refine opsP_end rfl ?_
      refine pwp_cond ((decide (v9 < 0))) (by kernel_rfl) (fun hc11 => ?_) (fun hc11 => ?_)
      · replace h := bifT hc11 h
        refine pwp_seq ?_
        refine pwp_region ?_
        refine opsP_evk' (st' := ⟨27, [(4, I (-1))], []⟩) τ_ok [] 1 [4] (by kernel_rfl) ?_
        refine opsP_end rfl ?_
        have h := Option.some.inj h
        subst h
        exact pwp_ret ⟨.inr rfl, I (-1), _, by kernel_rfl, (OutP.frz (by kernel_rfl)), by decide⟩
      · replace h := bifF hc11 h
        refine pwp_skip ?_
        refine pwp_region ?_
        refine opsP_evk' (st' := ⟨27, [(0, A a0), (1, I v9), (5, I ((w64 (x3 + 1))))], []⟩) τ_ok [] 3 [0, 1, 5] (by kernel_rfl) ?_
        refine opsP_end rfl ?_
        exact ⟨(f4, v9, (w64 (x3 + 1))), h, Nat.lt_succ_self _, (Imp.to (st' := ⟨27, [(0, A a0), (1, I v9), (5, I ((w64 (x3 + 1))))], []⟩) [0, 1, 5] (by kernel_rfl)).trans (Imp.to [0, 1, 5] (by kernel_rfl))⟩
    · replace h := bifF hc6 h
      refine pwp_exit ?_
      refine pwp_seq ?_
      refine pwp_region ?_
      refine opsP_evk' (st' := ⟨27, [(4, I x2)], []⟩) τ_ok [] 2 [4] (by kernel_rfl) ?_
      refine opsP_end rfl ?_
      have h := Option.some.inj h
      subst h
      exact pwp_ret ⟨.inr rfl, I x2, _, by kernel_rfl, (OutP.frz (by kernel_rfl)), by decide⟩

/- loop.example/tablehouse/laws.toTableS -/
def laws_toTableS_l0 (a0 : List T_laws_Table) : Nat → Int → (List T_impl_Table) → Option (List T_impl_Table)
  | 0, _, _ => none
  | f6 + 1, x4, x5 => bif (decide (x4 < ((a0.length : Int)))) then (getI a0 x4).bind fun v9 => (laws_toTable v9).bind fun v11 => (getI x5 x4).bind fun v13 => (laws_toTableS_l0 a0 f6) ((w64 (x4 + 1))) ((x5.set x4.toNat v11)) else some x5
def laws_toTableS (a0 : List T_laws_Table) : Option (List T_impl_Table) := (mkI ((a0.length : Int)) ((T_impl_Table.mk [] []))).bind fun v1 => laws_toTableS_l0 a0 FUEL 0 v1
theorem ok_laws_toTableS {a0 : List T_laws_Table} {y : List T_impl_Table} (h : laws_toTableS a0 = some y) : OK Try.prog 9 [A a0] (O y) := by
  refine OK_of_pwp τ_ok Try.func9 rfl (by kernel_rfl) rfl fun Γ hX => ?_
  unfold laws_toTableS at h
  refine pwp_seq ?_
  refine pwp_region ?_
  refine opsP_evk' (st' := ⟨23, [(0, A a0)], []⟩) τ_ok [] 1 [0] (by kernel_rfl) ?_
  refine opsP_end rfl ?_
  refine pwp_seq ?_
  refine pwp_region ?_
  refine opsP_evk' (st' := ⟨23, [(0, A a0), (6, I ((a0.length : Int)))], []⟩) τ_ok [] 2 [0, 6] (by kernel_rfl) ?_
  obtain ⟨v1, hv2, h⟩ := bindS h
  refine opsP_mk τ_ok 7 0 _ hv2 (by kernel_rfl) (by kernel_rfl) ?_
  refine opsP_evk' (st' := ⟨23, [(0, A a0), (3, .ref 0 0 0 2 v1.length false)], [some ⟨0, eL v1⟩]⟩) τ_ok [] 1 [0, 3] (by kernel_rfl) ?_
  refine opsP_end rfl ?_
  refine pwp_seq ?_
  refine pwp_seq ?_
  refine pwp_region ?_
  refine opsP_evk' (st' := ⟨23, [(0, A a0), (3, .ref 0 0 0 2 v1.length false), (4, I 0)], [some ⟨0, eL v1⟩]⟩) τ_ok [] 1 [0, 3, 4] (by kernel_rfl) ?_
  refine opsP_end rfl ?_
  refine pwp_block ?_
  refine pwp_loop (ι := Nat × Int × (List T_impl_Table)) (fun (f6, x4, x5) => (⟨23, [(0, A a0), (3, .ref 0 0 0 2 x5.length false), (4, I x4)], [some ⟨0, eL x5⟩]⟩ : St)) (fun (f6, x4, x5) => laws_toTableS_l0 a0 f6 x4 x5 = some y) (fun (f6, x4, x5) => f6) (FUEL, 0, v1) h ((Imp.to (st' := ⟨23, [(0, A a0), (3, .ref 0 0 0 2 v1.length false), (4, I 0)], [some ⟨0, eL v1⟩]⟩) [0, 3, 4] (by kernel_rfl)).trans (Imp.to [0, 3, 4] (by kernel_rfl))) ?_
  rintro ⟨f6, x4, x5⟩ h
  dsimp only at h ⊢
  cases f6 with
  | zero => cases h
  | succ f6 =>
  rw [laws_toTableS_l0] at h
  refine pwp_seq ?_
  refine pwp_seq ?_
  refine pwp_region ?_
  refine opsP_evk' (st' := ⟨23, [(0, A a0), (3, .ref 0 0 0 2 x5.length false), (4, I x4), (11, B ((decide (x4 < ((a0.length : Int))))))], [some ⟨0, eL x5⟩]⟩) τ_ok [] 4 [0, 3, 4, 11] (by kernel_rfl) ?_
  refine opsP_end rfl ?_
  refine pwp_cond ((decide (x4 < ((a0.length : Int))))) (by kernel_rfl) (fun hc8 => ?_) (fun hc8 => ?_)
  · replace h := bifT hc8 h
    refine pwp_skip ?_
    refine pwp_seq ?_
    refine pwp_block ?_
    refine pwp_region ?_
    refine opsP_evk' (st' := ⟨23, [(0, A a0), (3, .ref 0 0 0 2 x5.length false), (4, I x4), (14, .ref 0 0 0 2 x5.length false), (15, I x4), (16, A a0), (17, I x4)], [some ⟨0, eL x5⟩]⟩) τ_ok [] 4 [0, 3, 4, 14, 15, 16, 17] (by kernel_rfl) ?_
    obtain ⟨v9, hv10, h⟩ := bindS h
    refine opsP_idx τ_ok 18 hv10 (by kernel_rfl) ?_
    refine opsP_evk' (st' := ⟨23, [(0, A a0), (3, .ref 0 0 0 2 x5.length false), (4, I x4), (14, .ref 0 0 0 2 x5.length false), (15, I x4), (19, E v9)], [some ⟨0, eL x5⟩]⟩) τ_ok [] 1 [0, 3, 4, 14, 15, 19] (by kernel_rfl) ?_
    obtain ⟨v11, hv12, h⟩ := bindS h
    refine opsP_callF τ 20 (ok_laws_toTable hv12) (FzTo.frz rfl) rfl (by kernel_rfl) ?_
    obtain ⟨v13, hv14, h⟩ := bindS h
    refine opsP_idr τ_ok 21 0 0 x5.length hv14 rfl (by kernel_rfl) ?_
    refine opsP_evk' (st' := ⟨23, [(0, A a0), (3, .ref 0 0 0 2 x5.length false), (4, I x4), (20, E v11), (21, .ptr 0 0 (x4.toNat * 2))], [some ⟨0, eL x5⟩]⟩) τ_ok [] 0 [0, 3, 4, 20, 21] (by kernel_rfl) ?_
    refine opsP_ste (vs := [A v11.fColumns, A v11.fRows]) τ_ok 64 0 0 0 v11 hv14 (by kernel_rfl) (by kernel_rfl) (by kernel_rfl) (renC trivial (renC (ren_ref (List.length_set ..).symm) (renC trivial (renC trivial (renC trivial renC0))))) ?_
    refine opsP_evk' (st' := ⟨23, [(0, A a0), (3, .ref 0 0 0 2 ((x5.set x4.toNat v11)).length false), (4, I x4)], [some ⟨0, eL ((x5.set x4.toNat v11))⟩]⟩) τ_ok [] 0 [0, 3, 4] (by kernel_rfl) ?_
    refine opsP_end rfl ?_
    refine pwp_region ?_
    refine opsP_evk' (st' := ⟨23, [(0, A a0), (3, .ref 0 0 0 2 ((x5.set x4.toNat v11)).length false), (4, I ((w64 (x4 + 1))))], [some ⟨0, eL ((x5.set x4.toNat v11))⟩]⟩) τ_ok [] 3 [0, 3, 4] (by kernel_rfl) ?_
    refine opsP_end rfl ?_
    exact ⟨(f6, (w64 (x4 + 1)), (x5.set x4.toNat v11)), h, Nat.lt_succ_self _, (Imp.to (st' := ⟨23, [(0, A a0), (3, .ref 0 0 0 2 ((x5.set x4.toNat v11)).length false), (4, I ((w64 (x4 + 1))))], [some ⟨0, eL ((x5.set x4.toNat v11))⟩]⟩) [0, 3, 4] (by kernel_rfl)).trans (Imp.to [0, 3, 4] (by kernel_rfl))⟩
  · replace h := bifF hc8 h
    refine pwp_exit ?_
    refine pwp_seq ?_
    refine pwp_region ?_
    refine opsP_evk' (st' := ⟨23, [(2, .ref 0 0 0 2 x5.length false)], [some ⟨0, eL x5⟩]⟩) τ_ok [] 2 [2] (by kernel_rfl) ?_
    refine opsP_end rfl ?_
    have h := Option.some.inj h
    subst h
    exact pwp_ret ⟨.inr rfl, .ref 0 0 0 2 x5.length false, _, by kernel_rfl, (OutP.list (v := 0) (by kernel_rfl)), by decide⟩

/- loop.example/tablehouse/laws.toStepS -/
def laws_toStepS_l0 (a0 : List T_laws_Step) : Nat → Int → (List T_impl_Step) → Option (List T_impl_Step)
  | 0, _, _ => none
  | f6 + 1, x4, x5 => bif (decide (x4 < ((a0.length : Int)))) then (getI a0 x4).bind fun v9 => (laws_toStep v9).bind fun v11 => (getI x5 x4).bind fun v13 => (laws_toStepS_l0 a0 f6) ((w64 (x4 + 1))) ((x5.set x4.toNat v11)) else some x5
def laws_toStepS (a0 : List T_laws_Step) : Option (List T_impl_Step) := (mkI ((a0.length : Int)) ((T_impl_Step.mk 0 0 0 0 [] []))).bind fun v1 => laws_toStepS_l0 a0 FUEL 0 v1
theorem ok_laws_toStepS {a0 : List T_laws_Step} {y : List T_impl_Step} (h : laws_toStepS a0 = some y) : OK Try.prog 10 [A a0] (O y) := by
  refine OK_of_pwp τ_ok Try.func10 rfl (by kernel_rfl) rfl fun Γ hX => ?_
  unfold laws_toStepS at h
  refine pwp_seq ?_
  refine pwp_region ?_
  refine opsP_evk' (st' := ⟨23, [(0, A a0)], []⟩) τ_ok [] 1 [0] (by kernel_rfl) ?_
  refine opsP_end rfl ?_
  refine pwp_seq ?_
  refine pwp_region ?_
  refine opsP_evk' (st' := ⟨23, [(0, A a0), (6, I ((a0.length : Int)))], []⟩) τ_ok [] 2 [0, 6] (by kernel_rfl) ?_
  obtain ⟨v1, hv2, h⟩ := bindS h
  refine opsP_mk τ_ok 7 0 _ hv2 (by kernel_rfl) (by kernel_rfl) ?_
  refine opsP_evk' (st' := ⟨23, [(0, A a0), (3, .ref 0 0 0 6 v1.length false)], [some ⟨0, eL v1⟩]⟩) τ_ok [] 1 [0, 3] (by kernel_rfl) ?_
  refine opsP_end rfl ?_
  refine pwp_seq ?_
  refine pwp_seq ?_
  refine pwp_region ?_
  refine opsP_evk' (st' := ⟨23, [(0, A a0), (3, .ref 0 0 0 6 v1.length false), (4, I 0)], [some ⟨0, eL v1⟩]⟩) τ_ok [] 1 [0, 3, 4] (by kernel_rfl) ?_
  refine opsP_end rfl ?_
  refine pwp_block ?_
  refine pwp_loop (ι := Nat × Int × (List T_impl_Step)) (fun (f6, x4, x5) => (⟨23, [(0, A a0), (3, .ref 0 0 0 6 x5.length false), (4, I x4)], [some ⟨0, eL x5⟩]⟩ : St)) (fun (f6, x4, x5) => laws_toStepS_l0 a0 f6 x4 x5 = some y) (fun (f6, x4, x5) => f6) (FUEL, 0, v1) h ((Imp.to (st' := ⟨23, [(0, A a0), (3, .ref 0 0 0 6 v1.length false), (4, I 0)], [some ⟨0, eL v1⟩]⟩) [0, 3, 4] (by kernel_rfl)).trans (Imp.to [0, 3, 4] (by kernel_rfl))) ?_
  rintro ⟨f6, x4, x5⟩ h
  dsimp only at h ⊢
  cases f6 with
  | zero => cases h
  | succ f6 =>
  rw [laws_toStepS_l0] at h
  refine pwp_seq ?_
  refine pwp_seq ?_
  refine pwp_region ?_
  refine opsP_evk' (st' := ⟨23, [(0, A a0), (3, .ref 0 0 0 6 x5.length false), (4, I x4), (11, B ((decide (x4 < ((a0.length : Int))))))], [some ⟨0, eL x5⟩]⟩) τ_ok [] 4 [0, 3, 4, 11] (by kernel_rfl) ?_
  refine opsP_end rfl ?_
  refine pwp_cond ((decide (x4 < ((a0.length : Int))))) (by kernel_rfl) (fun hc8 => ?_) (fun hc8 => ?_)
  · replace h := bifT hc8 h
    refine pwp_skip ?_
    refine pwp_seq ?_
    refine pwp_block ?_
    refine pwp_region ?_
    refine opsP_evk' (st' := ⟨23, [(0, A a0), (3, .ref 0 0 0 6 x5.length false), (4, I x4), (14, .ref 0 0 0 6 x5.length false), (15, I x4), (16, A a0), (17, I x4)], [some ⟨0, eL x5⟩]⟩) τ_ok [] 4 [0, 3, 4, 14, 15, 16, 17] (by kernel_rfl) ?_
    obtain ⟨v9, hv10, h⟩ := bindS h
    refine opsP_idx τ_ok 18 hv10 (by kernel_rfl) ?_
    refine opsP_evk' (st' := ⟨23, [(0, A a0), (3, .ref 0 0 0 6 x5.length false), (4, I x4), (14, .ref 0 0 0 6 x5.length false), (15, I x4), (19, E v9)], [some ⟨0, eL x5⟩]⟩) τ_ok [] 1 [0, 3, 4, 14, 15, 19] (by kernel_rfl) ?_
    obtain ⟨v11, hv12, h⟩ := bindS h
    refine opsP_callF τ 20 (ok_laws_toStep hv12) (FzTo.frz rfl) rfl (by kernel_rfl) ?_
    obtain ⟨v13, hv14, h⟩ := bindS h
    refine opsP_idr τ_ok 21 0 0 x5.length hv14 rfl (by kernel_rfl) ?_
    refine opsP_evk' (st' := ⟨23, [(0, A a0), (3, .ref 0 0 0 6 x5.length false), (4, I x4), (20, E v11), (21, .ptr 0 0 (x4.toNat * 6))], [some ⟨0, eL x5⟩]⟩) τ_ok [] 0 [0, 3, 4, 20, 21] (by kernel_rfl) ?_
    refine opsP_ste (vs := [I v11.fKind, I v11.fA, I v11.fB, I v11.fN, A v11.fE, A v11.fList]) τ_ok 68 0 0 0 v11 hv14 (by kernel_rfl) (by kernel_rfl) (by kernel_rfl) (renC trivial (renC (ren_ref (List.length_set ..).symm) (renC trivial (renC trivial (renC trivial renC0))))) ?_
    refine opsP_evk' (st' := ⟨23, [(0, A a0), (3, .ref 0 0 0 6 ((x5.set x4.toNat v11)).length false), (4, I x4)], [some ⟨0, eL ((x5.set x4.toNat v11))⟩]⟩) τ_ok [] 0 [0, 3, 4] (by kernel_rfl) ?_
    refine opsP_end rfl ?_
    refine pwp_region ?_
    refine opsP_evk' (st' := ⟨23, [(0, A a0), (3, .ref 0 0 0 6 ((x5.set x4.toNat v11)).length false), (4, I ((w64 (x4 + 1))))], [some ⟨0, eL ((x5.set x4.toNat v11))⟩]⟩) τ_ok [] 3 [0, 3, 4] (by kernel_rfl) ?_
    refine opsP_end rfl ?_
    exact ⟨(f6, (w64 (x4 + 1)), (x5.set x4.toNat v11)), h, Nat.lt_succ_self _, (Imp.to (st' := ⟨23, [(0, A a0), (3, .ref 0 0 0 6 ((x5.set x4.toNat v11)).length false), (4, I ((w64 (x4 + 1))))], [some ⟨0, eL ((x5.set x4.toNat v11))⟩]⟩) [0, 3, 4] (by kernel_rfl)).trans (Imp.to [0, 3, 4] (by kernel_rfl))⟩
  · replace h := bifF hc8 h
    refine pwp_exit ?_
    refine pwp_seq ?_
    refine pwp_region ?_
    refine opsP_evk' (st' := ⟨23, [(2, .ref 0 0 0 6 x5.length false)], [some ⟨0, eL x5⟩]⟩) τ_ok [] 2 [2] (by kernel_rfl) ?_
    refine opsP_end rfl ?_
    have h := Option.some.inj h
    subst h
    exact pwp_ret ⟨.inr rfl, .ref 0 0 0 6 x5.length false, _, by kernel_rfl, (OutP.list (v := 0) (by kernel_rfl)), by decide⟩

/- loop.example/tablehouse/laws.eqTableS -/
def laws_eqTableS_l0 (a0 : List T_impl_Table) (a1 : List T_impl_Table) : Nat → Int → Option Bool
  | 0, _ => none
  | f3 + 1, x2 => bif (decide (x2 < ((a0.length : Int)))) then (getI a0 x2).bind fun v6 => (getI a1 x2).bind fun v8 => (laws_eqTable v6 v8).bind fun v10 => bif (!v10) then some false else (laws_eqTableS_l0 a0 a1 f3) ((w64 (x2 + 1))) else some true
def laws_eqTableS (a0 : List T_impl_Table) (a1 : List T_impl_Table) : Option Bool := bif (!(((a0.length : Int)) == ((a1.length : Int)))) then some false else laws_eqTableS_l0 a0 a1 FUEL 0
theorem ok_laws_eqTableS {a0 : List T_impl_Table} {a1 : List T_impl_Table} {y : Bool} (h : laws_eqTableS a0 a1 = some y) : OK Try.prog 12 [A a0, A a1] (B y) := by
  refine OK_of_pwp τ_ok Try.func12 rfl (by kernel_rfl) rfl fun Γ hX => ?_
  unfold laws_eqTableS at h
  refine pwp_seq ?_
  refine pwp_region ?_
  refine opsP_evk' (st' := ⟨27, [(0, A a0), (1, A a1)], []⟩) τ_ok [] 1 [0, 1] (by kernel_rfl) ?_
  refine opsP_end rfl ?_
  refine pwp_seq ?_
  refine pwp_seq ?_
  refine pwp_region ?_
  refine opsP_evk' (st' := ⟨27, [(0, A a0), (1, A a1), (10, B ((!(((a0.length : Int)) == ((a1.length : Int))))))], []⟩) τ_ok [] 5 [0, 1, 10] (by kernel_rfl) ?_
  refine opsP_end rfl ?_
  refine pwp_cond ((!(((a0.length : Int)) == ((a1.length : Int))))) (by kernel_rfl) (fun hc1 => ?_) (fun hc1 => ?_)
  · replace h := bifT hc1 h
    refine pwp_seq ?_
    refine pwp_region ?_
    refine opsP_evk' (st' := ⟨27, [(4, B false)], []⟩) τ_ok [] 1 [4] (by kernel_rfl) ?_
    refine opsP_end rfl ?_
    have h := Option.some.inj h
    subst h
    exact pwp_ret ⟨.inr rfl, B false, _, by kernel_rfl, (OutP.frz (by kernel_rfl)), by decide⟩
  · replace h := bifF hc1 h
    refine pwp_skip ?_
    refine pwp_seq ?_
    refine pwp_seq ?_
    refine pwp_region ?_
    refine opsP_evk' (st' := ⟨27, [(0, A a0), (1, A a1), (5, I 0)], []⟩) τ_ok [] 1 [0, 1, 5] (by kernel_rfl) ?_
    refine opsP_end rfl ?_
    refine pwp_block ?_
    refine pwp_loop (ι := Nat × Int) (fun (f3, x2) => (⟨27, [(0, A a0), (1, A a1), (5, I x2)], []⟩ : St)) (fun (f3, x2) => laws_eqTableS_l0 a0 a1 f3 x2 = some y) (fun (f3, x2) => f3) (FUEL, 0) h ((Imp.to (st' := ⟨27, [(0, A a0), (1, A a1), (5, I 0)], []⟩) [0, 1, 5] (by kernel_rfl)).trans (Imp.to [0, 1, 5] (by kernel_rfl))) ?_
    rintro ⟨f3, x2⟩ h
    dsimp only at h ⊢
    cases f3 with
    | zero => cases h
    | succ f3 =>
    rw [laws_eqTableS_l0] at h
    refine pwp_seq ?_
    refine pwp_seq ?_
    refine pwp_region ?_
    refine opsP_evk' (st' := ⟨27, [(0, A a0), (1, A a1), (5, I x2), (14, B ((decide (x2 < ((a0.length : Int))))))], []⟩) τ_ok [] 4 [0, 1, 5, 14] (by kernel_rfl) ?_
    refine opsP_end rfl ?_
    refine pwp_cond ((decide (x2 < ((a0.length : Int))))) (by kernel_rfl) (fun hc5 => ?_) (fun hc5 => ?_)
    · replace h := bifT hc5 h
      refine pwp_skip ?_
      refine pwp_seq ?_
      refine pwp_block ?_
      refine pwp_seq ?_
      refine pwp_imp (Imp.to (st' := ⟨27, [(0, A a0), (1, A a1), (5, I x2)], []⟩) [0, 1, 5] (by kernel_rfl)) ?_
      refine pwp_any ([[], [], [], [], [], [], [], [], [], []]) ([[], [], [], [], [], [], [], [], [], []]) rfl (by kernel_rfl) ?_
      refine qA_ev (st' := ⟨27, [(18, I x2), (17, A a0), (0, A a0), (1, A a1), (5, I x2)], []⟩) τ_ok [] [] 2 (by exact trivial) (by kernel_rfl) ?_
      obtain ⟨v6, hv7, h⟩ := bindS h
      refine qA_E (dd := some 19) (x := .fptr (Enc.cells v6) 0) ([]) (⟨27, [(19, .fptr (Enc.cells v6) 0), (18, I x2), (17, A a0), (0, A a0), (1, A a1), (5, I x2)], []⟩) (fun Γ' hΓ => CoreE.of_y (idxV_sound τ_ok (by kernel_rfl) hv7)) (by kernel_rfl) (by kernel_rfl) (by exact trivial) (.inr (.inr rfl)) (by kernel_rfl) ?_
      refine qA_ev (st' := ⟨27, [(22, I x2), (21, A a1), (20, E v6), (19, .fptr (Enc.cells v6) 0), (18, I x2), (17, A a0), (0, A a0), (1, A a1), (5, I x2)], []⟩) τ_ok [] [] 3 (by exact trivial) (by kernel_rfl) ?_
      obtain ⟨v8, hv9, h⟩ := bindS h
      refine qA_E (dd := some 23) (x := .fptr (Enc.cells v8) 0) ([]) (⟨27, [(23, .fptr (Enc.cells v8) 0), (22, I x2), (21, A a1), (20, E v6), (19, .fptr (Enc.cells v6) 0), (18, I x2), (17, A a0), (0, A a0), (1, A a1), (5, I x2)], []⟩) (fun Γ' hΓ => CoreE.of_y (idxV_sound τ_ok (by kernel_rfl) hv9)) (by kernel_rfl) (by kernel_rfl) (by exact trivial) (.inr (.inr rfl)) (by kernel_rfl) ?_
      refine qA_ev (st' := ⟨27, [(24, E v8), (23, .fptr (Enc.cells v8) 0), (22, I x2), (21, A a1), (20, E v6), (19, .fptr (Enc.cells v6) 0), (18, I x2), (17, A a0), (0, A a0), (1, A a1), (5, I x2)], []⟩) τ_ok [] [] 1 (by exact trivial) (by kernel_rfl) ?_
      obtain ⟨v10, hv11, h⟩ := bindS h
      refine qA_E (dd := some 25) (x := B v10) ([]) (⟨27, [(25, B v10), (24, E v8), (23, .fptr (Enc.cells v8) 0), (22, I x2), (21, A a1), (20, E v6), (19, .fptr (Enc.cells v6) 0), (18, I x2), (17, A a0), (0, A a0), (1, A a1), (5, I x2)], []⟩) (fun Γ' hΓ => CoreE.of_g (callV_sound (τ := τ) (by kernel_rfl) rfl (ok_laws_eqTable hv11) (FzTo.frz rfl))) (by kernel_rfl) (by kernel_rfl) (by exact trivial) (.inr (.inr rfl)) (by kernel_rfl) ?_
      refine qA_ev (st' := ⟨27, [(26, B ((!v10))), (25, B v10), (24, E v8), (23, .fptr (Enc.cells v8) 0), (22, I x2), (21, A a1), (20, E v6), (19, .fptr (Enc.cells v6) 0), (18, I x2), (17, A a0), (0, A a0), (1, A a1), (5, I x2)], []⟩) τ_ok [] [] 1 (by exact trivial) (by kernel_rfl) ?_
      refine qA_end ?_
      refine opsP_imp (Imp.to (st' := ⟨27, [(0, A a0), (1, A a1), (5, I x2), (26, B ((!v10)))], []⟩) [0, 1, 5, 26] (by kernel_rfl)) ?_
      refine opsP_end rfl ?_
      refine pwp_cond ((!v10)) (by kernel_rfl) (fun hc12 => ?_) (fun hc12 => ?_)
      · replace h := bifT hc12 h
        refine pwp_seq ?_
        refine pwp_region ?_
        refine opsP_evk' (st' := ⟨27, [(4, B false)], []⟩) τ_ok [] 1 [4] (by kernel_rfl) ?_
        refine opsP_end rfl ?_
        have h := Option.some.inj h
        subst h
        exact pwp_ret ⟨.inr rfl, B false, _, by kernel_rfl, (OutP.frz (by kernel_rfl)), by decide⟩
      · replace h := bifF hc12 h
        refine pwp_skip ?_
        refine pwp_region ?_
        refine opsP_evk' (st' := ⟨27, [(0, A a0), (1, A a1), (5, I ((w64 (x2 + 1))))], []⟩) τ_ok [] 3 [0, 1, 5] (by kernel_rfl) ?_
        refine opsP_end rfl ?_
        exact ⟨(f3, (w64 (x2 + 1))), h, Nat.lt_succ_self _, (Imp.to (st' := ⟨27, [(0, A a0), (1, A a1), (5, I ((w64 (x2 + 1))))], []⟩) [0, 1, 5] (by kernel_rfl)).trans (Imp.to [0, 1, 5] (by kernel_rfl))⟩
    · replace h := bifF hc5 h
      refine pwp_exit ?_
      refine pwp_seq ?_
      refine pwp_region ?_
      refine opsP_evk' (st' := ⟨27, [(4, B true)], []⟩) τ_ok [] 1 [4] (by kernel_rfl) ?_
      refine opsP_end rfl ?_
      have h := Option.some.inj h
      subst h
      exact pwp_ret ⟨.inr rfl, B true, _, by kernel_rfl, (OutP.frz (by kernel_rfl)), by decide⟩

/- loop.example/tablehouse/laws.eqStepS -/
def laws_eqStepS_l0 (a0 : List T_impl_Step) (a1 : List T_impl_Step) : Nat → Int → Option Bool
  | 0, _ => none
  | f3 + 1, x2 => bif (decide (x2 < ((a0.length : Int)))) then (getI a0 x2).bind fun v6 => (getI a1 x2).bind fun v8 => (laws_eqStep v6 v8).bind fun v10 => bif (!v10) then some false else (laws_eqStepS_l0 a0 a1 f3) ((w64 (x2 + 1))) else some true
def laws_eqStepS (a0 : List T_impl_Step) (a1 : List T_impl_Step) : Option Bool := bif (!(((a0.length : Int)) == ((a1.length : Int)))) then some false else laws_eqStepS_l0 a0 a1 FUEL 0
theorem ok_laws_eqStepS {a0 : List T_impl_Step} {a1 : List T_impl_Step} {y : Bool} (h : laws_eqStepS a0 a1 = some y) : OK Try.prog 13 [A a0, A a1] (B y) := by
  refine OK_of_pwp τ_ok Try.func13 rfl (by kernel_rfl) rfl fun Γ hX => ?_
  unfold laws_eqStepS at h
  refine pwp_seq ?_
  refine pwp_region ?_
  refine opsP_evk' (st' := ⟨27, [(0, A a0), (1, A a1)], []⟩) τ_ok [] 1 [0, 1] (by kernel_rfl) ?_
  refine opsP_end rfl ?_
  refine pwp_seq ?_
  refine pwp_seq ?_
  refine pwp_region ?_
  refine opsP_evk' (st' := ⟨27, [(0, A a0), (1, A a1), (10, B ((!(((a0.length : Int)) == ((a1.length : Int))))))], []⟩) τ_ok [] 5 [0, 1, 10] (by kernel_rfl) ?_
  refine opsP_end rfl ?_
  refine pwp_cond ((!(((a0.length : Int)) == ((a1.length : Int))))) (by kernel_rfl) (fun hc1 => ?_) (fun hc1 => ?_)
  · replace h := bifT hc1 h
    refine pwp_seq ?_
    refine pwp_region ?_
    refine opsP_evk' (st' := ⟨27, [(4, B false)], []⟩) τ_ok [] 1 [4] (by kernel_rfl) ?_
    refine opsP_end rfl ?_
    have h := Option.some.inj h
    subst h
    exact pwp_ret ⟨.inr rfl, B false, _, by kernel_rfl, (OutP.frz (by kernel_rfl)), by decide⟩
  · replace h := bifF hc1 h
    refine pwp_skip ?_
    refine pwp_seq ?_
    refine pwp_seq ?_
    refine pwp_region ?_
    refine opsP_evk' (st' := ⟨27, [(0, A a0), (1, A a1), (5, I 0)], []⟩) τ_ok [] 1 [0, 1, 5] (by kernel_rfl) ?_
    refine opsP_end rfl ?_
    refine pwp_block ?_
    refine pwp_loop (ι := Nat × Int) (fun (f3, x2) => (⟨27, [(0, A a0), (1, A a1), (5, I x2)], []⟩ : St)) (fun (f3, x2) => laws_eqStepS_l0 a0 a1 f3 x2 = some y) (fun (f3, x2) => f3) (FUEL, 0) h ((Imp.to (st' := ⟨27, [(0, A a0), (1, A a1), (5, I 0)], []⟩) [0, 1, 5] (by kernel_rfl)).trans (Imp.to [0, 1, 5] (by kernel_rfl))) ?_
    rintro ⟨f3, x2⟩ h
    dsimp only at h ⊢
    cases f3 with
    | zero => cases h
    | succ f3 =>
    rw [laws_eqStepS_l0] at h
    refine pwp_seq ?_
    refine pwp_seq ?_
    refine pwp_region ?_
    refine opsP_evk' (st' := ⟨27, [(0, A a0), (1, A a1), (5, I x2), (14, B ((decide (x2 < ((a0.length : Int))))))], []⟩) τ_ok [] 4 [0, 1, 5, 14] (by kernel_rfl) ?_
    refine opsP_end rfl ?_
    refine pwp_cond ((decide (x2 < ((a0.length : Int))))) (by kernel_rfl) (fun hc5 => ?_) (fun hc5 => ?_)
    · replace h := bifT hc5 h
      refine pwp_skip ?_
      refine pwp_seq ?_
      refine pwp_block ?_
      refine pwp_seq ?_
      refine pwp_imp (Imp.to (st' := ⟨27, [(0, A a0), (1, A a1), (5, I x2)], []⟩) [0, 1, 5] (by kernel_rfl)) ?_
      refine pwp_any ([[], [], [], [], [], [], [], [], [], []]) ([[], [], [], [], [], [], [], [], [], []]) rfl (by kernel_rfl) ?_
      refine qA_ev (st' := ⟨27, [(18, I x2), (17, A a0), (0, A a0), (1, A a1), (5, I x2)], []⟩) τ_ok [] [] 2 (by exact trivial) (by kernel_rfl) ?_
      obtain ⟨v6, hv7, h⟩ := bindS h
      refine qA_E (dd := some 19) (x := .fptr (Enc.cells v6) 0) ([]) (⟨27, [(19, .fptr (Enc.cells v6) 0), (18, I x2), (17, A a0), (0, A a0), (1, A a1), (5, I x2)], []⟩) (fun Γ' hΓ => CoreE.of_y (idxV_sound τ_ok (by kernel_rfl) hv7)) (by kernel_rfl) (by kernel_rfl) (by exact trivial) (.inr (.inr rfl)) (by kernel_rfl) ?_
      refine qA_ev (st' := ⟨27, [(22, I x2), (21, A a1), (20, E v6), (19, .fptr (Enc.cells v6) 0), (18, I x2), (17, A a0), (0, A a0), (1, A a1), (5, I x2)], []⟩) τ_ok [] [] 3 (by exact trivial) (by kernel_rfl) ?_
      obtain ⟨v8, hv9, h⟩ := bindS h
      refine qA_E (dd := some 23) (x := .fptr (Enc.cells v8) 0) ([]) (⟨27, [(23, .fptr (Enc.cells v8) 0), (22, I x2), (21, A a1), (20, E v6), (19, .fptr (Enc.cells v6) 0), (18, I x2), (17, A a0), (0, A a0), (1, A a1), (5, I x2)], []⟩) (fun Γ' hΓ => CoreE.of_y (idxV_sound τ_ok (by kernel_rfl) hv9)) (by kernel_rfl) (by kernel_rfl) (by exact trivial) (.inr (.inr rfl)) (by kernel_rfl) ?_
      refine qA_ev (st' := ⟨27, [(24, E v8), (23, .fptr (Enc.cells v8) 0), (22, I x2), (21, A a1), (20, E v6), (19, .fptr (Enc.cells v6) 0), (18, I x2), (17, A a0), (0, A a0), (1, A a1), (5, I x2)], []⟩) τ_ok [] [] 1 (by exact trivial) (by kernel_rfl) ?_
      obtain ⟨v10, hv11, h⟩ := bindS h
      refine qA_E (dd := some 25) (x := B v10) ([]) (⟨27, [(25, B v10), (24, E v8), (23, .fptr (Enc.cells v8) 0), (22, I x2), (21, A a1), (20, E v6), (19, .fptr (Enc.cells v6) 0), (18, I x2), (17, A a0), (0, A a0), (1, A a1), (5, I x2)], []⟩) (fun Γ' hΓ => CoreE.of_g (callV_sound (τ := τ) (by kernel_rfl) rfl (ok_laws_eqStep hv11) (FzTo.frz rfl))) (by kernel_rfl) (by kernel_rfl) (by exact trivial) (.inr (.inr rfl)) (by kernel_rfl) ?_
      refine qA_ev (st' := ⟨27, [(26, B ((!v10))), (25, B v10), (24, E v8), (23, .fptr (Enc.cells v8) 0), (22, I x2), (21, A a1), (20, E v6), (19, .fptr (Enc.cells v6) 0), (18, I x2), (17, A a0), (0, A a0), (1, A a1), (5, I x2)], []⟩) τ_ok [] [] 1 (by exact trivial) (by kernel_rfl) ?_
      refine qA_end ?_
      refine opsP_imp (Imp.to (st' := ⟨27, [(0, A a0), (1, A a1), (5, I x2), (26, B ((!v10)))], []⟩) [0, 1, 5, 26] (by kernel_rfl)) ?_
      refine opsP_end rfl ?_
      refine pwp_cond ((!v10)) (by kernel_rfl) (fun hc12 => ?_) (fun hc12 => ?_)
      · replace h := bifT hc12 h
        refine pwp_seq ?_
        refine pwp_region ?_
        refine opsP_evk' (st' := ⟨27, [(4, B false)], []⟩) τ_ok [] 1 [4] (by kernel_rfl) ?_
        refine opsP_end rfl ?_
        have h := Option.some.inj h
        subst h
        exact pwp_ret ⟨.inr rfl, B false, _, by kernel_rfl, (OutP.frz (by kernel_rfl)), by decide⟩
      · replace h := bifF hc12 h
        refine pwp_skip ?_
        refine pwp_region ?_
        refine opsP_evk' (st' := ⟨27, [(0, A a0), (1, A a1), (5, I ((w64 (x2 + 1))))], []⟩) τ_ok [] 3 [0, 1, 5] (by kernel_rfl) ?_
        refine opsP_end rfl ?_
        exact ⟨(f3, (w64 (x2 + 1))), h, Nat.lt_succ_self _, (Imp.to (st' := ⟨27, [(0, A a0), (1, A a1), (5, I ((w64 (x2 + 1))))], []⟩) [0, 1, 5] (by kernel_rfl)).trans (Imp.to [0, 1, 5] (by kernel_rfl))⟩
    · replace h := bifF hc5 h
      refine pwp_exit ?_
      refine pwp_seq ?_
      refine pwp_region ?_
      refine opsP_evk' (st' := ⟨27, [(4, B true)], []⟩) τ_ok [] 1 [4] (by kernel_rfl) ?_
      refine opsP_end rfl ?_
      have h := Option.some.inj h
      subst h
      exact pwp_ret ⟨.inr rfl, B true, _, by kernel_rfl, (OutP.frz (by kernel_rfl)), by decide⟩

/- loop.example/tablehouse/spec.l6Columns -/
def spec_l6Columns_l1 (a2 : T_impl_Step) (v16 : List T_impl_Column) : Nat → Int → (List T_impl_Column) → Option ((List T_impl_Column) × Bool)
  | 0, _, _ => none
  | f26 + 1, x24, x25 => bif (decide (x24 < ((a2.fList.length : Int)))) then (getI a2.fList x24).bind fun v29 => (spec_l1In v29 0 ((w64 (((v16.length : Int)) - 1)))).bind fun v31 => bif (!v31) then some (([] : List T_impl_Column), false) else (getI a2.fList x24).bind fun v34 => (getI v16 v34).bind fun v36 => (app x25 (([v36] : List T_impl_Column))).bind fun v38 => (spec_l6Columns_l1 a2 v16 f26) ((w64 (x24 + 1))) v38 else some (x25, (decide (((x25.length : Int)) ≤ 4)))
def spec_l6Columns_j3 (x53 : Int) (K56 : Int → (List T_impl_Column) → Option ((List T_impl_Column) × Bool)) (x58 : List T_impl_Column) : Option ((List T_impl_Column) × Bool) := K56 ((w64 (x53 + 1))) x58
def spec_l6Columns_l2 (a1 : List (List T_impl_Column)) (a2 : T_impl_Step) : Nat → Int → (List T_impl_Column) → Option ((List T_impl_Column) × Bool)
  | 0, _, _ => none
  | f55 + 1, x53, x54 => bif (decide (x53 < ((x54.length : Int)))) then (getI x54 x53).bind fun v59 => (getI a1 a2.fB).bind fun v61 => (getI v61 x53).bind fun v63 => bif (!(v59.fKind == v63.fKind)) then some (([] : List T_impl_Column), false) else (getI x54 x53).bind fun v66 => bif v66.fEmpty then (getI x54 x53).bind fun v68 => spec_l6Columns_j3 x53 (spec_l6Columns_l2 a1 a2 f55) ((x54.set x53.toNat (({ v68 with fEmpty := true } : T_impl_Column)))) else (getI a1 a2.fB).bind fun v70 => (getI v70 x53).bind fun v72 => (getI x54 x53).bind fun v74 => spec_l6Columns_j3 x53 (spec_l6Columns_l2 a1 a2 f55) ((x54.set x53.toNat (({ v74 with fEmpty := v72.fEmpty } : T_impl_Column)))) else some (x54, true)
def spec_l6Columns_j0 (a1 : List (List T_impl_Column)) (a2 : T_impl_Step) (x12 : Bool) : Option ((List T_impl_Column) × Bool) := bif x12 then some (([] : List T_impl_Column), false) else (getI a1 a2.fA).bind fun v14 => (app (([] : List T_impl_Column)) v14).bind fun v16 => bif (a2.fKind == 2) then (spec_ExprKind v16 a2.fE).bind fun v19 => some (v16, (v19 == 3)) else bif (a2.fKind == 3) then spec_l6Columns_l1 a2 v16 FUEL 0 (([] : List T_impl_Column)) else bif (a2.fKind == 4) then (getI a1 a2.fB).bind fun v41 => (app v16 v41).bind fun v43 => bif (decide (((v43.length : Int)) ≤ 4)) then (spec_ExprKind v43 a2.fE).bind fun v45 => some (v43, (v45 == 3)) else some (v43, false) else bif (a2.fKind == 5) then (getI a1 a2.fB).bind fun v49 => bif (!(((v16.length : Int)) == ((v49.length : Int)))) then some (([] : List T_impl_Column), false) else spec_l6Columns_l2 a1 a2 FUEL 0 v16 else bif (a2.fKind == 6) then some (v16, true) else some (([] : List T_impl_Column), false)
def spec_l6Columns (a0 : List T_impl_Table) (a1 : List (List T_impl_Column)) (a2 : T_impl_Step) : Option ((List T_impl_Column) × Bool) := (spec_l6Fields a2).bind fun v1 => bif (!v1) then some (([] : List T_impl_Column), false) else bif (a2.fKind == 1) then (spec_l1In a2.fN 0 ((w64 (((a0.length : Int)) - 1)))).bind fun v5 => bif (!v5) then some (([] : List T_impl_Column), false) else (getI a0 a2.fN).bind fun v8 => (app (([] : List T_impl_Column)) v8.fColumns).bind fun v10 => some (v10, true) else (spec_l1In a2.fA 0 ((w64 (((a1.length : Int)) - 1)))).bind fun v78 => bif (!v78) then spec_l6Columns_j0 a1 a2 true else (spec_l1In a2.fB 0 ((w64 (((a1.length : Int)) - 1)))).bind fun v80 => spec_l6Columns_j0 a1 a2 ((!v80))
theorem ok_spec_l6Columns {a0 : List T_impl_Table} {a1 : List (List T_impl_Column)} {a2 : T_impl_Step} {y : (List T_impl_Column) × Bool} (h : spec_l6Columns a0 a1 a2 = some y) : OK Try.prog 54 [A a0, A a1, E a2] (.tup [O y.1, B y.2]) := by
  refine OK_of_pwp τ_ok Try.func54 rfl (by kernel_rfl) rfl fun Γ hX => ?_
  unfold spec_l6Columns at h
  refine pwp_seq ?_
  refine pwp_region ?_
  refine opsP_evk' (st' := ⟨185, [(0, A a0), (1, A a1), (5, .fptr (Enc.cells a2) 0)], []⟩) τ_ok [] 3 [0, 1, 5] (by kernel_rfl) ?_
  refine opsP_end rfl ?_
  refine pwp_seq ?_
  refine pwp_seq ?_
  refine pwp_region ?_
  refine opsP_evk' (st' := ⟨185, [(0, A a0), (1, A a1), (5, .fptr (Enc.cells a2) 0), (13, E a2)], []⟩) τ_ok [] 1 [0, 1, 5, 13] (by kernel_rfl) ?_
  obtain ⟨v1, hv2, h⟩ := bindS h
  refine opsP_callF τ 14 (ok_spec_l6Fields hv2) (FzTo.frz rfl) rfl (by kernel_rfl) ?_
  refine opsP_evk' (st' := ⟨185, [(0, A a0), (1, A a1), (5, .fptr (Enc.cells a2) 0), (15, B ((!v1)))], []⟩) τ_ok [] 1 [0, 1, 5, 15] (by kernel_rfl) ?_
  refine opsP_end rfl ?_
  refine pwp_cond ((!v1)) (by kernel_rfl) (fun hc3 => ?_) (fun hc3 => ?_)
  · replace h := bifT hc3 h
    refine pwp_seq ?_
    refine pwp_region ?_
    refine opsP_evk' (st' := ⟨185, [(6, .arr 2 0 (eL ([] : List T_impl_Column)) true), (7, B false)], []⟩) τ_ok [] 3 [6, 7] (by kernel_rfl) ?_
    refine opsP_end rfl ?_
    refine pwp_imp (Imp.to (st' := ⟨185, [(6, .arr 2 0 (eL ([] : List T_impl_Column)) true), (7, B false)], []⟩) [6, 7] (by kernel_rfl)) ?_
    refine pwp_imp (Imp.thawS (st' := ⟨185, [(6, .ref 0 0 0 2 (([] : List T_impl_Column)).length false), (7, B false)], [some ⟨0, eL (([] : List T_impl_Column))⟩]⟩) 6 [6, 7] (by kernel_rfl)) ?_
    have h := Option.some.inj h
    subst h
    exact pwp_ret ⟨.inr rfl, .tup [.ref 0 0 0 2 (([] : List T_impl_Column)).length false, B false], _, by kernel_rfl, (OutP.tup (OutL.cons (OutP.list (v := 0) (by kernel_rfl)) (OutL.cons (OutP.frz (by kernel_rfl)) (OutL.nil _)))), by decide⟩
  · replace h := bifF hc3 h
    refine pwp_skip ?_
    refine pwp_seq ?_
    refine pwp_seq ?_
    refine pwp_region ?_
    refine opsP_evk' (st' := ⟨185, [(0, A a0), (1, A a1), (5, .fptr (Enc.cells a2) 0), (19, B ((a2.fKind == 1)))], []⟩) τ_ok [] 3 [0, 1, 5, 19] (by kernel_rfl) ?_
    refine opsP_end rfl ?_
    refine pwp_cond ((a2.fKind == 1)) (by kernel_rfl) (fun hc4 => ?_) (fun hc4 => ?_)
    · replace h := bifT hc4 h
      refine pwp_seq ?_
      refine pwp_seq ?_
      refine pwp_region ?_
      refine opsP_evk' (st' := ⟨185, [(0, A a0), (5, .fptr (Enc.cells a2) 0), (21, I a2.fN), (24, I ((w64 (((a0.length : Int)) - 1))))], []⟩) τ_ok [] 5 [0, 5, 21, 24] (by kernel_rfl) ?_
      obtain ⟨v5, hv6, h⟩ := bindS h
      refine opsP_callF τ 25 (ok_spec_l1In hv6) (FzTo.frz rfl) rfl (by kernel_rfl) ?_
      refine opsP_evk' (st' := ⟨185, [(0, A a0), (5, .fptr (Enc.cells a2) 0), (26, B ((!v5)))], []⟩) τ_ok [] 1 [0, 5, 26] (by kernel_rfl) ?_
      refine opsP_end rfl ?_
      refine pwp_cond ((!v5)) (by kernel_rfl) (fun hc7 => ?_) (fun hc7 => ?_)
      · replace h := bifT hc7 h
        refine pwp_seq ?_
        refine pwp_region ?_
        refine opsP_evk' (st' := ⟨185, [(6, .arr 2 0 (eL ([] : List T_impl_Column)) true), (7, B false)], []⟩) τ_ok [] 3 [6, 7] (by kernel_rfl) ?_
        refine opsP_end rfl ?_
        refine pwp_imp (Imp.to (st' := ⟨185, [(6, .arr 2 0 (eL ([] : List T_impl_Column)) true), (7, B false)], []⟩) [6, 7] (by kernel_rfl)) ?_
        refine pwp_imp (Imp.thawS (st' := ⟨185, [(6, .ref 0 0 0 2 (([] : List T_impl_Column)).length false), (7, B false)], [some ⟨0, eL (([] : List T_impl_Column))⟩]⟩) 6 [6, 7] (by kernel_rfl)) ?_
        have h := Option.some.inj h
        subst h
        exact pwp_ret ⟨.inr rfl, .tup [.ref 0 0 0 2 (([] : List T_impl_Column)).length false, B false], _, by kernel_rfl, (OutP.tup (OutL.cons (OutP.list (v := 0) (by kernel_rfl)) (OutL.cons (OutP.frz (by kernel_rfl)) (OutL.nil _)))), by decide⟩
      · replace h := bifF hc7 h
        refine pwp_skip ?_
        refine pwp_seq ?_
        refine pwp_region ?_
        refine opsP_evk' (st' := ⟨185, [(28, .arr 2 0 (eL ([] : List T_impl_Column)) true), (29, A a0), (31, I a2.fN)], []⟩) τ_ok [] 4 [28, 29, 31] (by kernel_rfl) ?_
        obtain ⟨v8, hv9, h⟩ := bindS h
        refine opsP_idx τ_ok 32 hv9 (by kernel_rfl) ?_
        refine opsP_evk' (st' := ⟨185, [(28, .arr 2 0 (eL ([] : List T_impl_Column)) true), (34, A v8.fColumns)], []⟩) τ_ok [] 2 [28, 34] (by kernel_rfl) ?_
        refine opsP_thaw 28 2 (by kernel_rfl) ?_
        obtain ⟨v10, hv11, h⟩ := bindS h
        refine opsP_app τ_ok 35 0 0 (fun b hb => absurd hb (hX b)) hv11 (by kernel_rfl) ?_
        refine opsP_evk' (st' := ⟨185, [(6, .ref 0 1 0 2 v10.length false), (7, B true)], [some ⟨1, eL v10⟩]⟩) τ_ok [] 2 [6, 7] (by kernel_rfl) ?_
        refine opsP_end rfl ?_
        have h := Option.some.inj h
        subst h
        exact pwp_ret ⟨.inr rfl, .tup [.ref 0 1 0 2 v10.length false, B true], _, by kernel_rfl, (OutP.tup (OutL.cons (OutP.list (v := 1) (by kernel_rfl)) (OutL.cons (OutP.frz (by kernel_rfl)) (OutL.nil _)))), by decide⟩
    · replace h := bifF hc4 h
      refine pwp_skip ?_
      refine pwp_seq ?_
      refine pwp_seq ?_
      refine pwp_join (σ := Bool) (fun x12 => (⟨185, [(1, A a1), (5, .fptr (Enc.cells a2) 0), (51, B x12)], []⟩ : St)) (fun x12 => spec_l6Columns_j0 a1 a2 x12 = some y) ?_ ?_
      · refine pwp_region ?_
        refine opsP_evk' (st' := ⟨185, [(1, A a1), (5, .fptr (Enc.cells a2) 0), (37, I a2.fA), (40, I ((w64 (((a1.length : Int)) - 1))))], []⟩) τ_ok [] 5 [1, 5, 37, 40] (by kernel_rfl) ?_
        obtain ⟨v78, hv79, h⟩ := bindS h
        refine opsP_callF τ 41 (ok_spec_l1In hv79) (FzTo.frz rfl) rfl (by kernel_rfl) ?_
        refine opsP_evk' (st' := ⟨185, [(1, A a1), (5, .fptr (Enc.cells a2) 0), (43, B ((!v78)))], []⟩) τ_ok [] 2 [1, 5, 43] (by kernel_rfl) ?_
        rcases Bool.eq_false_or_eq_true ((!v78)) with hc82 | hc82
        · replace h := bifT hc82 h
          rw [hc82]
          refine opsP_evk' (st' := ⟨185, [(1, A a1), (5, .fptr (Enc.cells a2) 0), (51, B true)], []⟩) τ_ok [] 8 [1, 5, 51] (by kernel_rfl) ?_
          refine opsP_end rfl ?_
          exact ⟨true, h, (Imp.to (st' := ⟨185, [(1, A a1), (5, .fptr (Enc.cells a2) 0), (51, B true)], []⟩) [1, 5, 51] (by kernel_rfl)).trans (Imp.to [1, 5, 51] (by kernel_rfl))⟩
        · replace h := bifF hc82 h
          rw [hc82]
          refine opsP_evk' (st' := ⟨185, [(1, A a1), (5, .fptr (Enc.cells a2) 0), (43, B false), (45, I a2.fB), (48, I ((w64 (((a1.length : Int)) - 1))))], []⟩) τ_ok [] 5 [1, 5, 43, 45, 48] (by kernel_rfl) ?_
          obtain ⟨v80, hv81, h⟩ := bindS h
          refine opsP_callF τ 49 (ok_spec_l1In hv81) (FzTo.frz rfl) rfl (by kernel_rfl) ?_
          refine opsP_evk' (st' := ⟨185, [(1, A a1), (5, .fptr (Enc.cells a2) 0), (51, B ((!v80)))], []⟩) τ_ok [] 2 [1, 5, 51] (by kernel_rfl) ?_
          refine opsP_end rfl ?_
          exact ⟨(!v80), h, (Imp.to (st' := ⟨185, [(1, A a1), (5, .fptr (Enc.cells a2) 0), (51, B ((!v80)))], []⟩) [1, 5, 51] (by kernel_rfl)).trans (Imp.to [1, 5, 51] (by kernel_rfl))⟩
      · rintro x12 h
        skip
        unfold spec_l6Columns_j0 at h
        refine pwp_cond x12 (by kernel_rfl) (fun hc13 => ?_) (fun hc13 => ?_)
        · replace h := bifT hc13 h
          refine pwp_seq ?_
          refine pwp_region ?_
          refine opsP_evk' (st' := ⟨185, [(6, .arr 2 0 (eL ([] : List T_impl_Column)) true), (7, B false)], []⟩) τ_ok [] 3 [6, 7] (by kernel_rfl) ?_
          refine opsP_end rfl ?_
          refine pwp_imp (Imp.to (st' := ⟨185, [(6, .arr 2 0 (eL ([] : List T_impl_Column)) true), (7, B false)], []⟩) [6, 7] (by kernel_rfl)) ?_
          refine pwp_imp (Imp.thawS (st' := ⟨185, [(6, .ref 0 0 0 2 (([] : List T_impl_Column)).length false), (7, B false)], [some ⟨0, eL (([] : List T_impl_Column))⟩]⟩) 6 [6, 7] (by kernel_rfl)) ?_
          have h := Option.some.inj h
          subst h
          exact pwp_ret ⟨.inr rfl, .tup [.ref 0 0 0 2 (([] : List T_impl_Column)).length false, B false], _, by kernel_rfl, (OutP.tup (OutL.cons (OutP.list (v := 0) (by kernel_rfl)) (OutL.cons (OutP.frz (by kernel_rfl)) (OutL.nil _)))), by decide⟩
        · replace h := bifF hc13 h
          refine pwp_skip ?_
          refine pwp_seq ?_
          refine pwp_region ?_
          refine opsP_evk' (st' := ⟨185, [(1, A a1), (5, .fptr (Enc.cells a2) 0), (53, .arr 2 0 (eL ([] : List T_impl_Column)) true), (54, A a1), (56, I a2.fA)], []⟩) τ_ok [] 4 [1, 5, 53, 54, 56] (by kernel_rfl) ?_
          obtain ⟨v14, hv15, h⟩ := bindS h
          refine opsP_idx τ_ok 57 hv15 (by kernel_rfl) ?_
          refine opsP_evk' (st' := ⟨185, [(1, A a1), (5, .fptr (Enc.cells a2) 0), (53, .arr 2 0 (eL ([] : List T_impl_Column)) true), (58, A v14)], []⟩) τ_ok [] 1 [1, 5, 53, 58] (by kernel_rfl) ?_
          refine opsP_thaw 53 2 (by kernel_rfl) ?_
          obtain ⟨v16, hv17, h⟩ := bindS h
          refine opsP_app τ_ok 59 0 0 (fun b hb => absurd hb (hX b)) hv17 (by kernel_rfl) ?_
          refine opsP_evk' (st' := ⟨185, [(1, A a1), (5, .fptr (Enc.cells a2) 0), (8, .ref 0 1 0 2 v16.length false)], [some ⟨1, eL v16⟩]⟩) τ_ok [] 1 [1, 5, 8] (by kernel_rfl) ?_
          refine opsP_end rfl ?_
          refine pwp_seq ?_
          refine pwp_seq ?_
          refine pwp_region ?_
          refine opsP_evk' (st' := ⟨185, [(1, A a1), (5, .fptr (Enc.cells a2) 0), (8, .ref 0 1 0 2 v16.length false), (61, I a2.fKind)], [some ⟨1, eL v16⟩]⟩) τ_ok [] 2 [1, 5, 8, 61] (by kernel_rfl) ?_
          refine opsP_end rfl ?_
          refine pwp_block ?_
          refine pwp_seq ?_
          refine pwp_region ?_
          refine opsP_evk' (st' := ⟨185, [(1, A a1), (5, .fptr (Enc.cells a2) 0), (8, .ref 0 1 0 2 v16.length false), (61, I a2.fKind), (62, B ((a2.fKind == 2)))], [some ⟨1, eL v16⟩]⟩) τ_ok [] 2 [1, 5, 8, 61, 62] (by kernel_rfl) ?_
          refine opsP_end rfl ?_
          refine pwp_cond ((a2.fKind == 2)) (by kernel_rfl) (fun hc18 => ?_) (fun hc18 => ?_)
          · replace h := bifT hc18 h
            refine pwp_seq ?_
            refine pwp_region ?_
            refine opsP_evk' (st' := ⟨185, [(64, .ref 0 1 0 2 v16.length false), (65, .ref 0 1 0 2 v16.length false), (67, A a2.fE)], [some ⟨1, eL v16⟩]⟩) τ_ok [] 4 [64, 65, 67] (by kernel_rfl) ?_
            obtain ⟨v19, hv20, h⟩ := bindS h
            refine opsP_callV (xs := [.ref 0 1 0 2 v16.length false, A a2.fE]) τ 68 (ok_spec_ExprKind hv20) (Blind.lit _) (FzTo.frz rfl) (by kernel_rfl) (ViewL.cons (View.whole (v := 1) v16 (by kernel_rfl) rfl) (ViewL.cons (View.frz rfl) (ViewL.nil _))) ?_
            refine opsP_evk' (st' := ⟨185, [(6, .ref 0 1 0 2 v16.length false), (7, B ((v19 == 3)))], [some ⟨1, eL v16⟩]⟩) τ_ok [] 3 [6, 7] (by kernel_rfl) ?_
            refine opsP_end rfl ?_
            have h := Option.some.inj h
            subst h
            exact pwp_ret ⟨.inr rfl, .tup [.ref 0 1 0 2 v16.length false, B ((v19 == 3))], _, by kernel_rfl, (OutP.tup (OutL.cons (OutP.list (v := 1) (by kernel_rfl)) (OutL.cons (OutP.frz (by kernel_rfl)) (OutL.nil _)))), by decide⟩
          · replace h := bifF hc18 h
            refine pwp_seq ?_
            refine pwp_region ?_
            refine opsP_evk' (st' := ⟨185, [(1, A a1), (5, .fptr (Enc.cells a2) 0), (8, .ref 0 1 0 2 v16.length false), (61, I a2.fKind), (70, B ((a2.fKind == 3)))], [some ⟨1, eL v16⟩]⟩) τ_ok [] 2 [1, 5, 8, 61, 70] (by kernel_rfl) ?_
            refine opsP_end rfl ?_
            refine pwp_cond ((a2.fKind == 3)) (by kernel_rfl) (fun hc21 => ?_) (fun hc21 => ?_)
            · replace h := bifT hc21 h
              refine pwp_seq ?_
              refine pwp_region ?_
              refine opsP_evk' (st' := ⟨185, [(5, .fptr (Enc.cells a2) 0), (8, .ref 0 1 0 2 v16.length false), (9, .arr 2 0 (eL ([] : List T_impl_Column)) true)], [some ⟨1, eL v16⟩]⟩) τ_ok [] 2 [5, 8, 9] (by kernel_rfl) ?_
              refine opsP_end rfl ?_
              refine pwp_seq ?_
              refine pwp_seq ?_
              refine pwp_region ?_
              refine opsP_evk' (st' := ⟨185, [(5, .fptr (Enc.cells a2) 0), (8, .ref 0 1 0 2 v16.length false), (9, .arr 2 0 (eL ([] : List T_impl_Column)) true), (10, I 0)], [some ⟨1, eL v16⟩]⟩) τ_ok [] 1 [5, 8, 9, 10] (by kernel_rfl) ?_
              refine opsP_end rfl ?_
              refine pwp_block ?_
              refine pwp_loop (ι := Nat × Int × (List T_impl_Column)) (fun (f26, x24, x25) => (⟨185, [(5, .fptr (Enc.cells a2) 0), (8, .ref 0 0 0 2 v16.length false), (9, .ref 1 0 0 2 x25.length false), (10, I x24)], [some ⟨0, eL v16⟩, some ⟨0, eL x25⟩]⟩ : St)) (fun (f26, x24, x25) => spec_l6Columns_l1 a2 v16 f26 x24 x25 = some y) (fun (f26, x24, x25) => f26) (FUEL, 0, ([] : List T_impl_Column)) h ((Imp.to (st' := ⟨185, [(5, .fptr (Enc.cells a2) 0), (8, .ref 0 1 0 2 v16.length false), (9, .arr 2 0 (eL ([] : List T_impl_Column)) true), (10, I 0)], [some ⟨1, eL v16⟩]⟩) [5, 8, 9, 10] (by kernel_rfl)).trans ((Imp.thawS (st' := ⟨185, [(5, .fptr (Enc.cells a2) 0), (8, .ref 0 1 0 2 v16.length false), (9, .ref 1 0 0 2 (([] : List T_impl_Column)).length false), (10, I 0)], [some ⟨1, eL v16⟩, some ⟨0, eL (([] : List T_impl_Column))⟩]⟩) 9 [5, 8, 9, 10] (by kernel_rfl)).trans ((Imp.reverS (st' := ⟨185, [(5, .fptr (Enc.cells a2) 0), (8, .ref 0 0 0 2 v16.length false), (9, .ref 1 0 0 2 (([] : List T_impl_Column)).length false), (10, I 0)], [some ⟨0, eL v16⟩, some ⟨0, eL (([] : List T_impl_Column))⟩]⟩) 0 1 (eL v16) [5, 8, 9, 10] (by kernel_rfl) (by exact (And.intro (eL_frz _) (And.intro (eL_frz _) trivial))) (by kernel_rfl)).trans (Imp.to [5, 8, 9, 10] (by kernel_rfl))))) ?_
              rintro ⟨f26, x24, x25⟩ h
              dsimp only at h ⊢
              cases f26 with
              | zero => cases h
              | succ f26 =>
              rw [spec_l6Columns_l1] at h
              refine pwp_seq ?_
              refine pwp_seq ?_
              refine pwp_region ?_
              refine opsP_evk' (st' := ⟨185, [(5, .fptr (Enc.cells a2) 0), (8, .ref 0 0 0 2 v16.length false), (9, .ref 1 0 0 2 x25.length false), (10, I x24), (77, B ((decide (x24 < ((a2.fList.length : Int))))))], [some ⟨0, eL v16⟩, some ⟨0, eL x25⟩]⟩) τ_ok [] 5 [5, 8, 9, 10, 77] (by kernel_rfl) ?_
              refine opsP_end rfl ?_
              refine pwp_cond ((decide (x24 < ((a2.fList.length : Int))))) (by kernel_rfl) (fun hc28 => ?_) (fun hc28 => ?_)
              · replace h := bifT hc28 h
                refine pwp_skip ?_
                refine pwp_seq ?_
                refine pwp_block ?_
                refine pwp_seq ?_
                refine pwp_seq ?_
                refine pwp_region ?_
                refine opsP_evk' (st' := ⟨185, [(5, .fptr (Enc.cells a2) 0), (8, .ref 0 0 0 2 v16.length false), (9, .ref 1 0 0 2 x25.length false), (10, I x24), (81, A a2.fList), (82, I x24)], [some ⟨0, eL v16⟩, some ⟨0, eL x25⟩]⟩) τ_ok [] 3 [5, 8, 9, 10, 81, 82] (by kernel_rfl) ?_
                obtain ⟨v29, hv30, h⟩ := bindS h
                refine opsP_idx τ_ok 83 hv30 (by kernel_rfl) ?_
                refine opsP_evk' (st' := ⟨185, [(5, .fptr (Enc.cells a2) 0), (8, .ref 0 0 0 2 v16.length false), (9, .ref 1 0 0 2 x25.length false), (10, I x24), (84, I v29), (87, I ((w64 (((v16.length : Int)) - 1))))], [some ⟨0, eL v16⟩, some ⟨0, eL x25⟩]⟩) τ_ok [] 4 [5, 8, 9, 10, 84, 87] (by kernel_rfl) ?_
                obtain ⟨v31, hv32, h⟩ := bindS h
                refine opsP_callF τ 88 (ok_spec_l1In hv32) (FzTo.frz rfl) rfl (by kernel_rfl) ?_
                refine opsP_evk' (st' := ⟨185, [(5, .fptr (Enc.cells a2) 0), (8, .ref 0 0 0 2 v16.length false), (9, .ref 1 0 0 2 x25.length false), (10, I x24), (89, B ((!v31)))], [some ⟨0, eL v16⟩, some ⟨0, eL x25⟩]⟩) τ_ok [] 1 [5, 8, 9, 10, 89] (by kernel_rfl) ?_
                refine opsP_end rfl ?_
                refine pwp_cond ((!v31)) (by kernel_rfl) (fun hc33 => ?_) (fun hc33 => ?_)
                · replace h := bifT hc33 h
                  refine pwp_seq ?_
                  refine pwp_region ?_
                  refine opsP_evk' (st' := ⟨185, [(6, .arr 2 0 (eL ([] : List T_impl_Column)) true), (7, B false)], [some ⟨0, eL v16⟩, some ⟨0, eL x25⟩]⟩) τ_ok [] 3 [6, 7] (by kernel_rfl) ?_
                  refine opsP_end rfl ?_
                  refine pwp_imp (Imp.to (st' := ⟨185, [(6, .arr 2 0 (eL ([] : List T_impl_Column)) true), (7, B false)], [some ⟨0, eL v16⟩, some ⟨0, eL x25⟩]⟩) [6, 7] (by kernel_rfl)) ?_
                  refine pwp_imp (Imp.thawS (st' := ⟨185, [(6, .ref 2 0 0 2 (([] : List T_impl_Column)).length false), (7, B false)], [some ⟨0, eL v16⟩, some ⟨0, eL x25⟩, some ⟨0, eL (([] : List T_impl_Column))⟩]⟩) 6 [6, 7] (by kernel_rfl)) ?_
                  have h := Option.some.inj h
                  subst h
                  exact pwp_ret ⟨.inr rfl, .tup [.ref 2 0 0 2 (([] : List T_impl_Column)).length false, B false], _, by kernel_rfl, (OutP.tup (OutL.cons (OutP.list (v := 0) (by kernel_rfl)) (OutL.cons (OutP.frz (by kernel_rfl)) (OutL.nil _)))), by decide⟩
                · replace h := bifF hc33 h
                  refine pwp_skip ?_
                  refine pwp_region ?_
                  refine opsP_evk' (st' := ⟨185, [(5, .fptr (Enc.cells a2) 0), (8, .ref 0 0 0 2 v16.length false), (10, I x24), (91, .ref 1 0 0 2 x25.length false), (92, .ref 0 0 0 2 v16.length false), (94, A a2.fList), (95, I x24)], [some ⟨0, eL v16⟩, some ⟨0, eL x25⟩]⟩) τ_ok [] 5 [5, 8, 10, 91, 92, 94, 95] (by kernel_rfl) ?_
                  obtain ⟨v34, hv35, h⟩ := bindS h
                  refine opsP_idx τ_ok 96 hv35 (by kernel_rfl) ?_
                  refine opsP_evk' (st' := ⟨185, [(5, .fptr (Enc.cells a2) 0), (8, .ref 0 0 0 2 v16.length false), (10, I x24), (91, .ref 1 0 0 2 x25.length false), (92, .ref 0 0 0 2 v16.length false), (97, I v34)], [some ⟨0, eL v16⟩, some ⟨0, eL x25⟩]⟩) τ_ok [] 1 [5, 8, 10, 91, 92, 97] (by kernel_rfl) ?_
                  obtain ⟨v36, hv37, h⟩ := bindS h
                  refine opsP_idr τ_ok 98 0 0 v16.length hv37 rfl (by kernel_rfl) ?_
                  refine opsP_lde (r := E v36) τ_ok 99 77 0 hv37 (by kernel_rfl) (by kernel_rfl) ?_
                  refine opsP_evk' (st' := ⟨185, [(5, .fptr (Enc.cells a2) 0), (8, .ref 0 0 0 2 v16.length false), (10, I x24), (91, .ref 1 0 0 2 x25.length false), (100, .arr 2 (([v36] : List T_impl_Column)).length (eL ([v36] : List T_impl_Column)) true)], [some ⟨0, eL v16⟩, some ⟨0, eL x25⟩]⟩) τ_ok [] 1 [5, 8, 10, 91, 100] (by kernel_rfl) ?_
                  obtain ⟨v38, hv39, h⟩ := bindS h
                  refine opsP_app τ_ok 101 1 0 (fun b hb => absurd hb (hX b)) hv39 (by kernel_rfl) ?_
                  refine opsP_evk' (st' := ⟨185, [(5, .fptr (Enc.cells a2) 0), (8, .ref 0 0 0 2 v16.length false), (9, .ref 1 1 0 2 v38.length false), (10, I x24)], [some ⟨0, eL v16⟩, some ⟨1, eL v38⟩]⟩) τ_ok [] 1 [5, 8, 9, 10] (by kernel_rfl) ?_
                  refine opsP_end rfl ?_
                  refine pwp_region ?_
                  refine opsP_evk' (st' := ⟨185, [(5, .fptr (Enc.cells a2) 0), (8, .ref 0 0 0 2 v16.length false), (9, .ref 1 1 0 2 v38.length false), (10, I ((w64 (x24 + 1))))], [some ⟨0, eL v16⟩, some ⟨1, eL v38⟩]⟩) τ_ok [] 3 [5, 8, 9, 10] (by kernel_rfl) ?_
                  refine opsP_end rfl ?_
                  exact ⟨(f26, (w64 (x24 + 1)), v38), h, Nat.lt_succ_self _, (Imp.to (st' := ⟨185, [(5, .fptr (Enc.cells a2) 0), (8, .ref 0 0 0 2 v16.length false), (9, .ref 1 1 0 2 v38.length false), (10, I ((w64 (x24 + 1))))], [some ⟨0, eL v16⟩, some ⟨1, eL v38⟩]⟩) [5, 8, 9, 10] (by kernel_rfl)).trans ((Imp.reverS (st' := ⟨185, [(5, .fptr (Enc.cells a2) 0), (8, .ref 0 0 0 2 v16.length false), (9, .ref 1 0 0 2 v38.length false), (10, I ((w64 (x24 + 1))))], [some ⟨0, eL v16⟩, some ⟨0, eL v38⟩]⟩) 1 1 (eL v38) [5, 8, 9, 10] (by kernel_rfl) (by exact (And.intro (eL_frz _) (And.intro (eL_frz _) trivial))) (by kernel_rfl)).trans (Imp.to [5, 8, 9, 10] (by kernel_rfl)))⟩
              · replace h := bifF hc28 h
                refine pwp_exit ?_
                refine pwp_seq ?_
                refine pwp_region ?_
                refine opsP_evk' (st' := ⟨185, [(6, .ref 1 0 0 2 x25.length false), (7, B ((decide (((x25.length : Int)) ≤ 4))))], [some ⟨0, eL v16⟩, some ⟨0, eL x25⟩]⟩) τ_ok [] 6 [6, 7] (by kernel_rfl) ?_
                refine opsP_end rfl ?_
                have h := Option.some.inj h
                subst h
                exact pwp_ret ⟨.inr rfl, .tup [.ref 1 0 0 2 x25.length false, B ((decide (((x25.length : Int)) ≤ 4)))], _, by kernel_rfl, (OutP.tup (OutL.cons (OutP.list (v := 0) (by kernel_rfl)) (OutL.cons (OutP.frz (by kernel_rfl)) (OutL.nil _)))), by decide⟩
            · replace h := bifF hc21 h
              refine pwp_seq ?_
              refine pwp_region ?_
              refine opsP_evk' (st' := ⟨185, [(1, A a1), (5, .fptr (Enc.cells a2) 0), (8, .ref 0 1 0 2 v16.length false), (61, I a2.fKind), (106, B ((a2.fKind == 4)))], [some ⟨1, eL v16⟩]⟩) τ_ok [] 2 [1, 5, 8, 61, 106] (by kernel_rfl) ?_
              refine opsP_end rfl ?_
              refine pwp_cond ((a2.fKind == 4)) (by kernel_rfl) (fun hc40 => ?_) (fun hc40 => ?_)
              · replace h := bifT hc40 h
                refine pwp_seq ?_
                refine pwp_region ?_
                refine opsP_evk' (st' := ⟨185, [(5, .fptr (Enc.cells a2) 0), (108, .ref 0 1 0 2 v16.length false), (109, A a1), (111, I a2.fB)], [some ⟨1, eL v16⟩]⟩) τ_ok [] 4 [5, 108, 109, 111] (by kernel_rfl) ?_
                obtain ⟨v41, hv42, h⟩ := bindS h
                refine opsP_idx τ_ok 112 hv42 (by kernel_rfl) ?_
                refine opsP_evk' (st' := ⟨185, [(5, .fptr (Enc.cells a2) 0), (108, .ref 0 1 0 2 v16.length false), (113, A v41)], [some ⟨1, eL v16⟩]⟩) τ_ok [] 1 [5, 108, 113] (by kernel_rfl) ?_
                obtain ⟨v43, hv44, h⟩ := bindS h
                refine opsP_app τ_ok 114 0 1 (fun b hb => absurd hb (hX b)) hv44 (by kernel_rfl) ?_
                refine opsP_evk' (st' := ⟨185, [(5, .fptr (Enc.cells a2) 0), (11, .ref 0 2 0 2 v43.length false)], [some ⟨2, eL v43⟩]⟩) τ_ok [] 1 [5, 11] (by kernel_rfl) ?_
                refine opsP_end rfl ?_
                refine pwp_seq ?_
                refine pwp_region ?_
                refine opsP_evk' (st' := ⟨185, [(5, .fptr (Enc.cells a2) 0), (11, .ref 0 2 0 2 v43.length false), (115, .ref 0 2 0 2 v43.length false), (119, B ((decide (((v43.length : Int)) ≤ 4))))], [some ⟨2, eL v43⟩]⟩) τ_ok [] 5 [5, 11, 115, 119] (by kernel_rfl) ?_
                rcases Bool.eq_false_or_eq_true ((decide (((v43.length : Int)) ≤ 4))) with hc47 | hc47
                · replace h := bifT hc47 h
                  rw [hc47]
                  refine opsP_evk' (st' := ⟨185, [(115, .ref 0 2 0 2 v43.length false), (119, B true), (120, .ref 0 2 0 2 v43.length false), (122, A a2.fE)], [some ⟨2, eL v43⟩]⟩) τ_ok [] 3 [115, 119, 120, 122] (by kernel_rfl) ?_
                  obtain ⟨v45, hv46, h⟩ := bindS h
                  refine opsP_callV (xs := [.ref 0 2 0 2 v43.length false, A a2.fE]) τ 123 (ok_spec_ExprKind hv46) (Blind.lit _) (FzTo.frz rfl) (by kernel_rfl) (ViewL.cons (View.whole (v := 2) v43 (by kernel_rfl) rfl) (ViewL.cons (View.frz rfl) (ViewL.nil _))) ?_
                  refine opsP_evk' (st' := ⟨185, [(6, .ref 0 2 0 2 v43.length false), (7, B ((v45 == 3)))], [some ⟨2, eL v43⟩]⟩) τ_ok [] 4 [6, 7] (by kernel_rfl) ?_
                  refine opsP_end rfl ?_
                  have h := Option.some.inj h
                  subst h
                  exact pwp_ret ⟨.inr rfl, .tup [.ref 0 2 0 2 v43.length false, B ((v45 == 3))], _, by kernel_rfl, (OutP.tup (OutL.cons (OutP.list (v := 2) (by kernel_rfl)) (OutL.cons (OutP.frz (by kernel_rfl)) (OutL.nil _)))), by decide⟩
                · replace h := bifF hc47 h
                  rw [hc47]
                  refine opsP_evk' (st' := ⟨185, [(6, .ref 0 2 0 2 v43.length false), (7, B false)], [some ⟨2, eL v43⟩]⟩) τ_ok [] 8 [6, 7] (by kernel_rfl) ?_
                  refine opsP_end rfl ?_
                  have h := Option.some.inj h
                  subst h
                  exact pwp_ret ⟨.inr rfl, .tup [.ref 0 2 0 2 v43.length false, B false], _, by kernel_rfl, (OutP.tup (OutL.cons (OutP.list (v := 2) (by kernel_rfl)) (OutL.cons (OutP.frz (by kernel_rfl)) (OutL.nil _)))), by decide⟩
              · replace h := bifF hc40 h
                refine pwp_seq ?_
                refine pwp_region ?_
                refine opsP_evk' (st' := ⟨185, [(1, A a1), (5, .fptr (Enc.cells a2) 0), (8, .ref 0 1 0 2 v16.length false), (61, I a2.fKind), (126, B ((a2.fKind == 5)))], [some ⟨1, eL v16⟩]⟩) τ_ok [] 2 [1, 5, 8, 61, 126] (by kernel_rfl) ?_
                refine opsP_end rfl ?_
                refine pwp_cond ((a2.fKind == 5)) (by kernel_rfl) (fun hc48 => ?_) (fun hc48 => ?_)
                · replace h := bifT hc48 h
                  refine pwp_seq ?_
                  refine pwp_seq ?_
                  refine pwp_region ?_
                  refine opsP_evk' (st' := ⟨185, [(1, A a1), (5, .fptr (Enc.cells a2) 0), (8, .ref 0 1 0 2 v16.length false), (129, I ((v16.length : Int))), (130, A a1), (132, I a2.fB)], [some ⟨1, eL v16⟩]⟩) τ_ok [] 5 [1, 5, 8, 129, 130, 132] (by kernel_rfl) ?_
                  obtain ⟨v49, hv50, h⟩ := bindS h
                  refine opsP_idx τ_ok 133 hv50 (by kernel_rfl) ?_
                  refine opsP_evk' (st' := ⟨185, [(1, A a1), (5, .fptr (Enc.cells a2) 0), (8, .ref 0 1 0 2 v16.length false), (136, B ((!(((v16.length : Int)) == ((v49.length : Int))))))], [some ⟨1, eL v16⟩]⟩) τ_ok [] 3 [1, 5, 8, 136] (by kernel_rfl) ?_
                  refine opsP_end rfl ?_
                  refine pwp_cond ((!(((v16.length : Int)) == ((v49.length : Int))))) (by kernel_rfl) (fun hc51 => ?_) (fun hc51 => ?_)
                  · replace h := bifT hc51 h
                    refine pwp_seq ?_
                    refine pwp_region ?_
                    refine opsP_evk' (st' := ⟨185, [(6, .arr 2 0 (eL ([] : List T_impl_Column)) true), (7, B false)], [some ⟨1, eL v16⟩]⟩) τ_ok [] 3 [6, 7] (by kernel_rfl) ?_
                    refine opsP_end rfl ?_
                    refine pwp_imp (Imp.to (st' := ⟨185, [(6, .arr 2 0 (eL ([] : List T_impl_Column)) true), (7, B false)], [some ⟨1, eL v16⟩]⟩) [6, 7] (by kernel_rfl)) ?_
                    refine pwp_imp (Imp.thawS (st' := ⟨185, [(6, .ref 1 0 0 2 (([] : List T_impl_Column)).length false), (7, B false)], [some ⟨1, eL v16⟩, some ⟨0, eL (([] : List T_impl_Column))⟩]⟩) 6 [6, 7] (by kernel_rfl)) ?_
                    have h := Option.some.inj h
                    subst h
                    exact pwp_ret ⟨.inr rfl, .tup [.ref 1 0 0 2 (([] : List T_impl_Column)).length false, B false], _, by kernel_rfl, (OutP.tup (OutL.cons (OutP.list (v := 0) (by kernel_rfl)) (OutL.cons (OutP.frz (by kernel_rfl)) (OutL.nil _)))), by decide⟩
                  · replace h := bifF hc51 h
                    refine pwp_skip ?_
                    refine pwp_seq ?_
                    refine pwp_seq ?_
                    refine pwp_region ?_
                    refine opsP_evk' (st' := ⟨185, [(1, A a1), (5, .fptr (Enc.cells a2) 0), (8, .ref 0 1 0 2 v16.length false), (12, I 0)], [some ⟨1, eL v16⟩]⟩) τ_ok [] 1 [1, 5, 8, 12] (by kernel_rfl) ?_
                    refine opsP_end rfl ?_
                    refine pwp_block ?_
                    refine pwp_loop (ι := Nat × Int × (List T_impl_Column)) (fun (f55, x53, x54) => (⟨185, [(1, A a1), (5, .fptr (Enc.cells a2) 0), (8, .ref 0 0 0 2 x54.length false), (12, I x53)], [some ⟨0, eL x54⟩]⟩ : St)) (fun (f55, x53, x54) => spec_l6Columns_l2 a1 a2 f55 x53 x54 = some y) (fun (f55, x53, x54) => f55) (FUEL, 0, v16) h ((Imp.to (st' := ⟨185, [(1, A a1), (5, .fptr (Enc.cells a2) 0), (8, .ref 0 1 0 2 v16.length false), (12, I 0)], [some ⟨1, eL v16⟩]⟩) [1, 5, 8, 12] (by kernel_rfl)).trans ((Imp.reverS (st' := ⟨185, [(1, A a1), (5, .fptr (Enc.cells a2) 0), (8, .ref 0 0 0 2 v16.length false), (12, I 0)], [some ⟨0, eL v16⟩]⟩) 0 1 (eL v16) [1, 5, 8, 12] (by kernel_rfl) (by exact (And.intro (eL_frz _) trivial)) (by kernel_rfl)).trans (Imp.to [1, 5, 8, 12] (by kernel_rfl)))) ?_
                    rintro ⟨f55, x53, x54⟩ h
                    dsimp only at h ⊢
                    cases f55 with
                    | zero => cases h
                    | succ f55 =>
                    rw [spec_l6Columns_l2] at h
                    refine pwp_seq ?_
                    refine pwp_seq ?_
                    refine pwp_region ?_
                    refine opsP_evk' (st' := ⟨185, [(1, A a1), (5, .fptr (Enc.cells a2) 0), (8, .ref 0 0 0 2 x54.length false), (12, I x53), (141, B ((decide (x53 < ((x54.length : Int))))))], [some ⟨0, eL x54⟩]⟩) τ_ok [] 4 [1, 5, 8, 12, 141] (by kernel_rfl) ?_
                    refine opsP_end rfl ?_
                    refine pwp_cond ((decide (x53 < ((x54.length : Int))))) (by kernel_rfl) (fun hc57 => ?_) (fun hc57 => ?_)
                    · replace h := bifT hc57 h
                      refine pwp_skip ?_
                      refine pwp_seq ?_
                      refine pwp_join (σ := (List T_impl_Column)) (fun x58 => (⟨185, [(1, A a1), (5, .fptr (Enc.cells a2) 0), (8, .ref 0 0 0 2 x58.length false), (12, I x53)], [some ⟨0, eL x58⟩]⟩ : St)) (fun x58 => spec_l6Columns_j3 x53 (spec_l6Columns_l2 a1 a2 f55) x58 = some y) ?_ ?_
                      · refine pwp_block ?_
                        refine pwp_seq ?_
                        refine pwp_seq ?_
                        refine pwp_imp (Imp.to (st' := ⟨185, [(1, A a1), (5, .fptr (Enc.cells a2) 0), (8, .ref 0 0 0 2 x54.length false), (12, I x53)], [some ⟨0, eL x54⟩]⟩) [1, 5, 8, 12] (by kernel_rfl)) ?_
                        refine pwp_any ([[0], [], [0], [0], [0], [], [], [], [], [], [], [], [], [], []]) ([[], [], [], [], [], [], [], [], [], [], [], [], [], [], []]) rfl (by kernel_rfl) ?_
                        refine qA_ev (st' := ⟨185, [(144, .ref 0 0 0 2 x54.length false), (1, A a1), (5, .fptr (Enc.cells a2) 0), (8, .ref 0 0 0 2 x54.length false), (12, I x53)], [some ⟨0, eL x54⟩]⟩) τ_ok [] [0] 1 (by exact (And.intro (.inl (eL_frz _)) trivial)) (by kernel_rfl) ?_
                        refine qA_ev (st' := ⟨185, [(145, I x53), (144, .ref 0 0 0 2 x54.length false), (1, A a1), (5, .fptr (Enc.cells a2) 0), (8, .ref 0 0 0 2 x54.length false), (12, I x53)], [some ⟨0, eL x54⟩]⟩) τ_ok [] [] 1 (by exact trivial) (by kernel_rfl) ?_
                        obtain ⟨v59, hv60, h⟩ := bindS h
                        refine qA_E (dd := some 146) (x := .ptr 0 0 (x53.toNat * 2)) ([some ⟨0, eL x54⟩]) (⟨185, [(146, .ptr 0 0 (x53.toNat * 2)), (145, I x53), (144, .ref 0 0 0 2 x54.length false), (1, A a1), (5, .fptr (Enc.cells a2) 0), (8, .ref 0 0 0 2 x54.length false), (12, I x53)], [some ⟨0, eL x54⟩]⟩) (fun Γ' hΓ => CoreE.of_y (idrV_sound (n := x54.length) τ_ok (by kernel_rfl) hv60 rfl)) (by kernel_rfl) (by kernel_rfl) (by exact (And.intro (.inl (eL_frz _)) trivial)) (.inr (.inl rfl)) (by kernel_rfl) ?_
                        refine qA_ev (st' := ⟨185, [(147, .ptr 0 0 (x53.toNat * 2)), (146, .ptr 0 0 (x53.toNat * 2)), (145, I x53), (144, .ref 0 0 0 2 x54.length false), (1, A a1), (5, .fptr (Enc.cells a2) 0), (8, .ref 0 0 0 2 x54.length false), (12, I x53)], [some ⟨0, eL x54⟩]⟩) τ_ok [] [0] 1 (by exact (And.intro (.inl (eL_frz _)) trivial)) (by kernel_rfl) ?_
                        refine qA_E (dd := some 148) (x := I v59.fKind) ([some ⟨0, eL x54⟩]) (⟨185, [(148, I v59.fKind), (147, .ptr 0 0 (x53.toNat * 2)), (146, .ptr 0 0 (x53.toNat * 2)), (145, I x53), (144, .ref 0 0 0 2 x54.length false), (1, A a1), (5, .fptr (Enc.cells a2) 0), (8, .ref 0 0 0 2 x54.length false), (12, I x53)], [some ⟨0, eL x54⟩]⟩) (fun Γ' hΓ => CoreE.of_y (ldeV_sound (t := 3) (o' := 0) (r := I v59.fKind) τ_ok hv60 (by kernel_rfl) (by kernel_rfl))) (by kernel_rfl) (by kernel_rfl) (by exact (And.intro (.inl (eL_frz _)) trivial)) (.inr (.inr rfl)) (by kernel_rfl) ?_
                        refine qA_ev (st' := ⟨185, [(151, I a2.fB), (150, .fptr (Enc.cells a2) 2), (149, A a1), (148, I v59.fKind), (147, .ptr 0 0 (x53.toNat * 2)), (146, .ptr 0 0 (x53.toNat * 2)), (145, I x53), (144, .ref 0 0 0 2 x54.length false), (1, A a1), (5, .fptr (Enc.cells a2) 0), (8, .ref 0 0 0 2 x54.length false), (12, I x53)], [some ⟨0, eL x54⟩]⟩) τ_ok [] [] 3 (by exact trivial) (by kernel_rfl) ?_
                        obtain ⟨v61, hv62, h⟩ := bindS h
                        refine qA_E (dd := some 152) (x := .fptr (Enc.cells v61) 0) ([none]) (⟨185, [(152, .fptr (Enc.cells v61) 0), (151, I a2.fB), (150, .fptr (Enc.cells a2) 2), (149, A a1), (148, I v59.fKind), (147, .ptr 0 0 (x53.toNat * 2)), (146, .ptr 0 0 (x53.toNat * 2)), (145, I x53), (144, .ref 0 0 0 2 x54.length false), (1, A a1), (5, .fptr (Enc.cells a2) 0), (8, .ref 0 0 0 2 x54.length false), (12, I x53)], [some ⟨0, eL x54⟩]⟩) (fun Γ' hΓ => CoreE.of_y (idxV_sound τ_ok (by kernel_rfl) hv62)) (by kernel_rfl) (by kernel_rfl) (by exact trivial) (.inr (.inr rfl)) (by kernel_rfl) ?_
                        refine qA_ev (st' := ⟨185, [(154, I x53), (153, A v61), (152, .fptr (Enc.cells v61) 0), (151, I a2.fB), (150, .fptr (Enc.cells a2) 2), (149, A a1), (148, I v59.fKind), (147, .ptr 0 0 (x53.toNat * 2)), (146, .ptr 0 0 (x53.toNat * 2)), (145, I x53), (144, .ref 0 0 0 2 x54.length false), (1, A a1), (5, .fptr (Enc.cells a2) 0), (8, .ref 0 0 0 2 x54.length false), (12, I x53)], [some ⟨0, eL x54⟩]⟩) τ_ok [] [] 2 (by exact trivial) (by kernel_rfl) ?_
                        obtain ⟨v63, hv64, h⟩ := bindS h
                        refine qA_E (dd := some 155) (x := .fptr (Enc.cells v63) 0) ([none]) (⟨185, [(155, .fptr (Enc.cells v63) 0), (154, I x53), (153, A v61), (152, .fptr (Enc.cells v61) 0), (151, I a2.fB), (150, .fptr (Enc.cells a2) 2), (149, A a1), (148, I v59.fKind), (147, .ptr 0 0 (x53.toNat * 2)), (146, .ptr 0 0 (x53.toNat * 2)), (145, I x53), (144, .ref 0 0 0 2 x54.length false), (1, A a1), (5, .fptr (Enc.cells a2) 0), (8, .ref 0 0 0 2 x54.length false), (12, I x53)], [some ⟨0, eL x54⟩]⟩) (fun Γ' hΓ => CoreE.of_y (idxV_sound τ_ok (by kernel_rfl) hv64)) (by kernel_rfl) (by kernel_rfl) (by exact trivial) (.inr (.inr rfl)) (by kernel_rfl) ?_
                        refine qA_ev (st' := ⟨185, [(158, B ((!(v59.fKind == v63.fKind)))), (157, I v63.fKind), (156, .fptr (Enc.cells v63) 0), (155, .fptr (Enc.cells v63) 0), (154, I x53), (153, A v61), (152, .fptr (Enc.cells v61) 0), (151, I a2.fB), (150, .fptr (Enc.cells a2) 2), (149, A a1), (148, I v59.fKind), (147, .ptr 0 0 (x53.toNat * 2)), (146, .ptr 0 0 (x53.toNat * 2)), (145, I x53), (144, .ref 0 0 0 2 x54.length false), (1, A a1), (5, .fptr (Enc.cells a2) 0), (8, .ref 0 0 0 2 x54.length false), (12, I x53)], [some ⟨0, eL x54⟩]⟩) τ_ok [] [] 3 (by exact trivial) (by kernel_rfl) ?_
                        refine qA_end ?_
                        refine opsP_imp (Imp.to (st' := ⟨185, [(1, A a1), (5, .fptr (Enc.cells a2) 0), (8, .ref 0 0 0 2 x54.length false), (12, I x53), (158, B ((!(v59.fKind == v63.fKind))))], [some ⟨0, eL x54⟩]⟩) [1, 5, 8, 12, 158] (by kernel_rfl)) ?_
                        refine opsP_end rfl ?_
                        refine pwp_cond ((!(v59.fKind == v63.fKind))) (by kernel_rfl) (fun hc65 => ?_) (fun hc65 => ?_)
                        · replace h := bifT hc65 h
                          refine pwp_seq ?_
                          refine pwp_region ?_
                          refine opsP_evk' (st' := ⟨185, [(6, .arr 2 0 (eL ([] : List T_impl_Column)) true), (7, B false)], [some ⟨0, eL x54⟩]⟩) τ_ok [] 3 [6, 7] (by kernel_rfl) ?_
                          refine opsP_end rfl ?_
                          refine pwp_imp (Imp.to (st' := ⟨185, [(6, .arr 2 0 (eL ([] : List T_impl_Column)) true), (7, B false)], [some ⟨0, eL x54⟩]⟩) [6, 7] (by kernel_rfl)) ?_
                          refine pwp_imp (Imp.thawS (st' := ⟨185, [(6, .ref 1 0 0 2 (([] : List T_impl_Column)).length false), (7, B false)], [some ⟨0, eL x54⟩, some ⟨0, eL (([] : List T_impl_Column))⟩]⟩) 6 [6, 7] (by kernel_rfl)) ?_
                          have h := Option.some.inj h
                          subst h
                          exact pwp_ret ⟨.inr rfl, .tup [.ref 1 0 0 2 (([] : List T_impl_Column)).length false, B false], _, by kernel_rfl, (OutP.tup (OutL.cons (OutP.list (v := 0) (by kernel_rfl)) (OutL.cons (OutP.frz (by kernel_rfl)) (OutL.nil _)))), by decide⟩
                        · replace h := bifF hc65 h
                          refine pwp_skip ?_
                          refine pwp_region ?_
                          refine opsP_evk' (st' := ⟨185, [(1, A a1), (5, .fptr (Enc.cells a2) 0), (8, .ref 0 0 0 2 x54.length false), (12, I x53), (160, .ref 0 0 0 2 x54.length false), (161, I x53), (162, .ref 0 0 0 2 x54.length false), (163, I x53)], [some ⟨0, eL x54⟩]⟩) τ_ok [] 4 [1, 5, 8, 12, 160, 161, 162, 163] (by kernel_rfl) ?_
                          obtain ⟨v66, hv67, h⟩ := bindS h
                          refine opsP_idr τ_ok 164 0 0 x54.length hv67 rfl (by kernel_rfl) ?_
                          refine opsP_evk' (st' := ⟨185, [(1, A a1), (5, .fptr (Enc.cells a2) 0), (8, .ref 0 0 0 2 x54.length false), (12, I x53), (160, .ref 0 0 0 2 x54.length false), (161, I x53), (165, .ptr 0 0 (x53.toNat * 2 + 1))], [some ⟨0, eL x54⟩]⟩) τ_ok [] 1 [1, 5, 8, 12, 160, 161, 165] (by kernel_rfl) ?_
                          refine opsP_lde (r := B v66.fEmpty) τ_ok 166 4 1 hv67 (by kernel_rfl) (by kernel_rfl) ?_
                          refine opsP_evk' (st' := ⟨185, [(1, A a1), (5, .fptr (Enc.cells a2) 0), (8, .ref 0 0 0 2 x54.length false), (12, I x53), (160, .ref 0 0 0 2 x54.length false), (161, I x53), (167, B v66.fEmpty)], [some ⟨0, eL x54⟩]⟩) τ_ok [] 1 [1, 5, 8, 12, 160, 161, 167] (by kernel_rfl) ?_
                          rcases Bool.eq_false_or_eq_true v66.fEmpty with hc76 | hc76
                          · replace h := bifT hc76 h
                            rw [hc76]
                            refine opsP_evk' (st' := ⟨185, [(1, A a1), (5, .fptr (Enc.cells a2) 0), (8, .ref 0 0 0 2 x54.length false), (12, I x53), (160, .ref 0 0 0 2 x54.length false), (161, I x53), (168, .lit undef), (169, .lit undef), (170, .lit undef), (171, .lit undef), (172, .lit undef), (173, .lit undef), (174, .lit undef), (175, .lit undef), (176, .lit undef), (177, B true)], [some ⟨0, eL x54⟩]⟩) τ_ok [] 10 [1, 5, 8, 12, 160, 161, 168, 169, 170, 171, 172, 173, 174, 175, 176, 177] (by kernel_rfl) ?_
                            obtain ⟨v68, hv69, h⟩ := bindS h
                            refine opsP_idr τ_ok 178 0 0 x54.length hv69 rfl (by kernel_rfl) ?_
                            refine opsP_evk' (st' := ⟨185, [(1, A a1), (5, .fptr (Enc.cells a2) 0), (8, .ref 0 0 0 2 x54.length false), (12, I x53), (168, .lit undef), (169, .lit undef), (170, .lit undef), (171, .lit undef), (172, .lit undef), (173, .lit undef), (174, .lit undef), (175, .lit undef), (176, .lit undef), (177, B true), (179, .ptr 0 0 (x53.toNat * 2 + 1))], [some ⟨0, eL x54⟩]⟩) τ_ok [] 1 [1, 5, 8, 12, 168, 169, 170, 171, 172, 173, 174, 175, 176, 177, 179] (by kernel_rfl) ?_
                            refine opsP_ste (vs := [B true]) τ_ok 4 0 0 1 (({ v68 with fEmpty := true } : T_impl_Column)) hv69 (by kernel_rfl) (by kernel_rfl) (by kernel_rfl) (renC trivial (renC trivial (renC (ren_ref (List.length_set ..).symm) (renC trivial (renC trivial (renC trivial (renC trivial (renC trivial (renC trivial (renC trivial (renC trivial (renC trivial (renC trivial (renC trivial (renC trivial renC0))))))))))))))) ?_
                            refine opsP_evk' (st' := ⟨185, [(1, A a1), (5, .fptr (Enc.cells a2) 0), (8, .ref 0 0 0 2 ((x54.set x53.toNat (({ v68 with fEmpty := true } : T_impl_Column)))).length false), (12, I x53), (168, .lit undef), (169, .lit undef), (170, .lit undef), (171, .lit undef), (172, .lit undef), (173, .lit undef), (174, .lit undef), (175, .lit undef), (176, .lit undef)], [some ⟨0, eL ((x54.set x53.toNat (({ v68 with fEmpty := true } : T_impl_Column))))⟩]⟩) τ_ok [] 0 [1, 5, 8, 12, 168, 169, 170, 171, 172, 173, 174, 175, 176] (by kernel_rfl) ?_
                            refine opsP_end rfl ?_
                            exact ⟨(x54.set x53.toNat (({ v68 with fEmpty := true } : T_impl_Column))), h, (Imp.to (st' := ⟨185, [(1, A a1), (5, .fptr (Enc.cells a2) 0), (8, .ref 0 0 0 2 ((x54.set x53.toNat (({ v68 with fEmpty := true } : T_impl_Column)))).length false), (12, I x53)], [some ⟨0, eL ((x54.set x53.toNat (({ v68 with fEmpty := true } : T_impl_Column))))⟩]⟩) [1, 5, 8, 12] (by kernel_rfl)).trans (Imp.to [1, 5, 8, 12] (by kernel_rfl))⟩
                          · replace h := bifF hc76 h
                            rw [hc76]
                            refine opsP_evk' (st' := ⟨185, [(1, A a1), (5, .fptr (Enc.cells a2) 0), (8, .ref 0 0 0 2 x54.length false), (12, I x53), (160, .ref 0 0 0 2 x54.length false), (161, I x53), (167, B false), (168, A a1), (169, .fptr (Enc.cells a2) 2), (170, I a2.fB)], [some ⟨0, eL x54⟩]⟩) τ_ok [] 3 [1, 5, 8, 12, 160, 161, 167, 168, 169, 170] (by kernel_rfl) ?_
                            obtain ⟨v70, hv71, h⟩ := bindS h
                            refine opsP_idx τ_ok 171 hv71 (by kernel_rfl) ?_
                            refine opsP_evk' (st' := ⟨185, [(1, A a1), (5, .fptr (Enc.cells a2) 0), (8, .ref 0 0 0 2 x54.length false), (12, I x53), (160, .ref 0 0 0 2 x54.length false), (161, I x53), (167, B false), (168, A a1), (169, .fptr (Enc.cells a2) 2), (170, I a2.fB), (171, .fptr (Enc.cells v70) 0), (172, A v70), (173, I x53)], [some ⟨0, eL x54⟩]⟩) τ_ok [] 2 [1, 5, 8, 12, 160, 161, 167, 168, 169, 170, 171, 172, 173] (by kernel_rfl) ?_
                            obtain ⟨v72, hv73, h⟩ := bindS h
                            refine opsP_idx τ_ok 174 hv73 (by kernel_rfl) ?_
                            refine opsP_evk' (st' := ⟨185, [(1, A a1), (5, .fptr (Enc.cells a2) 0), (8, .ref 0 0 0 2 x54.length false), (12, I x53), (160, .ref 0 0 0 2 x54.length false), (161, I x53), (168, A a1), (169, .fptr (Enc.cells a2) 2), (170, I a2.fB), (171, .fptr (Enc.cells v70) 0), (172, A v70), (173, I x53), (174, .fptr (Enc.cells v72) 0), (175, .fptr (Enc.cells v72) 1), (176, B v72.fEmpty), (177, B v72.fEmpty)], [some ⟨0, eL x54⟩]⟩) τ_ok [] 3 [1, 5, 8, 12, 160, 161, 168, 169, 170, 171, 172, 173, 174, 175, 176, 177] (by kernel_rfl) ?_
                            obtain ⟨v74, hv75, h⟩ := bindS h
                            refine opsP_idr τ_ok 178 0 0 x54.length hv75 rfl (by kernel_rfl) ?_
                            refine opsP_evk' (st' := ⟨185, [(1, A a1), (5, .fptr (Enc.cells a2) 0), (8, .ref 0 0 0 2 x54.length false), (12, I x53), (168, A a1), (169, .fptr (Enc.cells a2) 2), (170, I a2.fB), (171, .fptr (Enc.cells v70) 0), (172, A v70), (173, I x53), (174, .fptr (Enc.cells v72) 0), (175, .fptr (Enc.cells v72) 1), (176, B v72.fEmpty), (177, B v72.fEmpty), (179, .ptr 0 0 (x53.toNat * 2 + 1))], [some ⟨0, eL x54⟩]⟩) τ_ok [] 1 [1, 5, 8, 12, 168, 169, 170, 171, 172, 173, 174, 175, 176, 177, 179] (by kernel_rfl) ?_
                            refine opsP_ste (vs := [B v72.fEmpty]) τ_ok 4 0 0 1 (({ v74 with fEmpty := v72.fEmpty } : T_impl_Column)) hv75 (by kernel_rfl) (by kernel_rfl) (by kernel_rfl) (renC trivial (renC trivial (renC (ren_ref (List.length_set ..).symm) (renC trivial (renC trivial (renC trivial (renC trivial (renC trivial (renC trivial (renC trivial (renC trivial (renC trivial (renC trivial (renC trivial (renC trivial renC0))))))))))))))) ?_
                            refine opsP_evk' (st' := ⟨185, [(1, A a1), (5, .fptr (Enc.cells a2) 0), (8, .ref 0 0 0 2 ((x54.set x53.toNat (({ v74 with fEmpty := v72.fEmpty } : T_impl_Column)))).length false), (12, I x53), (168, A a1), (169, .fptr (Enc.cells a2) 2), (170, I a2.fB), (171, .fptr (Enc.cells v70) 0), (172, A v70), (173, I x53), (174, .fptr (Enc.cells v72) 0), (175, .fptr (Enc.cells v72) 1), (176, B v72.fEmpty)], [some ⟨0, eL ((x54.set x53.toNat (({ v74 with fEmpty := v72.fEmpty } : T_impl_Column))))⟩]⟩) τ_ok [] 0 [1, 5, 8, 12, 168, 169, 170, 171, 172, 173, 174, 175, 176] (by kernel_rfl) ?_
                            refine opsP_end rfl ?_
                            exact ⟨(x54.set x53.toNat (({ v74 with fEmpty := v72.fEmpty } : T_impl_Column))), h, (Imp.to (st' := ⟨185, [(1, A a1), (5, .fptr (Enc.cells a2) 0), (8, .ref 0 0 0 2 ((x54.set x53.toNat (({ v74 with fEmpty := v72.fEmpty } : T_impl_Column)))).length false), (12, I x53)], [some ⟨0, eL ((x54.set x53.toNat (({ v74 with fEmpty := v72.fEmpty } : T_impl_Column))))⟩]⟩) [1, 5, 8, 12] (by kernel_rfl)).trans (Imp.to [1, 5, 8, 12] (by kernel_rfl))⟩
                      · rintro x58 h
                        skip
                        unfold spec_l6Columns_j3 at h
                        refine pwp_region ?_
                        refine opsP_evk' (st' := ⟨185, [(1, A a1), (5, .fptr (Enc.cells a2) 0), (8, .ref 0 0 0 2 x58.length false), (12, I ((w64 (x53 + 1))))], [some ⟨0, eL x58⟩]⟩) τ_ok [] 3 [1, 5, 8, 12] (by kernel_rfl) ?_
                        refine opsP_end rfl ?_
                        exact ⟨(f55, (w64 (x53 + 1)), x58), h, Nat.lt_succ_self _, (Imp.to (st' := ⟨185, [(1, A a1), (5, .fptr (Enc.cells a2) 0), (8, .ref 0 0 0 2 x58.length false), (12, I ((w64 (x53 + 1))))], [some ⟨0, eL x58⟩]⟩) [1, 5, 8, 12] (by kernel_rfl)).trans (Imp.to [1, 5, 8, 12] (by kernel_rfl))⟩
                    · replace h := bifF hc57 h
                      refine pwp_exit ?_
                      refine pwp_seq ?_
                      refine pwp_region ?_
                      refine opsP_evk' (st' := ⟨185, [(6, .ref 0 0 0 2 x54.length false), (7, B true)], [some ⟨0, eL x54⟩]⟩) τ_ok [] 3 [6, 7] (by kernel_rfl) ?_
                      refine opsP_end rfl ?_
                      have h := Option.some.inj h
                      subst h
                      exact pwp_ret ⟨.inr rfl, .tup [.ref 0 0 0 2 x54.length false, B true], _, by kernel_rfl, (OutP.tup (OutL.cons (OutP.list (v := 0) (by kernel_rfl)) (OutL.cons (OutP.frz (by kernel_rfl)) (OutL.nil _)))), by decide⟩
                · replace h := bifF hc48 h
                  refine pwp_seq ?_
                  refine pwp_region ?_
                  refine opsP_evk' (st' := ⟨185, [(8, .ref 0 1 0 2 v16.length false), (181, B ((a2.fKind == 6)))], [some ⟨1, eL v16⟩]⟩) τ_ok [] 2 [8, 181] (by kernel_rfl) ?_
                  refine opsP_end rfl ?_
                  refine pwp_cond ((a2.fKind == 6)) (by kernel_rfl) (fun hc77 => ?_) (fun hc77 => ?_)
                  · replace h := bifT hc77 h
                    refine pwp_seq ?_
                    refine pwp_region ?_
                    refine opsP_evk' (st' := ⟨185, [(6, .ref 0 1 0 2 v16.length false), (7, B true)], [some ⟨1, eL v16⟩]⟩) τ_ok [] 3 [6, 7] (by kernel_rfl) ?_
                    refine opsP_end rfl ?_
                    have h := Option.some.inj h
                    subst h
                    exact pwp_ret ⟨.inr rfl, .tup [.ref 0 1 0 2 v16.length false, B true], _, by kernel_rfl, (OutP.tup (OutL.cons (OutP.list (v := 1) (by kernel_rfl)) (OutL.cons (OutP.frz (by kernel_rfl)) (OutL.nil _)))), by decide⟩
                  · replace h := bifF hc77 h
                    refine pwp_skip ?_
                    refine pwp_seq ?_
                    refine pwp_region ?_
                    refine opsP_evk' (st' := ⟨185, [(6, .arr 2 0 (eL ([] : List T_impl_Column)) true), (7, B false)], [some ⟨1, eL v16⟩]⟩) τ_ok [] 3 [6, 7] (by kernel_rfl) ?_
                    refine opsP_end rfl ?_
                    refine pwp_imp (Imp.to (st' := ⟨185, [(6, .arr 2 0 (eL ([] : List T_impl_Column)) true), (7, B false)], [some ⟨1, eL v16⟩]⟩) [6, 7] (by kernel_rfl)) ?_
                    refine pwp_imp (Imp.thawS (st' := ⟨185, [(6, .ref 1 0 0 2 (([] : List T_impl_Column)).length false), (7, B false)], [some ⟨1, eL v16⟩, some ⟨0, eL (([] : List T_impl_Column))⟩]⟩) 6 [6, 7] (by kernel_rfl)) ?_
                    have h := Option.some.inj h
                    subst h
                    exact pwp_ret ⟨.inr rfl, .tup [.ref 1 0 0 2 (([] : List T_impl_Column)).length false, B false], _, by kernel_rfl, (OutP.tup (OutL.cons (OutP.list (v := 0) (by kernel_rfl)) (OutL.cons (OutP.frz (by kernel_rfl)) (OutL.nil _)))), by decide⟩

/- loop.example/tablehouse/spec.RowsOk -/
def spec_RowsOk_l0 (a0 : List T_impl_Column) (a1 : List (List T_impl_Value)) : Nat → Int → Option Bool
  | 0, _ => none
  | f2 + 1, x1 => bif (decide (x1 < ((a1.length : Int)))) then (getI a1 x1).bind fun v5 => (spec_RowFits a0 v5).bind fun v7 => bif (!v7) then some false else (spec_RowsOk_l0 a0 a1 f2) ((w64 (x1 + 1))) else (spec_ColumnsOk a0).bind fun v10 => some v10
def spec_RowsOk (a0 : List T_impl_Column) (a1 : List (List T_impl_Value)) : Option Bool := spec_RowsOk_l0 a0 a1 FUEL 0
theorem ok_spec_RowsOk {a0 : List T_impl_Column} {a1 : List (List T_impl_Value)} {y : Bool} (h : spec_RowsOk a0 a1 = some y) : OK Try.prog 56 [A a0, A a1] (B y) := by
  refine OK_of_pwp τ_ok Try.func56 rfl (by kernel_rfl) rfl fun Γ hX => ?_
  unfold spec_RowsOk at h
  refine pwp_seq ?_
  refine pwp_region ?_
  refine opsP_evk' (st' := ⟨21, [(0, A a0), (1, A a1)], []⟩) τ_ok [] 1 [0, 1] (by kernel_rfl) ?_
  refine opsP_end rfl ?_
  refine pwp_seq ?_
  refine pwp_seq ?_
  refine pwp_region ?_
  refine opsP_evk' (st' := ⟨21, [(0, A a0), (1, A a1), (5, I 0)], []⟩) τ_ok [] 1 [0, 1, 5] (by kernel_rfl) ?_
  refine opsP_end rfl ?_
  refine pwp_block ?_
  refine pwp_loop (ι := Nat × Int) (fun (f2, x1) => (⟨21, [(0, A a0), (1, A a1), (5, I x1)], []⟩ : St)) (fun (f2, x1) => spec_RowsOk_l0 a0 a1 f2 x1 = some y) (fun (f2, x1) => f2) (FUEL, 0) h ((Imp.to (st' := ⟨21, [(0, A a0), (1, A a1), (5, I 0)], []⟩) [0, 1, 5] (by kernel_rfl)).trans (Imp.to [0, 1, 5] (by kernel_rfl))) ?_
  rintro ⟨f2, x1⟩ h
  dsimp only at h ⊢
  cases f2 with
  | zero => cases h
  | succ f2 =>
  rw [spec_RowsOk_l0] at h
  refine pwp_seq ?_
  refine pwp_seq ?_
  refine pwp_region ?_
  refine opsP_evk' (st' := ⟨21, [(0, A a0), (1, A a1), (5, I x1), (9, B ((decide (x1 < ((a1.length : Int))))))], []⟩) τ_ok [] 4 [0, 1, 5, 9] (by kernel_rfl) ?_
  refine opsP_end rfl ?_
  refine pwp_cond ((decide (x1 < ((a1.length : Int))))) (by kernel_rfl) (fun hc4 => ?_) (fun hc4 => ?_)
  · replace h := bifT hc4 h
    refine pwp_skip ?_
    refine pwp_seq ?_
    refine pwp_block ?_
    refine pwp_seq ?_
    refine pwp_region ?_
    refine opsP_evk' (st' := ⟨21, [(0, A a0), (1, A a1), (5, I x1), (12, A a0), (13, A a1), (14, I x1)], []⟩) τ_ok [] 3 [0, 1, 5, 12, 13, 14] (by kernel_rfl) ?_
    obtain ⟨v5, hv6, h⟩ := bindS h
    refine opsP_idx τ_ok 15 hv6 (by kernel_rfl) ?_
    refine opsP_evk' (st' := ⟨21, [(0, A a0), (1, A a1), (5, I x1), (12, A a0), (16, A v5)], []⟩) τ_ok [] 1 [0, 1, 5, 12, 16] (by kernel_rfl) ?_
    obtain ⟨v7, hv8, h⟩ := bindS h
    refine opsP_callF τ 17 (ok_spec_RowFits hv8) (FzTo.frz rfl) rfl (by kernel_rfl) ?_
    refine opsP_evk' (st' := ⟨21, [(0, A a0), (1, A a1), (5, I x1), (18, B ((!v7)))], []⟩) τ_ok [] 1 [0, 1, 5, 18] (by kernel_rfl) ?_
    refine opsP_end rfl ?_
    refine pwp_cond ((!v7)) (by kernel_rfl) (fun hc9 => ?_) (fun hc9 => ?_)
    · replace h := bifT hc9 h
      refine pwp_seq ?_
      refine pwp_region ?_
      refine opsP_evk' (st' := ⟨21, [(4, B false)], []⟩) τ_ok [] 1 [4] (by kernel_rfl) ?_
      refine opsP_end rfl ?_
      have h := Option.some.inj h
      subst h
      exact pwp_ret ⟨.inr rfl, B false, _, by kernel_rfl, (OutP.frz (by kernel_rfl)), by decide⟩
    · replace h := bifF hc9 h
      refine pwp_skip ?_
      refine pwp_region ?_
      refine opsP_evk' (st' := ⟨21, [(0, A a0), (1, A a1), (5, I ((w64 (x1 + 1))))], []⟩) τ_ok [] 3 [0, 1, 5] (by kernel_rfl) ?_
      refine opsP_end rfl ?_
      exact ⟨(f2, (w64 (x1 + 1))), h, Nat.lt_succ_self _, (Imp.to (st' := ⟨21, [(0, A a0), (1, A a1), (5, I ((w64 (x1 + 1))))], []⟩) [0, 1, 5] (by kernel_rfl)).trans (Imp.to [0, 1, 5] (by kernel_rfl))⟩
  · replace h := bifF hc4 h
    refine pwp_exit ?_
    refine pwp_seq ?_
    refine pwp_region ?_
    refine opsP_evk' (st' := ⟨21, [(19, A a0)], []⟩) τ_ok [] 1 [19] (by kernel_rfl) ?_
    obtain ⟨v10, hv11, h⟩ := bindS h
    refine opsP_callF τ 20 (ok_spec_ColumnsOk hv11) (FzTo.frz rfl) rfl (by kernel_rfl) ?_
    refine opsP_evk' (st' := ⟨21, [(4, B v10)], []⟩) τ_ok [] 1 [4] (by kernel_rfl) ?_
    refine opsP_end rfl ?_
    have h := Option.some.inj h
    subst h
    exact pwp_ret ⟨.inr rfl, B v10, _, by kernel_rfl, (OutP.frz (by kernel_rfl)), by decide⟩

/- loop.example/tablehouse/impl.ExprKind -/
def impl_ExprKind_j2 (a0 : List T_impl_Column) (x4 : Int) (x5 : List Int) (K7 : Int → (List Int) → Option Int) (v9 : T_impl_Part) (v11 : Int) (x13 : Bool) : Option Int := bif x13 then some (-1) else (slI x5 (some ((w64 (((x5.length : Int)) - v11)))) none none).bind fun v15 => (impl_Part_kind v9 a0 v15).bind fun v17 => bif (!v17.2) then some (-1) else (slI x5 none (some ((w64 (((x5.length : Int)) - v11)))) none).bind fun v20 => (appT x5 (([v17.1] : List Int)) v20.length).bind fun v22 => K7 ((w64 (x4 + 1))) v22
def impl_ExprKind_l1 (a0 : List T_impl_Column) (a1 : List T_impl_Part) : Nat → Int → (List Int) → Option Int
  | 0, _, _ => none
  | f6 + 1, x4, x5 => bif (decide (x4 < ((a1.length : Int)))) then (getI a1 x4).bind fun v9 => (impl_Part_takes v9).bind fun v11 => (impl_Part_tells v9 a0).bind fun v24 => bif (!v24) then impl_ExprKind_j2 a0 x4 x5 (impl_ExprKind_l1 a0 a1 f6) v9 v11 true else impl_ExprKind_j2 a0 x4 x5 (impl_ExprKind_l1 a0 a1 f6) v9 v11 ((decide (((x5.length : Int)) < v11))) else bif (!(((x5.length : Int)) == 1)) then some (-1) else (getI x5 0).bind fun v28 => some v28
def impl_ExprKind_j0 (a0 : List T_impl_Column) (a1 : List T_impl_Part) (x1 : Bool) : Option Int := bif x1 then some (-1) else impl_ExprKind_l1 a0 a1 FUEL 0 (([] : List Int))
def impl_ExprKind (a0 : List T_impl_Column) (a1 : List T_impl_Part) : Option Int := (impl_ColumnsOk a0).bind fun v30 => bif (!v30) then impl_ExprKind_j0 a0 a1 true else impl_ExprKind_j0 a0 a1 ((decide (((a1.length : Int)) > 12)))
theorem ok_impl_ExprKind {a0 : List T_impl_Column} {a1 : List T_impl_Part} {y : Int} (h : impl_ExprKind a0 a1 = some y) : OK Try.prog 88 [A a0, A a1] (I y) := by
  refine OK_of_pwp τ_ok Try.func88 rfl (by kernel_rfl) rfl fun Γ hX => ?_
  unfold impl_ExprKind at h
  refine pwp_seq ?_
  refine pwp_region ?_
  refine opsP_evk' (st' := ⟨67, [(0, A a0), (1, A a1)], []⟩) τ_ok [7] 1 [0, 1] (by kernel_rfl) ?_
  refine opsP_end rfl ?_
  refine pwp_seq ?_
  refine pwp_seq ?_
  refine pwp_join (σ := Bool) (fun x1 => (⟨67, [(0, A a0), (1, A a1), (18, B x1)], []⟩ : St)) (fun x1 => impl_ExprKind_j0 a0 a1 x1 = some y) ?_ ?_
  · refine pwp_region ?_
    refine opsP_evk' (st' := ⟨67, [(0, A a0), (1, A a1), (11, A a0)], []⟩) τ_ok [7] 1 [0, 1, 11] (by kernel_rfl) ?_
    obtain ⟨v30, hv31, h⟩ := bindS h
    refine opsP_callF τ 12 (ok_impl_ColumnsOk hv31) (FzTo.frz rfl) rfl (by kernel_rfl) ?_
    refine opsP_evk' (st' := ⟨67, [(0, A a0), (1, A a1), (14, B ((!v30)))], []⟩) τ_ok [7] 2 [0, 1, 14] (by kernel_rfl) ?_
    rcases Bool.eq_false_or_eq_true ((!v30)) with hc32 | hc32
    · replace h := bifT hc32 h
      rw [hc32]
      refine opsP_evk' (st' := ⟨67, [(0, A a0), (1, A a1), (18, B true)], []⟩) τ_ok [7] 4 [0, 1, 18] (by kernel_rfl) ?_
      refine opsP_end rfl ?_
      exact ⟨true, h, (Imp.to (st' := ⟨67, [(0, A a0), (1, A a1), (18, B true)], []⟩) [0, 1, 18] (by kernel_rfl)).trans (Imp.to [0, 1, 18] (by kernel_rfl))⟩
    · replace h := bifF hc32 h
      rw [hc32]
      refine opsP_evk' (st' := ⟨67, [(0, A a0), (1, A a1), (18, B ((decide (((a1.length : Int)) > 12))))], []⟩) τ_ok [7] 4 [0, 1, 18] (by kernel_rfl) ?_
      refine opsP_end rfl ?_
      exact ⟨(decide (((a1.length : Int)) > 12)), h, (Imp.to (st' := ⟨67, [(0, A a0), (1, A a1), (18, B ((decide (((a1.length : Int)) > 12))))], []⟩) [0, 1, 18] (by kernel_rfl)).trans (Imp.to [0, 1, 18] (by kernel_rfl))⟩
  · rintro x1 h
    skip
    unfold impl_ExprKind_j0 at h
    refine pwp_cond x1 (by kernel_rfl) (fun hc2 => ?_) (fun hc2 => ?_)
    · replace h := bifT hc2 h
      refine pwp_seq ?_
      refine pwp_region ?_
      refine opsP_evk' (st' := ⟨67, [(4, I (-1))], []⟩) τ_ok [7] 1 [4] (by kernel_rfl) ?_
      refine opsP_end rfl ?_
      have h := Option.some.inj h
      subst h
      exact pwp_ret ⟨.inr rfl, I (-1), _, by kernel_rfl, (OutP.frz (by kernel_rfl)), by decide⟩
    · replace h := bifF hc2 h
      refine pwp_skip ?_
      refine pwp_seq ?_
      refine pwp_region ?_
      refine opsP_evk' (st' := ⟨67, [(0, A a0), (1, A a1), (5, .arr 1 0 (eL ([] : List Int)) true)], []⟩) τ_ok [7] 1 [0, 1, 5] (by kernel_rfl) ?_
      refine opsP_end rfl ?_
      refine pwp_seq ?_
      refine pwp_seq ?_
      refine pwp_region ?_
      refine opsP_evk' (st' := ⟨67, [(0, A a0), (5, .arr 1 0 (eL ([] : List Int)) true), (19, A a1), (20, I ((a1.length : Int))), (21, I 0)], []⟩) τ_ok [7] 3 [0, 5, 19, 20, 21] (by kernel_rfl) ?_
      refine opsP_end rfl ?_
      refine pwp_block ?_
      refine pwp_loop (ι := Nat × Int × (List Int)) (fun (f6, x4, x5) => (⟨67, [(0, A a0), (5, .ref 0 0 0 1 x5.length false), (19, A a1), (20, I ((a1.length : Int))), (21, I x4)], [some ⟨0, eL x5⟩]⟩ : St)) (fun (f6, x4, x5) => impl_ExprKind_l1 a0 a1 f6 x4 x5 = some y) (fun (f6, x4, x5) => f6) (FUEL, 0, ([] : List Int)) h ((Imp.to (st' := ⟨67, [(0, A a0), (5, .arr 1 0 (eL ([] : List Int)) true), (19, A a1), (20, I ((a1.length : Int))), (21, I 0)], []⟩) [0, 5, 19, 20, 21] (by kernel_rfl)).trans ((Imp.thawS (st' := ⟨67, [(0, A a0), (5, .ref 0 0 0 1 (([] : List Int)).length false), (19, A a1), (20, I ((a1.length : Int))), (21, I 0)], [some ⟨0, eL (([] : List Int))⟩]⟩) 5 [0, 5, 19, 20, 21] (by kernel_rfl)).trans (Imp.to [0, 5, 19, 20, 21] (by kernel_rfl)))) ?_
      rintro ⟨f6, x4, x5⟩ h
      dsimp only at h ⊢
      cases f6 with
      | zero => cases h
      | succ f6 =>
      rw [impl_ExprKind_l1] at h
      refine pwp_seq ?_
      refine pwp_region ?_
      refine opsP_evk' (st' := ⟨67, [(0, A a0), (5, .ref 0 0 0 1 x5.length false), (19, A a1), (20, I ((a1.length : Int))), (21, I x4), (22, B ((decide (x4 < ((a1.length : Int))))))], [some ⟨0, eL x5⟩]⟩) τ_ok [7] 1 [0, 5, 19, 20, 21, 22] (by kernel_rfl) ?_
      refine opsP_end rfl ?_
      refine pwp_seq ?_
      refine pwp_cond ((decide (x4 < ((a1.length : Int))))) (by kernel_rfl) (fun hc8 => ?_) (fun hc8 => ?_)
      · replace h := bifT hc8 h
        refine pwp_skip ?_
        refine pwp_seq ?_
        refine pwp_block ?_
        refine pwp_seq ?_
        refine pwp_region ?_
        obtain ⟨v9, hv10, h⟩ := bindS h
        refine opsP_idx τ_ok 23 hv10 (by kernel_rfl) ?_
        refine opsP_evk' (st' := ⟨67, [(0, A a0), (5, .ref 0 0 0 1 x5.length false), (7, .ptr 1 0 0), (19, A a1), (20, I ((a1.length : Int))), (21, I x4)], [some ⟨0, eL x5⟩, some ⟨0, Enc.cells v9⟩]⟩) τ_ok [7] 3 [0, 5, 7, 19, 20, 21] (by kernel_rfl) ?_
        refine opsP_end rfl ?_
        refine pwp_seq ?_
        refine pwp_region ?_
        refine opsP_evk' (st' := ⟨67, [(0, A a0), (5, .ref 0 0 0 1 x5.length false), (7, .ptr 1 0 0), (19, A a1), (20, I ((a1.length : Int))), (21, I x4), (25, E v9)], [some ⟨0, eL x5⟩, some ⟨0, Enc.cells v9⟩]⟩) τ_ok [7] 1 [0, 5, 7, 19, 20, 21, 25] (by kernel_rfl) ?_
        obtain ⟨v11, hv12, h⟩ := bindS h
        refine opsP_callF τ 26 (ok_impl_Part_takes hv12) (FzTo.frz rfl) rfl (by kernel_rfl) ?_
        refine opsP_evk' (st' := ⟨67, [(0, A a0), (5, .ref 0 0 0 1 x5.length false), (7, .ptr 1 0 0), (8, I v11), (19, A a1), (20, I ((a1.length : Int))), (21, I x4)], [some ⟨0, eL x5⟩, some ⟨0, Enc.cells v9⟩]⟩) τ_ok [7] 1 [0, 5, 7, 8, 19, 20, 21] (by kernel_rfl) ?_
        refine opsP_end rfl ?_
        refine pwp_seq ?_
        refine pwp_seq ?_
        refine pwp_join (σ := Bool) (fun x13 => (⟨67, [(0, A a0), (5, .ref 0 0 0 1 x5.length false), (7, .ptr 1 0 0), (8, I v11), (19, A a1), (20, I ((a1.length : Int))), (21, I x4), (36, B x13)], [some ⟨0, eL x5⟩, some ⟨0, Enc.cells v9⟩]⟩ : St)) (fun x13 => impl_ExprKind_j2 a0 x4 x5 (impl_ExprKind_l1 a0 a1 f6) v9 v11 x13 = some y) ?_ ?_
        · refine pwp_region ?_
          refine opsP_evk' (st' := ⟨67, [(0, A a0), (5, .ref 0 0 0 1 x5.length false), (7, .ptr 1 0 0), (8, I v11), (19, A a1), (20, I ((a1.length : Int))), (21, I x4), (27, E v9), (28, A a0)], [some ⟨0, eL x5⟩, some ⟨0, Enc.cells v9⟩]⟩) τ_ok [7] 2 [0, 5, 7, 8, 19, 20, 21, 27, 28] (by kernel_rfl) ?_
          obtain ⟨v24, hv25, h⟩ := bindS h
          refine opsP_callF τ 29 (ok_impl_Part_tells hv25) (FzTo.frz rfl) rfl (by kernel_rfl) ?_
          refine opsP_evk' (st' := ⟨67, [(0, A a0), (5, .ref 0 0 0 1 x5.length false), (7, .ptr 1 0 0), (8, I v11), (19, A a1), (20, I ((a1.length : Int))), (21, I x4), (31, B ((!v24)))], [some ⟨0, eL x5⟩, some ⟨0, Enc.cells v9⟩]⟩) τ_ok [7] 2 [0, 5, 7, 8, 19, 20, 21, 31] (by kernel_rfl) ?_
          rcases Bool.eq_false_or_eq_true ((!v24)) with hc26 | hc26
          · replace h := bifT hc26 h
            rw [hc26]
            refine opsP_evk' (st' := ⟨67, [(0, A a0), (5, .ref 0 0 0 1 x5.length false), (7, .ptr 1 0 0), (8, I v11), (19, A a1), (20, I ((a1.length : Int))), (21, I x4), (32, .lit undef), (33, .lit undef), (34, .lit undef), (35, .lit undef), (36, B true)], [some ⟨0, eL x5⟩, some ⟨0, Enc.cells v9⟩]⟩) τ_ok [7] 5 [0, 5, 7, 8, 19, 20, 21, 32, 33, 34, 35, 36] (by kernel_rfl) ?_
            refine opsP_end rfl ?_
            exact ⟨true, h, (Imp.to (st' := ⟨67, [(0, A a0), (5, .ref 0 0 0 1 x5.length false), (7, .ptr 1 0 0), (8, I v11), (19, A a1), (20, I ((a1.length : Int))), (21, I x4), (36, B true)], [some ⟨0, eL x5⟩, some ⟨0, Enc.cells v9⟩]⟩) [0, 5, 7, 8, 19, 20, 21, 36] (by kernel_rfl)).trans (Imp.to [0, 5, 7, 8, 19, 20, 21, 36] (by kernel_rfl))⟩
          · replace h := bifF hc26 h
            rw [hc26]
            refine opsP_evk' (st' := ⟨67, [(0, A a0), (5, .ref 0 0 0 1 x5.length false), (7, .ptr 1 0 0), (8, I v11), (19, A a1), (20, I ((a1.length : Int))), (21, I x4), (32, .ref 0 0 0 1 x5.length false), (33, I ((x5.length : Int))), (34, I v11), (35, B ((decide (((x5.length : Int)) < v11)))), (36, B ((decide (((x5.length : Int)) < v11))))], [some ⟨0, eL x5⟩, some ⟨0, Enc.cells v9⟩]⟩) τ_ok [7] 5 [0, 5, 7, 8, 19, 20, 21, 32, 33, 34, 35, 36] (by kernel_rfl) ?_
            refine opsP_end rfl ?_
            exact ⟨(decide (((x5.length : Int)) < v11)), h, (Imp.to (st' := ⟨67, [(0, A a0), (5, .ref 0 0 0 1 x5.length false), (7, .ptr 1 0 0), (8, I v11), (19, A a1), (20, I ((a1.length : Int))), (21, I x4), (36, B ((decide (((x5.length : Int)) < v11))))], [some ⟨0, eL x5⟩, some ⟨0, Enc.cells v9⟩]⟩) [0, 5, 7, 8, 19, 20, 21, 36] (by kernel_rfl)).trans (Imp.to [0, 5, 7, 8, 19, 20, 21, 36] (by kernel_rfl))⟩
        · rintro x13 h
          skip
          unfold impl_ExprKind_j2 at h
          refine pwp_cond x13 (by kernel_rfl) (fun hc14 => ?_) (fun hc14 => ?_)
          · replace h := bifT hc14 h
            refine pwp_seq ?_
            refine pwp_region ?_
            refine opsP_evk' (st' := ⟨67, [(4, I (-1))], [some ⟨0, eL x5⟩, some ⟨0, Enc.cells v9⟩]⟩) τ_ok [7] 1 [4] (by kernel_rfl) ?_
            refine opsP_end rfl ?_
            have h := Option.some.inj h
            subst h
            exact pwp_ret ⟨.inr rfl, I (-1), _, by kernel_rfl, (OutP.frz (by kernel_rfl)), by decide⟩
          · replace h := bifF hc14 h
            refine pwp_skip ?_
            refine pwp_seq ?_
            refine pwp_imp (Imp.to (st' := ⟨67, [(0, A a0), (5, .ref 0 0 0 1 x5.length false), (7, .ptr 1 0 0), (8, I v11), (19, A a1), (20, I ((a1.length : Int))), (21, I x4)], [some ⟨0, eL x5⟩, some ⟨0, Enc.cells v9⟩]⟩) [0, 5, 7, 8, 19, 20, 21] (by kernel_rfl)) ?_
            refine pwp_any ([[1], [], [0], [0], [0], [], [], [0], [0], [], [], [], [], []]) ([[], [], [], [], [], [], [], [], [], [], [], [], [], []]) rfl (by kernel_rfl) ?_
            refine qA_ev (st' := ⟨67, [(38, E v9), (0, A a0), (5, .ref 0 0 0 1 x5.length false), (7, .ptr 1 0 0), (8, I v11), (19, A a1), (20, I ((a1.length : Int))), (21, I x4)], [some ⟨0, eL x5⟩, some ⟨0, Enc.cells v9⟩]⟩) τ_ok [7] [1] 1 (by exact (And.intro (.inl (Enc.frz _)) trivial)) (by kernel_rfl) ?_
            refine qA_ev (st' := ⟨67, [(39, A a0), (38, E v9), (0, A a0), (5, .ref 0 0 0 1 x5.length false), (7, .ptr 1 0 0), (8, I v11), (19, A a1), (20, I ((a1.length : Int))), (21, I x4)], [some ⟨0, eL x5⟩, some ⟨0, Enc.cells v9⟩]⟩) τ_ok [7] [] 1 (by exact trivial) (by kernel_rfl) ?_
            refine qA_ev (st' := ⟨67, [(42, I ((x5.length : Int))), (41, .ref 0 0 0 1 x5.length false), (40, .ref 0 0 0 1 x5.length false), (39, A a0), (38, E v9), (0, A a0), (5, .ref 0 0 0 1 x5.length false), (7, .ptr 1 0 0), (8, I v11), (19, A a1), (20, I ((a1.length : Int))), (21, I x4)], [some ⟨0, eL x5⟩, some ⟨0, Enc.cells v9⟩]⟩) τ_ok [7] [0] 3 (by exact (And.intro (.inl (eL_frz _)) trivial)) (by kernel_rfl) ?_
            refine qA_ev (st' := ⟨67, [(44, I ((w64 (((x5.length : Int)) - v11)))), (43, I v11), (42, I ((x5.length : Int))), (41, .ref 0 0 0 1 x5.length false), (40, .ref 0 0 0 1 x5.length false), (39, A a0), (38, E v9), (0, A a0), (5, .ref 0 0 0 1 x5.length false), (7, .ptr 1 0 0), (8, I v11), (19, A a1), (20, I ((a1.length : Int))), (21, I x4)], [some ⟨0, eL x5⟩, some ⟨0, Enc.cells v9⟩]⟩) τ_ok [7] [] 2 (by exact trivial) (by kernel_rfl) ?_
            obtain ⟨v15, hv16, h⟩ := bindS h
            refine qA_E (dd := some 45) (x := .ref 0 0 ((w64 (((x5.length : Int)) - v11)).toNat * 1) 1 v15.length false) ([some ⟨0, eL x5⟩, none]) (⟨67, [(45, .ref 0 0 ((w64 (((x5.length : Int)) - v11)).toNat * 1) 1 v15.length false), (44, I ((w64 (((x5.length : Int)) - v11)))), (43, I v11), (42, I ((x5.length : Int))), (41, .ref 0 0 0 1 x5.length false), (40, .ref 0 0 0 1 x5.length false), (39, A a0), (38, E v9), (0, A a0), (5, .ref 0 0 0 1 x5.length false), (7, .ptr 1 0 0), (8, I v11), (19, A a1), (20, I ((a1.length : Int))), (21, I x4)], [some ⟨0, eL x5⟩, some ⟨0, Enc.cells v9⟩]⟩) (fun Γ' hΓ => CoreE.of_y (slrV_sound (n := x5.length) τ_ok (by kernel_rfl) rfl hv16)) (by kernel_rfl) (by kernel_rfl) (by exact (And.intro (.inl (eL_frz _)) trivial)) (.inr (.inl rfl)) (by kernel_rfl) ?_
            obtain ⟨v17, hv18, h⟩ := bindS h
            refine qA_E (dd := some 46) (x := .tup [I v17.1, B v17.2]) ([some ⟨0, eL x5⟩, none]) (⟨67, [(46, .tup [I v17.1, B v17.2]), (45, .ref 0 0 ((w64 (((x5.length : Int)) - v11)).toNat * 1) 1 v15.length false), (44, I ((w64 (((x5.length : Int)) - v11)))), (43, I v11), (42, I ((x5.length : Int))), (41, .ref 0 0 0 1 x5.length false), (40, .ref 0 0 0 1 x5.length false), (39, A a0), (38, E v9), (0, A a0), (5, .ref 0 0 0 1 x5.length false), (7, .ptr 1 0 0), (8, I v11), (19, A a1), (20, I ((a1.length : Int))), (21, I x4)], [some ⟨0, eL x5⟩, some ⟨0, Enc.cells v9⟩]⟩) (fun Γ' hΓ => CoreE.of_g (callVV_sound (xs := [E v9, A a0, .ref 0 0 ((w64 (((x5.length : Int)) - v11)).toNat * 1) 1 v15.length false]) (τ := τ) (by kernel_rfl) (ViewL.cons (View.frz rfl) (ViewL.cons (View.frz rfl) (ViewL.cons (View.ref (v := 0) (lo := (w64 (((x5.length : Int)) - v11)).toNat) x5 v15 (by kernel_rfl) (slI_view hv16) rfl) (ViewL.nil _)))) (ok_impl_Part_kind hv18) (Blind.tup (BlindL.cons (Blind.lit _) (BlindL.cons (Blind.lit _) BlindL.nil))) (FzTo.tup (FzToL.cons (FzTo.frz rfl) (FzToL.cons (FzTo.frz rfl) FzToL.nil))))) (by kernel_rfl) (by kernel_rfl) (by exact (And.intro (.inl (eL_frz _)) trivial)) (.inr (.inr rfl)) (by kernel_rfl) ?_
            refine qA_ev (st' := ⟨67, [(10, B v17.2), (9, I v17.1), (48, B v17.2), (47, I v17.1), (37, .tup [I v17.1, B v17.2]), (46, .tup [I v17.1, B v17.2]), (45, .ref 0 0 ((w64 (((x5.length : Int)) - v11)).toNat * 1) 1 v15.length false), (44, I ((w64 (((x5.length : Int)) - v11)))), (43, I v11), (42, I ((x5.length : Int))), (41, .ref 0 0 0 1 x5.length false), (40, .ref 0 0 0 1 x5.length false), (39, A a0), (38, E v9), (0, A a0), (5, .ref 0 0 0 1 x5.length false), (7, .ptr 1 0 0), (8, I v11), (19, A a1), (20, I ((a1.length : Int))), (21, I x4)], [some ⟨0, eL x5⟩, some ⟨0, Enc.cells v9⟩]⟩) τ_ok [7] [] 5 (by exact trivial) (by kernel_rfl) ?_
            refine qA_end ?_
            refine opsP_imp (Imp.to (st' := ⟨67, [(0, A a0), (5, .ref 0 0 0 1 x5.length false), (8, I v11), (9, I v17.1), (10, B v17.2), (19, A a1), (20, I ((a1.length : Int))), (21, I x4)], [some ⟨0, eL x5⟩, some ⟨0, Enc.cells v9⟩]⟩) [0, 5, 8, 9, 10, 19, 20, 21] (by kernel_rfl)) ?_
            refine opsP_end rfl ?_
            refine pwp_seq ?_
            refine pwp_seq ?_
            refine pwp_region ?_
            refine opsP_evk' (st' := ⟨67, [(0, A a0), (5, .ref 0 0 0 1 x5.length false), (8, I v11), (9, I v17.1), (19, A a1), (20, I ((a1.length : Int))), (21, I x4), (50, B ((!v17.2)))], [some ⟨0, eL x5⟩, some ⟨0, Enc.cells v9⟩]⟩) τ_ok [7] 2 [0, 5, 8, 9, 19, 20, 21, 50] (by kernel_rfl) ?_
            refine opsP_end rfl ?_
            refine pwp_cond ((!v17.2)) (by kernel_rfl) (fun hc19 => ?_) (fun hc19 => ?_)
            · replace h := bifT hc19 h
              refine pwp_seq ?_
              refine pwp_region ?_
              refine opsP_evk' (st' := ⟨67, [(4, I (-1))], [some ⟨0, eL x5⟩, some ⟨0, Enc.cells v9⟩]⟩) τ_ok [7] 1 [4] (by kernel_rfl) ?_
              refine opsP_end rfl ?_
              have h := Option.some.inj h
              subst h
              exact pwp_ret ⟨.inr rfl, I (-1), _, by kernel_rfl, (OutP.frz (by kernel_rfl)), by decide⟩
            · replace h := bifF hc19 h
              refine pwp_skip ?_
              refine pwp_region ?_
              refine opsP_evk' (st' := ⟨67, [(0, A a0), (9, I v17.1), (19, A a1), (20, I ((a1.length : Int))), (21, I x4), (51, .ref 0 0 0 1 x5.length false), (55, I ((w64 (((x5.length : Int)) - v11))))], [some ⟨0, eL x5⟩, some ⟨0, Enc.cells v9⟩]⟩) τ_ok [7] 5 [0, 9, 19, 20, 21, 51, 55] (by kernel_rfl) ?_
              obtain ⟨v20, hv21, h⟩ := bindS h
              refine opsP_slr τ_ok 56 0 0 x5.length hv21 rfl (by kernel_rfl) ?_
              refine opsP_evk' (st' := ⟨67, [(0, A a0), (19, A a1), (20, I ((a1.length : Int))), (21, I x4), (56, .ref 0 0 0 1 v20.length false), (58, .arr 1 (([v17.1] : List Int)).length (eL ([v17.1] : List Int)) true)], [some ⟨0, eL x5⟩, some ⟨0, Enc.cells v9⟩]⟩) τ_ok [7] 2 [0, 19, 20, 21, 56, 58] (by kernel_rfl) ?_
              obtain ⟨v22, hv23, h⟩ := bindS h
              refine opsP_apt τ_ok 59 0 0 v20.length (fun b hb => absurd hb (hX b)) hv23 (slI_le hv21) (by kernel_rfl) ?_
              refine opsP_evk' (st' := ⟨67, [(0, A a0), (5, .ref 0 1 0 1 v22.length false), (19, A a1), (20, I ((a1.length : Int))), (21, I x4)], [some ⟨1, eL v22⟩, some ⟨0, Enc.cells v9⟩]⟩) τ_ok [7] 1 [0, 5, 19, 20, 21] (by kernel_rfl) ?_
              refine opsP_end rfl ?_
              refine pwp_region ?_
              refine opsP_evk' (st' := ⟨67, [(0, A a0), (5, .ref 0 1 0 1 v22.length false), (19, A a1), (20, I ((a1.length : Int))), (21, I ((w64 (x4 + 1))))], [some ⟨1, eL v22⟩, some ⟨0, Enc.cells v9⟩]⟩) τ_ok [7] 2 [0, 5, 19, 20, 21] (by kernel_rfl) ?_
              refine opsP_end rfl ?_
              exact ⟨(f6, (w64 (x4 + 1)), v22), h, Nat.lt_succ_self _, (Imp.to (st' := ⟨67, [(0, A a0), (5, .ref 0 1 0 1 v22.length false), (19, A a1), (20, I ((a1.length : Int))), (21, I ((w64 (x4 + 1))))], [some ⟨1, eL v22⟩, some ⟨0, Enc.cells v9⟩]⟩) [0, 5, 19, 20, 21] (by kernel_rfl)).trans ((Imp.truncS (st' := ⟨67, [(0, A a0), (5, .ref 0 1 0 1 v22.length false), (19, A a1), (20, I ((a1.length : Int))), (21, I ((w64 (x4 + 1))))], [some ⟨1, eL v22⟩]⟩) 1 (fun b hb => absurd hb (hX b)) (by kernel_rfl) (allBelow_mem (by exact (And.intro rfl (And.intro rfl (And.intro rfl (And.intro rfl (And.intro rfl trivial))))))) (by exact (And.intro (frz_below (eL_frz _)) trivial)) (by kernel_rfl)).trans ((Imp.reverS (st' := ⟨67, [(0, A a0), (5, .ref 0 0 0 1 v22.length false), (19, A a1), (20, I ((a1.length : Int))), (21, I ((w64 (x4 + 1))))], [some ⟨0, eL v22⟩]⟩) 0 1 (eL v22) [0, 5, 19, 20, 21] (by kernel_rfl) (by exact (And.intro (eL_frz _) trivial)) (by kernel_rfl)).trans (Imp.to [0, 5, 19, 20, 21] (by kernel_rfl))))⟩
      · replace h := bifF hc8 h
        refine pwp_exit ?_
        refine pwp_seq ?_
        refine pwp_seq ?_
        refine pwp_region ?_
        refine opsP_evk' (st' := ⟨67, [(5, .ref 0 0 0 1 x5.length false), (63, B ((!(((x5.length : Int)) == 1))))], [some ⟨0, eL x5⟩]⟩) τ_ok [7] 3 [5, 63] (by kernel_rfl) ?_
        refine opsP_end rfl ?_
        refine pwp_cond ((!(((x5.length : Int)) == 1))) (by kernel_rfl) (fun hc27 => ?_) (fun hc27 => ?_)
        · replace h := bifT hc27 h
          refine pwp_seq ?_
          refine pwp_region ?_
          refine opsP_evk' (st' := ⟨67, [(4, I (-1))], [some ⟨0, eL x5⟩]⟩) τ_ok [7] 1 [4] (by kernel_rfl) ?_
          refine opsP_end rfl ?_
          have h := Option.some.inj h
          subst h
          exact pwp_ret ⟨.inr rfl, I (-1), _, by kernel_rfl, (OutP.frz (by kernel_rfl)), by decide⟩
        · replace h := bifF hc27 h
          refine pwp_skip ?_
          refine pwp_seq ?_
          refine pwp_region ?_
          refine opsP_evk' (st' := ⟨67, [(64, .ref 0 0 0 1 x5.length false)], [some ⟨0, eL x5⟩]⟩) τ_ok [7] 1 [64] (by kernel_rfl) ?_
          obtain ⟨v28, hv29, h⟩ := bindS h
          refine opsP_idr τ_ok 65 0 0 x5.length hv29 rfl (by kernel_rfl) ?_
          refine opsP_lde (r := I v28) τ_ok 66 3 0 hv29 (by kernel_rfl) (by kernel_rfl) ?_
          refine opsP_evk' (st' := ⟨67, [(4, I v28)], [some ⟨0, eL x5⟩]⟩) τ_ok [7] 1 [4] (by kernel_rfl) ?_
          refine opsP_end rfl ?_
          have h := Option.some.inj h
          subst h
          exact pwp_ret ⟨.inr rfl, I v28, _, by kernel_rfl, (OutP.frz (by kernel_rfl)), by decide⟩

/- loop.example/tablehouse/impl.RowsOk$1 -/
def impl_RowsOk_1 (a0 : List T_impl_Value) (b0 : List T_impl_Column) : Option Bool := (impl_RowFits b0 a0).bind fun v1 => some ((!v1))
theorem ok_impl_RowsOk_1 {a0 : List T_impl_Value} {b0 : List T_impl_Column} {y : Bool} (h : impl_RowsOk_1 a0 b0 = some y) : OK Try.prog 96 [A a0, .fptr (Enc.cells b0) 0] (B y) := by
  refine OK_of_pwp τ_ok Try.func96 rfl (by kernel_rfl) rfl fun Γ hX => ?_
  unfold impl_RowsOk_1 at h
  refine pwp_seq ?_
  refine pwp_region ?_
  refine opsP_evk' (st' := ⟨8, [(0, A a0), (1, .fptr (Enc.cells b0) 0)], []⟩) τ_ok [] 1 [0, 1] (by kernel_rfl) ?_
  refine opsP_end rfl ?_
  refine pwp_seq ?_
  refine pwp_region ?_
  refine opsP_evk' (st' := ⟨8, [(4, A b0), (5, A a0)], []⟩) τ_ok [] 2 [4, 5] (by kernel_rfl) ?_
  obtain ⟨v1, hv2, h⟩ := bindS h
  refine opsP_callF τ 6 (ok_impl_RowFits hv2) (FzTo.frz rfl) rfl (by kernel_rfl) ?_
  refine opsP_evk' (st' := ⟨8, [(3, B ((!v1)))], []⟩) τ_ok [] 2 [3] (by kernel_rfl) ?_
  refine opsP_end rfl ?_
  have h := Option.some.inj h
  subst h
  exact pwp_ret ⟨.inr rfl, B ((!v1)), _, by kernel_rfl, (OutP.frz (by kernel_rfl)), by decide⟩

/- loop.example/tablehouse/spec.l6All -/
def spec_l6All_l0 (a0 : List T_impl_Table) (a1 : List T_impl_Step) : Nat → Int → (List (List T_impl_Column)) → (List Int) → Option ((List (List T_impl_Column)) × Bool)
  | 0, _, _, _ => none
  | f6 + 1, x3, x4, x5 => bif (decide (x3 < ((a1.length : Int)))) then (getI a1 x3).bind fun v9 => (spec_l6Columns a0 x4 v9).bind fun v11 => bif (!v11.2) then some (([] : List (List T_impl_Column)), false) else (app x4 (([v11.1] : List (List T_impl_Column)))).bind fun v14 => (getI a1 x3).bind fun v16 => (spec_l6Made x5 v16).bind fun v18 => (app x5 (([v18] : List Int))).bind fun v20 => (getI v20 x3).bind fun v22 => bif (decide (v22 > 300)) then some (([] : List (List T_impl_Column)), false) else (spec_l6All_l0 a0 a1 f6) ((w64 (x3 + 1))) v14 v20 else some (x4, true)
def spec_l6All (a0 : List T_impl_Table) (a1 : List T_impl_Step) : Option ((List (List T_impl_Column)) × Bool) := spec_l6All_l0 a0 a1 FUEL 0 (([] : List (List T_impl_Column))) (([] : List Int))
end Go.D
