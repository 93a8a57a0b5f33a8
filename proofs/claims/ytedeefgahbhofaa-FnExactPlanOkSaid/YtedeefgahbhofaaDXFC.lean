import Derived.Test.YtedeefgahbhofaaDXFB
import Derived.KernelRfl
set_option linter.unusedVariables false
set_option linter.unusedSimpArgs false
namespace Go.D
open Go.Proofs
theorem ok_spec_l6All {a0 : List T_impl_Table} {a1 : List T_impl_Step} {y : (List (List T_impl_Column)) × Bool} (h : spec_l6All a0 a1 = some y) : OK Try.prog 28 [A a0, A a1] (.tup [O y.1, B y.2]) := by
  refine OK_of_pwp τ_ok Try.func28 rfl (by kernel_rfl) rfl fun Γ hX => ?_
  unfold spec_l6All at h
  refine pwp_seq ?_
  refine pwp_region ?_
  refine opsP_evk' (st' := ⟨52, [(0, A a0), (1, A a1)], []⟩) τ_ok [] 2 [0, 1] (by kernel_rfl) ?_
  refine opsP_end rfl ?_
  refine pwp_seq ?_
  refine pwp_region ?_
  refine opsP_evk' (st' := ⟨52, [(0, A a0), (1, A a1), (6, .arr 1 0 (eL ([] : List (List T_impl_Column))) true)], []⟩) τ_ok [] 2 [0, 1, 6] (by kernel_rfl) ?_
  refine opsP_end rfl ?_
  refine pwp_seq ?_
  refine pwp_region ?_
  refine opsP_evk' (st' := ⟨52, [(0, A a0), (1, A a1), (6, .arr 1 0 (eL ([] : List (List T_impl_Column))) true), (7, .arr 1 0 (eL ([] : List Int)) true)], []⟩) τ_ok [] 2 [0, 1, 6, 7] (by kernel_rfl) ?_
  refine opsP_end rfl ?_
  refine pwp_seq ?_
  refine pwp_seq ?_
  refine pwp_region ?_
  refine opsP_evk' (st' := ⟨52, [(0, A a0), (1, A a1), (6, .arr 1 0 (eL ([] : List (List T_impl_Column))) true), (7, .arr 1 0 (eL ([] : List Int)) true), (8, I 0)], []⟩) τ_ok [] 1 [0, 1, 6, 7, 8] (by kernel_rfl) ?_
  refine opsP_end rfl ?_
  refine pwp_block ?_
  refine pwp_loop (ι := Nat × Int × (List (List T_impl_Column)) × (List Int)) (fun (f6, x3, x4, x5) => (⟨52, [(0, A a0), (1, A a1), (6, .ref 0 0 0 1 x4.length false), (7, .ref 1 0 0 1 x5.length false), (8, I x3)], [some ⟨0, eL x4⟩, some ⟨0, eL x5⟩]⟩ : St)) (fun (f6, x3, x4, x5) => spec_l6All_l0 a0 a1 f6 x3 x4 x5 = some y) (fun (f6, x3, x4, x5) => f6) (FUEL, 0, ([] : List (List T_impl_Column)), ([] : List Int)) h ((Imp.to (st' := ⟨52, [(0, A a0), (1, A a1), (6, .arr 1 0 (eL ([] : List (List T_impl_Column))) true), (7, .arr 1 0 (eL ([] : List Int)) true), (8, I 0)], []⟩) [0, 1, 6, 7, 8] (by kernel_rfl)).trans ((Imp.thawS (st' := ⟨52, [(0, A a0), (1, A a1), (6, .ref 0 0 0 1 (([] : List (List T_impl_Column))).length false), (7, .arr 1 0 (eL ([] : List Int)) true), (8, I 0)], [some ⟨0, eL (([] : List (List T_impl_Column)))⟩]⟩) 6 [0, 1, 6, 7, 8] (by kernel_rfl)).trans ((Imp.thawS (st' := ⟨52, [(0, A a0), (1, A a1), (6, .ref 0 0 0 1 (([] : List (List T_impl_Column))).length false), (7, .ref 1 0 0 1 (([] : List Int)).length false), (8, I 0)], [some ⟨0, eL (([] : List (List T_impl_Column)))⟩, some ⟨0, eL (([] : List Int))⟩]⟩) 7 [0, 1, 6, 7, 8] (by kernel_rfl)).trans (Imp.to [0, 1, 6, 7, 8] (by kernel_rfl))))) ?_
  rintro ⟨f6, x3, x4, x5⟩ h
  dsimp only at h ⊢
  cases f6 with
  | zero => cases h
  | succ f6 =>
  rw [spec_l6All_l0] at h
  refine pwp_seq ?_
  refine pwp_seq ?_
  refine pwp_region ?_
  refine opsP_evk' (st' := ⟨52, [(0, A a0), (1, A a1), (6, .ref 0 0 0 1 x4.length false), (7, .ref 1 0 0 1 x5.length false), (8, I x3), (16, B ((decide (x3 < ((a1.length : Int))))))], [some ⟨0, eL x4⟩, some ⟨0, eL x5⟩]⟩) τ_ok [] 4 [0, 1, 6, 7, 8, 16] (by kernel_rfl) ?_
  refine opsP_end rfl ?_
  refine pwp_cond ((decide (x3 < ((a1.length : Int))))) (by kernel_rfl) (fun hc8 => ?_) (fun hc8 => ?_)
  · replace h := bifT hc8 h
    refine pwp_skip ?_
    refine pwp_seq ?_
    refine pwp_block ?_
    refine pwp_seq ?_
    refine pwp_region ?_
    refine opsP_evk' (st' := ⟨52, [(0, A a0), (1, A a1), (6, .ref 0 0 0 1 x4.length false), (7, .ref 1 0 0 1 x5.length false), (8, I x3), (20, A a0), (21, .ref 0 0 0 1 x4.length false), (22, A a1), (23, I x3)], [some ⟨0, eL x4⟩, some ⟨0, eL x5⟩]⟩) τ_ok [] 4 [0, 1, 6, 7, 8, 20, 21, 22, 23] (by kernel_rfl) ?_
    obtain ⟨v9, hv10, h⟩ := bindS h
    refine opsP_idx τ_ok 24 hv10 (by kernel_rfl) ?_
    refine opsP_evk' (st' := ⟨52, [(0, A a0), (1, A a1), (6, .ref 0 0 0 1 x4.length false), (7, .ref 1 0 0 1 x5.length false), (8, I x3), (20, A a0), (21, .ref 0 0 0 1 x4.length false), (25, E v9)], [some ⟨0, eL x4⟩, some ⟨0, eL x5⟩]⟩) τ_ok [] 1 [0, 1, 6, 7, 8, 20, 21, 25] (by kernel_rfl) ?_
    obtain ⟨v11, hv12, h⟩ := bindS h
    refine opsP_callV (xs := [A a0, .ref 0 0 0 1 x4.length false, E v9]) τ 26 (ok_spec_l6Columns hv12) (Blind.tup (BlindL.cons (Blind.O (fun _ => rfl) _) (BlindL.cons (Blind.lit _) BlindL.nil))) (FzTo.tup (FzToL.cons (FzTo.O _) (FzToL.cons (FzTo.frz rfl) FzToL.nil))) (by kernel_rfl) (ViewL.cons (View.frz rfl) (ViewL.cons (View.whole (v := 0) x4 (by kernel_rfl) rfl) (ViewL.cons (View.frz rfl) (ViewL.nil _)))) ?_
    refine opsP_evk' (st' := ⟨52, [(0, A a0), (1, A a1), (6, .ref 0 0 0 1 x4.length false), (7, .ref 1 0 0 1 x5.length false), (8, I x3), (9, A v11.1), (10, B v11.2)], [some ⟨0, eL x4⟩, some ⟨0, eL x5⟩]⟩) τ_ok [] 5 [0, 1, 6, 7, 8, 9, 10] (by kernel_rfl) ?_
    refine opsP_end rfl ?_
    refine pwp_seq ?_
    refine pwp_seq ?_
    refine pwp_region ?_
    refine opsP_evk' (st' := ⟨52, [(0, A a0), (1, A a1), (6, .ref 0 0 0 1 x4.length false), (7, .ref 1 0 0 1 x5.length false), (8, I x3), (9, A v11.1), (30, B ((!v11.2)))], [some ⟨0, eL x4⟩, some ⟨0, eL x5⟩]⟩) τ_ok [] 2 [0, 1, 6, 7, 8, 9, 30] (by kernel_rfl) ?_
    refine opsP_end rfl ?_
    refine pwp_cond ((!v11.2)) (by kernel_rfl) (fun hc13 => ?_) (fun hc13 => ?_)
    · replace h := bifT hc13 h
      refine pwp_seq ?_
      refine pwp_region ?_
      refine opsP_evk' (st' := ⟨52, [(4, .arr 1 0 (eL ([] : List (List T_impl_Column))) true), (5, B false)], [some ⟨0, eL x4⟩, some ⟨0, eL x5⟩]⟩) τ_ok [] 3 [4, 5] (by kernel_rfl) ?_
      refine opsP_end rfl ?_
      refine pwp_imp (Imp.to (st' := ⟨52, [(4, .arr 1 0 (eL ([] : List (List T_impl_Column))) true), (5, B false)], [some ⟨0, eL x4⟩, some ⟨0, eL x5⟩]⟩) [4, 5] (by kernel_rfl)) ?_
      refine pwp_imp (Imp.thawS (st' := ⟨52, [(4, .ref 2 0 0 1 (([] : List (List T_impl_Column))).length false), (5, B false)], [some ⟨0, eL x4⟩, some ⟨0, eL x5⟩, some ⟨0, eL (([] : List (List T_impl_Column)))⟩]⟩) 4 [4, 5] (by kernel_rfl)) ?_
      have h := Option.some.inj h
      subst h
      exact pwp_ret ⟨.inr rfl, .tup [.ref 2 0 0 1 (([] : List (List T_impl_Column))).length false, B false], _, by kernel_rfl, (OutP.tup (OutL.cons (OutP.list (v := 0) (by kernel_rfl)) (OutL.cons (OutP.frz (by kernel_rfl)) (OutL.nil _)))), by decide⟩
    · replace h := bifF hc13 h
      refine pwp_skip ?_
      refine pwp_seq ?_
      refine pwp_region ?_
      refine opsP_evk' (st' := ⟨52, [(0, A a0), (1, A a1), (7, .ref 1 0 0 1 x5.length false), (8, I x3), (32, .ref 0 0 0 1 x4.length false), (34, .arr 1 (([v11.1] : List (List T_impl_Column))).length (eL ([v11.1] : List (List T_impl_Column))) true)], [some ⟨0, eL x4⟩, some ⟨0, eL x5⟩]⟩) τ_ok [] 3 [0, 1, 7, 8, 32, 34] (by kernel_rfl) ?_
      obtain ⟨v14, hv15, h⟩ := bindS h
      refine opsP_app τ_ok 35 0 0 (fun b hb => absurd hb (hX b)) hv15 (by kernel_rfl) ?_
      refine opsP_evk' (st' := ⟨52, [(0, A a0), (1, A a1), (6, .ref 0 1 0 1 v14.length false), (7, .ref 1 0 0 1 x5.length false), (8, I x3)], [some ⟨1, eL v14⟩, some ⟨0, eL x5⟩]⟩) τ_ok [] 1 [0, 1, 6, 7, 8] (by kernel_rfl) ?_
      refine opsP_end rfl ?_
      refine pwp_seq ?_
      refine pwp_region ?_
      refine opsP_evk' (st' := ⟨52, [(0, A a0), (1, A a1), (6, .ref 0 1 0 1 v14.length false), (8, I x3), (36, .ref 1 0 0 1 x5.length false), (37, .ref 1 0 0 1 x5.length false), (38, A a1), (39, I x3)], [some ⟨1, eL v14⟩, some ⟨0, eL x5⟩]⟩) τ_ok [] 4 [0, 1, 6, 8, 36, 37, 38, 39] (by kernel_rfl) ?_
      obtain ⟨v16, hv17, h⟩ := bindS h
      refine opsP_idx τ_ok 40 hv17 (by kernel_rfl) ?_
      refine opsP_evk' (st' := ⟨52, [(0, A a0), (1, A a1), (6, .ref 0 1 0 1 v14.length false), (8, I x3), (36, .ref 1 0 0 1 x5.length false), (37, .ref 1 0 0 1 x5.length false), (41, E v16)], [some ⟨1, eL v14⟩, some ⟨0, eL x5⟩]⟩) τ_ok [] 1 [0, 1, 6, 8, 36, 37, 41] (by kernel_rfl) ?_
      obtain ⟨v18, hv19, h⟩ := bindS h
      refine opsP_callV (xs := [.ref 1 0 0 1 x5.length false, E v16]) τ 42 (ok_spec_l6Made hv19) (Blind.lit _) (FzTo.frz rfl) (by kernel_rfl) (ViewL.cons (View.whole (v := 0) x5 (by kernel_rfl) rfl) (ViewL.cons (View.frz rfl) (ViewL.nil _))) ?_
      refine opsP_evk' (st' := ⟨52, [(0, A a0), (1, A a1), (6, .ref 0 1 0 1 v14.length false), (8, I x3), (36, .ref 1 0 0 1 x5.length false), (43, .arr 1 (([v18] : List Int)).length (eL ([v18] : List Int)) true)], [some ⟨1, eL v14⟩, some ⟨0, eL x5⟩]⟩) τ_ok [] 1 [0, 1, 6, 8, 36, 43] (by kernel_rfl) ?_
      obtain ⟨v20, hv21, h⟩ := bindS h
      refine opsP_app τ_ok 44 1 0 (fun b hb => absurd hb (hX b)) hv21 (by kernel_rfl) ?_
      refine opsP_evk' (st' := ⟨52, [(0, A a0), (1, A a1), (6, .ref 0 1 0 1 v14.length false), (7, .ref 1 1 0 1 v20.length false), (8, I x3)], [some ⟨1, eL v14⟩, some ⟨1, eL v20⟩]⟩) τ_ok [] 1 [0, 1, 6, 7, 8] (by kernel_rfl) ?_
      refine opsP_end rfl ?_
      refine pwp_seq ?_
      refine pwp_region ?_
      refine opsP_evk' (st' := ⟨52, [(0, A a0), (1, A a1), (6, .ref 0 1 0 1 v14.length false), (7, .ref 1 1 0 1 v20.length false), (8, I x3), (45, .ref 1 1 0 1 v20.length false), (46, I x3)], [some ⟨1, eL v14⟩, some ⟨1, eL v20⟩]⟩) τ_ok [] 2 [0, 1, 6, 7, 8, 45, 46] (by kernel_rfl) ?_
      obtain ⟨v22, hv23, h⟩ := bindS h
      refine opsP_idr τ_ok 47 1 1 v20.length hv23 rfl (by kernel_rfl) ?_
      refine opsP_lde (r := I v22) τ_ok 48 3 0 hv23 (by kernel_rfl) (by kernel_rfl) ?_
      refine opsP_evk' (st' := ⟨52, [(0, A a0), (1, A a1), (6, .ref 0 1 0 1 v14.length false), (7, .ref 1 1 0 1 v20.length false), (8, I x3), (49, B ((decide (v22 > 300))))], [some ⟨1, eL v14⟩, some ⟨1, eL v20⟩]⟩) τ_ok [] 1 [0, 1, 6, 7, 8, 49] (by kernel_rfl) ?_
      refine opsP_end rfl ?_
      refine pwp_cond ((decide (v22 > 300))) (by kernel_rfl) (fun hc24 => ?_) (fun hc24 => ?_)
      · replace h := bifT hc24 h
        refine pwp_seq ?_
        refine pwp_region ?_
        refine opsP_evk' (st' := ⟨52, [(4, .arr 1 0 (eL ([] : List (List T_impl_Column))) true), (5, B false)], [some ⟨1, eL v14⟩, some ⟨1, eL v20⟩]⟩) τ_ok [] 3 [4, 5] (by kernel_rfl) ?_
        refine opsP_end rfl ?_
        refine pwp_imp (Imp.to (st' := ⟨52, [(4, .arr 1 0 (eL ([] : List (List T_impl_Column))) true), (5, B false)], [some ⟨1, eL v14⟩, some ⟨1, eL v20⟩]⟩) [4, 5] (by kernel_rfl)) ?_
        refine pwp_imp (Imp.thawS (st' := ⟨52, [(4, .ref 2 0 0 1 (([] : List (List T_impl_Column))).length false), (5, B false)], [some ⟨1, eL v14⟩, some ⟨1, eL v20⟩, some ⟨0, eL (([] : List (List T_impl_Column)))⟩]⟩) 4 [4, 5] (by kernel_rfl)) ?_
        have h := Option.some.inj h
        subst h
        exact pwp_ret ⟨.inr rfl, .tup [.ref 2 0 0 1 (([] : List (List T_impl_Column))).length false, B false], _, by kernel_rfl, (OutP.tup (OutL.cons (OutP.list (v := 0) (by kernel_rfl)) (OutL.cons (OutP.frz (by kernel_rfl)) (OutL.nil _)))), by decide⟩
      · replace h := bifF hc24 h
        refine pwp_skip ?_
        refine pwp_region ?_
        refine opsP_evk' (st' := ⟨52, [(0, A a0), (1, A a1), (6, .ref 0 1 0 1 v14.length false), (7, .ref 1 1 0 1 v20.length false), (8, I ((w64 (x3 + 1))))], [some ⟨1, eL v14⟩, some ⟨1, eL v20⟩]⟩) τ_ok [] 3 [0, 1, 6, 7, 8] (by kernel_rfl) ?_
        refine opsP_end rfl ?_
        exact ⟨(f6, (w64 (x3 + 1)), v14, v20), h, Nat.lt_succ_self _, (Imp.to (st' := ⟨52, [(0, A a0), (1, A a1), (6, .ref 0 1 0 1 v14.length false), (7, .ref 1 1 0 1 v20.length false), (8, I ((w64 (x3 + 1))))], [some ⟨1, eL v14⟩, some ⟨1, eL v20⟩]⟩) [0, 1, 6, 7, 8] (by kernel_rfl)).trans ((Imp.reverS (st' := ⟨52, [(0, A a0), (1, A a1), (6, .ref 0 0 0 1 v14.length false), (7, .ref 1 1 0 1 v20.length false), (8, I ((w64 (x3 + 1))))], [some ⟨0, eL v14⟩, some ⟨1, eL v20⟩]⟩) 0 1 (eL v14) [0, 1, 6, 7, 8] (by kernel_rfl) (by exact (And.intro (eL_frz _) (And.intro (eL_frz _) trivial))) (by kernel_rfl)).trans ((Imp.reverS (st' := ⟨52, [(0, A a0), (1, A a1), (6, .ref 0 0 0 1 v14.length false), (7, .ref 1 0 0 1 v20.length false), (8, I ((w64 (x3 + 1))))], [some ⟨0, eL v14⟩, some ⟨0, eL v20⟩]⟩) 1 1 (eL v20) [0, 1, 6, 7, 8] (by kernel_rfl) (by exact (And.intro (eL_frz _) (And.intro (eL_frz _) trivial))) (by kernel_rfl)).trans (Imp.to [0, 1, 6, 7, 8] (by kernel_rfl))))⟩
  · replace h := bifF hc8 h
    refine pwp_exit ?_
    refine pwp_seq ?_
    refine pwp_region ?_
    refine opsP_evk' (st' := ⟨52, [(4, .ref 0 0 0 1 x4.length false), (5, B true)], [some ⟨0, eL x4⟩, some ⟨0, eL x5⟩]⟩) τ_ok [] 3 [4, 5] (by kernel_rfl) ?_
    refine opsP_end rfl ?_
    have h := Option.some.inj h
    subst h
    exact pwp_ret ⟨.inr rfl, .tup [.ref 0 0 0 1 x4.length false, B true], _, by kernel_rfl, (OutP.tup (OutL.cons (OutP.list (v := 0) (by kernel_rfl)) (OutL.cons (OutP.frz (by kernel_rfl)) (OutL.nil _)))), by decide⟩

/- loop.example/tablehouse/spec.TablesOk -/
def spec_TablesOk_j1 (x1 : Int) (K3 : Int → Option Bool) (x5 : Bool) : Option Bool := bif x5 then some false else K3 ((w64 (x1 + 1)))
def spec_TablesOk_l0 (a0 : List T_impl_Table) : Nat → Int → Option Bool
  | 0, _ => none
  | f2 + 1, x1 => bif (decide (x1 < ((a0.length : Int)))) then (getI a0 x1).bind fun v7 => bif (decide (((v7.fRows.length : Int)) > 6)) then spec_TablesOk_j1 x1 (spec_TablesOk_l0 a0 f2) true else (getI a0 x1).bind fun v9 => (getI a0 x1).bind fun v11 => (spec_RowsOk v9.fColumns v11.fRows).bind fun v13 => spec_TablesOk_j1 x1 (spec_TablesOk_l0 a0 f2) ((!v13)) else some ((decide (((a0.length : Int)) ≤ 3)))
def spec_TablesOk (a0 : List T_impl_Table) : Option Bool := spec_TablesOk_l0 a0 FUEL 0
theorem ok_spec_TablesOk {a0 : List T_impl_Table} {y : Bool} (h : spec_TablesOk a0 = some y) : OK Try.prog 29 [A a0] (B y) := by
  refine OK_of_pwp τ_ok Try.func29 rfl (by kernel_rfl) rfl fun Γ hX => ?_
  unfold spec_TablesOk at h
  refine pwp_seq ?_
  refine pwp_region ?_
  refine opsP_evk' (st' := ⟨34, [(0, A a0)], []⟩) τ_ok [] 1 [0] (by kernel_rfl) ?_
  refine opsP_end rfl ?_
  refine pwp_seq ?_
  refine pwp_seq ?_
  refine pwp_region ?_
  refine opsP_evk' (st' := ⟨34, [(0, A a0), (3, I 0)], []⟩) τ_ok [] 1 [0, 3] (by kernel_rfl) ?_
  refine opsP_end rfl ?_
  refine pwp_block ?_
  refine pwp_loop (ι := Nat × Int) (fun (f2, x1) => (⟨34, [(0, A a0), (3, I x1)], []⟩ : St)) (fun (f2, x1) => spec_TablesOk_l0 a0 f2 x1 = some y) (fun (f2, x1) => f2) (FUEL, 0) h ((Imp.to (st' := ⟨34, [(0, A a0), (3, I 0)], []⟩) [0, 3] (by kernel_rfl)).trans (Imp.to [0, 3] (by kernel_rfl))) ?_
  rintro ⟨f2, x1⟩ h
  dsimp only at h ⊢
  cases f2 with
  | zero => cases h
  | succ f2 =>
  rw [spec_TablesOk_l0] at h
  refine pwp_seq ?_
  refine pwp_seq ?_
  refine pwp_region ?_
  refine opsP_evk' (st' := ⟨34, [(0, A a0), (3, I x1), (7, B ((decide (x1 < ((a0.length : Int))))))], []⟩) τ_ok [] 4 [0, 3, 7] (by kernel_rfl) ?_
  refine opsP_end rfl ?_
  refine pwp_cond ((decide (x1 < ((a0.length : Int))))) (by kernel_rfl) (fun hc4 => ?_) (fun hc4 => ?_)
  · replace h := bifT hc4 h
    refine pwp_skip ?_
    refine pwp_seq ?_
    refine pwp_block ?_
    refine pwp_seq ?_
    refine pwp_join (σ := Bool) (fun x5 => (⟨34, [(0, A a0), (3, I x1), (30, B x5)], []⟩ : St)) (fun x5 => spec_TablesOk_j1 x1 (spec_TablesOk_l0 a0 f2) x5 = some y) ?_ ?_
    · refine pwp_imp (Imp.to (st' := ⟨34, [(0, A a0), (3, I x1)], []⟩) [0, 3] (by kernel_rfl)) ?_
      refine pwp_any ([[], [], [], [], [], [], [], [], [], [], [], [], [], [], [], [], [], [], [], [], []]) ([[], [], [], [], [], [], [], [], [], [], [], [], [], [], [], [], [], [], [], [], []]) rfl (by kernel_rfl) ?_
      refine qA_ev (st' := ⟨34, [(11, I x1), (10, A a0), (0, A a0), (3, I x1)], []⟩) τ_ok [] [] 2 (by exact trivial) (by kernel_rfl) ?_
      obtain ⟨v7, hv8, h⟩ := bindS h
      refine qA_E (dd := some 12) (x := .fptr (Enc.cells v7) 0) ([]) (⟨34, [(12, .fptr (Enc.cells v7) 0), (11, I x1), (10, A a0), (0, A a0), (3, I x1)], []⟩) (fun Γ' hΓ => CoreE.of_y (idxV_sound τ_ok (by kernel_rfl) hv8)) (by kernel_rfl) (by kernel_rfl) (by exact trivial) (.inr (.inr rfl)) (by kernel_rfl) ?_
      refine qA_ev (st' := ⟨34, [(17, B ((decide (((v7.fRows.length : Int)) > 6)))), (16, B ((decide (((v7.fRows.length : Int)) > 6)))), (15, I ((v7.fRows.length : Int))), (14, A v7.fRows), (13, .fptr (Enc.cells v7) 1), (12, .fptr (Enc.cells v7) 0), (11, I x1), (10, A a0), (0, A a0), (3, I x1)], []⟩) τ_ok [] [] 5 (by exact trivial) (by kernel_rfl) ?_
      rcases Bool.eq_false_or_eq_true ((decide (((v7.fRows.length : Int)) > 6))) with hc15 | hc15
      · replace h := bifT hc15 h
        rw [hc15]
        refine qA_ev (st' := ⟨34, [(30, B true), (29, .lit undef), (28, .lit undef), (27, .lit undef), (26, .lit undef), (25, .lit undef), (24, .lit undef), (23, .lit undef), (22, .lit undef), (21, .lit undef), (20, .lit undef), (19, .lit undef), (18, .lit undef), (17, B true), (16, B true), (15, I ((v7.fRows.length : Int))), (14, A v7.fRows), (13, .fptr (Enc.cells v7) 1), (12, .fptr (Enc.cells v7) 0), (11, I x1), (10, A a0), (0, A a0), (3, I x1)], []⟩) τ_ok [] [] 13 (by exact trivial) (by kernel_rfl) ?_
        refine qA_end ?_
        refine opsP_imp (Imp.to (st' := ⟨34, [(0, A a0), (3, I x1), (18, .lit undef), (19, .lit undef), (20, .lit undef), (21, .lit undef), (22, .lit undef), (23, .lit undef), (24, .lit undef), (25, .lit undef), (26, .lit undef), (27, .lit undef), (28, .lit undef), (29, .lit undef), (30, B true)], []⟩) [0, 3, 18, 19, 20, 21, 22, 23, 24, 25, 26, 27, 28, 29, 30] (by kernel_rfl)) ?_
        refine opsP_end rfl ?_
        exact ⟨true, h, (Imp.to (st' := ⟨34, [(0, A a0), (3, I x1), (30, B true)], []⟩) [0, 3, 30] (by kernel_rfl)).trans (Imp.to [0, 3, 30] (by kernel_rfl))⟩
      · replace h := bifF hc15 h
        rw [hc15]
        refine qA_ev (st' := ⟨34, [(19, I x1), (18, A a0), (17, B false), (16, B false), (15, I ((v7.fRows.length : Int))), (14, A v7.fRows), (13, .fptr (Enc.cells v7) 1), (12, .fptr (Enc.cells v7) 0), (11, I x1), (10, A a0), (0, A a0), (3, I x1)], []⟩) τ_ok [] [] 2 (by exact trivial) (by kernel_rfl) ?_
        obtain ⟨v9, hv10, h⟩ := bindS h
        refine qA_E (dd := some 20) (x := .fptr (Enc.cells v9) 0) ([]) (⟨34, [(20, .fptr (Enc.cells v9) 0), (19, I x1), (18, A a0), (17, B false), (16, B false), (15, I ((v7.fRows.length : Int))), (14, A v7.fRows), (13, .fptr (Enc.cells v7) 1), (12, .fptr (Enc.cells v7) 0), (11, I x1), (10, A a0), (0, A a0), (3, I x1)], []⟩) (fun Γ' hΓ => CoreE.of_y (idxV_sound τ_ok (by kernel_rfl) hv10)) (by kernel_rfl) (by kernel_rfl) (by exact trivial) (.inr (.inr rfl)) (by kernel_rfl) ?_
        refine qA_ev (st' := ⟨34, [(24, I x1), (23, A a0), (22, A v9.fColumns), (21, .fptr (Enc.cells v9) 0), (20, .fptr (Enc.cells v9) 0), (19, I x1), (18, A a0), (17, B false), (16, B false), (15, I ((v7.fRows.length : Int))), (14, A v7.fRows), (13, .fptr (Enc.cells v7) 1), (12, .fptr (Enc.cells v7) 0), (11, I x1), (10, A a0), (0, A a0), (3, I x1)], []⟩) τ_ok [] [] 4 (by exact trivial) (by kernel_rfl) ?_
        obtain ⟨v11, hv12, h⟩ := bindS h
        refine qA_E (dd := some 25) (x := .fptr (Enc.cells v11) 0) ([]) (⟨34, [(25, .fptr (Enc.cells v11) 0), (24, I x1), (23, A a0), (22, A v9.fColumns), (21, .fptr (Enc.cells v9) 0), (20, .fptr (Enc.cells v9) 0), (19, I x1), (18, A a0), (17, B false), (16, B false), (15, I ((v7.fRows.length : Int))), (14, A v7.fRows), (13, .fptr (Enc.cells v7) 1), (12, .fptr (Enc.cells v7) 0), (11, I x1), (10, A a0), (0, A a0), (3, I x1)], []⟩) (fun Γ' hΓ => CoreE.of_y (idxV_sound τ_ok (by kernel_rfl) hv12)) (by kernel_rfl) (by kernel_rfl) (by exact trivial) (.inr (.inr rfl)) (by kernel_rfl) ?_
        refine qA_ev (st' := ⟨34, [(27, A v11.fRows), (26, .fptr (Enc.cells v11) 1), (25, .fptr (Enc.cells v11) 0), (24, I x1), (23, A a0), (22, A v9.fColumns), (21, .fptr (Enc.cells v9) 0), (20, .fptr (Enc.cells v9) 0), (19, I x1), (18, A a0), (17, B false), (16, B false), (15, I ((v7.fRows.length : Int))), (14, A v7.fRows), (13, .fptr (Enc.cells v7) 1), (12, .fptr (Enc.cells v7) 0), (11, I x1), (10, A a0), (0, A a0), (3, I x1)], []⟩) τ_ok [] [] 2 (by exact trivial) (by kernel_rfl) ?_
        obtain ⟨v13, hv14, h⟩ := bindS h
        refine qA_E (dd := some 28) (x := B v13) ([]) (⟨34, [(28, B v13), (27, A v11.fRows), (26, .fptr (Enc.cells v11) 1), (25, .fptr (Enc.cells v11) 0), (24, I x1), (23, A a0), (22, A v9.fColumns), (21, .fptr (Enc.cells v9) 0), (20, .fptr (Enc.cells v9) 0), (19, I x1), (18, A a0), (17, B false), (16, B false), (15, I ((v7.fRows.length : Int))), (14, A v7.fRows), (13, .fptr (Enc.cells v7) 1), (12, .fptr (Enc.cells v7) 0), (11, I x1), (10, A a0), (0, A a0), (3, I x1)], []⟩) (fun Γ' hΓ => CoreE.of_g (callV_sound (τ := τ) (by kernel_rfl) rfl (ok_spec_RowsOk hv14) (FzTo.frz rfl))) (by kernel_rfl) (by kernel_rfl) (by exact trivial) (.inr (.inr rfl)) (by kernel_rfl) ?_
        refine qA_ev (st' := ⟨34, [(30, B ((!v13))), (29, B ((!v13))), (28, B v13), (27, A v11.fRows), (26, .fptr (Enc.cells v11) 1), (25, .fptr (Enc.cells v11) 0), (24, I x1), (23, A a0), (22, A v9.fColumns), (21, .fptr (Enc.cells v9) 0), (20, .fptr (Enc.cells v9) 0), (19, I x1), (18, A a0), (17, B false), (16, B false), (15, I ((v7.fRows.length : Int))), (14, A v7.fRows), (13, .fptr (Enc.cells v7) 1), (12, .fptr (Enc.cells v7) 0), (11, I x1), (10, A a0), (0, A a0), (3, I x1)], []⟩) τ_ok [] [] 2 (by exact trivial) (by kernel_rfl) ?_
        refine qA_end ?_
        refine opsP_imp (Imp.to (st' := ⟨34, [(0, A a0), (3, I x1), (18, A a0), (19, I x1), (20, .fptr (Enc.cells v9) 0), (21, .fptr (Enc.cells v9) 0), (22, A v9.fColumns), (23, A a0), (24, I x1), (25, .fptr (Enc.cells v11) 0), (26, .fptr (Enc.cells v11) 1), (27, A v11.fRows), (28, B v13), (29, B ((!v13))), (30, B ((!v13)))], []⟩) [0, 3, 18, 19, 20, 21, 22, 23, 24, 25, 26, 27, 28, 29, 30] (by kernel_rfl)) ?_
        refine opsP_end rfl ?_
        exact ⟨(!v13), h, (Imp.to (st' := ⟨34, [(0, A a0), (3, I x1), (30, B ((!v13)))], []⟩) [0, 3, 30] (by kernel_rfl)).trans (Imp.to [0, 3, 30] (by kernel_rfl))⟩
    · rintro x5 h
      skip
      unfold spec_TablesOk_j1 at h
      refine pwp_cond x5 (by kernel_rfl) (fun hc6 => ?_) (fun hc6 => ?_)
      · replace h := bifT hc6 h
        refine pwp_seq ?_
        refine pwp_region ?_
        refine opsP_evk' (st' := ⟨34, [(2, B false)], []⟩) τ_ok [] 1 [2] (by kernel_rfl) ?_
        refine opsP_end rfl ?_
        have h := Option.some.inj h
        subst h
        exact pwp_ret ⟨.inr rfl, B false, _, by kernel_rfl, (OutP.frz (by kernel_rfl)), by decide⟩
      · replace h := bifF hc6 h
        refine pwp_skip ?_
        refine pwp_region ?_
        refine opsP_evk' (st' := ⟨34, [(0, A a0), (3, I ((w64 (x1 + 1))))], []⟩) τ_ok [] 3 [0, 3] (by kernel_rfl) ?_
        refine opsP_end rfl ?_
        exact ⟨(f2, (w64 (x1 + 1))), h, Nat.lt_succ_self _, (Imp.to (st' := ⟨34, [(0, A a0), (3, I ((w64 (x1 + 1))))], []⟩) [0, 3] (by kernel_rfl)).trans (Imp.to [0, 3] (by kernel_rfl))⟩
  · replace h := bifF hc4 h
    refine pwp_exit ?_
    refine pwp_seq ?_
    refine pwp_region ?_
    refine opsP_evk' (st' := ⟨34, [(2, B ((decide (((a0.length : Int)) ≤ 3))))], []⟩) τ_ok [] 4 [2] (by kernel_rfl) ?_
    refine opsP_end rfl ?_
    have h := Option.some.inj h
    subst h
    exact pwp_ret ⟨.inr rfl, B ((decide (((a0.length : Int)) ≤ 3))), _, by kernel_rfl, (OutP.frz (by kernel_rfl)), by decide⟩

/- loop.example/tablehouse/impl.RowsOk -/
def impl_RowsOk (a0 : List T_impl_Column) (a1 : List (List T_impl_Value)) : Option Bool := (impl_ColumnsOk a0).bind fun v1 => bif v1 then (slices_ContainsFunc_impl_Value_impl_Value a1 (fun z0 => impl_RowsOk_1 z0 a0)).bind fun v3 => some ((!v3)) else some false
theorem ok_impl_RowsOk {a0 : List T_impl_Column} {a1 : List (List T_impl_Value)} {y : Bool} (h : impl_RowsOk a0 a1 = some y) : OK Try.prog 72 [A a0, A a1] (B y) := by
  refine OK_of_pwp τ_ok Try.func72 rfl (by kernel_rfl) rfl fun Γ hX => ?_
  unfold impl_RowsOk at h
  refine pwp_seq ?_
  refine pwp_region ?_
  refine opsP_evk' (st' := ⟨13, [(1, A a1), (2, .fptr (Enc.cells a0) 0)], []⟩) τ_ok [] 2 [1, 2] (by kernel_rfl) ?_
  refine opsP_end rfl ?_
  refine pwp_seq ?_
  refine pwp_region ?_
  refine opsP_evk' (st' := ⟨13, [(1, A a1), (2, .fptr (Enc.cells a0) 0), (5, A a0)], []⟩) τ_ok [] 1 [1, 2, 5] (by kernel_rfl) ?_
  obtain ⟨v1, hv2, h⟩ := bindS h
  refine opsP_callF τ 6 (ok_impl_ColumnsOk hv2) (FzTo.frz rfl) rfl (by kernel_rfl) ?_
  refine opsP_evk' (st' := ⟨13, [(1, A a1), (2, .fptr (Enc.cells a0) 0), (7, B v1)], []⟩) τ_ok [] 1 [1, 2, 7] (by kernel_rfl) ?_
  rcases Bool.eq_false_or_eq_true v1 with hc5 | hc5
  · replace h := bifT hc5 h
    rw [hc5]
    refine opsP_evk' (st' := ⟨13, [(7, B true), (8, A a1), (9, .fn 96 [.fptr (Enc.cells a0) 0])], []⟩) τ_ok [] 2 [7, 8, 9] (by kernel_rfl) ?_
    obtain ⟨v3, hv4, h⟩ := bindS h
    refine opsP_callF τ 10 (ok_slices_ContainsFunc_impl_Value_impl_Value (rfl) (fun _ w hw => ok_impl_RowsOk_1 hw) hv4) (FzTo.frz rfl) rfl (by kernel_rfl) ?_
    refine opsP_evk' (st' := ⟨13, [(4, B ((!v3)))], []⟩) τ_ok [] 3 [4] (by kernel_rfl) ?_
    refine opsP_end rfl ?_
    have h := Option.some.inj h
    subst h
    exact pwp_ret ⟨.inr rfl, B ((!v3)), _, by kernel_rfl, (OutP.frz (by kernel_rfl)), by decide⟩
  · replace h := bifF hc5 h
    rw [hc5]
    refine opsP_evk' (st' := ⟨13, [(4, B false)], []⟩) τ_ok [] 6 [4] (by kernel_rfl) ?_
    refine opsP_end rfl ?_
    have h := Option.some.inj h
    subst h
    exact pwp_ret ⟨.inr rfl, B false, _, by kernel_rfl, (OutP.frz (by kernel_rfl)), by decide⟩

/- loop.example/tablehouse/spec.PlanOk -/
def spec_PlanOk (a0 : List T_impl_Table) (a1 : List T_impl_Step) : Option Bool := (spec_l6All a0 a1).bind fun v1 => bif v1.2 then (spec_TablesOk a0).bind fun v3 => bif v3 then (spec_l1In ((a1.length : Int)) 1 6).bind fun v5 => some v5 else some false else some false
theorem ok_spec_PlanOk {a0 : List T_impl_Table} {a1 : List T_impl_Step} {y : Bool} (h : spec_PlanOk a0 a1 = some y) : OK Try.prog 8 [A a0, A a1] (B y) := by
  refine OK_of_pwp τ_ok Try.func8 rfl (by kernel_rfl) rfl fun Γ hX => ?_
  unfold spec_PlanOk at h
  refine pwp_seq ?_
  refine pwp_region ?_
  refine opsP_evk' (st' := ⟨23, [(0, A a0), (1, A a1)], []⟩) τ_ok [] 1 [0, 1] (by kernel_rfl) ?_
  refine opsP_end rfl ?_
  refine pwp_seq ?_
  refine pwp_region ?_
  refine opsP_evk' (st' := ⟨23, [(0, A a0), (1, A a1), (8, A a0), (9, A a1)], []⟩) τ_ok [] 2 [0, 1, 8, 9] (by kernel_rfl) ?_
  obtain ⟨v1, hv2, h⟩ := bindS h
  refine opsP_callF τ 10 (ok_spec_l6All hv2) (FzTo.tup (FzToL.cons (FzTo.O _) (FzToL.cons (FzTo.frz rfl) FzToL.nil))) rfl (by kernel_rfl) ?_
  refine opsP_evk' (st' := ⟨23, [(0, A a0), (1, A a1), (6, B v1.2)], []⟩) τ_ok [] 5 [0, 1, 6] (by kernel_rfl) ?_
  refine opsP_end rfl ?_
  refine pwp_seq ?_
  refine pwp_region ?_
  refine opsP_evk' (st' := ⟨23, [(0, A a0), (1, A a1), (14, B v1.2)], []⟩) τ_ok [] 2 [0, 1, 14] (by kernel_rfl) ?_
  rcases Bool.eq_false_or_eq_true v1.2 with hc8 | hc8
  · replace h := bifT hc8 h
    rw [hc8]
    refine opsP_evk' (st' := ⟨23, [(1, A a1), (14, B true), (15, A a0)], []⟩) τ_ok [] 1 [1, 14, 15] (by kernel_rfl) ?_
    obtain ⟨v3, hv4, h⟩ := bindS h
    refine opsP_callF τ 16 (ok_spec_TablesOk hv4) (FzTo.frz rfl) rfl (by kernel_rfl) ?_
    refine opsP_evk' (st' := ⟨23, [(1, A a1), (18, B v3)], []⟩) τ_ok [] 2 [1, 18] (by kernel_rfl) ?_
    rcases Bool.eq_false_or_eq_true v3 with hc7 | hc7
    · replace h := bifT hc7 h
      rw [hc7]
      refine opsP_evk' (st' := ⟨23, [(18, B true), (20, I ((a1.length : Int)))], []⟩) τ_ok [] 2 [18, 20] (by kernel_rfl) ?_
      obtain ⟨v5, hv6, h⟩ := bindS h
      refine opsP_callF τ 21 (ok_spec_l1In hv6) (FzTo.frz rfl) rfl (by kernel_rfl) ?_
      refine opsP_evk' (st' := ⟨23, [(4, B v5)], []⟩) τ_ok [] 2 [4] (by kernel_rfl) ?_
      refine opsP_end rfl ?_
      have h := Option.some.inj h
      subst h
      exact pwp_ret ⟨.inr rfl, B v5, _, by kernel_rfl, (OutP.frz (by kernel_rfl)), by decide⟩
    · replace h := bifF hc7 h
      rw [hc7]
      refine opsP_evk' (st' := ⟨23, [(4, B false)], []⟩) τ_ok [] 5 [4] (by kernel_rfl) ?_
      refine opsP_end rfl ?_
      have h := Option.some.inj h
      subst h
      exact pwp_ret ⟨.inr rfl, B false, _, by kernel_rfl, (OutP.frz (by kernel_rfl)), by decide⟩
  · replace h := bifF hc8 h
    rw [hc8]
    refine opsP_evk' (st' := ⟨23, [(4, B false)], []⟩) τ_ok [] 9 [4] (by kernel_rfl) ?_
    refine opsP_end rfl ?_
    have h := Option.some.inj h
    subst h
    exact pwp_ret ⟨.inr rfl, B false, _, by kernel_rfl, (OutP.frz (by kernel_rfl)), by decide⟩

/- loop.example/tablehouse/impl.TablesOk$1 -/
def impl_TablesOk_1 (a0 : T_impl_Table) : Option Bool := (impl_ColumnsOk a0.fColumns).bind fun v1 => bif (!v1) then some true else bif (decide (((a0.fRows.length : Int)) > 6)) then some true else (impl_RowsOk a0.fColumns a0.fRows).bind fun v3 => some ((!v3))
theorem ok_impl_TablesOk_1 {a0 : T_impl_Table} {y : Bool} (h : impl_TablesOk_1 a0 = some y) : OK Try.prog 70 [E a0] (B y) := by
  refine OK_of_pwp τ_ok Try.func70 rfl (by kernel_rfl) rfl fun Γ hX => ?_
  unfold impl_TablesOk_1 at h
  refine pwp_seq ?_
  refine pwp_region ?_
  refine opsP_evk' (st' := ⟨21, [(1, .fptr (Enc.cells a0) 0)], []⟩) τ_ok [] 2 [1] (by kernel_rfl) ?_
  refine opsP_end rfl ?_
  refine pwp_seq ?_
  refine pwp_region ?_
  refine opsP_evk' (st' := ⟨21, [(1, .fptr (Enc.cells a0) 0), (4, A a0.fColumns)], []⟩) τ_ok [] 2 [1, 4] (by kernel_rfl) ?_
  obtain ⟨v1, hv2, h⟩ := bindS h
  refine opsP_callF τ 5 (ok_impl_ColumnsOk hv2) (FzTo.frz rfl) rfl (by kernel_rfl) ?_
  refine opsP_evk' (st' := ⟨21, [(1, .fptr (Enc.cells a0) 0), (7, B ((!v1)))], []⟩) τ_ok [] 2 [1, 7] (by kernel_rfl) ?_
  rcases Bool.eq_false_or_eq_true ((!v1)) with hc6 | hc6
  · replace h := bifT hc6 h
    rw [hc6]
    refine opsP_evk' (st' := ⟨21, [(2, B true)], []⟩) τ_ok [] 14 [2] (by kernel_rfl) ?_
    refine opsP_end rfl ?_
    have h := Option.some.inj h
    subst h
    exact pwp_ret ⟨.inr rfl, B true, _, by kernel_rfl, (OutP.frz (by kernel_rfl)), by decide⟩
  · replace h := bifF hc6 h
    rw [hc6]
    refine opsP_evk' (st' := ⟨21, [(1, .fptr (Enc.cells a0) 0), (13, B ((decide (((a0.fRows.length : Int)) > 6))))], []⟩) τ_ok [] 6 [1, 13] (by kernel_rfl) ?_
    rcases Bool.eq_false_or_eq_true ((decide (((a0.fRows.length : Int)) > 6))) with hc5 | hc5
    · replace h := bifT hc5 h
      rw [hc5]
      refine opsP_evk' (st' := ⟨21, [(2, B true)], []⟩) τ_ok [] 8 [2] (by kernel_rfl) ?_
      refine opsP_end rfl ?_
      have h := Option.some.inj h
      subst h
      exact pwp_ret ⟨.inr rfl, B true, _, by kernel_rfl, (OutP.frz (by kernel_rfl)), by decide⟩
    · replace h := bifF hc5 h
      rw [hc5]
      refine opsP_evk' (st' := ⟨21, [(13, B false), (15, A a0.fColumns), (17, A a0.fRows)], []⟩) τ_ok [] 4 [13, 15, 17] (by kernel_rfl) ?_
      obtain ⟨v3, hv4, h⟩ := bindS h
      refine opsP_callF τ 18 (ok_impl_RowsOk hv4) (FzTo.frz rfl) rfl (by kernel_rfl) ?_
      refine opsP_evk' (st' := ⟨21, [(2, B ((!v3)))], []⟩) τ_ok [] 3 [2] (by kernel_rfl) ?_
      refine opsP_end rfl ?_
      have h := Option.some.inj h
      subst h
      exact pwp_ret ⟨.inr rfl, B ((!v3)), _, by kernel_rfl, (OutP.frz (by kernel_rfl)), by decide⟩

/- loop.example/tablehouse/impl.TablesOk -/
def impl_TablesOk (a0 : List T_impl_Table) : Option Bool := bif (decide (((a0.length : Int)) ≤ 3)) then (slices_ContainsFunc_impl_Table_impl_Table a0 impl_TablesOk_1).bind fun v1 => some ((!v1)) else some false
theorem ok_impl_TablesOk {a0 : List T_impl_Table} {y : Bool} (h : impl_TablesOk a0 = some y) : OK Try.prog 42 [A a0] (B y) := by
  refine OK_of_pwp τ_ok Try.func42 rfl (by kernel_rfl) rfl fun Γ hX => ?_
  unfold impl_TablesOk at h
  refine pwp_seq ?_
  refine pwp_region ?_
  refine opsP_evk' (st' := ⟨11, [(0, A a0)], []⟩) τ_ok [] 1 [0] (by kernel_rfl) ?_
  refine opsP_end rfl ?_
  refine pwp_seq ?_
  refine pwp_region ?_
  refine opsP_evk' (st' := ⟨11, [(0, A a0), (6, B ((decide (((a0.length : Int)) ≤ 3))))], []⟩) τ_ok [] 4 [0, 6] (by kernel_rfl) ?_
  rcases Bool.eq_false_or_eq_true ((decide (((a0.length : Int)) ≤ 3))) with hc3 | hc3
  · replace h := bifT hc3 h
    rw [hc3]
    refine opsP_evk' (st' := ⟨11, [(6, B true), (7, A a0)], []⟩) τ_ok [] 1 [6, 7] (by kernel_rfl) ?_
    obtain ⟨v1, hv2, h⟩ := bindS h
    refine opsP_callF τ 8 (ok_slices_ContainsFunc_impl_Table_impl_Table (rfl) (fun _ w hw => ok_impl_TablesOk_1 hw) hv2) (FzTo.frz rfl) rfl (by kernel_rfl) ?_
    refine opsP_evk' (st' := ⟨11, [(2, B ((!v1)))], []⟩) τ_ok [] 3 [2] (by kernel_rfl) ?_
    refine opsP_end rfl ?_
    have h := Option.some.inj h
    subst h
    exact pwp_ret ⟨.inr rfl, B ((!v1)), _, by kernel_rfl, (OutP.frz (by kernel_rfl)), by decide⟩
  · replace h := bifF hc3 h
    rw [hc3]
    refine opsP_evk' (st' := ⟨11, [(2, B false)], []⟩) τ_ok [] 5 [2] (by kernel_rfl) ?_
    refine opsP_end rfl ?_
    have h := Option.some.inj h
    subst h
    exact pwp_ret ⟨.inr rfl, B false, _, by kernel_rfl, (OutP.frz (by kernel_rfl)), by decide⟩

/- slices.Clip[[]loop.example/tablehouse/impl.Column,loop.example/tablehouse/impl.Column] -/
def slices_Clip_impl_Column_impl_Column_R (a0 : List T_impl_Column) : Option (List T_impl_Column) := (slI a0 none (some ((a0.length : Int))) (some ((a0.length : Int)))).bind fun v1 => some v1
theorem ok_slices_Clip_impl_Column_impl_Column_R {a0 : List T_impl_Column} {y : List T_impl_Column} (h : slices_Clip_impl_Column_impl_Column_R a0 = some y) : OKm Try.prog 65 [O a0] (O y) := by
  refine OKm_of_pwp (sl := [.ref 0 0 0 2 a0.length false]) (bs := [⟨0, eL a0⟩]) τ_ok Try.func65 rfl (by kernel_rfl) rfl (by kernel_rfl) fun Γ hX => ?_
  refine pwp_imp (Imp.to (st' := ⟨9, [(0, .ref 0 0 0 2 a0.length false)], [some ⟨0, eL a0⟩]⟩) [0] (by kernel_rfl)) ?_
  unfold slices_Clip_impl_Column_impl_Column_R at h
  refine pwp_seq ?_
  refine pwp_region ?_
  refine opsP_evk' (st' := ⟨9, [(0, .ref 0 0 0 2 a0.length false)], [some ⟨0, eL a0⟩]⟩) τ_ok [] 1 [0] (by kernel_rfl) ?_
  refine opsP_end rfl ?_
  refine pwp_seq ?_
  refine pwp_region ?_
  refine opsP_evk' (st' := ⟨9, [(3, .ref 0 0 0 2 a0.length false), (5, I ((a0.length : Int))), (7, I ((a0.length : Int)))], [some ⟨0, eL a0⟩]⟩) τ_ok [] 5 [3, 5, 7] (by kernel_rfl) ?_
  obtain ⟨v1, hv2, h⟩ := bindS h
  refine opsP_slr τ_ok 8 0 0 a0.length hv2 rfl (by kernel_rfl) ?_
  refine opsP_evk' (st' := ⟨9, [(2, .ref 0 0 0 2 v1.length false)], [some ⟨0, eL a0⟩]⟩) τ_ok [] 1 [2] (by kernel_rfl) ?_
  refine opsP_end rfl ?_
  refine pwp_imp (Imp.to (st' := ⟨9, [(2, .ref 0 0 0 2 v1.length false)], [some ⟨0, eL a0⟩]⟩) [2] (by kernel_rfl)) ?_
  refine pwp_imp (Imp.cut (st' := ⟨9, [(2, .ref 0 0 0 2 v1.length false)], [some ⟨0, eL v1⟩]⟩) 0 0 a0 v1 (by kernel_rfl) (slI_view hv2) (by kernel_rfl)) ?_
  have h := Option.some.inj h
  subst h
  exact pwp_ret ⟨.inr rfl, .ref 0 0 0 2 v1.length false, _, by kernel_rfl, (OutP.list (v := 0) (by kernel_rfl)), by decide⟩

/- loop.example/tablehouse/impl.clone[loop.example/tablehouse/impl.Column] -/
def impl_clone_impl_Column_R (a0 : List T_impl_Column) : Option (List T_impl_Column) := bif (((a0.length : Int)) == 0) then some (([] : List T_impl_Column)) else (app [] a0).bind fun v2 => (slices_Clip_impl_Column_impl_Column_R v2).bind fun v4 => some v4
theorem ok_impl_clone_impl_Column_R {a0 : List T_impl_Column} {y : List T_impl_Column} (h : impl_clone_impl_Column_R a0 = some y) : OK Try.prog 36 [A a0] (O y) := by
  refine OK_of_pwp τ_ok Try.func36 rfl (by kernel_rfl) rfl fun Γ hX => ?_
  unfold impl_clone_impl_Column_R at h
  refine pwp_seq ?_
  refine pwp_region ?_
  refine opsP_evk' (st' := ⟨9, [(0, A a0)], []⟩) τ_ok [] 1 [0] (by kernel_rfl) ?_
  refine opsP_end rfl ?_
  refine pwp_seq ?_
  refine pwp_seq ?_
  refine pwp_region ?_
  refine opsP_evk' (st' := ⟨9, [(0, A a0), (5, B ((((a0.length : Int)) == 0)))], []⟩) τ_ok [] 3 [0, 5] (by kernel_rfl) ?_
  refine opsP_end rfl ?_
  refine pwp_cond ((((a0.length : Int)) == 0)) (by kernel_rfl) (fun hc1 => ?_) (fun hc1 => ?_)
  · replace h := bifT hc1 h
    refine pwp_seq ?_
    refine pwp_region ?_
    refine opsP_evk' (st' := ⟨9, [(2, .arr 2 0 (eL ([] : List T_impl_Column)) true)], []⟩) τ_ok [] 1 [2] (by kernel_rfl) ?_
    refine opsP_end rfl ?_
    refine pwp_imp (Imp.to (st' := ⟨9, [(2, .arr 2 0 (eL ([] : List T_impl_Column)) true)], []⟩) [2] (by kernel_rfl)) ?_
    refine pwp_imp (Imp.thawS (st' := ⟨9, [(2, .ref 0 0 0 2 (([] : List T_impl_Column)).length false)], [some ⟨0, eL (([] : List T_impl_Column))⟩]⟩) 2 [2] (by kernel_rfl)) ?_
    have h := Option.some.inj h
    subst h
    exact pwp_ret ⟨.inr rfl, .ref 0 0 0 2 (([] : List T_impl_Column)).length false, _, by kernel_rfl, (OutP.list (v := 0) (by kernel_rfl)), by decide⟩
  · replace h := bifF hc1 h
    refine pwp_skip ?_
    refine pwp_seq ?_
    refine pwp_region ?_
    refine opsP_evk' (st' := ⟨9, [(6, A a0)], []⟩) τ_ok [] 1 [6] (by kernel_rfl) ?_
    obtain ⟨v2, hv3, h⟩ := bindS h
    refine opsP_apn τ_ok 7 0 (fun b hb => absurd hb (hX b)) hv3 (by kernel_rfl) ?_
    obtain ⟨v4, hv5, h⟩ := bindS h
    refine opsP_callM (xs := [.ref 0 1 0 2 v2.length false]) (x := .ref 1 0 0 2 v4.length false) (bs := [⟨0, eL v4⟩]) τ 8 [0] (fun b hb => absurd hb (hX b)) (ok_slices_Clip_impl_Column_impl_Column_R hv5) (by kernel_rfl) (OutL.cons (OutP.list (v := 1) (by kernel_rfl)) (OutL.nil _)) (by decide) (by kernel_rfl) ?_
    refine opsP_evk' (st' := ⟨9, [(2, .ref 1 0 0 2 v4.length false)], [none, some ⟨0, eL v4⟩]⟩) τ_ok [] 1 [2] (by kernel_rfl) ?_
    refine opsP_end rfl ?_
    have h := Option.some.inj h
    subst h
    exact pwp_ret ⟨.inr rfl, .ref 1 0 0 2 v4.length false, _, by kernel_rfl, (OutP.list (v := 0) (by kernel_rfl)), by decide⟩

/- (loop.example/tablehouse/impl.Step).make -/
def impl_Step_make_L2_l2 (a0 : T_impl_Step) (v11 : T_impl_made) : Nat → Int → (List T_impl_Column) → Option (T_impl_made × Bool)
  | 0, _, _ => none
  | f27 + 1, x25, x26 => bif (decide (x25 < ((a0.fList.length : Int)))) then (getI a0.fList x25).bind fun v30 => (impl_between v30 0 ((w64 (((v11.fColumns.length : Int)) - 1)))).bind fun v32 => bif (!v32) then some ((T_impl_made.mk [] 0), false) else (getI v11.fColumns v30).bind fun v35 => (app x26 (([v35] : List T_impl_Column))).bind fun v37 => (impl_Step_make_L2_l2 a0 v11 f27) ((w64 (x25 + 1))) v37 else some ({ ({ ((T_impl_made.mk [] 0)) with fMost := v11.fMost }) with fColumns := x26 }, (decide (((a0.fList.length : Int)) ≤ 4)))
def impl_Step_make_L2_l3 (v11 : T_impl_made) (v13 : T_impl_made) : Nat → Int → (List T_impl_Column) → Option (T_impl_made × Bool)
  | 0, _, _ => none
  | f57 + 1, x55, x56 => bif (decide (x55 < ((v13.fColumns.length : Int)))) then (getI v13.fColumns x55).bind fun v60 => (getI x56 x55).bind fun v62 => bif (!(v60.fKind == v62.fKind)) then some ((T_impl_made.mk [] 0), false) else (getI x56 x55).bind fun v65 => bif v65.fEmpty then (getI x56 x55).bind fun v67 => (impl_Step_make_L2_l3 v11 v13 f57) ((w64 (x55 + 1))) ((x56.set x55.toNat (({ v67 with fEmpty := true } : T_impl_Column)))) else (getI x56 x55).bind fun v69 => (impl_Step_make_L2_l3 v11 v13 f57) ((w64 (x55 + 1))) ((x56.set x55.toNat (({ v69 with fEmpty := v60.fEmpty } : T_impl_Column)))) else some ({ ({ ((T_impl_made.mk [] 0)) with fMost := (w64 (v11.fMost + v13.fMost)) }) with fColumns := x56 }, true)
def impl_Step_make_L2_j1 (a0 : T_impl_Step) (a2 : List T_impl_made) (x9 : Bool) : Option (T_impl_made × Bool) := bif x9 then some ((T_impl_made.mk [] 0), false) else (getI a2 a0.fA).bind fun v11 => (getI a2 a0.fB).bind fun v13 => bif (a0.fKind == 2) then (impl_ExprKind v11.fColumns a0.fE).bind fun v16 => some (v11, (v16 == 3)) else bif (a0.fKind == 3) then impl_Step_make_L2_l2 a0 v11 FUEL 0 (([] : List T_impl_Column)) else bif (a0.fKind == 4) then (slices_Concat_impl_Column_impl_Column ([v11.fColumns, v13.fColumns])).bind fun v40 => bif (decide (((((T_impl_made.mk v40 ((w64 (v11.fMost * v13.fMost)))).fColumns).length : Int)) ≤ 4)) then (impl_ExprKind ((T_impl_made.mk v40 ((w64 (v11.fMost * v13.fMost)))).fColumns) a0.fE).bind fun v42 => some ((T_impl_made.mk v40 ((w64 (v11.fMost * v13.fMost)))), (v42 == 3)) else some ((T_impl_made.mk v40 ((w64 (v11.fMost * v13.fMost)))), false) else bif (a0.fKind == 5) then (impl_clone_impl_Column_R v11.fColumns).bind fun v46 => bif (!(((v11.fColumns.length : Int)) == ((v13.fColumns.length : Int)))) then some ((T_impl_made.mk [] 0), false) else impl_Step_make_L2_l3 v11 v13 FUEL 0 v46 else some (v11, true)
def impl_Step_make_L2_j0 (a0 : T_impl_Step) (a1 : List T_impl_Table) (a2 : List T_impl_made) (x1 : Bool) : Option (T_impl_made × Bool) := bif x1 then some ((T_impl_made.mk [] 0), false) else bif (a0.fKind == 1) then (impl_between a0.fN 0 ((w64 (((a1.length : Int)) - 1)))).bind fun v4 => bif (!v4) then some ((T_impl_made.mk [] 0), false) else (getI a1 a0.fN).bind fun v7 => some ((T_impl_made.mk v7.fColumns 6), true) else (impl_between a0.fA 0 ((w64 (((a2.length : Int)) - 1)))).bind fun v72 => bif (!v72) then impl_Step_make_L2_j1 a0 a2 true else (impl_between a0.fB 0 ((w64 (((a2.length : Int)) - 1)))).bind fun v74 => impl_Step_make_L2_j1 a0 a2 ((!v74))
def impl_Step_make_L2 (a0 : T_impl_Step) (a1 : List T_impl_Table) (a2 : List T_impl_made) : Option (T_impl_made × Bool) := (impl_Step_plain a0).bind fun v77 => bif (!v77) then impl_Step_make_L2_j0 a0 a1 a2 true else (impl_between a0.fKind 1 6).bind fun v79 => impl_Step_make_L2_j0 a0 a1 a2 ((!v79))
theorem ok_impl_Step_make_L2 {a0 : T_impl_Step} {a1 : List T_impl_Table} {a2 : List T_impl_made} {y : T_impl_made × Bool} (h : impl_Step_make_L2 a0 a1 a2 = some y) : OKs Try.prog 62 [E a0, A a1] 2 a2.length (eL a2) [] (.tup [E y.1, B y.2]) (eL a2) := by
  refine OKs_of_pwp τ_ok Try.func62 rfl (by kernel_rfl) rfl (eL_frz _) (eL_frz _) rfl fun Γ => ?_
  refine pwp_imp (Imp.to (st' := ⟨201, [(0, E a0), (1, A a1), (2, .ref 0 0 0 2 a2.length false)], [some ⟨0, eL a2⟩]⟩) [0, 1, 2] (by kernel_rfl)) ?_
  unfold impl_Step_make_L2 at h
  refine pwp_seq ?_
  refine pwp_region ?_
  refine opsP_evk' (st' := ⟨201, [(1, A a1), (2, .ref 0 0 0 2 a2.length false), (3, .fptr (Enc.cells a0) 0), (6, .ptr 1 0 0)], [some ⟨0, eL a2⟩, some ⟨0, Enc.cells ((T_impl_made.mk [] 0))⟩]⟩) τ_ok [6, 8, 9, 10, 13, 14, 16] 3 [1, 2, 3, 6] (by kernel_rfl) ?_
  refine opsP_end rfl ?_
  refine pwp_seq ?_
  refine pwp_seq ?_
  refine pwp_join (σ := Bool) (fun x1 => (⟨201, [(1, A a1), (2, .ref 0 0 0 2 a2.length false), (3, .fptr (Enc.cells a0) 0), (6, .ptr 1 0 0), (25, B x1)], [some ⟨0, eL a2⟩, some ⟨0, Enc.cells ((T_impl_made.mk [] 0))⟩]⟩ : St)) (fun x1 => impl_Step_make_L2_j0 a0 a1 a2 x1 = some y) ?_ ?_
  · refine pwp_region ?_
    refine opsP_evk' (st' := ⟨201, [(1, A a1), (2, .ref 0 0 0 2 a2.length false), (3, .fptr (Enc.cells a0) 0), (6, .ptr 1 0 0), (17, E a0)], [some ⟨0, eL a2⟩, some ⟨0, Enc.cells ((T_impl_made.mk [] 0))⟩]⟩) τ_ok [6, 8, 9, 10, 13, 14, 16] 1 [1, 2, 3, 6, 17] (by kernel_rfl) ?_
    obtain ⟨v77, hv78, h⟩ := bindS h
    refine opsP_callF τ 18 (ok_impl_Step_plain hv78) (FzTo.frz rfl) rfl (by kernel_rfl) ?_
    refine opsP_evk' (st' := ⟨201, [(1, A a1), (2, .ref 0 0 0 2 a2.length false), (3, .fptr (Enc.cells a0) 0), (6, .ptr 1 0 0), (20, B ((!v77)))], [some ⟨0, eL a2⟩, some ⟨0, Enc.cells ((T_impl_made.mk [] 0))⟩]⟩) τ_ok [6, 8, 9, 10, 13, 14, 16] 2 [1, 2, 3, 6, 20] (by kernel_rfl) ?_
    rcases Bool.eq_false_or_eq_true ((!v77)) with hc81 | hc81
    · replace h := bifT hc81 h
      rw [hc81]
      refine opsP_evk' (st' := ⟨201, [(1, A a1), (2, .ref 0 0 0 2 a2.length false), (3, .fptr (Enc.cells a0) 0), (6, .ptr 1 0 0), (25, B true)], [some ⟨0, eL a2⟩, some ⟨0, Enc.cells ((T_impl_made.mk [] 0))⟩]⟩) τ_ok [6, 8, 9, 10, 13, 14, 16] 5 [1, 2, 3, 6, 25] (by kernel_rfl) ?_
      refine opsP_end rfl ?_
      exact ⟨true, h, (Imp.to (st' := ⟨201, [(1, A a1), (2, .ref 0 0 0 2 a2.length false), (3, .fptr (Enc.cells a0) 0), (6, .ptr 1 0 0), (25, B true)], [some ⟨0, eL a2⟩, some ⟨0, Enc.cells ((T_impl_made.mk [] 0))⟩]⟩) [1, 2, 3, 6, 25] (by kernel_rfl)).trans (Imp.to [1, 2, 3, 6, 25] (by kernel_rfl))⟩
    · replace h := bifF hc81 h
      rw [hc81]
      refine opsP_evk' (st' := ⟨201, [(1, A a1), (2, .ref 0 0 0 2 a2.length false), (3, .fptr (Enc.cells a0) 0), (6, .ptr 1 0 0), (20, B false), (22, I a0.fKind)], [some ⟨0, eL a2⟩, some ⟨0, Enc.cells ((T_impl_made.mk [] 0))⟩]⟩) τ_ok [6, 8, 9, 10, 13, 14, 16] 2 [1, 2, 3, 6, 20, 22] (by kernel_rfl) ?_
      obtain ⟨v79, hv80, h⟩ := bindS h
      refine opsP_callF τ 23 (ok_impl_between hv80) (FzTo.frz rfl) rfl (by kernel_rfl) ?_
      refine opsP_evk' (st' := ⟨201, [(1, A a1), (2, .ref 0 0 0 2 a2.length false), (3, .fptr (Enc.cells a0) 0), (6, .ptr 1 0 0), (25, B ((!v79)))], [some ⟨0, eL a2⟩, some ⟨0, Enc.cells ((T_impl_made.mk [] 0))⟩]⟩) τ_ok [6, 8, 9, 10, 13, 14, 16] 2 [1, 2, 3, 6, 25] (by kernel_rfl) ?_
      refine opsP_end rfl ?_
      exact ⟨(!v79), h, (Imp.to (st' := ⟨201, [(1, A a1), (2, .ref 0 0 0 2 a2.length false), (3, .fptr (Enc.cells a0) 0), (6, .ptr 1 0 0), (25, B ((!v79)))], [some ⟨0, eL a2⟩, some ⟨0, Enc.cells ((T_impl_made.mk [] 0))⟩]⟩) [1, 2, 3, 6, 25] (by kernel_rfl)).trans (Imp.to [1, 2, 3, 6, 25] (by kernel_rfl))⟩
  · rintro x1 h
    skip
    unfold impl_Step_make_L2_j0 at h
    refine pwp_cond x1 (by kernel_rfl) (fun hc2 => ?_) (fun hc2 => ?_)
    · replace h := bifT hc2 h
      refine pwp_seq ?_
      refine pwp_region ?_
      refine opsP_evk' (st' := ⟨201, [(6, .ptr 1 0 0), (7, B false)], [some ⟨0, eL a2⟩, some ⟨0, Enc.cells ((T_impl_made.mk [] 0))⟩]⟩) τ_ok [6, 8, 9, 10, 13, 14, 16] 3 [6, 7] (by kernel_rfl) ?_
      refine opsP_end rfl ?_
      have h := Option.some.inj h
      subst h
      exact pwp_ret ⟨.inr rfl, .tup [E ((T_impl_made.mk [] 0)), B false], _, 0, by kernel_rfl, (OutP.tup (OutL.cons (OutP.frz (by kernel_rfl)) (OutL.cons (OutP.frz (by kernel_rfl)) (OutL.nil _)))), by decide, by decide, by kernel_rfl⟩
    · replace h := bifF hc2 h
      refine pwp_skip ?_
      refine pwp_seq ?_
      refine pwp_seq ?_
      refine pwp_region ?_
      refine opsP_evk' (st' := ⟨201, [(1, A a1), (2, .ref 0 0 0 2 a2.length false), (3, .fptr (Enc.cells a0) 0), (6, .ptr 1 0 0), (29, B ((a0.fKind == 1)))], [some ⟨0, eL a2⟩, some ⟨0, Enc.cells ((T_impl_made.mk [] 0))⟩]⟩) τ_ok [6, 8, 9, 10, 13, 14, 16] 3 [1, 2, 3, 6, 29] (by kernel_rfl) ?_
      refine opsP_end rfl ?_
      refine pwp_cond ((a0.fKind == 1)) (by kernel_rfl) (fun hc3 => ?_) (fun hc3 => ?_)
      · replace h := bifT hc3 h
        refine pwp_seq ?_
        refine pwp_seq ?_
        refine pwp_region ?_
        refine opsP_evk' (st' := ⟨201, [(1, A a1), (3, .fptr (Enc.cells a0) 0), (6, .ptr 1 0 0), (31, I a0.fN), (34, I ((w64 (((a1.length : Int)) - 1))))], [some ⟨0, eL a2⟩, some ⟨0, Enc.cells ((T_impl_made.mk [] 0))⟩]⟩) τ_ok [6, 8, 9, 10, 13, 14, 16] 5 [1, 3, 6, 31, 34] (by kernel_rfl) ?_
        obtain ⟨v4, hv5, h⟩ := bindS h
        refine opsP_callF τ 35 (ok_impl_between hv5) (FzTo.frz rfl) rfl (by kernel_rfl) ?_
        refine opsP_evk' (st' := ⟨201, [(1, A a1), (3, .fptr (Enc.cells a0) 0), (6, .ptr 1 0 0), (36, B ((!v4)))], [some ⟨0, eL a2⟩, some ⟨0, Enc.cells ((T_impl_made.mk [] 0))⟩]⟩) τ_ok [6, 8, 9, 10, 13, 14, 16] 1 [1, 3, 6, 36] (by kernel_rfl) ?_
        refine opsP_end rfl ?_
        refine pwp_cond ((!v4)) (by kernel_rfl) (fun hc6 => ?_) (fun hc6 => ?_)
        · replace h := bifT hc6 h
          refine pwp_seq ?_
          refine pwp_region ?_
          refine opsP_evk' (st' := ⟨201, [(6, .ptr 1 0 0), (7, B false)], [some ⟨0, eL a2⟩, some ⟨0, Enc.cells ((T_impl_made.mk [] 0))⟩]⟩) τ_ok [6, 8, 9, 10, 13, 14, 16] 3 [6, 7] (by kernel_rfl) ?_
          refine opsP_end rfl ?_
          have h := Option.some.inj h
          subst h
          exact pwp_ret ⟨.inr rfl, .tup [E ((T_impl_made.mk [] 0)), B false], _, 0, by kernel_rfl, (OutP.tup (OutL.cons (OutP.frz (by kernel_rfl)) (OutL.cons (OutP.frz (by kernel_rfl)) (OutL.nil _)))), by decide, by decide, by kernel_rfl⟩
        · replace h := bifF hc6 h
          refine pwp_skip ?_
          refine pwp_seq ?_
          refine pwp_region ?_
          refine opsP_evk' (st' := ⟨201, [(6, .ptr 1 0 0), (38, A a1), (40, I a0.fN)], [some ⟨0, eL a2⟩, some ⟨0, Enc.cells ((T_impl_made.mk [] 0))⟩]⟩) τ_ok [6, 8, 9, 10, 13, 14, 16] 3 [6, 38, 40] (by kernel_rfl) ?_
          obtain ⟨v7, hv8, h⟩ := bindS h
          refine opsP_idx τ_ok 41 hv8 (by kernel_rfl) ?_
          refine opsP_evk' (st' := ⟨201, [(6, .ptr 1 0 0), (7, B true)], [some ⟨0, eL a2⟩, some ⟨0, Enc.cells ((T_impl_made.mk v7.fColumns 6))⟩]⟩) τ_ok [6, 8, 9, 10, 13, 14, 16] 5 [6, 7] (by kernel_rfl) ?_
          refine opsP_end rfl ?_
          have h := Option.some.inj h
          subst h
          exact pwp_ret ⟨.inr rfl, .tup [E ((T_impl_made.mk v7.fColumns 6)), B true], _, 0, by kernel_rfl, (OutP.tup (OutL.cons (OutP.frz (by kernel_rfl)) (OutL.cons (OutP.frz (by kernel_rfl)) (OutL.nil _)))), by decide, by decide, by kernel_rfl⟩
      · replace h := bifF hc3 h
        refine pwp_skip ?_
        refine pwp_seq ?_
        refine pwp_seq ?_
        refine pwp_join (σ := Bool) (fun x9 => (⟨201, [(2, .ref 0 0 0 2 a2.length false), (3, .fptr (Enc.cells a0) 0), (6, .ptr 1 0 0), (60, B x9)], [some ⟨0, eL a2⟩, some ⟨0, Enc.cells ((T_impl_made.mk [] 0))⟩]⟩ : St)) (fun x9 => impl_Step_make_L2_j1 a0 a2 x9 = some y) ?_ ?_
        · refine pwp_region ?_
          refine opsP_evk' (st' := ⟨201, [(2, .ref 0 0 0 2 a2.length false), (3, .fptr (Enc.cells a0) 0), (6, .ptr 1 0 0), (46, I a0.fA), (49, I ((w64 (((a2.length : Int)) - 1))))], [some ⟨0, eL a2⟩, some ⟨0, Enc.cells ((T_impl_made.mk [] 0))⟩]⟩) τ_ok [6, 8, 9, 10, 13, 14, 16] 5 [2, 3, 6, 46, 49] (by kernel_rfl) ?_
          obtain ⟨v72, hv73, h⟩ := bindS h
          refine opsP_callF τ 50 (ok_impl_between hv73) (FzTo.frz rfl) rfl (by kernel_rfl) ?_
          refine opsP_evk' (st' := ⟨201, [(2, .ref 0 0 0 2 a2.length false), (3, .fptr (Enc.cells a0) 0), (6, .ptr 1 0 0), (52, B ((!v72)))], [some ⟨0, eL a2⟩, some ⟨0, Enc.cells ((T_impl_made.mk [] 0))⟩]⟩) τ_ok [6, 8, 9, 10, 13, 14, 16] 2 [2, 3, 6, 52] (by kernel_rfl) ?_
          rcases Bool.eq_false_or_eq_true ((!v72)) with hc76 | hc76
          · replace h := bifT hc76 h
            rw [hc76]
            refine opsP_evk' (st' := ⟨201, [(2, .ref 0 0 0 2 a2.length false), (3, .fptr (Enc.cells a0) 0), (6, .ptr 1 0 0), (60, B true)], [some ⟨0, eL a2⟩, some ⟨0, Enc.cells ((T_impl_made.mk [] 0))⟩]⟩) τ_ok [6, 8, 9, 10, 13, 14, 16] 8 [2, 3, 6, 60] (by kernel_rfl) ?_
            refine opsP_end rfl ?_
            exact ⟨true, h, (Imp.to (st' := ⟨201, [(2, .ref 0 0 0 2 a2.length false), (3, .fptr (Enc.cells a0) 0), (6, .ptr 1 0 0), (60, B true)], [some ⟨0, eL a2⟩, some ⟨0, Enc.cells ((T_impl_made.mk [] 0))⟩]⟩) [2, 3, 6, 60] (by kernel_rfl)).trans (Imp.to [2, 3, 6, 60] (by kernel_rfl))⟩
          · replace h := bifF hc76 h
            rw [hc76]
            refine opsP_evk' (st' := ⟨201, [(2, .ref 0 0 0 2 a2.length false), (3, .fptr (Enc.cells a0) 0), (6, .ptr 1 0 0), (52, B false), (54, I a0.fB), (57, I ((w64 (((a2.length : Int)) - 1))))], [some ⟨0, eL a2⟩, some ⟨0, Enc.cells ((T_impl_made.mk [] 0))⟩]⟩) τ_ok [6, 8, 9, 10, 13, 14, 16] 5 [2, 3, 6, 52, 54, 57] (by kernel_rfl) ?_
            obtain ⟨v74, hv75, h⟩ := bindS h
            refine opsP_callF τ 58 (ok_impl_between hv75) (FzTo.frz rfl) rfl (by kernel_rfl) ?_
            refine opsP_evk' (st' := ⟨201, [(2, .ref 0 0 0 2 a2.length false), (3, .fptr (Enc.cells a0) 0), (6, .ptr 1 0 0), (60, B ((!v74)))], [some ⟨0, eL a2⟩, some ⟨0, Enc.cells ((T_impl_made.mk [] 0))⟩]⟩) τ_ok [6, 8, 9, 10, 13, 14, 16] 2 [2, 3, 6, 60] (by kernel_rfl) ?_
            refine opsP_end rfl ?_
            exact ⟨(!v74), h, (Imp.to (st' := ⟨201, [(2, .ref 0 0 0 2 a2.length false), (3, .fptr (Enc.cells a0) 0), (6, .ptr 1 0 0), (60, B ((!v74)))], [some ⟨0, eL a2⟩, some ⟨0, Enc.cells ((T_impl_made.mk [] 0))⟩]⟩) [2, 3, 6, 60] (by kernel_rfl)).trans (Imp.to [2, 3, 6, 60] (by kernel_rfl))⟩
        · rintro x9 h
          skip
          unfold impl_Step_make_L2_j1 at h
          refine pwp_cond x9 (by kernel_rfl) (fun hc10 => ?_) (fun hc10 => ?_)
          · replace h := bifT hc10 h
            refine pwp_seq ?_
            refine pwp_region ?_
            refine opsP_evk' (st' := ⟨201, [(6, .ptr 1 0 0), (7, B false)], [some ⟨0, eL a2⟩, some ⟨0, Enc.cells ((T_impl_made.mk [] 0))⟩]⟩) τ_ok [6, 8, 9, 10, 13, 14, 16] 3 [6, 7] (by kernel_rfl) ?_
            refine opsP_end rfl ?_
            have h := Option.some.inj h
            subst h
            exact pwp_ret ⟨.inr rfl, .tup [E ((T_impl_made.mk [] 0)), B false], _, 0, by kernel_rfl, (OutP.tup (OutL.cons (OutP.frz (by kernel_rfl)) (OutL.cons (OutP.frz (by kernel_rfl)) (OutL.nil _)))), by decide, by decide, by kernel_rfl⟩
          · replace h := bifF hc10 h
            refine pwp_skip ?_
            refine pwp_seq ?_
            refine pwp_imp (Imp.to (st' := ⟨201, [(2, .ref 0 0 0 2 a2.length false), (3, .fptr (Enc.cells a0) 0), (6, .ptr 1 0 0)], [some ⟨0, eL a2⟩, some ⟨0, Enc.cells ((T_impl_made.mk [] 0))⟩]⟩) [2, 3, 6] (by kernel_rfl)) ?_
            refine pwp_imp (Imp.ghosts 2 (st' := ⟨201, [(2, .ref 0 0 0 2 a2.length false), (3, .fptr (Enc.cells a0) 0), (6, .ptr 1 0 0)], [some ⟨0, eL a2⟩, some ⟨0, Enc.cells ((T_impl_made.mk [] 0))⟩, some ⟨0, []⟩, some ⟨0, []⟩]⟩) (by kernel_rfl)) ?_
            refine pwp_any ([[0], [], [], [0], [0], [0], [], [], [0], [0], [2], [3], [2], [3]]) ([[], [], [], [], [], [], [], [], [], [], [2], [3], [2], [3]]) rfl (by kernel_rfl) ?_
            refine qA_ev (st' := ⟨201, [(62, .ref 0 0 0 2 a2.length false), (2, .ref 0 0 0 2 a2.length false), (3, .fptr (Enc.cells a0) 0), (6, .ptr 1 0 0)], [some ⟨0, eL a2⟩, some ⟨0, Enc.cells ((T_impl_made.mk [] 0))⟩, some ⟨0, []⟩, some ⟨0, []⟩]⟩) τ_ok [6, 8, 9, 10, 13, 14, 16] [0] 1 (by exact (And.intro (.inl (eL_frz _)) trivial)) (by kernel_rfl) ?_
            refine qA_ev (st' := ⟨201, [(64, I a0.fA), (63, .fptr (Enc.cells a0) 1), (62, .ref 0 0 0 2 a2.length false), (2, .ref 0 0 0 2 a2.length false), (3, .fptr (Enc.cells a0) 0), (6, .ptr 1 0 0)], [some ⟨0, eL a2⟩, some ⟨0, Enc.cells ((T_impl_made.mk [] 0))⟩, some ⟨0, []⟩, some ⟨0, []⟩]⟩) τ_ok [6, 8, 9, 10, 13, 14, 16] [] 2 (by exact trivial) (by kernel_rfl) ?_
            obtain ⟨v11, hv12, h⟩ := bindS h
            refine qA_E (dd := some 65) (x := .ptr 0 0 (a0.fA.toNat * 2)) ([some ⟨0, eL a2⟩, none, none, none]) (⟨201, [(65, .ptr 0 0 (a0.fA.toNat * 2)), (64, I a0.fA), (63, .fptr (Enc.cells a0) 1), (62, .ref 0 0 0 2 a2.length false), (2, .ref 0 0 0 2 a2.length false), (3, .fptr (Enc.cells a0) 0), (6, .ptr 1 0 0)], [some ⟨0, eL a2⟩, some ⟨0, Enc.cells ((T_impl_made.mk [] 0))⟩, some ⟨0, []⟩, some ⟨0, []⟩]⟩) (fun Γ' hΓ => CoreE.of_y (idrV_sound (n := a2.length) τ_ok (by kernel_rfl) hv12 rfl)) (by kernel_rfl) (by kernel_rfl) (by exact (And.intro (.inl (eL_frz _)) trivial)) (.inr (.inl rfl)) (by kernel_rfl) ?_
            refine qA_E (dd := some 66) (x := E v11) ([some ⟨0, eL a2⟩, none, none, none]) (⟨201, [(66, E v11), (65, .ptr 0 0 (a0.fA.toNat * 2)), (64, I a0.fA), (63, .fptr (Enc.cells a0) 1), (62, .ref 0 0 0 2 a2.length false), (2, .ref 0 0 0 2 a2.length false), (3, .fptr (Enc.cells a0) 0), (6, .ptr 1 0 0)], [some ⟨0, eL a2⟩, some ⟨0, Enc.cells ((T_impl_made.mk [] 0))⟩, some ⟨0, []⟩, some ⟨0, []⟩]⟩) (fun Γ' hΓ => CoreE.of_y (ldeV_sound (t := 79) (o' := 0) (r := E v11) τ_ok hv12 (by kernel_rfl) (by kernel_rfl))) (by kernel_rfl) (by kernel_rfl) (by exact (And.intro (.inl (eL_frz _)) trivial)) (.inr (.inr rfl)) (by kernel_rfl) ?_
            refine qA_ev (st' := ⟨201, [(67, .ref 0 0 0 2 a2.length false), (66, E v11), (65, .ptr 0 0 (a0.fA.toNat * 2)), (64, I a0.fA), (63, .fptr (Enc.cells a0) 1), (62, .ref 0 0 0 2 a2.length false), (2, .ref 0 0 0 2 a2.length false), (3, .fptr (Enc.cells a0) 0), (6, .ptr 1 0 0)], [some ⟨0, eL a2⟩, some ⟨0, Enc.cells ((T_impl_made.mk [] 0))⟩, some ⟨0, []⟩, some ⟨0, []⟩]⟩) τ_ok [6, 8, 9, 10, 13, 14, 16] [0] 1 (by exact (And.intro (.inl (eL_frz _)) trivial)) (by kernel_rfl) ?_
            refine qA_ev (st' := ⟨201, [(69, I a0.fB), (68, .fptr (Enc.cells a0) 2), (67, .ref 0 0 0 2 a2.length false), (66, E v11), (65, .ptr 0 0 (a0.fA.toNat * 2)), (64, I a0.fA), (63, .fptr (Enc.cells a0) 1), (62, .ref 0 0 0 2 a2.length false), (2, .ref 0 0 0 2 a2.length false), (3, .fptr (Enc.cells a0) 0), (6, .ptr 1 0 0)], [some ⟨0, eL a2⟩, some ⟨0, Enc.cells ((T_impl_made.mk [] 0))⟩, some ⟨0, []⟩, some ⟨0, []⟩]⟩) τ_ok [6, 8, 9, 10, 13, 14, 16] [] 2 (by exact trivial) (by kernel_rfl) ?_
            obtain ⟨v13, hv14, h⟩ := bindS h
            refine qA_E (dd := some 70) (x := .ptr 0 0 (a0.fB.toNat * 2)) ([some ⟨0, eL a2⟩, none, none, none]) (⟨201, [(70, .ptr 0 0 (a0.fB.toNat * 2)), (69, I a0.fB), (68, .fptr (Enc.cells a0) 2), (67, .ref 0 0 0 2 a2.length false), (66, E v11), (65, .ptr 0 0 (a0.fA.toNat * 2)), (64, I a0.fA), (63, .fptr (Enc.cells a0) 1), (62, .ref 0 0 0 2 a2.length false), (2, .ref 0 0 0 2 a2.length false), (3, .fptr (Enc.cells a0) 0), (6, .ptr 1 0 0)], [some ⟨0, eL a2⟩, some ⟨0, Enc.cells ((T_impl_made.mk [] 0))⟩, some ⟨0, []⟩, some ⟨0, []⟩]⟩) (fun Γ' hΓ => CoreE.of_y (idrV_sound (n := a2.length) τ_ok (by kernel_rfl) hv14 rfl)) (by kernel_rfl) (by kernel_rfl) (by exact (And.intro (.inl (eL_frz _)) trivial)) (.inr (.inl rfl)) (by kernel_rfl) ?_
            refine qA_E (dd := some 71) (x := E v13) ([some ⟨0, eL a2⟩, none, none, none]) (⟨201, [(71, E v13), (70, .ptr 0 0 (a0.fB.toNat * 2)), (69, I a0.fB), (68, .fptr (Enc.cells a0) 2), (67, .ref 0 0 0 2 a2.length false), (66, E v11), (65, .ptr 0 0 (a0.fA.toNat * 2)), (64, I a0.fA), (63, .fptr (Enc.cells a0) 1), (62, .ref 0 0 0 2 a2.length false), (2, .ref 0 0 0 2 a2.length false), (3, .fptr (Enc.cells a0) 0), (6, .ptr 1 0 0)], [some ⟨0, eL a2⟩, some ⟨0, Enc.cells ((T_impl_made.mk [] 0))⟩, some ⟨0, []⟩, some ⟨0, []⟩]⟩) (fun Γ' hΓ => CoreE.of_y (ldeV_sound (t := 79) (o' := 0) (r := E v13) τ_ok hv14 (by kernel_rfl) (by kernel_rfl))) (by kernel_rfl) (by kernel_rfl) (by exact (And.intro (.inl (eL_frz _)) trivial)) (.inr (.inr rfl)) (by kernel_rfl) ?_
            refine qA_E (dd := some 8) (x := .ptr 2 1 0) ([none, none, some ⟨1, [.arr 2 0 (eL ([] : List T_impl_Column)) true, I ((T_impl_made.mk [] 0).fMost)]⟩, none]) (⟨201, [(8, .ptr 2 1 0), (71, E v13), (70, .ptr 0 0 (a0.fB.toNat * 2)), (69, I a0.fB), (68, .fptr (Enc.cells a0) 2), (67, .ref 0 0 0 2 a2.length false), (66, E v11), (65, .ptr 0 0 (a0.fA.toNat * 2)), (64, I a0.fA), (63, .fptr (Enc.cells a0) 1), (62, .ref 0 0 0 2 a2.length false), (2, .ref 0 0 0 2 a2.length false), (3, .fptr (Enc.cells a0) 0), (6, .ptr 1 0 0)], [some ⟨0, eL a2⟩, some ⟨0, Enc.cells ((T_impl_made.mk [] 0))⟩, some ⟨1, [.arr 2 0 (eL ([] : List T_impl_Column)) true, I ((T_impl_made.mk [] 0).fMost)]⟩, some ⟨0, []⟩]⟩) (fun Γ' hΓ => alz_E (blk := ⟨0, []⟩) (zs := [.arr 2 0 [] true, .lit (.int .i64 0)]) 8 79 2 0 (fun _ _ => by decide) zi_ok79 (by kernel_rfl) (by kernel_rfl)) (by kernel_rfl) (by kernel_rfl) (by exact (And.intro (.inl rfl) trivial)) (.inr (.inl rfl)) (by kernel_rfl) ?_
            refine qA_E (dd := some 9) (x := .ptr 3 1 0) ([none, none, none, some ⟨1, Enc.cells ((T_impl_made.mk [] 0))⟩]) (⟨201, [(9, .ptr 3 1 0), (8, .ptr 2 1 0), (71, E v13), (70, .ptr 0 0 (a0.fB.toNat * 2)), (69, I a0.fB), (68, .fptr (Enc.cells a0) 2), (67, .ref 0 0 0 2 a2.length false), (66, E v11), (65, .ptr 0 0 (a0.fA.toNat * 2)), (64, I a0.fA), (63, .fptr (Enc.cells a0) 1), (62, .ref 0 0 0 2 a2.length false), (2, .ref 0 0 0 2 a2.length false), (3, .fptr (Enc.cells a0) 0), (6, .ptr 1 0 0)], [some ⟨0, eL a2⟩, some ⟨0, Enc.cells ((T_impl_made.mk [] 0))⟩, some ⟨1, [.arr 2 0 (eL ([] : List T_impl_Column)) true, I ((T_impl_made.mk [] 0).fMost)]⟩, some ⟨1, Enc.cells ((T_impl_made.mk [] 0))⟩]⟩) (fun Γ' hΓ => alc_E (blk := ⟨0, []⟩) τ_ok [6, 8, 9, 10, 13, 14, 16] 9 3 0 (fun _ _ => by decide) (by kernel_rfl) (by kernel_rfl)) (by kernel_rfl) (by kernel_rfl) (by exact (And.intro (.inl (Enc.frz _)) trivial)) (.inr (.inl rfl)) (by kernel_rfl) ?_
            refine qA_E (dd := none) (x := .any) ([none, none, some ⟨1, Enc.cells v11⟩, none]) (⟨201, [(9, .ptr 3 1 0), (8, .ptr 2 1 0), (71, E v13), (70, .ptr 0 0 (a0.fB.toNat * 2)), (69, I a0.fB), (68, .fptr (Enc.cells a0) 2), (67, .ref 0 0 0 2 a2.length false), (66, E v11), (65, .ptr 0 0 (a0.fA.toNat * 2)), (64, I a0.fA), (63, .fptr (Enc.cells a0) 1), (62, .ref 0 0 0 2 a2.length false), (2, .ref 0 0 0 2 a2.length false), (3, .fptr (Enc.cells a0) 0), (6, .ptr 1 0 0)], [some ⟨0, eL a2⟩, some ⟨0, Enc.cells ((T_impl_made.mk [] 0))⟩, some ⟨1, Enc.cells v11⟩, some ⟨1, Enc.cells ((T_impl_made.mk [] 0))⟩]⟩) (fun Γ' hΓ => sto_E τ_ok 2 1 (by kernel_rfl)) (by kernel_rfl) (by kernel_rfl) (by exact (And.intro (.inl (Enc.frz _)) trivial)) (.inl rfl) (by kernel_rfl) ?_
            refine qA_E (dd := none) (x := .any) ([none, none, none, some ⟨1, Enc.cells v13⟩]) (⟨201, [(9, .ptr 3 1 0), (8, .ptr 2 1 0), (71, E v13), (70, .ptr 0 0 (a0.fB.toNat * 2)), (69, I a0.fB), (68, .fptr (Enc.cells a0) 2), (67, .ref 0 0 0 2 a2.length false), (66, E v11), (65, .ptr 0 0 (a0.fA.toNat * 2)), (64, I a0.fA), (63, .fptr (Enc.cells a0) 1), (62, .ref 0 0 0 2 a2.length false), (2, .ref 0 0 0 2 a2.length false), (3, .fptr (Enc.cells a0) 0), (6, .ptr 1 0 0)], [some ⟨0, eL a2⟩, some ⟨0, Enc.cells ((T_impl_made.mk [] 0))⟩, some ⟨1, Enc.cells v11⟩, some ⟨1, Enc.cells v13⟩]⟩) (fun Γ' hΓ => sto_E τ_ok 3 1 (by kernel_rfl)) (by kernel_rfl) (by kernel_rfl) (by exact (And.intro (.inl (Enc.frz _)) trivial)) (.inl rfl) (by kernel_rfl) ?_
            refine qA_end ?_
            refine opsP_imp (Imp.to (st' := ⟨201, [(3, .fptr (Enc.cells a0) 0), (6, .ptr 1 0 0), (8, .ptr 2 1 0), (9, .ptr 3 1 0)], [some ⟨0, eL a2⟩, some ⟨0, Enc.cells ((T_impl_made.mk [] 0))⟩, some ⟨1, Enc.cells v11⟩, some ⟨1, Enc.cells v13⟩]⟩) [3, 6, 8, 9] (by kernel_rfl)) ?_
            refine opsP_end rfl ?_
            refine pwp_seq ?_
            refine pwp_seq ?_
            refine pwp_region ?_
            refine opsP_evk' (st' := ⟨201, [(3, .fptr (Enc.cells a0) 0), (6, .ptr 1 0 0), (8, .ptr 2 1 0), (9, .ptr 3 1 0), (73, I a0.fKind)], [some ⟨0, eL a2⟩, some ⟨0, Enc.cells ((T_impl_made.mk [] 0))⟩, some ⟨1, Enc.cells v11⟩, some ⟨1, Enc.cells v13⟩]⟩) τ_ok [6, 8, 9, 10, 13, 14, 16] 2 [3, 6, 8, 9, 73] (by kernel_rfl) ?_
            refine opsP_end rfl ?_
            refine pwp_block ?_
            refine pwp_seq ?_
            refine pwp_region ?_
            refine opsP_evk' (st' := ⟨201, [(3, .fptr (Enc.cells a0) 0), (6, .ptr 1 0 0), (8, .ptr 2 1 0), (9, .ptr 3 1 0), (73, I a0.fKind), (74, B ((a0.fKind == 2)))], [some ⟨0, eL a2⟩, some ⟨0, Enc.cells ((T_impl_made.mk [] 0))⟩, some ⟨1, Enc.cells v11⟩, some ⟨1, Enc.cells v13⟩]⟩) τ_ok [6, 8, 9, 10, 13, 14, 16] 2 [3, 6, 8, 9, 73, 74] (by kernel_rfl) ?_
            refine opsP_end rfl ?_
            refine pwp_cond ((a0.fKind == 2)) (by kernel_rfl) (fun hc15 => ?_) (fun hc15 => ?_)
            · replace h := bifT hc15 h
              refine pwp_seq ?_
              refine pwp_imp (Imp.to (st' := ⟨201, [(3, .fptr (Enc.cells a0) 0), (6, .ptr 1 0 0), (8, .ptr 2 1 0)], [some ⟨0, eL a2⟩, some ⟨0, Enc.cells ((T_impl_made.mk [] 0))⟩, some ⟨1, Enc.cells v11⟩, some ⟨1, Enc.cells v13⟩]⟩) [3, 6, 8] (by kernel_rfl)) ?_
              refine pwp_any ([[2], [2], [2], [], [], [], [], [1], []]) ([[], [], [], [], [], [], [], [1], []]) rfl (by kernel_rfl) ?_
              refine qA_ev (st' := ⟨201, [(78, A v11.fColumns), (77, .ptr 2 1 0), (76, E v11), (3, .fptr (Enc.cells a0) 0), (6, .ptr 1 0 0), (8, .ptr 2 1 0)], [some ⟨0, eL a2⟩, some ⟨0, Enc.cells ((T_impl_made.mk [] 0))⟩, some ⟨1, Enc.cells v11⟩, some ⟨1, Enc.cells v13⟩]⟩) τ_ok [6, 8, 9, 10, 13, 14, 16] [2] 3 (by exact (And.intro (.inl (Enc.frz _)) trivial)) (by kernel_rfl) ?_
              refine qA_ev (st' := ⟨201, [(80, A a0.fE), (79, .fptr (Enc.cells a0) 4), (78, A v11.fColumns), (77, .ptr 2 1 0), (76, E v11), (3, .fptr (Enc.cells a0) 0), (6, .ptr 1 0 0), (8, .ptr 2 1 0)], [some ⟨0, eL a2⟩, some ⟨0, Enc.cells ((T_impl_made.mk [] 0))⟩, some ⟨1, Enc.cells v11⟩, some ⟨1, Enc.cells v13⟩]⟩) τ_ok [6, 8, 9, 10, 13, 14, 16] [] 2 (by exact trivial) (by kernel_rfl) ?_
              obtain ⟨v16, hv17, h⟩ := bindS h
              refine qA_E (dd := some 81) (x := I v16) ([none, none, none, none]) (⟨201, [(81, I v16), (80, A a0.fE), (79, .fptr (Enc.cells a0) 4), (78, A v11.fColumns), (77, .ptr 2 1 0), (76, E v11), (3, .fptr (Enc.cells a0) 0), (6, .ptr 1 0 0), (8, .ptr 2 1 0)], [some ⟨0, eL a2⟩, some ⟨0, Enc.cells ((T_impl_made.mk [] 0))⟩, some ⟨1, Enc.cells v11⟩, some ⟨1, Enc.cells v13⟩]⟩) (fun Γ' hΓ => CoreE.of_g (callV_sound (τ := τ) (by kernel_rfl) rfl (ok_impl_ExprKind hv17) (FzTo.frz rfl))) (by kernel_rfl) (by kernel_rfl) (by exact trivial) (.inr (.inr rfl)) (by kernel_rfl) ?_
              refine qA_ev (st' := ⟨201, [(82, B ((v16 == 3))), (81, I v16), (80, A a0.fE), (79, .fptr (Enc.cells a0) 4), (78, A v11.fColumns), (77, .ptr 2 1 0), (76, E v11), (3, .fptr (Enc.cells a0) 0), (6, .ptr 1 0 0), (8, .ptr 2 1 0)], [some ⟨0, eL a2⟩, some ⟨0, Enc.cells ((T_impl_made.mk [] 0))⟩, some ⟨1, Enc.cells v11⟩, some ⟨1, Enc.cells v13⟩]⟩) τ_ok [6, 8, 9, 10, 13, 14, 16] [] 1 (by exact trivial) (by kernel_rfl) ?_
              refine qA_E (dd := none) (x := .any) ([none, some ⟨0, Enc.cells v11⟩, none, none]) (⟨201, [(82, B ((v16 == 3))), (81, I v16), (80, A a0.fE), (79, .fptr (Enc.cells a0) 4), (78, A v11.fColumns), (77, .ptr 2 1 0), (76, E v11), (3, .fptr (Enc.cells a0) 0), (6, .ptr 1 0 0), (8, .ptr 2 1 0)], [some ⟨0, eL a2⟩, some ⟨0, Enc.cells v11⟩, some ⟨1, Enc.cells v11⟩, some ⟨1, Enc.cells v13⟩]⟩) (fun Γ' hΓ => sto_E τ_ok 1 0 (by kernel_rfl)) (by kernel_rfl) (by kernel_rfl) (by exact (And.intro (.inl (Enc.frz _)) trivial)) (.inl rfl) (by kernel_rfl) ?_
              refine qA_ev (st' := ⟨201, [(7, B ((v16 == 3))), (82, B ((v16 == 3))), (81, I v16), (80, A a0.fE), (79, .fptr (Enc.cells a0) 4), (78, A v11.fColumns), (77, .ptr 2 1 0), (76, E v11), (3, .fptr (Enc.cells a0) 0), (6, .ptr 1 0 0), (8, .ptr 2 1 0)], [some ⟨0, eL a2⟩, some ⟨0, Enc.cells v11⟩, some ⟨1, Enc.cells v11⟩, some ⟨1, Enc.cells v13⟩]⟩) τ_ok [6, 8, 9, 10, 13, 14, 16] [] 1 (by exact trivial) (by kernel_rfl) ?_
              refine qA_end ?_
              refine opsP_imp (Imp.to (st' := ⟨201, [(6, .ptr 1 0 0), (7, B ((v16 == 3)))], [some ⟨0, eL a2⟩, some ⟨0, Enc.cells v11⟩, some ⟨1, Enc.cells v11⟩, some ⟨1, Enc.cells v13⟩]⟩) [6, 7] (by kernel_rfl)) ?_
              refine opsP_end rfl ?_
              have h := Option.some.inj h
              subst h
              exact pwp_ret ⟨.inr rfl, .tup [E v11, B ((v16 == 3))], _, 0, by kernel_rfl, (OutP.tup (OutL.cons (OutP.frz (by kernel_rfl)) (OutL.cons (OutP.frz (by kernel_rfl)) (OutL.nil _)))), by decide, by decide, by kernel_rfl⟩
            · replace h := bifF hc15 h
              refine pwp_seq ?_
              refine pwp_region ?_
              refine opsP_evk' (st' := ⟨201, [(3, .fptr (Enc.cells a0) 0), (6, .ptr 1 0 0), (8, .ptr 2 1 0), (9, .ptr 3 1 0), (73, I a0.fKind), (83, B ((a0.fKind == 3)))], [some ⟨0, eL a2⟩, some ⟨0, Enc.cells ((T_impl_made.mk [] 0))⟩, some ⟨1, Enc.cells v11⟩, some ⟨1, Enc.cells v13⟩]⟩) τ_ok [6, 8, 9, 10, 13, 14, 16] 2 [3, 6, 8, 9, 73, 83] (by kernel_rfl) ?_
              refine opsP_end rfl ?_
              refine pwp_cond ((a0.fKind == 3)) (by kernel_rfl) (fun hc18 => ?_) (fun hc18 => ?_)
              · replace h := bifT hc18 h
                refine pwp_seq ?_
                refine pwp_region ?_
                refine opsP_evk' (st' := ⟨201, [(3, .fptr (Enc.cells a0) 0), (6, .ptr 1 0 0), (8, .ptr 2 1 0), (86, I v11.fMost)], [some ⟨0, eL a2⟩, some ⟨0, Enc.cells ((T_impl_made.mk [] 0))⟩, some ⟨1, Enc.cells v11⟩, some ⟨1, Enc.cells v13⟩]⟩) τ_ok [6, 8, 9, 10, 13, 14, 16] 2 [3, 6, 8, 86] (by kernel_rfl) ?_
                refine opsP_E (dd := some 87) (x := .agg [.arr 2 0 (eL ([] : List T_impl_Column)) true, I ({ ((T_impl_made.mk [] 0)) with fMost := v11.fMost }.fMost)]) (CoreE.of_y (bldV_sound (zs := [.arr 2 0 [] true, .lit (.int .i64 0)]) (cells := [.arr 2 0 (eL ([] : List T_impl_Column)) true, I ({ ((T_impl_made.mk [] 0)) with fMost := v11.fMost }.fMost)]) τ_ok zi_ok79 (by kernel_rfl))) ?_
                refine opsP_evk' (st' := ⟨201, [(3, .fptr (Enc.cells a0) 0), (6, .ptr 1 0 0), (8, .ptr 2 1 0), (87, .agg [.arr 2 0 (eL ([] : List T_impl_Column)) true, I ({ ((T_impl_made.mk [] 0)) with fMost := v11.fMost }.fMost)])], [some ⟨0, eL a2⟩, some ⟨0, Enc.cells ((T_impl_made.mk [] 0))⟩, some ⟨1, Enc.cells v11⟩, some ⟨1, Enc.cells v13⟩]⟩) τ_ok [6, 8, 9, 10, 13, 14, 16] 0 [3, 6, 8, 87] (by kernel_rfl) ?_
                refine opsP_imp (Imp.ghosts 1 (st' := ⟨201, [(3, .fptr (Enc.cells a0) 0), (6, .ptr 1 0 0), (8, .ptr 2 1 0), (87, .agg [.arr 2 0 (eL ([] : List T_impl_Column)) true, I ({ ((T_impl_made.mk [] 0)) with fMost := v11.fMost }.fMost)])], [some ⟨0, eL a2⟩, some ⟨0, Enc.cells ((T_impl_made.mk [] 0))⟩, some ⟨1, Enc.cells v11⟩, some ⟨1, Enc.cells v13⟩, some ⟨0, []⟩]⟩) (by kernel_rfl)) ?_
                refine opsP_E (dd := some 10) (x := .ptr 4 1 0) (alz_E (blk := ⟨0, []⟩) (zs := [.arr 2 0 [] true, .lit (.int .i64 0)]) 10 79 4 0 (fun _ _ => by decide) zi_ok79 (by kernel_rfl) (by kernel_rfl)) ?_
                refine opsP_evk' (st' := ⟨201, [(3, .fptr (Enc.cells a0) 0), (6, .ptr 1 0 0), (8, .ptr 2 1 0), (10, .ptr 4 1 0)], [some ⟨0, eL a2⟩, some ⟨0, Enc.cells ((T_impl_made.mk [] 0))⟩, some ⟨1, Enc.cells v11⟩, some ⟨1, Enc.cells v13⟩, some ⟨1, [.arr 2 0 (eL ([] : List T_impl_Column)) true, I ({ ((T_impl_made.mk [] 0)) with fMost := v11.fMost }.fMost)]⟩]⟩) τ_ok [6, 8, 9, 10, 13, 14, 16] 1 [3, 6, 8, 10] (by kernel_rfl) ?_
                refine opsP_end rfl ?_
                refine pwp_seq ?_
                refine pwp_seq ?_
                refine pwp_region ?_
                refine opsP_evk' (st' := ⟨201, [(3, .fptr (Enc.cells a0) 0), (6, .ptr 1 0 0), (8, .ptr 2 1 0), (10, .ptr 4 1 0), (89, A a0.fList), (90, I ((a0.fList.length : Int))), (91, I 0)], [some ⟨0, eL a2⟩, some ⟨0, Enc.cells ((T_impl_made.mk [] 0))⟩, some ⟨1, Enc.cells v11⟩, some ⟨1, Enc.cells v13⟩, some ⟨1, [.arr 2 0 (eL ([] : List T_impl_Column)) true, I ({ ((T_impl_made.mk [] 0)) with fMost := v11.fMost }.fMost)]⟩]⟩) τ_ok [6, 8, 9, 10, 13, 14, 16] 4 [3, 6, 8, 10, 89, 90, 91] (by kernel_rfl) ?_
                refine opsP_end rfl ?_
                refine pwp_block ?_
                refine pwp_imp (Imp.to (st' := ⟨201, [(3, .fptr (Enc.cells a0) 0), (6, .ptr 1 0 0), (8, .ptr 2 1 0), (10, .ptr 4 1 0), (89, A a0.fList), (90, I ((a0.fList.length : Int))), (91, I 0)], [some ⟨0, eL a2⟩, some ⟨0, Enc.cells ((T_impl_made.mk [] 0))⟩, some ⟨1, Enc.cells v11⟩, some ⟨1, Enc.cells v13⟩, some ⟨1, [.arr 2 0 (eL ([] : List T_impl_Column)) true, I ({ ((T_impl_made.mk [] 0)) with fMost := v11.fMost }.fMost)]⟩]⟩) [3, 6, 8, 10, 89, 90, 91] (by kernel_rfl)) ?_
                refine pwp_imp (Imp.thawB (st' := ⟨201, [(3, .fptr (Enc.cells a0) 0), (6, .ptr 1 0 0), (8, .ptr 2 1 0), (10, .ptr 4 1 0), (89, A a0.fList), (90, I ((a0.fList.length : Int))), (91, I 0)], [some ⟨0, eL a2⟩, some ⟨0, Enc.cells ((T_impl_made.mk [] 0))⟩, some ⟨1, Enc.cells v11⟩, some ⟨1, Enc.cells v13⟩, some ⟨1, [.ref 5 0 0 2 (([] : List T_impl_Column)).length false, I ({ ((T_impl_made.mk [] 0)) with fMost := v11.fMost }.fMost)]⟩, some ⟨0, eL (([] : List T_impl_Column))⟩]⟩) 5 (by kernel_rfl) (HpRel.frz rfl (eL_frz _) (HpRel.frz rfl (Enc.frz _) (HpRel.frz rfl (Enc.frz _) (HpRel.frz rfl (Enc.frz _) (HpRel.box rfl (CellRel.cons (.inr ⟨_, rfl, rfl⟩) (CellRel.cons (.inl ⟨rfl, rfl⟩) CellRel.nil)) (HpRel.key HpRel.nil)))))) (by rfl) (by rfl) (fun _ _ => ⟨_, rfl⟩)) ?_
                refine pwp_loop (ι := Nat × Int × (List T_impl_Column)) (fun (f27, x25, x26) => (⟨201, [(3, .fptr (Enc.cells a0) 0), (6, .ptr 1 0 0), (8, .ptr 2 1 0), (10, .ptr 4 1 0), (89, A a0.fList), (90, I ((a0.fList.length : Int))), (91, I x25)], [some ⟨0, eL a2⟩, some ⟨0, Enc.cells ((T_impl_made.mk [] 0))⟩, some ⟨1, Enc.cells v11⟩, some ⟨1, Enc.cells v13⟩, some ⟨1, [.ref 5 0 0 2 x26.length false, I ({ ((T_impl_made.mk [] 0)) with fMost := v11.fMost }.fMost)]⟩, some ⟨0, eL x26⟩]⟩ : St)) (fun (f27, x25, x26) => impl_Step_make_L2_l2 a0 v11 f27 x25 x26 = some y) (fun (f27, x25, x26) => f27) (FUEL, 0, ([] : List T_impl_Column)) h ((Imp.to (st' := ⟨201, [(3, .fptr (Enc.cells a0) 0), (6, .ptr 1 0 0), (8, .ptr 2 1 0), (10, .ptr 4 1 0), (89, A a0.fList), (90, I ((a0.fList.length : Int))), (91, I 0)], [some ⟨0, eL a2⟩, some ⟨0, Enc.cells ((T_impl_made.mk [] 0))⟩, some ⟨1, Enc.cells v11⟩, some ⟨1, Enc.cells v13⟩, some ⟨1, [.ref 5 0 0 2 (([] : List T_impl_Column)).length false, I ({ ((T_impl_made.mk [] 0)) with fMost := v11.fMost }.fMost)]⟩, some ⟨0, eL (([] : List T_impl_Column))⟩]⟩) [3, 6, 8, 10, 89, 90, 91] (by kernel_rfl)).trans (Imp.to [3, 6, 8, 10, 89, 90, 91] (by kernel_rfl))) ?_
                rintro ⟨f27, x25, x26⟩ h
                dsimp only at h ⊢
                cases f27 with
                | zero => cases h
                | succ f27 =>
                rw [impl_Step_make_L2_l2] at h
                refine pwp_seq ?_
                refine pwp_region ?_
                refine opsP_evk' (st' := ⟨201, [(3, .fptr (Enc.cells a0) 0), (6, .ptr 1 0 0), (8, .ptr 2 1 0), (10, .ptr 4 1 0), (89, A a0.fList), (90, I ((a0.fList.length : Int))), (91, I x25), (92, B ((decide (x25 < ((a0.fList.length : Int))))))], [some ⟨0, eL a2⟩, some ⟨0, Enc.cells ((T_impl_made.mk [] 0))⟩, some ⟨1, Enc.cells v11⟩, some ⟨1, Enc.cells v13⟩, some ⟨1, [.ref 5 0 0 2 x26.length false, I ({ ((T_impl_made.mk [] 0)) with fMost := v11.fMost }.fMost)]⟩, some ⟨0, eL x26⟩]⟩) τ_ok [6, 8, 9, 10, 13, 14, 16] 1 [3, 6, 8, 10, 89, 90, 91, 92] (by kernel_rfl) ?_
                refine opsP_end rfl ?_
                refine pwp_seq ?_
                refine pwp_cond ((decide (x25 < ((a0.fList.length : Int))))) (by kernel_rfl) (fun hc29 => ?_) (fun hc29 => ?_)
                · replace h := bifT hc29 h
                  refine pwp_skip ?_
                  refine pwp_seq ?_
                  refine pwp_block ?_
                  refine pwp_seq ?_
                  refine pwp_region ?_
                  obtain ⟨v30, hv31, h⟩ := bindS h
                  refine opsP_idx τ_ok 93 hv31 (by kernel_rfl) ?_
                  refine opsP_evk' (st' := ⟨201, [(3, .fptr (Enc.cells a0) 0), (6, .ptr 1 0 0), (8, .ptr 2 1 0), (10, .ptr 4 1 0), (12, I v30), (89, A a0.fList), (90, I ((a0.fList.length : Int))), (91, I x25)], [some ⟨0, eL a2⟩, some ⟨0, Enc.cells ((T_impl_made.mk [] 0))⟩, some ⟨1, Enc.cells v11⟩, some ⟨1, Enc.cells v13⟩, some ⟨1, [.ref 5 0 0 2 x26.length false, I ({ ((T_impl_made.mk [] 0)) with fMost := v11.fMost }.fMost)]⟩, some ⟨0, eL x26⟩]⟩) τ_ok [6, 8, 9, 10, 13, 14, 16] 2 [3, 6, 8, 10, 12, 89, 90, 91] (by kernel_rfl) ?_
                  refine opsP_end rfl ?_
                  refine pwp_seq ?_
                  refine pwp_seq ?_
                  refine pwp_region ?_
                  refine opsP_evk' (st' := ⟨201, [(3, .fptr (Enc.cells a0) 0), (6, .ptr 1 0 0), (8, .ptr 2 1 0), (10, .ptr 4 1 0), (12, I v30), (89, A a0.fList), (90, I ((a0.fList.length : Int))), (91, I x25), (95, I v30), (99, I ((w64 (((v11.fColumns.length : Int)) - 1))))], [some ⟨0, eL a2⟩, some ⟨0, Enc.cells ((T_impl_made.mk [] 0))⟩, some ⟨1, Enc.cells v11⟩, some ⟨1, Enc.cells v13⟩, some ⟨1, [.ref 5 0 0 2 x26.length false, I ({ ((T_impl_made.mk [] 0)) with fMost := v11.fMost }.fMost)]⟩, some ⟨0, eL x26⟩]⟩) τ_ok [6, 8, 9, 10, 13, 14, 16] 5 [3, 6, 8, 10, 12, 89, 90, 91, 95, 99] (by kernel_rfl) ?_
                  obtain ⟨v32, hv33, h⟩ := bindS h
                  refine opsP_callF τ 100 (ok_impl_between hv33) (FzTo.frz rfl) rfl (by kernel_rfl) ?_
                  refine opsP_evk' (st' := ⟨201, [(3, .fptr (Enc.cells a0) 0), (6, .ptr 1 0 0), (8, .ptr 2 1 0), (10, .ptr 4 1 0), (12, I v30), (89, A a0.fList), (90, I ((a0.fList.length : Int))), (91, I x25), (101, B ((!v32)))], [some ⟨0, eL a2⟩, some ⟨0, Enc.cells ((T_impl_made.mk [] 0))⟩, some ⟨1, Enc.cells v11⟩, some ⟨1, Enc.cells v13⟩, some ⟨1, [.ref 5 0 0 2 x26.length false, I ({ ((T_impl_made.mk [] 0)) with fMost := v11.fMost }.fMost)]⟩, some ⟨0, eL x26⟩]⟩) τ_ok [6, 8, 9, 10, 13, 14, 16] 1 [3, 6, 8, 10, 12, 89, 90, 91, 101] (by kernel_rfl) ?_
                  refine opsP_end rfl ?_
                  refine pwp_cond ((!v32)) (by kernel_rfl) (fun hc34 => ?_) (fun hc34 => ?_)
                  · replace h := bifT hc34 h
                    refine pwp_seq ?_
                    refine pwp_region ?_
                    refine opsP_evk' (st' := ⟨201, [(6, .ptr 1 0 0), (7, B false)], [some ⟨0, eL a2⟩, some ⟨0, Enc.cells ((T_impl_made.mk [] 0))⟩, some ⟨1, Enc.cells v11⟩, some ⟨1, Enc.cells v13⟩, some ⟨1, [.ref 5 0 0 2 x26.length false, I ({ ((T_impl_made.mk [] 0)) with fMost := v11.fMost }.fMost)]⟩, some ⟨0, eL x26⟩]⟩) τ_ok [6, 8, 9, 10, 13, 14, 16] 3 [6, 7] (by kernel_rfl) ?_
                    refine opsP_end rfl ?_
                    have h := Option.some.inj h
                    subst h
                    exact pwp_ret ⟨.inr rfl, .tup [E ((T_impl_made.mk [] 0)), B false], _, 0, by kernel_rfl, (OutP.tup (OutL.cons (OutP.frz (by kernel_rfl)) (OutL.cons (OutP.frz (by kernel_rfl)) (OutL.nil _)))), by decide, by decide, by kernel_rfl⟩
                  · replace h := bifF hc34 h
                    refine pwp_skip ?_
                    refine pwp_imp (Imp.to (st' := ⟨201, [(3, .fptr (Enc.cells a0) 0), (6, .ptr 1 0 0), (8, .ptr 2 1 0), (10, .ptr 4 1 0), (12, I v30), (89, A a0.fList), (90, I ((a0.fList.length : Int))), (91, I x25)], [some ⟨0, eL a2⟩, some ⟨0, Enc.cells ((T_impl_made.mk [] 0))⟩, some ⟨1, Enc.cells v11⟩, some ⟨1, Enc.cells v13⟩, some ⟨1, [.ref 5 0 0 2 x26.length false, I ({ ((T_impl_made.mk [] 0)) with fMost := v11.fMost }.fMost)]⟩, some ⟨0, eL x26⟩]⟩) [3, 6, 8, 10, 12, 89, 90, 91] (by kernel_rfl)) ?_
                    refine pwp_any ([[4, 5], [4, 5], [2], [2], [], [], [], [], [5], [4, 5], [4, 5]]) ([[], [], [], [], [], [], [], [], [5], [], [4]]) rfl (by kernel_rfl) ?_
                    refine qA_ev (st' := ⟨201, [(104, .ref 5 0 0 2 x26.length false), (103, .ptr 4 1 0), (3, .fptr (Enc.cells a0) 0), (6, .ptr 1 0 0), (8, .ptr 2 1 0), (10, .ptr 4 1 0), (12, I v30), (89, A a0.fList), (90, I ((a0.fList.length : Int))), (91, I x25)], [some ⟨0, eL a2⟩, some ⟨0, Enc.cells ((T_impl_made.mk [] 0))⟩, some ⟨1, Enc.cells v11⟩, some ⟨1, Enc.cells v13⟩, some ⟨1, [.ref 5 0 0 2 x26.length false, I ({ ((T_impl_made.mk [] 0)) with fMost := v11.fMost }.fMost)]⟩, some ⟨0, eL x26⟩]⟩) τ_ok [6, 8, 9, 10, 13, 14, 16] [4, 5] 2 (by exact (And.intro (.inr rfl) (And.intro (.inl (eL_frz _)) trivial))) (by kernel_rfl) ?_
                    refine qA_ev (st' := ⟨201, [(106, A v11.fColumns), (105, .ptr 2 1 0), (104, .ref 5 0 0 2 x26.length false), (103, .ptr 4 1 0), (3, .fptr (Enc.cells a0) 0), (6, .ptr 1 0 0), (8, .ptr 2 1 0), (10, .ptr 4 1 0), (12, I v30), (89, A a0.fList), (90, I ((a0.fList.length : Int))), (91, I x25)], [some ⟨0, eL a2⟩, some ⟨0, Enc.cells ((T_impl_made.mk [] 0))⟩, some ⟨1, Enc.cells v11⟩, some ⟨1, Enc.cells v13⟩, some ⟨1, [.ref 5 0 0 2 x26.length false, I ({ ((T_impl_made.mk [] 0)) with fMost := v11.fMost }.fMost)]⟩, some ⟨0, eL x26⟩]⟩) τ_ok [6, 8, 9, 10, 13, 14, 16] [2] 2 (by exact (And.intro (.inl (Enc.frz _)) trivial)) (by kernel_rfl) ?_
                    refine qA_ev (st' := ⟨201, [(107, I v30), (106, A v11.fColumns), (105, .ptr 2 1 0), (104, .ref 5 0 0 2 x26.length false), (103, .ptr 4 1 0), (3, .fptr (Enc.cells a0) 0), (6, .ptr 1 0 0), (8, .ptr 2 1 0), (10, .ptr 4 1 0), (12, I v30), (89, A a0.fList), (90, I ((a0.fList.length : Int))), (91, I x25)], [some ⟨0, eL a2⟩, some ⟨0, Enc.cells ((T_impl_made.mk [] 0))⟩, some ⟨1, Enc.cells v11⟩, some ⟨1, Enc.cells v13⟩, some ⟨1, [.ref 5 0 0 2 x26.length false, I ({ ((T_impl_made.mk [] 0)) with fMost := v11.fMost }.fMost)]⟩, some ⟨0, eL x26⟩]⟩) τ_ok [6, 8, 9, 10, 13, 14, 16] [] 1 (by exact trivial) (by kernel_rfl) ?_
                    obtain ⟨v35, hv36, h⟩ := bindS h
                    refine qA_E (dd := some 108) (x := .fptr (Enc.cells v35) 0) ([none, none, none, none, none, none]) (⟨201, [(108, .fptr (Enc.cells v35) 0), (107, I v30), (106, A v11.fColumns), (105, .ptr 2 1 0), (104, .ref 5 0 0 2 x26.length false), (103, .ptr 4 1 0), (3, .fptr (Enc.cells a0) 0), (6, .ptr 1 0 0), (8, .ptr 2 1 0), (10, .ptr 4 1 0), (12, I v30), (89, A a0.fList), (90, I ((a0.fList.length : Int))), (91, I x25)], [some ⟨0, eL a2⟩, some ⟨0, Enc.cells ((T_impl_made.mk [] 0))⟩, some ⟨1, Enc.cells v11⟩, some ⟨1, Enc.cells v13⟩, some ⟨1, [.ref 5 0 0 2 x26.length false, I ({ ((T_impl_made.mk [] 0)) with fMost := v11.fMost }.fMost)]⟩, some ⟨0, eL x26⟩]⟩) (fun Γ' hΓ => CoreE.of_y (idxV_sound τ_ok (by kernel_rfl) hv36)) (by kernel_rfl) (by kernel_rfl) (by exact trivial) (.inr (.inr rfl)) (by kernel_rfl) ?_
                    refine qA_ev (st' := ⟨201, [(110, .arr 2 (([v35] : List T_impl_Column)).length (eL ([v35] : List T_impl_Column)) true), (109, E v35), (108, .fptr (Enc.cells v35) 0), (107, I v30), (106, A v11.fColumns), (105, .ptr 2 1 0), (104, .ref 5 0 0 2 x26.length false), (103, .ptr 4 1 0), (3, .fptr (Enc.cells a0) 0), (6, .ptr 1 0 0), (8, .ptr 2 1 0), (10, .ptr 4 1 0), (12, I v30), (89, A a0.fList), (90, I ((a0.fList.length : Int))), (91, I x25)], [some ⟨0, eL a2⟩, some ⟨0, Enc.cells ((T_impl_made.mk [] 0))⟩, some ⟨1, Enc.cells v11⟩, some ⟨1, Enc.cells v13⟩, some ⟨1, [.ref 5 0 0 2 x26.length false, I ({ ((T_impl_made.mk [] 0)) with fMost := v11.fMost }.fMost)]⟩, some ⟨0, eL x26⟩]⟩) τ_ok [6, 8, 9, 10, 13, 14, 16] [] 2 (by exact trivial) (by kernel_rfl) ?_
                    obtain ⟨v37, hv38, h⟩ := bindS h
                    refine qA_E (dd := some 111) (x := .ref 5 1 0 2 v37.length false) ([none, none, none, none, none, some ⟨1, eL v37⟩]) (⟨201, [(111, .ref 5 1 0 2 v37.length false), (110, .arr 2 (([v35] : List T_impl_Column)).length (eL ([v35] : List T_impl_Column)) true), (109, E v35), (108, .fptr (Enc.cells v35) 0), (107, I v30), (106, A v11.fColumns), (105, .ptr 2 1 0), (104, .ref 5 0 0 2 x26.length false), (103, .ptr 4 1 0), (3, .fptr (Enc.cells a0) 0), (6, .ptr 1 0 0), (8, .ptr 2 1 0), (10, .ptr 4 1 0), (12, I v30), (89, A a0.fList), (90, I ((a0.fList.length : Int))), (91, I x25)], [some ⟨0, eL a2⟩, some ⟨0, Enc.cells ((T_impl_made.mk [] 0))⟩, some ⟨1, Enc.cells v11⟩, some ⟨1, Enc.cells v13⟩, some ⟨1, [.ref 5 0 0 2 x26.length false, I ({ ((T_impl_made.mk [] 0)) with fMost := v11.fMost }.fMost)]⟩, some ⟨1, eL v37⟩]⟩) (fun Γ' hΓ => app_Ew τ_ok 111 5 0 (fun _ _ => by decide) hv38 (by kernel_rfl)) (by kernel_rfl) (by kernel_rfl) (by exact (And.intro (.inl (eL_frz _)) trivial)) (.inr (.inl rfl)) (by kernel_rfl) ?_
                    refine qA_ev (st' := ⟨201, [(112, .ptr 4 1 0), (111, .ref 5 1 0 2 v37.length false), (110, .arr 2 (([v35] : List T_impl_Column)).length (eL ([v35] : List T_impl_Column)) true), (109, E v35), (108, .fptr (Enc.cells v35) 0), (107, I v30), (106, A v11.fColumns), (105, .ptr 2 1 0), (104, .ref 5 0 0 2 x26.length false), (103, .ptr 4 1 0), (3, .fptr (Enc.cells a0) 0), (6, .ptr 1 0 0), (8, .ptr 2 1 0), (10, .ptr 4 1 0), (12, I v30), (89, A a0.fList), (90, I ((a0.fList.length : Int))), (91, I x25)], [some ⟨0, eL a2⟩, some ⟨0, Enc.cells ((T_impl_made.mk [] 0))⟩, some ⟨1, Enc.cells v11⟩, some ⟨1, Enc.cells v13⟩, some ⟨1, [.ref 5 0 0 2 x26.length false, I ({ ((T_impl_made.mk [] 0)) with fMost := v11.fMost }.fMost)]⟩, some ⟨1, eL v37⟩]⟩) τ_ok [6, 8, 9, 10, 13, 14, 16] [4, 5] 1 (by exact (And.intro (.inr rfl) (And.intro (.inl (eL_frz _)) trivial))) (by kernel_rfl) ?_
                    refine qA_E (dd := none) (x := .any) ([none, none, none, none, some ⟨1, [.ref 5 1 0 2 v37.length false, I ({ ((T_impl_made.mk [] 0)) with fMost := v11.fMost }.fMost)]⟩, some ⟨1, eL v37⟩]) (⟨201, [(112, .ptr 4 1 0), (111, .ref 5 1 0 2 v37.length false), (110, .arr 2 (([v35] : List T_impl_Column)).length (eL ([v35] : List T_impl_Column)) true), (109, E v35), (108, .fptr (Enc.cells v35) 0), (107, I v30), (106, A v11.fColumns), (105, .ptr 2 1 0), (104, .ref 5 0 0 2 x26.length false), (103, .ptr 4 1 0), (3, .fptr (Enc.cells a0) 0), (6, .ptr 1 0 0), (8, .ptr 2 1 0), (10, .ptr 4 1 0), (12, I v30), (89, A a0.fList), (90, I ((a0.fList.length : Int))), (91, I x25)], [some ⟨0, eL a2⟩, some ⟨0, Enc.cells ((T_impl_made.mk [] 0))⟩, some ⟨1, Enc.cells v11⟩, some ⟨1, Enc.cells v13⟩, some ⟨1, [.ref 5 1 0 2 v37.length false, I ({ ((T_impl_made.mk [] 0)) with fMost := v11.fMost }.fMost)]⟩, some ⟨1, eL v37⟩]⟩) (fun Γ' hΓ => sto_E τ_ok 4 1 (by kernel_rfl)) (by kernel_rfl) (by kernel_rfl) (by exact (And.intro (.inr rfl) (And.intro (.inl (eL_frz _)) trivial))) (.inl rfl) (by kernel_rfl) ?_
                    refine qA_end ?_
                    refine opsP_imp (Imp.to (st' := ⟨201, [(3, .fptr (Enc.cells a0) 0), (6, .ptr 1 0 0), (8, .ptr 2 1 0), (10, .ptr 4 1 0), (89, A a0.fList), (90, I ((a0.fList.length : Int))), (91, I x25)], [some ⟨0, eL a2⟩, some ⟨0, Enc.cells ((T_impl_made.mk [] 0))⟩, some ⟨1, Enc.cells v11⟩, some ⟨1, Enc.cells v13⟩, some ⟨1, [.ref 5 1 0 2 v37.length false, I ({ ((T_impl_made.mk [] 0)) with fMost := v11.fMost }.fMost)]⟩, some ⟨1, eL v37⟩]⟩) [3, 6, 8, 10, 89, 90, 91] (by kernel_rfl)) ?_
                    refine opsP_end rfl ?_
                    refine pwp_region ?_
                    refine opsP_evk' (st' := ⟨201, [(3, .fptr (Enc.cells a0) 0), (6, .ptr 1 0 0), (8, .ptr 2 1 0), (10, .ptr 4 1 0), (89, A a0.fList), (90, I ((a0.fList.length : Int))), (91, I ((w64 (x25 + 1))))], [some ⟨0, eL a2⟩, some ⟨0, Enc.cells ((T_impl_made.mk [] 0))⟩, some ⟨1, Enc.cells v11⟩, some ⟨1, Enc.cells v13⟩, some ⟨1, [.ref 5 1 0 2 v37.length false, I ({ ((T_impl_made.mk [] 0)) with fMost := v11.fMost }.fMost)]⟩, some ⟨1, eL v37⟩]⟩) τ_ok [6, 8, 9, 10, 13, 14, 16] 2 [3, 6, 8, 10, 89, 90, 91] (by kernel_rfl) ?_
                    refine opsP_end rfl ?_
                    exact ⟨(f27, (w64 (x25 + 1)), v37), h, Nat.lt_succ_self _, (Imp.to (st' := ⟨201, [(3, .fptr (Enc.cells a0) 0), (6, .ptr 1 0 0), (8, .ptr 2 1 0), (10, .ptr 4 1 0), (89, A a0.fList), (90, I ((a0.fList.length : Int))), (91, I ((w64 (x25 + 1))))], [some ⟨0, eL a2⟩, some ⟨0, Enc.cells ((T_impl_made.mk [] 0))⟩, some ⟨1, Enc.cells v11⟩, some ⟨1, Enc.cells v13⟩, some ⟨1, [.ref 5 1 0 2 v37.length false, I ({ ((T_impl_made.mk [] 0)) with fMost := v11.fMost }.fMost)]⟩, some ⟨1, eL v37⟩]⟩) [3, 6, 8, 10, 89, 90, 91] (by kernel_rfl)).trans ((Imp.reverB (cs := eL v37) (st' := ⟨201, [(3, .fptr (Enc.cells a0) 0), (6, .ptr 1 0 0), (8, .ptr 2 1 0), (10, .ptr 4 1 0), (89, A a0.fList), (90, I ((a0.fList.length : Int))), (91, I ((w64 (x25 + 1))))], [some ⟨0, eL a2⟩, some ⟨0, Enc.cells ((T_impl_made.mk [] 0))⟩, some ⟨1, Enc.cells v11⟩, some ⟨1, Enc.cells v13⟩, some ⟨1, [.ref 5 0 0 2 v37.length false, I ({ ((T_impl_made.mk [] 0)) with fMost := v11.fMost }.fMost)]⟩, some ⟨0, eL v37⟩]⟩) 5 1 (by kernel_rfl) (eL_frz _) (HpRel.frz rfl (eL_frz _) (HpRel.frz rfl (Enc.frz _) (HpRel.frz rfl (Enc.frz _) (HpRel.frz rfl (Enc.frz _) (HpRel.box rfl (CellRel.cons ⟨rfl, rfl⟩ (CellRel.cons ⟨rfl, rfl⟩ CellRel.nil)) (HpRel.key HpRel.nil)))))) (by kernel_rfl) (by rfl) (fun _ _ => ⟨_, rfl⟩)).trans (Imp.to [3, 6, 8, 10, 89, 90, 91] (by kernel_rfl)))⟩
                · replace h := bifF hc29 h
                  refine pwp_exit ?_
                  refine pwp_seq ?_
                  refine pwp_imp (Imp.to (st' := ⟨201, [(3, .fptr (Enc.cells a0) 0), (6, .ptr 1 0 0), (10, .ptr 4 1 0)], [some ⟨0, eL a2⟩, some ⟨0, Enc.cells ((T_impl_made.mk [] 0))⟩, some ⟨1, Enc.cells v11⟩, some ⟨1, Enc.cells v13⟩, some ⟨1, [.ref 5 0 0 2 x26.length false, I ({ ((T_impl_made.mk [] 0)) with fMost := v11.fMost }.fMost)]⟩, some ⟨0, eL x26⟩]⟩) [3, 6, 10] (by kernel_rfl)) ?_
                  refine pwp_imp ((Imp.freezeB (v := 0) (cs := eL x26) (st' := ⟨201, [(3, .fptr (Enc.cells a0) 0), (6, .ptr 1 0 0), (10, .ptr 4 1 0)], [some ⟨0, eL a2⟩, some ⟨0, Enc.cells ((T_impl_made.mk [] 0))⟩, some ⟨1, Enc.cells v11⟩, some ⟨1, Enc.cells v13⟩, some ⟨1, Enc.cells ({ ({ ((T_impl_made.mk [] 0)) with fMost := v11.fMost }) with fColumns := x26 })⟩, none]⟩) 5 0 (fun _ _ => by decide) (by kernel_rfl) (eL_frz _) (wholeC (whole_noRef (by kernel_rfl)) (wholeC (whole_noRef (by kernel_rfl)) (wholeC (whole_noRef (by kernel_rfl)) wholeC0))) (HpRel.frz rfl (eL_frz _) (HpRel.frz rfl (Enc.frz _) (HpRel.frz rfl (Enc.frz _) (HpRel.frz rfl (Enc.frz _) (HpRel.box rfl (CellRel.cons ⟨rfl, (whole_is (eL_len x26).symm), rfl⟩ (CellRel.cons ⟨rfl, trivial, rfl⟩ CellRel.nil)) (HpRel.key HpRel.nil)))))) (by kernel_rfl) rfl (fun _ _ => ⟨_, rfl⟩))) ?_
                  refine pwp_imp (Imp.to (st' := ⟨201, [(3, .fptr (Enc.cells a0) 0), (6, .ptr 1 0 0), (10, .ptr 4 1 0)], [some ⟨0, eL a2⟩, some ⟨0, Enc.cells ((T_impl_made.mk [] 0))⟩, some ⟨1, Enc.cells v11⟩, some ⟨1, Enc.cells v13⟩, some ⟨1, Enc.cells ({ ({ ((T_impl_made.mk [] 0)) with fMost := v11.fMost }) with fColumns := x26 })⟩, none]⟩) [3, 6, 10] (by kernel_rfl)) ?_
                  refine pwp_any ([[4], [], [], [], [], [1], []]) ([[], [], [], [], [], [1], []]) rfl (by kernel_rfl) ?_
                  refine qA_ev (st' := ⟨201, [(114, E ({ ({ ((T_impl_made.mk [] 0)) with fMost := v11.fMost }) with fColumns := x26 })), (3, .fptr (Enc.cells a0) 0), (6, .ptr 1 0 0), (10, .ptr 4 1 0)], [some ⟨0, eL a2⟩, some ⟨0, Enc.cells ((T_impl_made.mk [] 0))⟩, some ⟨1, Enc.cells v11⟩, some ⟨1, Enc.cells v13⟩, some ⟨1, Enc.cells ({ ({ ((T_impl_made.mk [] 0)) with fMost := v11.fMost }) with fColumns := x26 })⟩, none]⟩) τ_ok [6, 8, 9, 10, 13, 14, 16] [4] 1 (by exact (And.intro (.inl (Enc.frz _)) trivial)) (by kernel_rfl) ?_
                  refine qA_ev (st' := ⟨201, [(118, B ((decide (((a0.fList.length : Int)) ≤ 4)))), (117, I ((a0.fList.length : Int))), (116, A a0.fList), (115, .fptr (Enc.cells a0) 5), (114, E ({ ({ ((T_impl_made.mk [] 0)) with fMost := v11.fMost }) with fColumns := x26 })), (3, .fptr (Enc.cells a0) 0), (6, .ptr 1 0 0), (10, .ptr 4 1 0)], [some ⟨0, eL a2⟩, some ⟨0, Enc.cells ((T_impl_made.mk [] 0))⟩, some ⟨1, Enc.cells v11⟩, some ⟨1, Enc.cells v13⟩, some ⟨1, Enc.cells ({ ({ ((T_impl_made.mk [] 0)) with fMost := v11.fMost }) with fColumns := x26 })⟩, none]⟩) τ_ok [6, 8, 9, 10, 13, 14, 16] [] 4 (by exact trivial) (by kernel_rfl) ?_
                  refine qA_E (dd := none) (x := .any) ([none, some ⟨0, Enc.cells ({ ({ ((T_impl_made.mk [] 0)) with fMost := v11.fMost }) with fColumns := x26 })⟩, none, none, none, none]) (⟨201, [(118, B ((decide (((a0.fList.length : Int)) ≤ 4)))), (117, I ((a0.fList.length : Int))), (116, A a0.fList), (115, .fptr (Enc.cells a0) 5), (114, E ({ ({ ((T_impl_made.mk [] 0)) with fMost := v11.fMost }) with fColumns := x26 })), (3, .fptr (Enc.cells a0) 0), (6, .ptr 1 0 0), (10, .ptr 4 1 0)], [some ⟨0, eL a2⟩, some ⟨0, Enc.cells ({ ({ ((T_impl_made.mk [] 0)) with fMost := v11.fMost }) with fColumns := x26 })⟩, some ⟨1, Enc.cells v11⟩, some ⟨1, Enc.cells v13⟩, some ⟨1, Enc.cells ({ ({ ((T_impl_made.mk [] 0)) with fMost := v11.fMost }) with fColumns := x26 })⟩, none]⟩) (fun Γ' hΓ => sto_E τ_ok 1 0 (by kernel_rfl)) (by kernel_rfl) (by kernel_rfl) (by exact (And.intro (.inl (Enc.frz _)) trivial)) (.inl rfl) (by kernel_rfl) ?_
                  refine qA_ev (st' := ⟨201, [(7, B ((decide (((a0.fList.length : Int)) ≤ 4)))), (118, B ((decide (((a0.fList.length : Int)) ≤ 4)))), (117, I ((a0.fList.length : Int))), (116, A a0.fList), (115, .fptr (Enc.cells a0) 5), (114, E ({ ({ ((T_impl_made.mk [] 0)) with fMost := v11.fMost }) with fColumns := x26 })), (3, .fptr (Enc.cells a0) 0), (6, .ptr 1 0 0), (10, .ptr 4 1 0)], [some ⟨0, eL a2⟩, some ⟨0, Enc.cells ({ ({ ((T_impl_made.mk [] 0)) with fMost := v11.fMost }) with fColumns := x26 })⟩, some ⟨1, Enc.cells v11⟩, some ⟨1, Enc.cells v13⟩, some ⟨1, Enc.cells ({ ({ ((T_impl_made.mk [] 0)) with fMost := v11.fMost }) with fColumns := x26 })⟩, none]⟩) τ_ok [6, 8, 9, 10, 13, 14, 16] [] 1 (by exact trivial) (by kernel_rfl) ?_
                  refine qA_end ?_
                  refine opsP_imp (Imp.to (st' := ⟨201, [(6, .ptr 1 0 0), (7, B ((decide (((a0.fList.length : Int)) ≤ 4))))], [some ⟨0, eL a2⟩, some ⟨0, Enc.cells ({ ({ ((T_impl_made.mk [] 0)) with fMost := v11.fMost }) with fColumns := x26 })⟩, some ⟨1, Enc.cells v11⟩, some ⟨1, Enc.cells v13⟩, some ⟨1, Enc.cells ({ ({ ((T_impl_made.mk [] 0)) with fMost := v11.fMost }) with fColumns := x26 })⟩, none]⟩) [6, 7] (by kernel_rfl)) ?_
                  refine opsP_end rfl ?_
                  have h := Option.some.inj h
                  subst h
                  exact pwp_ret ⟨.inr rfl, .tup [E ({ ({ ((T_impl_made.mk [] 0)) with fMost := v11.fMost }) with fColumns := x26 }), B ((decide (((a0.fList.length : Int)) ≤ 4)))], _, 0, by kernel_rfl, (OutP.tup (OutL.cons (OutP.frz (by kernel_rfl)) (OutL.cons (OutP.frz (by kernel_rfl)) (OutL.nil _)))), by decide, by decide, by kernel_rfl⟩
              · replace h := bifF hc18 h
                refine pwp_seq ?_
                refine pwp_region ?_
                refine opsP_evk' (st' := ⟨201, [(3, .fptr (Enc.cells a0) 0), (6, .ptr 1 0 0), (8, .ptr 2 1 0), (9, .ptr 3 1 0), (73, I a0.fKind), (119, B ((a0.fKind == 4)))], [some ⟨0, eL a2⟩, some ⟨0, Enc.cells ((T_impl_made.mk [] 0))⟩, some ⟨1, Enc.cells v11⟩, some ⟨1, Enc.cells v13⟩]⟩) τ_ok [6, 8, 9, 10, 13, 14, 16] 2 [3, 6, 8, 9, 73, 119] (by kernel_rfl) ?_
                refine opsP_end rfl ?_
                refine pwp_cond ((a0.fKind == 4)) (by kernel_rfl) (fun hc39 => ?_) (fun hc39 => ?_)
                · replace h := bifT hc39 h
                  refine pwp_seq ?_
                  refine pwp_imp (Imp.to (st' := ⟨201, [(3, .fptr (Enc.cells a0) 0), (6, .ptr 1 0 0), (8, .ptr 2 1 0), (9, .ptr 3 1 0)], [some ⟨0, eL a2⟩, some ⟨0, Enc.cells ((T_impl_made.mk [] 0))⟩, some ⟨1, Enc.cells v11⟩, some ⟨1, Enc.cells v13⟩]⟩) [3, 6, 8, 9] (by kernel_rfl)) ?_
                  refine pwp_imp (Imp.ghosts 1 (st' := ⟨201, [(3, .fptr (Enc.cells a0) 0), (6, .ptr 1 0 0), (8, .ptr 2 1 0), (9, .ptr 3 1 0)], [some ⟨0, eL a2⟩, some ⟨0, Enc.cells ((T_impl_made.mk [] 0))⟩, some ⟨1, Enc.cells v11⟩, some ⟨1, Enc.cells v13⟩, some ⟨0, []⟩]⟩) (by kernel_rfl)) ?_
                  refine pwp_any ([[2], [2], [3], [3], [], [], [2], [2], [3], [3], [], [], [4], [4]]) ([[], [], [], [], [], [], [], [], [], [], [], [], [4], [4]]) rfl (by kernel_rfl) ?_
                  refine qA_ev (st' := ⟨201, [(122, A v11.fColumns), (121, .ptr 2 1 0), (3, .fptr (Enc.cells a0) 0), (6, .ptr 1 0 0), (8, .ptr 2 1 0), (9, .ptr 3 1 0)], [some ⟨0, eL a2⟩, some ⟨0, Enc.cells ((T_impl_made.mk [] 0))⟩, some ⟨1, Enc.cells v11⟩, some ⟨1, Enc.cells v13⟩, some ⟨0, []⟩]⟩) τ_ok [6, 8, 9, 10, 13, 14, 16] [2] 2 (by exact (And.intro (.inl (Enc.frz _)) trivial)) (by kernel_rfl) ?_
                  refine qA_ev (st' := ⟨201, [(124, A v13.fColumns), (123, .ptr 3 1 0), (122, A v11.fColumns), (121, .ptr 2 1 0), (3, .fptr (Enc.cells a0) 0), (6, .ptr 1 0 0), (8, .ptr 2 1 0), (9, .ptr 3 1 0)], [some ⟨0, eL a2⟩, some ⟨0, Enc.cells ((T_impl_made.mk [] 0))⟩, some ⟨1, Enc.cells v11⟩, some ⟨1, Enc.cells v13⟩, some ⟨0, []⟩]⟩) τ_ok [6, 8, 9, 10, 13, 14, 16] [3] 2 (by exact (And.intro (.inl (Enc.frz _)) trivial)) (by kernel_rfl) ?_
                  refine qA_ev (st' := ⟨201, [(125, .arr 1 (([v11.fColumns, v13.fColumns] : List (List T_impl_Column))).length (eL ([v11.fColumns, v13.fColumns] : List (List T_impl_Column))) true), (124, A v13.fColumns), (123, .ptr 3 1 0), (122, A v11.fColumns), (121, .ptr 2 1 0), (3, .fptr (Enc.cells a0) 0), (6, .ptr 1 0 0), (8, .ptr 2 1 0), (9, .ptr 3 1 0)], [some ⟨0, eL a2⟩, some ⟨0, Enc.cells ((T_impl_made.mk [] 0))⟩, some ⟨1, Enc.cells v11⟩, some ⟨1, Enc.cells v13⟩, some ⟨0, []⟩]⟩) τ_ok [6, 8, 9, 10, 13, 14, 16] [] 1 (by exact trivial) (by kernel_rfl) ?_
                  obtain ⟨v40, hv41, h⟩ := bindS h
                  refine qA_E (dd := some 126) (x := A v40) ([none, none, none, none, none]) (⟨201, [(126, A v40), (125, .arr 1 (([v11.fColumns, v13.fColumns] : List (List T_impl_Column))).length (eL ([v11.fColumns, v13.fColumns] : List (List T_impl_Column))) true), (124, A v13.fColumns), (123, .ptr 3 1 0), (122, A v11.fColumns), (121, .ptr 2 1 0), (3, .fptr (Enc.cells a0) 0), (6, .ptr 1 0 0), (8, .ptr 2 1 0), (9, .ptr 3 1 0)], [some ⟨0, eL a2⟩, some ⟨0, Enc.cells ((T_impl_made.mk [] 0))⟩, some ⟨1, Enc.cells v11⟩, some ⟨1, Enc.cells v13⟩, some ⟨0, []⟩]⟩) (fun Γ' hΓ => CoreE.of_g (callV_sound (τ := τ) (by kernel_rfl) rfl (ok_slices_Concat_impl_Column_impl_Column hv41) (FzTo.O _))) (by kernel_rfl) (by kernel_rfl) (by exact trivial) (.inr (.inr rfl)) (by kernel_rfl) ?_
                  refine qA_ev (st' := ⟨201, [(128, I v11.fMost), (127, .ptr 2 1 1), (126, A v40), (125, .arr 1 (([v11.fColumns, v13.fColumns] : List (List T_impl_Column))).length (eL ([v11.fColumns, v13.fColumns] : List (List T_impl_Column))) true), (124, A v13.fColumns), (123, .ptr 3 1 0), (122, A v11.fColumns), (121, .ptr 2 1 0), (3, .fptr (Enc.cells a0) 0), (6, .ptr 1 0 0), (8, .ptr 2 1 0), (9, .ptr 3 1 0)], [some ⟨0, eL a2⟩, some ⟨0, Enc.cells ((T_impl_made.mk [] 0))⟩, some ⟨1, Enc.cells v11⟩, some ⟨1, Enc.cells v13⟩, some ⟨0, []⟩]⟩) τ_ok [6, 8, 9, 10, 13, 14, 16] [2] 2 (by exact (And.intro (.inl (Enc.frz _)) trivial)) (by kernel_rfl) ?_
                  refine qA_ev (st' := ⟨201, [(130, I v13.fMost), (129, .ptr 3 1 1), (128, I v11.fMost), (127, .ptr 2 1 1), (126, A v40), (125, .arr 1 (([v11.fColumns, v13.fColumns] : List (List T_impl_Column))).length (eL ([v11.fColumns, v13.fColumns] : List (List T_impl_Column))) true), (124, A v13.fColumns), (123, .ptr 3 1 0), (122, A v11.fColumns), (121, .ptr 2 1 0), (3, .fptr (Enc.cells a0) 0), (6, .ptr 1 0 0), (8, .ptr 2 1 0), (9, .ptr 3 1 0)], [some ⟨0, eL a2⟩, some ⟨0, Enc.cells ((T_impl_made.mk [] 0))⟩, some ⟨1, Enc.cells v11⟩, some ⟨1, Enc.cells v13⟩, some ⟨0, []⟩]⟩) τ_ok [6, 8, 9, 10, 13, 14, 16] [3] 2 (by exact (And.intro (.inl (Enc.frz _)) trivial)) (by kernel_rfl) ?_
                  refine qA_ev (st' := ⟨201, [(132, E ((T_impl_made.mk v40 ((w64 (v11.fMost * v13.fMost)))))), (131, I ((w64 (v11.fMost * v13.fMost)))), (130, I v13.fMost), (129, .ptr 3 1 1), (128, I v11.fMost), (127, .ptr 2 1 1), (126, A v40), (125, .arr 1 (([v11.fColumns, v13.fColumns] : List (List T_impl_Column))).length (eL ([v11.fColumns, v13.fColumns] : List (List T_impl_Column))) true), (124, A v13.fColumns), (123, .ptr 3 1 0), (122, A v11.fColumns), (121, .ptr 2 1 0), (3, .fptr (Enc.cells a0) 0), (6, .ptr 1 0 0), (8, .ptr 2 1 0), (9, .ptr 3 1 0)], [some ⟨0, eL a2⟩, some ⟨0, Enc.cells ((T_impl_made.mk [] 0))⟩, some ⟨1, Enc.cells v11⟩, some ⟨1, Enc.cells v13⟩, some ⟨0, []⟩]⟩) τ_ok [6, 8, 9, 10, 13, 14, 16] [] 2 (by exact trivial) (by kernel_rfl) ?_
                  refine qA_E (dd := some 13) (x := .ptr 4 1 0) ([none, none, none, none, some ⟨1, Enc.cells ((T_impl_made.mk [] 0))⟩]) (⟨201, [(13, .ptr 4 1 0), (132, E ((T_impl_made.mk v40 ((w64 (v11.fMost * v13.fMost)))))), (131, I ((w64 (v11.fMost * v13.fMost)))), (130, I v13.fMost), (129, .ptr 3 1 1), (128, I v11.fMost), (127, .ptr 2 1 1), (126, A v40), (125, .arr 1 (([v11.fColumns, v13.fColumns] : List (List T_impl_Column))).length (eL ([v11.fColumns, v13.fColumns] : List (List T_impl_Column))) true), (124, A v13.fColumns), (123, .ptr 3 1 0), (122, A v11.fColumns), (121, .ptr 2 1 0), (3, .fptr (Enc.cells a0) 0), (6, .ptr 1 0 0), (8, .ptr 2 1 0), (9, .ptr 3 1 0)], [some ⟨0, eL a2⟩, some ⟨0, Enc.cells ((T_impl_made.mk [] 0))⟩, some ⟨1, Enc.cells v11⟩, some ⟨1, Enc.cells v13⟩, some ⟨1, Enc.cells ((T_impl_made.mk [] 0))⟩]⟩) (fun Γ' hΓ => alc_E (blk := ⟨0, []⟩) τ_ok [6, 8, 9, 10, 13, 14, 16] 13 4 0 (fun _ _ => by decide) (by kernel_rfl) (by kernel_rfl)) (by kernel_rfl) (by kernel_rfl) (by exact (And.intro (.inl (Enc.frz _)) trivial)) (.inr (.inl rfl)) (by kernel_rfl) ?_
                  refine qA_E (dd := none) (x := .any) ([none, none, none, none, some ⟨1, Enc.cells ((T_impl_made.mk v40 ((w64 (v11.fMost * v13.fMost)))))⟩]) (⟨201, [(13, .ptr 4 1 0), (132, E ((T_impl_made.mk v40 ((w64 (v11.fMost * v13.fMost)))))), (131, I ((w64 (v11.fMost * v13.fMost)))), (130, I v13.fMost), (129, .ptr 3 1 1), (128, I v11.fMost), (127, .ptr 2 1 1), (126, A v40), (125, .arr 1 (([v11.fColumns, v13.fColumns] : List (List T_impl_Column))).length (eL ([v11.fColumns, v13.fColumns] : List (List T_impl_Column))) true), (124, A v13.fColumns), (123, .ptr 3 1 0), (122, A v11.fColumns), (121, .ptr 2 1 0), (3, .fptr (Enc.cells a0) 0), (6, .ptr 1 0 0), (8, .ptr 2 1 0), (9, .ptr 3 1 0)], [some ⟨0, eL a2⟩, some ⟨0, Enc.cells ((T_impl_made.mk [] 0))⟩, some ⟨1, Enc.cells v11⟩, some ⟨1, Enc.cells v13⟩, some ⟨1, Enc.cells ((T_impl_made.mk v40 ((w64 (v11.fMost * v13.fMost)))))⟩]⟩) (fun Γ' hΓ => sto_E τ_ok 4 1 (by kernel_rfl)) (by kernel_rfl) (by kernel_rfl) (by exact (And.intro (.inl (Enc.frz _)) trivial)) (.inl rfl) (by kernel_rfl) ?_
                  refine qA_end ?_
                  refine opsP_imp (Imp.to (st' := ⟨201, [(3, .fptr (Enc.cells a0) 0), (6, .ptr 1 0 0), (13, .ptr 4 1 0)], [some ⟨0, eL a2⟩, some ⟨0, Enc.cells ((T_impl_made.mk [] 0))⟩, some ⟨1, Enc.cells v11⟩, some ⟨1, Enc.cells v13⟩, some ⟨1, Enc.cells ((T_impl_made.mk v40 ((w64 (v11.fMost * v13.fMost)))))⟩]⟩) [3, 6, 13] (by kernel_rfl)) ?_
                  refine opsP_end rfl ?_
                  refine pwp_seq ?_
                  refine pwp_imp (Imp.to (st' := ⟨201, [(3, .fptr (Enc.cells a0) 0), (6, .ptr 1 0 0), (13, .ptr 4 1 0)], [some ⟨0, eL a2⟩, some ⟨0, Enc.cells ((T_impl_made.mk [] 0))⟩, some ⟨1, Enc.cells v11⟩, some ⟨1, Enc.cells v13⟩, some ⟨1, Enc.cells ((T_impl_made.mk v40 ((w64 (v11.fMost * v13.fMost)))))⟩]⟩) [3, 6, 13] (by kernel_rfl)) ?_
                  refine pwp_any ([[4], [4], [4], [], [], [], [4], [4], [], [], [], [], [], [1], []]) ([[], [], [], [], [], [], [], [], [], [], [], [], [], [1], []]) rfl (by kernel_rfl) ?_
                  refine qA_ev (st' := ⟨201, [(135, A ((T_impl_made.mk v40 ((w64 (v11.fMost * v13.fMost)))).fColumns)), (134, .ptr 4 1 0), (133, E ((T_impl_made.mk v40 ((w64 (v11.fMost * v13.fMost)))))), (3, .fptr (Enc.cells a0) 0), (6, .ptr 1 0 0), (13, .ptr 4 1 0)], [some ⟨0, eL a2⟩, some ⟨0, Enc.cells ((T_impl_made.mk [] 0))⟩, some ⟨1, Enc.cells v11⟩, some ⟨1, Enc.cells v13⟩, some ⟨1, Enc.cells ((T_impl_made.mk v40 ((w64 (v11.fMost * v13.fMost)))))⟩]⟩) τ_ok [6, 8, 9, 10, 13, 14, 16] [4] 3 (by exact (And.intro (.inl (Enc.frz _)) trivial)) (by kernel_rfl) ?_
                  refine qA_ev (st' := ⟨201, [(138, B ((decide (((((T_impl_made.mk v40 ((w64 (v11.fMost * v13.fMost)))).fColumns).length : Int)) ≤ 4)))), (137, B ((decide (((((T_impl_made.mk v40 ((w64 (v11.fMost * v13.fMost)))).fColumns).length : Int)) ≤ 4)))), (136, I ((((T_impl_made.mk v40 ((w64 (v11.fMost * v13.fMost)))).fColumns).length : Int))), (135, A ((T_impl_made.mk v40 ((w64 (v11.fMost * v13.fMost)))).fColumns)), (134, .ptr 4 1 0), (133, E ((T_impl_made.mk v40 ((w64 (v11.fMost * v13.fMost)))))), (3, .fptr (Enc.cells a0) 0), (6, .ptr 1 0 0), (13, .ptr 4 1 0)], [some ⟨0, eL a2⟩, some ⟨0, Enc.cells ((T_impl_made.mk [] 0))⟩, some ⟨1, Enc.cells v11⟩, some ⟨1, Enc.cells v13⟩, some ⟨1, Enc.cells ((T_impl_made.mk v40 ((w64 (v11.fMost * v13.fMost)))))⟩]⟩) τ_ok [6, 8, 9, 10, 13, 14, 16] [] 3 (by exact trivial) (by kernel_rfl) ?_
                  rcases Bool.eq_false_or_eq_true ((decide (((((T_impl_made.mk v40 ((w64 (v11.fMost * v13.fMost)))).fColumns).length : Int)) ≤ 4))) with hc44 | hc44
                  · replace h := bifT hc44 h
                    rw [hc44]
                    refine qA_ev (st' := ⟨201, [(140, A ((T_impl_made.mk v40 ((w64 (v11.fMost * v13.fMost)))).fColumns)), (139, .ptr 4 1 0), (138, B true), (137, B true), (136, I ((((T_impl_made.mk v40 ((w64 (v11.fMost * v13.fMost)))).fColumns).length : Int))), (135, A ((T_impl_made.mk v40 ((w64 (v11.fMost * v13.fMost)))).fColumns)), (134, .ptr 4 1 0), (133, E ((T_impl_made.mk v40 ((w64 (v11.fMost * v13.fMost)))))), (3, .fptr (Enc.cells a0) 0), (6, .ptr 1 0 0), (13, .ptr 4 1 0)], [some ⟨0, eL a2⟩, some ⟨0, Enc.cells ((T_impl_made.mk [] 0))⟩, some ⟨1, Enc.cells v11⟩, some ⟨1, Enc.cells v13⟩, some ⟨1, Enc.cells ((T_impl_made.mk v40 ((w64 (v11.fMost * v13.fMost)))))⟩]⟩) τ_ok [6, 8, 9, 10, 13, 14, 16] [4] 2 (by exact (And.intro (.inl (Enc.frz _)) trivial)) (by kernel_rfl) ?_
                    refine qA_ev (st' := ⟨201, [(142, A a0.fE), (141, .fptr (Enc.cells a0) 4), (140, A ((T_impl_made.mk v40 ((w64 (v11.fMost * v13.fMost)))).fColumns)), (139, .ptr 4 1 0), (138, B true), (137, B true), (136, I ((((T_impl_made.mk v40 ((w64 (v11.fMost * v13.fMost)))).fColumns).length : Int))), (135, A ((T_impl_made.mk v40 ((w64 (v11.fMost * v13.fMost)))).fColumns)), (134, .ptr 4 1 0), (133, E ((T_impl_made.mk v40 ((w64 (v11.fMost * v13.fMost)))))), (3, .fptr (Enc.cells a0) 0), (6, .ptr 1 0 0), (13, .ptr 4 1 0)], [some ⟨0, eL a2⟩, some ⟨0, Enc.cells ((T_impl_made.mk [] 0))⟩, some ⟨1, Enc.cells v11⟩, some ⟨1, Enc.cells v13⟩, some ⟨1, Enc.cells ((T_impl_made.mk v40 ((w64 (v11.fMost * v13.fMost)))))⟩]⟩) τ_ok [6, 8, 9, 10, 13, 14, 16] [] 2 (by exact trivial) (by kernel_rfl) ?_
                    obtain ⟨v42, hv43, h⟩ := bindS h
                    refine qA_E (dd := some 143) (x := I v42) ([none, none, none, none, none]) (⟨201, [(143, I v42), (142, A a0.fE), (141, .fptr (Enc.cells a0) 4), (140, A ((T_impl_made.mk v40 ((w64 (v11.fMost * v13.fMost)))).fColumns)), (139, .ptr 4 1 0), (138, B true), (137, B true), (136, I ((((T_impl_made.mk v40 ((w64 (v11.fMost * v13.fMost)))).fColumns).length : Int))), (135, A ((T_impl_made.mk v40 ((w64 (v11.fMost * v13.fMost)))).fColumns)), (134, .ptr 4 1 0), (133, E ((T_impl_made.mk v40 ((w64 (v11.fMost * v13.fMost)))))), (3, .fptr (Enc.cells a0) 0), (6, .ptr 1 0 0), (13, .ptr 4 1 0)], [some ⟨0, eL a2⟩, some ⟨0, Enc.cells ((T_impl_made.mk [] 0))⟩, some ⟨1, Enc.cells v11⟩, some ⟨1, Enc.cells v13⟩, some ⟨1, Enc.cells ((T_impl_made.mk v40 ((w64 (v11.fMost * v13.fMost)))))⟩]⟩) (fun Γ' hΓ => CoreE.of_g (callV_sound (τ := τ) (by kernel_rfl) rfl (ok_impl_ExprKind hv43) (FzTo.frz rfl))) (by kernel_rfl) (by kernel_rfl) (by exact trivial) (.inr (.inr rfl)) (by kernel_rfl) ?_
                    refine qA_ev (st' := ⟨201, [(145, B ((v42 == 3))), (144, B ((v42 == 3))), (143, I v42), (142, A a0.fE), (141, .fptr (Enc.cells a0) 4), (140, A ((T_impl_made.mk v40 ((w64 (v11.fMost * v13.fMost)))).fColumns)), (139, .ptr 4 1 0), (138, B true), (137, B true), (136, I ((((T_impl_made.mk v40 ((w64 (v11.fMost * v13.fMost)))).fColumns).length : Int))), (135, A ((T_impl_made.mk v40 ((w64 (v11.fMost * v13.fMost)))).fColumns)), (134, .ptr 4 1 0), (133, E ((T_impl_made.mk v40 ((w64 (v11.fMost * v13.fMost)))))), (3, .fptr (Enc.cells a0) 0), (6, .ptr 1 0 0), (13, .ptr 4 1 0)], [some ⟨0, eL a2⟩, some ⟨0, Enc.cells ((T_impl_made.mk [] 0))⟩, some ⟨1, Enc.cells v11⟩, some ⟨1, Enc.cells v13⟩, some ⟨1, Enc.cells ((T_impl_made.mk v40 ((w64 (v11.fMost * v13.fMost)))))⟩]⟩) τ_ok [6, 8, 9, 10, 13, 14, 16] [] 2 (by exact trivial) (by kernel_rfl) ?_
                    refine qA_E (dd := none) (x := .any) ([none, some ⟨0, Enc.cells ((T_impl_made.mk v40 ((w64 (v11.fMost * v13.fMost)))))⟩, none, none, none]) (⟨201, [(145, B ((v42 == 3))), (144, B ((v42 == 3))), (143, I v42), (142, A a0.fE), (141, .fptr (Enc.cells a0) 4), (140, A ((T_impl_made.mk v40 ((w64 (v11.fMost * v13.fMost)))).fColumns)), (139, .ptr 4 1 0), (138, B true), (137, B true), (136, I ((((T_impl_made.mk v40 ((w64 (v11.fMost * v13.fMost)))).fColumns).length : Int))), (135, A ((T_impl_made.mk v40 ((w64 (v11.fMost * v13.fMost)))).fColumns)), (134, .ptr 4 1 0), (133, E ((T_impl_made.mk v40 ((w64 (v11.fMost * v13.fMost)))))), (3, .fptr (Enc.cells a0) 0), (6, .ptr 1 0 0), (13, .ptr 4 1 0)], [some ⟨0, eL a2⟩, some ⟨0, Enc.cells ((T_impl_made.mk v40 ((w64 (v11.fMost * v13.fMost)))))⟩, some ⟨1, Enc.cells v11⟩, some ⟨1, Enc.cells v13⟩, some ⟨1, Enc.cells ((T_impl_made.mk v40 ((w64 (v11.fMost * v13.fMost)))))⟩]⟩) (fun Γ' hΓ => sto_E τ_ok 1 0 (by kernel_rfl)) (by kernel_rfl) (by kernel_rfl) (by exact (And.intro (.inl (Enc.frz _)) trivial)) (.inl rfl) (by kernel_rfl) ?_
                    refine qA_ev (st' := ⟨201, [(7, B ((v42 == 3))), (145, B ((v42 == 3))), (144, B ((v42 == 3))), (143, I v42), (142, A a0.fE), (141, .fptr (Enc.cells a0) 4), (140, A ((T_impl_made.mk v40 ((w64 (v11.fMost * v13.fMost)))).fColumns)), (139, .ptr 4 1 0), (138, B true), (137, B true), (136, I ((((T_impl_made.mk v40 ((w64 (v11.fMost * v13.fMost)))).fColumns).length : Int))), (135, A ((T_impl_made.mk v40 ((w64 (v11.fMost * v13.fMost)))).fColumns)), (134, .ptr 4 1 0), (133, E ((T_impl_made.mk v40 ((w64 (v11.fMost * v13.fMost)))))), (3, .fptr (Enc.cells a0) 0), (6, .ptr 1 0 0), (13, .ptr 4 1 0)], [some ⟨0, eL a2⟩, some ⟨0, Enc.cells ((T_impl_made.mk v40 ((w64 (v11.fMost * v13.fMost)))))⟩, some ⟨1, Enc.cells v11⟩, some ⟨1, Enc.cells v13⟩, some ⟨1, Enc.cells ((T_impl_made.mk v40 ((w64 (v11.fMost * v13.fMost)))))⟩]⟩) τ_ok [6, 8, 9, 10, 13, 14, 16] [] 1 (by exact trivial) (by kernel_rfl) ?_
                    refine qA_end ?_
                    refine opsP_imp (Imp.to (st' := ⟨201, [(6, .ptr 1 0 0), (7, B ((v42 == 3)))], [some ⟨0, eL a2⟩, some ⟨0, Enc.cells ((T_impl_made.mk v40 ((w64 (v11.fMost * v13.fMost)))))⟩, some ⟨1, Enc.cells v11⟩, some ⟨1, Enc.cells v13⟩, some ⟨1, Enc.cells ((T_impl_made.mk v40 ((w64 (v11.fMost * v13.fMost)))))⟩]⟩) [6, 7] (by kernel_rfl)) ?_
                    refine opsP_end rfl ?_
                    have h := Option.some.inj h
                    subst h
                    exact pwp_ret ⟨.inr rfl, .tup [E ((T_impl_made.mk v40 ((w64 (v11.fMost * v13.fMost))))), B ((v42 == 3))], _, 0, by kernel_rfl, (OutP.tup (OutL.cons (OutP.frz (by kernel_rfl)) (OutL.cons (OutP.frz (by kernel_rfl)) (OutL.nil _)))), by decide, by decide, by kernel_rfl⟩
                  · replace h := bifF hc44 h
                    rw [hc44]
                    refine qA_ev (st' := ⟨201, [(140, .lit undef), (139, .lit undef), (138, B false), (137, B false), (136, I ((((T_impl_made.mk v40 ((w64 (v11.fMost * v13.fMost)))).fColumns).length : Int))), (135, A ((T_impl_made.mk v40 ((w64 (v11.fMost * v13.fMost)))).fColumns)), (134, .ptr 4 1 0), (133, E ((T_impl_made.mk v40 ((w64 (v11.fMost * v13.fMost)))))), (3, .fptr (Enc.cells a0) 0), (6, .ptr 1 0 0), (13, .ptr 4 1 0)], [some ⟨0, eL a2⟩, some ⟨0, Enc.cells ((T_impl_made.mk [] 0))⟩, some ⟨1, Enc.cells v11⟩, some ⟨1, Enc.cells v13⟩, some ⟨1, Enc.cells ((T_impl_made.mk v40 ((w64 (v11.fMost * v13.fMost)))))⟩]⟩) τ_ok [6, 8, 9, 10, 13, 14, 16] [4] 2 (by exact (And.intro (.inl (Enc.frz _)) trivial)) (by kernel_rfl) ?_
                    refine qA_ev (st' := ⟨201, [(145, B false), (144, .lit undef), (143, .lit undef), (142, .lit undef), (141, .lit undef), (140, .lit undef), (139, .lit undef), (138, B false), (137, B false), (136, I ((((T_impl_made.mk v40 ((w64 (v11.fMost * v13.fMost)))).fColumns).length : Int))), (135, A ((T_impl_made.mk v40 ((w64 (v11.fMost * v13.fMost)))).fColumns)), (134, .ptr 4 1 0), (133, E ((T_impl_made.mk v40 ((w64 (v11.fMost * v13.fMost)))))), (3, .fptr (Enc.cells a0) 0), (6, .ptr 1 0 0), (13, .ptr 4 1 0)], [some ⟨0, eL a2⟩, some ⟨0, Enc.cells ((T_impl_made.mk [] 0))⟩, some ⟨1, Enc.cells v11⟩, some ⟨1, Enc.cells v13⟩, some ⟨1, Enc.cells ((T_impl_made.mk v40 ((w64 (v11.fMost * v13.fMost)))))⟩]⟩) τ_ok [6, 8, 9, 10, 13, 14, 16] [] 5 (by exact trivial) (by kernel_rfl) ?_
                    refine qA_E (dd := none) (x := .any) ([none, some ⟨0, Enc.cells ((T_impl_made.mk v40 ((w64 (v11.fMost * v13.fMost)))))⟩, none, none, none]) (⟨201, [(145, B false), (144, .lit undef), (143, .lit undef), (142, .lit undef), (141, .lit undef), (140, .lit undef), (139, .lit undef), (138, B false), (137, B false), (136, I ((((T_impl_made.mk v40 ((w64 (v11.fMost * v13.fMost)))).fColumns).length : Int))), (135, A ((T_impl_made.mk v40 ((w64 (v11.fMost * v13.fMost)))).fColumns)), (134, .ptr 4 1 0), (133, E ((T_impl_made.mk v40 ((w64 (v11.fMost * v13.fMost)))))), (3, .fptr (Enc.cells a0) 0), (6, .ptr 1 0 0), (13, .ptr 4 1 0)], [some ⟨0, eL a2⟩, some ⟨0, Enc.cells ((T_impl_made.mk v40 ((w64 (v11.fMost * v13.fMost)))))⟩, some ⟨1, Enc.cells v11⟩, some ⟨1, Enc.cells v13⟩, some ⟨1, Enc.cells ((T_impl_made.mk v40 ((w64 (v11.fMost * v13.fMost)))))⟩]⟩) (fun Γ' hΓ => sto_E τ_ok 1 0 (by kernel_rfl)) (by kernel_rfl) (by kernel_rfl) (by exact (And.intro (.inl (Enc.frz _)) trivial)) (.inl rfl) (by kernel_rfl) ?_
                    refine qA_ev (st' := ⟨201, [(7, B false), (145, B false), (144, .lit undef), (143, .lit undef), (142, .lit undef), (141, .lit undef), (140, .lit undef), (139, .lit undef), (138, B false), (137, B false), (136, I ((((T_impl_made.mk v40 ((w64 (v11.fMost * v13.fMost)))).fColumns).length : Int))), (135, A ((T_impl_made.mk v40 ((w64 (v11.fMost * v13.fMost)))).fColumns)), (134, .ptr 4 1 0), (133, E ((T_impl_made.mk v40 ((w64 (v11.fMost * v13.fMost)))))), (3, .fptr (Enc.cells a0) 0), (6, .ptr 1 0 0), (13, .ptr 4 1 0)], [some ⟨0, eL a2⟩, some ⟨0, Enc.cells ((T_impl_made.mk v40 ((w64 (v11.fMost * v13.fMost)))))⟩, some ⟨1, Enc.cells v11⟩, some ⟨1, Enc.cells v13⟩, some ⟨1, Enc.cells ((T_impl_made.mk v40 ((w64 (v11.fMost * v13.fMost)))))⟩]⟩) τ_ok [6, 8, 9, 10, 13, 14, 16] [] 1 (by exact trivial) (by kernel_rfl) ?_
                    refine qA_end ?_
                    refine opsP_imp (Imp.to (st' := ⟨201, [(6, .ptr 1 0 0), (7, B false)], [some ⟨0, eL a2⟩, some ⟨0, Enc.cells ((T_impl_made.mk v40 ((w64 (v11.fMost * v13.fMost)))))⟩, some ⟨1, Enc.cells v11⟩, some ⟨1, Enc.cells v13⟩, some ⟨1, Enc.cells ((T_impl_made.mk v40 ((w64 (v11.fMost * v13.fMost)))))⟩]⟩) [6, 7] (by kernel_rfl)) ?_
                    refine opsP_end rfl ?_
                    have h := Option.some.inj h
                    subst h
                    exact pwp_ret ⟨.inr rfl, .tup [E ((T_impl_made.mk v40 ((w64 (v11.fMost * v13.fMost))))), B false], _, 0, by kernel_rfl, (OutP.tup (OutL.cons (OutP.frz (by kernel_rfl)) (OutL.cons (OutP.frz (by kernel_rfl)) (OutL.nil _)))), by decide, by decide, by kernel_rfl⟩
                · replace h := bifF hc39 h
                  refine pwp_seq ?_
                  refine pwp_region ?_
                  refine opsP_evk' (st' := ⟨201, [(6, .ptr 1 0 0), (8, .ptr 2 1 0), (9, .ptr 3 1 0), (146, B ((a0.fKind == 5)))], [some ⟨0, eL a2⟩, some ⟨0, Enc.cells ((T_impl_made.mk [] 0))⟩, some ⟨1, Enc.cells v11⟩, some ⟨1, Enc.cells v13⟩]⟩) τ_ok [6, 8, 9, 10, 13, 14, 16] 2 [6, 8, 9, 146] (by kernel_rfl) ?_
                  refine opsP_end rfl ?_
                  refine pwp_cond ((a0.fKind == 5)) (by kernel_rfl) (fun hc45 => ?_) (fun hc45 => ?_)
                  · replace h := bifT hc45 h
                    refine pwp_seq ?_
                    refine pwp_imp (Imp.to (st' := ⟨201, [(6, .ptr 1 0 0), (8, .ptr 2 1 0), (9, .ptr 3 1 0)], [some ⟨0, eL a2⟩, some ⟨0, Enc.cells ((T_impl_made.mk [] 0))⟩, some ⟨1, Enc.cells v11⟩, some ⟨1, Enc.cells v13⟩]⟩) [6, 8, 9] (by kernel_rfl)) ?_
                    refine pwp_imp (Imp.ghosts 2 (st' := ⟨201, [(6, .ptr 1 0 0), (8, .ptr 2 1 0), (9, .ptr 3 1 0)], [some ⟨0, eL a2⟩, some ⟨0, Enc.cells ((T_impl_made.mk [] 0))⟩, some ⟨1, Enc.cells v11⟩, some ⟨1, Enc.cells v13⟩, some ⟨0, []⟩, some ⟨0, []⟩]⟩) (by kernel_rfl)) ?_
                    refine pwp_any ([[2], [2], [4], [2], [2], [3], [3], [], [4], [5], [4, 5]]) ([[], [], [4], [], [], [], [], [], [], [5], [5]]) rfl (by kernel_rfl) ?_
                    refine qA_ev (st' := ⟨201, [(149, A v11.fColumns), (148, .ptr 2 1 0), (6, .ptr 1 0 0), (8, .ptr 2 1 0), (9, .ptr 3 1 0)], [some ⟨0, eL a2⟩, some ⟨0, Enc.cells ((T_impl_made.mk [] 0))⟩, some ⟨1, Enc.cells v11⟩, some ⟨1, Enc.cells v13⟩, some ⟨0, []⟩, some ⟨0, []⟩]⟩) τ_ok [6, 8, 9, 10, 13, 14, 16] [2] 2 (by exact (And.intro (.inl (Enc.frz _)) trivial)) (by kernel_rfl) ?_
                    obtain ⟨v46, hv47, h⟩ := bindS h
                    refine qA_E (dd := some 150) (x := .ref 4 1 0 2 v46.length false) ([none, none, none, none, some ⟨1, eL v46⟩, none]) (⟨201, [(150, .ref 4 1 0 2 v46.length false), (149, A v11.fColumns), (148, .ptr 2 1 0), (6, .ptr 1 0 0), (8, .ptr 2 1 0), (9, .ptr 3 1 0)], [some ⟨0, eL a2⟩, some ⟨0, Enc.cells ((T_impl_made.mk [] 0))⟩, some ⟨1, Enc.cells v11⟩, some ⟨1, Enc.cells v13⟩, some ⟨1, eL v46⟩, some ⟨0, []⟩]⟩) (fun Γ' hΓ => callK_E (blk := ⟨0, []⟩) τ 150 4 0 (fun _ _ => by decide) (by kernel_rfl) (ok_impl_clone_impl_Column_R hv47) rfl (by kernel_rfl)) (by kernel_rfl) (by kernel_rfl) (by exact (And.intro (.inl (eL_frz _)) trivial)) (.inr (.inl rfl)) (by kernel_rfl) ?_
                    refine qA_ev (st' := ⟨201, [(152, I v11.fMost), (151, .ptr 2 1 1), (150, .ref 4 1 0 2 v46.length false), (149, A v11.fColumns), (148, .ptr 2 1 0), (6, .ptr 1 0 0), (8, .ptr 2 1 0), (9, .ptr 3 1 0)], [some ⟨0, eL a2⟩, some ⟨0, Enc.cells ((T_impl_made.mk [] 0))⟩, some ⟨1, Enc.cells v11⟩, some ⟨1, Enc.cells v13⟩, some ⟨1, eL v46⟩, some ⟨0, []⟩]⟩) τ_ok [6, 8, 9, 10, 13, 14, 16] [2] 2 (by exact (And.intro (.inl (Enc.frz _)) trivial)) (by kernel_rfl) ?_
                    refine qA_ev (st' := ⟨201, [(154, I v13.fMost), (153, .ptr 3 1 1), (152, I v11.fMost), (151, .ptr 2 1 1), (150, .ref 4 1 0 2 v46.length false), (149, A v11.fColumns), (148, .ptr 2 1 0), (6, .ptr 1 0 0), (8, .ptr 2 1 0), (9, .ptr 3 1 0)], [some ⟨0, eL a2⟩, some ⟨0, Enc.cells ((T_impl_made.mk [] 0))⟩, some ⟨1, Enc.cells v11⟩, some ⟨1, Enc.cells v13⟩, some ⟨1, eL v46⟩, some ⟨0, []⟩]⟩) τ_ok [6, 8, 9, 10, 13, 14, 16] [3] 2 (by exact (And.intro (.inl (Enc.frz _)) trivial)) (by kernel_rfl) ?_
                    refine qA_ev (st' := ⟨201, [(155, I ((w64 (v11.fMost + v13.fMost)))), (154, I v13.fMost), (153, .ptr 3 1 1), (152, I v11.fMost), (151, .ptr 2 1 1), (150, .ref 4 1 0 2 v46.length false), (149, A v11.fColumns), (148, .ptr 2 1 0), (6, .ptr 1 0 0), (8, .ptr 2 1 0), (9, .ptr 3 1 0)], [some ⟨0, eL a2⟩, some ⟨0, Enc.cells ((T_impl_made.mk [] 0))⟩, some ⟨1, Enc.cells v11⟩, some ⟨1, Enc.cells v13⟩, some ⟨1, eL v46⟩, some ⟨0, []⟩]⟩) τ_ok [6, 8, 9, 10, 13, 14, 16] [] 1 (by exact trivial) (by kernel_rfl) ?_
                    refine qA_E (dd := some 156) (x := .agg [.ref 4 1 0 2 v46.length false, I ({ ((T_impl_made.mk [] 0)) with fMost := (w64 (v11.fMost + v13.fMost)) }.fMost)]) ([none, none, none, none, some ⟨1, eL v46⟩, none]) (⟨201, [(156, .agg [.ref 4 1 0 2 v46.length false, I ({ ((T_impl_made.mk [] 0)) with fMost := (w64 (v11.fMost + v13.fMost)) }.fMost)]), (155, I ((w64 (v11.fMost + v13.fMost)))), (154, I v13.fMost), (153, .ptr 3 1 1), (152, I v11.fMost), (151, .ptr 2 1 1), (150, .ref 4 1 0 2 v46.length false), (149, A v11.fColumns), (148, .ptr 2 1 0), (6, .ptr 1 0 0), (8, .ptr 2 1 0), (9, .ptr 3 1 0)], [some ⟨0, eL a2⟩, some ⟨0, Enc.cells ((T_impl_made.mk [] 0))⟩, some ⟨1, Enc.cells v11⟩, some ⟨1, Enc.cells v13⟩, some ⟨1, eL v46⟩, some ⟨0, []⟩]⟩) (fun Γ' hΓ => CoreE.of_y (bldV_sound (zs := [.arr 2 0 [] true, .lit (.int .i64 0)]) (cells := [.ref 4 1 0 2 v46.length false, I ({ ((T_impl_made.mk [] 0)) with fMost := (w64 (v11.fMost + v13.fMost)) }.fMost)]) τ_ok zi_ok79 (by kernel_rfl))) (by kernel_rfl) (by kernel_rfl) (by exact (And.intro (.inl (eL_frz _)) trivial)) (.inr (.inl rfl)) (by kernel_rfl) ?_
                    refine qA_E (dd := some 14) (x := .ptr 5 1 0) ([none, none, none, none, none, some ⟨1, [.arr 2 0 (eL ([] : List T_impl_Column)) true, I ((T_impl_made.mk [] 0).fMost)]⟩]) (⟨201, [(14, .ptr 5 1 0), (156, .agg [.ref 4 1 0 2 v46.length false, I ({ ((T_impl_made.mk [] 0)) with fMost := (w64 (v11.fMost + v13.fMost)) }.fMost)]), (155, I ((w64 (v11.fMost + v13.fMost)))), (154, I v13.fMost), (153, .ptr 3 1 1), (152, I v11.fMost), (151, .ptr 2 1 1), (150, .ref 4 1 0 2 v46.length false), (149, A v11.fColumns), (148, .ptr 2 1 0), (6, .ptr 1 0 0), (8, .ptr 2 1 0), (9, .ptr 3 1 0)], [some ⟨0, eL a2⟩, some ⟨0, Enc.cells ((T_impl_made.mk [] 0))⟩, some ⟨1, Enc.cells v11⟩, some ⟨1, Enc.cells v13⟩, some ⟨1, eL v46⟩, some ⟨1, [.arr 2 0 (eL ([] : List T_impl_Column)) true, I ((T_impl_made.mk [] 0).fMost)]⟩]⟩) (fun Γ' hΓ => alz_E (blk := ⟨0, []⟩) (zs := [.arr 2 0 [] true, .lit (.int .i64 0)]) 14 79 5 0 (fun _ _ => by decide) zi_ok79 (by kernel_rfl) (by kernel_rfl)) (by kernel_rfl) (by kernel_rfl) (by exact (And.intro (.inl rfl) trivial)) (.inr (.inl rfl)) (by kernel_rfl) ?_
                    refine qA_E (dd := none) (x := .any) ([none, none, none, none, some ⟨1, eL v46⟩, some ⟨1, [.ref 4 1 0 2 v46.length false, I ({ ((T_impl_made.mk [] 0)) with fMost := (w64 (v11.fMost + v13.fMost)) }.fMost)]⟩]) (⟨201, [(14, .ptr 5 1 0), (156, .agg [.ref 4 1 0 2 v46.length false, I ({ ((T_impl_made.mk [] 0)) with fMost := (w64 (v11.fMost + v13.fMost)) }.fMost)]), (155, I ((w64 (v11.fMost + v13.fMost)))), (154, I v13.fMost), (153, .ptr 3 1 1), (152, I v11.fMost), (151, .ptr 2 1 1), (150, .ref 4 1 0 2 v46.length false), (149, A v11.fColumns), (148, .ptr 2 1 0), (6, .ptr 1 0 0), (8, .ptr 2 1 0), (9, .ptr 3 1 0)], [some ⟨0, eL a2⟩, some ⟨0, Enc.cells ((T_impl_made.mk [] 0))⟩, some ⟨1, Enc.cells v11⟩, some ⟨1, Enc.cells v13⟩, some ⟨1, eL v46⟩, some ⟨1, [.ref 4 1 0 2 v46.length false, I ({ ((T_impl_made.mk [] 0)) with fMost := (w64 (v11.fMost + v13.fMost)) }.fMost)]⟩]⟩) (fun Γ' hΓ => sto_E τ_ok 5 1 (by kernel_rfl)) (by kernel_rfl) (by kernel_rfl) (by exact (And.intro (.inl (eL_frz _)) (And.intro (.inr rfl) trivial))) (.inl rfl) (by kernel_rfl) ?_
                    refine qA_end ?_
                    refine opsP_imp (Imp.to (st' := ⟨201, [(6, .ptr 1 0 0), (8, .ptr 2 1 0), (9, .ptr 3 1 0), (14, .ptr 5 1 0)], [some ⟨0, eL a2⟩, some ⟨0, Enc.cells ((T_impl_made.mk [] 0))⟩, some ⟨1, Enc.cells v11⟩, some ⟨1, Enc.cells v13⟩, some ⟨1, eL v46⟩, some ⟨1, [.ref 4 1 0 2 v46.length false, I ({ ((T_impl_made.mk [] 0)) with fMost := (w64 (v11.fMost + v13.fMost)) }.fMost)]⟩]⟩) [6, 8, 9, 14] (by kernel_rfl)) ?_
                    refine opsP_end rfl ?_
                    refine pwp_seq ?_
                    refine pwp_seq ?_
                    refine pwp_region ?_
                    refine opsP_evk' (st' := ⟨201, [(6, .ptr 1 0 0), (9, .ptr 3 1 0), (14, .ptr 5 1 0), (163, B ((!(((v11.fColumns.length : Int)) == ((v13.fColumns.length : Int))))))], [some ⟨0, eL a2⟩, some ⟨0, Enc.cells ((T_impl_made.mk [] 0))⟩, some ⟨1, Enc.cells v11⟩, some ⟨1, Enc.cells v13⟩, some ⟨1, eL v46⟩, some ⟨1, [.ref 4 1 0 2 v46.length false, I ({ ((T_impl_made.mk [] 0)) with fMost := (w64 (v11.fMost + v13.fMost)) }.fMost)]⟩]⟩) τ_ok [6, 8, 9, 10, 13, 14, 16] 7 [6, 9, 14, 163] (by kernel_rfl) ?_
                    refine opsP_end rfl ?_
                    refine pwp_cond ((!(((v11.fColumns.length : Int)) == ((v13.fColumns.length : Int))))) (by kernel_rfl) (fun hc48 => ?_) (fun hc48 => ?_)
                    · replace h := bifT hc48 h
                      refine pwp_seq ?_
                      refine pwp_region ?_
                      refine opsP_evk' (st' := ⟨201, [(6, .ptr 1 0 0), (7, B false)], [some ⟨0, eL a2⟩, some ⟨0, Enc.cells ((T_impl_made.mk [] 0))⟩, some ⟨1, Enc.cells v11⟩, some ⟨1, Enc.cells v13⟩, some ⟨1, eL v46⟩, some ⟨1, [.ref 4 1 0 2 v46.length false, I ({ ((T_impl_made.mk [] 0)) with fMost := (w64 (v11.fMost + v13.fMost)) }.fMost)]⟩]⟩) τ_ok [6, 8, 9, 10, 13, 14, 16] 3 [6, 7] (by kernel_rfl) ?_
                      refine opsP_end rfl ?_
                      have h := Option.some.inj h
                      subst h
                      exact pwp_ret ⟨.inr rfl, .tup [E ((T_impl_made.mk [] 0)), B false], _, 0, by kernel_rfl, (OutP.tup (OutL.cons (OutP.frz (by kernel_rfl)) (OutL.cons (OutP.frz (by kernel_rfl)) (OutL.nil _)))), by decide, by decide, by kernel_rfl⟩
                    · replace h := bifF hc48 h
                      refine pwp_skip ?_
                      refine pwp_seq ?_
                      refine pwp_seq ?_
                      refine pwp_region ?_
                      refine opsP_evk' (st' := ⟨201, [(6, .ptr 1 0 0), (14, .ptr 5 1 0), (166, A v13.fColumns), (167, I ((v13.fColumns.length : Int))), (168, I 0)], [some ⟨0, eL a2⟩, some ⟨0, Enc.cells ((T_impl_made.mk [] 0))⟩, some ⟨1, Enc.cells v11⟩, some ⟨1, Enc.cells v13⟩, some ⟨1, eL v46⟩, some ⟨1, [.ref 4 1 0 2 v46.length false, I ({ ((T_impl_made.mk [] 0)) with fMost := (w64 (v11.fMost + v13.fMost)) }.fMost)]⟩]⟩) τ_ok [6, 8, 9, 10, 13, 14, 16] 4 [6, 14, 166, 167, 168] (by kernel_rfl) ?_
                      refine opsP_end rfl ?_
                      refine pwp_block ?_
                      refine pwp_loop (ι := Nat × Int × (List T_impl_Column)) (fun (f57, x55, x56) => (⟨201, [(6, .ptr 1 0 0), (14, .ptr 5 1 0), (166, A v13.fColumns), (167, I ((v13.fColumns.length : Int))), (168, I x55)], [some ⟨0, eL a2⟩, some ⟨0, Enc.cells ((T_impl_made.mk [] 0))⟩, some ⟨1, Enc.cells v11⟩, some ⟨1, Enc.cells v13⟩, some ⟨0, eL x56⟩, some ⟨1, [.ref 4 0 0 2 x56.length false, I ({ ((T_impl_made.mk [] 0)) with fMost := (w64 (v11.fMost + v13.fMost)) }.fMost)]⟩]⟩ : St)) (fun (f57, x55, x56) => impl_Step_make_L2_l3 v11 v13 f57 x55 x56 = some y) (fun (f57, x55, x56) => f57) (FUEL, 0, v46) h ((Imp.to (st' := ⟨201, [(6, .ptr 1 0 0), (14, .ptr 5 1 0), (166, A v13.fColumns), (167, I ((v13.fColumns.length : Int))), (168, I 0)], [some ⟨0, eL a2⟩, some ⟨0, Enc.cells ((T_impl_made.mk [] 0))⟩, some ⟨1, Enc.cells v11⟩, some ⟨1, Enc.cells v13⟩, some ⟨1, eL v46⟩, some ⟨1, [.ref 4 1 0 2 v46.length false, I ({ ((T_impl_made.mk [] 0)) with fMost := (w64 (v11.fMost + v13.fMost)) }.fMost)]⟩]⟩) [6, 14, 166, 167, 168] (by kernel_rfl)).trans ((Imp.reverB (cs := eL v46) (st' := ⟨201, [(6, .ptr 1 0 0), (14, .ptr 5 1 0), (166, A v13.fColumns), (167, I ((v13.fColumns.length : Int))), (168, I 0)], [some ⟨0, eL a2⟩, some ⟨0, Enc.cells ((T_impl_made.mk [] 0))⟩, some ⟨1, Enc.cells v11⟩, some ⟨1, Enc.cells v13⟩, some ⟨0, eL v46⟩, some ⟨1, [.ref 4 0 0 2 v46.length false, I ({ ((T_impl_made.mk [] 0)) with fMost := (w64 (v11.fMost + v13.fMost)) }.fMost)]⟩]⟩) 4 1 (by kernel_rfl) (eL_frz _) (HpRel.frz rfl (eL_frz _) (HpRel.frz rfl (Enc.frz _) (HpRel.frz rfl (Enc.frz _) (HpRel.frz rfl (Enc.frz _) (HpRel.key (HpRel.box rfl (CellRel.cons ⟨rfl, rfl⟩ (CellRel.cons ⟨rfl, rfl⟩ CellRel.nil)) HpRel.nil)))))) (by kernel_rfl) (by rfl) (fun _ _ => ⟨_, rfl⟩)).trans (Imp.to [6, 14, 166, 167, 168] (by kernel_rfl)))) ?_
                      rintro ⟨f57, x55, x56⟩ h
                      dsimp only at h ⊢
                      cases f57 with
                      | zero => cases h
                      | succ f57 =>
                      rw [impl_Step_make_L2_l3] at h
                      refine pwp_seq ?_
                      refine pwp_region ?_
                      refine opsP_evk' (st' := ⟨201, [(6, .ptr 1 0 0), (14, .ptr 5 1 0), (166, A v13.fColumns), (167, I ((v13.fColumns.length : Int))), (168, I x55), (169, B ((decide (x55 < ((v13.fColumns.length : Int))))))], [some ⟨0, eL a2⟩, some ⟨0, Enc.cells ((T_impl_made.mk [] 0))⟩, some ⟨1, Enc.cells v11⟩, some ⟨1, Enc.cells v13⟩, some ⟨0, eL x56⟩, some ⟨1, [.ref 4 0 0 2 x56.length false, I ({ ((T_impl_made.mk [] 0)) with fMost := (w64 (v11.fMost + v13.fMost)) }.fMost)]⟩]⟩) τ_ok [6, 8, 9, 10, 13, 14, 16] 1 [6, 14, 166, 167, 168, 169] (by kernel_rfl) ?_
                      refine opsP_end rfl ?_
                      refine pwp_seq ?_
                      refine pwp_cond ((decide (x55 < ((v13.fColumns.length : Int))))) (by kernel_rfl) (fun hc59 => ?_) (fun hc59 => ?_)
                      · replace h := bifT hc59 h
                        refine pwp_skip ?_
                        refine pwp_seq ?_
                        refine pwp_block ?_
                        refine pwp_seq ?_
                        refine pwp_region ?_
                        refine opsP_evk' (st' := ⟨201, [(6, .ptr 1 0 0), (14, .ptr 5 1 0), (166, A v13.fColumns), (167, I ((v13.fColumns.length : Int))), (168, I x55), (170, I x55)], [some ⟨0, eL a2⟩, some ⟨0, Enc.cells ((T_impl_made.mk [] 0))⟩, some ⟨1, Enc.cells v11⟩, some ⟨1, Enc.cells v13⟩, some ⟨0, eL x56⟩, some ⟨1, [.ref 4 0 0 2 x56.length false, I ({ ((T_impl_made.mk [] 0)) with fMost := (w64 (v11.fMost + v13.fMost)) }.fMost)]⟩]⟩) τ_ok [6, 8, 9, 10, 13, 14, 16] 1 [6, 14, 166, 167, 168, 170] (by kernel_rfl) ?_
                        obtain ⟨v60, hv61, h⟩ := bindS h
                        refine opsP_idx τ_ok 171 hv61 (by kernel_rfl) ?_
                        refine opsP_evk' (st' := ⟨201, [(6, .ptr 1 0 0), (14, .ptr 5 1 0), (15, I x55), (16, .ptr 6 0 0), (166, A v13.fColumns), (167, I ((v13.fColumns.length : Int))), (168, I x55)], [some ⟨0, eL a2⟩, some ⟨0, Enc.cells ((T_impl_made.mk [] 0))⟩, some ⟨1, Enc.cells v11⟩, some ⟨1, Enc.cells v13⟩, some ⟨0, eL x56⟩, some ⟨1, [.ref 4 0 0 2 x56.length false, I ({ ((T_impl_made.mk [] 0)) with fMost := (w64 (v11.fMost + v13.fMost)) }.fMost)]⟩, some ⟨0, Enc.cells v60⟩]⟩) τ_ok [6, 8, 9, 10, 13, 14, 16] 4 [6, 14, 15, 16, 166, 167, 168] (by kernel_rfl) ?_
                        refine opsP_end rfl ?_
                        refine pwp_seq ?_
                        refine pwp_seq ?_
                        refine pwp_imp (Imp.to (st' := ⟨201, [(6, .ptr 1 0 0), (14, .ptr 5 1 0), (15, I x55), (16, .ptr 6 0 0), (166, A v13.fColumns), (167, I ((v13.fColumns.length : Int))), (168, I x55)], [some ⟨0, eL a2⟩, some ⟨0, Enc.cells ((T_impl_made.mk [] 0))⟩, some ⟨1, Enc.cells v11⟩, some ⟨1, Enc.cells v13⟩, some ⟨0, eL x56⟩, some ⟨1, [.ref 4 0 0 2 x56.length false, I ({ ((T_impl_made.mk [] 0)) with fMost := (w64 (v11.fMost + v13.fMost)) }.fMost)]⟩, some ⟨0, Enc.cells v60⟩]⟩) [6, 14, 15, 16, 166, 167, 168] (by kernel_rfl)) ?_
                        refine pwp_any ([[6], [6], [4, 5], [4, 5], [], [4], [4], [4], []]) ([[], [], [], [], [], [], [], [], []]) rfl (by kernel_rfl) ?_
                        refine qA_ev (st' := ⟨201, [(174, I v60.fKind), (173, .ptr 6 0 0), (6, .ptr 1 0 0), (14, .ptr 5 1 0), (15, I x55), (16, .ptr 6 0 0), (166, A v13.fColumns), (167, I ((v13.fColumns.length : Int))), (168, I x55)], [some ⟨0, eL a2⟩, some ⟨0, Enc.cells ((T_impl_made.mk [] 0))⟩, some ⟨1, Enc.cells v11⟩, some ⟨1, Enc.cells v13⟩, some ⟨0, eL x56⟩, some ⟨1, [.ref 4 0 0 2 x56.length false, I ({ ((T_impl_made.mk [] 0)) with fMost := (w64 (v11.fMost + v13.fMost)) }.fMost)]⟩, some ⟨0, Enc.cells v60⟩]⟩) τ_ok [6, 8, 9, 10, 13, 14, 16] [6] 2 (by exact (And.intro (.inl (Enc.frz _)) trivial)) (by kernel_rfl) ?_
                        refine qA_ev (st' := ⟨201, [(176, .ref 4 0 0 2 x56.length false), (175, .ptr 5 1 0), (174, I v60.fKind), (173, .ptr 6 0 0), (6, .ptr 1 0 0), (14, .ptr 5 1 0), (15, I x55), (16, .ptr 6 0 0), (166, A v13.fColumns), (167, I ((v13.fColumns.length : Int))), (168, I x55)], [some ⟨0, eL a2⟩, some ⟨0, Enc.cells ((T_impl_made.mk [] 0))⟩, some ⟨1, Enc.cells v11⟩, some ⟨1, Enc.cells v13⟩, some ⟨0, eL x56⟩, some ⟨1, [.ref 4 0 0 2 x56.length false, I ({ ((T_impl_made.mk [] 0)) with fMost := (w64 (v11.fMost + v13.fMost)) }.fMost)]⟩, some ⟨0, Enc.cells v60⟩]⟩) τ_ok [6, 8, 9, 10, 13, 14, 16] [4, 5] 2 (by exact (And.intro (.inl (eL_frz _)) (And.intro (.inr rfl) trivial))) (by kernel_rfl) ?_
                        refine qA_ev (st' := ⟨201, [(177, I x55), (176, .ref 4 0 0 2 x56.length false), (175, .ptr 5 1 0), (174, I v60.fKind), (173, .ptr 6 0 0), (6, .ptr 1 0 0), (14, .ptr 5 1 0), (15, I x55), (16, .ptr 6 0 0), (166, A v13.fColumns), (167, I ((v13.fColumns.length : Int))), (168, I x55)], [some ⟨0, eL a2⟩, some ⟨0, Enc.cells ((T_impl_made.mk [] 0))⟩, some ⟨1, Enc.cells v11⟩, some ⟨1, Enc.cells v13⟩, some ⟨0, eL x56⟩, some ⟨1, [.ref 4 0 0 2 x56.length false, I ({ ((T_impl_made.mk [] 0)) with fMost := (w64 (v11.fMost + v13.fMost)) }.fMost)]⟩, some ⟨0, Enc.cells v60⟩]⟩) τ_ok [6, 8, 9, 10, 13, 14, 16] [] 1 (by exact trivial) (by kernel_rfl) ?_
                        obtain ⟨v62, hv63, h⟩ := bindS h
                        refine qA_E (dd := some 178) (x := .ptr 4 0 (x55.toNat * 2)) ([none, none, none, none, some ⟨0, eL x56⟩, none, none]) (⟨201, [(178, .ptr 4 0 (x55.toNat * 2)), (177, I x55), (176, .ref 4 0 0 2 x56.length false), (175, .ptr 5 1 0), (174, I v60.fKind), (173, .ptr 6 0 0), (6, .ptr 1 0 0), (14, .ptr 5 1 0), (15, I x55), (16, .ptr 6 0 0), (166, A v13.fColumns), (167, I ((v13.fColumns.length : Int))), (168, I x55)], [some ⟨0, eL a2⟩, some ⟨0, Enc.cells ((T_impl_made.mk [] 0))⟩, some ⟨1, Enc.cells v11⟩, some ⟨1, Enc.cells v13⟩, some ⟨0, eL x56⟩, some ⟨1, [.ref 4 0 0 2 x56.length false, I ({ ((T_impl_made.mk [] 0)) with fMost := (w64 (v11.fMost + v13.fMost)) }.fMost)]⟩, some ⟨0, Enc.cells v60⟩]⟩) (fun Γ' hΓ => CoreE.of_y (idrV_sound (n := x56.length) τ_ok (by kernel_rfl) hv63 rfl)) (by kernel_rfl) (by kernel_rfl) (by exact (And.intro (.inl (eL_frz _)) trivial)) (.inr (.inl rfl)) (by kernel_rfl) ?_
                        refine qA_ev (st' := ⟨201, [(179, .ptr 4 0 (x55.toNat * 2)), (178, .ptr 4 0 (x55.toNat * 2)), (177, I x55), (176, .ref 4 0 0 2 x56.length false), (175, .ptr 5 1 0), (174, I v60.fKind), (173, .ptr 6 0 0), (6, .ptr 1 0 0), (14, .ptr 5 1 0), (15, I x55), (16, .ptr 6 0 0), (166, A v13.fColumns), (167, I ((v13.fColumns.length : Int))), (168, I x55)], [some ⟨0, eL a2⟩, some ⟨0, Enc.cells ((T_impl_made.mk [] 0))⟩, some ⟨1, Enc.cells v11⟩, some ⟨1, Enc.cells v13⟩, some ⟨0, eL x56⟩, some ⟨1, [.ref 4 0 0 2 x56.length false, I ({ ((T_impl_made.mk [] 0)) with fMost := (w64 (v11.fMost + v13.fMost)) }.fMost)]⟩, some ⟨0, Enc.cells v60⟩]⟩) τ_ok [6, 8, 9, 10, 13, 14, 16] [4] 1 (by exact (And.intro (.inl (eL_frz _)) trivial)) (by kernel_rfl) ?_
                        refine qA_E (dd := some 180) (x := I v62.fKind) ([none, none, none, none, some ⟨0, eL x56⟩, none, none]) (⟨201, [(180, I v62.fKind), (179, .ptr 4 0 (x55.toNat * 2)), (178, .ptr 4 0 (x55.toNat * 2)), (177, I x55), (176, .ref 4 0 0 2 x56.length false), (175, .ptr 5 1 0), (174, I v60.fKind), (173, .ptr 6 0 0), (6, .ptr 1 0 0), (14, .ptr 5 1 0), (15, I x55), (16, .ptr 6 0 0), (166, A v13.fColumns), (167, I ((v13.fColumns.length : Int))), (168, I x55)], [some ⟨0, eL a2⟩, some ⟨0, Enc.cells ((T_impl_made.mk [] 0))⟩, some ⟨1, Enc.cells v11⟩, some ⟨1, Enc.cells v13⟩, some ⟨0, eL x56⟩, some ⟨1, [.ref 4 0 0 2 x56.length false, I ({ ((T_impl_made.mk [] 0)) with fMost := (w64 (v11.fMost + v13.fMost)) }.fMost)]⟩, some ⟨0, Enc.cells v60⟩]⟩) (fun Γ' hΓ => CoreE.of_y (ldeV_sound (t := 3) (o' := 0) (r := I v62.fKind) τ_ok hv63 (by kernel_rfl) (by kernel_rfl))) (by kernel_rfl) (by kernel_rfl) (by exact (And.intro (.inl (eL_frz _)) trivial)) (.inr (.inr rfl)) (by kernel_rfl) ?_
                        refine qA_ev (st' := ⟨201, [(181, B ((!(v60.fKind == v62.fKind)))), (180, I v62.fKind), (179, .ptr 4 0 (x55.toNat * 2)), (178, .ptr 4 0 (x55.toNat * 2)), (177, I x55), (176, .ref 4 0 0 2 x56.length false), (175, .ptr 5 1 0), (174, I v60.fKind), (173, .ptr 6 0 0), (6, .ptr 1 0 0), (14, .ptr 5 1 0), (15, I x55), (16, .ptr 6 0 0), (166, A v13.fColumns), (167, I ((v13.fColumns.length : Int))), (168, I x55)], [some ⟨0, eL a2⟩, some ⟨0, Enc.cells ((T_impl_made.mk [] 0))⟩, some ⟨1, Enc.cells v11⟩, some ⟨1, Enc.cells v13⟩, some ⟨0, eL x56⟩, some ⟨1, [.ref 4 0 0 2 x56.length false, I ({ ((T_impl_made.mk [] 0)) with fMost := (w64 (v11.fMost + v13.fMost)) }.fMost)]⟩, some ⟨0, Enc.cells v60⟩]⟩) τ_ok [6, 8, 9, 10, 13, 14, 16] [] 1 (by exact trivial) (by kernel_rfl) ?_
                        refine qA_end ?_
                        refine opsP_imp (Imp.to (st' := ⟨201, [(6, .ptr 1 0 0), (14, .ptr 5 1 0), (15, I x55), (16, .ptr 6 0 0), (166, A v13.fColumns), (167, I ((v13.fColumns.length : Int))), (168, I x55), (181, B ((!(v60.fKind == v62.fKind))))], [some ⟨0, eL a2⟩, some ⟨0, Enc.cells ((T_impl_made.mk [] 0))⟩, some ⟨1, Enc.cells v11⟩, some ⟨1, Enc.cells v13⟩, some ⟨0, eL x56⟩, some ⟨1, [.ref 4 0 0 2 x56.length false, I ({ ((T_impl_made.mk [] 0)) with fMost := (w64 (v11.fMost + v13.fMost)) }.fMost)]⟩, some ⟨0, Enc.cells v60⟩]⟩) [6, 14, 15, 16, 166, 167, 168, 181] (by kernel_rfl)) ?_
                        refine opsP_end rfl ?_
                        refine pwp_cond ((!(v60.fKind == v62.fKind))) (by kernel_rfl) (fun hc64 => ?_) (fun hc64 => ?_)
                        · replace h := bifT hc64 h
                          refine pwp_seq ?_
                          refine pwp_region ?_
                          refine opsP_evk' (st' := ⟨201, [(6, .ptr 1 0 0), (7, B false)], [some ⟨0, eL a2⟩, some ⟨0, Enc.cells ((T_impl_made.mk [] 0))⟩, some ⟨1, Enc.cells v11⟩, some ⟨1, Enc.cells v13⟩, some ⟨0, eL x56⟩, some ⟨1, [.ref 4 0 0 2 x56.length false, I ({ ((T_impl_made.mk [] 0)) with fMost := (w64 (v11.fMost + v13.fMost)) }.fMost)]⟩, some ⟨0, Enc.cells v60⟩]⟩) τ_ok [6, 8, 9, 10, 13, 14, 16] 3 [6, 7] (by kernel_rfl) ?_
                          refine opsP_end rfl ?_
                          have h := Option.some.inj h
                          subst h
                          exact pwp_ret ⟨.inr rfl, .tup [E ((T_impl_made.mk [] 0)), B false], _, 0, by kernel_rfl, (OutP.tup (OutL.cons (OutP.frz (by kernel_rfl)) (OutL.cons (OutP.frz (by kernel_rfl)) (OutL.nil _)))), by decide, by decide, by kernel_rfl⟩
                        · replace h := bifF hc64 h
                          refine pwp_skip ?_
                          refine pwp_imp (Imp.to (st' := ⟨201, [(6, .ptr 1 0 0), (14, .ptr 5 1 0), (15, I x55), (16, .ptr 6 0 0), (166, A v13.fColumns), (167, I ((v13.fColumns.length : Int))), (168, I x55)], [some ⟨0, eL a2⟩, some ⟨0, Enc.cells ((T_impl_made.mk [] 0))⟩, some ⟨1, Enc.cells v11⟩, some ⟨1, Enc.cells v13⟩, some ⟨0, eL x56⟩, some ⟨1, [.ref 4 0 0 2 x56.length false, I ({ ((T_impl_made.mk [] 0)) with fMost := (w64 (v11.fMost + v13.fMost)) }.fMost)]⟩, some ⟨0, Enc.cells v60⟩]⟩) [6, 14, 15, 16, 166, 167, 168] (by kernel_rfl)) ?_
                          refine pwp_any ([[4, 5], [4, 5], [], [4, 5], [4, 5], [], [4], [4], [4], [], [6], [6], [], [4], [4], [4]]) ([[], [], [], [], [], [], [], [], [], [], [], [], [], [], [], [4]]) rfl (by kernel_rfl) ?_
                          refine qA_ev (st' := ⟨201, [(184, .ref 4 0 0 2 x56.length false), (183, .ptr 5 1 0), (6, .ptr 1 0 0), (14, .ptr 5 1 0), (15, I x55), (16, .ptr 6 0 0), (166, A v13.fColumns), (167, I ((v13.fColumns.length : Int))), (168, I x55)], [some ⟨0, eL a2⟩, some ⟨0, Enc.cells ((T_impl_made.mk [] 0))⟩, some ⟨1, Enc.cells v11⟩, some ⟨1, Enc.cells v13⟩, some ⟨0, eL x56⟩, some ⟨1, [.ref 4 0 0 2 x56.length false, I ({ ((T_impl_made.mk [] 0)) with fMost := (w64 (v11.fMost + v13.fMost)) }.fMost)]⟩, some ⟨0, Enc.cells v60⟩]⟩) τ_ok [6, 8, 9, 10, 13, 14, 16] [4, 5] 2 (by exact (And.intro (.inl (eL_frz _)) (And.intro (.inr rfl) trivial))) (by kernel_rfl) ?_
                          refine qA_ev (st' := ⟨201, [(185, I x55), (184, .ref 4 0 0 2 x56.length false), (183, .ptr 5 1 0), (6, .ptr 1 0 0), (14, .ptr 5 1 0), (15, I x55), (16, .ptr 6 0 0), (166, A v13.fColumns), (167, I ((v13.fColumns.length : Int))), (168, I x55)], [some ⟨0, eL a2⟩, some ⟨0, Enc.cells ((T_impl_made.mk [] 0))⟩, some ⟨1, Enc.cells v11⟩, some ⟨1, Enc.cells v13⟩, some ⟨0, eL x56⟩, some ⟨1, [.ref 4 0 0 2 x56.length false, I ({ ((T_impl_made.mk [] 0)) with fMost := (w64 (v11.fMost + v13.fMost)) }.fMost)]⟩, some ⟨0, Enc.cells v60⟩]⟩) τ_ok [6, 8, 9, 10, 13, 14, 16] [] 1 (by exact trivial) (by kernel_rfl) ?_
                          refine qA_ev (st' := ⟨201, [(187, .ref 4 0 0 2 x56.length false), (186, .ptr 5 1 0), (185, I x55), (184, .ref 4 0 0 2 x56.length false), (183, .ptr 5 1 0), (6, .ptr 1 0 0), (14, .ptr 5 1 0), (15, I x55), (16, .ptr 6 0 0), (166, A v13.fColumns), (167, I ((v13.fColumns.length : Int))), (168, I x55)], [some ⟨0, eL a2⟩, some ⟨0, Enc.cells ((T_impl_made.mk [] 0))⟩, some ⟨1, Enc.cells v11⟩, some ⟨1, Enc.cells v13⟩, some ⟨0, eL x56⟩, some ⟨1, [.ref 4 0 0 2 x56.length false, I ({ ((T_impl_made.mk [] 0)) with fMost := (w64 (v11.fMost + v13.fMost)) }.fMost)]⟩, some ⟨0, Enc.cells v60⟩]⟩) τ_ok [6, 8, 9, 10, 13, 14, 16] [4, 5] 2 (by exact (And.intro (.inl (eL_frz _)) (And.intro (.inr rfl) trivial))) (by kernel_rfl) ?_
                          refine qA_ev (st' := ⟨201, [(188, I x55), (187, .ref 4 0 0 2 x56.length false), (186, .ptr 5 1 0), (185, I x55), (184, .ref 4 0 0 2 x56.length false), (183, .ptr 5 1 0), (6, .ptr 1 0 0), (14, .ptr 5 1 0), (15, I x55), (16, .ptr 6 0 0), (166, A v13.fColumns), (167, I ((v13.fColumns.length : Int))), (168, I x55)], [some ⟨0, eL a2⟩, some ⟨0, Enc.cells ((T_impl_made.mk [] 0))⟩, some ⟨1, Enc.cells v11⟩, some ⟨1, Enc.cells v13⟩, some ⟨0, eL x56⟩, some ⟨1, [.ref 4 0 0 2 x56.length false, I ({ ((T_impl_made.mk [] 0)) with fMost := (w64 (v11.fMost + v13.fMost)) }.fMost)]⟩, some ⟨0, Enc.cells v60⟩]⟩) τ_ok [6, 8, 9, 10, 13, 14, 16] [] 1 (by exact trivial) (by kernel_rfl) ?_
                          obtain ⟨v65, hv66, h⟩ := bindS h
                          refine qA_E (dd := some 189) (x := .ptr 4 0 (x55.toNat * 2)) ([none, none, none, none, some ⟨0, eL x56⟩, none, none]) (⟨201, [(189, .ptr 4 0 (x55.toNat * 2)), (188, I x55), (187, .ref 4 0 0 2 x56.length false), (186, .ptr 5 1 0), (185, I x55), (184, .ref 4 0 0 2 x56.length false), (183, .ptr 5 1 0), (6, .ptr 1 0 0), (14, .ptr 5 1 0), (15, I x55), (16, .ptr 6 0 0), (166, A v13.fColumns), (167, I ((v13.fColumns.length : Int))), (168, I x55)], [some ⟨0, eL a2⟩, some ⟨0, Enc.cells ((T_impl_made.mk [] 0))⟩, some ⟨1, Enc.cells v11⟩, some ⟨1, Enc.cells v13⟩, some ⟨0, eL x56⟩, some ⟨1, [.ref 4 0 0 2 x56.length false, I ({ ((T_impl_made.mk [] 0)) with fMost := (w64 (v11.fMost + v13.fMost)) }.fMost)]⟩, some ⟨0, Enc.cells v60⟩]⟩) (fun Γ' hΓ => CoreE.of_y (idrV_sound (n := x56.length) τ_ok (by kernel_rfl) hv66 rfl)) (by kernel_rfl) (by kernel_rfl) (by exact (And.intro (.inl (eL_frz _)) trivial)) (.inr (.inl rfl)) (by kernel_rfl) ?_
                          refine qA_ev (st' := ⟨201, [(190, .ptr 4 0 (x55.toNat * 2 + 1)), (189, .ptr 4 0 (x55.toNat * 2)), (188, I x55), (187, .ref 4 0 0 2 x56.length false), (186, .ptr 5 1 0), (185, I x55), (184, .ref 4 0 0 2 x56.length false), (183, .ptr 5 1 0), (6, .ptr 1 0 0), (14, .ptr 5 1 0), (15, I x55), (16, .ptr 6 0 0), (166, A v13.fColumns), (167, I ((v13.fColumns.length : Int))), (168, I x55)], [some ⟨0, eL a2⟩, some ⟨0, Enc.cells ((T_impl_made.mk [] 0))⟩, some ⟨1, Enc.cells v11⟩, some ⟨1, Enc.cells v13⟩, some ⟨0, eL x56⟩, some ⟨1, [.ref 4 0 0 2 x56.length false, I ({ ((T_impl_made.mk [] 0)) with fMost := (w64 (v11.fMost + v13.fMost)) }.fMost)]⟩, some ⟨0, Enc.cells v60⟩]⟩) τ_ok [6, 8, 9, 10, 13, 14, 16] [4] 1 (by exact (And.intro (.inl (eL_frz _)) trivial)) (by kernel_rfl) ?_
                          refine qA_E (dd := some 191) (x := B v65.fEmpty) ([none, none, none, none, some ⟨0, eL x56⟩, none, none]) (⟨201, [(191, B v65.fEmpty), (190, .ptr 4 0 (x55.toNat * 2 + 1)), (189, .ptr 4 0 (x55.toNat * 2)), (188, I x55), (187, .ref 4 0 0 2 x56.length false), (186, .ptr 5 1 0), (185, I x55), (184, .ref 4 0 0 2 x56.length false), (183, .ptr 5 1 0), (6, .ptr 1 0 0), (14, .ptr 5 1 0), (15, I x55), (16, .ptr 6 0 0), (166, A v13.fColumns), (167, I ((v13.fColumns.length : Int))), (168, I x55)], [some ⟨0, eL a2⟩, some ⟨0, Enc.cells ((T_impl_made.mk [] 0))⟩, some ⟨1, Enc.cells v11⟩, some ⟨1, Enc.cells v13⟩, some ⟨0, eL x56⟩, some ⟨1, [.ref 4 0 0 2 x56.length false, I ({ ((T_impl_made.mk [] 0)) with fMost := (w64 (v11.fMost + v13.fMost)) }.fMost)]⟩, some ⟨0, Enc.cells v60⟩]⟩) (fun Γ' hΓ => CoreE.of_y (ldeV_sound (t := 4) (o' := 1) (r := B v65.fEmpty) τ_ok hv66 (by kernel_rfl) (by kernel_rfl))) (by kernel_rfl) (by kernel_rfl) (by exact (And.intro (.inl (eL_frz _)) trivial)) (.inr (.inr rfl)) (by kernel_rfl) ?_
                          refine qA_ev (st' := ⟨201, [(192, B v65.fEmpty), (191, B v65.fEmpty), (190, .ptr 4 0 (x55.toNat * 2 + 1)), (189, .ptr 4 0 (x55.toNat * 2)), (188, I x55), (187, .ref 4 0 0 2 x56.length false), (186, .ptr 5 1 0), (185, I x55), (184, .ref 4 0 0 2 x56.length false), (183, .ptr 5 1 0), (6, .ptr 1 0 0), (14, .ptr 5 1 0), (15, I x55), (16, .ptr 6 0 0), (166, A v13.fColumns), (167, I ((v13.fColumns.length : Int))), (168, I x55)], [some ⟨0, eL a2⟩, some ⟨0, Enc.cells ((T_impl_made.mk [] 0))⟩, some ⟨1, Enc.cells v11⟩, some ⟨1, Enc.cells v13⟩, some ⟨0, eL x56⟩, some ⟨1, [.ref 4 0 0 2 x56.length false, I ({ ((T_impl_made.mk [] 0)) with fMost := (w64 (v11.fMost + v13.fMost)) }.fMost)]⟩, some ⟨0, Enc.cells v60⟩]⟩) τ_ok [6, 8, 9, 10, 13, 14, 16] [] 1 (by exact trivial) (by kernel_rfl) ?_
                          rcases Bool.eq_false_or_eq_true v65.fEmpty with hc71 | hc71
                          · replace h := bifT hc71 h
                            rw [hc71]
                            refine qA_ev (st' := ⟨201, [(194, .lit undef), (193, .lit undef), (192, B true), (191, B true), (190, .ptr 4 0 (x55.toNat * 2 + 1)), (189, .ptr 4 0 (x55.toNat * 2)), (188, I x55), (187, .ref 4 0 0 2 x56.length false), (186, .ptr 5 1 0), (185, I x55), (184, .ref 4 0 0 2 x56.length false), (183, .ptr 5 1 0), (6, .ptr 1 0 0), (14, .ptr 5 1 0), (15, I x55), (16, .ptr 6 0 0), (166, A v13.fColumns), (167, I ((v13.fColumns.length : Int))), (168, I x55)], [some ⟨0, eL a2⟩, some ⟨0, Enc.cells ((T_impl_made.mk [] 0))⟩, some ⟨1, Enc.cells v11⟩, some ⟨1, Enc.cells v13⟩, some ⟨0, eL x56⟩, some ⟨1, [.ref 4 0 0 2 x56.length false, I ({ ((T_impl_made.mk [] 0)) with fMost := (w64 (v11.fMost + v13.fMost)) }.fMost)]⟩, some ⟨0, Enc.cells v60⟩]⟩) τ_ok [6, 8, 9, 10, 13, 14, 16] [6] 2 (by exact (And.intro (.inl (Enc.frz _)) trivial)) (by kernel_rfl) ?_
                            refine qA_ev (st' := ⟨201, [(195, B true), (194, .lit undef), (193, .lit undef), (192, B true), (191, B true), (190, .ptr 4 0 (x55.toNat * 2 + 1)), (189, .ptr 4 0 (x55.toNat * 2)), (188, I x55), (187, .ref 4 0 0 2 x56.length false), (186, .ptr 5 1 0), (185, I x55), (184, .ref 4 0 0 2 x56.length false), (183, .ptr 5 1 0), (6, .ptr 1 0 0), (14, .ptr 5 1 0), (15, I x55), (16, .ptr 6 0 0), (166, A v13.fColumns), (167, I ((v13.fColumns.length : Int))), (168, I x55)], [some ⟨0, eL a2⟩, some ⟨0, Enc.cells ((T_impl_made.mk [] 0))⟩, some ⟨1, Enc.cells v11⟩, some ⟨1, Enc.cells v13⟩, some ⟨0, eL x56⟩, some ⟨1, [.ref 4 0 0 2 x56.length false, I ({ ((T_impl_made.mk [] 0)) with fMost := (w64 (v11.fMost + v13.fMost)) }.fMost)]⟩, some ⟨0, Enc.cells v60⟩]⟩) τ_ok [6, 8, 9, 10, 13, 14, 16] [] 1 (by exact trivial) (by kernel_rfl) ?_
                            obtain ⟨v67, hv68, h⟩ := bindS h
                            refine qA_E (dd := some 196) (x := .ptr 4 0 (x55.toNat * 2)) ([none, none, none, none, some ⟨0, eL x56⟩, none, none]) (⟨201, [(196, .ptr 4 0 (x55.toNat * 2)), (195, B true), (194, .lit undef), (193, .lit undef), (192, B true), (191, B true), (190, .ptr 4 0 (x55.toNat * 2 + 1)), (189, .ptr 4 0 (x55.toNat * 2)), (188, I x55), (187, .ref 4 0 0 2 x56.length false), (186, .ptr 5 1 0), (185, I x55), (184, .ref 4 0 0 2 x56.length false), (183, .ptr 5 1 0), (6, .ptr 1 0 0), (14, .ptr 5 1 0), (15, I x55), (16, .ptr 6 0 0), (166, A v13.fColumns), (167, I ((v13.fColumns.length : Int))), (168, I x55)], [some ⟨0, eL a2⟩, some ⟨0, Enc.cells ((T_impl_made.mk [] 0))⟩, some ⟨1, Enc.cells v11⟩, some ⟨1, Enc.cells v13⟩, some ⟨0, eL x56⟩, some ⟨1, [.ref 4 0 0 2 x56.length false, I ({ ((T_impl_made.mk [] 0)) with fMost := (w64 (v11.fMost + v13.fMost)) }.fMost)]⟩, some ⟨0, Enc.cells v60⟩]⟩) (fun Γ' hΓ => CoreE.of_y (idrV_sound (n := x56.length) τ_ok (by kernel_rfl) hv68 rfl)) (by kernel_rfl) (by kernel_rfl) (by exact (And.intro (.inl (eL_frz _)) trivial)) (.inr (.inl rfl)) (by kernel_rfl) ?_
                            refine qA_ev (st' := ⟨201, [(197, .ptr 4 0 (x55.toNat * 2 + 1)), (196, .ptr 4 0 (x55.toNat * 2)), (195, B true), (194, .lit undef), (193, .lit undef), (192, B true), (191, B true), (190, .ptr 4 0 (x55.toNat * 2 + 1)), (189, .ptr 4 0 (x55.toNat * 2)), (188, I x55), (187, .ref 4 0 0 2 x56.length false), (186, .ptr 5 1 0), (185, I x55), (184, .ref 4 0 0 2 x56.length false), (183, .ptr 5 1 0), (6, .ptr 1 0 0), (14, .ptr 5 1 0), (15, I x55), (16, .ptr 6 0 0), (166, A v13.fColumns), (167, I ((v13.fColumns.length : Int))), (168, I x55)], [some ⟨0, eL a2⟩, some ⟨0, Enc.cells ((T_impl_made.mk [] 0))⟩, some ⟨1, Enc.cells v11⟩, some ⟨1, Enc.cells v13⟩, some ⟨0, eL x56⟩, some ⟨1, [.ref 4 0 0 2 x56.length false, I ({ ((T_impl_made.mk [] 0)) with fMost := (w64 (v11.fMost + v13.fMost)) }.fMost)]⟩, some ⟨0, Enc.cells v60⟩]⟩) τ_ok [6, 8, 9, 10, 13, 14, 16] [4] 1 (by exact (And.intro (.inl (eL_frz _)) trivial)) (by kernel_rfl) ?_
                            refine qA_E (dd := none) (x := .any) ([none, none, none, none, some ⟨0, eL ((x56.set x55.toNat (({ v67 with fEmpty := true } : T_impl_Column))))⟩, none, none]) (⟨201, [(197, .ptr 4 0 (x55.toNat * 2 + 1)), (196, .ptr 4 0 (x55.toNat * 2)), (195, B true), (194, .lit undef), (193, .lit undef), (192, B true), (191, B true), (190, .ptr 4 0 (x55.toNat * 2 + 1)), (189, .ptr 4 0 (x55.toNat * 2)), (188, I x55), (187, .ref 4 0 0 2 x56.length false), (186, .ptr 5 1 0), (185, I x55), (184, .ref 4 0 0 2 x56.length false), (183, .ptr 5 1 0), (6, .ptr 1 0 0), (14, .ptr 5 1 0), (15, I x55), (16, .ptr 6 0 0), (166, A v13.fColumns), (167, I ((v13.fColumns.length : Int))), (168, I x55)], [some ⟨0, eL a2⟩, some ⟨0, Enc.cells ((T_impl_made.mk [] 0))⟩, some ⟨1, Enc.cells v11⟩, some ⟨1, Enc.cells v13⟩, some ⟨0, eL ((x56.set x55.toNat (({ v67 with fEmpty := true } : T_impl_Column))))⟩, some ⟨1, [.ref 4 0 0 2 x56.length false, I ({ ((T_impl_made.mk [] 0)) with fMost := (w64 (v11.fMost + v13.fMost)) }.fMost)]⟩, some ⟨0, Enc.cells v60⟩]⟩) (fun Γ' hΓ => ste_E (vs := [B true]) τ_ok 4 4 0 1 (({ v67 with fEmpty := true } : T_impl_Column)) hv68 (by kernel_rfl) (by kernel_rfl) (by kernel_rfl)) (by kernel_rfl) (by kernel_rfl) (by exact (And.intro (.inl (eL_frz _)) trivial)) (.inl rfl) (by kernel_rfl) ?_
                            refine qA_ren (st' := ⟨201, [(197, .ptr 4 0 (x55.toNat * 2 + 1)), (196, .ptr 4 0 (x55.toNat * 2)), (195, B true), (194, .lit undef), (193, .lit undef), (192, B true), (191, B true), (190, .ptr 4 0 (x55.toNat * 2 + 1)), (189, .ptr 4 0 (x55.toNat * 2)), (188, I x55), (187, .ref 4 0 0 2 ((x56.set x55.toNat (({ v67 with fEmpty := true } : T_impl_Column)))).length false), (186, .ptr 5 1 0), (185, I x55), (184, .ref 4 0 0 2 ((x56.set x55.toNat (({ v67 with fEmpty := true } : T_impl_Column)))).length false), (183, .ptr 5 1 0), (6, .ptr 1 0 0), (14, .ptr 5 1 0), (15, I x55), (16, .ptr 6 0 0), (166, A v13.fColumns), (167, I ((v13.fColumns.length : Int))), (168, I x55)], [some ⟨0, eL a2⟩, some ⟨0, Enc.cells ((T_impl_made.mk [] 0))⟩, some ⟨1, Enc.cells v11⟩, some ⟨1, Enc.cells v13⟩, some ⟨0, eL ((x56.set x55.toNat (({ v67 with fEmpty := true } : T_impl_Column))))⟩, some ⟨1, [.ref 4 0 0 2 x56.length false, I ({ ((T_impl_made.mk [] 0)) with fMost := (w64 (v11.fMost + v13.fMost)) }.fMost)]⟩, some ⟨0, Enc.cells v60⟩]⟩) 4 ((x56.set x55.toNat (({ v67 with fEmpty := true } : T_impl_Column)))).length (renC trivial (renC trivial (renC trivial (renC trivial (renC trivial (renC trivial (renC trivial (renC trivial (renC trivial (renC trivial (renC (ren_ref (List.length_set ..).symm) (renC trivial (renC trivial (renC (ren_ref (List.length_set ..).symm) (renC trivial (renC trivial (renC trivial (renC trivial (renC trivial (renC trivial (renC trivial (renC trivial renC0)))))))))))))))))))))) (by kernel_rfl) ?_
                            refine qA_of_eq (st' := ⟨201, [(197, .ptr 4 0 (x55.toNat * 2 + 1)), (196, .ptr 4 0 (x55.toNat * 2)), (195, B true), (194, .lit undef), (193, .lit undef), (192, B true), (191, B true), (190, .ptr 4 0 (x55.toNat * 2 + 1)), (189, .ptr 4 0 (x55.toNat * 2)), (188, I x55), (187, .ref 4 0 0 2 ((x56.set x55.toNat (({ v67 with fEmpty := true } : T_impl_Column)))).length false), (186, .ptr 5 1 0), (185, I x55), (184, .ref 4 0 0 2 ((x56.set x55.toNat (({ v67 with fEmpty := true } : T_impl_Column)))).length false), (183, .ptr 5 1 0), (6, .ptr 1 0 0), (14, .ptr 5 1 0), (15, I x55), (16, .ptr 6 0 0), (166, A v13.fColumns), (167, I ((v13.fColumns.length : Int))), (168, I x55)], [some ⟨0, eL a2⟩, some ⟨0, Enc.cells ((T_impl_made.mk [] 0))⟩, some ⟨1, Enc.cells v11⟩, some ⟨1, Enc.cells v13⟩, some ⟨0, eL ((x56.set x55.toNat (({ v67 with fEmpty := true } : T_impl_Column))))⟩, some ⟨1, [.ref 4 0 0 2 ((x56.set x55.toNat (({ v67 with fEmpty := true } : T_impl_Column)))).length false, I ({ ((T_impl_made.mk [] 0)) with fMost := (w64 (v11.fMost + v13.fMost)) }.fMost)]⟩, some ⟨0, Enc.cells v60⟩]⟩) (by simp only [List.length_set]) ?_
                            refine qA_end ?_
                            refine opsP_imp (Imp.to (st' := ⟨201, [(6, .ptr 1 0 0), (14, .ptr 5 1 0), (166, A v13.fColumns), (167, I ((v13.fColumns.length : Int))), (168, I x55), (193, .lit undef), (194, .lit undef)], [some ⟨0, eL a2⟩, some ⟨0, Enc.cells ((T_impl_made.mk [] 0))⟩, some ⟨1, Enc.cells v11⟩, some ⟨1, Enc.cells v13⟩, some ⟨0, eL ((x56.set x55.toNat (({ v67 with fEmpty := true } : T_impl_Column))))⟩, some ⟨1, [.ref 4 0 0 2 ((x56.set x55.toNat (({ v67 with fEmpty := true } : T_impl_Column)))).length false, I ({ ((T_impl_made.mk [] 0)) with fMost := (w64 (v11.fMost + v13.fMost)) }.fMost)]⟩, some ⟨0, Enc.cells v60⟩]⟩) [6, 14, 166, 167, 168, 193, 194] (by kernel_rfl)) ?_
                            refine opsP_end rfl ?_
                            refine pwp_region ?_
                            refine opsP_evk' (st' := ⟨201, [(6, .ptr 1 0 0), (14, .ptr 5 1 0), (166, A v13.fColumns), (167, I ((v13.fColumns.length : Int))), (168, I ((w64 (x55 + 1)))), (193, .lit undef), (194, .lit undef)], [some ⟨0, eL a2⟩, some ⟨0, Enc.cells ((T_impl_made.mk [] 0))⟩, some ⟨1, Enc.cells v11⟩, some ⟨1, Enc.cells v13⟩, some ⟨0, eL ((x56.set x55.toNat (({ v67 with fEmpty := true } : T_impl_Column))))⟩, some ⟨1, [.ref 4 0 0 2 ((x56.set x55.toNat (({ v67 with fEmpty := true } : T_impl_Column)))).length false, I ({ ((T_impl_made.mk [] 0)) with fMost := (w64 (v11.fMost + v13.fMost)) }.fMost)]⟩, some ⟨0, Enc.cells v60⟩]⟩) τ_ok [6, 8, 9, 10, 13, 14, 16] 2 [6, 14, 166, 167, 168, 193, 194] (by kernel_rfl) ?_
                            refine opsP_end rfl ?_
                            exact ⟨(f57, (w64 (x55 + 1)), (x56.set x55.toNat (({ v67 with fEmpty := true } : T_impl_Column)))), h, Nat.lt_succ_self _, (Imp.to (st' := ⟨201, [(6, .ptr 1 0 0), (14, .ptr 5 1 0), (166, A v13.fColumns), (167, I ((v13.fColumns.length : Int))), (168, I ((w64 (x55 + 1))))], [some ⟨0, eL a2⟩, some ⟨0, Enc.cells ((T_impl_made.mk [] 0))⟩, some ⟨1, Enc.cells v11⟩, some ⟨1, Enc.cells v13⟩, some ⟨0, eL ((x56.set x55.toNat (({ v67 with fEmpty := true } : T_impl_Column))))⟩, some ⟨1, [.ref 4 0 0 2 ((x56.set x55.toNat (({ v67 with fEmpty := true } : T_impl_Column)))).length false, I ({ ((T_impl_made.mk [] 0)) with fMost := (w64 (v11.fMost + v13.fMost)) }.fMost)]⟩, some ⟨0, Enc.cells v60⟩]⟩) [6, 14, 166, 167, 168] (by kernel_rfl)).trans ((Imp.truncS (st' := ⟨201, [(6, .ptr 1 0 0), (14, .ptr 5 1 0), (166, A v13.fColumns), (167, I ((v13.fColumns.length : Int))), (168, I ((w64 (x55 + 1))))], [some ⟨0, eL a2⟩, some ⟨0, Enc.cells ((T_impl_made.mk [] 0))⟩, some ⟨1, Enc.cells v11⟩, some ⟨1, Enc.cells v13⟩, some ⟨0, eL ((x56.set x55.toNat (({ v67 with fEmpty := true } : T_impl_Column))))⟩, some ⟨1, [.ref 4 0 0 2 ((x56.set x55.toNat (({ v67 with fEmpty := true } : T_impl_Column)))).length false, I ({ ((T_impl_made.mk [] 0)) with fMost := (w64 (v11.fMost + v13.fMost)) }.fMost)]⟩]⟩) 6 (fun _ _ => by decide) (by kernel_rfl) (allBelow_mem (by exact (And.intro rfl (And.intro rfl (And.intro rfl (And.intro rfl (And.intro rfl trivial))))))) (by exact (And.intro (frz_below (eL_frz _)) (And.intro (rfl) (And.intro (rfl) (And.intro (rfl) (And.intro (frz_below (eL_frz _)) (And.intro (rfl) trivial))))))) (by kernel_rfl)).trans (Imp.to [6, 14, 166, 167, 168] (by kernel_rfl)))⟩
                          · replace h := bifF hc71 h
                            rw [hc71]
                            refine qA_ev (st' := ⟨201, [(194, B v60.fEmpty), (193, .ptr 6 0 1), (192, B false), (191, B false), (190, .ptr 4 0 (x55.toNat * 2 + 1)), (189, .ptr 4 0 (x55.toNat * 2)), (188, I x55), (187, .ref 4 0 0 2 x56.length false), (186, .ptr 5 1 0), (185, I x55), (184, .ref 4 0 0 2 x56.length false), (183, .ptr 5 1 0), (6, .ptr 1 0 0), (14, .ptr 5 1 0), (15, I x55), (16, .ptr 6 0 0), (166, A v13.fColumns), (167, I ((v13.fColumns.length : Int))), (168, I x55)], [some ⟨0, eL a2⟩, some ⟨0, Enc.cells ((T_impl_made.mk [] 0))⟩, some ⟨1, Enc.cells v11⟩, some ⟨1, Enc.cells v13⟩, some ⟨0, eL x56⟩, some ⟨1, [.ref 4 0 0 2 x56.length false, I ({ ((T_impl_made.mk [] 0)) with fMost := (w64 (v11.fMost + v13.fMost)) }.fMost)]⟩, some ⟨0, Enc.cells v60⟩]⟩) τ_ok [6, 8, 9, 10, 13, 14, 16] [6] 2 (by exact (And.intro (.inl (Enc.frz _)) trivial)) (by kernel_rfl) ?_
                            refine qA_ev (st' := ⟨201, [(195, B v60.fEmpty), (194, B v60.fEmpty), (193, .ptr 6 0 1), (192, B false), (191, B false), (190, .ptr 4 0 (x55.toNat * 2 + 1)), (189, .ptr 4 0 (x55.toNat * 2)), (188, I x55), (187, .ref 4 0 0 2 x56.length false), (186, .ptr 5 1 0), (185, I x55), (184, .ref 4 0 0 2 x56.length false), (183, .ptr 5 1 0), (6, .ptr 1 0 0), (14, .ptr 5 1 0), (15, I x55), (16, .ptr 6 0 0), (166, A v13.fColumns), (167, I ((v13.fColumns.length : Int))), (168, I x55)], [some ⟨0, eL a2⟩, some ⟨0, Enc.cells ((T_impl_made.mk [] 0))⟩, some ⟨1, Enc.cells v11⟩, some ⟨1, Enc.cells v13⟩, some ⟨0, eL x56⟩, some ⟨1, [.ref 4 0 0 2 x56.length false, I ({ ((T_impl_made.mk [] 0)) with fMost := (w64 (v11.fMost + v13.fMost)) }.fMost)]⟩, some ⟨0, Enc.cells v60⟩]⟩) τ_ok [6, 8, 9, 10, 13, 14, 16] [] 1 (by exact trivial) (by kernel_rfl) ?_
                            obtain ⟨v69, hv70, h⟩ := bindS h
                            refine qA_E (dd := some 196) (x := .ptr 4 0 (x55.toNat * 2)) ([none, none, none, none, some ⟨0, eL x56⟩, none, none]) (⟨201, [(196, .ptr 4 0 (x55.toNat * 2)), (195, B v60.fEmpty), (194, B v60.fEmpty), (193, .ptr 6 0 1), (192, B false), (191, B false), (190, .ptr 4 0 (x55.toNat * 2 + 1)), (189, .ptr 4 0 (x55.toNat * 2)), (188, I x55), (187, .ref 4 0 0 2 x56.length false), (186, .ptr 5 1 0), (185, I x55), (184, .ref 4 0 0 2 x56.length false), (183, .ptr 5 1 0), (6, .ptr 1 0 0), (14, .ptr 5 1 0), (15, I x55), (16, .ptr 6 0 0), (166, A v13.fColumns), (167, I ((v13.fColumns.length : Int))), (168, I x55)], [some ⟨0, eL a2⟩, some ⟨0, Enc.cells ((T_impl_made.mk [] 0))⟩, some ⟨1, Enc.cells v11⟩, some ⟨1, Enc.cells v13⟩, some ⟨0, eL x56⟩, some ⟨1, [.ref 4 0 0 2 x56.length false, I ({ ((T_impl_made.mk [] 0)) with fMost := (w64 (v11.fMost + v13.fMost)) }.fMost)]⟩, some ⟨0, Enc.cells v60⟩]⟩) (fun Γ' hΓ => CoreE.of_y (idrV_sound (n := x56.length) τ_ok (by kernel_rfl) hv70 rfl)) (by kernel_rfl) (by kernel_rfl) (by exact (And.intro (.inl (eL_frz _)) trivial)) (.inr (.inl rfl)) (by kernel_rfl) ?_
                            refine qA_ev (st' := ⟨201, [(197, .ptr 4 0 (x55.toNat * 2 + 1)), (196, .ptr 4 0 (x55.toNat * 2)), (195, B v60.fEmpty), (194, B v60.fEmpty), (193, .ptr 6 0 1), (192, B false), (191, B false), (190, .ptr 4 0 (x55.toNat * 2 + 1)), (189, .ptr 4 0 (x55.toNat * 2)), (188, I x55), (187, .ref 4 0 0 2 x56.length false), (186, .ptr 5 1 0), (185, I x55), (184, .ref 4 0 0 2 x56.length false), (183, .ptr 5 1 0), (6, .ptr 1 0 0), (14, .ptr 5 1 0), (15, I x55), (16, .ptr 6 0 0), (166, A v13.fColumns), (167, I ((v13.fColumns.length : Int))), (168, I x55)], [some ⟨0, eL a2⟩, some ⟨0, Enc.cells ((T_impl_made.mk [] 0))⟩, some ⟨1, Enc.cells v11⟩, some ⟨1, Enc.cells v13⟩, some ⟨0, eL x56⟩, some ⟨1, [.ref 4 0 0 2 x56.length false, I ({ ((T_impl_made.mk [] 0)) with fMost := (w64 (v11.fMost + v13.fMost)) }.fMost)]⟩, some ⟨0, Enc.cells v60⟩]⟩) τ_ok [6, 8, 9, 10, 13, 14, 16] [4] 1 (by exact (And.intro (.inl (eL_frz _)) trivial)) (by kernel_rfl) ?_
                            refine qA_E (dd := none) (x := .any) ([none, none, none, none, some ⟨0, eL ((x56.set x55.toNat (({ v69 with fEmpty := v60.fEmpty } : T_impl_Column))))⟩, none, none]) (⟨201, [(197, .ptr 4 0 (x55.toNat * 2 + 1)), (196, .ptr 4 0 (x55.toNat * 2)), (195, B v60.fEmpty), (194, B v60.fEmpty), (193, .ptr 6 0 1), (192, B false), (191, B false), (190, .ptr 4 0 (x55.toNat * 2 + 1)), (189, .ptr 4 0 (x55.toNat * 2)), (188, I x55), (187, .ref 4 0 0 2 x56.length false), (186, .ptr 5 1 0), (185, I x55), (184, .ref 4 0 0 2 x56.length false), (183, .ptr 5 1 0), (6, .ptr 1 0 0), (14, .ptr 5 1 0), (15, I x55), (16, .ptr 6 0 0), (166, A v13.fColumns), (167, I ((v13.fColumns.length : Int))), (168, I x55)], [some ⟨0, eL a2⟩, some ⟨0, Enc.cells ((T_impl_made.mk [] 0))⟩, some ⟨1, Enc.cells v11⟩, some ⟨1, Enc.cells v13⟩, some ⟨0, eL ((x56.set x55.toNat (({ v69 with fEmpty := v60.fEmpty } : T_impl_Column))))⟩, some ⟨1, [.ref 4 0 0 2 x56.length false, I ({ ((T_impl_made.mk [] 0)) with fMost := (w64 (v11.fMost + v13.fMost)) }.fMost)]⟩, some ⟨0, Enc.cells v60⟩]⟩) (fun Γ' hΓ => ste_E (vs := [B v60.fEmpty]) τ_ok 4 4 0 1 (({ v69 with fEmpty := v60.fEmpty } : T_impl_Column)) hv70 (by kernel_rfl) (by kernel_rfl) (by kernel_rfl)) (by kernel_rfl) (by kernel_rfl) (by exact (And.intro (.inl (eL_frz _)) trivial)) (.inl rfl) (by kernel_rfl) ?_
                            refine qA_ren (st' := ⟨201, [(197, .ptr 4 0 (x55.toNat * 2 + 1)), (196, .ptr 4 0 (x55.toNat * 2)), (195, B v60.fEmpty), (194, B v60.fEmpty), (193, .ptr 6 0 1), (192, B false), (191, B false), (190, .ptr 4 0 (x55.toNat * 2 + 1)), (189, .ptr 4 0 (x55.toNat * 2)), (188, I x55), (187, .ref 4 0 0 2 ((x56.set x55.toNat (({ v69 with fEmpty := v60.fEmpty } : T_impl_Column)))).length false), (186, .ptr 5 1 0), (185, I x55), (184, .ref 4 0 0 2 ((x56.set x55.toNat (({ v69 with fEmpty := v60.fEmpty } : T_impl_Column)))).length false), (183, .ptr 5 1 0), (6, .ptr 1 0 0), (14, .ptr 5 1 0), (15, I x55), (16, .ptr 6 0 0), (166, A v13.fColumns), (167, I ((v13.fColumns.length : Int))), (168, I x55)], [some ⟨0, eL a2⟩, some ⟨0, Enc.cells ((T_impl_made.mk [] 0))⟩, some ⟨1, Enc.cells v11⟩, some ⟨1, Enc.cells v13⟩, some ⟨0, eL ((x56.set x55.toNat (({ v69 with fEmpty := v60.fEmpty } : T_impl_Column))))⟩, some ⟨1, [.ref 4 0 0 2 x56.length false, I ({ ((T_impl_made.mk [] 0)) with fMost := (w64 (v11.fMost + v13.fMost)) }.fMost)]⟩, some ⟨0, Enc.cells v60⟩]⟩) 4 ((x56.set x55.toNat (({ v69 with fEmpty := v60.fEmpty } : T_impl_Column)))).length (renC trivial (renC trivial (renC trivial (renC trivial (renC trivial (renC trivial (renC trivial (renC trivial (renC trivial (renC trivial (renC (ren_ref (List.length_set ..).symm) (renC trivial (renC trivial (renC (ren_ref (List.length_set ..).symm) (renC trivial (renC trivial (renC trivial (renC trivial (renC trivial (renC trivial (renC trivial (renC trivial renC0)))))))))))))))))))))) (by kernel_rfl) ?_
                            refine qA_of_eq (st' := ⟨201, [(197, .ptr 4 0 (x55.toNat * 2 + 1)), (196, .ptr 4 0 (x55.toNat * 2)), (195, B v60.fEmpty), (194, B v60.fEmpty), (193, .ptr 6 0 1), (192, B false), (191, B false), (190, .ptr 4 0 (x55.toNat * 2 + 1)), (189, .ptr 4 0 (x55.toNat * 2)), (188, I x55), (187, .ref 4 0 0 2 ((x56.set x55.toNat (({ v69 with fEmpty := v60.fEmpty } : T_impl_Column)))).length false), (186, .ptr 5 1 0), (185, I x55), (184, .ref 4 0 0 2 ((x56.set x55.toNat (({ v69 with fEmpty := v60.fEmpty } : T_impl_Column)))).length false), (183, .ptr 5 1 0), (6, .ptr 1 0 0), (14, .ptr 5 1 0), (15, I x55), (16, .ptr 6 0 0), (166, A v13.fColumns), (167, I ((v13.fColumns.length : Int))), (168, I x55)], [some ⟨0, eL a2⟩, some ⟨0, Enc.cells ((T_impl_made.mk [] 0))⟩, some ⟨1, Enc.cells v11⟩, some ⟨1, Enc.cells v13⟩, some ⟨0, eL ((x56.set x55.toNat (({ v69 with fEmpty := v60.fEmpty } : T_impl_Column))))⟩, some ⟨1, [.ref 4 0 0 2 ((x56.set x55.toNat (({ v69 with fEmpty := v60.fEmpty } : T_impl_Column)))).length false, I ({ ((T_impl_made.mk [] 0)) with fMost := (w64 (v11.fMost + v13.fMost)) }.fMost)]⟩, some ⟨0, Enc.cells v60⟩]⟩) (by simp only [List.length_set]) ?_
                            refine qA_end ?_
                            refine opsP_imp (Imp.to (st' := ⟨201, [(6, .ptr 1 0 0), (14, .ptr 5 1 0), (166, A v13.fColumns), (167, I ((v13.fColumns.length : Int))), (168, I x55), (193, .ptr 6 0 1), (194, B v60.fEmpty)], [some ⟨0, eL a2⟩, some ⟨0, Enc.cells ((T_impl_made.mk [] 0))⟩, some ⟨1, Enc.cells v11⟩, some ⟨1, Enc.cells v13⟩, some ⟨0, eL ((x56.set x55.toNat (({ v69 with fEmpty := v60.fEmpty } : T_impl_Column))))⟩, some ⟨1, [.ref 4 0 0 2 ((x56.set x55.toNat (({ v69 with fEmpty := v60.fEmpty } : T_impl_Column)))).length false, I ({ ((T_impl_made.mk [] 0)) with fMost := (w64 (v11.fMost + v13.fMost)) }.fMost)]⟩, some ⟨0, Enc.cells v60⟩]⟩) [6, 14, 166, 167, 168, 193, 194] (by kernel_rfl)) ?_
                            refine opsP_end rfl ?_
                            refine pwp_region ?_
                            refine opsP_evk' (st' := ⟨201, [(6, .ptr 1 0 0), (14, .ptr 5 1 0), (166, A v13.fColumns), (167, I ((v13.fColumns.length : Int))), (168, I ((w64 (x55 + 1)))), (193, .ptr 6 0 1), (194, B v60.fEmpty)], [some ⟨0, eL a2⟩, some ⟨0, Enc.cells ((T_impl_made.mk [] 0))⟩, some ⟨1, Enc.cells v11⟩, some ⟨1, Enc.cells v13⟩, some ⟨0, eL ((x56.set x55.toNat (({ v69 with fEmpty := v60.fEmpty } : T_impl_Column))))⟩, some ⟨1, [.ref 4 0 0 2 ((x56.set x55.toNat (({ v69 with fEmpty := v60.fEmpty } : T_impl_Column)))).length false, I ({ ((T_impl_made.mk [] 0)) with fMost := (w64 (v11.fMost + v13.fMost)) }.fMost)]⟩, some ⟨0, Enc.cells v60⟩]⟩) τ_ok [6, 8, 9, 10, 13, 14, 16] 2 [6, 14, 166, 167, 168, 193, 194] (by kernel_rfl) ?_
                            refine opsP_end rfl ?_
                            exact ⟨(f57, (w64 (x55 + 1)), (x56.set x55.toNat (({ v69 with fEmpty := v60.fEmpty } : T_impl_Column)))), h, Nat.lt_succ_self _, (Imp.to (st' := ⟨201, [(6, .ptr 1 0 0), (14, .ptr 5 1 0), (166, A v13.fColumns), (167, I ((v13.fColumns.length : Int))), (168, I ((w64 (x55 + 1))))], [some ⟨0, eL a2⟩, some ⟨0, Enc.cells ((T_impl_made.mk [] 0))⟩, some ⟨1, Enc.cells v11⟩, some ⟨1, Enc.cells v13⟩, some ⟨0, eL ((x56.set x55.toNat (({ v69 with fEmpty := v60.fEmpty } : T_impl_Column))))⟩, some ⟨1, [.ref 4 0 0 2 ((x56.set x55.toNat (({ v69 with fEmpty := v60.fEmpty } : T_impl_Column)))).length false, I ({ ((T_impl_made.mk [] 0)) with fMost := (w64 (v11.fMost + v13.fMost)) }.fMost)]⟩, some ⟨0, Enc.cells v60⟩]⟩) [6, 14, 166, 167, 168] (by kernel_rfl)).trans ((Imp.truncS (st' := ⟨201, [(6, .ptr 1 0 0), (14, .ptr 5 1 0), (166, A v13.fColumns), (167, I ((v13.fColumns.length : Int))), (168, I ((w64 (x55 + 1))))], [some ⟨0, eL a2⟩, some ⟨0, Enc.cells ((T_impl_made.mk [] 0))⟩, some ⟨1, Enc.cells v11⟩, some ⟨1, Enc.cells v13⟩, some ⟨0, eL ((x56.set x55.toNat (({ v69 with fEmpty := v60.fEmpty } : T_impl_Column))))⟩, some ⟨1, [.ref 4 0 0 2 ((x56.set x55.toNat (({ v69 with fEmpty := v60.fEmpty } : T_impl_Column)))).length false, I ({ ((T_impl_made.mk [] 0)) with fMost := (w64 (v11.fMost + v13.fMost)) }.fMost)]⟩]⟩) 6 (fun _ _ => by decide) (by kernel_rfl) (allBelow_mem (by exact (And.intro rfl (And.intro rfl (And.intro rfl (And.intro rfl (And.intro rfl trivial))))))) (by exact (And.intro (frz_below (eL_frz _)) (And.intro (rfl) (And.intro (rfl) (And.intro (rfl) (And.intro (frz_below (eL_frz _)) (And.intro (rfl) trivial))))))) (by kernel_rfl)).trans (Imp.to [6, 14, 166, 167, 168] (by kernel_rfl)))⟩
                      · replace h := bifF hc59 h
                        refine pwp_exit ?_
                        refine pwp_seq ?_
                        refine pwp_region ?_
                        refine opsP_evk' (st' := ⟨201, [(6, .ptr 1 0 0), (199, .agg [.ref 4 0 0 2 x56.length false, I ({ ((T_impl_made.mk [] 0)) with fMost := (w64 (v11.fMost + v13.fMost)) }.fMost)])], [some ⟨0, eL a2⟩, some ⟨0, Enc.cells ((T_impl_made.mk [] 0))⟩, some ⟨1, Enc.cells v11⟩, some ⟨1, Enc.cells v13⟩, some ⟨0, eL x56⟩, some ⟨1, [.ref 4 0 0 2 x56.length false, I ({ ((T_impl_made.mk [] 0)) with fMost := (w64 (v11.fMost + v13.fMost)) }.fMost)]⟩]⟩) τ_ok [6, 8, 9, 10, 13, 14, 16] 1 [6, 199] (by kernel_rfl) ?_
                        refine opsP_imp ((Imp.freezeB (v := 0) (cs := eL x56) (st' := ⟨201, [(6, .ptr 1 0 0), (199, E ({ ({ ((T_impl_made.mk [] 0)) with fMost := (w64 (v11.fMost + v13.fMost)) }) with fColumns := x56 }))], [some ⟨0, eL a2⟩, some ⟨0, Enc.cells ((T_impl_made.mk [] 0))⟩, some ⟨1, Enc.cells v11⟩, some ⟨1, Enc.cells v13⟩, none, some ⟨1, Enc.cells ({ ({ ((T_impl_made.mk [] 0)) with fMost := (w64 (v11.fMost + v13.fMost)) }) with fColumns := x56 })⟩]⟩) 4 0 (fun _ _ => by decide) (by kernel_rfl) (eL_frz _) (wholeC (whole_noRef (by kernel_rfl)) (wholeC (whole_agg (wholeL (whole_is (eL_len x56).symm) (wholeL (whole_noRef (by kernel_rfl)) wholeL0))) wholeC0)) (HpRel.frz rfl (eL_frz _) (HpRel.frz rfl (Enc.frz _) (HpRel.frz rfl (Enc.frz _) (HpRel.frz rfl (Enc.frz _) (HpRel.key (HpRel.box rfl (CellRel.cons ⟨rfl, (whole_is (eL_len x56).symm), rfl⟩ (CellRel.cons ⟨rfl, trivial, rfl⟩ CellRel.nil)) HpRel.nil)))))) (by kernel_rfl) rfl (fun _ _ => ⟨_, rfl⟩))) ?_
                        refine opsP_evk' (st' := ⟨201, [(6, .ptr 1 0 0), (7, B true)], [some ⟨0, eL a2⟩, some ⟨0, Enc.cells ({ ({ ((T_impl_made.mk [] 0)) with fMost := (w64 (v11.fMost + v13.fMost)) }) with fColumns := x56 })⟩, some ⟨1, Enc.cells v11⟩, some ⟨1, Enc.cells v13⟩, none, some ⟨1, Enc.cells ({ ({ ((T_impl_made.mk [] 0)) with fMost := (w64 (v11.fMost + v13.fMost)) }) with fColumns := x56 })⟩]⟩) τ_ok [6, 8, 9, 10, 13, 14, 16] 2 [6, 7] (by kernel_rfl) ?_
                        refine opsP_end rfl ?_
                        have h := Option.some.inj h
                        subst h
                        exact pwp_ret ⟨.inr rfl, .tup [E ({ ({ ((T_impl_made.mk [] 0)) with fMost := (w64 (v11.fMost + v13.fMost)) }) with fColumns := x56 }), B true], _, 0, by kernel_rfl, (OutP.tup (OutL.cons (OutP.frz (by kernel_rfl)) (OutL.cons (OutP.frz (by kernel_rfl)) (OutL.nil _)))), by decide, by decide, by kernel_rfl⟩
                  · replace h := bifF hc45 h
                    refine pwp_skip ?_
                    refine pwp_seq ?_
                    refine pwp_region ?_
                    refine opsP_evk' (st' := ⟨201, [(6, .ptr 1 0 0), (7, B true)], [some ⟨0, eL a2⟩, some ⟨0, Enc.cells v11⟩, some ⟨1, Enc.cells v11⟩, some ⟨1, Enc.cells v13⟩]⟩) τ_ok [6, 8, 9, 10, 13, 14, 16] 3 [6, 7] (by kernel_rfl) ?_
                    refine opsP_end rfl ?_
                    have h := Option.some.inj h
                    subst h
                    exact pwp_ret ⟨.inr rfl, .tup [E v11, B true], _, 0, by kernel_rfl, (OutP.tup (OutL.cons (OutP.frz (by kernel_rfl)) (OutL.cons (OutP.frz (by kernel_rfl)) (OutL.nil _)))), by decide, by decide, by kernel_rfl⟩

/- loop.example/tablehouse/impl.makes -/
def impl_makes_j2 (x4 : Int) (x5 : List T_impl_made) (K7 : Int → (List T_impl_made) → Option ((List T_impl_made) × Bool)) (v11 : T_impl_made × Bool) (x13 : Bool) : Option ((List T_impl_made) × Bool) := bif x13 then some (([] : List T_impl_made), false) else (app x5 (([v11.1] : List T_impl_made))).bind fun v15 => K7 ((w64 (x4 + 1))) v15
def impl_makes_l1 (a0 : List T_impl_Table) (a1 : List T_impl_Step) : Nat → Int → (List T_impl_made) → Option ((List T_impl_made) × Bool)
  | 0, _, _ => none
  | f6 + 1, x4, x5 => bif (decide (x4 < ((a1.length : Int)))) then (getI a1 x4).bind fun v9 => (impl_Step_make_L2 v9 a0 x5).bind fun v11 => bif (!v11.2) then impl_makes_j2 x4 x5 (impl_makes_l1 a0 a1 f6) v11 true else impl_makes_j2 x4 x5 (impl_makes_l1 a0 a1 f6) v11 ((decide (v11.1.fMost > 300))) else some (x5, true)
def impl_makes_j0 (a0 : List T_impl_Table) (a1 : List T_impl_Step) (x1 : Bool) : Option ((List T_impl_made) × Bool) := bif x1 then some (([] : List T_impl_made), false) else impl_makes_l1 a0 a1 FUEL 0 (([] : List T_impl_made))
def impl_makes (a0 : List T_impl_Table) (a1 : List T_impl_Step) : Option ((List T_impl_made) × Bool) := (impl_TablesOk a0).bind fun v18 => bif (!v18) then impl_makes_j0 a0 a1 true else (impl_between ((a1.length : Int)) 1 6).bind fun v20 => impl_makes_j0 a0 a1 ((!v20))
theorem ok_impl_makes {a0 : List T_impl_Table} {a1 : List T_impl_Step} {y : (List T_impl_made) × Bool} (h : impl_makes a0 a1 = some y) : OK Try.prog 33 [A a0, A a1] (.tup [O y.1, B y.2]) := by
  refine OK_of_pwp τ_ok Try.func33 rfl (by kernel_rfl) rfl fun Γ hX => ?_
  unfold impl_makes at h
  refine pwp_seq ?_
  refine pwp_region ?_
  refine opsP_evk' (st' := ⟨46, [(0, A a0), (1, A a1)], []⟩) τ_ok [8, 9] 2 [0, 1] (by kernel_rfl) ?_
  refine opsP_end rfl ?_
  refine pwp_seq ?_
  refine pwp_seq ?_
  refine pwp_join (σ := Bool) (fun x1 => (⟨46, [(0, A a0), (1, A a1), (19, B x1)], []⟩ : St)) (fun x1 => impl_makes_j0 a0 a1 x1 = some y) ?_ ?_
  · refine pwp_region ?_
    refine opsP_evk' (st' := ⟨46, [(0, A a0), (1, A a1), (11, A a0)], []⟩) τ_ok [8, 9] 1 [0, 1, 11] (by kernel_rfl) ?_
    obtain ⟨v18, hv19, h⟩ := bindS h
    refine opsP_callF τ 12 (ok_impl_TablesOk hv19) (FzTo.frz rfl) rfl (by kernel_rfl) ?_
    refine opsP_evk' (st' := ⟨46, [(0, A a0), (1, A a1), (14, B ((!v18)))], []⟩) τ_ok [8, 9] 2 [0, 1, 14] (by kernel_rfl) ?_
    rcases Bool.eq_false_or_eq_true ((!v18)) with hc22 | hc22
    · replace h := bifT hc22 h
      rw [hc22]
      refine opsP_evk' (st' := ⟨46, [(0, A a0), (1, A a1), (19, B true)], []⟩) τ_ok [8, 9] 5 [0, 1, 19] (by kernel_rfl) ?_
      refine opsP_end rfl ?_
      exact ⟨true, h, (Imp.to (st' := ⟨46, [(0, A a0), (1, A a1), (19, B true)], []⟩) [0, 1, 19] (by kernel_rfl)).trans (Imp.to [0, 1, 19] (by kernel_rfl))⟩
    · replace h := bifF hc22 h
      rw [hc22]
      refine opsP_evk' (st' := ⟨46, [(0, A a0), (1, A a1), (14, B false), (16, I ((a1.length : Int)))], []⟩) τ_ok [8, 9] 2 [0, 1, 14, 16] (by kernel_rfl) ?_
      obtain ⟨v20, hv21, h⟩ := bindS h
      refine opsP_callF τ 17 (ok_impl_between hv21) (FzTo.frz rfl) rfl (by kernel_rfl) ?_
      refine opsP_evk' (st' := ⟨46, [(0, A a0), (1, A a1), (19, B ((!v20)))], []⟩) τ_ok [8, 9] 2 [0, 1, 19] (by kernel_rfl) ?_
      refine opsP_end rfl ?_
      exact ⟨(!v20), h, (Imp.to (st' := ⟨46, [(0, A a0), (1, A a1), (19, B ((!v20)))], []⟩) [0, 1, 19] (by kernel_rfl)).trans (Imp.to [0, 1, 19] (by kernel_rfl))⟩
  · rintro x1 h
    skip
    unfold impl_makes_j0 at h
    refine pwp_cond x1 (by kernel_rfl) (fun hc2 => ?_) (fun hc2 => ?_)
    · replace h := bifT hc2 h
      refine pwp_seq ?_
      refine pwp_region ?_
      refine opsP_evk' (st' := ⟨46, [(4, .arr 2 0 (eL ([] : List T_impl_made)) true), (5, B false)], []⟩) τ_ok [8, 9] 2 [4, 5] (by kernel_rfl) ?_
      refine opsP_end rfl ?_
      refine pwp_imp (Imp.to (st' := ⟨46, [(4, .arr 2 0 (eL ([] : List T_impl_made)) true), (5, B false)], []⟩) [4, 5] (by kernel_rfl)) ?_
      refine pwp_imp (Imp.thawS (st' := ⟨46, [(4, .ref 0 0 0 2 (([] : List T_impl_made)).length false), (5, B false)], [some ⟨0, eL (([] : List T_impl_made))⟩]⟩) 4 [4, 5] (by kernel_rfl)) ?_
      have h := Option.some.inj h
      subst h
      exact pwp_ret ⟨.inr rfl, .tup [.ref 0 0 0 2 (([] : List T_impl_made)).length false, B false], _, by kernel_rfl, (OutP.tup (OutL.cons (OutP.list (v := 0) (by kernel_rfl)) (OutL.cons (OutP.frz (by kernel_rfl)) (OutL.nil _)))), by decide⟩
    · replace h := bifF hc2 h
      refine pwp_skip ?_
      refine pwp_seq ?_
      refine pwp_region ?_
      refine opsP_evk' (st' := ⟨46, [(0, A a0), (1, A a1), (6, .arr 2 0 (eL ([] : List T_impl_made)) true)], []⟩) τ_ok [8, 9] 1 [0, 1, 6] (by kernel_rfl) ?_
      refine opsP_end rfl ?_
      refine pwp_seq ?_
      refine pwp_seq ?_
      refine pwp_region ?_
      refine opsP_evk' (st' := ⟨46, [(0, A a0), (6, .arr 2 0 (eL ([] : List T_impl_made)) true), (20, A a1), (21, I ((a1.length : Int))), (22, I 0)], []⟩) τ_ok [8, 9] 3 [0, 6, 20, 21, 22] (by kernel_rfl) ?_
      refine opsP_end rfl ?_
      refine pwp_block ?_
      refine pwp_loop (ι := Nat × Int × (List T_impl_made)) (fun (f6, x4, x5) => (⟨46, [(0, A a0), (6, .ref 0 0 0 2 x5.length false), (20, A a1), (21, I ((a1.length : Int))), (22, I x4)], [some ⟨0, eL x5⟩]⟩ : St)) (fun (f6, x4, x5) => impl_makes_l1 a0 a1 f6 x4 x5 = some y) (fun (f6, x4, x5) => f6) (FUEL, 0, ([] : List T_impl_made)) h ((Imp.to (st' := ⟨46, [(0, A a0), (6, .arr 2 0 (eL ([] : List T_impl_made)) true), (20, A a1), (21, I ((a1.length : Int))), (22, I 0)], []⟩) [0, 6, 20, 21, 22] (by kernel_rfl)).trans ((Imp.thawS (st' := ⟨46, [(0, A a0), (6, .ref 0 0 0 2 (([] : List T_impl_made)).length false), (20, A a1), (21, I ((a1.length : Int))), (22, I 0)], [some ⟨0, eL (([] : List T_impl_made))⟩]⟩) 6 [0, 6, 20, 21, 22] (by kernel_rfl)).trans (Imp.to [0, 6, 20, 21, 22] (by kernel_rfl)))) ?_
      rintro ⟨f6, x4, x5⟩ h
      dsimp only at h ⊢
      cases f6 with
      | zero => cases h
      | succ f6 =>
      rw [impl_makes_l1] at h
      refine pwp_seq ?_
      refine pwp_region ?_
      refine opsP_evk' (st' := ⟨46, [(0, A a0), (6, .ref 0 0 0 2 x5.length false), (20, A a1), (21, I ((a1.length : Int))), (22, I x4), (23, B ((decide (x4 < ((a1.length : Int))))))], [some ⟨0, eL x5⟩]⟩) τ_ok [8, 9] 1 [0, 6, 20, 21, 22, 23] (by kernel_rfl) ?_
      refine opsP_end rfl ?_
      refine pwp_seq ?_
      refine pwp_cond ((decide (x4 < ((a1.length : Int))))) (by kernel_rfl) (fun hc8 => ?_) (fun hc8 => ?_)
      · replace h := bifT hc8 h
        refine pwp_skip ?_
        refine pwp_seq ?_
        refine pwp_block ?_
        refine pwp_seq ?_
        refine pwp_region ?_
        obtain ⟨v9, hv10, h⟩ := bindS h
        refine opsP_idx τ_ok 24 hv10 (by kernel_rfl) ?_
        refine opsP_evk' (st' := ⟨46, [(0, A a0), (6, .ref 0 0 0 2 x5.length false), (8, .ptr 1 0 0), (20, A a1), (21, I ((a1.length : Int))), (22, I x4)], [some ⟨0, eL x5⟩, some ⟨0, Enc.cells v9⟩]⟩) τ_ok [8, 9] 3 [0, 6, 8, 20, 21, 22] (by kernel_rfl) ?_
        refine opsP_end rfl ?_
        refine pwp_seq ?_
        refine pwp_region ?_
        refine opsP_evk' (st' := ⟨46, [(0, A a0), (6, .ref 0 0 0 2 x5.length false), (20, A a1), (21, I ((a1.length : Int))), (22, I x4), (27, E v9), (28, A a0), (29, .ref 0 0 0 2 x5.length false)], [some ⟨0, eL x5⟩, some ⟨0, Enc.cells v9⟩]⟩) τ_ok [8, 9] 3 [0, 6, 20, 21, 22, 27, 28, 29] (by kernel_rfl) ?_
        obtain ⟨v11, hv12, h⟩ := bindS h
        refine opsP_E (dd := some 30) (x := .tup [E v11.1, B v11.2]) (callS_E τ 30 0 0 (ok_impl_Step_make_L2 hv12) (FzTo.tup (FzToL.cons (FzTo.frz rfl) (FzToL.cons (FzTo.frz rfl) FzToL.nil))) rfl rfl (by kernel_rfl)) ?_
        refine opsP_evk' (st' := ⟨46, [(0, A a0), (6, .ref 0 0 0 2 x5.length false), (9, .ptr 2 0 0), (10, B v11.2), (20, A a1), (21, I ((a1.length : Int))), (22, I x4)], [some ⟨0, eL x5⟩, some ⟨0, Enc.cells v9⟩, some ⟨0, Enc.cells v11.1⟩]⟩) τ_ok [8, 9] 6 [0, 6, 9, 10, 20, 21, 22] (by kernel_rfl) ?_
        refine opsP_end rfl ?_
        refine pwp_seq ?_
        refine pwp_seq ?_
        refine pwp_join (σ := Bool) (fun x13 => (⟨46, [(0, A a0), (6, .ref 0 0 0 2 x5.length false), (9, .ptr 2 0 0), (20, A a1), (21, I ((a1.length : Int))), (22, I x4), (39, B x13)], [some ⟨0, eL x5⟩, some ⟨0, Enc.cells v9⟩, some ⟨0, Enc.cells v11.1⟩]⟩ : St)) (fun x13 => impl_makes_j2 x4 x5 (impl_makes_l1 a0 a1 f6) v11 x13 = some y) ?_ ?_
        · refine pwp_region ?_
          refine opsP_evk' (st' := ⟨46, [(0, A a0), (6, .ref 0 0 0 2 x5.length false), (9, .ptr 2 0 0), (20, A a1), (21, I ((a1.length : Int))), (22, I x4), (35, B ((!v11.2)))], [some ⟨0, eL x5⟩, some ⟨0, Enc.cells v9⟩, some ⟨0, Enc.cells v11.1⟩]⟩) τ_ok [8, 9] 3 [0, 6, 9, 20, 21, 22, 35] (by kernel_rfl) ?_
          rcases Bool.eq_false_or_eq_true ((!v11.2)) with hc17 | hc17
          · replace h := bifT hc17 h
            rw [hc17]
            refine opsP_evk' (st' := ⟨46, [(0, A a0), (6, .ref 0 0 0 2 x5.length false), (9, .ptr 2 0 0), (20, A a1), (21, I ((a1.length : Int))), (22, I x4), (36, .lit undef), (37, .lit undef), (38, .lit undef), (39, B true)], [some ⟨0, eL x5⟩, some ⟨0, Enc.cells v9⟩, some ⟨0, Enc.cells v11.1⟩]⟩) τ_ok [8, 9] 4 [0, 6, 9, 20, 21, 22, 36, 37, 38, 39] (by kernel_rfl) ?_
            refine opsP_end rfl ?_
            exact ⟨true, h, (Imp.to (st' := ⟨46, [(0, A a0), (6, .ref 0 0 0 2 x5.length false), (9, .ptr 2 0 0), (20, A a1), (21, I ((a1.length : Int))), (22, I x4), (39, B true)], [some ⟨0, eL x5⟩, some ⟨0, Enc.cells v9⟩, some ⟨0, Enc.cells v11.1⟩]⟩) [0, 6, 9, 20, 21, 22, 39] (by kernel_rfl)).trans (Imp.to [0, 6, 9, 20, 21, 22, 39] (by kernel_rfl))⟩
          · replace h := bifF hc17 h
            rw [hc17]
            refine opsP_evk' (st' := ⟨46, [(0, A a0), (6, .ref 0 0 0 2 x5.length false), (9, .ptr 2 0 0), (20, A a1), (21, I ((a1.length : Int))), (22, I x4), (36, .ptr 2 0 1), (37, I v11.1.fMost), (38, B ((decide (v11.1.fMost > 300)))), (39, B ((decide (v11.1.fMost > 300))))], [some ⟨0, eL x5⟩, some ⟨0, Enc.cells v9⟩, some ⟨0, Enc.cells v11.1⟩]⟩) τ_ok [8, 9] 4 [0, 6, 9, 20, 21, 22, 36, 37, 38, 39] (by kernel_rfl) ?_
            refine opsP_end rfl ?_
            exact ⟨(decide (v11.1.fMost > 300)), h, (Imp.to (st' := ⟨46, [(0, A a0), (6, .ref 0 0 0 2 x5.length false), (9, .ptr 2 0 0), (20, A a1), (21, I ((a1.length : Int))), (22, I x4), (39, B ((decide (v11.1.fMost > 300))))], [some ⟨0, eL x5⟩, some ⟨0, Enc.cells v9⟩, some ⟨0, Enc.cells v11.1⟩]⟩) [0, 6, 9, 20, 21, 22, 39] (by kernel_rfl)).trans (Imp.to [0, 6, 9, 20, 21, 22, 39] (by kernel_rfl))⟩
        · rintro x13 h
          skip
          unfold impl_makes_j2 at h
          refine pwp_cond x13 (by kernel_rfl) (fun hc14 => ?_) (fun hc14 => ?_)
          · replace h := bifT hc14 h
            refine pwp_seq ?_
            refine pwp_region ?_
            refine opsP_evk' (st' := ⟨46, [(4, .arr 2 0 (eL ([] : List T_impl_made)) true), (5, B false)], [some ⟨0, eL x5⟩, some ⟨0, Enc.cells v9⟩, some ⟨0, Enc.cells v11.1⟩]⟩) τ_ok [8, 9] 2 [4, 5] (by kernel_rfl) ?_
            refine opsP_end rfl ?_
            refine pwp_imp (Imp.to (st' := ⟨46, [(4, .arr 2 0 (eL ([] : List T_impl_made)) true), (5, B false)], [some ⟨0, eL x5⟩, some ⟨0, Enc.cells v9⟩, some ⟨0, Enc.cells v11.1⟩]⟩) [4, 5] (by kernel_rfl)) ?_
            refine pwp_imp (Imp.thawS (st' := ⟨46, [(4, .ref 3 0 0 2 (([] : List T_impl_made)).length false), (5, B false)], [some ⟨0, eL x5⟩, some ⟨0, Enc.cells v9⟩, some ⟨0, Enc.cells v11.1⟩, some ⟨0, eL (([] : List T_impl_made))⟩]⟩) 4 [4, 5] (by kernel_rfl)) ?_
            have h := Option.some.inj h
            subst h
            exact pwp_ret ⟨.inr rfl, .tup [.ref 3 0 0 2 (([] : List T_impl_made)).length false, B false], _, by kernel_rfl, (OutP.tup (OutL.cons (OutP.list (v := 0) (by kernel_rfl)) (OutL.cons (OutP.frz (by kernel_rfl)) (OutL.nil _)))), by decide⟩
          · replace h := bifF hc14 h
            refine pwp_skip ?_
            refine pwp_region ?_
            refine opsP_evk' (st' := ⟨46, [(0, A a0), (20, A a1), (21, I ((a1.length : Int))), (22, I x4), (40, .ref 0 0 0 2 x5.length false), (42, .arr 2 (([v11.1] : List T_impl_made)).length (eL ([v11.1] : List T_impl_made)) true)], [some ⟨0, eL x5⟩, some ⟨0, Enc.cells v9⟩, some ⟨0, Enc.cells v11.1⟩]⟩) τ_ok [8, 9] 3 [0, 20, 21, 22, 40, 42] (by kernel_rfl) ?_
            obtain ⟨v15, hv16, h⟩ := bindS h
            refine opsP_app τ_ok 43 0 0 (fun b hb => absurd hb (hX b)) hv16 (by kernel_rfl) ?_
            refine opsP_evk' (st' := ⟨46, [(0, A a0), (6, .ref 0 1 0 2 v15.length false), (20, A a1), (21, I ((a1.length : Int))), (22, I x4)], [some ⟨1, eL v15⟩, some ⟨0, Enc.cells v9⟩, some ⟨0, Enc.cells v11.1⟩]⟩) τ_ok [8, 9] 1 [0, 6, 20, 21, 22] (by kernel_rfl) ?_
            refine opsP_end rfl ?_
            refine pwp_region ?_
            refine opsP_evk' (st' := ⟨46, [(0, A a0), (6, .ref 0 1 0 2 v15.length false), (20, A a1), (21, I ((a1.length : Int))), (22, I ((w64 (x4 + 1))))], [some ⟨1, eL v15⟩, some ⟨0, Enc.cells v9⟩, some ⟨0, Enc.cells v11.1⟩]⟩) τ_ok [8, 9] 2 [0, 6, 20, 21, 22] (by kernel_rfl) ?_
            refine opsP_end rfl ?_
            exact ⟨(f6, (w64 (x4 + 1)), v15), h, Nat.lt_succ_self _, (Imp.to (st' := ⟨46, [(0, A a0), (6, .ref 0 1 0 2 v15.length false), (20, A a1), (21, I ((a1.length : Int))), (22, I ((w64 (x4 + 1))))], [some ⟨1, eL v15⟩, some ⟨0, Enc.cells v9⟩, some ⟨0, Enc.cells v11.1⟩]⟩) [0, 6, 20, 21, 22] (by kernel_rfl)).trans ((Imp.truncS (st' := ⟨46, [(0, A a0), (6, .ref 0 1 0 2 v15.length false), (20, A a1), (21, I ((a1.length : Int))), (22, I ((w64 (x4 + 1))))], [some ⟨1, eL v15⟩]⟩) 1 (fun b hb => absurd hb (hX b)) (by kernel_rfl) (allBelow_mem (by exact (And.intro rfl (And.intro rfl (And.intro rfl (And.intro rfl (And.intro rfl trivial))))))) (by exact (And.intro (frz_below (eL_frz _)) trivial)) (by kernel_rfl)).trans ((Imp.reverS (st' := ⟨46, [(0, A a0), (6, .ref 0 0 0 2 v15.length false), (20, A a1), (21, I ((a1.length : Int))), (22, I ((w64 (x4 + 1))))], [some ⟨0, eL v15⟩]⟩) 0 1 (eL v15) [0, 6, 20, 21, 22] (by kernel_rfl) (by exact (And.intro (eL_frz _) trivial)) (by kernel_rfl)).trans (Imp.to [0, 6, 20, 21, 22] (by kernel_rfl))))⟩
      · replace h := bifF hc8 h
        refine pwp_exit ?_
        refine pwp_seq ?_
        refine pwp_region ?_
        refine opsP_evk' (st' := ⟨46, [(4, .ref 0 0 0 2 x5.length false), (5, B true)], [some ⟨0, eL x5⟩]⟩) τ_ok [8, 9] 3 [4, 5] (by kernel_rfl) ?_
        refine opsP_end rfl ?_
        have h := Option.some.inj h
        subst h
        exact pwp_ret ⟨.inr rfl, .tup [.ref 0 0 0 2 x5.length false, B true], _, by kernel_rfl, (OutP.tup (OutL.cons (OutP.list (v := 0) (by kernel_rfl)) (OutL.cons (OutP.frz (by kernel_rfl)) (OutL.nil _)))), by decide⟩

/- loop.example/tablehouse/impl.PlanOk -/
def impl_PlanOk (a0 : List T_impl_Table) (a1 : List T_impl_Step) : Option Bool := (impl_makes a0 a1).bind fun v1 => some v1.2
theorem ok_impl_PlanOk {a0 : List T_impl_Table} {a1 : List T_impl_Step} {y : Bool} (h : impl_PlanOk a0 a1 = some y) : OK Try.prog 11 [A a0, A a1] (B y) := by
  refine OK_of_pwp τ_ok Try.func11 rfl (by kernel_rfl) rfl fun Γ hX => ?_
  unfold impl_PlanOk at h
  refine pwp_seq ?_
  refine pwp_region ?_
  refine opsP_evk' (st' := ⟨14, [(0, A a0), (1, A a1)], []⟩) τ_ok [] 1 [0, 1] (by kernel_rfl) ?_
  refine opsP_end rfl ?_
  refine pwp_seq ?_
  refine pwp_region ?_
  refine opsP_evk' (st' := ⟨14, [(8, A a0), (9, A a1)], []⟩) τ_ok [] 2 [8, 9] (by kernel_rfl) ?_
  obtain ⟨v1, hv2, h⟩ := bindS h
  refine opsP_callF τ 10 (ok_impl_makes hv2) (FzTo.tup (FzToL.cons (FzTo.O _) (FzToL.cons (FzTo.frz rfl) FzToL.nil))) rfl (by kernel_rfl) ?_
  refine opsP_evk' (st' := ⟨14, [(6, B v1.2)], []⟩) τ_ok [] 5 [6] (by kernel_rfl) ?_
  refine opsP_end rfl ?_
  refine pwp_seq ?_
  refine pwp_region ?_
  refine opsP_evk' (st' := ⟨14, [(4, B v1.2)], []⟩) τ_ok [] 2 [4] (by kernel_rfl) ?_
  refine opsP_end rfl ?_
  have h := Option.some.inj h
  subst h
  exact pwp_ret ⟨.inr rfl, B v1.2, _, by kernel_rfl, (OutP.frz (by kernel_rfl)), by decide⟩

/- loop.example/tablehouse/laws.FnExactPlanOk -/
def laws_FnExactPlanOk (a0 : List T_laws_Table) (a1 : List T_laws_Step) : Option Bool := (laws_szTableS a0 1048576).bind fun v1 => bif (decide (v1 < 0)) then some true else (laws_szStepS a1 v1).bind fun v4 => bif (decide (v4 < 0)) then some true else (laws_toTableS a0).bind fun v7 => (laws_toStepS a1).bind fun v9 => (spec_PlanOk v7 v9).bind fun v11 => (laws_toTableS a0).bind fun v13 => (laws_toStepS a1).bind fun v15 => (impl_PlanOk v13 v15).bind fun v17 => bif (!(v17 == v11)) then some false else (laws_toTableS a0).bind fun v20 => (laws_eqTableS v13 v20).bind fun v22 => bif (!v22) then some false else (laws_toStepS a1).bind fun v25 => (laws_eqStepS v15 v25).bind fun v27 => bif (!v27) then some false else some true
theorem ok_laws_FnExactPlanOk {a0 : List T_laws_Table} {a1 : List T_laws_Step} {y : Bool} (h : laws_FnExactPlanOk a0 a1 = some y) : OK Try.prog 3 [A a0, A a1] (B y) := by
  refine OK_of_pwp τ_ok Try.func3 rfl (by kernel_rfl) rfl fun Γ hX => ?_
  unfold laws_FnExactPlanOk at h
  refine pwp_seq ?_
  refine pwp_region ?_
  refine opsP_evk' (st' := ⟨45, [(0, A a0), (1, A a1)], []⟩) τ_ok [] 1 [0, 1] (by kernel_rfl) ?_
  refine opsP_end rfl ?_
  refine pwp_seq ?_
  refine pwp_region ?_
  refine opsP_evk' (st' := ⟨45, [(0, A a0), (1, A a1), (5, I 1048576)], []⟩) τ_ok [] 1 [0, 1, 5] (by kernel_rfl) ?_
  refine opsP_end rfl ?_
  refine pwp_seq ?_
  refine pwp_region ?_
  refine opsP_evk' (st' := ⟨45, [(0, A a0), (1, A a1), (10, A a0), (11, I 1048576)], []⟩) τ_ok [] 2 [0, 1, 10, 11] (by kernel_rfl) ?_
  obtain ⟨v1, hv2, h⟩ := bindS h
  refine opsP_callF τ 12 (ok_laws_szTableS hv2) (FzTo.frz rfl) rfl (by kernel_rfl) ?_
  refine opsP_evk' (st' := ⟨45, [(0, A a0), (1, A a1), (5, I v1)], []⟩) τ_ok [] 1 [0, 1, 5] (by kernel_rfl) ?_
  refine opsP_end rfl ?_
  refine pwp_seq ?_
  refine pwp_seq ?_
  refine pwp_region ?_
  refine opsP_evk' (st' := ⟨45, [(0, A a0), (1, A a1), (5, I v1), (14, B ((decide (v1 < 0))))], []⟩) τ_ok [] 2 [0, 1, 5, 14] (by kernel_rfl) ?_
  refine opsP_end rfl ?_
  refine pwp_cond ((decide (v1 < 0))) (by kernel_rfl) (fun hc3 => ?_) (fun hc3 => ?_)
  · replace h := bifT hc3 h
    refine pwp_seq ?_
    refine pwp_region ?_
    refine opsP_evk' (st' := ⟨45, [(4, B true)], []⟩) τ_ok [] 1 [4] (by kernel_rfl) ?_
    refine opsP_end rfl ?_
    have h := Option.some.inj h
    subst h
    exact pwp_ret ⟨.inr rfl, B true, _, by kernel_rfl, (OutP.frz (by kernel_rfl)), by decide⟩
  · replace h := bifF hc3 h
    refine pwp_skip ?_
    refine pwp_seq ?_
    refine pwp_region ?_
    refine opsP_evk' (st' := ⟨45, [(0, A a0), (1, A a1), (15, A a1), (16, I v1)], []⟩) τ_ok [] 2 [0, 1, 15, 16] (by kernel_rfl) ?_
    obtain ⟨v4, hv5, h⟩ := bindS h
    refine opsP_callF τ 17 (ok_laws_szStepS hv5) (FzTo.frz rfl) rfl (by kernel_rfl) ?_
    refine opsP_evk' (st' := ⟨45, [(0, A a0), (1, A a1), (5, I v4)], []⟩) τ_ok [] 1 [0, 1, 5] (by kernel_rfl) ?_
    refine opsP_end rfl ?_
    refine pwp_seq ?_
    refine pwp_seq ?_
    refine pwp_region ?_
    refine opsP_evk' (st' := ⟨45, [(0, A a0), (1, A a1), (19, B ((decide (v4 < 0))))], []⟩) τ_ok [] 2 [0, 1, 19] (by kernel_rfl) ?_
    refine opsP_end rfl ?_
    refine pwp_cond ((decide (v4 < 0))) (by kernel_rfl) (fun hc6 => ?_) (fun hc6 => ?_)
    · replace h := bifT hc6 h
      refine pwp_seq ?_
      refine pwp_region ?_
      refine opsP_evk' (st' := ⟨45, [(4, B true)], []⟩) τ_ok [] 1 [4] (by kernel_rfl) ?_
      refine opsP_end rfl ?_
      have h := Option.some.inj h
      subst h
      exact pwp_ret ⟨.inr rfl, B true, _, by kernel_rfl, (OutP.frz (by kernel_rfl)), by decide⟩
    · replace h := bifF hc6 h
      refine pwp_skip ?_
      refine pwp_seq ?_
      refine pwp_region ?_
      refine opsP_evk' (st' := ⟨45, [(0, A a0), (1, A a1), (20, A a0)], []⟩) τ_ok [] 1 [0, 1, 20] (by kernel_rfl) ?_
      obtain ⟨v7, hv8, h⟩ := bindS h
      refine opsP_callF τ 21 (ok_laws_toTableS hv8) (FzTo.O _) rfl (by kernel_rfl) ?_
      refine opsP_evk' (st' := ⟨45, [(0, A a0), (1, A a1), (21, A v7), (22, A a1)], []⟩) τ_ok [] 1 [0, 1, 21, 22] (by kernel_rfl) ?_
      obtain ⟨v9, hv10, h⟩ := bindS h
      refine opsP_callF τ 23 (ok_laws_toStepS hv10) (FzTo.O _) rfl (by kernel_rfl) ?_
      obtain ⟨v11, hv12, h⟩ := bindS h
      refine opsP_callF τ 24 (ok_spec_PlanOk hv12) (FzTo.frz rfl) rfl (by kernel_rfl) ?_
      refine opsP_evk' (st' := ⟨45, [(0, A a0), (1, A a1), (6, B v11)], []⟩) τ_ok [] 1 [0, 1, 6] (by kernel_rfl) ?_
      refine opsP_end rfl ?_
      refine pwp_seq ?_
      refine pwp_region ?_
      refine opsP_evk' (st' := ⟨45, [(0, A a0), (1, A a1), (6, B v11), (25, A a0)], []⟩) τ_ok [] 1 [0, 1, 6, 25] (by kernel_rfl) ?_
      obtain ⟨v13, hv14, h⟩ := bindS h
      refine opsP_callF τ 26 (ok_laws_toTableS hv14) (FzTo.O _) rfl (by kernel_rfl) ?_
      refine opsP_evk' (st' := ⟨45, [(0, A a0), (1, A a1), (6, B v11), (7, A v13)], []⟩) τ_ok [] 1 [0, 1, 6, 7] (by kernel_rfl) ?_
      refine opsP_end rfl ?_
      refine pwp_seq ?_
      refine pwp_region ?_
      refine opsP_evk' (st' := ⟨45, [(0, A a0), (1, A a1), (6, B v11), (7, A v13), (27, A a1)], []⟩) τ_ok [] 1 [0, 1, 6, 7, 27] (by kernel_rfl) ?_
      obtain ⟨v15, hv16, h⟩ := bindS h
      refine opsP_callF τ 28 (ok_laws_toStepS hv16) (FzTo.O _) rfl (by kernel_rfl) ?_
      refine opsP_evk' (st' := ⟨45, [(0, A a0), (1, A a1), (6, B v11), (7, A v13), (8, A v15)], []⟩) τ_ok [] 1 [0, 1, 6, 7, 8] (by kernel_rfl) ?_
      refine opsP_end rfl ?_
      refine pwp_seq ?_
      refine pwp_region ?_
      refine opsP_evk' (st' := ⟨45, [(0, A a0), (1, A a1), (6, B v11), (7, A v13), (8, A v15), (29, A v13), (30, A v15)], []⟩) τ_ok [] 2 [0, 1, 6, 7, 8, 29, 30] (by kernel_rfl) ?_
      obtain ⟨v17, hv18, h⟩ := bindS h
      refine opsP_callF τ 31 (ok_impl_PlanOk hv18) (FzTo.frz rfl) rfl (by kernel_rfl) ?_
      refine opsP_evk' (st' := ⟨45, [(0, A a0), (1, A a1), (6, B v11), (7, A v13), (8, A v15), (9, B v17)], []⟩) τ_ok [] 1 [0, 1, 6, 7, 8, 9] (by kernel_rfl) ?_
      refine opsP_end rfl ?_
      refine pwp_seq ?_
      refine pwp_seq ?_
      refine pwp_region ?_
      refine opsP_evk' (st' := ⟨45, [(0, A a0), (1, A a1), (7, A v13), (8, A v15), (34, B ((!(v17 == v11))))], []⟩) τ_ok [] 3 [0, 1, 7, 8, 34] (by kernel_rfl) ?_
      refine opsP_end rfl ?_
      refine pwp_cond ((!(v17 == v11))) (by kernel_rfl) (fun hc19 => ?_) (fun hc19 => ?_)
      · replace h := bifT hc19 h
        refine pwp_seq ?_
        refine pwp_region ?_
        refine opsP_evk' (st' := ⟨45, [(4, B false)], []⟩) τ_ok [] 1 [4] (by kernel_rfl) ?_
        refine opsP_end rfl ?_
        have h := Option.some.inj h
        subst h
        exact pwp_ret ⟨.inr rfl, B false, _, by kernel_rfl, (OutP.frz (by kernel_rfl)), by decide⟩
      · replace h := bifF hc19 h
        refine pwp_skip ?_
        refine pwp_seq ?_
        refine pwp_seq ?_
        refine pwp_region ?_
        refine opsP_evk' (st' := ⟨45, [(1, A a1), (8, A v15), (35, A v13), (36, A a0)], []⟩) τ_ok [] 2 [1, 8, 35, 36] (by kernel_rfl) ?_
        obtain ⟨v20, hv21, h⟩ := bindS h
        refine opsP_callF τ 37 (ok_laws_toTableS hv21) (FzTo.O _) rfl (by kernel_rfl) ?_
        obtain ⟨v22, hv23, h⟩ := bindS h
        refine opsP_callF τ 38 (ok_laws_eqTableS hv23) (FzTo.frz rfl) rfl (by kernel_rfl) ?_
        refine opsP_evk' (st' := ⟨45, [(1, A a1), (8, A v15), (39, B ((!v22)))], []⟩) τ_ok [] 1 [1, 8, 39] (by kernel_rfl) ?_
        refine opsP_end rfl ?_
        refine pwp_cond ((!v22)) (by kernel_rfl) (fun hc24 => ?_) (fun hc24 => ?_)
        · replace h := bifT hc24 h
          refine pwp_seq ?_
          refine pwp_region ?_
          refine opsP_evk' (st' := ⟨45, [(4, B false)], []⟩) τ_ok [] 1 [4] (by kernel_rfl) ?_
          refine opsP_end rfl ?_
          have h := Option.some.inj h
          subst h
          exact pwp_ret ⟨.inr rfl, B false, _, by kernel_rfl, (OutP.frz (by kernel_rfl)), by decide⟩
        · replace h := bifF hc24 h
          refine pwp_skip ?_
          refine pwp_seq ?_
          refine pwp_seq ?_
          refine pwp_region ?_
          refine opsP_evk' (st' := ⟨45, [(40, A v15), (41, A a1)], []⟩) τ_ok [] 2 [40, 41] (by kernel_rfl) ?_
          obtain ⟨v25, hv26, h⟩ := bindS h
          refine opsP_callF τ 42 (ok_laws_toStepS hv26) (FzTo.O _) rfl (by kernel_rfl) ?_
          obtain ⟨v27, hv28, h⟩ := bindS h
          refine opsP_callF τ 43 (ok_laws_eqStepS hv28) (FzTo.frz rfl) rfl (by kernel_rfl) ?_
          refine opsP_evk' (st' := ⟨45, [(44, B ((!v27)))], []⟩) τ_ok [] 1 [44] (by kernel_rfl) ?_
          refine opsP_end rfl ?_
          refine pwp_cond ((!v27)) (by kernel_rfl) (fun hc29 => ?_) (fun hc29 => ?_)
          · replace h := bifT hc29 h
            refine pwp_seq ?_
            refine pwp_region ?_
            refine opsP_evk' (st' := ⟨45, [(4, B false)], []⟩) τ_ok [] 1 [4] (by kernel_rfl) ?_
            refine opsP_end rfl ?_
            have h := Option.some.inj h
            subst h
            exact pwp_ret ⟨.inr rfl, B false, _, by kernel_rfl, (OutP.frz (by kernel_rfl)), by decide⟩
          · replace h := bifF hc29 h
            refine pwp_skip ?_
            refine pwp_seq ?_
            refine pwp_region ?_
            refine opsP_evk' (st' := ⟨45, [(4, B true)], []⟩) τ_ok [] 1 [4] (by kernel_rfl) ?_
            refine opsP_end rfl ?_
            have h := Option.some.inj h
            subst h
            exact pwp_ret ⟨.inr rfl, B true, _, by kernel_rfl, (OutP.frz (by kernel_rfl)), by decide⟩
end Go.D
