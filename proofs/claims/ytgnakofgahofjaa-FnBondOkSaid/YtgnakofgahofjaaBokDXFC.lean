import Derived.Test.YtgnakofgahofjaaBokDXFB
import Derived.KernelRfl
set_option linter.unusedVariables false
set_option linter.unusedSimpArgs false
namespace Go.D
open Go.Proofs
theorem ok_spec_ExprKind {a0 : List T_impl_Column} {a1 : List T_impl_Part} {y : Int} (h : spec_ExprKind a0 a1 = some y) : OK Try.prog 17 [A a0, A a1] (I y) := by
  refine OK_of_pwp τ_ok Try.func17 rfl (by kernel_rfl) rfl fun Γ hX => ?_
  unfold spec_ExprKind at h
  refine srve 46 [(0, A a0), (1, A a1)] [] ?_
  refine pwp_seq ?_
  refine pwp_seq ?_
  refine pwp_join (σ := Bool) (fun x1 => (⟨46, [(0, A a0), (1, A a1), (15, B x1)], []⟩ : St)) (fun x1 => spec_ExprKind_j0 a0 a1 x1 = some y) ?_ ?_
  refine rv 1 46 [(0, A a0), (1, A a1), (8, A a0)] [] ?_
  obtain ⟨v21, hv22, h⟩ := bindS h
  refine opsP_callF τ 9 (ok_spec_ColumnsOk hv22) (FzTo.frz rfl) rfl (by kernel_rfl) ?_
  refine v 2 46 [(0, A a0), (1, A a1), (11, B ((!v21)))] [] ?_
  rcases fk ((!v21)) with hc23 | hc23
  replace h := bT hc23 h
  rw [hc23]
  refine ve 4 46 [(0, A a0), (1, A a1), (15, B true)] [] ?_
  exact ⟨true, h, (Imp.to (st' := ⟨46, [(0, A a0), (1, A a1), (15, B true)], []⟩) [0, 1, 15] (by kernel_rfl)).trans (Imp.to [0, 1, 15] (by kernel_rfl))⟩
  replace h := bF hc23 h
  rw [hc23]
  refine ve 4 46 [(0, A a0), (1, A a1), (15, B ((decide (((a1.length : Int)) > 12))))] [] ?_
  exact ⟨(decide (((a1.length : Int)) > 12)), h, (Imp.to (st' := ⟨46, [(0, A a0), (1, A a1), (15, B ((decide (((a1.length : Int)) > 12))))], []⟩) [0, 1, 15] (by kernel_rfl)).trans (Imp.to [0, 1, 15] (by kernel_rfl))⟩
  rintro x1 h
  unfold spec_ExprKind_j0 at h
  refine pc h (fun h => ?_) (fun h => ?_)
  refine srve 46 [(4, I (-1))] [] ?_
  cases h
  exact pwp_ret rz
  refine pwp_skip ?_
  refine srve 46 [(0, A a0), (1, A a1), (5, .arr 1 0 (eL ([] : List Int)) true)] [] ?_
  refine srve 46 [(0, A a0), (1, A a1), (5, .arr 1 0 (eL ([] : List Int)) true), (6, B true)] [] ?_
  refine pwp_seq ?_
  refine srve 46 [(0, A a0), (1, A a1), (5, .arr 1 0 (eL ([] : List Int)) true), (6, B true), (7, I 0)] [] ?_
  refine pwp_block ?_
  refine pwp_loop (ι := Nat × Bool × Int × (List Int)) (fun (f7, x4, x5, x6) => (⟨46, [(0, A a0), (1, A a1), (5, .ref 0 0 0 1 x6.length false), (6, B x4), (7, I x5)], [some ⟨0, eL x6⟩]⟩ : St)) (fun (f7, x4, x5, x6) => spec_ExprKind_l1 a0 a1 f7 x4 x5 x6 = some y) (fun (f7, x4, x5, x6) => f7) (FUEL, true, 0, ([] : List Int)) h ((Imp.to (st' := ⟨46, [(0, A a0), (1, A a1), (5, .arr 1 0 (eL ([] : List Int)) true), (6, B true), (7, I 0)], []⟩) [0, 1, 5, 6, 7] (by kernel_rfl)).trans ((Imp.thawS (st' := ⟨46, [(0, A a0), (1, A a1), (5, .ref 0 0 0 1 (([] : List Int)).length false), (6, B true), (7, I 0)], [some ⟨0, eL (([] : List Int))⟩]⟩) 5 [0, 1, 5, 6, 7] (by kernel_rfl)).trans (Imp.to [0, 1, 5, 6, 7] (by kernel_rfl)))) ?_
  rintro ⟨f7, x4, x5, x6⟩ h
  dsimp only at h ⊢
  rcases f7 with _ | f7
  cases h
  rw [spec_ExprKind_l1] at h
  refine pwp_seq ?_
  refine pwp_seq ?_
  refine pwp_join (σ := Bool) (fun x9 => (⟨46, [(0, A a0), (1, A a1), (5, .ref 0 0 0 1 x6.length false), (6, B x4), (7, I x5), (23, B x9)], [some ⟨0, eL x6⟩]⟩ : St)) (fun x9 => spec_ExprKind_j2 a0 a1 x4 x5 x6 (spec_ExprKind_l1 a0 a1 f7) x9 = some y) ?_ ?_
  refine rv 5 46 [(0, A a0), (1, A a1), (5, .ref 0 0 0 1 x6.length false), (6, B x4), (7, I x5), (21, B ((decide (x5 < ((a1.length : Int))))))] [some ⟨0, eL x6⟩] ?_
  rcases fk ((decide (x5 < ((a1.length : Int))))) with hc20 | hc20
  replace h := bT hc20 h
  rw [hc20]
  refine ve 2 46 [(0, A a0), (1, A a1), (5, .ref 0 0 0 1 x6.length false), (6, B x4), (7, I x5), (22, B x4), (23, B x4)] [some ⟨0, eL x6⟩] ?_
  exact ⟨x4, h, (Imp.to (st' := ⟨46, [(0, A a0), (1, A a1), (5, .ref 0 0 0 1 x6.length false), (6, B x4), (7, I x5), (23, B x4)], [some ⟨0, eL x6⟩]⟩) [0, 1, 5, 6, 7, 23] (by kernel_rfl)).trans (Imp.to [0, 1, 5, 6, 7, 23] (by kernel_rfl))⟩
  replace h := bF hc20 h
  rw [hc20]
  refine ve 2 46 [(0, A a0), (1, A a1), (5, .ref 0 0 0 1 x6.length false), (6, B x4), (7, I x5), (22, .lit undef), (23, B false)] [some ⟨0, eL x6⟩] ?_
  exact ⟨false, h, (Imp.to (st' := ⟨46, [(0, A a0), (1, A a1), (5, .ref 0 0 0 1 x6.length false), (6, B x4), (7, I x5), (23, B false)], [some ⟨0, eL x6⟩]⟩) [0, 1, 5, 6, 7, 23] (by kernel_rfl)).trans (Imp.to [0, 1, 5, 6, 7, 23] (by kernel_rfl))⟩
  rintro x9 h
  unfold spec_ExprKind_j2 at h
  refine pc h (fun h => ?_) (fun h => ?_)
  refine pwp_skip ?_
  refine pwp_seq ?_
  refine pwp_block ?_
  refine rv 4 46 [(0, A a0), (1, A a1), (7, I x5), (27, A a0), (28, .ref 0 0 0 1 x6.length false), (29, A a1), (30, I x5)] [some ⟨0, eL x6⟩] ?_
  obtain ⟨v11, hv12, h⟩ := bindS h
  refine opsP_idx τ_ok 31 hv12 (by kernel_rfl) ?_
  refine v 1 46 [(0, A a0), (1, A a1), (7, I x5), (27, A a0), (28, .ref 0 0 0 1 x6.length false), (32, E v11)] [some ⟨0, eL x6⟩] ?_
  obtain ⟨v13, hv14, h⟩ := bindS h
  refine opsP_callM (xs := [A a0, .ref 0 0 0 1 x6.length false, E v11]) (x := .tup [.ref 1 0 0 1 v13.1.length false, B v13.2]) (bs := [⟨0, eL v13.1⟩]) τ 33 [0] (fun b hb => absurd hb (hX b)) (ok_spec_l4Step hv14) (by kernel_rfl) (OutL.cons (OutP.frz rfl) (OutL.cons (OutP.list (v := 0) (by kernel_rfl)) (OutL.cons (OutP.frz rfl) (OutL.nil _)))) (by decide) (by kernel_rfl) ?_
  refine ve 5 46 [(0, A a0), (1, A a1), (5, .ref 1 0 0 1 v13.1.length false), (6, B v13.2), (7, I x5)] [none, some ⟨0, eL v13.1⟩] ?_
  refine rve 46 [(0, A a0), (1, A a1), (5, .ref 1 0 0 1 v13.1.length false), (6, B v13.2), (7, I ((w64 (x5 + 1))))] [none, some ⟨0, eL v13.1⟩] ?_
  exact ⟨(f7, v13.2, (w64 (x5 + 1)), v13.1), h, Nat.lt_succ_self _, (Imp.to (st' := ⟨46, [(0, A a0), (1, A a1), (5, .ref 1 0 0 1 v13.1.length false), (6, B v13.2), (7, I ((w64 (x5 + 1))))], [none, some ⟨0, eL v13.1⟩]⟩) [0, 1, 5, 6, 7] (by kernel_rfl)).trans ((Imp.mvS (st' := ⟨46, [(0, A a0), (1, A a1), (5, .ref 0 0 0 1 v13.1.length false), (6, B v13.2), (7, I ((w64 (x5 + 1))))], [some ⟨0, eL v13.1⟩, none]⟩) 1 0 [0, 1, 5, 6, 7] (fun b hb => absurd hb (hX b)) (v := 0) (cs := eL v13.1) (by kernel_rfl) (by kernel_rfl) (by exact (And.intro (eL_frz _) trivial)) (by kernel_rfl) (by kernel_rfl)).trans ((Imp.truncS (st' := ⟨46, [(0, A a0), (1, A a1), (5, .ref 0 0 0 1 v13.1.length false), (6, B v13.2), (7, I ((w64 (x5 + 1))))], [some ⟨0, eL v13.1⟩]⟩) 1 (fun b hb => absurd hb (hX b)) (by kernel_rfl) (allBelow_mem (by exact (And.intro rfl (And.intro rfl (And.intro rfl (And.intro rfl (And.intro rfl trivial))))))) (by exact (And.intro (frz_below (eL_frz _)) trivial)) (by kernel_rfl)).trans (Imp.to [0, 1, 5, 6, 7] (by kernel_rfl))))⟩
  refine pwp_exit ?_
  refine pwp_seq ?_
  refine pwp_seq ?_
  refine pwp_join (σ := Bool) (fun x15 => (⟨46, [(5, .ref 0 0 0 1 x6.length false), (42, B x15)], [some ⟨0, eL x6⟩]⟩ : St)) (fun x15 => spec_ExprKind_j3 x6 x15 = some y) ?_ ?_
  refine rv 3 46 [(5, .ref 0 0 0 1 x6.length false), (38, B ((!x4)))] [some ⟨0, eL x6⟩] ?_
  rcases fk ((!x4)) with hc19 | hc19
  replace h := bT hc19 h
  rw [hc19]
  refine ve 4 46 [(5, .ref 0 0 0 1 x6.length false), (42, B true)] [some ⟨0, eL x6⟩] ?_
  exact ⟨true, h, (Imp.to (st' := ⟨46, [(5, .ref 0 0 0 1 x6.length false), (42, B true)], [some ⟨0, eL x6⟩]⟩) [5, 42] (by kernel_rfl)).trans (Imp.to [5, 42] (by kernel_rfl))⟩
  replace h := bF hc19 h
  rw [hc19]
  refine ve 4 46 [(5, .ref 0 0 0 1 x6.length false), (42, B ((!(((x6.length : Int)) == 1))))] [some ⟨0, eL x6⟩] ?_
  exact ⟨(!(((x6.length : Int)) == 1)), h, (Imp.to (st' := ⟨46, [(5, .ref 0 0 0 1 x6.length false), (42, B ((!(((x6.length : Int)) == 1))))], [some ⟨0, eL x6⟩]⟩) [5, 42] (by kernel_rfl)).trans (Imp.to [5, 42] (by kernel_rfl))⟩
  rintro x15 h
  unfold spec_ExprKind_j3 at h
  refine pc h (fun h => ?_) (fun h => ?_)
  refine srve 46 [(4, I (-1))] [some ⟨0, eL x6⟩] ?_
  cases h
  exact pwp_ret rz
  refine pwp_skip ?_
  refine srv 1 46 [(43, .ref 0 0 0 1 x6.length false)] [some ⟨0, eL x6⟩] ?_
  obtain ⟨v17, hv18, h⟩ := bindS h
  refine opsP_idr τ_ok 44 0 0 x6.length hv18 rfl (by kernel_rfl) ?_
  refine opsP_lde (r := I v17) τ_ok 45 3 0 hv18 (by kernel_rfl) (by kernel_rfl) ?_
  refine ve 1 46 [(4, I v17)] [some ⟨0, eL x6⟩] ?_
  cases h
  exact pwp_ret rz
def impl_ExprKind_j2 (a0 : List T_impl_Column) (x4 : Int) (x5 : List Int) (K7 : Int → (List Int) → Option Int) (v9 : T_impl_Part) (v11 : Int) (x13 : Bool) : Option Int := bif x13 then some (-1) else (slI x5 (some ((w64 (((x5.length : Int)) - v11)))) none none).bind fun v15 => (impl_Part_kind v9 a0 v15).bind fun v17 => bif (!v17.2) then some (-1) else (slI x5 none (some ((w64 (((x5.length : Int)) - v11)))) none).bind fun v20 => (appT x5 (([v17.1] : List Int)) v20.length).bind fun v22 => K7 ((w64 (x4 + 1))) v22
def impl_ExprKind_l1 (a0 : List T_impl_Column) (a1 : List T_impl_Part) : Nat → Int → (List Int) → Option Int
  | 0, _, _ => none
  | f6 + 1, x4, x5 => bif (decide (x4 < ((a1.length : Int)))) then (getI a1 x4).bind fun v9 => (impl_Part_takes v9).bind fun v11 => (impl_Part_tells v9 a0).bind fun v24 => bif (!v24) then impl_ExprKind_j2 a0 x4 x5 (impl_ExprKind_l1 a0 a1 f6) v9 v11 true else impl_ExprKind_j2 a0 x4 x5 (impl_ExprKind_l1 a0 a1 f6) v9 v11 ((decide (((x5.length : Int)) < v11))) else bif (!(((x5.length : Int)) == 1)) then some (-1) else (getI x5 0).bind fun v28 => some v28
def impl_ExprKind_j0 (a0 : List T_impl_Column) (a1 : List T_impl_Part) (x1 : Bool) : Option Int := bif x1 then some (-1) else impl_ExprKind_l1 a0 a1 FUEL 0 (([] : List Int))
def impl_ExprKind (a0 : List T_impl_Column) (a1 : List T_impl_Part) : Option Int := (impl_ColumnsOk a0).bind fun v30 => bif (!v30) then impl_ExprKind_j0 a0 a1 true else impl_ExprKind_j0 a0 a1 ((decide (((a1.length : Int)) > 12)))
theorem ok_impl_ExprKind {a0 : List T_impl_Column} {a1 : List T_impl_Part} {y : Int} (h : impl_ExprKind a0 a1 = some y) : OK Try.prog 31 [A a0, A a1] (I y) := by
  refine OK_of_pwp τ_ok Try.func31 rfl (by kernel_rfl) rfl fun Γ hX => ?_
  unfold impl_ExprKind at h
  refine srveM [7] 67 [(0, A a0), (1, A a1)] [] ?_
  refine pwp_seq ?_
  refine pwp_seq ?_
  refine pwp_join (σ := Bool) (fun x1 => (⟨67, [(0, A a0), (1, A a1), (18, B x1)], []⟩ : St)) (fun x1 => impl_ExprKind_j0 a0 a1 x1 = some y) ?_ ?_
  refine rvM [7] 1 67 [(0, A a0), (1, A a1), (11, A a0)] [] ?_
  obtain ⟨v30, hv31, h⟩ := bindS h
  refine opsP_callF τ 12 (ok_impl_ColumnsOk hv31) (FzTo.frz rfl) rfl (by kernel_rfl) ?_
  refine vM [7] 2 67 [(0, A a0), (1, A a1), (14, B ((!v30)))] [] ?_
  rcases fk ((!v30)) with hc32 | hc32
  replace h := bT hc32 h
  rw [hc32]
  refine veM [7] 4 67 [(0, A a0), (1, A a1), (18, B true)] [] ?_
  exact ⟨true, h, (Imp.to (st' := ⟨67, [(0, A a0), (1, A a1), (18, B true)], []⟩) [0, 1, 18] (by kernel_rfl)).trans (Imp.to [0, 1, 18] (by kernel_rfl))⟩
  replace h := bF hc32 h
  rw [hc32]
  refine veM [7] 4 67 [(0, A a0), (1, A a1), (18, B ((decide (((a1.length : Int)) > 12))))] [] ?_
  exact ⟨(decide (((a1.length : Int)) > 12)), h, (Imp.to (st' := ⟨67, [(0, A a0), (1, A a1), (18, B ((decide (((a1.length : Int)) > 12))))], []⟩) [0, 1, 18] (by kernel_rfl)).trans (Imp.to [0, 1, 18] (by kernel_rfl))⟩
  rintro x1 h
  unfold impl_ExprKind_j0 at h
  refine pc h (fun h => ?_) (fun h => ?_)
  refine srveM [7] 67 [(4, I (-1))] [] ?_
  cases h
  exact pwp_ret rz
  refine pwp_skip ?_
  refine srveM [7] 67 [(0, A a0), (1, A a1), (5, .arr 1 0 (eL ([] : List Int)) true)] [] ?_
  refine pwp_seq ?_
  refine srveM [7] 67 [(0, A a0), (5, .arr 1 0 (eL ([] : List Int)) true), (19, A a1), (20, I ((a1.length : Int))), (21, I 0)] [] ?_
  refine pwp_block ?_
  refine pwp_loop (ι := Nat × Int × (List Int)) (fun (f6, x4, x5) => (⟨67, [(0, A a0), (5, .ref 0 0 0 1 x5.length false), (19, A a1), (20, I ((a1.length : Int))), (21, I x4)], [some ⟨0, eL x5⟩]⟩ : St)) (fun (f6, x4, x5) => impl_ExprKind_l1 a0 a1 f6 x4 x5 = some y) (fun (f6, x4, x5) => f6) (FUEL, 0, ([] : List Int)) h ((Imp.to (st' := ⟨67, [(0, A a0), (5, .arr 1 0 (eL ([] : List Int)) true), (19, A a1), (20, I ((a1.length : Int))), (21, I 0)], []⟩) [0, 5, 19, 20, 21] (by kernel_rfl)).trans ((Imp.thawS (st' := ⟨67, [(0, A a0), (5, .ref 0 0 0 1 (([] : List Int)).length false), (19, A a1), (20, I ((a1.length : Int))), (21, I 0)], [some ⟨0, eL (([] : List Int))⟩]⟩) 5 [0, 5, 19, 20, 21] (by kernel_rfl)).trans (Imp.to [0, 5, 19, 20, 21] (by kernel_rfl)))) ?_
  rintro ⟨f6, x4, x5⟩ h
  dsimp only at h ⊢
  rcases f6 with _ | f6
  cases h
  rw [impl_ExprKind_l1] at h
  refine srveM [7] 67 [(0, A a0), (5, .ref 0 0 0 1 x5.length false), (19, A a1), (20, I ((a1.length : Int))), (21, I x4), (22, B ((decide (x4 < ((a1.length : Int))))))] [some ⟨0, eL x5⟩] ?_
  refine pwp_seq ?_
  refine pc h (fun h => ?_) (fun h => ?_)
  refine pwp_skip ?_
  refine pwp_seq ?_
  refine pwp_block ?_
  refine pwp_seq ?_
  refine pwp_region ?_
  obtain ⟨v9, hv10, h⟩ := bindS h
  refine opsP_idx τ_ok 23 hv10 (by kernel_rfl) ?_
  refine veM [7] 3 67 [(0, A a0), (5, .ref 0 0 0 1 x5.length false), (7, .ptr 1 0 0), (19, A a1), (20, I ((a1.length : Int))), (21, I x4)] [some ⟨0, eL x5⟩, some ⟨0, Enc.cells v9⟩] ?_
  refine srvM [7] 1 67 [(0, A a0), (5, .ref 0 0 0 1 x5.length false), (7, .ptr 1 0 0), (19, A a1), (20, I ((a1.length : Int))), (21, I x4), (25, E v9)] [some ⟨0, eL x5⟩, some ⟨0, Enc.cells v9⟩] ?_
  obtain ⟨v11, hv12, h⟩ := bindS h
  refine opsP_callF τ 26 (ok_impl_Part_takes hv12) (FzTo.frz rfl) rfl (by kernel_rfl) ?_
  refine veM [7] 1 67 [(0, A a0), (5, .ref 0 0 0 1 x5.length false), (7, .ptr 1 0 0), (8, I v11), (19, A a1), (20, I ((a1.length : Int))), (21, I x4)] [some ⟨0, eL x5⟩, some ⟨0, Enc.cells v9⟩] ?_
  refine pwp_seq ?_
  refine pwp_seq ?_
  refine pwp_join (σ := Bool) (fun x13 => (⟨67, [(0, A a0), (5, .ref 0 0 0 1 x5.length false), (7, .ptr 1 0 0), (8, I v11), (19, A a1), (20, I ((a1.length : Int))), (21, I x4), (36, B x13)], [some ⟨0, eL x5⟩, some ⟨0, Enc.cells v9⟩]⟩ : St)) (fun x13 => impl_ExprKind_j2 a0 x4 x5 (impl_ExprKind_l1 a0 a1 f6) v9 v11 x13 = some y) ?_ ?_
  refine rvM [7] 2 67 [(0, A a0), (5, .ref 0 0 0 1 x5.length false), (7, .ptr 1 0 0), (8, I v11), (19, A a1), (20, I ((a1.length : Int))), (21, I x4), (27, E v9), (28, A a0)] [some ⟨0, eL x5⟩, some ⟨0, Enc.cells v9⟩] ?_
  obtain ⟨v24, hv25, h⟩ := bindS h
  refine opsP_callF τ 29 (ok_impl_Part_tells hv25) (FzTo.frz rfl) rfl (by kernel_rfl) ?_
  refine vM [7] 2 67 [(0, A a0), (5, .ref 0 0 0 1 x5.length false), (7, .ptr 1 0 0), (8, I v11), (19, A a1), (20, I ((a1.length : Int))), (21, I x4), (31, B ((!v24)))] [some ⟨0, eL x5⟩, some ⟨0, Enc.cells v9⟩] ?_
  rcases fk ((!v24)) with hc26 | hc26
  replace h := bT hc26 h
  rw [hc26]
  refine veM [7] 5 67 [(0, A a0), (5, .ref 0 0 0 1 x5.length false), (7, .ptr 1 0 0), (8, I v11), (19, A a1), (20, I ((a1.length : Int))), (21, I x4), (32, .lit undef), (33, .lit undef), (34, .lit undef), (35, .lit undef), (36, B true)] [some ⟨0, eL x5⟩, some ⟨0, Enc.cells v9⟩] ?_
  exact ⟨true, h, (Imp.to (st' := ⟨67, [(0, A a0), (5, .ref 0 0 0 1 x5.length false), (7, .ptr 1 0 0), (8, I v11), (19, A a1), (20, I ((a1.length : Int))), (21, I x4), (36, B true)], [some ⟨0, eL x5⟩, some ⟨0, Enc.cells v9⟩]⟩) [0, 5, 7, 8, 19, 20, 21, 36] (by kernel_rfl)).trans (Imp.to [0, 5, 7, 8, 19, 20, 21, 36] (by kernel_rfl))⟩
  replace h := bF hc26 h
  rw [hc26]
  refine veM [7] 5 67 [(0, A a0), (5, .ref 0 0 0 1 x5.length false), (7, .ptr 1 0 0), (8, I v11), (19, A a1), (20, I ((a1.length : Int))), (21, I x4), (32, .ref 0 0 0 1 x5.length false), (33, I ((x5.length : Int))), (34, I v11), (35, B ((decide (((x5.length : Int)) < v11)))), (36, B ((decide (((x5.length : Int)) < v11))))] [some ⟨0, eL x5⟩, some ⟨0, Enc.cells v9⟩] ?_
  exact ⟨(decide (((x5.length : Int)) < v11)), h, (Imp.to (st' := ⟨67, [(0, A a0), (5, .ref 0 0 0 1 x5.length false), (7, .ptr 1 0 0), (8, I v11), (19, A a1), (20, I ((a1.length : Int))), (21, I x4), (36, B ((decide (((x5.length : Int)) < v11))))], [some ⟨0, eL x5⟩, some ⟨0, Enc.cells v9⟩]⟩) [0, 5, 7, 8, 19, 20, 21, 36] (by kernel_rfl)).trans (Imp.to [0, 5, 7, 8, 19, 20, 21, 36] (by kernel_rfl))⟩
  rintro x13 h
  unfold impl_ExprKind_j2 at h
  refine pc h (fun h => ?_) (fun h => ?_)
  refine srveM [7] 67 [(4, I (-1))] [some ⟨0, eL x5⟩, some ⟨0, Enc.cells v9⟩] ?_
  cases h
  exact pwp_ret rz
  refine pwp_skip ?_
  refine pwp_seq ?_
  refine pwp_imp (Imp.to (st' := ⟨67, [(0, A a0), (5, .ref 0 0 0 1 x5.length false), (7, .ptr 1 0 0), (8, I v11), (19, A a1), (20, I ((a1.length : Int))), (21, I x4)], [some ⟨0, eL x5⟩, some ⟨0, Enc.cells v9⟩]⟩) [0, 5, 7, 8, 19, 20, 21] (by kernel_rfl)) ?_
  refine pwp_any ([[1], [], [0], [0], [0], [], [], [0], [0], [], [], [], [], []]) ([[], [], [], [], [], [], [], [], [], [], [], [], [], []]) rfl (by kernel_rfl) ?_
  refine qA_ev (st' := ⟨67, [(38, E v9), (0, A a0), (5, .ref 0 0 0 1 x5.length false), (7, .ptr 1 0 0), (8, I v11), (19, A a1), (20, I ((a1.length : Int))), (21, I x4)], [some ⟨0, eL x5⟩, some ⟨0, Enc.cells v9⟩]⟩) τ_ok [7] [1] 1 (by exact (And.intro (.inl (Enc.frz _)) trivial)) (by kernel_rfl) ?_
  refine qA_ev (st' := ⟨67, [(39, A a0), (38, E v9), (0, A a0), (5, .ref 0 0 0 1 x5.length false), (7, .ptr 1 0 0), (8, I v11), (19, A a1), (20, I ((a1.length : Int))), (21, I x4)], [some ⟨0, eL x5⟩, some ⟨0, Enc.cells v9⟩]⟩) τ_ok [7] [] 1 (by exact trivial) (by kernel_rfl) ?_
  refine qA_ev (st' := ⟨67, [(42, I ((x5.length : Int))), (41, .ref 0 0 0 1 x5.length false), (40, .ref 0 0 0 1 x5.length false), (39, A a0), (38, E v9), (0, A a0), (5, .ref 0 0 0 1 x5.length false), (7, .ptr 1 0 0), (8, I v11), (19, A a1), (20, I ((a1.length : Int))), (21, I x4)], [some ⟨0, eL x5⟩, some ⟨0, Enc.cells v9⟩]⟩) τ_ok [7] [0] 3 (by exact (And.intro (.inl (eL_frz _)) trivial)) (by kernel_rfl) ?_
  refine qA_ev (st' := ⟨67, [(44, I ((w64 (((x5.length : Int)) - v11)))), (43, I v11), (42, I ((x5.length : Int))), (41, .ref 0 0 0 1 x5.length false), (40, .ref 0 0 0 1 x5.length false), (39, A a0), (38, E v9), (0, A a0), (5, .ref 0 0 0 1 x5.length false), (7, .ptr 1 0 0), (8, I v11), (19, A a1), (20, I ((a1.length : Int))), (21, I x4)], [some ⟨0, eL x5⟩, some ⟨0, Enc.cells v9⟩]⟩) τ_ok [7] [] 2 (by exact trivial) (by kernel_rfl) ?_
  obtain ⟨v15, hv16, h⟩ := bindS h
  refine qA_E (dd := some 45) (x := .ref 0 0 ((w64 (((x5.length : Int)) - v11)).toNat * 1) 1 v15.length false) ([some ⟨0, eL x5⟩, none]) (⟨67, [(45, .ref 0 0 ((w64 (((x5.length : Int)) - v11)).toNat * 1) 1 v15.length false), (44, I ((w64 (((x5.length : Int)) - v11)))), (43, I v11), (42, I ((x5.length : Int))), (41, .ref 0 0 0 1 x5.length false), (40, .ref 0 0 0 1 x5.length false), (39, A a0), (38, E v9), (0, A a0), (5, .ref 0 0 0 1 x5.length false), (7, .ptr 1 0 0), (8, I v11), (19, A a1), (20, I ((a1.length : Int))), (21, I x4)], [some ⟨0, eL x5⟩, some ⟨0, Enc.cells v9⟩]⟩) (fun Γ' hΓ => CoreE.of_y (slrV_sound (n := x5.length) τ_ok (by kernel_rfl) rfl hv16)) (by kernel_rfl) (by kernel_rfl) (by exact (And.intro (.inl (eL_frz _)) trivial)) (.inr (.inl rfl)) (by kernel_rfl) ?_
  obtain ⟨v17, hv18, h⟩ := bindS h
  refine qA_E (dd := some 46) (x := .tup [I v17.1, B v17.2]) ([some ⟨0, eL x5⟩, none]) (⟨67, [(46, .tup [I v17.1, B v17.2]), (45, .ref 0 0 ((w64 (((x5.length : Int)) - v11)).toNat * 1) 1 v15.length false), (44, I ((w64 (((x5.length : Int)) - v11)))), (43, I v11), (42, I ((x5.length : Int))), (41, .ref 0 0 0 1 x5.length false), (40, .ref 0 0 0 1 x5.length false), (39, A a0), (38, E v9), (0, A a0), (5, .ref 0 0 0 1 x5.length false), (7, .ptr 1 0 0), (8, I v11), (19, A a1), (20, I ((a1.length : Int))), (21, I x4)], [some ⟨0, eL x5⟩, some ⟨0, Enc.cells v9⟩]⟩) (fun Γ' hΓ => CoreE.of_g (callVV_sound (xs := [E v9, A a0, .ref 0 0 ((w64 (((x5.length : Int)) - v11)).toNat * 1) 1 v15.length false]) (τ := τ) (by kernel_rfl) (ViewL.cons (View.frz rfl) (ViewL.cons (View.frz rfl) (ViewL.cons (View.ref (v := 0) (lo := (w64 (((x5.length : Int)) - v11)).toNat) x5 v15 (by kernel_rfl) (slI_view hv16) rfl) (ViewL.nil _)))) (ok_impl_Part_kind hv18) (Blind.tup (BlindL.cons (Blind.lit _) (BlindL.cons (Blind.lit _) BlindL.nil))) (FzTo.tup (FzToL.cons (FzTo.frz rfl) (FzToL.cons (FzTo.frz rfl) FzToL.nil))))) (by kernel_rfl) (by kernel_rfl) (by exact (And.intro (.inl (eL_frz _)) trivial)) (.inr (.inr rfl)) (by kernel_rfl) ?_
  refine qA_ev (st' := ⟨67, [(10, B v17.2), (9, I v17.1), (48, B v17.2), (47, I v17.1), (37, .tup [I v17.1, B v17.2]), (46, .tup [I v17.1, B v17.2]), (45, .ref 0 0 ((w64 (((x5.length : Int)) - v11)).toNat * 1) 1 v15.length false), (44, I ((w64 (((x5.length : Int)) - v11)))), (43, I v11), (42, I ((x5.length : Int))), (41, .ref 0 0 0 1 x5.length false), (40, .ref 0 0 0 1 x5.length false), (39, A a0), (38, E v9), (0, A a0), (5, .ref 0 0 0 1 x5.length false), (7, .ptr 1 0 0), (8, I v11), (19, A a1), (20, I ((a1.length : Int))), (21, I x4)], [some ⟨0, eL x5⟩, some ⟨0, Enc.cells v9⟩]⟩) τ_ok [7] [] 5 (by exact trivial) (by kernel_rfl) ?_
  refine qA_end ?_
  refine opsP_imp (Imp.to (st' := ⟨67, [(0, A a0), (5, .ref 0 0 0 1 x5.length false), (8, I v11), (9, I v17.1), (10, B v17.2), (19, A a1), (20, I ((a1.length : Int))), (21, I x4)], [some ⟨0, eL x5⟩, some ⟨0, Enc.cells v9⟩]⟩) [0, 5, 8, 9, 10, 19, 20, 21] (by kernel_rfl)) ?_
  refine opsP_end rfl ?_
  refine pwp_seq ?_
  refine srveM [7] 67 [(0, A a0), (5, .ref 0 0 0 1 x5.length false), (8, I v11), (9, I v17.1), (19, A a1), (20, I ((a1.length : Int))), (21, I x4), (50, B ((!v17.2)))] [some ⟨0, eL x5⟩, some ⟨0, Enc.cells v9⟩] ?_
  refine pc h (fun h => ?_) (fun h => ?_)
  refine srveM [7] 67 [(4, I (-1))] [some ⟨0, eL x5⟩, some ⟨0, Enc.cells v9⟩] ?_
  cases h
  exact pwp_ret rz
  refine pwp_skip ?_
  refine rvM [7] 5 67 [(0, A a0), (9, I v17.1), (19, A a1), (20, I ((a1.length : Int))), (21, I x4), (51, .ref 0 0 0 1 x5.length false), (55, I ((w64 (((x5.length : Int)) - v11))))] [some ⟨0, eL x5⟩, some ⟨0, Enc.cells v9⟩] ?_
  obtain ⟨v20, hv21, h⟩ := bindS h
  refine opsP_slr τ_ok 56 0 0 x5.length hv21 rfl (by kernel_rfl) ?_
  refine vM [7] 2 67 [(0, A a0), (19, A a1), (20, I ((a1.length : Int))), (21, I x4), (56, .ref 0 0 0 1 v20.length false), (58, .arr 1 (([v17.1] : List Int)).length (eL ([v17.1] : List Int)) true)] [some ⟨0, eL x5⟩, some ⟨0, Enc.cells v9⟩] ?_
  obtain ⟨v22, hv23, h⟩ := bindS h
  refine opsP_apt τ_ok 59 0 0 v20.length (fun b hb => absurd hb (hX b)) hv23 (slI_le hv21) (by kernel_rfl) ?_
  refine veM [7] 1 67 [(0, A a0), (5, .ref 0 1 0 1 v22.length false), (19, A a1), (20, I ((a1.length : Int))), (21, I x4)] [some ⟨1, eL v22⟩, some ⟨0, Enc.cells v9⟩] ?_
  refine rveM [7] 67 [(0, A a0), (5, .ref 0 1 0 1 v22.length false), (19, A a1), (20, I ((a1.length : Int))), (21, I ((w64 (x4 + 1))))] [some ⟨1, eL v22⟩, some ⟨0, Enc.cells v9⟩] ?_
  exact ⟨(f6, (w64 (x4 + 1)), v22), h, Nat.lt_succ_self _, (Imp.to (st' := ⟨67, [(0, A a0), (5, .ref 0 1 0 1 v22.length false), (19, A a1), (20, I ((a1.length : Int))), (21, I ((w64 (x4 + 1))))], [some ⟨1, eL v22⟩, some ⟨0, Enc.cells v9⟩]⟩) [0, 5, 19, 20, 21] (by kernel_rfl)).trans ((Imp.truncS (st' := ⟨67, [(0, A a0), (5, .ref 0 1 0 1 v22.length false), (19, A a1), (20, I ((a1.length : Int))), (21, I ((w64 (x4 + 1))))], [some ⟨1, eL v22⟩]⟩) 1 (fun b hb => absurd hb (hX b)) (by kernel_rfl) (allBelow_mem (by exact (And.intro rfl (And.intro rfl (And.intro rfl (And.intro rfl (And.intro rfl trivial))))))) (by exact (And.intro (frz_below (eL_frz _)) trivial)) (by kernel_rfl)).trans ((Imp.reverS (st' := ⟨67, [(0, A a0), (5, .ref 0 0 0 1 v22.length false), (19, A a1), (20, I ((a1.length : Int))), (21, I ((w64 (x4 + 1))))], [some ⟨0, eL v22⟩]⟩) 0 1 (eL v22) [0, 5, 19, 20, 21] (by kernel_rfl) (by exact (And.intro (eL_frz _) trivial)) (by kernel_rfl)).trans (Imp.to [0, 5, 19, 20, 21] (by kernel_rfl))))⟩
  refine pwp_exit ?_
  refine pwp_seq ?_
  refine srveM [7] 67 [(5, .ref 0 0 0 1 x5.length false), (63, B ((!(((x5.length : Int)) == 1))))] [some ⟨0, eL x5⟩] ?_
  refine pc h (fun h => ?_) (fun h => ?_)
  refine srveM [7] 67 [(4, I (-1))] [some ⟨0, eL x5⟩] ?_
  cases h
  exact pwp_ret rz
  refine pwp_skip ?_
  refine srvM [7] 1 67 [(64, .ref 0 0 0 1 x5.length false)] [some ⟨0, eL x5⟩] ?_
  obtain ⟨v28, hv29, h⟩ := bindS h
  refine opsP_idr τ_ok 65 0 0 x5.length hv29 rfl (by kernel_rfl) ?_
  refine opsP_lde (r := I v28) τ_ok 66 3 0 hv29 (by kernel_rfl) (by kernel_rfl) ?_
  refine veM [7] 1 67 [(4, I v28)] [some ⟨0, eL x5⟩] ?_
  cases h
  exact pwp_ret rz
def spec_RowsOk_l0 (a0 : List T_impl_Column) (a1 : List (List T_impl_Value)) : Nat → Int → Option Bool
  | 0, _ => none
  | f2 + 1, x1 => bif (decide (x1 < ((a1.length : Int)))) then (getI a1 x1).bind fun v5 => (spec_RowFits a0 v5).bind fun v7 => bif (!v7) then some false else (spec_RowsOk_l0 a0 a1 f2) ((w64 (x1 + 1))) else (spec_ColumnsOk a0).bind fun v10 => some v10
def spec_RowsOk (a0 : List T_impl_Column) (a1 : List (List T_impl_Value)) : Option Bool := spec_RowsOk_l0 a0 a1 FUEL 0
theorem ok_spec_RowsOk {a0 : List T_impl_Column} {a1 : List (List T_impl_Value)} {y : Bool} (h : spec_RowsOk a0 a1 = some y) : OK Try.prog 32 [A a0, A a1] (B y) := by
  refine OK_of_pwp τ_ok Try.func32 rfl (by kernel_rfl) rfl fun Γ hX => ?_
  unfold spec_RowsOk at h
  refine srve 21 [(0, A a0), (1, A a1)] [] ?_
  refine pwp_seq ?_
  refine srve 21 [(0, A a0), (1, A a1), (5, I 0)] [] ?_
  refine pwp_block ?_
  refine pwp_loop (ι := Nat × Int) (fun (f2, x1) => (⟨21, [(0, A a0), (1, A a1), (5, I x1)], []⟩ : St)) (fun (f2, x1) => spec_RowsOk_l0 a0 a1 f2 x1 = some y) (fun (f2, x1) => f2) (FUEL, 0) h ((Imp.to (st' := ⟨21, [(0, A a0), (1, A a1), (5, I 0)], []⟩) [0, 1, 5] (by kernel_rfl)).trans (Imp.to [0, 1, 5] (by kernel_rfl))) ?_
  rintro ⟨f2, x1⟩ h
  dsimp only at h ⊢
  rcases f2 with _ | f2
  cases h
  rw [spec_RowsOk_l0] at h
  refine pwp_seq ?_
  refine srve 21 [(0, A a0), (1, A a1), (5, I x1), (9, B ((decide (x1 < ((a1.length : Int))))))] [] ?_
  refine pc h (fun h => ?_) (fun h => ?_)
  refine pwp_skip ?_
  refine pwp_seq ?_
  refine pwp_block ?_
  refine srv 3 21 [(0, A a0), (1, A a1), (5, I x1), (12, A a0), (13, A a1), (14, I x1)] [] ?_
  obtain ⟨v5, hv6, h⟩ := bindS h
  refine opsP_idx τ_ok 15 hv6 (by kernel_rfl) ?_
  refine v 1 21 [(0, A a0), (1, A a1), (5, I x1), (12, A a0), (16, A v5)] [] ?_
  obtain ⟨v7, hv8, h⟩ := bindS h
  refine opsP_callF τ 17 (ok_spec_RowFits hv8) (FzTo.frz rfl) rfl (by kernel_rfl) ?_
  refine ve 1 21 [(0, A a0), (1, A a1), (5, I x1), (18, B ((!v7)))] [] ?_
  refine pc h (fun h => ?_) (fun h => ?_)
  refine srve 21 [(4, B false)] [] ?_
  cases h
  exact pwp_ret rz
  refine pwp_skip ?_
  refine rve 21 [(0, A a0), (1, A a1), (5, I ((w64 (x1 + 1))))] [] ?_
  exact ⟨(f2, (w64 (x1 + 1))), h, Nat.lt_succ_self _, (Imp.to (st' := ⟨21, [(0, A a0), (1, A a1), (5, I ((w64 (x1 + 1))))], []⟩) [0, 1, 5] (by kernel_rfl)).trans (Imp.to [0, 1, 5] (by kernel_rfl))⟩
  refine pwp_exit ?_
  refine srv 1 21 [(19, A a0)] [] ?_
  obtain ⟨v10, hv11, h⟩ := bindS h
  refine opsP_callF τ 20 (ok_spec_ColumnsOk hv11) (FzTo.frz rfl) rfl (by kernel_rfl) ?_
  refine ve 1 21 [(4, B v10)] [] ?_
  cases h
  exact pwp_ret rz
def impl_RowFits_j2 (x3 : Int) (K5 : Int → Option Bool) (x9 : Bool) : Option Bool := bif x9 then some false else K5 ((w64 (x3 + 1)))
def impl_RowFits_l1 (a0 : List T_impl_Column) (a1 : List T_impl_Value) : Nat → Int → Option Bool
  | 0, _ => none
  | f4 + 1, x3 => bif (decide (x3 < ((a1.length : Int)))) then (getI a1 x3).bind fun v7 => (getI a0 x3).bind fun v11 => bif (!(v7.fKind == v11.fKind)) then bif (!(v7.fKind == 0)) then impl_RowFits_j2 x3 (impl_RowFits_l1 a0 a1 f4) true else (getI a0 x3).bind fun v13 => impl_RowFits_j2 x3 (impl_RowFits_l1 a0 a1 f4) ((!v13.fEmpty)) else impl_RowFits_j2 x3 (impl_RowFits_l1 a0 a1 f4) false else some true
def impl_RowFits_j0 (a0 : List T_impl_Column) (a1 : List T_impl_Value) (x1 : Bool) : Option Bool := bif x1 then some false else impl_RowFits_l1 a0 a1 FUEL 0
def impl_RowFits (a0 : List T_impl_Column) (a1 : List T_impl_Value) : Option Bool := (impl_ColumnsOk a0).bind fun v17 => bif (!v17) then impl_RowFits_j0 a0 a1 true else (impl_RowOk a1).bind fun v19 => bif (!v19) then impl_RowFits_j0 a0 a1 true else impl_RowFits_j0 a0 a1 ((!(((a1.length : Int)) == ((a0.length : Int)))))
theorem ok_impl_RowFits {a0 : List T_impl_Column} {a1 : List T_impl_Value} {y : Bool} (h : impl_RowFits a0 a1 = some y) : OK Try.prog 40 [A a0, A a1] (B y) := by
  refine OK_of_pwp τ_ok Try.func40 rfl (by kernel_rfl) rfl fun Γ hX => ?_
  unfold impl_RowFits at h
  refine srveM [6] 51 [(0, A a0), (1, A a1)] [] ?_
  refine pwp_seq ?_
  refine pwp_seq ?_
  refine pwp_join (σ := Bool) (fun x1 => (⟨51, [(0, A a0), (1, A a1), (21, B x1)], []⟩ : St)) (fun x1 => impl_RowFits_j0 a0 a1 x1 = some y) ?_ ?_
  refine rvM [6] 1 51 [(0, A a0), (1, A a1), (7, A a0)] [] ?_
  obtain ⟨v17, hv18, h⟩ := bindS h
  refine opsP_callF τ 8 (ok_impl_ColumnsOk hv18) (FzTo.frz rfl) rfl (by kernel_rfl) ?_
  refine vM [6] 2 51 [(0, A a0), (1, A a1), (10, B ((!v17)))] [] ?_
  rcases fk ((!v17)) with hc22 | hc22
  replace h := bT hc22 h
  rw [hc22]
  refine veM [6] 11 51 [(0, A a0), (1, A a1), (21, B true)] [] ?_
  exact ⟨true, h, (Imp.to (st' := ⟨51, [(0, A a0), (1, A a1), (21, B true)], []⟩) [0, 1, 21] (by kernel_rfl)).trans (Imp.to [0, 1, 21] (by kernel_rfl))⟩
  replace h := bF hc22 h
  rw [hc22]
  refine vM [6] 1 51 [(0, A a0), (1, A a1), (10, B false), (11, A a1)] [] ?_
  obtain ⟨v19, hv20, h⟩ := bindS h
  refine opsP_callF τ 12 (ok_impl_RowOk hv20) (FzTo.frz rfl) rfl (by kernel_rfl) ?_
  refine vM [6] 3 51 [(0, A a0), (1, A a1), (15, B ((!v19)))] [] ?_
  rcases fk ((!v19)) with hc21 | hc21
  replace h := bT hc21 h
  rw [hc21]
  refine veM [6] 6 51 [(0, A a0), (1, A a1), (21, B true)] [] ?_
  exact ⟨true, h, (Imp.to (st' := ⟨51, [(0, A a0), (1, A a1), (21, B true)], []⟩) [0, 1, 21] (by kernel_rfl)).trans (Imp.to [0, 1, 21] (by kernel_rfl))⟩
  replace h := bF hc21 h
  rw [hc21]
  refine veM [6] 6 51 [(0, A a0), (1, A a1), (21, B ((!(((a1.length : Int)) == ((a0.length : Int))))))] [] ?_
  exact ⟨(!(((a1.length : Int)) == ((a0.length : Int)))), h, (Imp.to (st' := ⟨51, [(0, A a0), (1, A a1), (21, B ((!(((a1.length : Int)) == ((a0.length : Int))))))], []⟩) [0, 1, 21] (by kernel_rfl)).trans (Imp.to [0, 1, 21] (by kernel_rfl))⟩
  rintro x1 h
  unfold impl_RowFits_j0 at h
  refine pc h (fun h => ?_) (fun h => ?_)
  refine srveM [6] 51 [(4, B false)] [] ?_
  cases h
  exact pwp_ret rz
  refine pwp_skip ?_
  refine pwp_seq ?_
  refine srveM [6] 51 [(0, A a0), (22, A a1), (23, I ((a1.length : Int))), (24, I 0)] [] ?_
  refine pwp_block ?_
  refine pwp_loop (ι := Nat × Int) (fun (f4, x3) => (⟨51, [(0, A a0), (22, A a1), (23, I ((a1.length : Int))), (24, I x3)], []⟩ : St)) (fun (f4, x3) => impl_RowFits_l1 a0 a1 f4 x3 = some y) (fun (f4, x3) => f4) (FUEL, 0) h ((Imp.to (st' := ⟨51, [(0, A a0), (22, A a1), (23, I ((a1.length : Int))), (24, I 0)], []⟩) [0, 22, 23, 24] (by kernel_rfl)).trans (Imp.to [0, 22, 23, 24] (by kernel_rfl))) ?_
  rintro ⟨f4, x3⟩ h
  dsimp only at h ⊢
  rcases f4 with _ | f4
  cases h
  rw [impl_RowFits_l1] at h
  refine srveM [6] 51 [(0, A a0), (22, A a1), (23, I ((a1.length : Int))), (24, I x3), (25, B ((decide (x3 < ((a1.length : Int))))))] [] ?_
  refine pwp_seq ?_
  refine pc h (fun h => ?_) (fun h => ?_)
  refine pwp_skip ?_
  refine pwp_seq ?_
  refine pwp_block ?_
  refine srvM [6] 1 51 [(0, A a0), (22, A a1), (23, I ((a1.length : Int))), (24, I x3), (26, I x3)] [] ?_
  obtain ⟨v7, hv8, h⟩ := bindS h
  refine opsP_idx τ_ok 27 hv8 (by kernel_rfl) ?_
  refine veM [6] 4 51 [(0, A a0), (5, I x3), (6, .ptr 0 0 0), (22, A a1), (23, I ((a1.length : Int))), (24, I x3)] [some ⟨0, Enc.cells v7⟩] ?_
  refine pwp_seq ?_
  refine pwp_join (σ := Bool) (fun x9 => (⟨51, [(0, A a0), (22, A a1), (23, I ((a1.length : Int))), (24, I x3), (49, B x9)], [some ⟨0, Enc.cells v7⟩]⟩ : St)) (fun x9 => impl_RowFits_j2 x3 (impl_RowFits_l1 a0 a1 f4) x9 = some y) ?_ ?_
  refine pwp_imp (Imp.to (st' := ⟨51, [(0, A a0), (5, I x3), (6, .ptr 0 0 0), (22, A a1), (23, I ((a1.length : Int))), (24, I x3)], [some ⟨0, Enc.cells v7⟩]⟩) [0, 5, 6, 22, 23, 24] (by kernel_rfl)) ?_
  refine pwp_any ([[0], [0], [], [], [], [], [], [], [], [0], [0], [], [], [], [], [], [], [], [], [], []]) ([[], [], [], [], [], [], [], [], [], [], [], [], [], [], [], [], [], [], [], [], []]) rfl (by kernel_rfl) ?_
  refine qA_ev (st' := ⟨51, [(30, I v7.fKind), (29, .ptr 0 0 0), (0, A a0), (5, I x3), (6, .ptr 0 0 0), (22, A a1), (23, I ((a1.length : Int))), (24, I x3)], [some ⟨0, Enc.cells v7⟩]⟩) τ_ok [6] [0] 2 (by exact (And.intro (.inl (Enc.frz _)) trivial)) (by kernel_rfl) ?_
  refine qA_ev (st' := ⟨51, [(32, I x3), (31, A a0), (30, I v7.fKind), (29, .ptr 0 0 0), (0, A a0), (5, I x3), (6, .ptr 0 0 0), (22, A a1), (23, I ((a1.length : Int))), (24, I x3)], [some ⟨0, Enc.cells v7⟩]⟩) τ_ok [6] [] 2 (by exact trivial) (by kernel_rfl) ?_
  obtain ⟨v11, hv12, h⟩ := bindS h
  refine qA_E (dd := some 33) (x := .fptr (Enc.cells v11) 0) ([none]) (⟨51, [(33, .fptr (Enc.cells v11) 0), (32, I x3), (31, A a0), (30, I v7.fKind), (29, .ptr 0 0 0), (0, A a0), (5, I x3), (6, .ptr 0 0 0), (22, A a1), (23, I ((a1.length : Int))), (24, I x3)], [some ⟨0, Enc.cells v7⟩]⟩) (fun Γ' hΓ => CoreE.of_y (idxV_sound τ_ok (by kernel_rfl) hv12)) (by kernel_rfl) (by kernel_rfl) (by exact trivial) (.inr (.inr rfl)) (by kernel_rfl) ?_
  refine qA_ev (st' := ⟨51, [(37, B ((!(v7.fKind == v11.fKind)))), (36, B ((!(v7.fKind == v11.fKind)))), (35, I v11.fKind), (34, .fptr (Enc.cells v11) 0), (33, .fptr (Enc.cells v11) 0), (32, I x3), (31, A a0), (30, I v7.fKind), (29, .ptr 0 0 0), (0, A a0), (5, I x3), (6, .ptr 0 0 0), (22, A a1), (23, I ((a1.length : Int))), (24, I x3)], [some ⟨0, Enc.cells v7⟩]⟩) τ_ok [6] [] 4 (by exact trivial) (by kernel_rfl) ?_
  rcases fk ((!(v7.fKind == v11.fKind))) with hc16 | hc16
  replace h := bT hc16 h
  rw [hc16]
  refine qA_ev (st' := ⟨51, [(39, I v7.fKind), (38, .ptr 0 0 0), (37, B true), (36, B true), (35, I v11.fKind), (34, .fptr (Enc.cells v11) 0), (33, .fptr (Enc.cells v11) 0), (32, I x3), (31, A a0), (30, I v7.fKind), (29, .ptr 0 0 0), (0, A a0), (5, I x3), (6, .ptr 0 0 0), (22, A a1), (23, I ((a1.length : Int))), (24, I x3)], [some ⟨0, Enc.cells v7⟩]⟩) τ_ok [6] [0] 2 (by exact (And.intro (.inl (Enc.frz _)) trivial)) (by kernel_rfl) ?_
  refine qA_ev (st' := ⟨51, [(41, B ((!(v7.fKind == 0)))), (40, B ((!(v7.fKind == 0)))), (39, I v7.fKind), (38, .ptr 0 0 0), (37, B true), (36, B true), (35, I v11.fKind), (34, .fptr (Enc.cells v11) 0), (33, .fptr (Enc.cells v11) 0), (32, I x3), (31, A a0), (30, I v7.fKind), (29, .ptr 0 0 0), (0, A a0), (5, I x3), (6, .ptr 0 0 0), (22, A a1), (23, I ((a1.length : Int))), (24, I x3)], [some ⟨0, Enc.cells v7⟩]⟩) τ_ok [6] [] 2 (by exact trivial) (by kernel_rfl) ?_
  rcases fk ((!(v7.fKind == 0))) with hc15 | hc15
  replace h := bT hc15 h
  rw [hc15]
  refine qA_ev (st' := ⟨51, [(49, B true), (48, B true), (47, .lit undef), (46, .lit undef), (45, .lit undef), (44, .lit undef), (43, .lit undef), (42, .lit undef), (41, B true), (40, B true), (39, I v7.fKind), (38, .ptr 0 0 0), (37, B true), (36, B true), (35, I v11.fKind), (34, .fptr (Enc.cells v11) 0), (33, .fptr (Enc.cells v11) 0), (32, I x3), (31, A a0), (30, I v7.fKind), (29, .ptr 0 0 0), (0, A a0), (5, I x3), (6, .ptr 0 0 0), (22, A a1), (23, I ((a1.length : Int))), (24, I x3)], [some ⟨0, Enc.cells v7⟩]⟩) τ_ok [6] [] 8 (by exact trivial) (by kernel_rfl) ?_
  refine qA_end ?_
  refine opsP_imp (Imp.to (st' := ⟨51, [(0, A a0), (22, A a1), (23, I ((a1.length : Int))), (24, I x3), (38, .ptr 0 0 0), (39, I v7.fKind), (40, B true), (41, B true), (42, .lit undef), (43, .lit undef), (44, .lit undef), (45, .lit undef), (46, .lit undef), (47, .lit undef), (48, B true), (49, B true)], [some ⟨0, Enc.cells v7⟩]⟩) [0, 22, 23, 24, 38, 39, 40, 41, 42, 43, 44, 45, 46, 47, 48, 49] (by kernel_rfl)) ?_
  refine opsP_end rfl ?_
  exact ⟨true, h, (Imp.to (st' := ⟨51, [(0, A a0), (22, A a1), (23, I ((a1.length : Int))), (24, I x3), (49, B true)], [some ⟨0, Enc.cells v7⟩]⟩) [0, 22, 23, 24, 49] (by kernel_rfl)).trans (Imp.to [0, 22, 23, 24, 49] (by kernel_rfl))⟩
  replace h := bF hc15 h
  rw [hc15]
  refine qA_ev (st' := ⟨51, [(43, I x3), (42, A a0), (41, B false), (40, B false), (39, I v7.fKind), (38, .ptr 0 0 0), (37, B true), (36, B true), (35, I v11.fKind), (34, .fptr (Enc.cells v11) 0), (33, .fptr (Enc.cells v11) 0), (32, I x3), (31, A a0), (30, I v7.fKind), (29, .ptr 0 0 0), (0, A a0), (5, I x3), (6, .ptr 0 0 0), (22, A a1), (23, I ((a1.length : Int))), (24, I x3)], [some ⟨0, Enc.cells v7⟩]⟩) τ_ok [6] [] 2 (by exact trivial) (by kernel_rfl) ?_
  obtain ⟨v13, hv14, h⟩ := bindS h
  refine qA_E (dd := some 44) (x := .fptr (Enc.cells v13) 0) ([none]) (⟨51, [(44, .fptr (Enc.cells v13) 0), (43, I x3), (42, A a0), (41, B false), (40, B false), (39, I v7.fKind), (38, .ptr 0 0 0), (37, B true), (36, B true), (35, I v11.fKind), (34, .fptr (Enc.cells v11) 0), (33, .fptr (Enc.cells v11) 0), (32, I x3), (31, A a0), (30, I v7.fKind), (29, .ptr 0 0 0), (0, A a0), (5, I x3), (6, .ptr 0 0 0), (22, A a1), (23, I ((a1.length : Int))), (24, I x3)], [some ⟨0, Enc.cells v7⟩]⟩) (fun Γ' hΓ => CoreE.of_y (idxV_sound τ_ok (by kernel_rfl) hv14)) (by kernel_rfl) (by kernel_rfl) (by exact trivial) (.inr (.inr rfl)) (by kernel_rfl) ?_
  refine qA_ev (st' := ⟨51, [(49, B ((!v13.fEmpty))), (48, B ((!v13.fEmpty))), (47, B ((!v13.fEmpty))), (46, B v13.fEmpty), (45, .fptr (Enc.cells v13) 1), (44, .fptr (Enc.cells v13) 0), (43, I x3), (42, A a0), (41, B false), (40, B false), (39, I v7.fKind), (38, .ptr 0 0 0), (37, B true), (36, B true), (35, I v11.fKind), (34, .fptr (Enc.cells v11) 0), (33, .fptr (Enc.cells v11) 0), (32, I x3), (31, A a0), (30, I v7.fKind), (29, .ptr 0 0 0), (0, A a0), (5, I x3), (6, .ptr 0 0 0), (22, A a1), (23, I ((a1.length : Int))), (24, I x3)], [some ⟨0, Enc.cells v7⟩]⟩) τ_ok [6] [] 5 (by exact trivial) (by kernel_rfl) ?_
  refine qA_end ?_
  refine opsP_imp (Imp.to (st' := ⟨51, [(0, A a0), (22, A a1), (23, I ((a1.length : Int))), (24, I x3), (38, .ptr 0 0 0), (39, I v7.fKind), (40, B false), (41, B false), (42, A a0), (43, I x3), (44, .fptr (Enc.cells v13) 0), (45, .fptr (Enc.cells v13) 1), (46, B v13.fEmpty), (47, B ((!v13.fEmpty))), (48, B ((!v13.fEmpty))), (49, B ((!v13.fEmpty)))], [some ⟨0, Enc.cells v7⟩]⟩) [0, 22, 23, 24, 38, 39, 40, 41, 42, 43, 44, 45, 46, 47, 48, 49] (by kernel_rfl)) ?_
  refine opsP_end rfl ?_
  exact ⟨(!v13.fEmpty), h, (Imp.to (st' := ⟨51, [(0, A a0), (22, A a1), (23, I ((a1.length : Int))), (24, I x3), (49, B ((!v13.fEmpty)))], [some ⟨0, Enc.cells v7⟩]⟩) [0, 22, 23, 24, 49] (by kernel_rfl)).trans (Imp.to [0, 22, 23, 24, 49] (by kernel_rfl))⟩
  replace h := bF hc16 h
  rw [hc16]
  refine qA_ev (st' := ⟨51, [(39, .lit undef), (38, .lit undef), (37, B false), (36, B false), (35, I v11.fKind), (34, .fptr (Enc.cells v11) 0), (33, .fptr (Enc.cells v11) 0), (32, I x3), (31, A a0), (30, I v7.fKind), (29, .ptr 0 0 0), (0, A a0), (5, I x3), (6, .ptr 0 0 0), (22, A a1), (23, I ((a1.length : Int))), (24, I x3)], [some ⟨0, Enc.cells v7⟩]⟩) τ_ok [6] [0] 2 (by exact (And.intro (.inl (Enc.frz _)) trivial)) (by kernel_rfl) ?_
  refine qA_ev (st' := ⟨51, [(49, B false), (48, .lit undef), (47, .lit undef), (46, .lit undef), (45, .lit undef), (44, .lit undef), (43, .lit undef), (42, .lit undef), (41, .lit undef), (40, .lit undef), (39, .lit undef), (38, .lit undef), (37, B false), (36, B false), (35, I v11.fKind), (34, .fptr (Enc.cells v11) 0), (33, .fptr (Enc.cells v11) 0), (32, I x3), (31, A a0), (30, I v7.fKind), (29, .ptr 0 0 0), (0, A a0), (5, I x3), (6, .ptr 0 0 0), (22, A a1), (23, I ((a1.length : Int))), (24, I x3)], [some ⟨0, Enc.cells v7⟩]⟩) τ_ok [6] [] 10 (by exact trivial) (by kernel_rfl) ?_
  refine qA_end ?_
  refine opsP_imp (Imp.to (st' := ⟨51, [(0, A a0), (22, A a1), (23, I ((a1.length : Int))), (24, I x3), (38, .lit undef), (39, .lit undef), (40, .lit undef), (41, .lit undef), (42, .lit undef), (43, .lit undef), (44, .lit undef), (45, .lit undef), (46, .lit undef), (47, .lit undef), (48, .lit undef), (49, B false)], [some ⟨0, Enc.cells v7⟩]⟩) [0, 22, 23, 24, 38, 39, 40, 41, 42, 43, 44, 45, 46, 47, 48, 49] (by kernel_rfl)) ?_
  refine opsP_end rfl ?_
  exact ⟨false, h, (Imp.to (st' := ⟨51, [(0, A a0), (22, A a1), (23, I ((a1.length : Int))), (24, I x3), (49, B false)], [some ⟨0, Enc.cells v7⟩]⟩) [0, 22, 23, 24, 49] (by kernel_rfl)).trans (Imp.to [0, 22, 23, 24, 49] (by kernel_rfl))⟩
  rintro x9 h
  unfold impl_RowFits_j2 at h
  refine pc h (fun h => ?_) (fun h => ?_)
  refine srveM [6] 51 [(4, B false)] [some ⟨0, Enc.cells v7⟩] ?_
  cases h
  exact pwp_ret rz
  refine pwp_skip ?_
  refine rveM [6] 51 [(0, A a0), (22, A a1), (23, I ((a1.length : Int))), (24, I ((w64 (x3 + 1))))] [some ⟨0, Enc.cells v7⟩] ?_
  exact ⟨(f4, (w64 (x3 + 1))), h, Nat.lt_succ_self _, (Imp.to (st' := ⟨51, [(0, A a0), (22, A a1), (23, I ((a1.length : Int))), (24, I ((w64 (x3 + 1))))], [some ⟨0, Enc.cells v7⟩]⟩) [0, 22, 23, 24] (by kernel_rfl)).trans ((Imp.truncS (st' := ⟨51, [(0, A a0), (22, A a1), (23, I ((a1.length : Int))), (24, I ((w64 (x3 + 1))))], []⟩) 0 (fun b hb => absurd hb (hX b)) (by kernel_rfl) (allBelow_mem (by exact (And.intro rfl (And.intro rfl (And.intro rfl (And.intro rfl trivial)))))) (by exact trivial) (by kernel_rfl)).trans (Imp.to [0, 22, 23, 24] (by kernel_rfl)))⟩
  refine pwp_exit ?_
  refine srveM [6] 51 [(4, B true)] [] ?_
  cases h
  exact pwp_ret rz
def spec_DrawBondOk (a0 : List UInt8) : Option ((List T_impl_Table) × T_impl_Bond) := (spec_l20Open a0).bind fun v1 => (spec_l20Tables v1 0).bind fun v3 => (spec_l20Bond v3.2 v3.1 3).bind fun v5 => some (v3.1, v5.1)
theorem ok_spec_DrawBondOk {a0 : List UInt8} {y : (List T_impl_Table) × T_impl_Bond} (h : spec_DrawBondOk a0 = some y) : OK Try.prog 4 [A a0] (.tup [A y.1, E y.2]) := by
  refine OK_of_pwp τ_ok Try.func4 rfl (by kernel_rfl) rfl fun Γ hX => ?_
  unfold spec_DrawBondOk at h
  refine srveM [3] 14 [(0, A a0), (3, .ptr 0 0 0)] [some ⟨0, Enc.cells ((T_impl_Bond.mk 0 0 [] 0 [] false []))⟩] ?_
  refine srvM [3] 1 14 [(3, .ptr 0 0 0), (6, A a0)] [some ⟨0, Enc.cells ((T_impl_Bond.mk 0 0 [] 0 [] false []))⟩] ?_
  obtain ⟨v1, hv2, h⟩ := bindS h
  refine opsP_callO τ 7 (ok_spec_l20Open hv2) rfl (by kernel_rfl) ?_
  refine veM [3] 1 14 [(3, .ptr 0 0 0), (4, .ptr 1 0 0)] [some ⟨0, Enc.cells ((T_impl_Bond.mk 0 0 [] 0 [] false []))⟩, some ⟨0, Enc.cells v1⟩] ?_
  refine srvM [3] 1 14 [(3, .ptr 0 0 0), (4, .ptr 1 0 0), (8, .ptr 1 0 0)] [some ⟨0, Enc.cells ((T_impl_Bond.mk 0 0 [] 0 [] false []))⟩, some ⟨0, Enc.cells v1⟩] ?_
  obtain ⟨v3, hv4, h⟩ := bindS h
  refine opsP_callB τ 9 1 0 (ok_spec_l20Tables hv4) (FzTo.O _) rfl (by kernel_rfl) ?_
  refine veM [3] 1 14 [(3, .ptr 0 0 0), (4, .ptr 1 0 0), (5, A v3.1)] [some ⟨0, Enc.cells ((T_impl_Bond.mk 0 0 [] 0 [] false []))⟩, some ⟨0, Enc.cells v3.2⟩] ?_
  refine srvM [3] 3 14 [(3, .ptr 0 0 0), (10, A v3.1), (11, .ptr 1 0 0), (12, A v3.1)] [some ⟨0, Enc.cells ((T_impl_Bond.mk 0 0 [] 0 [] false []))⟩, some ⟨0, Enc.cells v3.2⟩] ?_
  obtain ⟨v5, hv6, h⟩ := bindS h
  refine opsP_callB τ 13 1 0 (ok_spec_l20Bond hv6) (FzTo.frz rfl) rfl (by kernel_rfl) ?_
  refine veM [3] 2 14 [(2, A v3.1), (3, .ptr 0 0 0)] [some ⟨0, Enc.cells v5.1⟩, some ⟨0, Enc.cells v5.2⟩] ?_
  have h := si h
  subst h
  exact pwp_ret (rt (.tup [A v3.1, E v5.1]) (OutP.tup (OutL.cons (OutP.frz (by kernel_rfl)) (OutL.cons (OutP.frz (by kernel_rfl)) (OutL.nil _)))))
def impl_bondOk_l2 (a0 : List T_impl_Table) (a1 : T_impl_Bond) (v4 : T_impl_Table) : Nat → Int → Option Bool
  | 0, _ => none
  | f22 + 1, x21 => bif (decide (x21 < ((a1.fList.length : Int)))) then (getI a1.fList x21).bind fun v25 => (getI v4.fColumns v25).bind fun v27 => (getI a0 a1.fOf).bind fun v29 => (getI a1.fTo x21).bind fun v31 => (getI v29.fColumns v31).bind fun v33 => bif (!(v27.fKind == v33.fKind)) then some false else (impl_bondOk_l2 a0 a1 v4 f22) ((w64 (x21 + 1))) else some true
def impl_bondOk_j1 (a0 : List T_impl_Table) (a1 : T_impl_Bond) (v4 : T_impl_Table) (x18 : Bool) : Option Bool := bif x18 then some false else impl_bondOk_l2 a0 a1 v4 FUEL 0
def impl_bondOk_j0 (a0 : List T_impl_Table) (a1 : T_impl_Bond) (v4 : T_impl_Table) (x6 : Bool) : Option Bool := bif (a1.fKind == 1) then (impl_listOk v4 a1.fList).bind fun v8 => bif v8 then bif x6 then some ((((a1.fE.length : Int)) == 0)) else some false else some false else bif (a1.fKind == 3) then (impl_ExprKind v4.fColumns a1.fE).bind fun v13 => bif (v13 == 3) then bif x6 then some ((((a1.fList.length : Int)) == 0)) else some false else some false else bif (a1.fKind == 2) then (impl_between a1.fOf 0 ((w64 (((a0.length : Int)) - 1)))).bind fun v36 => bif (!v36) then impl_bondOk_j1 a0 a1 v4 true else bif (decide (((a1.fE.length : Int)) > 0)) then impl_bondOk_j1 a0 a1 v4 true else (impl_listOk v4 a1.fList).bind fun v38 => bif (!v38) then impl_bondOk_j1 a0 a1 v4 true else (getI a0 a1.fOf).bind fun v40 => (impl_listOk v40 a1.fTo).bind fun v42 => bif (!v42) then impl_bondOk_j1 a0 a1 v4 true else impl_bondOk_j1 a0 a1 v4 ((!(((a1.fTo.length : Int)) == ((a1.fList.length : Int))))) else some false
def impl_bondOk (a0 : List T_impl_Table) (a1 : T_impl_Bond) : Option Bool := (impl_between a1.fIn 0 ((w64 (((a0.length : Int)) - 1)))).bind fun v1 => bif (!v1) then some false else (getI a0 a1.fIn).bind fun v4 => bif (a1.fOf == 0) then bif (((a1.fTo.length : Int)) == 0) then impl_bondOk_j0 a0 a1 v4 ((!a1.fFollow)) else impl_bondOk_j0 a0 a1 v4 false else impl_bondOk_j0 a0 a1 v4 false
theorem ok_impl_bondOk {a0 : List T_impl_Table} {a1 : T_impl_Bond} {y : Bool} (h : impl_bondOk a0 a1 = some y) : OK Try.prog 13 [A a0, E a1] (B y) := by
  refine OK_of_pwp τ_ok Try.func13 rfl (by kernel_rfl) rfl fun Γ hX => ?_
  unfold impl_bondOk at h
  refine srveM [5] 141 [(0, A a0), (3, .fptr (Enc.cells a1) 0)] [] ?_
  refine pwp_seq ?_
  refine srvM [5] 5 141 [(0, A a0), (3, .fptr (Enc.cells a1) 0), (10, I a1.fIn), (13, I ((w64 (((a0.length : Int)) - 1))))] [] ?_
  obtain ⟨v1, hv2, h⟩ := bindS h
  refine opsP_callF τ 14 (ok_impl_between hv2) (FzTo.frz rfl) rfl (by kernel_rfl) ?_
  refine veM [5] 1 141 [(0, A a0), (3, .fptr (Enc.cells a1) 0), (15, B ((!v1)))] [] ?_
  refine pc h (fun h => ?_) (fun h => ?_)
  refine srveM [5] 141 [(4, B false)] [] ?_
  cases h
  exact pwp_ret rz
  refine pwp_skip ?_
  refine srvM [5] 3 141 [(0, A a0), (3, .fptr (Enc.cells a1) 0), (16, A a0), (18, I a1.fIn)] [] ?_
  obtain ⟨v4, hv5, h⟩ := bindS h
  refine opsP_idx τ_ok 19 hv5 (by kernel_rfl) ?_
  refine veM [5] 3 141 [(0, A a0), (3, .fptr (Enc.cells a1) 0), (5, .ptr 0 0 0)] [some ⟨0, Enc.cells v4⟩] ?_
  refine pwp_seq ?_
  refine pwp_join (σ := Bool) (fun x6 => (⟨141, [(0, A a0), (3, .fptr (Enc.cells a1) 0), (5, .ptr 0 0 0), (6, B x6)], [some ⟨0, Enc.cells v4⟩]⟩ : St)) (fun x6 => impl_bondOk_j0 a0 a1 v4 x6 = some y) ?_ ?_
  refine rvM [5] 4 141 [(0, A a0), (3, .fptr (Enc.cells a1) 0), (5, .ptr 0 0 0), (24, B ((a1.fOf == 0)))] [some ⟨0, Enc.cells v4⟩] ?_
  rcases fk ((a1.fOf == 0)) with hc49 | hc49
  replace h := bT hc49 h
  rw [hc49]
  refine vM [5] 6 141 [(0, A a0), (3, .fptr (Enc.cells a1) 0), (5, .ptr 0 0 0), (30, B ((((a1.fTo.length : Int)) == 0)))] [some ⟨0, Enc.cells v4⟩] ?_
  rcases fk ((((a1.fTo.length : Int)) == 0)) with hc48 | hc48
  replace h := bT hc48 h
  rw [hc48]
  refine veM [5] 5 141 [(0, A a0), (3, .fptr (Enc.cells a1) 0), (5, .ptr 0 0 0), (6, B ((!a1.fFollow)))] [some ⟨0, Enc.cells v4⟩] ?_
  exact ⟨(!a1.fFollow), h, (Imp.to (st' := ⟨141, [(0, A a0), (3, .fptr (Enc.cells a1) 0), (5, .ptr 0 0 0), (6, B ((!a1.fFollow)))], [some ⟨0, Enc.cells v4⟩]⟩) [0, 3, 5, 6] (by kernel_rfl)).trans (Imp.to [0, 3, 5, 6] (by kernel_rfl))⟩
  replace h := bF hc48 h
  rw [hc48]
  refine veM [5] 5 141 [(0, A a0), (3, .fptr (Enc.cells a1) 0), (5, .ptr 0 0 0), (6, B false)] [some ⟨0, Enc.cells v4⟩] ?_
  exact ⟨false, h, (Imp.to (st' := ⟨141, [(0, A a0), (3, .fptr (Enc.cells a1) 0), (5, .ptr 0 0 0), (6, B false)], [some ⟨0, Enc.cells v4⟩]⟩) [0, 3, 5, 6] (by kernel_rfl)).trans (Imp.to [0, 3, 5, 6] (by kernel_rfl))⟩
  replace h := bF hc49 h
  rw [hc49]
  refine veM [5] 11 141 [(0, A a0), (3, .fptr (Enc.cells a1) 0), (5, .ptr 0 0 0), (6, B false)] [some ⟨0, Enc.cells v4⟩] ?_
  exact ⟨false, h, (Imp.to (st' := ⟨141, [(0, A a0), (3, .fptr (Enc.cells a1) 0), (5, .ptr 0 0 0), (6, B false)], [some ⟨0, Enc.cells v4⟩]⟩) [0, 3, 5, 6] (by kernel_rfl)).trans (Imp.to [0, 3, 5, 6] (by kernel_rfl))⟩
  rintro x6 h
  unfold impl_bondOk_j0 at h
  refine pwp_seq ?_
  refine srveM [5] 141 [(0, A a0), (3, .fptr (Enc.cells a1) 0), (5, .ptr 0 0 0), (6, B x6), (36, I a1.fKind)] [some ⟨0, Enc.cells v4⟩] ?_
  refine pwp_block ?_
  refine srveM [5] 141 [(0, A a0), (3, .fptr (Enc.cells a1) 0), (5, .ptr 0 0 0), (6, B x6), (36, I a1.fKind), (37, B ((a1.fKind == 1)))] [some ⟨0, Enc.cells v4⟩] ?_
  refine pc h (fun h => ?_) (fun h => ?_)
  refine srvM [5] 3 141 [(3, .fptr (Enc.cells a1) 0), (6, B x6), (39, E v4), (41, A a1.fList)] [some ⟨0, Enc.cells v4⟩] ?_
  obtain ⟨v8, hv9, h⟩ := bindS h
  refine opsP_callF τ 42 (ok_impl_listOk hv9) (FzTo.frz rfl) rfl (by kernel_rfl) ?_
  refine vM [5] 1 141 [(3, .fptr (Enc.cells a1) 0), (6, B x6), (43, B v8)] [some ⟨0, Enc.cells v4⟩] ?_
  rcases Bool.eq_false_or_eq_true v8 with hc11 | hc11
  replace h := bT hc11 h
  rw [hc11]
  refine vM [5] 3 141 [(3, .fptr (Enc.cells a1) 0), (46, B x6)] [some ⟨0, Enc.cells v4⟩] ?_
  rcases Bool.eq_false_or_eq_true x6 with hc10 | hc10
  replace h := bT hc10 h
  rw [hc10]
  refine veM [5] 6 141 [(4, B ((((a1.fE.length : Int)) == 0)))] [some ⟨0, Enc.cells v4⟩] ?_
  cases h
  exact pwp_ret rz
  replace h := bF hc10 h
  rw [hc10]
  refine veM [5] 6 141 [(4, B false)] [some ⟨0, Enc.cells v4⟩] ?_
  cases h
  exact pwp_ret rz
  replace h := bF hc11 h
  rw [hc11]
  refine veM [5] 9 141 [(4, B false)] [some ⟨0, Enc.cells v4⟩] ?_
  cases h
  exact pwp_ret rz
  refine srveM [5] 141 [(0, A a0), (3, .fptr (Enc.cells a1) 0), (5, .ptr 0 0 0), (6, B x6), (36, I a1.fKind), (52, B ((a1.fKind == 3)))] [some ⟨0, Enc.cells v4⟩] ?_
  refine pc h (fun h => ?_) (fun h => ?_)
  refine srvM [5] 4 141 [(3, .fptr (Enc.cells a1) 0), (6, B x6), (55, A v4.fColumns), (57, A a1.fE)] [some ⟨0, Enc.cells v4⟩] ?_
  obtain ⟨v13, hv14, h⟩ := bindS h
  refine opsP_callF τ 58 (ok_impl_ExprKind hv14) (FzTo.frz rfl) rfl (by kernel_rfl) ?_
  refine vM [5] 2 141 [(3, .fptr (Enc.cells a1) 0), (6, B x6), (60, B ((v13 == 3)))] [some ⟨0, Enc.cells v4⟩] ?_
  rcases fk ((v13 == 3)) with hc16 | hc16
  replace h := bT hc16 h
  rw [hc16]
  refine vM [5] 3 141 [(3, .fptr (Enc.cells a1) 0), (63, B x6)] [some ⟨0, Enc.cells v4⟩] ?_
  rcases Bool.eq_false_or_eq_true x6 with hc15 | hc15
  replace h := bT hc15 h
  rw [hc15]
  refine veM [5] 6 141 [(4, B ((((a1.fList.length : Int)) == 0)))] [some ⟨0, Enc.cells v4⟩] ?_
  cases h
  exact pwp_ret rz
  replace h := bF hc15 h
  rw [hc15]
  refine veM [5] 6 141 [(4, B false)] [some ⟨0, Enc.cells v4⟩] ?_
  cases h
  exact pwp_ret rz
  replace h := bF hc16 h
  rw [hc16]
  refine veM [5] 9 141 [(4, B false)] [some ⟨0, Enc.cells v4⟩] ?_
  cases h
  exact pwp_ret rz
  refine srveM [5] 141 [(0, A a0), (3, .fptr (Enc.cells a1) 0), (5, .ptr 0 0 0), (69, B ((a1.fKind == 2)))] [some ⟨0, Enc.cells v4⟩] ?_
  refine pc h (fun h => ?_) (fun h => ?_)
  refine pwp_seq ?_
  refine pwp_seq ?_
  refine pwp_join (σ := Bool) (fun x18 => (⟨141, [(0, A a0), (3, .fptr (Enc.cells a1) 0), (5, .ptr 0 0 0), (110, B x18)], [some ⟨0, Enc.cells v4⟩]⟩ : St)) (fun x18 => impl_bondOk_j1 a0 a1 v4 x18 = some y) ?_ ?_
  refine pwp_imp (Imp.to (st' := ⟨141, [(0, A a0), (3, .fptr (Enc.cells a1) 0), (5, .ptr 0 0 0)], [some ⟨0, Enc.cells v4⟩]⟩) [0, 3, 5] (by kernel_rfl)) ?_
  refine pwp_any ([[], [], [], [], [], [], [], [], [], [], [], [], [], [], [0], [], [], [], [], [], [], [], [], [], [], [], [], [], [], [], [], [], [], [], [], [], [], [], [], []]) ([[], [], [], [], [], [], [], [], [], [], [], [], [], [], [], [], [], [], [], [], [], [], [], [], [], [], [], [], [], [], [], [], [], [], [], [], [], [], [], []]) rfl (by kernel_rfl) ?_
  refine qA_ev (st' := ⟨141, [(75, I ((w64 (((a0.length : Int)) - 1)))), (74, I ((a0.length : Int))), (73, A a0), (72, I a1.fOf), (71, .fptr (Enc.cells a1) 3), (0, A a0), (3, .fptr (Enc.cells a1) 0), (5, .ptr 0 0 0)], [some ⟨0, Enc.cells v4⟩]⟩) τ_ok [5] [] 5 (by exact trivial) (by kernel_rfl) ?_
  obtain ⟨v36, hv37, h⟩ := bindS h
  refine qA_E (dd := some 76) (x := B v36) ([none]) (⟨141, [(76, B v36), (75, I ((w64 (((a0.length : Int)) - 1)))), (74, I ((a0.length : Int))), (73, A a0), (72, I a1.fOf), (71, .fptr (Enc.cells a1) 3), (0, A a0), (3, .fptr (Enc.cells a1) 0), (5, .ptr 0 0 0)], [some ⟨0, Enc.cells v4⟩]⟩) (fun Γ' hΓ => CoreE.of_g (callV_sound (τ := τ) (by kernel_rfl) rfl (ok_impl_between hv37) (FzTo.frz rfl))) (by kernel_rfl) (by kernel_rfl) (by exact trivial) (.inr (.inr rfl)) (by kernel_rfl) ?_
  refine qA_ev (st' := ⟨141, [(78, B ((!v36))), (77, B ((!v36))), (76, B v36), (75, I ((w64 (((a0.length : Int)) - 1)))), (74, I ((a0.length : Int))), (73, A a0), (72, I a1.fOf), (71, .fptr (Enc.cells a1) 3), (0, A a0), (3, .fptr (Enc.cells a1) 0), (5, .ptr 0 0 0)], [some ⟨0, Enc.cells v4⟩]⟩) τ_ok [5] [] 2 (by exact trivial) (by kernel_rfl) ?_
  rcases fk ((!v36)) with hc47 | hc47
  replace h := bT hc47 h
  rw [hc47]
  refine qA_ev (st' := ⟨141, [(84, B true), (83, B true), (82, .lit undef), (81, .lit undef), (80, .lit undef), (79, .lit undef), (78, B true), (77, B true), (76, B v36), (75, I ((w64 (((a0.length : Int)) - 1)))), (74, I ((a0.length : Int))), (73, A a0), (72, I a1.fOf), (71, .fptr (Enc.cells a1) 3), (0, A a0), (3, .fptr (Enc.cells a1) 0), (5, .ptr 0 0 0)], [some ⟨0, Enc.cells v4⟩]⟩) τ_ok [5] [] 6 (by exact trivial) (by kernel_rfl) ?_
  refine qA_ev (st' := ⟨141, [(85, .lit undef), (84, B true), (83, B true), (82, .lit undef), (81, .lit undef), (80, .lit undef), (79, .lit undef), (78, B true), (77, B true), (76, B v36), (75, I ((w64 (((a0.length : Int)) - 1)))), (74, I ((a0.length : Int))), (73, A a0), (72, I a1.fOf), (71, .fptr (Enc.cells a1) 3), (0, A a0), (3, .fptr (Enc.cells a1) 0), (5, .ptr 0 0 0)], [some ⟨0, Enc.cells v4⟩]⟩) τ_ok [5] [0] 1 (by exact (And.intro (.inl (Enc.frz _)) trivial)) (by kernel_rfl) ?_
  refine qA_ev (st' := ⟨141, [(110, B true), (109, .lit undef), (108, .lit undef), (107, .lit undef), (106, .lit undef), (105, .lit undef), (104, .lit undef), (103, .lit undef), (102, B true), (101, B true), (100, .lit undef), (99, .lit undef), (98, .lit undef), (97, .lit undef), (96, .lit undef), (95, .lit undef), (94, .lit undef), (93, .lit undef), (92, .lit undef), (91, B true), (90, B true), (89, .lit undef), (88, .lit undef), (87, .lit undef), (86, .lit undef), (85, .lit undef), (84, B true), (83, B true), (82, .lit undef), (81, .lit undef), (80, .lit undef), (79, .lit undef), (78, B true), (77, B true), (76, B v36), (75, I ((w64 (((a0.length : Int)) - 1)))), (74, I ((a0.length : Int))), (73, A a0), (72, I a1.fOf), (71, .fptr (Enc.cells a1) 3), (0, A a0), (3, .fptr (Enc.cells a1) 0), (5, .ptr 0 0 0)], [some ⟨0, Enc.cells v4⟩]⟩) τ_ok [5] [] 25 (by exact trivial) (by kernel_rfl) ?_
  refine qA_end ?_
  refine opsP_imp (Imp.to (st' := ⟨141, [(0, A a0), (3, .fptr (Enc.cells a1) 0), (5, .ptr 0 0 0), (110, B true)], [some ⟨0, Enc.cells v4⟩]⟩) [0, 3, 5, 110] (by kernel_rfl)) ?_
  refine opsP_end rfl ?_
  exact ⟨true, h, (Imp.to (st' := ⟨141, [(0, A a0), (3, .fptr (Enc.cells a1) 0), (5, .ptr 0 0 0), (110, B true)], [some ⟨0, Enc.cells v4⟩]⟩) [0, 3, 5, 110] (by kernel_rfl)).trans (Imp.to [0, 3, 5, 110] (by kernel_rfl))⟩
  replace h := bF hc47 h
  rw [hc47]
  refine qA_ev (st' := ⟨141, [(84, B ((decide (((a1.fE.length : Int)) > 0)))), (83, B ((decide (((a1.fE.length : Int)) > 0)))), (82, B ((decide (((a1.fE.length : Int)) > 0)))), (81, I ((a1.fE.length : Int))), (80, A a1.fE), (79, .fptr (Enc.cells a1) 6), (78, B false), (77, B false), (76, B v36), (75, I ((w64 (((a0.length : Int)) - 1)))), (74, I ((a0.length : Int))), (73, A a0), (72, I a1.fOf), (71, .fptr (Enc.cells a1) 3), (0, A a0), (3, .fptr (Enc.cells a1) 0), (5, .ptr 0 0 0)], [some ⟨0, Enc.cells v4⟩]⟩) τ_ok [5] [] 6 (by exact trivial) (by kernel_rfl) ?_
  rcases fk ((decide (((a1.fE.length : Int)) > 0))) with hc46 | hc46
  replace h := bT hc46 h
  rw [hc46]
  refine qA_ev (st' := ⟨141, [(85, .lit undef), (84, B true), (83, B true), (82, B true), (81, I ((a1.fE.length : Int))), (80, A a1.fE), (79, .fptr (Enc.cells a1) 6), (78, B false), (77, B false), (76, B v36), (75, I ((w64 (((a0.length : Int)) - 1)))), (74, I ((a0.length : Int))), (73, A a0), (72, I a1.fOf), (71, .fptr (Enc.cells a1) 3), (0, A a0), (3, .fptr (Enc.cells a1) 0), (5, .ptr 0 0 0)], [some ⟨0, Enc.cells v4⟩]⟩) τ_ok [5] [0] 1 (by exact (And.intro (.inl (Enc.frz _)) trivial)) (by kernel_rfl) ?_
  refine qA_ev (st' := ⟨141, [(110, B true), (109, .lit undef), (108, .lit undef), (107, .lit undef), (106, .lit undef), (105, .lit undef), (104, .lit undef), (103, .lit undef), (102, B true), (101, B true), (100, .lit undef), (99, .lit undef), (98, .lit undef), (97, .lit undef), (96, .lit undef), (95, .lit undef), (94, .lit undef), (93, .lit undef), (92, .lit undef), (91, B true), (90, B true), (89, .lit undef), (88, .lit undef), (87, .lit undef), (86, .lit undef), (85, .lit undef), (84, B true), (83, B true), (82, B true), (81, I ((a1.fE.length : Int))), (80, A a1.fE), (79, .fptr (Enc.cells a1) 6), (78, B false), (77, B false), (76, B v36), (75, I ((w64 (((a0.length : Int)) - 1)))), (74, I ((a0.length : Int))), (73, A a0), (72, I a1.fOf), (71, .fptr (Enc.cells a1) 3), (0, A a0), (3, .fptr (Enc.cells a1) 0), (5, .ptr 0 0 0)], [some ⟨0, Enc.cells v4⟩]⟩) τ_ok [5] [] 25 (by exact trivial) (by kernel_rfl) ?_
  refine qA_end ?_
  refine opsP_imp (Imp.to (st' := ⟨141, [(0, A a0), (3, .fptr (Enc.cells a1) 0), (5, .ptr 0 0 0), (110, B true)], [some ⟨0, Enc.cells v4⟩]⟩) [0, 3, 5, 110] (by kernel_rfl)) ?_
  refine opsP_end rfl ?_
  exact ⟨true, h, (Imp.to (st' := ⟨141, [(0, A a0), (3, .fptr (Enc.cells a1) 0), (5, .ptr 0 0 0), (110, B true)], [some ⟨0, Enc.cells v4⟩]⟩) [0, 3, 5, 110] (by kernel_rfl)).trans (Imp.to [0, 3, 5, 110] (by kernel_rfl))⟩
  replace h := bF hc46 h
  rw [hc46]
  refine qA_ev (st' := ⟨141, [(85, E v4), (84, B false), (83, B false), (82, B false), (81, I ((a1.fE.length : Int))), (80, A a1.fE), (79, .fptr (Enc.cells a1) 6), (78, B false), (77, B false), (76, B v36), (75, I ((w64 (((a0.length : Int)) - 1)))), (74, I ((a0.length : Int))), (73, A a0), (72, I a1.fOf), (71, .fptr (Enc.cells a1) 3), (0, A a0), (3, .fptr (Enc.cells a1) 0), (5, .ptr 0 0 0)], [some ⟨0, Enc.cells v4⟩]⟩) τ_ok [5] [0] 1 (by exact (And.intro (.inl (Enc.frz _)) trivial)) (by kernel_rfl) ?_
  refine qA_ev (st' := ⟨141, [(87, A a1.fList), (86, .fptr (Enc.cells a1) 2), (85, E v4), (84, B false), (83, B false), (82, B false), (81, I ((a1.fE.length : Int))), (80, A a1.fE), (79, .fptr (Enc.cells a1) 6), (78, B false), (77, B false), (76, B v36), (75, I ((w64 (((a0.length : Int)) - 1)))), (74, I ((a0.length : Int))), (73, A a0), (72, I a1.fOf), (71, .fptr (Enc.cells a1) 3), (0, A a0), (3, .fptr (Enc.cells a1) 0), (5, .ptr 0 0 0)], [some ⟨0, Enc.cells v4⟩]⟩) τ_ok [5] [] 2 (by exact trivial) (by kernel_rfl) ?_
  obtain ⟨v38, hv39, h⟩ := bindS h
  refine qA_E (dd := some 88) (x := B v38) ([none]) (⟨141, [(88, B v38), (87, A a1.fList), (86, .fptr (Enc.cells a1) 2), (85, E v4), (84, B false), (83, B false), (82, B false), (81, I ((a1.fE.length : Int))), (80, A a1.fE), (79, .fptr (Enc.cells a1) 6), (78, B false), (77, B false), (76, B v36), (75, I ((w64 (((a0.length : Int)) - 1)))), (74, I ((a0.length : Int))), (73, A a0), (72, I a1.fOf), (71, .fptr (Enc.cells a1) 3), (0, A a0), (3, .fptr (Enc.cells a1) 0), (5, .ptr 0 0 0)], [some ⟨0, Enc.cells v4⟩]⟩) (fun Γ' hΓ => CoreE.of_g (callV_sound (τ := τ) (by kernel_rfl) rfl (ok_impl_listOk hv39) (FzTo.frz rfl))) (by kernel_rfl) (by kernel_rfl) (by exact trivial) (.inr (.inr rfl)) (by kernel_rfl) ?_
  refine qA_ev (st' := ⟨141, [(91, B ((!v38))), (90, B ((!v38))), (89, B ((!v38))), (88, B v38), (87, A a1.fList), (86, .fptr (Enc.cells a1) 2), (85, E v4), (84, B false), (83, B false), (82, B false), (81, I ((a1.fE.length : Int))), (80, A a1.fE), (79, .fptr (Enc.cells a1) 6), (78, B false), (77, B false), (76, B v36), (75, I ((w64 (((a0.length : Int)) - 1)))), (74, I ((a0.length : Int))), (73, A a0), (72, I a1.fOf), (71, .fptr (Enc.cells a1) 3), (0, A a0), (3, .fptr (Enc.cells a1) 0), (5, .ptr 0 0 0)], [some ⟨0, Enc.cells v4⟩]⟩) τ_ok [5] [] 3 (by exact trivial) (by kernel_rfl) ?_
  rcases fk ((!v38)) with hc45 | hc45
  replace h := bT hc45 h
  rw [hc45]
  refine qA_ev (st' := ⟨141, [(110, B true), (109, .lit undef), (108, .lit undef), (107, .lit undef), (106, .lit undef), (105, .lit undef), (104, .lit undef), (103, .lit undef), (102, B true), (101, B true), (100, .lit undef), (99, .lit undef), (98, .lit undef), (97, .lit undef), (96, .lit undef), (95, .lit undef), (94, .lit undef), (93, .lit undef), (92, .lit undef), (91, B true), (90, B true), (89, B true), (88, B v38), (87, A a1.fList), (86, .fptr (Enc.cells a1) 2), (85, E v4), (84, B false), (83, B false), (82, B false), (81, I ((a1.fE.length : Int))), (80, A a1.fE), (79, .fptr (Enc.cells a1) 6), (78, B false), (77, B false), (76, B v36), (75, I ((w64 (((a0.length : Int)) - 1)))), (74, I ((a0.length : Int))), (73, A a0), (72, I a1.fOf), (71, .fptr (Enc.cells a1) 3), (0, A a0), (3, .fptr (Enc.cells a1) 0), (5, .ptr 0 0 0)], [some ⟨0, Enc.cells v4⟩]⟩) τ_ok [5] [] 19 (by exact trivial) (by kernel_rfl) ?_
  refine qA_end ?_
  refine opsP_imp (Imp.to (st' := ⟨141, [(0, A a0), (3, .fptr (Enc.cells a1) 0), (5, .ptr 0 0 0), (110, B true)], [some ⟨0, Enc.cells v4⟩]⟩) [0, 3, 5, 110] (by kernel_rfl)) ?_
  refine opsP_end rfl ?_
  exact ⟨true, h, (Imp.to (st' := ⟨141, [(0, A a0), (3, .fptr (Enc.cells a1) 0), (5, .ptr 0 0 0), (110, B true)], [some ⟨0, Enc.cells v4⟩]⟩) [0, 3, 5, 110] (by kernel_rfl)).trans (Imp.to [0, 3, 5, 110] (by kernel_rfl))⟩
  replace h := bF hc45 h
  rw [hc45]
  refine qA_ev (st' := ⟨141, [(94, I a1.fOf), (93, .fptr (Enc.cells a1) 3), (92, A a0), (91, B false), (90, B false), (89, B false), (88, B v38), (87, A a1.fList), (86, .fptr (Enc.cells a1) 2), (85, E v4), (84, B false), (83, B false), (82, B false), (81, I ((a1.fE.length : Int))), (80, A a1.fE), (79, .fptr (Enc.cells a1) 6), (78, B false), (77, B false), (76, B v36), (75, I ((w64 (((a0.length : Int)) - 1)))), (74, I ((a0.length : Int))), (73, A a0), (72, I a1.fOf), (71, .fptr (Enc.cells a1) 3), (0, A a0), (3, .fptr (Enc.cells a1) 0), (5, .ptr 0 0 0)], [some ⟨0, Enc.cells v4⟩]⟩) τ_ok [5] [] 3 (by exact trivial) (by kernel_rfl) ?_
  obtain ⟨v40, hv41, h⟩ := bindS h
  refine qA_E (dd := some 95) (x := .fptr (Enc.cells v40) 0) ([none]) (⟨141, [(95, .fptr (Enc.cells v40) 0), (94, I a1.fOf), (93, .fptr (Enc.cells a1) 3), (92, A a0), (91, B false), (90, B false), (89, B false), (88, B v38), (87, A a1.fList), (86, .fptr (Enc.cells a1) 2), (85, E v4), (84, B false), (83, B false), (82, B false), (81, I ((a1.fE.length : Int))), (80, A a1.fE), (79, .fptr (Enc.cells a1) 6), (78, B false), (77, B false), (76, B v36), (75, I ((w64 (((a0.length : Int)) - 1)))), (74, I ((a0.length : Int))), (73, A a0), (72, I a1.fOf), (71, .fptr (Enc.cells a1) 3), (0, A a0), (3, .fptr (Enc.cells a1) 0), (5, .ptr 0 0 0)], [some ⟨0, Enc.cells v4⟩]⟩) (fun Γ' hΓ => CoreE.of_y (idxV_sound τ_ok (by kernel_rfl) hv41)) (by kernel_rfl) (by kernel_rfl) (by exact trivial) (.inr (.inr rfl)) (by kernel_rfl) ?_
  refine qA_ev (st' := ⟨141, [(98, A a1.fTo), (97, .fptr (Enc.cells a1) 4), (96, E v40), (95, .fptr (Enc.cells v40) 0), (94, I a1.fOf), (93, .fptr (Enc.cells a1) 3), (92, A a0), (91, B false), (90, B false), (89, B false), (88, B v38), (87, A a1.fList), (86, .fptr (Enc.cells a1) 2), (85, E v4), (84, B false), (83, B false), (82, B false), (81, I ((a1.fE.length : Int))), (80, A a1.fE), (79, .fptr (Enc.cells a1) 6), (78, B false), (77, B false), (76, B v36), (75, I ((w64 (((a0.length : Int)) - 1)))), (74, I ((a0.length : Int))), (73, A a0), (72, I a1.fOf), (71, .fptr (Enc.cells a1) 3), (0, A a0), (3, .fptr (Enc.cells a1) 0), (5, .ptr 0 0 0)], [some ⟨0, Enc.cells v4⟩]⟩) τ_ok [5] [] 3 (by exact trivial) (by kernel_rfl) ?_
  obtain ⟨v42, hv43, h⟩ := bindS h
  refine qA_E (dd := some 99) (x := B v42) ([none]) (⟨141, [(99, B v42), (98, A a1.fTo), (97, .fptr (Enc.cells a1) 4), (96, E v40), (95, .fptr (Enc.cells v40) 0), (94, I a1.fOf), (93, .fptr (Enc.cells a1) 3), (92, A a0), (91, B false), (90, B false), (89, B false), (88, B v38), (87, A a1.fList), (86, .fptr (Enc.cells a1) 2), (85, E v4), (84, B false), (83, B false), (82, B false), (81, I ((a1.fE.length : Int))), (80, A a1.fE), (79, .fptr (Enc.cells a1) 6), (78, B false), (77, B false), (76, B v36), (75, I ((w64 (((a0.length : Int)) - 1)))), (74, I ((a0.length : Int))), (73, A a0), (72, I a1.fOf), (71, .fptr (Enc.cells a1) 3), (0, A a0), (3, .fptr (Enc.cells a1) 0), (5, .ptr 0 0 0)], [some ⟨0, Enc.cells v4⟩]⟩) (fun Γ' hΓ => CoreE.of_g (callV_sound (τ := τ) (by kernel_rfl) rfl (ok_impl_listOk hv43) (FzTo.frz rfl))) (by kernel_rfl) (by kernel_rfl) (by exact trivial) (.inr (.inr rfl)) (by kernel_rfl) ?_
  refine qA_ev (st' := ⟨141, [(102, B ((!v42))), (101, B ((!v42))), (100, B ((!v42))), (99, B v42), (98, A a1.fTo), (97, .fptr (Enc.cells a1) 4), (96, E v40), (95, .fptr (Enc.cells v40) 0), (94, I a1.fOf), (93, .fptr (Enc.cells a1) 3), (92, A a0), (91, B false), (90, B false), (89, B false), (88, B v38), (87, A a1.fList), (86, .fptr (Enc.cells a1) 2), (85, E v4), (84, B false), (83, B false), (82, B false), (81, I ((a1.fE.length : Int))), (80, A a1.fE), (79, .fptr (Enc.cells a1) 6), (78, B false), (77, B false), (76, B v36), (75, I ((w64 (((a0.length : Int)) - 1)))), (74, I ((a0.length : Int))), (73, A a0), (72, I a1.fOf), (71, .fptr (Enc.cells a1) 3), (0, A a0), (3, .fptr (Enc.cells a1) 0), (5, .ptr 0 0 0)], [some ⟨0, Enc.cells v4⟩]⟩) τ_ok [5] [] 3 (by exact trivial) (by kernel_rfl) ?_
  rcases fk ((!v42)) with hc44 | hc44
  replace h := bT hc44 h
  rw [hc44]
  refine qA_ev (st' := ⟨141, [(110, B true), (109, .lit undef), (108, .lit undef), (107, .lit undef), (106, .lit undef), (105, .lit undef), (104, .lit undef), (103, .lit undef), (102, B true), (101, B true), (100, B true), (99, B v42), (98, A a1.fTo), (97, .fptr (Enc.cells a1) 4), (96, E v40), (95, .fptr (Enc.cells v40) 0), (94, I a1.fOf), (93, .fptr (Enc.cells a1) 3), (92, A a0), (91, B false), (90, B false), (89, B false), (88, B v38), (87, A a1.fList), (86, .fptr (Enc.cells a1) 2), (85, E v4), (84, B false), (83, B false), (82, B false), (81, I ((a1.fE.length : Int))), (80, A a1.fE), (79, .fptr (Enc.cells a1) 6), (78, B false), (77, B false), (76, B v36), (75, I ((w64 (((a0.length : Int)) - 1)))), (74, I ((a0.length : Int))), (73, A a0), (72, I a1.fOf), (71, .fptr (Enc.cells a1) 3), (0, A a0), (3, .fptr (Enc.cells a1) 0), (5, .ptr 0 0 0)], [some ⟨0, Enc.cells v4⟩]⟩) τ_ok [5] [] 8 (by exact trivial) (by kernel_rfl) ?_
  refine qA_end ?_
  refine opsP_imp (Imp.to (st' := ⟨141, [(0, A a0), (3, .fptr (Enc.cells a1) 0), (5, .ptr 0 0 0), (110, B true)], [some ⟨0, Enc.cells v4⟩]⟩) [0, 3, 5, 110] (by kernel_rfl)) ?_
  refine opsP_end rfl ?_
  exact ⟨true, h, (Imp.to (st' := ⟨141, [(0, A a0), (3, .fptr (Enc.cells a1) 0), (5, .ptr 0 0 0), (110, B true)], [some ⟨0, Enc.cells v4⟩]⟩) [0, 3, 5, 110] (by kernel_rfl)).trans (Imp.to [0, 3, 5, 110] (by kernel_rfl))⟩
  replace h := bF hc44 h
  rw [hc44]
  refine qA_ev (st' := ⟨141, [(110, B ((!(((a1.fTo.length : Int)) == ((a1.fList.length : Int)))))), (109, B ((!(((a1.fTo.length : Int)) == ((a1.fList.length : Int)))))), (108, I ((a1.fList.length : Int))), (107, A a1.fList), (106, .fptr (Enc.cells a1) 2), (105, I ((a1.fTo.length : Int))), (104, A a1.fTo), (103, .fptr (Enc.cells a1) 4), (102, B false), (101, B false), (100, B false), (99, B v42), (98, A a1.fTo), (97, .fptr (Enc.cells a1) 4), (96, E v40), (95, .fptr (Enc.cells v40) 0), (94, I a1.fOf), (93, .fptr (Enc.cells a1) 3), (92, A a0), (91, B false), (90, B false), (89, B false), (88, B v38), (87, A a1.fList), (86, .fptr (Enc.cells a1) 2), (85, E v4), (84, B false), (83, B false), (82, B false), (81, I ((a1.fE.length : Int))), (80, A a1.fE), (79, .fptr (Enc.cells a1) 6), (78, B false), (77, B false), (76, B v36), (75, I ((w64 (((a0.length : Int)) - 1)))), (74, I ((a0.length : Int))), (73, A a0), (72, I a1.fOf), (71, .fptr (Enc.cells a1) 3), (0, A a0), (3, .fptr (Enc.cells a1) 0), (5, .ptr 0 0 0)], [some ⟨0, Enc.cells v4⟩]⟩) τ_ok [5] [] 8 (by exact trivial) (by kernel_rfl) ?_
  refine qA_end ?_
  refine opsP_imp (Imp.to (st' := ⟨141, [(0, A a0), (3, .fptr (Enc.cells a1) 0), (5, .ptr 0 0 0), (110, B ((!(((a1.fTo.length : Int)) == ((a1.fList.length : Int))))))], [some ⟨0, Enc.cells v4⟩]⟩) [0, 3, 5, 110] (by kernel_rfl)) ?_
  refine opsP_end rfl ?_
  exact ⟨(!(((a1.fTo.length : Int)) == ((a1.fList.length : Int)))), h, (Imp.to (st' := ⟨141, [(0, A a0), (3, .fptr (Enc.cells a1) 0), (5, .ptr 0 0 0), (110, B ((!(((a1.fTo.length : Int)) == ((a1.fList.length : Int))))))], [some ⟨0, Enc.cells v4⟩]⟩) [0, 3, 5, 110] (by kernel_rfl)).trans (Imp.to [0, 3, 5, 110] (by kernel_rfl))⟩
  rintro x18 h
  unfold impl_bondOk_j1 at h
  refine pc h (fun h => ?_) (fun h => ?_)
  refine srveM [5] 141 [(4, B false)] [some ⟨0, Enc.cells v4⟩] ?_
  cases h
  exact pwp_ret rz
  refine pwp_skip ?_
  refine pwp_seq ?_
  refine srveM [5] 141 [(0, A a0), (3, .fptr (Enc.cells a1) 0), (5, .ptr 0 0 0), (112, A a1.fList), (113, I ((a1.fList.length : Int))), (114, I 0)] [some ⟨0, Enc.cells v4⟩] ?_
  refine pwp_block ?_
  refine pwp_loop (ι := Nat × Int) (fun (f22, x21) => (⟨141, [(0, A a0), (3, .fptr (Enc.cells a1) 0), (5, .ptr 0 0 0), (112, A a1.fList), (113, I ((a1.fList.length : Int))), (114, I x21)], [some ⟨0, Enc.cells v4⟩]⟩ : St)) (fun (f22, x21) => impl_bondOk_l2 a0 a1 v4 f22 x21 = some y) (fun (f22, x21) => f22) (FUEL, 0) h ((Imp.to (st' := ⟨141, [(0, A a0), (3, .fptr (Enc.cells a1) 0), (5, .ptr 0 0 0), (112, A a1.fList), (113, I ((a1.fList.length : Int))), (114, I 0)], [some ⟨0, Enc.cells v4⟩]⟩) [0, 3, 5, 112, 113, 114] (by kernel_rfl)).trans (Imp.to [0, 3, 5, 112, 113, 114] (by kernel_rfl))) ?_
  rintro ⟨f22, x21⟩ h
  dsimp only at h ⊢
  rcases f22 with _ | f22
  cases h
  rw [impl_bondOk_l2] at h
  refine srveM [5] 141 [(0, A a0), (3, .fptr (Enc.cells a1) 0), (5, .ptr 0 0 0), (112, A a1.fList), (113, I ((a1.fList.length : Int))), (114, I x21), (115, B ((decide (x21 < ((a1.fList.length : Int))))))] [some ⟨0, Enc.cells v4⟩] ?_
  refine pwp_seq ?_
  refine pc h (fun h => ?_) (fun h => ?_)
  refine pwp_skip ?_
  refine pwp_seq ?_
  refine pwp_block ?_
  refine srvM [5] 1 141 [(0, A a0), (3, .fptr (Enc.cells a1) 0), (5, .ptr 0 0 0), (112, A a1.fList), (113, I ((a1.fList.length : Int))), (114, I x21), (116, I x21)] [some ⟨0, Enc.cells v4⟩] ?_
  obtain ⟨v25, hv26, h⟩ := bindS h
  refine opsP_idx τ_ok 117 hv26 (by kernel_rfl) ?_
  refine veM [5] 3 141 [(0, A a0), (3, .fptr (Enc.cells a1) 0), (5, .ptr 0 0 0), (7, I x21), (8, I v25), (112, A a1.fList), (113, I ((a1.fList.length : Int))), (114, I x21)] [some ⟨0, Enc.cells v4⟩] ?_
  refine pwp_seq ?_
  refine pwp_imp (Imp.to (st' := ⟨141, [(0, A a0), (3, .fptr (Enc.cells a1) 0), (5, .ptr 0 0 0), (7, I x21), (8, I v25), (112, A a1.fList), (113, I ((a1.fList.length : Int))), (114, I x21)], [some ⟨0, Enc.cells v4⟩]⟩) [0, 3, 5, 7, 8, 112, 113, 114] (by kernel_rfl)) ?_
  refine pwp_any ([[0], [0], [], [], [], [], [], [], [], [], [], [], [], [], [], [], [], [], [], [], []]) ([[], [], [], [], [], [], [], [], [], [], [], [], [], [], [], [], [], [], [], [], []]) rfl (by kernel_rfl) ?_
  refine qA_ev (st' := ⟨141, [(120, A v4.fColumns), (119, .ptr 0 0 0), (0, A a0), (3, .fptr (Enc.cells a1) 0), (5, .ptr 0 0 0), (7, I x21), (8, I v25), (112, A a1.fList), (113, I ((a1.fList.length : Int))), (114, I x21)], [some ⟨0, Enc.cells v4⟩]⟩) τ_ok [5] [0] 2 (by exact (And.intro (.inl (Enc.frz _)) trivial)) (by kernel_rfl) ?_
  refine qA_ev (st' := ⟨141, [(121, I v25), (120, A v4.fColumns), (119, .ptr 0 0 0), (0, A a0), (3, .fptr (Enc.cells a1) 0), (5, .ptr 0 0 0), (7, I x21), (8, I v25), (112, A a1.fList), (113, I ((a1.fList.length : Int))), (114, I x21)], [some ⟨0, Enc.cells v4⟩]⟩) τ_ok [5] [] 1 (by exact trivial) (by kernel_rfl) ?_
  obtain ⟨v27, hv28, h⟩ := bindS h
  refine qA_E (dd := some 122) (x := .fptr (Enc.cells v27) 0) ([none]) (⟨141, [(122, .fptr (Enc.cells v27) 0), (121, I v25), (120, A v4.fColumns), (119, .ptr 0 0 0), (0, A a0), (3, .fptr (Enc.cells a1) 0), (5, .ptr 0 0 0), (7, I x21), (8, I v25), (112, A a1.fList), (113, I ((a1.fList.length : Int))), (114, I x21)], [some ⟨0, Enc.cells v4⟩]⟩) (fun Γ' hΓ => CoreE.of_y (idxV_sound τ_ok (by kernel_rfl) hv28)) (by kernel_rfl) (by kernel_rfl) (by exact trivial) (.inr (.inr rfl)) (by kernel_rfl) ?_
  refine qA_ev (st' := ⟨141, [(127, I a1.fOf), (126, .fptr (Enc.cells a1) 3), (125, A a0), (124, I v27.fKind), (123, .fptr (Enc.cells v27) 0), (122, .fptr (Enc.cells v27) 0), (121, I v25), (120, A v4.fColumns), (119, .ptr 0 0 0), (0, A a0), (3, .fptr (Enc.cells a1) 0), (5, .ptr 0 0 0), (7, I x21), (8, I v25), (112, A a1.fList), (113, I ((a1.fList.length : Int))), (114, I x21)], [some ⟨0, Enc.cells v4⟩]⟩) τ_ok [5] [] 5 (by exact trivial) (by kernel_rfl) ?_
  obtain ⟨v29, hv30, h⟩ := bindS h
  refine qA_E (dd := some 128) (x := .fptr (Enc.cells v29) 0) ([none]) (⟨141, [(128, .fptr (Enc.cells v29) 0), (127, I a1.fOf), (126, .fptr (Enc.cells a1) 3), (125, A a0), (124, I v27.fKind), (123, .fptr (Enc.cells v27) 0), (122, .fptr (Enc.cells v27) 0), (121, I v25), (120, A v4.fColumns), (119, .ptr 0 0 0), (0, A a0), (3, .fptr (Enc.cells a1) 0), (5, .ptr 0 0 0), (7, I x21), (8, I v25), (112, A a1.fList), (113, I ((a1.fList.length : Int))), (114, I x21)], [some ⟨0, Enc.cells v4⟩]⟩) (fun Γ' hΓ => CoreE.of_y (idxV_sound τ_ok (by kernel_rfl) hv30)) (by kernel_rfl) (by kernel_rfl) (by exact trivial) (.inr (.inr rfl)) (by kernel_rfl) ?_
  refine qA_ev (st' := ⟨141, [(133, I x21), (132, A a1.fTo), (131, .fptr (Enc.cells a1) 4), (130, A v29.fColumns), (129, .fptr (Enc.cells v29) 0), (128, .fptr (Enc.cells v29) 0), (127, I a1.fOf), (126, .fptr (Enc.cells a1) 3), (125, A a0), (124, I v27.fKind), (123, .fptr (Enc.cells v27) 0), (122, .fptr (Enc.cells v27) 0), (121, I v25), (120, A v4.fColumns), (119, .ptr 0 0 0), (0, A a0), (3, .fptr (Enc.cells a1) 0), (5, .ptr 0 0 0), (7, I x21), (8, I v25), (112, A a1.fList), (113, I ((a1.fList.length : Int))), (114, I x21)], [some ⟨0, Enc.cells v4⟩]⟩) τ_ok [5] [] 5 (by exact trivial) (by kernel_rfl) ?_
  obtain ⟨v31, hv32, h⟩ := bindS h
  refine qA_E (dd := some 134) (x := .fptr (Enc.cells v31) 0) ([none]) (⟨141, [(134, .fptr (Enc.cells v31) 0), (133, I x21), (132, A a1.fTo), (131, .fptr (Enc.cells a1) 4), (130, A v29.fColumns), (129, .fptr (Enc.cells v29) 0), (128, .fptr (Enc.cells v29) 0), (127, I a1.fOf), (126, .fptr (Enc.cells a1) 3), (125, A a0), (124, I v27.fKind), (123, .fptr (Enc.cells v27) 0), (122, .fptr (Enc.cells v27) 0), (121, I v25), (120, A v4.fColumns), (119, .ptr 0 0 0), (0, A a0), (3, .fptr (Enc.cells a1) 0), (5, .ptr 0 0 0), (7, I x21), (8, I v25), (112, A a1.fList), (113, I ((a1.fList.length : Int))), (114, I x21)], [some ⟨0, Enc.cells v4⟩]⟩) (fun Γ' hΓ => CoreE.of_y (idxV_sound τ_ok (by kernel_rfl) hv32)) (by kernel_rfl) (by kernel_rfl) (by exact trivial) (.inr (.inr rfl)) (by kernel_rfl) ?_
  refine qA_ev (st' := ⟨141, [(135, I v31), (134, .fptr (Enc.cells v31) 0), (133, I x21), (132, A a1.fTo), (131, .fptr (Enc.cells a1) 4), (130, A v29.fColumns), (129, .fptr (Enc.cells v29) 0), (128, .fptr (Enc.cells v29) 0), (127, I a1.fOf), (126, .fptr (Enc.cells a1) 3), (125, A a0), (124, I v27.fKind), (123, .fptr (Enc.cells v27) 0), (122, .fptr (Enc.cells v27) 0), (121, I v25), (120, A v4.fColumns), (119, .ptr 0 0 0), (0, A a0), (3, .fptr (Enc.cells a1) 0), (5, .ptr 0 0 0), (7, I x21), (8, I v25), (112, A a1.fList), (113, I ((a1.fList.length : Int))), (114, I x21)], [some ⟨0, Enc.cells v4⟩]⟩) τ_ok [5] [] 1 (by exact trivial) (by kernel_rfl) ?_
  obtain ⟨v33, hv34, h⟩ := bindS h
  refine qA_E (dd := some 136) (x := .fptr (Enc.cells v33) 0) ([none]) (⟨141, [(136, .fptr (Enc.cells v33) 0), (135, I v31), (134, .fptr (Enc.cells v31) 0), (133, I x21), (132, A a1.fTo), (131, .fptr (Enc.cells a1) 4), (130, A v29.fColumns), (129, .fptr (Enc.cells v29) 0), (128, .fptr (Enc.cells v29) 0), (127, I a1.fOf), (126, .fptr (Enc.cells a1) 3), (125, A a0), (124, I v27.fKind), (123, .fptr (Enc.cells v27) 0), (122, .fptr (Enc.cells v27) 0), (121, I v25), (120, A v4.fColumns), (119, .ptr 0 0 0), (0, A a0), (3, .fptr (Enc.cells a1) 0), (5, .ptr 0 0 0), (7, I x21), (8, I v25), (112, A a1.fList), (113, I ((a1.fList.length : Int))), (114, I x21)], [some ⟨0, Enc.cells v4⟩]⟩) (fun Γ' hΓ => CoreE.of_y (idxV_sound τ_ok (by kernel_rfl) hv34)) (by kernel_rfl) (by kernel_rfl) (by exact trivial) (.inr (.inr rfl)) (by kernel_rfl) ?_
  refine qA_ev (st' := ⟨141, [(139, B ((!(v27.fKind == v33.fKind)))), (138, I v33.fKind), (137, .fptr (Enc.cells v33) 0), (136, .fptr (Enc.cells v33) 0), (135, I v31), (134, .fptr (Enc.cells v31) 0), (133, I x21), (132, A a1.fTo), (131, .fptr (Enc.cells a1) 4), (130, A v29.fColumns), (129, .fptr (Enc.cells v29) 0), (128, .fptr (Enc.cells v29) 0), (127, I a1.fOf), (126, .fptr (Enc.cells a1) 3), (125, A a0), (124, I v27.fKind), (123, .fptr (Enc.cells v27) 0), (122, .fptr (Enc.cells v27) 0), (121, I v25), (120, A v4.fColumns), (119, .ptr 0 0 0), (0, A a0), (3, .fptr (Enc.cells a1) 0), (5, .ptr 0 0 0), (7, I x21), (8, I v25), (112, A a1.fList), (113, I ((a1.fList.length : Int))), (114, I x21)], [some ⟨0, Enc.cells v4⟩]⟩) τ_ok [5] [] 3 (by exact trivial) (by kernel_rfl) ?_
  refine qA_end ?_
  refine opsP_imp (Imp.to (st' := ⟨141, [(0, A a0), (3, .fptr (Enc.cells a1) 0), (5, .ptr 0 0 0), (112, A a1.fList), (113, I ((a1.fList.length : Int))), (114, I x21), (139, B ((!(v27.fKind == v33.fKind))))], [some ⟨0, Enc.cells v4⟩]⟩) [0, 3, 5, 112, 113, 114, 139] (by kernel_rfl)) ?_
  refine opsP_end rfl ?_
  refine pc h (fun h => ?_) (fun h => ?_)
  refine srveM [5] 141 [(4, B false)] [some ⟨0, Enc.cells v4⟩] ?_
  cases h
  exact pwp_ret rz
  refine pwp_skip ?_
  refine rveM [5] 141 [(0, A a0), (3, .fptr (Enc.cells a1) 0), (5, .ptr 0 0 0), (112, A a1.fList), (113, I ((a1.fList.length : Int))), (114, I ((w64 (x21 + 1))))] [some ⟨0, Enc.cells v4⟩] ?_
  exact ⟨(f22, (w64 (x21 + 1))), h, Nat.lt_succ_self _, (Imp.to (st' := ⟨141, [(0, A a0), (3, .fptr (Enc.cells a1) 0), (5, .ptr 0 0 0), (112, A a1.fList), (113, I ((a1.fList.length : Int))), (114, I ((w64 (x21 + 1))))], [some ⟨0, Enc.cells v4⟩]⟩) [0, 3, 5, 112, 113, 114] (by kernel_rfl)).trans (Imp.to [0, 3, 5, 112, 113, 114] (by kernel_rfl))⟩
  refine pwp_exit ?_
  refine srveM [5] 141 [(4, B true)] [some ⟨0, Enc.cells v4⟩] ?_
  cases h
  exact pwp_ret rz
  refine pwp_skip ?_
  refine srveM [5] 141 [(4, B false)] [some ⟨0, Enc.cells v4⟩] ?_
  cases h
  exact pwp_ret rz
def spec_TablesOk_j1 (x1 : Int) (K3 : Int → Option Bool) (x5 : Bool) : Option Bool := bif x5 then some false else K3 ((w64 (x1 + 1)))
def spec_TablesOk_l0 (a0 : List T_impl_Table) : Nat → Int → Option Bool
  | 0, _ => none
  | f2 + 1, x1 => bif (decide (x1 < ((a0.length : Int)))) then (getI a0 x1).bind fun v7 => bif (decide (((v7.fRows.length : Int)) > 6)) then spec_TablesOk_j1 x1 (spec_TablesOk_l0 a0 f2) true else (getI a0 x1).bind fun v9 => (getI a0 x1).bind fun v11 => (spec_RowsOk v9.fColumns v11.fRows).bind fun v13 => spec_TablesOk_j1 x1 (spec_TablesOk_l0 a0 f2) ((!v13)) else some ((decide (((a0.length : Int)) ≤ 3)))
def spec_TablesOk (a0 : List T_impl_Table) : Option Bool := spec_TablesOk_l0 a0 FUEL 0
theorem ok_spec_TablesOk {a0 : List T_impl_Table} {y : Bool} (h : spec_TablesOk a0 = some y) : OK Try.prog 14 [A a0] (B y) := by
  refine OK_of_pwp τ_ok Try.func14 rfl (by kernel_rfl) rfl fun Γ hX => ?_
  unfold spec_TablesOk at h
  refine srve 34 [(0, A a0)] [] ?_
  refine pwp_seq ?_
  refine srve 34 [(0, A a0), (3, I 0)] [] ?_
  refine pwp_block ?_
  refine pwp_loop (ι := Nat × Int) (fun (f2, x1) => (⟨34, [(0, A a0), (3, I x1)], []⟩ : St)) (fun (f2, x1) => spec_TablesOk_l0 a0 f2 x1 = some y) (fun (f2, x1) => f2) (FUEL, 0) h ((Imp.to (st' := ⟨34, [(0, A a0), (3, I 0)], []⟩) [0, 3] (by kernel_rfl)).trans (Imp.to [0, 3] (by kernel_rfl))) ?_
  rintro ⟨f2, x1⟩ h
  dsimp only at h ⊢
  rcases f2 with _ | f2
  cases h
  rw [spec_TablesOk_l0] at h
  refine pwp_seq ?_
  refine srve 34 [(0, A a0), (3, I x1), (7, B ((decide (x1 < ((a0.length : Int))))))] [] ?_
  refine pc h (fun h => ?_) (fun h => ?_)
  refine pwp_skip ?_
  refine pwp_seq ?_
  refine pwp_block ?_
  refine pwp_seq ?_
  refine pwp_join (σ := Bool) (fun x5 => (⟨34, [(0, A a0), (3, I x1), (30, B x5)], []⟩ : St)) (fun x5 => spec_TablesOk_j1 x1 (spec_TablesOk_l0 a0 f2) x5 = some y) ?_ ?_
  refine pwp_imp (Imp.to (st' := ⟨34, [(0, A a0), (3, I x1)], []⟩) [0, 3] (by kernel_rfl)) ?_
  refine pwp_any ([[], [], [], [], [], [], [], [], [], [], [], [], [], [], [], [], [], [], [], [], []]) ([[], [], [], [], [], [], [], [], [], [], [], [], [], [], [], [], [], [], [], [], []]) rfl (by kernel_rfl) ?_
  refine qA_ev (st' := ⟨34, [(11, I x1), (10, A a0), (0, A a0), (3, I x1)], []⟩) τ_ok [] [] 2 (by exact trivial) (by kernel_rfl) ?_
  obtain ⟨v7, hv8, h⟩ := bindS h
  refine qA_E (dd := some 12) (x := .fptr (Enc.cells v7) 0) ([]) (⟨34, [(12, .fptr (Enc.cells v7) 0), (11, I x1), (10, A a0), (0, A a0), (3, I x1)], []⟩) (fun Γ' hΓ => CoreE.of_y (idxV_sound τ_ok (by kernel_rfl) hv8)) (by kernel_rfl) (by kernel_rfl) (by exact trivial) (.inr (.inr rfl)) (by kernel_rfl) ?_
  refine qA_ev (st' := ⟨34, [(17, B ((decide (((v7.fRows.length : Int)) > 6)))), (16, B ((decide (((v7.fRows.length : Int)) > 6)))), (15, I ((v7.fRows.length : Int))), (14, A v7.fRows), (13, .fptr (Enc.cells v7) 1), (12, .fptr (Enc.cells v7) 0), (11, I x1), (10, A a0), (0, A a0), (3, I x1)], []⟩) τ_ok [] [] 5 (by exact trivial) (by kernel_rfl) ?_
  rcases fk ((decide (((v7.fRows.length : Int)) > 6))) with hc15 | hc15
  replace h := bT hc15 h
  rw [hc15]
  refine qA_ev (st' := ⟨34, [(30, B true), (29, .lit undef), (28, .lit undef), (27, .lit undef), (26, .lit undef), (25, .lit undef), (24, .lit undef), (23, .lit undef), (22, .lit undef), (21, .lit undef), (20, .lit undef), (19, .lit undef), (18, .lit undef), (17, B true), (16, B true), (15, I ((v7.fRows.length : Int))), (14, A v7.fRows), (13, .fptr (Enc.cells v7) 1), (12, .fptr (Enc.cells v7) 0), (11, I x1), (10, A a0), (0, A a0), (3, I x1)], []⟩) τ_ok [] [] 13 (by exact trivial) (by kernel_rfl) ?_
  refine qA_end ?_
  refine opsP_imp (Imp.to (st' := ⟨34, [(0, A a0), (3, I x1), (18, .lit undef), (19, .lit undef), (20, .lit undef), (21, .lit undef), (22, .lit undef), (23, .lit undef), (24, .lit undef), (25, .lit undef), (26, .lit undef), (27, .lit undef), (28, .lit undef), (29, .lit undef), (30, B true)], []⟩) [0, 3, 18, 19, 20, 21, 22, 23, 24, 25, 26, 27, 28, 29, 30] (by kernel_rfl)) ?_
  refine opsP_end rfl ?_
  exact ⟨true, h, (Imp.to (st' := ⟨34, [(0, A a0), (3, I x1), (30, B true)], []⟩) [0, 3, 30] (by kernel_rfl)).trans (Imp.to [0, 3, 30] (by kernel_rfl))⟩
  replace h := bF hc15 h
  rw [hc15]
  refine qA_ev (st' := ⟨34, [(19, I x1), (18, A a0), (17, B false), (16, B false), (15, I ((v7.fRows.length : Int))), (14, A v7.fRows), (13, .fptr (Enc.cells v7) 1), (12, .fptr (Enc.cells v7) 0), (11, I x1), (10, A a0), (0, A a0), (3, I x1)], []⟩) τ_ok [] [] 2 (by exact trivial) (by kernel_rfl) ?_
  obtain ⟨v9, hv10, h⟩ := bindS h
  refine qA_E (dd := some 20) (x := .fptr (Enc.cells v9) 0) ([]) (⟨34, [(20, .fptr (Enc.cells v9) 0), (19, I x1), (18, A a0), (17, B false), (16, B false), (15, I ((v7.fRows.length : Int))), (14, A v7.fRows), (13, .fptr (Enc.cells v7) 1), (12, .fptr (Enc.cells v7) 0), (11, I x1), (10, A a0), (0, A a0), (3, I x1)], []⟩) (fun Γ' hΓ => CoreE.of_y (idxV_sound τ_ok (by kernel_rfl) hv10)) (by kernel_rfl) (by kernel_rfl) (by exact trivial) (.inr (.inr rfl)) (by kernel_rfl) ?_
  refine qA_ev (st' := ⟨34, [(24, I x1), (23, A a0), (22, A v9.fColumns), (21, .fptr (Enc.cells v9) 0), (20, .fptr (Enc.cells v9) 0), (19, I x1), (18, A a0), (17, B false), (16, B false), (15, I ((v7.fRows.length : Int))), (14, A v7.fRows), (13, .fptr (Enc.cells v7) 1), (12, .fptr (Enc.cells v7) 0), (11, I x1), (10, A a0), (0, A a0), (3, I x1)], []⟩) τ_ok [] [] 4 (by exact trivial) (by kernel_rfl) ?_
  obtain ⟨v11, hv12, h⟩ := bindS h
  refine qA_E (dd := some 25) (x := .fptr (Enc.cells v11) 0) ([]) (⟨34, [(25, .fptr (Enc.cells v11) 0), (24, I x1), (23, A a0), (22, A v9.fColumns), (21, .fptr (Enc.cells v9) 0), (20, .fptr (Enc.cells v9) 0), (19, I x1), (18, A a0), (17, B false), (16, B false), (15, I ((v7.fRows.length : Int))), (14, A v7.fRows), (13, .fptr (Enc.cells v7) 1), (12, .fptr (Enc.cells v7) 0), (11, I x1), (10, A a0), (0, A a0), (3, I x1)], []⟩) (fun Γ' hΓ => CoreE.of_y (idxV_sound τ_ok (by kernel_rfl) hv12)) (by kernel_rfl) (by kernel_rfl) (by exact trivial) (.inr (.inr rfl)) (by kernel_rfl) ?_
  refine qA_ev (st' := ⟨34, [(27, A v11.fRows), (26, .fptr (Enc.cells v11) 1), (25, .fptr (Enc.cells v11) 0), (24, I x1), (23, A a0), (22, A v9.fColumns), (21, .fptr (Enc.cells v9) 0), (20, .fptr (Enc.cells v9) 0), (19, I x1), (18, A a0), (17, B false), (16, B false), (15, I ((v7.fRows.length : Int))), (14, A v7.fRows), (13, .fptr (Enc.cells v7) 1), (12, .fptr (Enc.cells v7) 0), (11, I x1), (10, A a0), (0, A a0), (3, I x1)], []⟩) τ_ok [] [] 2 (by exact trivial) (by kernel_rfl) ?_
  obtain ⟨v13, hv14, h⟩ := bindS h
  refine qA_E (dd := some 28) (x := B v13) ([]) (⟨34, [(28, B v13), (27, A v11.fRows), (26, .fptr (Enc.cells v11) 1), (25, .fptr (Enc.cells v11) 0), (24, I x1), (23, A a0), (22, A v9.fColumns), (21, .fptr (Enc.cells v9) 0), (20, .fptr (Enc.cells v9) 0), (19, I x1), (18, A a0), (17, B false), (16, B false), (15, I ((v7.fRows.length : Int))), (14, A v7.fRows), (13, .fptr (Enc.cells v7) 1), (12, .fptr (Enc.cells v7) 0), (11, I x1), (10, A a0), (0, A a0), (3, I x1)], []⟩) (fun Γ' hΓ => CoreE.of_g (callV_sound (τ := τ) (by kernel_rfl) rfl (ok_spec_RowsOk hv14) (FzTo.frz rfl))) (by kernel_rfl) (by kernel_rfl) (by exact trivial) (.inr (.inr rfl)) (by kernel_rfl) ?_
  refine qA_ev (st' := ⟨34, [(30, B ((!v13))), (29, B ((!v13))), (28, B v13), (27, A v11.fRows), (26, .fptr (Enc.cells v11) 1), (25, .fptr (Enc.cells v11) 0), (24, I x1), (23, A a0), (22, A v9.fColumns), (21, .fptr (Enc.cells v9) 0), (20, .fptr (Enc.cells v9) 0), (19, I x1), (18, A a0), (17, B false), (16, B false), (15, I ((v7.fRows.length : Int))), (14, A v7.fRows), (13, .fptr (Enc.cells v7) 1), (12, .fptr (Enc.cells v7) 0), (11, I x1), (10, A a0), (0, A a0), (3, I x1)], []⟩) τ_ok [] [] 2 (by exact trivial) (by kernel_rfl) ?_
  refine qA_end ?_
  refine opsP_imp (Imp.to (st' := ⟨34, [(0, A a0), (3, I x1), (18, A a0), (19, I x1), (20, .fptr (Enc.cells v9) 0), (21, .fptr (Enc.cells v9) 0), (22, A v9.fColumns), (23, A a0), (24, I x1), (25, .fptr (Enc.cells v11) 0), (26, .fptr (Enc.cells v11) 1), (27, A v11.fRows), (28, B v13), (29, B ((!v13))), (30, B ((!v13)))], []⟩) [0, 3, 18, 19, 20, 21, 22, 23, 24, 25, 26, 27, 28, 29, 30] (by kernel_rfl)) ?_
  refine opsP_end rfl ?_
  exact ⟨(!v13), h, (Imp.to (st' := ⟨34, [(0, A a0), (3, I x1), (30, B ((!v13)))], []⟩) [0, 3, 30] (by kernel_rfl)).trans (Imp.to [0, 3, 30] (by kernel_rfl))⟩
  rintro x5 h
  unfold spec_TablesOk_j1 at h
  refine pc h (fun h => ?_) (fun h => ?_)
  refine srve 34 [(2, B false)] [] ?_
  cases h
  exact pwp_ret rz
  refine pwp_skip ?_
  refine rve 34 [(0, A a0), (3, I ((w64 (x1 + 1))))] [] ?_
  exact ⟨(f2, (w64 (x1 + 1))), h, Nat.lt_succ_self _, (Imp.to (st' := ⟨34, [(0, A a0), (3, I ((w64 (x1 + 1))))], []⟩) [0, 3] (by kernel_rfl)).trans (Imp.to [0, 3] (by kernel_rfl))⟩
  refine pwp_exit ?_
  refine srve 34 [(2, B ((decide (((a0.length : Int)) ≤ 3))))] [] ?_
  cases h
  exact pwp_ret rz
def impl_RowsOk_1 (a0 : List T_impl_Value) (b0 : List T_impl_Column) : Option Bool := (impl_RowFits b0 a0).bind fun v1 => some ((!v1))
theorem ok_impl_RowsOk_1 {a0 : List T_impl_Value} {b0 : List T_impl_Column} {y : Bool} (h : impl_RowsOk_1 a0 b0 = some y) : OK Try.prog 39 [A a0, .fptr (Enc.cells b0) 0] (B y) := by
  refine OK_of_pwp τ_ok Try.func39 rfl (by kernel_rfl) rfl fun Γ hX => ?_
  unfold impl_RowsOk_1 at h
  refine srve 8 [(0, A a0), (1, .fptr (Enc.cells b0) 0)] [] ?_
  refine srv 2 8 [(4, A b0), (5, A a0)] [] ?_
  obtain ⟨v1, hv2, h⟩ := bindS h
  refine opsP_callF τ 6 (ok_impl_RowFits hv2) (FzTo.frz rfl) rfl (by kernel_rfl) ?_
  refine ve 2 8 [(3, B ((!v1)))] [] ?_
  cases h
  exact pwp_ret rz
def spec_BondOk_l2 (a0 : List T_impl_Table) (a1 : T_impl_Bond) (v3 : T_impl_Table) : Nat → Int → Option Bool
  | 0, _ => none
  | f23 + 1, x22 => bif (decide (x22 < ((a1.fList.length : Int)))) then (getI a1.fList x22).bind fun v26 => (getI v3.fColumns v26).bind fun v28 => (getI a0 a1.fOf).bind fun v30 => (getI a1.fTo x22).bind fun v32 => (getI v30.fColumns v32).bind fun v34 => bif (!(v28.fKind == v34.fKind)) then some false else (spec_BondOk_l2 a0 a1 v3 f23) ((w64 (x22 + 1))) else some true
def spec_BondOk_j1 (a0 : List T_impl_Table) (a1 : T_impl_Bond) (v3 : T_impl_Table) (x20 : Bool) : Option Bool := bif x20 then some false else spec_BondOk_l2 a0 a1 v3 FUEL 0
def spec_BondOk_j0 (a0 : List T_impl_Table) (a1 : T_impl_Bond) (x1 : Bool) : Option Bool := bif x1 then some false else (getI a0 a1.fIn).bind fun v3 => bif (a1.fKind == 1) then (spec_l12Columns v3.fColumns a1.fList).bind fun v6 => bif v6 then bif (a1.fOf == 0) then bif (((a1.fTo.length : Int)) == 0) then bif (!a1.fFollow) then some ((((a1.fE.length : Int)) == 0)) else some false else some false else some false else some false else bif (a1.fKind == 3) then (spec_ExprKind v3.fColumns a1.fE).bind fun v13 => bif (v13 == 3) then bif (((a1.fList.length : Int)) == 0) then bif (a1.fOf == 0) then bif (((a1.fTo.length : Int)) == 0) then some ((!a1.fFollow)) else some false else some false else some false else some false else bif (a1.fKind == 2) then (spec_l1In a1.fOf 0 ((w64 (((a0.length : Int)) - 1)))).bind fun v37 => bif (!v37) then spec_BondOk_j1 a0 a1 v3 true else (spec_l12Columns v3.fColumns a1.fList).bind fun v39 => bif (!v39) then spec_BondOk_j1 a0 a1 v3 true else (getI a0 a1.fOf).bind fun v41 => (spec_l12Columns v41.fColumns a1.fTo).bind fun v43 => bif (!v43) then spec_BondOk_j1 a0 a1 v3 true else bif (!(((a1.fList.length : Int)) == ((a1.fTo.length : Int)))) then spec_BondOk_j1 a0 a1 v3 true else spec_BondOk_j1 a0 a1 v3 ((decide (((a1.fE.length : Int)) > 0))) else some false
def spec_BondOk (a0 : List T_impl_Table) (a1 : T_impl_Bond) : Option Bool := (spec_TablesOk a0).bind fun v49 => bif (!v49) then spec_BondOk_j0 a0 a1 true else (spec_l1In a1.fIn 0 ((w64 (((a0.length : Int)) - 1)))).bind fun v51 => spec_BondOk_j0 a0 a1 ((!v51))
theorem ok_spec_BondOk {a0 : List T_impl_Table} {a1 : T_impl_Bond} {y : Bool} (h : spec_BondOk a0 a1 = some y) : OK Try.prog 6 [A a0, E a1] (B y) := by
  refine OK_of_pwp τ_ok Try.func6 rfl (by kernel_rfl) rfl fun Γ hX => ?_
  unfold spec_BondOk at h
  refine srve 158 [(0, A a0), (3, .fptr (Enc.cells a1) 0)] [] ?_
  refine pwp_seq ?_
  refine pwp_seq ?_
  refine pwp_join (σ := Bool) (fun x1 => (⟨158, [(0, A a0), (3, .fptr (Enc.cells a1) 0), (18, B x1)], []⟩ : St)) (fun x1 => spec_BondOk_j0 a0 a1 x1 = some y) ?_ ?_
  refine rv 1 158 [(0, A a0), (3, .fptr (Enc.cells a1) 0), (7, A a0)] [] ?_
  obtain ⟨v49, hv50, h⟩ := bindS h
  refine opsP_callF τ 8 (ok_spec_TablesOk hv50) (FzTo.frz rfl) rfl (by kernel_rfl) ?_
  refine v 2 158 [(0, A a0), (3, .fptr (Enc.cells a1) 0), (10, B ((!v49)))] [] ?_
  rcases fk ((!v49)) with hc53 | hc53
  replace h := bT hc53 h
  rw [hc53]
  refine ve 8 158 [(0, A a0), (3, .fptr (Enc.cells a1) 0), (18, B true)] [] ?_
  exact ⟨true, h, (Imp.to (st' := ⟨158, [(0, A a0), (3, .fptr (Enc.cells a1) 0), (18, B true)], []⟩) [0, 3, 18] (by kernel_rfl)).trans (Imp.to [0, 3, 18] (by kernel_rfl))⟩
  replace h := bF hc53 h
  rw [hc53]
  refine v 5 158 [(0, A a0), (3, .fptr (Enc.cells a1) 0), (10, B false), (12, I a1.fIn), (15, I ((w64 (((a0.length : Int)) - 1))))] [] ?_
  obtain ⟨v51, hv52, h⟩ := bindS h
  refine opsP_callF τ 16 (ok_spec_l1In hv52) (FzTo.frz rfl) rfl (by kernel_rfl) ?_
  refine ve 2 158 [(0, A a0), (3, .fptr (Enc.cells a1) 0), (18, B ((!v51)))] [] ?_
  exact ⟨(!v51), h, (Imp.to (st' := ⟨158, [(0, A a0), (3, .fptr (Enc.cells a1) 0), (18, B ((!v51)))], []⟩) [0, 3, 18] (by kernel_rfl)).trans (Imp.to [0, 3, 18] (by kernel_rfl))⟩
  rintro x1 h
  unfold spec_BondOk_j0 at h
  refine pc h (fun h => ?_) (fun h => ?_)
  refine srve 158 [(4, B false)] [] ?_
  cases h
  exact pwp_ret rz
  refine pwp_skip ?_
  refine srv 3 158 [(0, A a0), (3, .fptr (Enc.cells a1) 0), (19, A a0), (21, I a1.fIn)] [] ?_
  obtain ⟨v3, hv4, h⟩ := bindS h
  refine opsP_idx τ_ok 22 hv4 (by kernel_rfl) ?_
  refine ve 3 158 [(0, A a0), (3, .fptr (Enc.cells a1) 0), (5, A v3.fColumns)] [] ?_
  refine pwp_seq ?_
  refine srve 158 [(0, A a0), (3, .fptr (Enc.cells a1) 0), (5, A v3.fColumns), (26, I a1.fKind)] [] ?_
  refine pwp_block ?_
  refine srve 158 [(0, A a0), (3, .fptr (Enc.cells a1) 0), (5, A v3.fColumns), (26, I a1.fKind), (27, B ((a1.fKind == 1)))] [] ?_
  refine pc h (fun h => ?_) (fun h => ?_)
  refine srv 3 158 [(3, .fptr (Enc.cells a1) 0), (29, A v3.fColumns), (31, A a1.fList)] [] ?_
  obtain ⟨v6, hv7, h⟩ := bindS h
  refine opsP_callF τ 32 (ok_spec_l12Columns hv7) (FzTo.frz rfl) rfl (by kernel_rfl) ?_
  refine v 1 158 [(3, .fptr (Enc.cells a1) 0), (33, B v6)] [] ?_
  rcases Bool.eq_false_or_eq_true v6 with hc11 | hc11
  replace h := bT hc11 h
  rw [hc11]
  refine v 5 158 [(3, .fptr (Enc.cells a1) 0), (38, B ((a1.fOf == 0)))] [] ?_
  rcases fk ((a1.fOf == 0)) with hc10 | hc10
  replace h := bT hc10 h
  rw [hc10]
  refine v 6 158 [(3, .fptr (Enc.cells a1) 0), (44, B ((((a1.fTo.length : Int)) == 0)))] [] ?_
  rcases fk ((((a1.fTo.length : Int)) == 0)) with hc9 | hc9
  replace h := bT hc9 h
  rw [hc9]
  refine v 5 158 [(3, .fptr (Enc.cells a1) 0), (49, B ((!a1.fFollow)))] [] ?_
  rcases fk ((!a1.fFollow)) with hc8 | hc8
  replace h := bT hc8 h
  rw [hc8]
  refine ve 6 158 [(4, B ((((a1.fE.length : Int)) == 0)))] [] ?_
  cases h
  exact pwp_ret rz
  replace h := bF hc8 h
  rw [hc8]
  refine ve 6 158 [(4, B false)] [] ?_
  cases h
  exact pwp_ret rz
  replace h := bF hc9 h
  rw [hc9]
  refine ve 11 158 [(4, B false)] [] ?_
  cases h
  exact pwp_ret rz
  replace h := bF hc10 h
  rw [hc10]
  refine ve 17 158 [(4, B false)] [] ?_
  cases h
  exact pwp_ret rz
  replace h := bF hc11 h
  rw [hc11]
  refine ve 22 158 [(4, B false)] [] ?_
  cases h
  exact pwp_ret rz
  refine srve 158 [(0, A a0), (3, .fptr (Enc.cells a1) 0), (5, A v3.fColumns), (26, I a1.fKind), (55, B ((a1.fKind == 3)))] [] ?_
  refine pc h (fun h => ?_) (fun h => ?_)
  refine srv 3 158 [(3, .fptr (Enc.cells a1) 0), (57, A v3.fColumns), (59, A a1.fE)] [] ?_
  obtain ⟨v13, hv14, h⟩ := bindS h
  refine opsP_callF τ 60 (ok_spec_ExprKind hv14) (FzTo.frz rfl) rfl (by kernel_rfl) ?_
  refine v 2 158 [(3, .fptr (Enc.cells a1) 0), (62, B ((v13 == 3)))] [] ?_
  rcases fk ((v13 == 3)) with hc18 | hc18
  replace h := bT hc18 h
  rw [hc18]
  refine v 6 158 [(3, .fptr (Enc.cells a1) 0), (68, B ((((a1.fList.length : Int)) == 0)))] [] ?_
  rcases fk ((((a1.fList.length : Int)) == 0)) with hc17 | hc17
  replace h := bT hc17 h
  rw [hc17]
  refine v 5 158 [(3, .fptr (Enc.cells a1) 0), (73, B ((a1.fOf == 0)))] [] ?_
  rcases fk ((a1.fOf == 0)) with hc16 | hc16
  replace h := bT hc16 h
  rw [hc16]
  refine v 6 158 [(3, .fptr (Enc.cells a1) 0), (79, B ((((a1.fTo.length : Int)) == 0)))] [] ?_
  rcases fk ((((a1.fTo.length : Int)) == 0)) with hc15 | hc15
  replace h := bT hc15 h
  rw [hc15]
  refine ve 5 158 [(4, B ((!a1.fFollow)))] [] ?_
  cases h
  exact pwp_ret rz
  replace h := bF hc15 h
  rw [hc15]
  refine ve 5 158 [(4, B false)] [] ?_
  cases h
  exact pwp_ret rz
  replace h := bF hc16 h
  rw [hc16]
  refine ve 11 158 [(4, B false)] [] ?_
  cases h
  exact pwp_ret rz
  replace h := bF hc17 h
  rw [hc17]
  refine ve 16 158 [(4, B false)] [] ?_
  cases h
  exact pwp_ret rz
  replace h := bF hc18 h
  rw [hc18]
  refine ve 22 158 [(4, B false)] [] ?_
  cases h
  exact pwp_ret rz
  refine srve 158 [(0, A a0), (3, .fptr (Enc.cells a1) 0), (5, A v3.fColumns), (84, B ((a1.fKind == 2)))] [] ?_
  refine pc h (fun h => ?_) (fun h => ?_)
  refine pwp_seq ?_
  refine pwp_seq ?_
  refine pwp_join (σ := Bool) (fun x20 => (⟨158, [(0, A a0), (3, .fptr (Enc.cells a1) 0), (5, A v3.fColumns), (126, B x20)], []⟩ : St)) (fun x20 => spec_BondOk_j1 a0 a1 v3 x20 = some y) ?_ ?_
  refine pwp_imp (Imp.to (st' := ⟨158, [(0, A a0), (3, .fptr (Enc.cells a1) 0), (5, A v3.fColumns)], []⟩) [0, 3, 5] (by kernel_rfl)) ?_
  refine pwp_any ([[], [], [], [], [], [], [], [], [], [], [], [], [], [], [], [], [], [], [], [], [], [], [], [], [], [], [], [], [], [], [], [], [], [], [], [], [], [], [], [], []]) ([[], [], [], [], [], [], [], [], [], [], [], [], [], [], [], [], [], [], [], [], [], [], [], [], [], [], [], [], [], [], [], [], [], [], [], [], [], [], [], [], []]) rfl (by kernel_rfl) ?_
  refine qA_ev (st' := ⟨158, [(90, I ((w64 (((a0.length : Int)) - 1)))), (89, I ((a0.length : Int))), (88, A a0), (87, I a1.fOf), (86, .fptr (Enc.cells a1) 3), (0, A a0), (3, .fptr (Enc.cells a1) 0), (5, A v3.fColumns)], []⟩) τ_ok [] [] 5 (by exact trivial) (by kernel_rfl) ?_
  obtain ⟨v37, hv38, h⟩ := bindS h
  refine qA_E (dd := some 91) (x := B v37) ([]) (⟨158, [(91, B v37), (90, I ((w64 (((a0.length : Int)) - 1)))), (89, I ((a0.length : Int))), (88, A a0), (87, I a1.fOf), (86, .fptr (Enc.cells a1) 3), (0, A a0), (3, .fptr (Enc.cells a1) 0), (5, A v3.fColumns)], []⟩) (fun Γ' hΓ => CoreE.of_g (callV_sound (τ := τ) (by kernel_rfl) rfl (ok_spec_l1In hv38) (FzTo.frz rfl))) (by kernel_rfl) (by kernel_rfl) (by exact trivial) (.inr (.inr rfl)) (by kernel_rfl) ?_
  refine qA_ev (st' := ⟨158, [(93, B ((!v37))), (92, B ((!v37))), (91, B v37), (90, I ((w64 (((a0.length : Int)) - 1)))), (89, I ((a0.length : Int))), (88, A a0), (87, I a1.fOf), (86, .fptr (Enc.cells a1) 3), (0, A a0), (3, .fptr (Enc.cells a1) 0), (5, A v3.fColumns)], []⟩) τ_ok [] [] 2 (by exact trivial) (by kernel_rfl) ?_
  rcases fk ((!v37)) with hc48 | hc48
  replace h := bT hc48 h
  rw [hc48]
  refine qA_ev (st' := ⟨158, [(126, B true), (125, .lit undef), (124, .lit undef), (123, .lit undef), (122, .lit undef), (121, B true), (120, B true), (119, .lit undef), (118, .lit undef), (117, .lit undef), (116, .lit undef), (115, .lit undef), (114, .lit undef), (113, .lit undef), (112, B true), (111, B true), (110, .lit undef), (109, .lit undef), (108, .lit undef), (107, .lit undef), (106, .lit undef), (105, .lit undef), (104, .lit undef), (103, .lit undef), (102, .lit undef), (101, .lit undef), (100, B true), (99, B true), (98, .lit undef), (97, .lit undef), (96, .lit undef), (95, .lit undef), (94, .lit undef), (93, B true), (92, B true), (91, B v37), (90, I ((w64 (((a0.length : Int)) - 1)))), (89, I ((a0.length : Int))), (88, A a0), (87, I a1.fOf), (86, .fptr (Enc.cells a1) 3), (0, A a0), (3, .fptr (Enc.cells a1) 0), (5, A v3.fColumns)], []⟩) τ_ok [] [] 33 (by exact trivial) (by kernel_rfl) ?_
  refine qA_end ?_
  refine opsP_imp (Imp.to (st' := ⟨158, [(0, A a0), (3, .fptr (Enc.cells a1) 0), (5, A v3.fColumns), (126, B true)], []⟩) [0, 3, 5, 126] (by kernel_rfl)) ?_
  refine opsP_end rfl ?_
  exact ⟨true, h, (Imp.to (st' := ⟨158, [(0, A a0), (3, .fptr (Enc.cells a1) 0), (5, A v3.fColumns), (126, B true)], []⟩) [0, 3, 5, 126] (by kernel_rfl)).trans (Imp.to [0, 3, 5, 126] (by kernel_rfl))⟩
  replace h := bF hc48 h
  rw [hc48]
  refine qA_ev (st' := ⟨158, [(96, A a1.fList), (95, .fptr (Enc.cells a1) 2), (94, A v3.fColumns), (93, B false), (92, B false), (91, B v37), (90, I ((w64 (((a0.length : Int)) - 1)))), (89, I ((a0.length : Int))), (88, A a0), (87, I a1.fOf), (86, .fptr (Enc.cells a1) 3), (0, A a0), (3, .fptr (Enc.cells a1) 0), (5, A v3.fColumns)], []⟩) τ_ok [] [] 3 (by exact trivial) (by kernel_rfl) ?_
  obtain ⟨v39, hv40, h⟩ := bindS h
  refine qA_E (dd := some 97) (x := B v39) ([]) (⟨158, [(97, B v39), (96, A a1.fList), (95, .fptr (Enc.cells a1) 2), (94, A v3.fColumns), (93, B false), (92, B false), (91, B v37), (90, I ((w64 (((a0.length : Int)) - 1)))), (89, I ((a0.length : Int))), (88, A a0), (87, I a1.fOf), (86, .fptr (Enc.cells a1) 3), (0, A a0), (3, .fptr (Enc.cells a1) 0), (5, A v3.fColumns)], []⟩) (fun Γ' hΓ => CoreE.of_g (callV_sound (τ := τ) (by kernel_rfl) rfl (ok_spec_l12Columns hv40) (FzTo.frz rfl))) (by kernel_rfl) (by kernel_rfl) (by exact trivial) (.inr (.inr rfl)) (by kernel_rfl) ?_
  refine qA_ev (st' := ⟨158, [(100, B ((!v39))), (99, B ((!v39))), (98, B ((!v39))), (97, B v39), (96, A a1.fList), (95, .fptr (Enc.cells a1) 2), (94, A v3.fColumns), (93, B false), (92, B false), (91, B v37), (90, I ((w64 (((a0.length : Int)) - 1)))), (89, I ((a0.length : Int))), (88, A a0), (87, I a1.fOf), (86, .fptr (Enc.cells a1) 3), (0, A a0), (3, .fptr (Enc.cells a1) 0), (5, A v3.fColumns)], []⟩) τ_ok [] [] 3 (by exact trivial) (by kernel_rfl) ?_
  rcases fk ((!v39)) with hc47 | hc47
  replace h := bT hc47 h
  rw [hc47]
  refine qA_ev (st' := ⟨158, [(126, B true), (125, .lit undef), (124, .lit undef), (123, .lit undef), (122, .lit undef), (121, B true), (120, B true), (119, .lit undef), (118, .lit undef), (117, .lit undef), (116, .lit undef), (115, .lit undef), (114, .lit undef), (113, .lit undef), (112, B true), (111, B true), (110, .lit undef), (109, .lit undef), (108, .lit undef), (107, .lit undef), (106, .lit undef), (105, .lit undef), (104, .lit undef), (103, .lit undef), (102, .lit undef), (101, .lit undef), (100, B true), (99, B true), (98, B true), (97, B v39), (96, A a1.fList), (95, .fptr (Enc.cells a1) 2), (94, A v3.fColumns), (93, B false), (92, B false), (91, B v37), (90, I ((w64 (((a0.length : Int)) - 1)))), (89, I ((a0.length : Int))), (88, A a0), (87, I a1.fOf), (86, .fptr (Enc.cells a1) 3), (0, A a0), (3, .fptr (Enc.cells a1) 0), (5, A v3.fColumns)], []⟩) τ_ok [] [] 26 (by exact trivial) (by kernel_rfl) ?_
  refine qA_end ?_
  refine opsP_imp (Imp.to (st' := ⟨158, [(0, A a0), (3, .fptr (Enc.cells a1) 0), (5, A v3.fColumns), (126, B true)], []⟩) [0, 3, 5, 126] (by kernel_rfl)) ?_
  refine opsP_end rfl ?_
  exact ⟨true, h, (Imp.to (st' := ⟨158, [(0, A a0), (3, .fptr (Enc.cells a1) 0), (5, A v3.fColumns), (126, B true)], []⟩) [0, 3, 5, 126] (by kernel_rfl)).trans (Imp.to [0, 3, 5, 126] (by kernel_rfl))⟩
  replace h := bF hc47 h
  rw [hc47]
  refine qA_ev (st' := ⟨158, [(103, I a1.fOf), (102, .fptr (Enc.cells a1) 3), (101, A a0), (100, B false), (99, B false), (98, B false), (97, B v39), (96, A a1.fList), (95, .fptr (Enc.cells a1) 2), (94, A v3.fColumns), (93, B false), (92, B false), (91, B v37), (90, I ((w64 (((a0.length : Int)) - 1)))), (89, I ((a0.length : Int))), (88, A a0), (87, I a1.fOf), (86, .fptr (Enc.cells a1) 3), (0, A a0), (3, .fptr (Enc.cells a1) 0), (5, A v3.fColumns)], []⟩) τ_ok [] [] 3 (by exact trivial) (by kernel_rfl) ?_
  obtain ⟨v41, hv42, h⟩ := bindS h
  refine qA_E (dd := some 104) (x := .fptr (Enc.cells v41) 0) ([]) (⟨158, [(104, .fptr (Enc.cells v41) 0), (103, I a1.fOf), (102, .fptr (Enc.cells a1) 3), (101, A a0), (100, B false), (99, B false), (98, B false), (97, B v39), (96, A a1.fList), (95, .fptr (Enc.cells a1) 2), (94, A v3.fColumns), (93, B false), (92, B false), (91, B v37), (90, I ((w64 (((a0.length : Int)) - 1)))), (89, I ((a0.length : Int))), (88, A a0), (87, I a1.fOf), (86, .fptr (Enc.cells a1) 3), (0, A a0), (3, .fptr (Enc.cells a1) 0), (5, A v3.fColumns)], []⟩) (fun Γ' hΓ => CoreE.of_y (idxV_sound τ_ok (by kernel_rfl) hv42)) (by kernel_rfl) (by kernel_rfl) (by exact trivial) (.inr (.inr rfl)) (by kernel_rfl) ?_
  refine qA_ev (st' := ⟨158, [(108, A a1.fTo), (107, .fptr (Enc.cells a1) 4), (106, A v41.fColumns), (105, .fptr (Enc.cells v41) 0), (104, .fptr (Enc.cells v41) 0), (103, I a1.fOf), (102, .fptr (Enc.cells a1) 3), (101, A a0), (100, B false), (99, B false), (98, B false), (97, B v39), (96, A a1.fList), (95, .fptr (Enc.cells a1) 2), (94, A v3.fColumns), (93, B false), (92, B false), (91, B v37), (90, I ((w64 (((a0.length : Int)) - 1)))), (89, I ((a0.length : Int))), (88, A a0), (87, I a1.fOf), (86, .fptr (Enc.cells a1) 3), (0, A a0), (3, .fptr (Enc.cells a1) 0), (5, A v3.fColumns)], []⟩) τ_ok [] [] 4 (by exact trivial) (by kernel_rfl) ?_
  obtain ⟨v43, hv44, h⟩ := bindS h
  refine qA_E (dd := some 109) (x := B v43) ([]) (⟨158, [(109, B v43), (108, A a1.fTo), (107, .fptr (Enc.cells a1) 4), (106, A v41.fColumns), (105, .fptr (Enc.cells v41) 0), (104, .fptr (Enc.cells v41) 0), (103, I a1.fOf), (102, .fptr (Enc.cells a1) 3), (101, A a0), (100, B false), (99, B false), (98, B false), (97, B v39), (96, A a1.fList), (95, .fptr (Enc.cells a1) 2), (94, A v3.fColumns), (93, B false), (92, B false), (91, B v37), (90, I ((w64 (((a0.length : Int)) - 1)))), (89, I ((a0.length : Int))), (88, A a0), (87, I a1.fOf), (86, .fptr (Enc.cells a1) 3), (0, A a0), (3, .fptr (Enc.cells a1) 0), (5, A v3.fColumns)], []⟩) (fun Γ' hΓ => CoreE.of_g (callV_sound (τ := τ) (by kernel_rfl) rfl (ok_spec_l12Columns hv44) (FzTo.frz rfl))) (by kernel_rfl) (by kernel_rfl) (by exact trivial) (.inr (.inr rfl)) (by kernel_rfl) ?_
  refine qA_ev (st' := ⟨158, [(112, B ((!v43))), (111, B ((!v43))), (110, B ((!v43))), (109, B v43), (108, A a1.fTo), (107, .fptr (Enc.cells a1) 4), (106, A v41.fColumns), (105, .fptr (Enc.cells v41) 0), (104, .fptr (Enc.cells v41) 0), (103, I a1.fOf), (102, .fptr (Enc.cells a1) 3), (101, A a0), (100, B false), (99, B false), (98, B false), (97, B v39), (96, A a1.fList), (95, .fptr (Enc.cells a1) 2), (94, A v3.fColumns), (93, B false), (92, B false), (91, B v37), (90, I ((w64 (((a0.length : Int)) - 1)))), (89, I ((a0.length : Int))), (88, A a0), (87, I a1.fOf), (86, .fptr (Enc.cells a1) 3), (0, A a0), (3, .fptr (Enc.cells a1) 0), (5, A v3.fColumns)], []⟩) τ_ok [] [] 3 (by exact trivial) (by kernel_rfl) ?_
  rcases fk ((!v43)) with hc46 | hc46
  replace h := bT hc46 h
  rw [hc46]
  refine qA_ev (st' := ⟨158, [(126, B true), (125, .lit undef), (124, .lit undef), (123, .lit undef), (122, .lit undef), (121, B true), (120, B true), (119, .lit undef), (118, .lit undef), (117, .lit undef), (116, .lit undef), (115, .lit undef), (114, .lit undef), (113, .lit undef), (112, B true), (111, B true), (110, B true), (109, B v43), (108, A a1.fTo), (107, .fptr (Enc.cells a1) 4), (106, A v41.fColumns), (105, .fptr (Enc.cells v41) 0), (104, .fptr (Enc.cells v41) 0), (103, I a1.fOf), (102, .fptr (Enc.cells a1) 3), (101, A a0), (100, B false), (99, B false), (98, B false), (97, B v39), (96, A a1.fList), (95, .fptr (Enc.cells a1) 2), (94, A v3.fColumns), (93, B false), (92, B false), (91, B v37), (90, I ((w64 (((a0.length : Int)) - 1)))), (89, I ((a0.length : Int))), (88, A a0), (87, I a1.fOf), (86, .fptr (Enc.cells a1) 3), (0, A a0), (3, .fptr (Enc.cells a1) 0), (5, A v3.fColumns)], []⟩) τ_ok [] [] 14 (by exact trivial) (by kernel_rfl) ?_
  refine qA_end ?_
  refine opsP_imp (Imp.to (st' := ⟨158, [(0, A a0), (3, .fptr (Enc.cells a1) 0), (5, A v3.fColumns), (126, B true)], []⟩) [0, 3, 5, 126] (by kernel_rfl)) ?_
  refine opsP_end rfl ?_
  exact ⟨true, h, (Imp.to (st' := ⟨158, [(0, A a0), (3, .fptr (Enc.cells a1) 0), (5, A v3.fColumns), (126, B true)], []⟩) [0, 3, 5, 126] (by kernel_rfl)).trans (Imp.to [0, 3, 5, 126] (by kernel_rfl))⟩
  replace h := bF hc46 h
  rw [hc46]
  refine qA_ev (st' := ⟨158, [(121, B ((!(((a1.fList.length : Int)) == ((a1.fTo.length : Int)))))), (120, B ((!(((a1.fList.length : Int)) == ((a1.fTo.length : Int)))))), (119, B ((!(((a1.fList.length : Int)) == ((a1.fTo.length : Int)))))), (118, I ((a1.fTo.length : Int))), (117, A a1.fTo), (116, .fptr (Enc.cells a1) 4), (115, I ((a1.fList.length : Int))), (114, A a1.fList), (113, .fptr (Enc.cells a1) 2), (112, B false), (111, B false), (110, B false), (109, B v43), (108, A a1.fTo), (107, .fptr (Enc.cells a1) 4), (106, A v41.fColumns), (105, .fptr (Enc.cells v41) 0), (104, .fptr (Enc.cells v41) 0), (103, I a1.fOf), (102, .fptr (Enc.cells a1) 3), (101, A a0), (100, B false), (99, B false), (98, B false), (97, B v39), (96, A a1.fList), (95, .fptr (Enc.cells a1) 2), (94, A v3.fColumns), (93, B false), (92, B false), (91, B v37), (90, I ((w64 (((a0.length : Int)) - 1)))), (89, I ((a0.length : Int))), (88, A a0), (87, I a1.fOf), (86, .fptr (Enc.cells a1) 3), (0, A a0), (3, .fptr (Enc.cells a1) 0), (5, A v3.fColumns)], []⟩) τ_ok [] [] 9 (by exact trivial) (by kernel_rfl) ?_
  rcases fk ((!(((a1.fList.length : Int)) == ((a1.fTo.length : Int))))) with hc45 | hc45
  replace h := bT hc45 h
  rw [hc45]
  refine qA_ev (st' := ⟨158, [(126, B true), (125, .lit undef), (124, .lit undef), (123, .lit undef), (122, .lit undef), (121, B true), (120, B true), (119, B true), (118, I ((a1.fTo.length : Int))), (117, A a1.fTo), (116, .fptr (Enc.cells a1) 4), (115, I ((a1.fList.length : Int))), (114, A a1.fList), (113, .fptr (Enc.cells a1) 2), (112, B false), (111, B false), (110, B false), (109, B v43), (108, A a1.fTo), (107, .fptr (Enc.cells a1) 4), (106, A v41.fColumns), (105, .fptr (Enc.cells v41) 0), (104, .fptr (Enc.cells v41) 0), (103, I a1.fOf), (102, .fptr (Enc.cells a1) 3), (101, A a0), (100, B false), (99, B false), (98, B false), (97, B v39), (96, A a1.fList), (95, .fptr (Enc.cells a1) 2), (94, A v3.fColumns), (93, B false), (92, B false), (91, B v37), (90, I ((w64 (((a0.length : Int)) - 1)))), (89, I ((a0.length : Int))), (88, A a0), (87, I a1.fOf), (86, .fptr (Enc.cells a1) 3), (0, A a0), (3, .fptr (Enc.cells a1) 0), (5, A v3.fColumns)], []⟩) τ_ok [] [] 5 (by exact trivial) (by kernel_rfl) ?_
  refine qA_end ?_
  refine opsP_imp (Imp.to (st' := ⟨158, [(0, A a0), (3, .fptr (Enc.cells a1) 0), (5, A v3.fColumns), (126, B true)], []⟩) [0, 3, 5, 126] (by kernel_rfl)) ?_
  refine opsP_end rfl ?_
  exact ⟨true, h, (Imp.to (st' := ⟨158, [(0, A a0), (3, .fptr (Enc.cells a1) 0), (5, A v3.fColumns), (126, B true)], []⟩) [0, 3, 5, 126] (by kernel_rfl)).trans (Imp.to [0, 3, 5, 126] (by kernel_rfl))⟩
  replace h := bF hc45 h
  rw [hc45]
  refine qA_ev (st' := ⟨158, [(126, B ((decide (((a1.fE.length : Int)) > 0)))), (125, B ((decide (((a1.fE.length : Int)) > 0)))), (124, I ((a1.fE.length : Int))), (123, A a1.fE), (122, .fptr (Enc.cells a1) 6), (121, B false), (120, B false), (119, B false), (118, I ((a1.fTo.length : Int))), (117, A a1.fTo), (116, .fptr (Enc.cells a1) 4), (115, I ((a1.fList.length : Int))), (114, A a1.fList), (113, .fptr (Enc.cells a1) 2), (112, B false), (111, B false), (110, B false), (109, B v43), (108, A a1.fTo), (107, .fptr (Enc.cells a1) 4), (106, A v41.fColumns), (105, .fptr (Enc.cells v41) 0), (104, .fptr (Enc.cells v41) 0), (103, I a1.fOf), (102, .fptr (Enc.cells a1) 3), (101, A a0), (100, B false), (99, B false), (98, B false), (97, B v39), (96, A a1.fList), (95, .fptr (Enc.cells a1) 2), (94, A v3.fColumns), (93, B false), (92, B false), (91, B v37), (90, I ((w64 (((a0.length : Int)) - 1)))), (89, I ((a0.length : Int))), (88, A a0), (87, I a1.fOf), (86, .fptr (Enc.cells a1) 3), (0, A a0), (3, .fptr (Enc.cells a1) 0), (5, A v3.fColumns)], []⟩) τ_ok [] [] 5 (by exact trivial) (by kernel_rfl) ?_
  refine qA_end ?_
  refine opsP_imp (Imp.to (st' := ⟨158, [(0, A a0), (3, .fptr (Enc.cells a1) 0), (5, A v3.fColumns), (126, B ((decide (((a1.fE.length : Int)) > 0))))], []⟩) [0, 3, 5, 126] (by kernel_rfl)) ?_
  refine opsP_end rfl ?_
  exact ⟨(decide (((a1.fE.length : Int)) > 0)), h, (Imp.to (st' := ⟨158, [(0, A a0), (3, .fptr (Enc.cells a1) 0), (5, A v3.fColumns), (126, B ((decide (((a1.fE.length : Int)) > 0))))], []⟩) [0, 3, 5, 126] (by kernel_rfl)).trans (Imp.to [0, 3, 5, 126] (by kernel_rfl))⟩
  rintro x20 h
  unfold spec_BondOk_j1 at h
  refine pc h (fun h => ?_) (fun h => ?_)
  refine srve 158 [(4, B false)] [] ?_
  cases h
  exact pwp_ret rz
  refine pwp_skip ?_
  refine pwp_seq ?_
  refine srve 158 [(0, A a0), (3, .fptr (Enc.cells a1) 0), (5, A v3.fColumns), (6, I 0)] [] ?_
  refine pwp_block ?_
  refine pwp_loop (ι := Nat × Int) (fun (f23, x22) => (⟨158, [(0, A a0), (3, .fptr (Enc.cells a1) 0), (5, A v3.fColumns), (6, I x22)], []⟩ : St)) (fun (f23, x22) => spec_BondOk_l2 a0 a1 v3 f23 x22 = some y) (fun (f23, x22) => f23) (FUEL, 0) h ((Imp.to (st' := ⟨158, [(0, A a0), (3, .fptr (Enc.cells a1) 0), (5, A v3.fColumns), (6, I 0)], []⟩) [0, 3, 5, 6] (by kernel_rfl)).trans (Imp.to [0, 3, 5, 6] (by kernel_rfl))) ?_
  rintro ⟨f23, x22⟩ h
  dsimp only at h ⊢
  rcases f23 with _ | f23
  cases h
  rw [spec_BondOk_l2] at h
  refine pwp_seq ?_
  refine srve 158 [(0, A a0), (3, .fptr (Enc.cells a1) 0), (5, A v3.fColumns), (6, I x22), (131, B ((decide (x22 < ((a1.fList.length : Int))))))] [] ?_
  refine pc h (fun h => ?_) (fun h => ?_)
  refine pwp_skip ?_
  refine pwp_seq ?_
  refine pwp_block ?_
  refine pwp_seq ?_
  refine pwp_imp (Imp.to (st' := ⟨158, [(0, A a0), (3, .fptr (Enc.cells a1) 0), (5, A v3.fColumns), (6, I x22)], []⟩) [0, 3, 5, 6] (by kernel_rfl)) ?_
  refine pwp_any ([[], [], [], [], [], [], [], [], [], [], [], [], [], [], [], [], [], [], [], [], [], [], [], []]) ([[], [], [], [], [], [], [], [], [], [], [], [], [], [], [], [], [], [], [], [], [], [], [], []]) rfl (by kernel_rfl) ?_
  refine qA_ev (st' := ⟨158, [(137, I x22), (136, A a1.fList), (135, .fptr (Enc.cells a1) 2), (134, A v3.fColumns), (0, A a0), (3, .fptr (Enc.cells a1) 0), (5, A v3.fColumns), (6, I x22)], []⟩) τ_ok [] [] 4 (by exact trivial) (by kernel_rfl) ?_
  obtain ⟨v26, hv27, h⟩ := bindS h
  refine qA_E (dd := some 138) (x := .fptr (Enc.cells v26) 0) ([]) (⟨158, [(138, .fptr (Enc.cells v26) 0), (137, I x22), (136, A a1.fList), (135, .fptr (Enc.cells a1) 2), (134, A v3.fColumns), (0, A a0), (3, .fptr (Enc.cells a1) 0), (5, A v3.fColumns), (6, I x22)], []⟩) (fun Γ' hΓ => CoreE.of_y (idxV_sound τ_ok (by kernel_rfl) hv27)) (by kernel_rfl) (by kernel_rfl) (by exact trivial) (.inr (.inr rfl)) (by kernel_rfl) ?_
  refine qA_ev (st' := ⟨158, [(139, I v26), (138, .fptr (Enc.cells v26) 0), (137, I x22), (136, A a1.fList), (135, .fptr (Enc.cells a1) 2), (134, A v3.fColumns), (0, A a0), (3, .fptr (Enc.cells a1) 0), (5, A v3.fColumns), (6, I x22)], []⟩) τ_ok [] [] 1 (by exact trivial) (by kernel_rfl) ?_
  obtain ⟨v28, hv29, h⟩ := bindS h
  refine qA_E (dd := some 140) (x := .fptr (Enc.cells v28) 0) ([]) (⟨158, [(140, .fptr (Enc.cells v28) 0), (139, I v26), (138, .fptr (Enc.cells v26) 0), (137, I x22), (136, A a1.fList), (135, .fptr (Enc.cells a1) 2), (134, A v3.fColumns), (0, A a0), (3, .fptr (Enc.cells a1) 0), (5, A v3.fColumns), (6, I x22)], []⟩) (fun Γ' hΓ => CoreE.of_y (idxV_sound τ_ok (by kernel_rfl) hv29)) (by kernel_rfl) (by kernel_rfl) (by exact trivial) (.inr (.inr rfl)) (by kernel_rfl) ?_
  refine qA_ev (st' := ⟨158, [(145, I a1.fOf), (144, .fptr (Enc.cells a1) 3), (143, A a0), (142, I v28.fKind), (141, .fptr (Enc.cells v28) 0), (140, .fptr (Enc.cells v28) 0), (139, I v26), (138, .fptr (Enc.cells v26) 0), (137, I x22), (136, A a1.fList), (135, .fptr (Enc.cells a1) 2), (134, A v3.fColumns), (0, A a0), (3, .fptr (Enc.cells a1) 0), (5, A v3.fColumns), (6, I x22)], []⟩) τ_ok [] [] 5 (by exact trivial) (by kernel_rfl) ?_
  obtain ⟨v30, hv31, h⟩ := bindS h
  refine qA_E (dd := some 146) (x := .fptr (Enc.cells v30) 0) ([]) (⟨158, [(146, .fptr (Enc.cells v30) 0), (145, I a1.fOf), (144, .fptr (Enc.cells a1) 3), (143, A a0), (142, I v28.fKind), (141, .fptr (Enc.cells v28) 0), (140, .fptr (Enc.cells v28) 0), (139, I v26), (138, .fptr (Enc.cells v26) 0), (137, I x22), (136, A a1.fList), (135, .fptr (Enc.cells a1) 2), (134, A v3.fColumns), (0, A a0), (3, .fptr (Enc.cells a1) 0), (5, A v3.fColumns), (6, I x22)], []⟩) (fun Γ' hΓ => CoreE.of_y (idxV_sound τ_ok (by kernel_rfl) hv31)) (by kernel_rfl) (by kernel_rfl) (by exact trivial) (.inr (.inr rfl)) (by kernel_rfl) ?_
  refine qA_ev (st' := ⟨158, [(151, I x22), (150, A a1.fTo), (149, .fptr (Enc.cells a1) 4), (148, A v30.fColumns), (147, .fptr (Enc.cells v30) 0), (146, .fptr (Enc.cells v30) 0), (145, I a1.fOf), (144, .fptr (Enc.cells a1) 3), (143, A a0), (142, I v28.fKind), (141, .fptr (Enc.cells v28) 0), (140, .fptr (Enc.cells v28) 0), (139, I v26), (138, .fptr (Enc.cells v26) 0), (137, I x22), (136, A a1.fList), (135, .fptr (Enc.cells a1) 2), (134, A v3.fColumns), (0, A a0), (3, .fptr (Enc.cells a1) 0), (5, A v3.fColumns), (6, I x22)], []⟩) τ_ok [] [] 5 (by exact trivial) (by kernel_rfl) ?_
  obtain ⟨v32, hv33, h⟩ := bindS h
  refine qA_E (dd := some 152) (x := .fptr (Enc.cells v32) 0) ([]) (⟨158, [(152, .fptr (Enc.cells v32) 0), (151, I x22), (150, A a1.fTo), (149, .fptr (Enc.cells a1) 4), (148, A v30.fColumns), (147, .fptr (Enc.cells v30) 0), (146, .fptr (Enc.cells v30) 0), (145, I a1.fOf), (144, .fptr (Enc.cells a1) 3), (143, A a0), (142, I v28.fKind), (141, .fptr (Enc.cells v28) 0), (140, .fptr (Enc.cells v28) 0), (139, I v26), (138, .fptr (Enc.cells v26) 0), (137, I x22), (136, A a1.fList), (135, .fptr (Enc.cells a1) 2), (134, A v3.fColumns), (0, A a0), (3, .fptr (Enc.cells a1) 0), (5, A v3.fColumns), (6, I x22)], []⟩) (fun Γ' hΓ => CoreE.of_y (idxV_sound τ_ok (by kernel_rfl) hv33)) (by kernel_rfl) (by kernel_rfl) (by exact trivial) (.inr (.inr rfl)) (by kernel_rfl) ?_
  refine qA_ev (st' := ⟨158, [(153, I v32), (152, .fptr (Enc.cells v32) 0), (151, I x22), (150, A a1.fTo), (149, .fptr (Enc.cells a1) 4), (148, A v30.fColumns), (147, .fptr (Enc.cells v30) 0), (146, .fptr (Enc.cells v30) 0), (145, I a1.fOf), (144, .fptr (Enc.cells a1) 3), (143, A a0), (142, I v28.fKind), (141, .fptr (Enc.cells v28) 0), (140, .fptr (Enc.cells v28) 0), (139, I v26), (138, .fptr (Enc.cells v26) 0), (137, I x22), (136, A a1.fList), (135, .fptr (Enc.cells a1) 2), (134, A v3.fColumns), (0, A a0), (3, .fptr (Enc.cells a1) 0), (5, A v3.fColumns), (6, I x22)], []⟩) τ_ok [] [] 1 (by exact trivial) (by kernel_rfl) ?_
  obtain ⟨v34, hv35, h⟩ := bindS h
  refine qA_E (dd := some 154) (x := .fptr (Enc.cells v34) 0) ([]) (⟨158, [(154, .fptr (Enc.cells v34) 0), (153, I v32), (152, .fptr (Enc.cells v32) 0), (151, I x22), (150, A a1.fTo), (149, .fptr (Enc.cells a1) 4), (148, A v30.fColumns), (147, .fptr (Enc.cells v30) 0), (146, .fptr (Enc.cells v30) 0), (145, I a1.fOf), (144, .fptr (Enc.cells a1) 3), (143, A a0), (142, I v28.fKind), (141, .fptr (Enc.cells v28) 0), (140, .fptr (Enc.cells v28) 0), (139, I v26), (138, .fptr (Enc.cells v26) 0), (137, I x22), (136, A a1.fList), (135, .fptr (Enc.cells a1) 2), (134, A v3.fColumns), (0, A a0), (3, .fptr (Enc.cells a1) 0), (5, A v3.fColumns), (6, I x22)], []⟩) (fun Γ' hΓ => CoreE.of_y (idxV_sound τ_ok (by kernel_rfl) hv35)) (by kernel_rfl) (by kernel_rfl) (by exact trivial) (.inr (.inr rfl)) (by kernel_rfl) ?_
  refine qA_ev (st' := ⟨158, [(157, B ((!(v28.fKind == v34.fKind)))), (156, I v34.fKind), (155, .fptr (Enc.cells v34) 0), (154, .fptr (Enc.cells v34) 0), (153, I v32), (152, .fptr (Enc.cells v32) 0), (151, I x22), (150, A a1.fTo), (149, .fptr (Enc.cells a1) 4), (148, A v30.fColumns), (147, .fptr (Enc.cells v30) 0), (146, .fptr (Enc.cells v30) 0), (145, I a1.fOf), (144, .fptr (Enc.cells a1) 3), (143, A a0), (142, I v28.fKind), (141, .fptr (Enc.cells v28) 0), (140, .fptr (Enc.cells v28) 0), (139, I v26), (138, .fptr (Enc.cells v26) 0), (137, I x22), (136, A a1.fList), (135, .fptr (Enc.cells a1) 2), (134, A v3.fColumns), (0, A a0), (3, .fptr (Enc.cells a1) 0), (5, A v3.fColumns), (6, I x22)], []⟩) τ_ok [] [] 3 (by exact trivial) (by kernel_rfl) ?_
  refine qA_end ?_
  refine opsP_imp (Imp.to (st' := ⟨158, [(0, A a0), (3, .fptr (Enc.cells a1) 0), (5, A v3.fColumns), (6, I x22), (157, B ((!(v28.fKind == v34.fKind))))], []⟩) [0, 3, 5, 6, 157] (by kernel_rfl)) ?_
  refine opsP_end rfl ?_
  refine pc h (fun h => ?_) (fun h => ?_)
  refine srve 158 [(4, B false)] [] ?_
  cases h
  exact pwp_ret rz
  refine pwp_skip ?_
  refine rve 158 [(0, A a0), (3, .fptr (Enc.cells a1) 0), (5, A v3.fColumns), (6, I ((w64 (x22 + 1))))] [] ?_
  exact ⟨(f23, (w64 (x22 + 1))), h, Nat.lt_succ_self _, (Imp.to (st' := ⟨158, [(0, A a0), (3, .fptr (Enc.cells a1) 0), (5, A v3.fColumns), (6, I ((w64 (x22 + 1))))], []⟩) [0, 3, 5, 6] (by kernel_rfl)).trans (Imp.to [0, 3, 5, 6] (by kernel_rfl))⟩
  refine pwp_exit ?_
  refine srve 158 [(4, B true)] [] ?_
  cases h
  exact pwp_ret rz
  refine pwp_skip ?_
  refine srve 158 [(4, B false)] [] ?_
  cases h
  exact pwp_ret rz
def impl_RowsOk (a0 : List T_impl_Column) (a1 : List (List T_impl_Value)) : Option Bool := (impl_ColumnsOk a0).bind fun v1 => bif v1 then (slices_ContainsFunc_impl_Value_impl_Value_s3 a1 (fun z0 => impl_RowsOk_1 z0 a0)).bind fun v3 => some ((!v3)) else some false
theorem ok_impl_RowsOk {a0 : List T_impl_Column} {a1 : List (List T_impl_Value)} {y : Bool} (h : impl_RowsOk a0 a1 = some y) : OK Try.prog 21 [A a0, A a1] (B y) := by
  refine OK_of_pwp τ_ok Try.func21 rfl (by kernel_rfl) rfl fun Γ hX => ?_
  unfold impl_RowsOk at h
  refine srve 13 [(1, A a1), (2, .fptr (Enc.cells a0) 0)] [] ?_
  refine srv 1 13 [(1, A a1), (2, .fptr (Enc.cells a0) 0), (5, A a0)] [] ?_
  obtain ⟨v1, hv2, h⟩ := bindS h
  refine opsP_callF τ 6 (ok_impl_ColumnsOk hv2) (FzTo.frz rfl) rfl (by kernel_rfl) ?_
  refine v 1 13 [(1, A a1), (2, .fptr (Enc.cells a0) 0), (7, B v1)] [] ?_
  rcases Bool.eq_false_or_eq_true v1 with hc5 | hc5
  replace h := bT hc5 h
  rw [hc5]
  refine v 2 13 [(7, B true), (8, A a1), (9, .fn 39 [.fptr (Enc.cells a0) 0])] [] ?_
  obtain ⟨v3, hv4, h⟩ := bindS h
  refine opsP_callF τ 10 (ok_slices_ContainsFunc_impl_Value_impl_Value_s3 (rfl) (fun _ w hw => ok_impl_RowsOk_1 hw) hv4) (FzTo.frz rfl) rfl (by kernel_rfl) ?_
  refine ve 3 13 [(4, B ((!v3)))] [] ?_
  cases h
  exact pwp_ret rz
  replace h := bF hc5 h
  rw [hc5]
  refine ve 6 13 [(4, B false)] [] ?_
  cases h
  exact pwp_ret rz
def impl_TablesOk_1 (a0 : T_impl_Table) : Option Bool := (impl_ColumnsOk a0.fColumns).bind fun v1 => bif (!v1) then some true else bif (decide (((a0.fRows.length : Int)) > 6)) then some true else (impl_RowsOk a0.fColumns a0.fRows).bind fun v3 => some ((!v3))
theorem ok_impl_TablesOk_1 {a0 : T_impl_Table} {y : Bool} (h : impl_TablesOk_1 a0 = some y) : OK Try.prog 19 [E a0] (B y) := by
  refine OK_of_pwp τ_ok Try.func19 rfl (by kernel_rfl) rfl fun Γ hX => ?_
  unfold impl_TablesOk_1 at h
  refine srve 21 [(1, .fptr (Enc.cells a0) 0)] [] ?_
  refine srv 2 21 [(1, .fptr (Enc.cells a0) 0), (4, A a0.fColumns)] [] ?_
  obtain ⟨v1, hv2, h⟩ := bindS h
  refine opsP_callF τ 5 (ok_impl_ColumnsOk hv2) (FzTo.frz rfl) rfl (by kernel_rfl) ?_
  refine v 2 21 [(1, .fptr (Enc.cells a0) 0), (7, B ((!v1)))] [] ?_
  rcases fk ((!v1)) with hc6 | hc6
  replace h := bT hc6 h
  rw [hc6]
  refine ve 14 21 [(2, B true)] [] ?_
  cases h
  exact pwp_ret rz
  replace h := bF hc6 h
  rw [hc6]
  refine v 6 21 [(1, .fptr (Enc.cells a0) 0), (13, B ((decide (((a0.fRows.length : Int)) > 6))))] [] ?_
  rcases fk ((decide (((a0.fRows.length : Int)) > 6))) with hc5 | hc5
  replace h := bT hc5 h
  rw [hc5]
  refine ve 8 21 [(2, B true)] [] ?_
  cases h
  exact pwp_ret rz
  replace h := bF hc5 h
  rw [hc5]
  refine v 4 21 [(13, B false), (15, A a0.fColumns), (17, A a0.fRows)] [] ?_
  obtain ⟨v3, hv4, h⟩ := bindS h
  refine opsP_callF τ 18 (ok_impl_RowsOk hv4) (FzTo.frz rfl) rfl (by kernel_rfl) ?_
  refine ve 3 21 [(2, B ((!v3)))] [] ?_
  cases h
  exact pwp_ret rz
def impl_TablesOk (a0 : List T_impl_Table) : Option Bool := bif (decide (((a0.length : Int)) ≤ 3)) then (slices_ContainsFunc_impl_Table_impl_Table a0 impl_TablesOk_1).bind fun v1 => some ((!v1)) else some false
theorem ok_impl_TablesOk {a0 : List T_impl_Table} {y : Bool} (h : impl_TablesOk a0 = some y) : OK Try.prog 7 [A a0] (B y) := by
  refine OK_of_pwp τ_ok Try.func7 rfl (by kernel_rfl) rfl fun Γ hX => ?_
  unfold impl_TablesOk at h
  refine srve 11 [(0, A a0)] [] ?_
  refine srv 4 11 [(0, A a0), (6, B ((decide (((a0.length : Int)) ≤ 3))))] [] ?_
  rcases fk ((decide (((a0.length : Int)) ≤ 3))) with hc3 | hc3
  replace h := bT hc3 h
  rw [hc3]
  refine v 1 11 [(6, B true), (7, A a0)] [] ?_
  obtain ⟨v1, hv2, h⟩ := bindS h
  refine opsP_callF τ 8 (ok_slices_ContainsFunc_impl_Table_impl_Table (rfl) (fun _ w hw => ok_impl_TablesOk_1 hw) hv2) (FzTo.frz rfl) rfl (by kernel_rfl) ?_
  refine ve 3 11 [(2, B ((!v1)))] [] ?_
  cases h
  exact pwp_ret rz
  replace h := bF hc3 h
  rw [hc3]
  refine ve 5 11 [(2, B false)] [] ?_
  cases h
  exact pwp_ret rz
def impl_BondOk (a0 : List T_impl_Table) (a1 : T_impl_Bond) : Option Bool := (impl_TablesOk a0).bind fun v1 => bif v1 then (impl_bondOk a0 a1).bind fun v3 => some v3 else some false
theorem ok_impl_BondOk {a0 : List T_impl_Table} {a1 : T_impl_Bond} {y : Bool} (h : impl_BondOk a0 a1 = some y) : OK Try.prog 5 [A a0, E a1] (B y) := by
  refine OK_of_pwp τ_ok Try.func5 rfl (by kernel_rfl) rfl fun Γ hX => ?_
  unfold impl_BondOk at h
  refine srve 12 [(0, A a0), (3, .fptr (Enc.cells a1) 0)] [] ?_
  refine srv 1 12 [(0, A a0), (3, .fptr (Enc.cells a1) 0), (5, A a0)] [] ?_
  obtain ⟨v1, hv2, h⟩ := bindS h
  refine opsP_callF τ 6 (ok_impl_TablesOk hv2) (FzTo.frz rfl) rfl (by kernel_rfl) ?_
  refine v 1 12 [(0, A a0), (3, .fptr (Enc.cells a1) 0), (7, B v1)] [] ?_
  rcases Bool.eq_false_or_eq_true v1 with hc5 | hc5
  replace h := bT hc5 h
  rw [hc5]
  refine v 2 12 [(7, B true), (8, A a0), (9, E a1)] [] ?_
  obtain ⟨v3, hv4, h⟩ := bindS h
  refine opsP_callF τ 10 (ok_impl_bondOk hv4) (FzTo.frz rfl) rfl (by kernel_rfl) ?_
  refine ve 2 12 [(4, B v3)] [] ?_
  cases h
  exact pwp_ret rz
  replace h := bF hc5 h
  rw [hc5]
  refine ve 5 12 [(4, B false)] [] ?_
  cases h
  exact pwp_ret rz
def impl_BondBroken (a0 : List T_impl_Table) (a1 : T_impl_Bond) : Option Int := (impl_BondOk a0 a1).bind fun v1 => bif (!v1) then some (-2) else (impl_Bond_broken a1 a0).bind fun v4 => some v4
theorem ok_impl_BondBroken {a0 : List T_impl_Table} {a1 : T_impl_Bond} {y : Int} (h : impl_BondBroken a0 a1 = some y) : OK Try.prog 8 [A a0, E a1] (I y) := by
  refine OK_of_pwp τ_ok Try.func8 rfl (by kernel_rfl) rfl fun Γ hX => ?_
  unfold impl_BondBroken at h
  refine srve 12 [(0, A a0), (3, .fptr (Enc.cells a1) 0)] [] ?_
  refine pwp_seq ?_
  refine srv 2 12 [(0, A a0), (3, .fptr (Enc.cells a1) 0), (5, A a0), (6, E a1)] [] ?_
  obtain ⟨v1, hv2, h⟩ := bindS h
  refine opsP_callF τ 7 (ok_impl_BondOk hv2) (FzTo.frz rfl) rfl (by kernel_rfl) ?_
  refine ve 1 12 [(0, A a0), (3, .fptr (Enc.cells a1) 0), (8, B ((!v1)))] [] ?_
  refine pc h (fun h => ?_) (fun h => ?_)
  refine srve 12 [(4, I (-2))] [] ?_
  cases h
  exact pwp_ret rz
  refine pwp_skip ?_
  refine srv 2 12 [(9, E a1), (10, A a0)] [] ?_
  obtain ⟨v4, hv5, h⟩ := bindS h
  refine opsP_callF τ 11 (ok_impl_Bond_broken hv5) (FzTo.frz rfl) rfl (by kernel_rfl) ?_
  refine ve 1 12 [(4, I v4)] [] ?_
  cases h
  exact pwp_ret rz
def laws_FnBondOk_l0 (v2 : (List T_impl_Table) × T_impl_Bond) (v4 : Bool) : Nat → Int → (List T_impl_Table) → Option Bool
  | 0, _, _ => none
  | f13 + 1, x11, x12 => bif (decide (x11 < ((v2.1.length : Int)))) then (getI v2.1 x11).bind fun v16 => (app x12 (([(T_impl_Table.mk v16.fColumns [])] : List T_impl_Table))).bind fun v18 => (laws_FnBondOk_l0 v2 v4 f13) ((w64 (x11 + 1))) v18 else (impl_TablesOk v2.1).bind fun v20 => bif (!v20) then (laws_alive).bind fun v22 => some v22 else (impl_BondBroken x12 v2.2).bind fun v24 => bif (v4 == ((v24 == (-1)))) then (laws_alive).bind fun v26 => some v26 else some false
def laws_FnBondOk (a0 : List UInt8) : Option Bool := bif (decide (((a0.length : Int)) > 1048576)) then some true else (spec_DrawBondOk a0).bind fun v2 => (impl_BondOk v2.1 v2.2).bind fun v4 => (spec_BondOk v2.1 v2.2).bind fun v6 => bif (!(v4 == v6)) then some false else laws_FnBondOk_l0 v2 v4 FUEL 0 (([] : List T_impl_Table))
theorem ok_laws_FnBondOk {a0 : List UInt8} {y : Bool} (h : laws_FnBondOk a0 = some y) : OK Try.prog 3 [A a0] (B y) := by
  refine OK_of_pwp τ_ok Try.func3 rfl (by kernel_rfl) rfl fun Γ hX => ?_
  unfold laws_FnBondOk at h
  refine srveM [4] 54 [(0, A a0)] [] ?_
  refine pwp_seq ?_
  refine srveM [4] 54 [(0, A a0), (10, B ((decide (((a0.length : Int)) > 1048576))))] [] ?_
  refine pc h (fun h => ?_) (fun h => ?_)
  refine srveM [4] 54 [(2, B true)] [] ?_
  cases h
  exact pwp_ret rz
  refine pwp_skip ?_
  refine srvM [4] 1 54 [(12, A a0)] [] ?_
  obtain ⟨v2, hv3, h⟩ := bindS h
  refine opsP_callF τ 13 (ok_spec_DrawBondOk hv3) (FzTo.tup (FzToL.cons (FzTo.frz rfl) (FzToL.cons (FzTo.frz rfl) FzToL.nil))) rfl (by kernel_rfl) ?_
  refine veM [4] 6 54 [(3, A v2.1), (4, .ptr 0 0 0)] [some ⟨0, Enc.cells v2.2⟩] ?_
  refine srvM [4] 2 54 [(3, A v2.1), (4, .ptr 0 0 0), (16, A v2.1), (17, E v2.2)] [some ⟨0, Enc.cells v2.2⟩] ?_
  obtain ⟨v4, hv5, h⟩ := bindS h
  refine opsP_callF τ 18 (ok_impl_BondOk hv5) (FzTo.frz rfl) rfl (by kernel_rfl) ?_
  refine veM [4] 1 54 [(3, A v2.1), (4, .ptr 0 0 0), (5, B v4)] [some ⟨0, Enc.cells v2.2⟩] ?_
  refine pwp_seq ?_
  refine srvM [4] 3 54 [(3, A v2.1), (4, .ptr 0 0 0), (5, B v4), (19, B v4), (20, A v2.1), (21, E v2.2)] [some ⟨0, Enc.cells v2.2⟩] ?_
  obtain ⟨v6, hv7, h⟩ := bindS h
  refine opsP_callF τ 22 (ok_spec_BondOk hv7) (FzTo.frz rfl) rfl (by kernel_rfl) ?_
  refine veM [4] 1 54 [(3, A v2.1), (4, .ptr 0 0 0), (5, B v4), (23, B ((!(v4 == v6))))] [some ⟨0, Enc.cells v2.2⟩] ?_
  refine pc h (fun h => ?_) (fun h => ?_)
  refine srveM [4] 54 [(2, B false)] [some ⟨0, Enc.cells v2.2⟩] ?_
  cases h
  exact pwp_ret rz
  refine pwp_skip ?_
  refine srveM [4] 54 [(3, A v2.1), (4, .ptr 0 0 0), (5, B v4), (6, .arr 2 0 (eL ([] : List T_impl_Table)) true)] [some ⟨0, Enc.cells v2.2⟩] ?_
  refine pwp_seq ?_
  refine srveM [4] 54 [(3, A v2.1), (4, .ptr 0 0 0), (5, B v4), (6, .arr 2 0 (eL ([] : List T_impl_Table)) true), (7, I 0)] [some ⟨0, Enc.cells v2.2⟩] ?_
  refine pwp_block ?_
  refine pwp_loop (ι := Nat × Int × (List T_impl_Table)) (fun (f13, x11, x12) => (⟨54, [(3, A v2.1), (4, .ptr 0 0 0), (5, B v4), (6, .ref 1 0 0 2 x12.length false), (7, I x11)], [some ⟨0, Enc.cells v2.2⟩, some ⟨0, eL x12⟩]⟩ : St)) (fun (f13, x11, x12) => laws_FnBondOk_l0 v2 v4 f13 x11 x12 = some y) (fun (f13, x11, x12) => f13) (FUEL, 0, ([] : List T_impl_Table)) h ((Imp.to (st' := ⟨54, [(3, A v2.1), (4, .ptr 0 0 0), (5, B v4), (6, .arr 2 0 (eL ([] : List T_impl_Table)) true), (7, I 0)], [some ⟨0, Enc.cells v2.2⟩]⟩) [3, 4, 5, 6, 7] (by kernel_rfl)).trans ((Imp.thawS (st' := ⟨54, [(3, A v2.1), (4, .ptr 0 0 0), (5, B v4), (6, .ref 1 0 0 2 (([] : List T_impl_Table)).length false), (7, I 0)], [some ⟨0, Enc.cells v2.2⟩, some ⟨0, eL (([] : List T_impl_Table))⟩]⟩) 6 [3, 4, 5, 6, 7] (by kernel_rfl)).trans (Imp.to [3, 4, 5, 6, 7] (by kernel_rfl)))) ?_
  rintro ⟨f13, x11, x12⟩ h
  dsimp only at h ⊢
  rcases f13 with _ | f13
  cases h
  rw [laws_FnBondOk_l0] at h
  refine pwp_seq ?_
  refine srveM [4] 54 [(3, A v2.1), (4, .ptr 0 0 0), (5, B v4), (6, .ref 1 0 0 2 x12.length false), (7, I x11), (28, B ((decide (x11 < ((v2.1.length : Int))))))] [some ⟨0, Enc.cells v2.2⟩, some ⟨0, eL x12⟩] ?_
  refine pc h (fun h => ?_) (fun h => ?_)
  refine pwp_skip ?_
  refine pwp_seq ?_
  refine pwp_block ?_
  refine rvM [4] 3 54 [(3, A v2.1), (4, .ptr 0 0 0), (5, B v4), (7, I x11), (31, .ref 1 0 0 2 x12.length false), (32, A v2.1), (33, I x11)] [some ⟨0, Enc.cells v2.2⟩, some ⟨0, eL x12⟩] ?_
  obtain ⟨v16, hv17, h⟩ := bindS h
  refine opsP_idx τ_ok 34 hv17 (by kernel_rfl) ?_
  refine vM [4] 4 54 [(3, A v2.1), (4, .ptr 0 0 0), (5, B v4), (7, I x11), (31, .ref 1 0 0 2 x12.length false), (38, .arr 2 (([(T_impl_Table.mk v16.fColumns [])] : List T_impl_Table)).length (eL ([(T_impl_Table.mk v16.fColumns [])] : List T_impl_Table)) true)] [some ⟨0, Enc.cells v2.2⟩, some ⟨0, eL x12⟩] ?_
  obtain ⟨v18, hv19, h⟩ := bindS h
  refine opsP_app τ_ok 39 1 0 (fun b hb => absurd hb (hX b)) hv19 (by kernel_rfl) ?_
  refine veM [4] 1 54 [(3, A v2.1), (4, .ptr 0 0 0), (5, B v4), (6, .ref 1 1 0 2 v18.length false), (7, I x11)] [some ⟨0, Enc.cells v2.2⟩, some ⟨1, eL v18⟩] ?_
  refine rveM [4] 54 [(3, A v2.1), (4, .ptr 0 0 0), (5, B v4), (6, .ref 1 1 0 2 v18.length false), (7, I ((w64 (x11 + 1))))] [some ⟨0, Enc.cells v2.2⟩, some ⟨1, eL v18⟩] ?_
  exact ⟨(f13, (w64 (x11 + 1)), v18), h, Nat.lt_succ_self _, (Imp.to (st' := ⟨54, [(3, A v2.1), (4, .ptr 0 0 0), (5, B v4), (6, .ref 1 1 0 2 v18.length false), (7, I ((w64 (x11 + 1))))], [some ⟨0, Enc.cells v2.2⟩, some ⟨1, eL v18⟩]⟩) [3, 4, 5, 6, 7] (by kernel_rfl)).trans ((Imp.reverS (st' := ⟨54, [(3, A v2.1), (4, .ptr 0 0 0), (5, B v4), (6, .ref 1 0 0 2 v18.length false), (7, I ((w64 (x11 + 1))))], [some ⟨0, Enc.cells v2.2⟩, some ⟨0, eL v18⟩]⟩) 1 1 (eL v18) [3, 4, 5, 6, 7] (by kernel_rfl) (by exact (And.intro (rfl) (And.intro (eL_frz _) trivial))) (by kernel_rfl)).trans (Imp.to [3, 4, 5, 6, 7] (by kernel_rfl)))⟩
  refine pwp_exit ?_
  refine srvM [4] 1 54 [(4, .ptr 0 0 0), (5, B v4), (6, .ref 1 0 0 2 x12.length false), (40, A v2.1)] [some ⟨0, Enc.cells v2.2⟩, some ⟨0, eL x12⟩] ?_
  obtain ⟨v20, hv21, h⟩ := bindS h
  refine opsP_callF τ 41 (ok_impl_TablesOk hv21) (FzTo.frz rfl) rfl (by kernel_rfl) ?_
  refine vM [4] 2 54 [(4, .ptr 0 0 0), (5, B v4), (6, .ref 1 0 0 2 x12.length false), (43, B ((!v20)))] [some ⟨0, Enc.cells v2.2⟩, some ⟨0, eL x12⟩] ?_
  rcases fk ((!v20)) with hc29 | hc29
  replace h := bT hc29 h
  rw [hc29]
  refine vM [4] 8 54 [(51, B true)] [some ⟨0, Enc.cells v2.2⟩, some ⟨0, eL x12⟩] ?_
  obtain ⟨v22, hv23, h⟩ := bindS h
  refine opsP_callF τ 52 (ok_laws_alive hv23) (FzTo.frz rfl) rfl (by kernel_rfl) ?_
  refine veM [4] 2 54 [(2, B v22)] [some ⟨0, Enc.cells v2.2⟩, some ⟨0, eL x12⟩] ?_
  cases h
  exact pwp_ret rz
  replace h := bF hc29 h
  rw [hc29]
  refine vM [4] 3 54 [(43, B false), (44, B v4), (45, .ref 1 0 0 2 x12.length false), (46, E v2.2)] [some ⟨0, Enc.cells v2.2⟩, some ⟨0, eL x12⟩] ?_
  obtain ⟨v24, hv25, h⟩ := bindS h
  refine opsP_callV (xs := [.ref 1 0 0 2 x12.length false, E v2.2]) τ 47 (ok_impl_BondBroken hv25) (Blind.lit _) (FzTo.frz rfl) (by kernel_rfl) (ViewL.cons (View.whole (v := 0) x12 (by kernel_rfl) rfl) (ViewL.cons (View.frz rfl) (ViewL.nil _))) ?_
  refine vM [4] 4 54 [(51, B ((v4 == ((v24 == (-1))))))] [some ⟨0, Enc.cells v2.2⟩, some ⟨0, eL x12⟩] ?_
  rcases fk ((v4 == ((v24 == (-1))))) with hc28 | hc28
  replace h := bT hc28 h
  rw [hc28]
  obtain ⟨v26, hv27, h⟩ := bindS h
  refine opsP_callF τ 52 (ok_laws_alive hv27) (FzTo.frz rfl) rfl (by kernel_rfl) ?_
  refine veM [4] 2 54 [(2, B v26)] [some ⟨0, Enc.cells v2.2⟩, some ⟨0, eL x12⟩] ?_
  cases h
  exact pwp_ret rz
  replace h := bF hc28 h
  rw [hc28]
  refine veM [4] 3 54 [(2, B false)] [some ⟨0, Enc.cells v2.2⟩, some ⟨0, eL x12⟩] ?_
  cases h
  exact pwp_ret rz
end Go.D
