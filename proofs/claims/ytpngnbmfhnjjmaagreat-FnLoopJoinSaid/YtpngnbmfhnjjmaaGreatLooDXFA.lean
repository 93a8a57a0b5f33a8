import Derived.Test.YtpngnbmfhnjjmaaGreatLooDXT
import Derived.KernelRfl
set_option linter.unusedVariables false
set_option linter.unusedSimpArgs false
namespace Go.D
open Go.Proofs
def spec_l20Open_j0 (x1 : List UInt8) : Option T_spec_l20Rd := some ((T_spec_l20Rd.mk x1 0))
def spec_l20Open (a0 : List UInt8) : Option T_spec_l20Rd := bif (decide (((a0.length : Int)) > 2000)) then (slI a0 none (some 2000) none).bind fun v3 => spec_l20Open_j0 v3 else spec_l20Open_j0 a0
theorem ok_spec_l20Open {a0 : List UInt8} {y : T_spec_l20Rd} (h : spec_l20Open a0 = some y) : OK Tryz.prog 59 [A a0] (.obox (Enc.cells y) 0) := by
  refine ow Tryz.func59 fun Γ hX => ?_
  unfold spec_l20Open at h
  refine srveM [10] 11 [(0, A a0)] [] ?_
  refine pwp_seq ?_
  refine pwp_join (σ := (List UInt8)) (fun x1 => (⟨11, [(0, A x1)], []⟩ : St)) (fun x1 => spec_l20Open_j0 x1 = some y) ?_ ?_
  refine srveM [10] 11 [(0, A a0), (5, B ((decide (((a0.length : Int)) > 2000))))] [] ?_
  refine pc h (fun h => ?_) (fun h => ?_)
  refine rvM [10] 1 11 [(6, A a0)] [] ?_
  obtain ⟨v3, hv4, h⟩ := bindS h
  refine opsP_slc τ_ok 7 hv4 (by kernel_rfl) ?_
  refine veM [10] 1 11 [(0, A v3)] [] ?_
  exact ⟨v3, h, it [0]⟩
  refine pwp_skip ?_
  exact ⟨a0, h, it [0]⟩
  rintro x1 h
  unfold spec_l20Open_j0 at h
  refine srveM [10] 11 [(2, .ptr 0 0 0)] [some ⟨0, Enc.cells ((T_spec_l20Rd.mk x1 0))⟩] ?_
  have h := si h
  subst h
  exact pwp_ret (rt (.ptr 0 0 0) (OutP.box (v := 0) (by kernel_rfl)))
def impl_LoopJoin_1 (a0 : T_impl_Value) (b0 : List (List T_impl_Value)) : Option (List (List T_impl_Value)) := some b0
theorem ok_impl_LoopJoin_1 {a0 : T_impl_Value} {b0 : List (List T_impl_Value)} {y : List (List T_impl_Value)} (h : impl_LoopJoin_1 a0 b0 = some y) : OK Tryz.prog 62 [E a0, pf b0 0] (A y) := by
  refine ow Tryz.func62 fun Γ hX => ?_
  unfold impl_LoopJoin_1 at h
  refine srve 5 [(1, pf b0 0)] [] ?_
  refine srve 5 [(3, A b0)] [] ?_
  cases h
  exact pwp_ret rz
def laws_sameRow_l0 (a0 : List T_impl_Value) (a1 : List T_impl_Value) : Nat → Int → Option Bool
  | 0, _ => none
  | f3 + 1, x2 => bif (decide (x2 < ((a0.length : Int)))) then (getI a0 x2).bind fun v6 => (getI a1 x2).bind fun v8 => bif (!(eq_T_impl_Value v6 v8)) then some false else (laws_sameRow_l0 a0 a1 f3) ((w64 (x2 + 1))) else some true
def laws_sameRow (a0 : List T_impl_Value) (a1 : List T_impl_Value) : Option Bool := bif (!(((a0.length : Int)) == ((a1.length : Int)))) then some false else laws_sameRow_l0 a0 a1 FUEL 0
theorem ok_laws_sameRow {a0 : List T_impl_Value} {a1 : List T_impl_Value} {y : Bool} (h : laws_sameRow a0 a1 = some y) : OK Tryz.prog 63 [A a0, A a1] (B y) := by
  refine ow Tryz.func63 fun Γ hX => ?_
  unfold laws_sameRow at h
  refine srve 26 [(0, A a0), (1, A a1)] [] ?_
  refine pwp_seq ?_
  refine srve 26 [(0, A a0), (1, A a1), (10, B ((!(((a0.length : Int)) == ((a1.length : Int))))))] [] ?_
  refine pc h (fun h => ?_) (fun h => ?_)
  refine srve 26 [(4, B false)] [] ?_
  cases h
  exact pwp_ret rz
  refine pwp_skip ?_
  refine pwp_seq ?_
  refine srve 26 [(0, A a0), (1, A a1), (5, I 0)] [] ?_
  refine pwp_block ?_
  refine pwp_loop (ι := Nat × Int) (fun (f3, x2) => (⟨26, [(0, A a0), (1, A a1), (5, I x2)], []⟩ : St)) (fun (f3, x2) => laws_sameRow_l0 a0 a1 f3 x2 = some y) Prod.fst (FUEL, 0) h (it [0, 1, 5]) ?_
  rintro ⟨f3, x2⟩ h
  dsimp only at h ⊢
  rcases f3 with _ | f3
  cases h
  rw [laws_sameRow_l0] at h
  refine pwp_seq ?_
  refine srve 26 [(0, A a0), (1, A a1), (5, I x2), (14, B ((decide (x2 < ((a0.length : Int))))))] [] ?_
  refine pc h (fun h => ?_) (fun h => ?_)
  refine pwp_skip ?_
  refine pwp_seq ?_
  refine pwp_block ?_
  refine pwp_seq ?_
  refine ip 26 [(0, A a0), (1, A a1), (5, I x2)] [] ?_
  refine pN 9 ?_
  refine qv [] trivial 2 26 [(18, I x2), (17, A a0), (0, A a0), (1, A a1), (5, I x2)] [] ?_
  obtain ⟨v6, hv7, h⟩ := bindS h
  refine qX (some 19) (pf v6 0) 26 [(19, pf v6 0), (0, A a0), (1, A a1), (5, I x2)] [] (fun Γ' hΓ => CoreE.of_y (idxV_sound τ_ok (by kernel_rfl) hv7)) trivial ?_
  refine qv [] trivial 3 26 [(22, I x2), (21, A a1), (20, E v6), (0, A a0), (1, A a1), (5, I x2)] [] ?_
  obtain ⟨v8, hv9, h⟩ := bindS h
  refine qX (some 23) (pf v8 0) 26 [(23, pf v8 0), (20, E v6), (0, A a0), (1, A a1), (5, I x2)] [] (fun Γ' hΓ => CoreE.of_y (idxV_sound τ_ok (by kernel_rfl) hv9)) trivial ?_
  refine qvn [] trivial 2 26 [(0, A a0), (1, A a1), (5, I x2), (25, B ((!(eq_T_impl_Value v6 v8))))] [] ?_
  refine pc h (fun h => ?_) (fun h => ?_)
  refine srve 26 [(4, B false)] [] ?_
  cases h
  exact pwp_ret rz
  refine pwp_skip ?_
  refine rve 26 [(0, A a0), (1, A a1), (5, I ((w64 (x2 + 1))))] [] ?_
  exact ⟨(f3, (w64 (x2 + 1))), h, Nat.lt_succ_self _, it [0, 1, 5]⟩
  refine pwp_exit ?_
  refine srve 26 [(4, B true)] [] ?_
  cases h
  exact pwp_ret rz
def impl_Part_takes_j1 (x3 : Bool) : Option Int := bif x3 then some 1 else some 0
def impl_Part_takes_j0 (a0 : T_impl_Part) (x1 : Bool) : Option Int := bif x1 then some 2 else bif (a0.fKind == 7) then impl_Part_takes_j1 ((a0.fKind == 7)) else impl_Part_takes_j1 ((a0.fKind == 8))
def impl_Part_takes (a0 : T_impl_Part) : Option Int := bif (a0.fKind == 3) then impl_Part_takes_j0 a0 ((a0.fKind == 3)) else bif (a0.fKind == 4) then impl_Part_takes_j0 a0 ((a0.fKind == 4)) else bif (a0.fKind == 5) then impl_Part_takes_j0 a0 ((a0.fKind == 5)) else impl_Part_takes_j0 a0 ((a0.fKind == 6))
theorem ok_impl_Part_takes {a0 : T_impl_Part} {y : Int} (h : impl_Part_takes a0 = some y) : OK Tryz.prog 79 [E a0] (I y) := by
  refine ow Tryz.func79 fun Γ hX => ?_
  unfold impl_Part_takes at h
  refine srve 13 [(1, pf a0 0)] [] ?_
  refine pwp_seq ?_
  refine srve 13 [(4, I a0.fKind)] [] ?_
  refine pwp_block ?_
  refine pwp_seq ?_
  refine pwp_join (σ := Bool) (fun x1 => (⟨13, [(4, I a0.fKind), (5, B x1)], []⟩ : St)) (fun x1 => impl_Part_takes_j0 a0 x1 = some y) ?_ ?_
  refine srve 13 [(4, I a0.fKind), (5, B ((a0.fKind == 3)))] [] ?_
  refine pc h (fun h => ?_) (fun h => ?_)
  refine pwp_skip ?_
  exact ⟨(a0.fKind == 3), h, it [4, 5]⟩
  refine srve 13 [(4, I a0.fKind), (5, B ((a0.fKind == 4)))] [] ?_
  refine pc h (fun h => ?_) (fun h => ?_)
  refine pwp_skip ?_
  exact ⟨(a0.fKind == 4), h, it [4, 5]⟩
  refine srve 13 [(4, I a0.fKind), (5, B ((a0.fKind == 5)))] [] ?_
  refine pc h (fun h => ?_) (fun h => ?_)
  refine pwp_skip ?_
  exact ⟨(a0.fKind == 5), h, it [4, 5]⟩
  refine rve 13 [(4, I a0.fKind), (5, B ((a0.fKind == 6)))] [] ?_
  exact ⟨(a0.fKind == 6), h, it [4, 5]⟩
  rintro x1 h
  unfold impl_Part_takes_j0 at h
  refine pc h (fun h => ?_) (fun h => ?_)
  refine srve 13 [(2, I 2)] [] ?_
  cases h
  exact pwp_ret rz
  refine pwp_seq ?_
  refine pwp_join (σ := Bool) (fun x3 => (⟨13, [(10, B x3)], []⟩ : St)) (fun x3 => impl_Part_takes_j1 x3 = some y) ?_ ?_
  refine srve 13 [(4, I a0.fKind), (10, B ((a0.fKind == 7)))] [] ?_
  refine pc h (fun h => ?_) (fun h => ?_)
  refine pwp_skip ?_
  exact ⟨(a0.fKind == 7), h, it [10]⟩
  refine rve 13 [(10, B ((a0.fKind == 8)))] [] ?_
  exact ⟨(a0.fKind == 8), h, it [10]⟩
  rintro x3 h
  unfold impl_Part_takes_j1 at h
  refine pc h (fun h => ?_) (fun h => ?_)
  refine srve 13 [(2, I 1)] [] ?_
  cases h
  exact pwp_ret rz
  refine pwp_skip ?_
  refine srve 13 [(2, I 0)] [] ?_
  cases h
  exact pwp_ret rz
def slices_Equal_impl_Value_impl_Value_l0 (a0 : List T_impl_Value) (a1 : List T_impl_Value) : Nat → Int → Option Bool
  | 0, _ => none
  | f3 + 1, x2 => bif (decide (x2 < ((a0.length : Int)))) then (getI a0 x2).bind fun v6 => (getI a1 x2).bind fun v8 => bif (!(eq_T_impl_Value v6 v8)) then some false else (slices_Equal_impl_Value_impl_Value_l0 a0 a1 f3) ((w64 (x2 + 1))) else some true
def slices_Equal_impl_Value_impl_Value (a0 : List T_impl_Value) (a1 : List T_impl_Value) : Option Bool := bif (!(((a0.length : Int)) == ((a1.length : Int)))) then some false else slices_Equal_impl_Value_impl_Value_l0 a0 a1 FUEL 0
theorem ok_slices_Equal_impl_Value_impl_Value {a0 : List T_impl_Value} {a1 : List T_impl_Value} {y : Bool} (h : slices_Equal_impl_Value_impl_Value a0 a1 = some y) : OK Tryz.prog 85 [A a0, A a1] (B y) := by
  refine ow Tryz.func85 fun Γ hX => ?_
  unfold slices_Equal_impl_Value_impl_Value at h
  refine srve 26 [(0, A a0), (1, A a1)] [] ?_
  refine pwp_seq ?_
  refine srve 26 [(0, A a0), (1, A a1), (10, B ((!(((a0.length : Int)) == ((a1.length : Int))))))] [] ?_
  refine pc h (fun h => ?_) (fun h => ?_)
  refine srve 26 [(4, B false)] [] ?_
  cases h
  exact pwp_ret rz
  refine pwp_skip ?_
  refine pwp_seq ?_
  refine srve 26 [(0, A a0), (1, A a1), (12, I ((a0.length : Int))), (13, I 0)] [] ?_
  refine pwp_block ?_
  refine pwp_loop (ι := Nat × Int) (fun (f3, x2) => (⟨26, [(0, A a0), (1, A a1), (12, I ((a0.length : Int))), (13, I x2)], []⟩ : St)) (fun (f3, x2) => slices_Equal_impl_Value_impl_Value_l0 a0 a1 f3 x2 = some y) Prod.fst (FUEL, 0) h (it [0, 1, 12, 13]) ?_
  rintro ⟨f3, x2⟩ h
  dsimp only at h ⊢
  rcases f3 with _ | f3
  cases h
  rw [slices_Equal_impl_Value_impl_Value_l0] at h
  refine srve 26 [(0, A a0), (1, A a1), (12, I ((a0.length : Int))), (13, I x2), (14, B ((decide (x2 < ((a0.length : Int))))))] [] ?_
  refine pwp_seq ?_
  refine pc h (fun h => ?_) (fun h => ?_)
  refine pwp_skip ?_
  refine pwp_seq ?_
  refine pwp_block ?_
  refine srve 26 [(0, A a0), (1, A a1), (5, I x2), (12, I ((a0.length : Int))), (13, I x2)] [] ?_
  refine pwp_seq ?_
  refine ip 26 [(0, A a0), (1, A a1), (5, I x2), (12, I ((a0.length : Int))), (13, I x2)] [] ?_
  refine pN 9 ?_
  refine qv [] trivial 2 26 [(17, I x2), (16, A a0), (0, A a0), (1, A a1), (5, I x2), (12, I ((a0.length : Int))), (13, I x2)] [] ?_
  obtain ⟨v6, hv7, h⟩ := bindS h
  refine qX (some 18) (pf v6 0) 26 [(18, pf v6 0), (0, A a0), (1, A a1), (5, I x2), (12, I ((a0.length : Int))), (13, I x2)] [] (fun Γ' hΓ => CoreE.of_y (idxV_sound τ_ok (by kernel_rfl) hv7)) trivial ?_
  refine qv [] trivial 3 26 [(21, I x2), (20, A a1), (19, E v6), (0, A a0), (1, A a1), (12, I ((a0.length : Int))), (13, I x2)] [] ?_
  obtain ⟨v8, hv9, h⟩ := bindS h
  refine qX (some 22) (pf v8 0) 26 [(22, pf v8 0), (19, E v6), (0, A a0), (1, A a1), (12, I ((a0.length : Int))), (13, I x2)] [] (fun Γ' hΓ => CoreE.of_y (idxV_sound τ_ok (by kernel_rfl) hv9)) trivial ?_
  refine qvn [] trivial 2 26 [(0, A a0), (1, A a1), (12, I ((a0.length : Int))), (13, I x2), (24, B ((!(eq_T_impl_Value v6 v8))))] [] ?_
  refine pc h (fun h => ?_) (fun h => ?_)
  refine srve 26 [(4, B false)] [] ?_
  cases h
  exact pwp_ret rz
  refine pwp_skip ?_
  refine rve 26 [(0, A a0), (1, A a1), (12, I ((a0.length : Int))), (13, I ((w64 (x2 + 1))))] [] ?_
  exact ⟨(f3, (w64 (x2 + 1))), h, Nat.lt_succ_self _, it [0, 1, 12, 13]⟩
  refine pwp_exit ?_
  refine srve 26 [(4, B true)] [] ?_
  cases h
  exact pwp_ret rz
def slices_Clip_impl_Value_impl_Value_s3 (a0 : List (List T_impl_Value)) : Option (List (List T_impl_Value)) := (slI a0 none (some ((a0.length : Int))) (some ((a0.length : Int)))).bind fun v1 => some v1
theorem ok_slices_Clip_impl_Value_impl_Value_s3 {a0 : List (List T_impl_Value)} {y : List (List T_impl_Value)} (h : slices_Clip_impl_Value_impl_Value_s3 a0 = some y) : OK Tryz.prog 87 [A a0] (A y) := by
  refine ow Tryz.func87 fun Γ hX => ?_
  unfold slices_Clip_impl_Value_impl_Value_s3 at h
  refine srve 9 [(0, A a0)] [] ?_
  refine srv 5 9 [(3, A a0), (5, I ((a0.length : Int))), (7, I ((a0.length : Int)))] [] ?_
  obtain ⟨v1, hv2, h⟩ := bindS h
  refine opsP_slc τ_ok 8 hv2 (by kernel_rfl) ?_
  refine ve 1 9 [(2, A v1)] [] ?_
  cases h
  exact pwp_ret rz
def spec_l20Rd_pick_j0 (a0 : T_spec_l20Rd) (a1 : Int) (x1 : Bool) : Option (Int × T_spec_l20Rd) := bif x1 then some (0, { a0 with fP := (w64 (a0.fP + 1)) }) else bif (decide (((w64 ((({ a0 with fP := (w64 (a0.fP + 1)) } : T_spec_l20Rd).fP) - 1))) < (((({ a0 with fP := (w64 (a0.fP + 1)) } : T_spec_l20Rd).fB).length : Int)))) then (getI (({ a0 with fP := (w64 (a0.fP + 1)) } : T_spec_l20Rd).fB) ((w64 ((({ a0 with fP := (w64 (a0.fP + 1)) } : T_spec_l20Rd).fP) - 1)))).bind fun v4 => (remI ((w64 (v4.toNat : Int))) a1).bind fun v6 => some (v6, { a0 with fP := (w64 (a0.fP + 1)) }) else (remI ((w64 ((({ a0 with fP := (w64 (a0.fP + 1)) } : T_spec_l20Rd).fP) - 1))) (((({ a0 with fP := (w64 (a0.fP + 1)) } : T_spec_l20Rd).fB).length : Int))).bind fun v8 => (getI (({ a0 with fP := (w64 (a0.fP + 1)) } : T_spec_l20Rd).fB) v8).bind fun v10 => (remI ((w64 (((w64 (((w64 ((({ a0 with fP := (w64 (a0.fP + 1)) } : T_spec_l20Rd).fP) - 1))) * 7))) + 3))) (((({ a0 with fP := (w64 (a0.fP + 1)) } : T_spec_l20Rd).fB).length : Int))).bind fun v12 => (getI (({ a0 with fP := (w64 (a0.fP + 1)) } : T_spec_l20Rd).fB) v12).bind fun v14 => (quoI ((w64 ((({ a0 with fP := (w64 (a0.fP + 1)) } : T_spec_l20Rd).fP) - 1))) (((({ a0 with fP := (w64 (a0.fP + 1)) } : T_spec_l20Rd).fB).length : Int))).bind fun v16 => (remI ((w64 ((BitVec.ofInt 64 ((w64 (((w64 (((w64 (((w64 (((w64 (v10.toNat : Int))) * 131))) + ((w64 (((w64 (v14.toNat : Int))) * 1117)))))) + ((w64 (((w64 ((({ a0 with fP := (w64 (a0.fP + 1)) } : T_spec_l20Rd).fP) - 1))) * 29)))))) + ((w64 (v16 * 53)))))) ^^^ BitVec.ofInt 64 ((w64 (((w64 (((w64 (((w64 (((w64 (((w64 (v10.toNat : Int))) * 131))) + ((w64 (((w64 (v14.toNat : Int))) * 1117)))))) + ((w64 (((w64 ((({ a0 with fP := (w64 (a0.fP + 1)) } : T_spec_l20Rd).fP) - 1))) * 29)))))) + ((w64 (v16 * 53)))))).tdiv 64)))).toNat : Int))) a1).bind fun v18 => some (v18, { a0 with fP := (w64 (a0.fP + 1)) })
def spec_l20Rd_pick (a0 : T_spec_l20Rd) (a1 : Int) : Option (Int × T_spec_l20Rd) := bif (decide (a1 < 1)) then spec_l20Rd_pick_j0 a0 a1 true else spec_l20Rd_pick_j0 a0 a1 (((((({ a0 with fP := (w64 (a0.fP + 1)) } : T_spec_l20Rd).fB).length : Int)) == 0))
theorem ok_spec_l20Rd_pick {a0 : T_spec_l20Rd} {a1 : Int} {y : Int × T_spec_l20Rd} (h : spec_l20Rd_pick a0 a1 = some y) : OKb Tryz.prog 94 (Enc.cells a0) [I a1] (I y.1) (Enc.cells y.2) := by
  refine OKb_of_pwp τ_ok Tryz.func94 rfl (by kernel_rfl) rfl (Enc.frz _) (Enc.frz _) fun Γ hQ => ?_
  unfold spec_l20Rd_pick at h
  refine srve 99 [(0, .ptr 0 0 0), (1, I a1)] [sc 0 a0] ?_
  refine srve 99 [(0, .ptr 0 0 0), (1, I a1)] [some ⟨0, Enc.cells ({ a0 with fP := (w64 (a0.fP + 1)) })⟩] ?_
  refine pwp_seq ?_
  refine pwp_seq ?_
  refine pwp_join (σ := Bool) (fun x1 => (⟨99, [(0, .ptr 0 0 0), (1, I a1), (24, B x1)], [some ⟨0, Enc.cells ({ a0 with fP := (w64 (a0.fP + 1)) })⟩]⟩ : St)) (fun x1 => spec_l20Rd_pick_j0 a0 a1 x1 = some y) ?_ ?_
  refine rv 3 99 [(0, .ptr 0 0 0), (1, I a1), (17, B ((decide (a1 < 1))))] [some ⟨0, Enc.cells ({ a0 with fP := (w64 (a0.fP + 1)) })⟩] ?_
  rcases fk ((decide (a1 < 1))) with hc20 | hc20
  replace h := bT hc20 h
  rw [hc20]
  refine ve 7 99 [(0, .ptr 0 0 0), (1, I a1), (24, B true)] [some ⟨0, Enc.cells ({ a0 with fP := (w64 (a0.fP + 1)) })⟩] ?_
  exact ⟨true, h, it [0, 1, 24]⟩
  replace h := bF hc20 h
  rw [hc20]
  refine ve 7 99 [(0, .ptr 0 0 0), (1, I a1), (24, B (((((({ a0 with fP := (w64 (a0.fP + 1)) } : T_spec_l20Rd).fB).length : Int)) == 0)))] [some ⟨0, Enc.cells ({ a0 with fP := (w64 (a0.fP + 1)) })⟩] ?_
  exact ⟨((((({ a0 with fP := (w64 (a0.fP + 1)) } : T_spec_l20Rd).fB).length : Int)) == 0), h, it [0, 1, 24]⟩
  rintro x1 h
  unfold spec_l20Rd_pick_j0 at h
  refine pc h (fun h => ?_) (fun h => ?_)
  refine srve 99 [(4, I 0)] [some ⟨0, Enc.cells ({ a0 with fP := (w64 (a0.fP + 1)) })⟩] ?_
  have h := si h
  subst h
  exact pwp_ret ⟨.inr rfl, I 0, _, 0, by kernel_rfl, (OutP.frz (by kernel_rfl)), by decide, by decide, by kernel_rfl⟩
  refine pwp_skip ?_
  refine srve 99 [(0, .ptr 0 0 0), (1, I a1), (5, I ((w64 ((({ a0 with fP := (w64 (a0.fP + 1)) } : T_spec_l20Rd).fP) - 1))))] [some ⟨0, Enc.cells ({ a0 with fP := (w64 (a0.fP + 1)) })⟩] ?_
  refine pwp_seq ?_
  refine srve 99 [(0, .ptr 0 0 0), (1, I a1), (5, I ((w64 ((({ a0 with fP := (w64 (a0.fP + 1)) } : T_spec_l20Rd).fP) - 1)))), (36, B ((decide (((w64 ((({ a0 with fP := (w64 (a0.fP + 1)) } : T_spec_l20Rd).fP) - 1))) < (((({ a0 with fP := (w64 (a0.fP + 1)) } : T_spec_l20Rd).fB).length : Int))))))] [some ⟨0, Enc.cells ({ a0 with fP := (w64 (a0.fP + 1)) })⟩] ?_
  refine pc h (fun h => ?_) (fun h => ?_)
  refine srv 5 99 [(1, I a1), (40, A (({ a0 with fP := (w64 (a0.fP + 1)) } : T_spec_l20Rd).fB)), (41, I ((w64 ((({ a0 with fP := (w64 (a0.fP + 1)) } : T_spec_l20Rd).fP) - 1))))] [some ⟨0, Enc.cells ({ a0 with fP := (w64 (a0.fP + 1)) })⟩] ?_
  obtain ⟨v4, hv5, h⟩ := bindS h
  refine opsP_idx τ_ok 42 hv5 (by kernel_rfl) ?_
  refine v 3 99 [(44, I ((w64 (v4.toNat : Int)))), (45, I a1)] [some ⟨0, Enc.cells ({ a0 with fP := (w64 (a0.fP + 1)) })⟩] ?_
  obtain ⟨v6, hv7, h⟩ := bindS h
  refine opsP_div τ_ok (r := true) 46 hv7 (by kernel_rfl) ?_
  refine ve 1 99 [(4, I v6)] [some ⟨0, Enc.cells ({ a0 with fP := (w64 (a0.fP + 1)) })⟩] ?_
  have h := si h
  subst h
  exact pwp_ret ⟨.inr rfl, I v6, _, 0, by kernel_rfl, (OutP.frz (by kernel_rfl)), by decide, by decide, by kernel_rfl⟩
  refine pwp_skip ?_
  refine pwp_seq ?_
  refine ip 99 [(0, .ptr 0 0 0), (1, I a1), (5, I ((w64 ((({ a0 with fP := (w64 (a0.fP + 1)) } : T_spec_l20Rd).fP) - 1))))] [some ⟨0, Enc.cells ({ a0 with fP := (w64 (a0.fP + 1)) })⟩] ?_
  refine pwp_any ([[0], [0], [0], [0], [], [0], [0], [0], [0], [], [], [], [], [], [], [0], [0], [0], [0], [], [], [], [0], [0], [0], [0], [], [], [], [], [], [], [], [], [], [], [], [0], [0], [0], [0], [], [], [], [], []]) ([[], [], [], [], [], [], [], [], [], [], [], [], [], [], [], [], [], [], [], [], [], [], [], [], [], [], [], [], [], [], [], [], [], [], [], [], [], [], [], [], [], [], [], [], [], []]) rfl (by kernel_rfl) ?_
  refine qv [0] (hB trivial) 4 99 [(50, A (({ a0 with fP := (w64 (a0.fP + 1)) } : T_spec_l20Rd).fB)), (0, .ptr 0 0 0), (1, I a1), (5, I ((w64 ((({ a0 with fP := (w64 (a0.fP + 1)) } : T_spec_l20Rd).fP) - 1))))] [some ⟨0, Enc.cells ({ a0 with fP := (w64 (a0.fP + 1)) })⟩] ?_
  refine qv [] trivial 1 99 [(51, I ((w64 ((({ a0 with fP := (w64 (a0.fP + 1)) } : T_spec_l20Rd).fP) - 1)))), (50, A (({ a0 with fP := (w64 (a0.fP + 1)) } : T_spec_l20Rd).fB)), (0, .ptr 0 0 0), (1, I a1), (5, I ((w64 ((({ a0 with fP := (w64 (a0.fP + 1)) } : T_spec_l20Rd).fP) - 1))))] [some ⟨0, Enc.cells ({ a0 with fP := (w64 (a0.fP + 1)) })⟩] ?_
  refine qv [0] (hB trivial) 4 99 [(55, A (({ a0 with fP := (w64 (a0.fP + 1)) } : T_spec_l20Rd).fB)), (51, I ((w64 ((({ a0 with fP := (w64 (a0.fP + 1)) } : T_spec_l20Rd).fP) - 1)))), (50, A (({ a0 with fP := (w64 (a0.fP + 1)) } : T_spec_l20Rd).fB)), (0, .ptr 0 0 0), (1, I a1), (5, I ((w64 ((({ a0 with fP := (w64 (a0.fP + 1)) } : T_spec_l20Rd).fP) - 1))))] [some ⟨0, Enc.cells ({ a0 with fP := (w64 (a0.fP + 1)) })⟩] ?_
  refine qv [] trivial 1 99 [(56, I (((({ a0 with fP := (w64 (a0.fP + 1)) } : T_spec_l20Rd).fB).length : Int))), (51, I ((w64 ((({ a0 with fP := (w64 (a0.fP + 1)) } : T_spec_l20Rd).fP) - 1)))), (50, A (({ a0 with fP := (w64 (a0.fP + 1)) } : T_spec_l20Rd).fB)), (0, .ptr 0 0 0), (1, I a1), (5, I ((w64 ((({ a0 with fP := (w64 (a0.fP + 1)) } : T_spec_l20Rd).fP) - 1))))] [some ⟨0, Enc.cells ({ a0 with fP := (w64 (a0.fP + 1)) })⟩] ?_
  obtain ⟨v8, hv9, h⟩ := bindS h
  refine qX (some 57) (I v8) 99 [(57, I v8), (50, A (({ a0 with fP := (w64 (a0.fP + 1)) } : T_spec_l20Rd).fB)), (0, .ptr 0 0 0), (1, I a1), (5, I ((w64 ((({ a0 with fP := (w64 (a0.fP + 1)) } : T_spec_l20Rd).fP) - 1))))] [some ⟨0, Enc.cells ({ a0 with fP := (w64 (a0.fP + 1)) })⟩] (fun Γ' hΓ => CoreE.of_y (divV_sound (r := true) τ_ok (by kernel_rfl) hv9)) trivial ?_
  obtain ⟨v10, hv11, h⟩ := bindS h
  refine qX (some 58) (pf v10 0) 99 [(58, pf v10 0), (0, .ptr 0 0 0), (1, I a1), (5, I ((w64 ((({ a0 with fP := (w64 (a0.fP + 1)) } : T_spec_l20Rd).fP) - 1))))] [some ⟨0, Enc.cells ({ a0 with fP := (w64 (a0.fP + 1)) })⟩] (fun Γ' hΓ => CoreE.of_y (idxV_sound τ_ok (by kernel_rfl) hv11)) trivial ?_
  refine qv [] trivial 3 99 [(61, I ((w64 (((w64 (v10.toNat : Int))) * 131)))), (0, .ptr 0 0 0), (1, I a1), (5, I ((w64 ((({ a0 with fP := (w64 (a0.fP + 1)) } : T_spec_l20Rd).fP) - 1))))] [some ⟨0, Enc.cells ({ a0 with fP := (w64 (a0.fP + 1)) })⟩] ?_
  refine qv [0] (hB trivial) 4 99 [(65, A (({ a0 with fP := (w64 (a0.fP + 1)) } : T_spec_l20Rd).fB)), (61, I ((w64 (((w64 (v10.toNat : Int))) * 131)))), (0, .ptr 0 0 0), (1, I a1), (5, I ((w64 ((({ a0 with fP := (w64 (a0.fP + 1)) } : T_spec_l20Rd).fP) - 1))))] [some ⟨0, Enc.cells ({ a0 with fP := (w64 (a0.fP + 1)) })⟩] ?_
  refine qv [] trivial 3 99 [(68, I ((w64 (((w64 (((w64 ((({ a0 with fP := (w64 (a0.fP + 1)) } : T_spec_l20Rd).fP) - 1))) * 7))) + 3)))), (65, A (({ a0 with fP := (w64 (a0.fP + 1)) } : T_spec_l20Rd).fB)), (61, I ((w64 (((w64 (v10.toNat : Int))) * 131)))), (0, .ptr 0 0 0), (1, I a1), (5, I ((w64 ((({ a0 with fP := (w64 (a0.fP + 1)) } : T_spec_l20Rd).fP) - 1))))] [some ⟨0, Enc.cells ({ a0 with fP := (w64 (a0.fP + 1)) })⟩] ?_
  refine qv [0] (hB trivial) 4 99 [(72, A (({ a0 with fP := (w64 (a0.fP + 1)) } : T_spec_l20Rd).fB)), (68, I ((w64 (((w64 (((w64 ((({ a0 with fP := (w64 (a0.fP + 1)) } : T_spec_l20Rd).fP) - 1))) * 7))) + 3)))), (65, A (({ a0 with fP := (w64 (a0.fP + 1)) } : T_spec_l20Rd).fB)), (61, I ((w64 (((w64 (v10.toNat : Int))) * 131)))), (0, .ptr 0 0 0), (1, I a1), (5, I ((w64 ((({ a0 with fP := (w64 (a0.fP + 1)) } : T_spec_l20Rd).fP) - 1))))] [some ⟨0, Enc.cells ({ a0 with fP := (w64 (a0.fP + 1)) })⟩] ?_
  refine qv [] trivial 1 99 [(73, I (((({ a0 with fP := (w64 (a0.fP + 1)) } : T_spec_l20Rd).fB).length : Int))), (68, I ((w64 (((w64 (((w64 ((({ a0 with fP := (w64 (a0.fP + 1)) } : T_spec_l20Rd).fP) - 1))) * 7))) + 3)))), (65, A (({ a0 with fP := (w64 (a0.fP + 1)) } : T_spec_l20Rd).fB)), (61, I ((w64 (((w64 (v10.toNat : Int))) * 131)))), (0, .ptr 0 0 0), (1, I a1), (5, I ((w64 ((({ a0 with fP := (w64 (a0.fP + 1)) } : T_spec_l20Rd).fP) - 1))))] [some ⟨0, Enc.cells ({ a0 with fP := (w64 (a0.fP + 1)) })⟩] ?_
  obtain ⟨v12, hv13, h⟩ := bindS h
  refine qX (some 74) (I v12) 99 [(74, I v12), (65, A (({ a0 with fP := (w64 (a0.fP + 1)) } : T_spec_l20Rd).fB)), (61, I ((w64 (((w64 (v10.toNat : Int))) * 131)))), (0, .ptr 0 0 0), (1, I a1), (5, I ((w64 ((({ a0 with fP := (w64 (a0.fP + 1)) } : T_spec_l20Rd).fP) - 1))))] [some ⟨0, Enc.cells ({ a0 with fP := (w64 (a0.fP + 1)) })⟩] (fun Γ' hΓ => CoreE.of_y (divV_sound (r := true) τ_ok (by kernel_rfl) hv13)) trivial ?_
  obtain ⟨v14, hv15, h⟩ := bindS h
  refine qX (some 75) (pf v14 0) 99 [(75, pf v14 0), (61, I ((w64 (((w64 (v10.toNat : Int))) * 131)))), (0, .ptr 0 0 0), (1, I a1), (5, I ((w64 ((({ a0 with fP := (w64 (a0.fP + 1)) } : T_spec_l20Rd).fP) - 1))))] [some ⟨0, Enc.cells ({ a0 with fP := (w64 (a0.fP + 1)) })⟩] (fun Γ' hΓ => CoreE.of_y (idxV_sound τ_ok (by kernel_rfl) hv15)) trivial ?_
  refine qv [] trivial 8 99 [(83, I ((w64 ((({ a0 with fP := (w64 (a0.fP + 1)) } : T_spec_l20Rd).fP) - 1)))), (82, I ((w64 (((w64 (((w64 (((w64 (v10.toNat : Int))) * 131))) + ((w64 (((w64 (v14.toNat : Int))) * 1117)))))) + ((w64 (((w64 ((({ a0 with fP := (w64 (a0.fP + 1)) } : T_spec_l20Rd).fP) - 1))) * 29))))))), (0, .ptr 0 0 0), (1, I a1)] [some ⟨0, Enc.cells ({ a0 with fP := (w64 (a0.fP + 1)) })⟩] ?_
  refine qv [0] (hB trivial) 4 99 [(87, A (({ a0 with fP := (w64 (a0.fP + 1)) } : T_spec_l20Rd).fB)), (83, I ((w64 ((({ a0 with fP := (w64 (a0.fP + 1)) } : T_spec_l20Rd).fP) - 1)))), (82, I ((w64 (((w64 (((w64 (((w64 (v10.toNat : Int))) * 131))) + ((w64 (((w64 (v14.toNat : Int))) * 1117)))))) + ((w64 (((w64 ((({ a0 with fP := (w64 (a0.fP + 1)) } : T_spec_l20Rd).fP) - 1))) * 29))))))), (1, I a1)] [some ⟨0, Enc.cells ({ a0 with fP := (w64 (a0.fP + 1)) })⟩] ?_
  refine qv [] trivial 1 99 [(88, I (((({ a0 with fP := (w64 (a0.fP + 1)) } : T_spec_l20Rd).fB).length : Int))), (83, I ((w64 ((({ a0 with fP := (w64 (a0.fP + 1)) } : T_spec_l20Rd).fP) - 1)))), (82, I ((w64 (((w64 (((w64 (((w64 (v10.toNat : Int))) * 131))) + ((w64 (((w64 (v14.toNat : Int))) * 1117)))))) + ((w64 (((w64 ((({ a0 with fP := (w64 (a0.fP + 1)) } : T_spec_l20Rd).fP) - 1))) * 29))))))), (1, I a1)] [some ⟨0, Enc.cells ({ a0 with fP := (w64 (a0.fP + 1)) })⟩] ?_
  obtain ⟨v16, hv17, h⟩ := bindS h
  refine qX (some 89) (I v16) 99 [(89, I v16), (82, I ((w64 (((w64 (((w64 (((w64 (v10.toNat : Int))) * 131))) + ((w64 (((w64 (v14.toNat : Int))) * 1117)))))) + ((w64 (((w64 ((({ a0 with fP := (w64 (a0.fP + 1)) } : T_spec_l20Rd).fP) - 1))) * 29))))))), (1, I a1)] [some ⟨0, Enc.cells ({ a0 with fP := (w64 (a0.fP + 1)) })⟩] (fun Γ' hΓ => CoreE.of_y (divV_sound (r := false) τ_ok (by kernel_rfl) hv17)) trivial ?_
  refine qvn [] trivial 3 99 [(1, I a1), (6, I ((w64 (((w64 (((w64 (((w64 (((w64 (v10.toNat : Int))) * 131))) + ((w64 (((w64 (v14.toNat : Int))) * 1117)))))) + ((w64 (((w64 ((({ a0 with fP := (w64 (a0.fP + 1)) } : T_spec_l20Rd).fP) - 1))) * 29)))))) + ((w64 (v16 * 53)))))))] [some ⟨0, Enc.cells ({ a0 with fP := (w64 (a0.fP + 1)) })⟩] ?_
  refine srve 99 [(1, I a1), (6, I ((w64 ((BitVec.ofInt 64 ((w64 (((w64 (((w64 (((w64 (((w64 (v10.toNat : Int))) * 131))) + ((w64 (((w64 (v14.toNat : Int))) * 1117)))))) + ((w64 (((w64 ((({ a0 with fP := (w64 (a0.fP + 1)) } : T_spec_l20Rd).fP) - 1))) * 29)))))) + ((w64 (v16 * 53)))))) ^^^ BitVec.ofInt 64 ((w64 (((w64 (((w64 (((w64 (((w64 (((w64 (v10.toNat : Int))) * 131))) + ((w64 (((w64 (v14.toNat : Int))) * 1117)))))) + ((w64 (((w64 ((({ a0 with fP := (w64 (a0.fP + 1)) } : T_spec_l20Rd).fP) - 1))) * 29)))))) + ((w64 (v16 * 53)))))).tdiv 64)))).toNat : Int))))] [some ⟨0, Enc.cells ({ a0 with fP := (w64 (a0.fP + 1)) })⟩] ?_
  refine srv 2 99 [(96, I ((w64 ((BitVec.ofInt 64 ((w64 (((w64 (((w64 (((w64 (((w64 (v10.toNat : Int))) * 131))) + ((w64 (((w64 (v14.toNat : Int))) * 1117)))))) + ((w64 (((w64 ((({ a0 with fP := (w64 (a0.fP + 1)) } : T_spec_l20Rd).fP) - 1))) * 29)))))) + ((w64 (v16 * 53)))))) ^^^ BitVec.ofInt 64 ((w64 (((w64 (((w64 (((w64 (((w64 (((w64 (v10.toNat : Int))) * 131))) + ((w64 (((w64 (v14.toNat : Int))) * 1117)))))) + ((w64 (((w64 ((({ a0 with fP := (w64 (a0.fP + 1)) } : T_spec_l20Rd).fP) - 1))) * 29)))))) + ((w64 (v16 * 53)))))).tdiv 64)))).toNat : Int)))), (97, I a1)] [some ⟨0, Enc.cells ({ a0 with fP := (w64 (a0.fP + 1)) })⟩] ?_
  obtain ⟨v18, hv19, h⟩ := bindS h
  refine opsP_div τ_ok (r := true) 98 hv19 (by kernel_rfl) ?_
  refine ve 1 99 [(4, I v18)] [some ⟨0, Enc.cells ({ a0 with fP := (w64 (a0.fP + 1)) })⟩] ?_
  have h := si h
  subst h
  exact pwp_ret ⟨.inr rfl, I v18, _, 0, by kernel_rfl, (OutP.frz (by kernel_rfl)), by decide, by decide, by kernel_rfl⟩
def spec_l3Own (a0 : List T_impl_Value) : Option (List T_impl_Value) := (app (([] : List T_impl_Value)) a0).bind fun v1 => some v1
theorem ok_spec_l3Own {a0 : List T_impl_Value} {y : List T_impl_Value} (h : spec_l3Own a0 = some y) : OK Tryz.prog 99 [A a0] (O y) := by
  refine ow Tryz.func99 fun Γ hX => ?_
  unfold spec_l3Own at h
  refine srve 6 [(0, A a0)] [] ?_
  refine srv 2 6 [(3, .arr 3 0 (eL ([] : List T_impl_Value)) true), (4, A a0)] [] ?_
  refine opsP_thaw 3 3 (by kernel_rfl) ?_
  obtain ⟨v1, hv2, h⟩ := bindS h
  refine opsP_app τ_ok 5 0 0 (nx hX) hv2 (by kernel_rfl) ?_
  refine ve 1 6 [(2, rf 0 1 3 v1)] [sl 1 v1] ?_
  have h := si h
  subst h
  exact pwp_ret (rt (rf 0 1 3 v1) (OutP.list (v := 1) (by kernel_rfl)))
def impl_between (a0 : Int) (a1 : Int) (a2 : Int) : Option Bool := bif (decide (a0 ≥ a1)) then some ((decide (a0 ≤ a2))) else some false
theorem ok_impl_between {a0 : Int} {a1 : Int} {a2 : Int} {y : Bool} (h : impl_between a0 a1 a2 = some y) : OK Tryz.prog 110 [I a0, I a1, I a2] (B y) := by
  refine ow Tryz.func110 fun Γ hX => ?_
  unfold impl_between at h
  refine srve 15 [(0, I a0), (1, I a1), (2, I a2)] [] ?_
  refine srv 4 15 [(0, I a0), (2, I a2), (10, B ((decide (a0 ≥ a1))))] [] ?_
  rcases fk ((decide (a0 ≥ a1))) with hc1 | hc1
  replace h := bT hc1 h
  rw [hc1]
  refine ve 5 15 [(6, B ((decide (a0 ≤ a2))))] [] ?_
  cases h
  exact pwp_ret rz
  replace h := bF hc1 h
  rw [hc1]
  refine ve 5 15 [(6, B false)] [] ?_
  cases h
  exact pwp_ret rz
def impl_ColumnsOk_1 (a0 : T_impl_Column) : Option Bool := (impl_between a0.fKind 1 3).bind fun v1 => some ((!v1))
theorem ok_impl_ColumnsOk_1 {a0 : T_impl_Column} {y : Bool} (h : impl_ColumnsOk_1 a0 = some y) : OK Tryz.prog 127 [E a0] (B y) := by
  refine ow Tryz.func127 fun Γ hX => ?_
  unfold impl_ColumnsOk_1 at h
  refine srve 7 [(1, pf a0 0)] [] ?_
  refine srv 2 7 [(4, I a0.fKind)] [] ?_
  obtain ⟨v1, hv2, h⟩ := bindS h
  refine cF 5 (ok_impl_between hv2) ?_
  refine ve 2 7 [(2, B ((!v1)))] [] ?_
  cases h
  exact pwp_ret rz
def spec_l20Rd_odd (a0 : T_spec_l20Rd) (a1 : Int) : Option (Bool × T_spec_l20Rd) := bif (decide (a1 > 0)) then (spec_l20Rd_pick a0 a1).bind fun v1 => some (((v1.1 == ((w64 (a1 - 1))))), v1.2) else some (false, a0)
theorem ok_spec_l20Rd_odd {a0 : T_spec_l20Rd} {a1 : Int} {y : Bool × T_spec_l20Rd} (h : spec_l20Rd_odd a0 a1 = some y) : OKb Tryz.prog 130 (Enc.cells a0) [I a1] (B y.1) (Enc.cells y.2) := by
  refine OKb_of_pwp τ_ok Tryz.func130 rfl (by kernel_rfl) rfl (Enc.frz _) (Enc.frz _) fun Γ hQ => ?_
  unfold spec_l20Rd_odd at h
  refine srve 15 [(0, .ptr 0 0 0), (1, I a1)] [sc 0 a0] ?_
  refine srv 3 15 [(0, .ptr 0 0 0), (1, I a1), (7, B ((decide (a1 > 0))))] [sc 0 a0] ?_
  rcases fk ((decide (a1 > 0))) with hc3 | hc3
  replace h := bT hc3 h
  rw [hc3]
  refine v 2 15 [(1, I a1), (7, B true), (8, .ptr 0 0 0), (9, I a1)] [sc 0 a0] ?_
  obtain ⟨v1, hv2, h⟩ := bindS h
  refine cB 10 0 0 (ok_spec_l20Rd_pick hv2) ?_
  refine ve 5 15 [(4, B ((v1.1 == ((w64 (a1 - 1))))))] [sc 0 v1.2] ?_
  have h := si h
  subst h
  exact pwp_ret ⟨.inr rfl, B ((v1.1 == ((w64 (a1 - 1))))), _, 0, by kernel_rfl, (OutP.frz (by kernel_rfl)), by decide, by decide, by kernel_rfl⟩
  replace h := bF hc3 h
  rw [hc3]
  refine ve 8 15 [(4, B false)] [sc 0 a0] ?_
  have h := si h
  subst h
  exact pwp_ret ⟨.inr rfl, B false, _, 0, by kernel_rfl, (OutP.frz (by kernel_rfl)), by decide, by decide, by kernel_rfl⟩
def spec_l1In (a0 : Int) (a1 : Int) (a2 : Int) : Option Bool := bif (decide (a0 ≥ a1)) then some ((decide (a0 ≤ a2))) else some false
theorem ok_spec_l1In {a0 : Int} {a1 : Int} {a2 : Int} {y : Bool} (h : spec_l1In a0 a1 a2 = some y) : OK Tryz.prog 133 [I a0, I a1, I a2] (B y) := by
  refine ow Tryz.func133 fun Γ hX => ?_
  unfold spec_l1In at h
  refine srve 15 [(0, I a0), (1, I a1), (2, I a2)] [] ?_
  refine srv 4 15 [(0, I a0), (2, I a2), (10, B ((decide (a0 ≥ a1))))] [] ?_
  rcases fk ((decide (a0 ≥ a1))) with hc1 | hc1
  replace h := bT hc1 h
  rw [hc1]
  refine ve 5 15 [(6, B ((decide (a0 ≤ a2))))] [] ?_
  cases h
  exact pwp_ret rz
  replace h := bF hc1 h
  rw [hc1]
  refine ve 5 15 [(6, B false)] [] ?_
  cases h
  exact pwp_ret rz
def slices_IndexFunc_impl_Value_impl_Value_s3_l0 (a0 : List (List T_impl_Value)) (a1 : (List T_impl_Value) → Option Bool) : Nat → Int → Option Int
  | 0, _ => none
  | f2 + 1, x1 => bif (decide (x1 < ((a0.length : Int)))) then (getI a0 x1).bind fun v5 => (a1 v5).bind fun v7 => bif v7 then some x1 else (slices_IndexFunc_impl_Value_impl_Value_s3_l0 a0 a1 f2) ((w64 (x1 + 1))) else some (-1)
def slices_IndexFunc_impl_Value_impl_Value_s3 (a0 : List (List T_impl_Value)) (a1 : (List T_impl_Value) → Option Bool) : Option Int := slices_IndexFunc_impl_Value_impl_Value_s3_l0 a0 a1 FUEL 0
theorem ok_slices_IndexFunc_impl_Value_impl_Value_s3 {a0 : List (List T_impl_Value)} {g1 : FuncId} {c1 : List V} (hz1 : frzL c1 = true) {a1 : (List T_impl_Value) → Option Bool} (hp1 : ∀ x0 y, a1 x0 = some y → OK Tryz.prog g1 ([A x0] ++ c1) (B y)) {y : Int} (h : slices_IndexFunc_impl_Value_impl_Value_s3 a0 a1 = some y) : OK Tryz.prog 134 [A a0, .fn g1 c1] (I y) := by
  refine ow Tryz.func134 fun Γ hX => ?_
  unfold slices_IndexFunc_impl_Value_impl_Value_s3 at h
  refine srve 19 [(0, A a0), (1, .fn g1 c1)] [] ?_
  refine pwp_seq ?_
  refine srve 19 [(0, A a0), (1, .fn g1 c1), (7, I ((a0.length : Int))), (8, I 0)] [] ?_
  refine pwp_block ?_
  refine pwp_loop (ι := Nat × Int) (fun (f2, x1) => (⟨19, [(0, A a0), (1, .fn g1 c1), (7, I ((a0.length : Int))), (8, I x1)], []⟩ : St)) (fun (f2, x1) => slices_IndexFunc_impl_Value_impl_Value_s3_l0 a0 a1 f2 x1 = some y) Prod.fst (FUEL, 0) h (it [0, 1, 7, 8]) ?_
  rintro ⟨f2, x1⟩ h
  dsimp only at h ⊢
  rcases f2 with _ | f2
  cases h
  rw [slices_IndexFunc_impl_Value_impl_Value_s3_l0] at h
  refine srve 19 [(0, A a0), (1, .fn g1 c1), (7, I ((a0.length : Int))), (8, I x1), (9, B ((decide (x1 < ((a0.length : Int))))))] [] ?_
  refine pwp_seq ?_
  refine pc h (fun h => ?_) (fun h => ?_)
  refine pwp_skip ?_
  refine pwp_seq ?_
  refine pwp_block ?_
  refine srve 19 [(0, A a0), (1, .fn g1 c1), (5, I x1), (7, I ((a0.length : Int))), (8, I x1)] [] ?_
  refine srv 3 19 [(0, A a0), (1, .fn g1 c1), (5, I x1), (7, I ((a0.length : Int))), (8, I x1), (11, .fn g1 c1), (12, A a0), (13, I x1)] [] ?_
  obtain ⟨v5, hv6, h⟩ := bindS h
  refine opsP_idx τ_ok 14 hv6 (by kernel_rfl) ?_
  refine v 1 19 [(0, A a0), (1, .fn g1 c1), (5, I x1), (7, I ((a0.length : Int))), (8, I x1), (11, .fn g1 c1), (15, A v5)] [] ?_
  obtain ⟨v7, hv8, h⟩ := bindS h
  refine opsP_callF τ 16 (hp1 _ _ hv8) (FzTo.frz rfl) (frz_app (xs := [A v5]) rfl hz1) (by kernel_rfl) ?_
  refine ve 0 19 [(0, A a0), (1, .fn g1 c1), (5, I x1), (7, I ((a0.length : Int))), (8, I x1), (16, B v7)] [] ?_
  refine pc h (fun h => ?_) (fun h => ?_)
  refine srve 19 [(4, I x1)] [] ?_
  cases h
  exact pwp_ret rz
  refine pwp_skip ?_
  refine rve 19 [(0, A a0), (1, .fn g1 c1), (7, I ((a0.length : Int))), (8, I ((w64 (x1 + 1))))] [] ?_
  exact ⟨(f2, (w64 (x1 + 1))), h, Nat.lt_succ_self _, it [0, 1, 7, 8]⟩
  refine pwp_exit ?_
  refine srve 19 [(4, I (-1))] [] ?_
  cases h
  exact pwp_ret rz
def impl_Part_kind_1_1 (a0 : Int) (b0 : Int) : Option Bool := some ((!(a0 == b0)))
theorem ok_impl_Part_kind_1_1 {a0 : Int} {b0 : Int} {y : Bool} (h : impl_Part_kind_1_1 a0 b0 = some y) : OK Tryz.prog 141 [I a0, pf b0 0] (B y) := by
  refine ow Tryz.func141 fun Γ hX => ?_
  unfold impl_Part_kind_1_1 at h
  refine srve 7 [(0, I a0), (1, pf b0 0)] [] ?_
  refine srve 7 [(3, B ((!(a0 == b0))))] [] ?_
  cases h
  exact pwp_ret rz
def impl_ValueOf (a0 : Int) : Option T_impl_Value := (impl_between a0 0 1).bind fun v1 => bif (!v1) then some ((T_impl_Value.mk 0 0 (ByteArray.mk #[]))) else some ((T_impl_Value.mk 3 a0 (ByteArray.mk #[])))
theorem ok_impl_ValueOf {a0 : Int} {y : T_impl_Value} (h : impl_ValueOf a0 = some y) : OK Tryz.prog 143 [I a0] (E y) := by
  refine ow Tryz.func143 fun Γ hX => ?_
  unfold impl_ValueOf at h
  refine srveM [2] 9 [(0, I a0), (2, .ptr 0 0 0)] [some ⟨0, Enc.cells ((T_impl_Value.mk 0 0 (ByteArray.mk #[])))⟩] ?_
  refine pwp_seq ?_
  refine srvM [2] 1 9 [(0, I a0), (2, .ptr 0 0 0), (3, I a0)] [some ⟨0, Enc.cells ((T_impl_Value.mk 0 0 (ByteArray.mk #[])))⟩] ?_
  obtain ⟨v1, hv2, h⟩ := bindS h
  refine cF 4 (ok_impl_between hv2) ?_
  refine veM [2] 1 9 [(0, I a0), (2, .ptr 0 0 0), (5, B ((!v1)))] [some ⟨0, Enc.cells ((T_impl_Value.mk 0 0 (ByteArray.mk #[])))⟩] ?_
  refine pc h (fun h => ?_) (fun h => ?_)
  refine srveM [2] 9 [(2, .ptr 0 0 0)] [some ⟨0, Enc.cells ((T_impl_Value.mk 0 0 (ByteArray.mk #[])))⟩] ?_
  cases h
  exact pwp_ret rz
  refine pwp_skip ?_
  refine srveM [2] 9 [(2, .ptr 0 0 0)] [some ⟨0, Enc.cells ((T_impl_Value.mk 3 a0 (ByteArray.mk #[])))⟩] ?_
  cases h
  exact pwp_ret rz
def spec_l20Value_j1 (x3 : T_spec_l20Rd) (x4 : T_impl_Value) : Option (T_impl_Value × T_spec_l20Rd) := some (x4, x3)
def spec_l20Value_j0 (a1 : Int) (x1 : T_spec_l20Rd) (x2 : T_impl_Value) : Option (T_impl_Value × T_spec_l20Rd) := (spec_l20Rd_odd x1 a1).bind fun v5 => bif v5.1 then (spec_l20Rd_pick v5.2 4).bind fun v8 => bif (v8.1 == 0) then spec_l20Value_j1 v8.2 ({ x2 with fN := 10000 }) else bif (v8.1 == 1) then (addS x2.fS ((ByteArray.mk #[97, 98, 99, 100, 101, 102, 103]))).bind fun v12 => spec_l20Value_j1 v8.2 ({ x2 with fS := v12 }) else bif (v8.1 == 2) then (spec_l20Rd_pick v8.2 7).bind fun v15 => spec_l20Value_j1 v15.2 ({ x2 with fKind := (w64 (v15.1 - 1)) }) else (addS x2.fS ((ByteArray.mk #[65]))).bind fun v17 => spec_l20Value_j1 v8.2 ({ x2 with fS := v17 }) else spec_l20Value_j1 v5.2 x2
def spec_l20Value_l4 (a1 : Int) : Nat → Int → T_spec_l20Rd → T_impl_Value → Option (T_impl_Value × T_spec_l20Rd)
  | 0, _, _, _ => none
  | f43 + 1, x40, x41, x42 => bif (decide (x40 > 0)) then (spec_l20Rd_pick x41 3).bind fun v46 => (addS x42.fS ((ByteArray.mk (List.toArray (([(u8 ((w64 (97 + v46.1))))] : List UInt8)))))).bind fun v48 => (spec_l20Value_l4 a1 f43) ((w64 (x40 - 1))) v46.2 ({ x42 with fS := v48 }) else spec_l20Value_j0 a1 x41 x42
def spec_l20Value_j3 (a1 : Int) (v19 : Int × T_spec_l20Rd) (x33 : Bool) : Option (T_impl_Value × T_spec_l20Rd) := bif x33 then (spec_l20Rd_pick v19.2 4).bind fun v35 => spec_l20Value_l4 a1 FUEL v35.1 v35.2 ((T_impl_Value.mk 2 0 (ByteArray.mk #[]))) else (spec_l20Rd_pick v19.2 2).bind fun v50 => spec_l20Value_j0 a1 v50.2 ((T_impl_Value.mk 3 v50.1 (ByteArray.mk #[])))
def spec_l20Value_j2 (a1 : Int) (v19 : Int × T_spec_l20Rd) (x22 : Bool) : Option (T_impl_Value × T_spec_l20Rd) := bif x22 then (spec_l20Rd_pick v19.2 7).bind fun v24 => (spec_l20Rd_pick v24.2 8).bind fun v26 => bif (v26.1 == 0) then (spec_l20Rd_pick v26.2 5).bind fun v29 => (getI (([9999, -9999, 255, 256, -256] : List Int)) v29.1).bind fun v31 => spec_l20Value_j0 a1 v29.2 ({ ((T_impl_Value.mk 1 ((w64 (v24.1 - 3))) (ByteArray.mk #[]))) with fN := v31 }) else spec_l20Value_j0 a1 v26.2 ((T_impl_Value.mk 1 ((w64 (v24.1 - 3))) (ByteArray.mk #[]))) else bif (v19.1 == 4) then spec_l20Value_j3 a1 v19 ((v19.1 == 4)) else spec_l20Value_j3 a1 v19 ((v19.1 == 5))
def spec_l20Value (a0 : T_spec_l20Rd) (a1 : Int) : Option (T_impl_Value × T_spec_l20Rd) := (spec_l20Rd_pick a0 7).bind fun v19 => bif (v19.1 == 0) then spec_l20Value_j0 a1 v19.2 ((T_impl_Value.mk 0 0 (ByteArray.mk #[]))) else bif (v19.1 == 1) then spec_l20Value_j2 a1 v19 ((v19.1 == 1)) else bif (v19.1 == 2) then spec_l20Value_j2 a1 v19 ((v19.1 == 2)) else spec_l20Value_j2 a1 v19 ((v19.1 == 3))
theorem ok_spec_l20Value {a0 : T_spec_l20Rd} {a1 : Int} {y : T_impl_Value × T_spec_l20Rd} (h : spec_l20Value a0 a1 = some y) : OKb Tryz.prog 151 (Enc.cells a0) [I a1] (E y.1) (Enc.cells y.2) := by
  refine OKb_of_pwp τ_ok Tryz.func151 rfl (by kernel_rfl) rfl (Enc.frz _) (Enc.frz _) fun Γ hQ => ?_
  unfold spec_l20Value at h
  refine srveM [4, 5] 77 [(0, .ptr 0 0 0), (1, I a1), (4, .ptr 1 0 0)] [sc 0 a0, some ⟨0, Enc.cells ((T_impl_Value.mk 0 0 (ByteArray.mk #[])))⟩] ?_
  refine srveM [4, 5] 77 [(0, .ptr 0 0 0), (1, I a1), (4, .ptr 1 0 0), (5, .ptr 2 0 0)] [sc 0 a0, some ⟨0, Enc.cells ((T_impl_Value.mk 0 0 (ByteArray.mk #[])))⟩, some ⟨0, Enc.cells ((T_impl_Value.mk 0 0 (ByteArray.mk #[])))⟩] ?_
  refine pwp_seq ?_
  refine pwp_join (σ := T_spec_l20Rd × T_impl_Value) (fun (x1, x2) => (⟨77, [(0, .ptr 0 0 0), (1, I a1), (4, .ptr 1 0 0), (5, .ptr 2 0 0)], [sc 0 x1, some ⟨0, Enc.cells ((T_impl_Value.mk 0 0 (ByteArray.mk #[])))⟩, sc 0 x2]⟩ : St)) (fun (x1, x2) => spec_l20Value_j0 a1 x1 x2 = some y) ?_ ?_
  refine srvM [4, 5] 1 77 [(0, .ptr 0 0 0), (1, I a1), (4, .ptr 1 0 0), (5, .ptr 2 0 0), (8, .ptr 0 0 0)] [sc 0 a0, some ⟨0, Enc.cells ((T_impl_Value.mk 0 0 (ByteArray.mk #[])))⟩, some ⟨0, Enc.cells ((T_impl_Value.mk 0 0 (ByteArray.mk #[])))⟩] ?_
  obtain ⟨v19, hv20, h⟩ := bindS h
  refine cB 9 0 0 (ok_spec_l20Rd_pick hv20) ?_
  refine veM [4, 5] 0 77 [(0, .ptr 0 0 0), (1, I a1), (4, .ptr 1 0 0), (5, .ptr 2 0 0), (9, I v19.1)] [sc 0 v19.2, some ⟨0, Enc.cells ((T_impl_Value.mk 0 0 (ByteArray.mk #[])))⟩, some ⟨0, Enc.cells ((T_impl_Value.mk 0 0 (ByteArray.mk #[])))⟩] ?_
  refine pwp_block ?_
  refine srveM [4, 5] 77 [(0, .ptr 0 0 0), (1, I a1), (4, .ptr 1 0 0), (5, .ptr 2 0 0), (9, I v19.1), (13, B ((v19.1 == 0)))] [sc 0 v19.2, some ⟨0, Enc.cells ((T_impl_Value.mk 0 0 (ByteArray.mk #[])))⟩, some ⟨0, Enc.cells ((T_impl_Value.mk 0 0 (ByteArray.mk #[])))⟩] ?_
  refine pc h (fun h => ?_) (fun h => ?_)
  refine pwp_skip ?_
  exact ⟨(v19.2, (T_impl_Value.mk 0 0 (ByteArray.mk #[]))), h, it [0, 1, 4, 5]⟩
  refine pwp_seq ?_
  refine pwp_join (σ := Bool) (fun x22 => (⟨77, [(0, .ptr 0 0 0), (1, I a1), (4, .ptr 1 0 0), (5, .ptr 2 0 0), (9, I v19.1), (15, B x22)], [sc 0 v19.2, some ⟨0, Enc.cells ((T_impl_Value.mk 0 0 (ByteArray.mk #[])))⟩, some ⟨0, Enc.cells ((T_impl_Value.mk 0 0 (ByteArray.mk #[])))⟩]⟩ : St)) (fun x22 => spec_l20Value_j2 a1 v19 x22 = some y) ?_ ?_
  refine srveM [4, 5] 77 [(0, .ptr 0 0 0), (1, I a1), (4, .ptr 1 0 0), (5, .ptr 2 0 0), (9, I v19.1), (15, B ((v19.1 == 1)))] [sc 0 v19.2, some ⟨0, Enc.cells ((T_impl_Value.mk 0 0 (ByteArray.mk #[])))⟩, some ⟨0, Enc.cells ((T_impl_Value.mk 0 0 (ByteArray.mk #[])))⟩] ?_
  refine pc h (fun h => ?_) (fun h => ?_)
  refine pwp_skip ?_
  exact ⟨(v19.1 == 1), h, it [0, 1, 4, 5, 9, 15]⟩
  refine srveM [4, 5] 77 [(0, .ptr 0 0 0), (1, I a1), (4, .ptr 1 0 0), (5, .ptr 2 0 0), (9, I v19.1), (15, B ((v19.1 == 2)))] [sc 0 v19.2, some ⟨0, Enc.cells ((T_impl_Value.mk 0 0 (ByteArray.mk #[])))⟩, some ⟨0, Enc.cells ((T_impl_Value.mk 0 0 (ByteArray.mk #[])))⟩] ?_
  refine pc h (fun h => ?_) (fun h => ?_)
  refine pwp_skip ?_
  exact ⟨(v19.1 == 2), h, it [0, 1, 4, 5, 9, 15]⟩
  refine rveM [4, 5] 77 [(0, .ptr 0 0 0), (1, I a1), (4, .ptr 1 0 0), (5, .ptr 2 0 0), (9, I v19.1), (15, B ((v19.1 == 3)))] [sc 0 v19.2, some ⟨0, Enc.cells ((T_impl_Value.mk 0 0 (ByteArray.mk #[])))⟩, some ⟨0, Enc.cells ((T_impl_Value.mk 0 0 (ByteArray.mk #[])))⟩] ?_
  exact ⟨(v19.1 == 3), h, it [0, 1, 4, 5, 9, 15]⟩
  rintro x22 h
  unfold spec_l20Value_j2 at h
  refine pc h (fun h => ?_) (fun h => ?_)
  refine srvM [4, 5] 1 77 [(0, .ptr 0 0 0), (1, I a1), (4, .ptr 1 0 0), (5, .ptr 2 0 0), (19, .ptr 0 0 0)] [sc 0 v19.2, some ⟨0, Enc.cells ((T_impl_Value.mk 0 0 (ByteArray.mk #[])))⟩, some ⟨0, Enc.cells ((T_impl_Value.mk 0 0 (ByteArray.mk #[])))⟩] ?_
  obtain ⟨v24, hv25, h⟩ := bindS h
  refine cB 20 0 0 (ok_spec_l20Rd_pick hv25) ?_
  refine veM [4, 5] 3 77 [(0, .ptr 0 0 0), (1, I a1), (4, .ptr 1 0 0), (5, .ptr 2 0 0)] [sc 0 v24.2, some ⟨0, Enc.cells ((T_impl_Value.mk 0 0 (ByteArray.mk #[])))⟩, some ⟨0, Enc.cells ((T_impl_Value.mk 1 ((w64 (v24.1 - 3))) (ByteArray.mk #[])))⟩] ?_
  refine srvM [4, 5] 1 77 [(0, .ptr 0 0 0), (1, I a1), (4, .ptr 1 0 0), (5, .ptr 2 0 0), (23, .ptr 0 0 0)] [sc 0 v24.2, some ⟨0, Enc.cells ((T_impl_Value.mk 0 0 (ByteArray.mk #[])))⟩, some ⟨0, Enc.cells ((T_impl_Value.mk 1 ((w64 (v24.1 - 3))) (ByteArray.mk #[])))⟩] ?_
  obtain ⟨v26, hv27, h⟩ := bindS h
  refine cB 24 0 0 (ok_spec_l20Rd_pick hv27) ?_
  refine veM [4, 5] 1 77 [(0, .ptr 0 0 0), (1, I a1), (4, .ptr 1 0 0), (5, .ptr 2 0 0), (25, B ((v26.1 == 0)))] [sc 0 v26.2, some ⟨0, Enc.cells ((T_impl_Value.mk 0 0 (ByteArray.mk #[])))⟩, some ⟨0, Enc.cells ((T_impl_Value.mk 1 ((w64 (v24.1 - 3))) (ByteArray.mk #[])))⟩] ?_
  refine pc h (fun h => ?_) (fun h => ?_)
  refine rvM [4, 5] 2 77 [(0, .ptr 0 0 0), (1, I a1), (4, .ptr 1 0 0), (5, .ptr 2 0 0), (26, .arr 1 (([9999, -9999, 255, 256, -256] : List Int)).length (eL ([9999, -9999, 255, 256, -256] : List Int)) true), (27, .ptr 0 0 0)] [sc 0 v26.2, some ⟨0, Enc.cells ((T_impl_Value.mk 0 0 (ByteArray.mk #[])))⟩, some ⟨0, Enc.cells ((T_impl_Value.mk 1 ((w64 (v24.1 - 3))) (ByteArray.mk #[])))⟩] ?_
  obtain ⟨v29, hv30, h⟩ := bindS h
  refine cB 28 0 0 (ok_spec_l20Rd_pick hv30) ?_
  obtain ⟨v31, hv32, h⟩ := bindS h
  refine opsP_idx τ_ok 29 hv32 (by kernel_rfl) ?_
  refine veM [4, 5] 3 77 [(0, .ptr 0 0 0), (1, I a1), (4, .ptr 1 0 0), (5, .ptr 2 0 0)] [sc 0 v29.2, some ⟨0, Enc.cells ((T_impl_Value.mk 0 0 (ByteArray.mk #[])))⟩, some ⟨0, Enc.cells ({ ((T_impl_Value.mk 1 ((w64 (v24.1 - 3))) (ByteArray.mk #[]))) with fN := v31 })⟩] ?_
  exact ⟨(v29.2, { ((T_impl_Value.mk 1 ((w64 (v24.1 - 3))) (ByteArray.mk #[]))) with fN := v31 }), h, it [0, 1, 4, 5]⟩
  refine pwp_skip ?_
  exact ⟨(v26.2, (T_impl_Value.mk 1 ((w64 (v24.1 - 3))) (ByteArray.mk #[]))), h, it [0, 1, 4, 5]⟩
  refine pwp_seq ?_
  refine pwp_join (σ := Bool) (fun x33 => (⟨77, [(0, .ptr 0 0 0), (1, I a1), (4, .ptr 1 0 0), (5, .ptr 2 0 0), (32, B x33)], [sc 0 v19.2, some ⟨0, Enc.cells ((T_impl_Value.mk 0 0 (ByteArray.mk #[])))⟩, some ⟨0, Enc.cells ((T_impl_Value.mk 0 0 (ByteArray.mk #[])))⟩]⟩ : St)) (fun x33 => spec_l20Value_j3 a1 v19 x33 = some y) ?_ ?_
  refine srveM [4, 5] 77 [(0, .ptr 0 0 0), (1, I a1), (4, .ptr 1 0 0), (5, .ptr 2 0 0), (9, I v19.1), (32, B ((v19.1 == 4)))] [sc 0 v19.2, some ⟨0, Enc.cells ((T_impl_Value.mk 0 0 (ByteArray.mk #[])))⟩, some ⟨0, Enc.cells ((T_impl_Value.mk 0 0 (ByteArray.mk #[])))⟩] ?_
  refine pc h (fun h => ?_) (fun h => ?_)
  refine pwp_skip ?_
  exact ⟨(v19.1 == 4), h, it [0, 1, 4, 5, 32]⟩
  refine rveM [4, 5] 77 [(0, .ptr 0 0 0), (1, I a1), (4, .ptr 1 0 0), (5, .ptr 2 0 0), (32, B ((v19.1 == 5)))] [sc 0 v19.2, some ⟨0, Enc.cells ((T_impl_Value.mk 0 0 (ByteArray.mk #[])))⟩, some ⟨0, Enc.cells ((T_impl_Value.mk 0 0 (ByteArray.mk #[])))⟩] ?_
  exact ⟨(v19.1 == 5), h, it [0, 1, 4, 5, 32]⟩
  rintro x33 h
  unfold spec_l20Value_j3 at h
  refine pc h (fun h => ?_) (fun h => ?_)
  refine srveM [4, 5] 77 [(0, .ptr 0 0 0), (1, I a1), (4, .ptr 1 0 0), (5, .ptr 2 0 0)] [sc 0 v19.2, some ⟨0, Enc.cells ((T_impl_Value.mk 0 0 (ByteArray.mk #[])))⟩, some ⟨0, Enc.cells ((T_impl_Value.mk 2 0 (ByteArray.mk #[])))⟩] ?_
  refine srvM [4, 5] 1 77 [(0, .ptr 0 0 0), (1, I a1), (4, .ptr 1 0 0), (5, .ptr 2 0 0), (36, .ptr 0 0 0)] [sc 0 v19.2, some ⟨0, Enc.cells ((T_impl_Value.mk 0 0 (ByteArray.mk #[])))⟩, some ⟨0, Enc.cells ((T_impl_Value.mk 2 0 (ByteArray.mk #[])))⟩] ?_
  obtain ⟨v35, hv36, h⟩ := bindS h
  refine cB 37 0 0 (ok_spec_l20Rd_pick hv36) ?_
  refine veM [4, 5] 1 77 [(0, .ptr 0 0 0), (1, I a1), (4, .ptr 1 0 0), (5, .ptr 2 0 0), (6, I v35.1)] [sc 0 v35.2, some ⟨0, Enc.cells ((T_impl_Value.mk 0 0 (ByteArray.mk #[])))⟩, some ⟨0, Enc.cells ((T_impl_Value.mk 2 0 (ByteArray.mk #[])))⟩] ?_
  refine pwp_block ?_
  refine pwp_loop (ι := Nat × Int × T_spec_l20Rd × T_impl_Value) (fun (f43, x40, x41, x42) => (⟨77, [(0, .ptr 0 0 0), (1, I a1), (4, .ptr 1 0 0), (5, .ptr 2 0 0), (6, I x40)], [sc 0 x41, some ⟨0, Enc.cells ((T_impl_Value.mk 0 0 (ByteArray.mk #[])))⟩, sc 0 x42]⟩ : St)) (fun (f43, x40, x41, x42) => spec_l20Value_l4 a1 f43 x40 x41 x42 = some y) Prod.fst (FUEL, v35.1, v35.2, (T_impl_Value.mk 2 0 (ByteArray.mk #[]))) h (it [0, 1, 4, 5, 6]) ?_
  rintro ⟨f43, x40, x41, x42⟩ h
  dsimp only at h ⊢
  rcases f43 with _ | f43
  cases h
  rw [spec_l20Value_l4] at h
  refine pwp_seq ?_
  refine srveM [4, 5] 77 [(0, .ptr 0 0 0), (1, I a1), (4, .ptr 1 0 0), (5, .ptr 2 0 0), (6, I x40), (39, B ((decide (x40 > 0))))] [sc 0 x41, some ⟨0, Enc.cells ((T_impl_Value.mk 0 0 (ByteArray.mk #[])))⟩, sc 0 x42] ?_
  refine pc h (fun h => ?_) (fun h => ?_)
  refine pwp_skip ?_
  refine pwp_seq ?_
  refine pwp_block ?_
  refine ip 77 [(0, .ptr 0 0 0), (1, I a1), (4, .ptr 1 0 0), (5, .ptr 2 0 0), (6, I x40)] [sc 0 x41, some ⟨0, Enc.cells ((T_impl_Value.mk 0 0 (ByteArray.mk #[])))⟩, sc 0 x42] ?_
  refine pwp_any ([[2], [2], [0], [0], [], [], [], [], [], [2], [2]]) ([[], [], [], [0], [], [], [], [], [], [], [2]]) rfl (by kernel_rfl) ?_
  refine qvM [4, 5] [2] (hB trivial) 2 77 [(43, S x42.fS), (0, .ptr 0 0 0), (1, I a1), (4, .ptr 1 0 0), (5, .ptr 2 0 0), (6, I x40)] [sc 0 x41, some ⟨0, Enc.cells ((T_impl_Value.mk 0 0 (ByteArray.mk #[])))⟩, sc 0 x42] ?_
  refine qvM [4, 5] [0] (hB trivial) 1 77 [(44, .ptr 0 0 0), (43, S x42.fS), (0, .ptr 0 0 0), (1, I a1), (4, .ptr 1 0 0), (5, .ptr 2 0 0), (6, I x40)] [sc 0 x41, some ⟨0, Enc.cells ((T_impl_Value.mk 0 0 (ByteArray.mk #[])))⟩, sc 0 x42] ?_
  obtain ⟨v46, hv47, h⟩ := bindS h
  refine qX (some 45) (I v46.1) 77 [(45, I v46.1), (43, S x42.fS), (0, .ptr 0 0 0), (1, I a1), (4, .ptr 1 0 0), (5, .ptr 2 0 0), (6, I x40)] [sc 0 v46.2, some ⟨0, Enc.cells ((T_impl_Value.mk 0 0 (ByteArray.mk #[])))⟩, sc 0 x42] (fun Γ' hΓ => callB_E τ 45 0 0 (ok_spec_l20Rd_pick hv47) (FzTo.frz rfl) rfl (by kernel_rfl)) (hB trivial) ?_
  refine qvM [4, 5] [] trivial 1 77 [(46, I ((w64 (97 + v46.1)))), (43, S x42.fS), (0, .ptr 0 0 0), (1, I a1), (4, .ptr 1 0 0), (5, .ptr 2 0 0), (6, I x40)] [sc 0 v46.2, some ⟨0, Enc.cells ((T_impl_Value.mk 0 0 (ByteArray.mk #[])))⟩, sc 0 x42] ?_
  refine qX (some 47) (.lit (.int .u8 ((u8 ((w64 (97 + v46.1))))).toNat)) 77 [(47, .lit (.int .u8 ((u8 ((w64 (97 + v46.1))))).toNat)), (43, S x42.fS), (0, .ptr 0 0 0), (1, I a1), (4, .ptr 1 0 0), (5, .ptr 2 0 0), (6, I x40)] [sc 0 v46.2, some ⟨0, Enc.cells ((T_impl_Value.mk 0 0 (ByteArray.mk #[])))⟩, sc 0 x42] (fun Γ' hΓ => CoreE.of_y (cv8V_sound (n := (w64 (97 + v46.1))) τ_ok (by kernel_rfl))) trivial ?_
  refine qvM [4, 5] [] trivial 1 77 [(48, .arr 1 (([(u8 ((w64 (97 + v46.1))))] : List UInt8)).length (eL ([(u8 ((w64 (97 + v46.1))))] : List UInt8)) true), (43, S x42.fS), (0, .ptr 0 0 0), (1, I a1), (4, .ptr 1 0 0), (5, .ptr 2 0 0), (6, I x40)] [sc 0 v46.2, some ⟨0, Enc.cells ((T_impl_Value.mk 0 0 (ByteArray.mk #[])))⟩, sc 0 x42] ?_
  refine qX (some 49) (S ((ByteArray.mk (List.toArray (([(u8 ((w64 (97 + v46.1))))] : List UInt8)))))) 77 [(49, S ((ByteArray.mk (List.toArray (([(u8 ((w64 (97 + v46.1))))] : List UInt8)))))), (43, S x42.fS), (0, .ptr 0 0 0), (1, I a1), (4, .ptr 1 0 0), (5, .ptr 2 0 0), (6, I x40)] [sc 0 v46.2, some ⟨0, Enc.cells ((T_impl_Value.mk 0 0 (ByteArray.mk #[])))⟩, sc 0 x42] (fun Γ' hΓ => CoreE.of_y (cvsV_sound (l := ([(u8 ((w64 (97 + v46.1))))] : List UInt8)) τ_ok (by kernel_rfl))) trivial ?_
  obtain ⟨v48, hv49, h⟩ := bindS h
  refine qX (some 50) (S v48) 77 [(50, S v48), (0, .ptr 0 0 0), (1, I a1), (4, .ptr 1 0 0), (5, .ptr 2 0 0), (6, I x40)] [sc 0 v46.2, some ⟨0, Enc.cells ((T_impl_Value.mk 0 0 (ByteArray.mk #[])))⟩, sc 0 x42] (fun Γ' hΓ => CoreE.of_y (adsV_sound τ_ok (by kernel_rfl) hv49)) trivial ?_
  refine qvM [4, 5] [2] (hB trivial) 1 77 [(51, .ptr 2 0 2), (50, S v48), (0, .ptr 0 0 0), (1, I a1), (4, .ptr 1 0 0), (5, .ptr 2 0 0), (6, I x40)] [sc 0 v46.2, some ⟨0, Enc.cells ((T_impl_Value.mk 0 0 (ByteArray.mk #[])))⟩, sc 0 x42] ?_
  refine qX (Hm' := [none, none, some ⟨0, Enc.cells ({ x42 with fS := v48 })⟩]) none (.any) 77 [(0, .ptr 0 0 0), (1, I a1), (4, .ptr 1 0 0), (5, .ptr 2 0 0), (6, I x40)] [sc 0 v46.2, some ⟨0, Enc.cells ((T_impl_Value.mk 0 0 (ByteArray.mk #[])))⟩, some ⟨0, Enc.cells ({ x42 with fS := v48 })⟩] (fun Γ' hΓ => sto_E τ_ok 2 0 (by kernel_rfl)) (hB trivial) ?_
  refine qn 77 [(0, .ptr 0 0 0), (1, I a1), (4, .ptr 1 0 0), (5, .ptr 2 0 0), (6, I x40)] [sc 0 v46.2, some ⟨0, Enc.cells ((T_impl_Value.mk 0 0 (ByteArray.mk #[])))⟩, some ⟨0, Enc.cells ({ x42 with fS := v48 })⟩] ?_
  refine rveM [4, 5] 77 [(0, .ptr 0 0 0), (1, I a1), (4, .ptr 1 0 0), (5, .ptr 2 0 0), (6, I ((w64 (x40 - 1))))] [sc 0 v46.2, some ⟨0, Enc.cells ((T_impl_Value.mk 0 0 (ByteArray.mk #[])))⟩, some ⟨0, Enc.cells ({ x42 with fS := v48 })⟩] ?_
  exact ⟨(f43, (w64 (x40 - 1)), v46.2, { x42 with fS := v48 }), h, Nat.lt_succ_self _, it [0, 1, 4, 5, 6]⟩
  refine pwp_exit ?_
  exact ⟨(x41, x42), h, it [0, 1, 4, 5]⟩
  refine rvM [4, 5] 1 77 [(0, .ptr 0 0 0), (1, I a1), (4, .ptr 1 0 0), (5, .ptr 2 0 0), (10, .ptr 0 0 0)] [sc 0 v19.2, some ⟨0, Enc.cells ((T_impl_Value.mk 0 0 (ByteArray.mk #[])))⟩, some ⟨0, Enc.cells ((T_impl_Value.mk 0 0 (ByteArray.mk #[])))⟩] ?_
  obtain ⟨v50, hv51, h⟩ := bindS h
  refine cB 11 0 0 (ok_spec_l20Rd_pick hv51) ?_
  refine veM [4, 5] 2 77 [(0, .ptr 0 0 0), (1, I a1), (4, .ptr 1 0 0), (5, .ptr 2 0 0)] [sc 0 v50.2, some ⟨0, Enc.cells ((T_impl_Value.mk 0 0 (ByteArray.mk #[])))⟩, some ⟨0, Enc.cells ((T_impl_Value.mk 3 v50.1 (ByteArray.mk #[])))⟩] ?_
  exact ⟨(v50.2, (T_impl_Value.mk 3 v50.1 (ByteArray.mk #[]))), h, it [0, 1, 4, 5]⟩
  rintro ⟨x1, x2⟩ h
  dsimp only at h ⊢
  unfold spec_l20Value_j0 at h
  refine pwp_seq ?_
  refine pwp_join (σ := T_spec_l20Rd × T_impl_Value) (fun (x3, x4) => (⟨77, [(4, .ptr 1 0 0), (5, .ptr 2 0 0)], [sc 0 x3, some ⟨0, Enc.cells ((T_impl_Value.mk 0 0 (ByteArray.mk #[])))⟩, sc 0 x4]⟩ : St)) (fun (x3, x4) => spec_l20Value_j1 x3 x4 = some y) ?_ ?_
  refine srvM [4, 5] 2 77 [(0, .ptr 0 0 0), (4, .ptr 1 0 0), (5, .ptr 2 0 0), (52, .ptr 0 0 0), (53, I a1)] [sc 0 x1, some ⟨0, Enc.cells ((T_impl_Value.mk 0 0 (ByteArray.mk #[])))⟩, sc 0 x2] ?_
  obtain ⟨v5, hv6, h⟩ := bindS h
  refine cB 54 0 0 (ok_spec_l20Rd_odd hv6) ?_
  refine veM [4, 5] 0 77 [(0, .ptr 0 0 0), (4, .ptr 1 0 0), (5, .ptr 2 0 0), (54, B v5.1)] [sc 0 v5.2, some ⟨0, Enc.cells ((T_impl_Value.mk 0 0 (ByteArray.mk #[])))⟩, sc 0 x2] ?_
  refine pc h (fun h => ?_) (fun h => ?_)
  refine srvM [4, 5] 1 77 [(0, .ptr 0 0 0), (4, .ptr 1 0 0), (5, .ptr 2 0 0), (55, .ptr 0 0 0)] [sc 0 v5.2, some ⟨0, Enc.cells ((T_impl_Value.mk 0 0 (ByteArray.mk #[])))⟩, sc 0 x2] ?_
  obtain ⟨v8, hv9, h⟩ := bindS h
  refine cB 56 0 0 (ok_spec_l20Rd_pick hv9) ?_
  refine veM [4, 5] 0 77 [(0, .ptr 0 0 0), (4, .ptr 1 0 0), (5, .ptr 2 0 0), (56, I v8.1)] [sc 0 v8.2, some ⟨0, Enc.cells ((T_impl_Value.mk 0 0 (ByteArray.mk #[])))⟩, sc 0 x2] ?_
  refine pwp_block ?_
  refine srveM [4, 5] 77 [(0, .ptr 0 0 0), (4, .ptr 1 0 0), (5, .ptr 2 0 0), (56, I v8.1), (61, B ((v8.1 == 0)))] [sc 0 v8.2, some ⟨0, Enc.cells ((T_impl_Value.mk 0 0 (ByteArray.mk #[])))⟩, sc 0 x2] ?_
  refine pc h (fun h => ?_) (fun h => ?_)
  refine rveM [4, 5] 77 [(4, .ptr 1 0 0), (5, .ptr 2 0 0)] [sc 0 v8.2, some ⟨0, Enc.cells ((T_impl_Value.mk 0 0 (ByteArray.mk #[])))⟩, some ⟨0, Enc.cells ({ x2 with fN := 10000 })⟩] ?_
  exact ⟨(v8.2, { x2 with fN := 10000 }), h, it [4, 5]⟩
  refine srveM [4, 5] 77 [(0, .ptr 0 0 0), (4, .ptr 1 0 0), (5, .ptr 2 0 0), (56, I v8.1), (64, B ((v8.1 == 1)))] [sc 0 v8.2, some ⟨0, Enc.cells ((T_impl_Value.mk 0 0 (ByteArray.mk #[])))⟩, sc 0 x2] ?_
  refine pc h (fun h => ?_) (fun h => ?_)
  refine rvM [4, 5] 2 77 [(4, .ptr 1 0 0), (5, .ptr 2 0 0), (67, S x2.fS)] [sc 0 v8.2, some ⟨0, Enc.cells ((T_impl_Value.mk 0 0 (ByteArray.mk #[])))⟩, sc 0 x2] ?_
  obtain ⟨v12, hv13, h⟩ := bindS h
  refine opsP_ads τ_ok 68 hv13 (by kernel_rfl) ?_
  refine veM [4, 5] 2 77 [(4, .ptr 1 0 0), (5, .ptr 2 0 0)] [sc 0 v8.2, some ⟨0, Enc.cells ((T_impl_Value.mk 0 0 (ByteArray.mk #[])))⟩, some ⟨0, Enc.cells ({ x2 with fS := v12 })⟩] ?_
  exact ⟨(v8.2, { x2 with fS := v12 }), h, it [4, 5]⟩
  refine srveM [4, 5] 77 [(0, .ptr 0 0 0), (4, .ptr 1 0 0), (5, .ptr 2 0 0), (70, B ((v8.1 == 2)))] [sc 0 v8.2, some ⟨0, Enc.cells ((T_impl_Value.mk 0 0 (ByteArray.mk #[])))⟩, sc 0 x2] ?_
  refine pc h (fun h => ?_) (fun h => ?_)
  refine rvM [4, 5] 1 77 [(4, .ptr 1 0 0), (5, .ptr 2 0 0), (72, .ptr 0 0 0)] [sc 0 v8.2, some ⟨0, Enc.cells ((T_impl_Value.mk 0 0 (ByteArray.mk #[])))⟩, sc 0 x2] ?_
  obtain ⟨v15, hv16, h⟩ := bindS h
  refine cB 73 0 0 (ok_spec_l20Rd_pick hv16) ?_
  refine veM [4, 5] 3 77 [(4, .ptr 1 0 0), (5, .ptr 2 0 0)] [sc 0 v15.2, some ⟨0, Enc.cells ((T_impl_Value.mk 0 0 (ByteArray.mk #[])))⟩, some ⟨0, Enc.cells ({ x2 with fKind := (w64 (v15.1 - 1)) })⟩] ?_
  exact ⟨(v15.2, { x2 with fKind := (w64 (v15.1 - 1)) }), h, it [4, 5]⟩
  refine rvM [4, 5] 2 77 [(4, .ptr 1 0 0), (5, .ptr 2 0 0), (58, S x2.fS)] [sc 0 v8.2, some ⟨0, Enc.cells ((T_impl_Value.mk 0 0 (ByteArray.mk #[])))⟩, sc 0 x2] ?_
  obtain ⟨v17, hv18, h⟩ := bindS h
  refine opsP_ads τ_ok 59 hv18 (by kernel_rfl) ?_
  refine veM [4, 5] 2 77 [(4, .ptr 1 0 0), (5, .ptr 2 0 0)] [sc 0 v8.2, some ⟨0, Enc.cells ((T_impl_Value.mk 0 0 (ByteArray.mk #[])))⟩, some ⟨0, Enc.cells ({ x2 with fS := v17 })⟩] ?_
  exact ⟨(v8.2, { x2 with fS := v17 }), h, it [4, 5]⟩
  refine pwp_skip ?_
  exact ⟨(v5.2, x2), h, it [4, 5]⟩
  rintro ⟨x3, x4⟩ h
  dsimp only at h ⊢
  unfold spec_l20Value_j1 at h
  refine srveM [4, 5] 77 [(4, .ptr 1 0 0)] [sc 0 x3, sc 0 x4, sc 0 x4] ?_
  have h := si h
  subst h
  exact pwp_ret ⟨.inr rfl, E x4, _, 0, by kernel_rfl, (OutP.frz (by kernel_rfl)), by decide, by decide, by kernel_rfl⟩
def spec_ColumnsOk_l0 (a0 : List T_impl_Column) : Nat → Int → Option Bool
  | 0, _ => none
  | f2 + 1, x1 => bif (decide (x1 < ((a0.length : Int)))) then (getI a0 x1).bind fun v5 => (spec_l1In v5.fKind 1 3).bind fun v7 => bif (!v7) then some false else (spec_ColumnsOk_l0 a0 f2) ((w64 (x1 + 1))) else some ((decide (((a0.length : Int)) ≤ 4)))
def spec_ColumnsOk (a0 : List T_impl_Column) : Option Bool := spec_ColumnsOk_l0 a0 FUEL 0
theorem ok_spec_ColumnsOk {a0 : List T_impl_Column} {y : Bool} (h : spec_ColumnsOk a0 = some y) : OK Tryz.prog 156 [A a0] (B y) := by
  refine ow Tryz.func156 fun Γ hX => ?_
  unfold spec_ColumnsOk at h
  refine srve 20 [(0, A a0)] [] ?_
  refine pwp_seq ?_
  refine srve 20 [(0, A a0), (3, I 0)] [] ?_
  refine pwp_block ?_
  refine pwp_loop (ι := Nat × Int) (fun (f2, x1) => (⟨20, [(0, A a0), (3, I x1)], []⟩ : St)) (fun (f2, x1) => spec_ColumnsOk_l0 a0 f2 x1 = some y) Prod.fst (FUEL, 0) h (it [0, 3]) ?_
  rintro ⟨f2, x1⟩ h
  dsimp only at h ⊢
  rcases f2 with _ | f2
  cases h
  rw [spec_ColumnsOk_l0] at h
  refine pwp_seq ?_
  refine srve 20 [(0, A a0), (3, I x1), (7, B ((decide (x1 < ((a0.length : Int))))))] [] ?_
  refine pc h (fun h => ?_) (fun h => ?_)
  refine pwp_skip ?_
  refine pwp_seq ?_
  refine pwp_block ?_
  refine srv 2 20 [(0, A a0), (3, I x1), (10, A a0), (11, I x1)] [] ?_
  obtain ⟨v5, hv6, h⟩ := bindS h
  refine opsP_idx τ_ok 12 hv6 (by kernel_rfl) ?_
  refine v 2 20 [(0, A a0), (3, I x1), (14, I v5.fKind)] [] ?_
  obtain ⟨v7, hv8, h⟩ := bindS h
  refine cF 15 (ok_spec_l1In hv8) ?_
  refine ve 1 20 [(0, A a0), (3, I x1), (16, B ((!v7)))] [] ?_
  refine pc h (fun h => ?_) (fun h => ?_)
  refine srve 20 [(2, B false)] [] ?_
  cases h
  exact pwp_ret rz
  refine pwp_skip ?_
  refine rve 20 [(0, A a0), (3, I ((w64 (x1 + 1))))] [] ?_
  exact ⟨(f2, (w64 (x1 + 1))), h, Nat.lt_succ_self _, it [0, 3]⟩
  refine pwp_exit ?_
  refine srve 20 [(2, B ((decide (((a0.length : Int)) ≤ 4))))] [] ?_
  cases h
  exact pwp_ret rz
def slices_IndexFunc_impl_Table_impl_Table_l0 (a0 : List T_impl_Table) (a1 : T_impl_Table → Option Bool) : Nat → Int → Option Int
  | 0, _ => none
  | f2 + 1, x1 => bif (decide (x1 < ((a0.length : Int)))) then (getI a0 x1).bind fun v5 => (a1 v5).bind fun v7 => bif v7 then some x1 else (slices_IndexFunc_impl_Table_impl_Table_l0 a0 a1 f2) ((w64 (x1 + 1))) else some (-1)
def slices_IndexFunc_impl_Table_impl_Table (a0 : List T_impl_Table) (a1 : T_impl_Table → Option Bool) : Option Int := slices_IndexFunc_impl_Table_impl_Table_l0 a0 a1 FUEL 0
theorem ok_slices_IndexFunc_impl_Table_impl_Table {a0 : List T_impl_Table} {g1 : FuncId} {c1 : List V} (hz1 : frzL c1 = true) {a1 : T_impl_Table → Option Bool} (hp1 : ∀ x0 y, a1 x0 = some y → OK Tryz.prog g1 ([E x0] ++ c1) (B y)) {y : Int} (h : slices_IndexFunc_impl_Table_impl_Table a0 a1 = some y) : OK Tryz.prog 168 [A a0, .fn g1 c1] (I y) := by
  refine ow Tryz.func168 fun Γ hX => ?_
  unfold slices_IndexFunc_impl_Table_impl_Table at h
  refine srve 19 [(0, A a0), (1, .fn g1 c1)] [] ?_
  refine pwp_seq ?_
  refine srve 19 [(0, A a0), (1, .fn g1 c1), (7, I ((a0.length : Int))), (8, I 0)] [] ?_
  refine pwp_block ?_
  refine pwp_loop (ι := Nat × Int) (fun (f2, x1) => (⟨19, [(0, A a0), (1, .fn g1 c1), (7, I ((a0.length : Int))), (8, I x1)], []⟩ : St)) (fun (f2, x1) => slices_IndexFunc_impl_Table_impl_Table_l0 a0 a1 f2 x1 = some y) Prod.fst (FUEL, 0) h (it [0, 1, 7, 8]) ?_
  rintro ⟨f2, x1⟩ h
  dsimp only at h ⊢
  rcases f2 with _ | f2
  cases h
  rw [slices_IndexFunc_impl_Table_impl_Table_l0] at h
  refine srve 19 [(0, A a0), (1, .fn g1 c1), (7, I ((a0.length : Int))), (8, I x1), (9, B ((decide (x1 < ((a0.length : Int))))))] [] ?_
  refine pwp_seq ?_
  refine pc h (fun h => ?_) (fun h => ?_)
  refine pwp_skip ?_
  refine pwp_seq ?_
  refine pwp_block ?_
  refine srve 19 [(0, A a0), (1, .fn g1 c1), (5, I x1), (7, I ((a0.length : Int))), (8, I x1)] [] ?_
  refine srv 3 19 [(0, A a0), (1, .fn g1 c1), (5, I x1), (7, I ((a0.length : Int))), (8, I x1), (11, .fn g1 c1), (12, A a0), (13, I x1)] [] ?_
  obtain ⟨v5, hv6, h⟩ := bindS h
  refine opsP_idx τ_ok 14 hv6 (by kernel_rfl) ?_
  refine v 1 19 [(0, A a0), (1, .fn g1 c1), (5, I x1), (7, I ((a0.length : Int))), (8, I x1), (11, .fn g1 c1), (15, E v5)] [] ?_
  obtain ⟨v7, hv8, h⟩ := bindS h
  refine opsP_callF τ 16 (hp1 _ _ hv8) (FzTo.frz rfl) (frz_app (xs := [E v5]) rfl hz1) (by kernel_rfl) ?_
  refine ve 0 19 [(0, A a0), (1, .fn g1 c1), (5, I x1), (7, I ((a0.length : Int))), (8, I x1), (16, B v7)] [] ?_
  refine pc h (fun h => ?_) (fun h => ?_)
  refine srve 19 [(4, I x1)] [] ?_
  cases h
  exact pwp_ret rz
  refine pwp_skip ?_
  refine rve 19 [(0, A a0), (1, .fn g1 c1), (7, I ((a0.length : Int))), (8, I ((w64 (x1 + 1))))] [] ?_
  exact ⟨(f2, (w64 (x1 + 1))), h, Nat.lt_succ_self _, it [0, 1, 7, 8]⟩
  refine pwp_exit ?_
  refine srve 19 [(4, I (-1))] [] ?_
  cases h
  exact pwp_ret rz
def slices_IndexFunc_impl_Column_impl_Column_l0 (a0 : List T_impl_Column) (a1 : T_impl_Column → Option Bool) : Nat → Int → Option Int
  | 0, _ => none
  | f2 + 1, x1 => bif (decide (x1 < ((a0.length : Int)))) then (getI a0 x1).bind fun v5 => (a1 v5).bind fun v7 => bif v7 then some x1 else (slices_IndexFunc_impl_Column_impl_Column_l0 a0 a1 f2) ((w64 (x1 + 1))) else some (-1)
def slices_IndexFunc_impl_Column_impl_Column (a0 : List T_impl_Column) (a1 : T_impl_Column → Option Bool) : Option Int := slices_IndexFunc_impl_Column_impl_Column_l0 a0 a1 FUEL 0
theorem ok_slices_IndexFunc_impl_Column_impl_Column {a0 : List T_impl_Column} {g1 : FuncId} {c1 : List V} (hz1 : frzL c1 = true) {a1 : T_impl_Column → Option Bool} (hp1 : ∀ x0 y, a1 x0 = some y → OK Tryz.prog g1 ([E x0] ++ c1) (B y)) {y : Int} (h : slices_IndexFunc_impl_Column_impl_Column a0 a1 = some y) : OK Tryz.prog 182 [A a0, .fn g1 c1] (I y) := by
  refine ow Tryz.func182 fun Γ hX => ?_
  unfold slices_IndexFunc_impl_Column_impl_Column at h
  refine srve 19 [(0, A a0), (1, .fn g1 c1)] [] ?_
  refine pwp_seq ?_
  refine srve 19 [(0, A a0), (1, .fn g1 c1), (7, I ((a0.length : Int))), (8, I 0)] [] ?_
  refine pwp_block ?_
  refine pwp_loop (ι := Nat × Int) (fun (f2, x1) => (⟨19, [(0, A a0), (1, .fn g1 c1), (7, I ((a0.length : Int))), (8, I x1)], []⟩ : St)) (fun (f2, x1) => slices_IndexFunc_impl_Column_impl_Column_l0 a0 a1 f2 x1 = some y) Prod.fst (FUEL, 0) h (it [0, 1, 7, 8]) ?_
  rintro ⟨f2, x1⟩ h
  dsimp only at h ⊢
  rcases f2 with _ | f2
  cases h
  rw [slices_IndexFunc_impl_Column_impl_Column_l0] at h
  refine srve 19 [(0, A a0), (1, .fn g1 c1), (7, I ((a0.length : Int))), (8, I x1), (9, B ((decide (x1 < ((a0.length : Int))))))] [] ?_
  refine pwp_seq ?_
  refine pc h (fun h => ?_) (fun h => ?_)
  refine pwp_skip ?_
  refine pwp_seq ?_
  refine pwp_block ?_
  refine srve 19 [(0, A a0), (1, .fn g1 c1), (5, I x1), (7, I ((a0.length : Int))), (8, I x1)] [] ?_
  refine srv 3 19 [(0, A a0), (1, .fn g1 c1), (5, I x1), (7, I ((a0.length : Int))), (8, I x1), (11, .fn g1 c1), (12, A a0), (13, I x1)] [] ?_
  obtain ⟨v5, hv6, h⟩ := bindS h
  refine opsP_idx τ_ok 14 hv6 (by kernel_rfl) ?_
  refine v 1 19 [(0, A a0), (1, .fn g1 c1), (5, I x1), (7, I ((a0.length : Int))), (8, I x1), (11, .fn g1 c1), (15, E v5)] [] ?_
  obtain ⟨v7, hv8, h⟩ := bindS h
  refine opsP_callF τ 16 (hp1 _ _ hv8) (FzTo.frz rfl) (frz_app (xs := [E v5]) rfl hz1) (by kernel_rfl) ?_
  refine ve 0 19 [(0, A a0), (1, .fn g1 c1), (5, I x1), (7, I ((a0.length : Int))), (8, I x1), (16, B v7)] [] ?_
  refine pc h (fun h => ?_) (fun h => ?_)
  refine srve 19 [(4, I x1)] [] ?_
  cases h
  exact pwp_ret rz
  refine pwp_skip ?_
  refine rve 19 [(0, A a0), (1, .fn g1 c1), (7, I ((a0.length : Int))), (8, I ((w64 (x1 + 1))))] [] ?_
  exact ⟨(f2, (w64 (x1 + 1))), h, Nat.lt_succ_self _, it [0, 1, 7, 8]⟩
  refine pwp_exit ?_
  refine srve 19 [(4, I (-1))] [] ?_
  cases h
  exact pwp_ret rz
def impl_letters_l0 (v1 : List UInt8) : Nat → Int → Option Bool
  | 0, _ => none
  | f4 + 1, x3 => bif (decide (x3 < ((v1.length : Int)))) then (getI v1 x3).bind fun v7 => (impl_between ((w64 (v7.toNat : Int))) 97 122).bind fun v9 => bif (!v9) then some false else (impl_letters_l0 v1 f4) ((w64 (x3 + 1))) else some true
def impl_letters (a0 : ByteArray) : Option Bool := (bytesOf a0).bind fun v1 => impl_letters_l0 v1 FUEL 0
theorem ok_impl_letters {a0 : ByteArray} {y : Bool} (h : impl_letters a0 = some y) : OK Tryz.prog 184 [S a0] (B y) := by
  refine ow Tryz.func184 fun Γ hX => ?_
  unfold impl_letters at h
  refine srve 17 [(0, S a0)] [] ?_
  refine pwp_seq ?_
  refine srv 1 17 [(5, S a0)] [] ?_
  obtain ⟨v1, hv2, h⟩ := bindS h
  refine opsP_cvb τ_ok 6 hv2 (by kernel_rfl) ?_
  refine ve 2 17 [(6, A v1), (7, I ((v1.length : Int))), (8, I 0)] [] ?_
  refine pwp_block ?_
  refine pwp_loop (ι := Nat × Int) (fun (f4, x3) => (⟨17, [(6, A v1), (7, I ((v1.length : Int))), (8, I x3)], []⟩ : St)) (fun (f4, x3) => impl_letters_l0 v1 f4 x3 = some y) Prod.fst (FUEL, 0) h (it [6, 7, 8]) ?_
  rintro ⟨f4, x3⟩ h
  dsimp only at h ⊢
  rcases f4 with _ | f4
  cases h
  rw [impl_letters_l0] at h
  refine srve 17 [(6, A v1), (7, I ((v1.length : Int))), (8, I x3), (9, B ((decide (x3 < ((v1.length : Int))))))] [] ?_
  refine pwp_seq ?_
  refine pc h (fun h => ?_) (fun h => ?_)
  refine pwp_skip ?_
  refine pwp_seq ?_
  refine pwp_block ?_
  refine pwp_seq ?_
  refine pwp_region ?_
  obtain ⟨v7, hv8, h⟩ := bindS h
  refine opsP_idx τ_ok 10 hv8 (by kernel_rfl) ?_
  refine ve 2 17 [(4, .lit (.int .u8 (v7).toNat)), (6, A v1), (7, I ((v1.length : Int))), (8, I x3)] [] ?_
  refine srv 2 17 [(6, A v1), (7, I ((v1.length : Int))), (8, I x3), (13, I ((w64 (v7.toNat : Int))))] [] ?_
  obtain ⟨v9, hv10, h⟩ := bindS h
  refine cF 14 (ok_impl_between hv10) ?_
  refine ve 1 17 [(6, A v1), (7, I ((v1.length : Int))), (8, I x3), (15, B ((!v9)))] [] ?_
  refine pc h (fun h => ?_) (fun h => ?_)
  refine srve 17 [(2, B false)] [] ?_
  cases h
  exact pwp_ret rz
  refine pwp_skip ?_
  refine rve 17 [(6, A v1), (7, I ((v1.length : Int))), (8, I ((w64 (x3 + 1))))] [] ?_
  exact ⟨(f4, (w64 (x3 + 1))), h, Nat.lt_succ_self _, it [6, 7, 8]⟩
  refine pwp_exit ?_
  refine srve 17 [(2, B true)] [] ?_
  cases h
  exact pwp_ret rz
def slices_IndexFunc_int_int_l0 (a0 : List Int) (a1 : Int → Option Bool) : Nat → Int → Option Int
  | 0, _ => none
  | f2 + 1, x1 => bif (decide (x1 < ((a0.length : Int)))) then (getI a0 x1).bind fun v5 => (a1 v5).bind fun v7 => bif v7 then some x1 else (slices_IndexFunc_int_int_l0 a0 a1 f2) ((w64 (x1 + 1))) else some (-1)
def slices_IndexFunc_int_int (a0 : List Int) (a1 : Int → Option Bool) : Option Int := slices_IndexFunc_int_int_l0 a0 a1 FUEL 0
theorem ok_slices_IndexFunc_int_int {a0 : List Int} {g1 : FuncId} {c1 : List V} (hz1 : frzL c1 = true) {a1 : Int → Option Bool} (hp1 : ∀ x0 y, a1 x0 = some y → OK Tryz.prog g1 ([I x0] ++ c1) (B y)) {y : Int} (h : slices_IndexFunc_int_int a0 a1 = some y) : OK Tryz.prog 187 [A a0, .fn g1 c1] (I y) := by
  refine ow Tryz.func187 fun Γ hX => ?_
  unfold slices_IndexFunc_int_int at h
  refine srve 19 [(0, A a0), (1, .fn g1 c1)] [] ?_
  refine pwp_seq ?_
  refine srve 19 [(0, A a0), (1, .fn g1 c1), (7, I ((a0.length : Int))), (8, I 0)] [] ?_
  refine pwp_block ?_
  refine pwp_loop (ι := Nat × Int) (fun (f2, x1) => (⟨19, [(0, A a0), (1, .fn g1 c1), (7, I ((a0.length : Int))), (8, I x1)], []⟩ : St)) (fun (f2, x1) => slices_IndexFunc_int_int_l0 a0 a1 f2 x1 = some y) Prod.fst (FUEL, 0) h (it [0, 1, 7, 8]) ?_
  rintro ⟨f2, x1⟩ h
  dsimp only at h ⊢
  rcases f2 with _ | f2
  cases h
  rw [slices_IndexFunc_int_int_l0] at h
  refine srve 19 [(0, A a0), (1, .fn g1 c1), (7, I ((a0.length : Int))), (8, I x1), (9, B ((decide (x1 < ((a0.length : Int))))))] [] ?_
  refine pwp_seq ?_
  refine pc h (fun h => ?_) (fun h => ?_)
  refine pwp_skip ?_
  refine pwp_seq ?_
  refine pwp_block ?_
  refine srve 19 [(0, A a0), (1, .fn g1 c1), (5, I x1), (7, I ((a0.length : Int))), (8, I x1)] [] ?_
  refine srv 3 19 [(0, A a0), (1, .fn g1 c1), (5, I x1), (7, I ((a0.length : Int))), (8, I x1), (11, .fn g1 c1), (12, A a0), (13, I x1)] [] ?_
  obtain ⟨v5, hv6, h⟩ := bindS h
  refine opsP_idx τ_ok 14 hv6 (by kernel_rfl) ?_
  refine v 1 19 [(0, A a0), (1, .fn g1 c1), (5, I x1), (7, I ((a0.length : Int))), (8, I x1), (11, .fn g1 c1), (15, I v5)] [] ?_
  obtain ⟨v7, hv8, h⟩ := bindS h
  refine opsP_callF τ 16 (hp1 _ _ hv8) (FzTo.frz rfl) (frz_app (xs := [I v5]) rfl hz1) (by kernel_rfl) ?_
  refine ve 0 19 [(0, A a0), (1, .fn g1 c1), (5, I x1), (7, I ((a0.length : Int))), (8, I x1), (16, B v7)] [] ?_
  refine pc h (fun h => ?_) (fun h => ?_)
  refine srve 19 [(4, I x1)] [] ?_
  cases h
  exact pwp_ret rz
  refine pwp_skip ?_
  refine rve 19 [(0, A a0), (1, .fn g1 c1), (7, I ((a0.length : Int))), (8, I ((w64 (x1 + 1))))] [] ?_
  exact ⟨(f2, (w64 (x1 + 1))), h, Nat.lt_succ_self _, it [0, 1, 7, 8]⟩
  refine pwp_exit ?_
  refine srve 19 [(4, I (-1))] [] ?_
  cases h
  exact pwp_ret rz
def slices_Clip_impl_Value_impl_Value (a0 : List T_impl_Value) : Option (List T_impl_Value) := (slI a0 none (some ((a0.length : Int))) (some ((a0.length : Int)))).bind fun v1 => some v1
theorem ok_slices_Clip_impl_Value_impl_Value {a0 : List T_impl_Value} {y : List T_impl_Value} (h : slices_Clip_impl_Value_impl_Value a0 = some y) : OK Tryz.prog 189 [A a0] (A y) := by
  refine ow Tryz.func189 fun Γ hX => ?_
  unfold slices_Clip_impl_Value_impl_Value at h
  refine srve 9 [(0, A a0)] [] ?_
  refine srv 5 9 [(3, A a0), (5, I ((a0.length : Int))), (7, I ((a0.length : Int)))] [] ?_
  obtain ⟨v1, hv2, h⟩ := bindS h
  refine opsP_slc τ_ok 8 hv2 (by kernel_rfl) ?_
  refine ve 1 9 [(2, A v1)] [] ?_
  cases h
  exact pwp_ret rz
def spec_l20Like_j0 (a1 : T_impl_Column) (x1 : Bool) (x2 : T_spec_l20Rd) : Option (T_impl_Value × T_spec_l20Rd) := bif x1 then some (((T_impl_Value.mk 0 0 (ByteArray.mk #[]))), x2) else bif (a1.fKind == 1) then (spec_l20Rd_pick x2 4).bind fun v5 => some (((T_impl_Value.mk 1 v5.1 (ByteArray.mk #[]))), v5.2) else bif (a1.fKind == 2) then (spec_l20Rd_pick x2 4).bind fun v8 => (getI (([(ByteArray.mk #[]), (ByteArray.mk #[97]), (ByteArray.mk #[98]), (ByteArray.mk #[97, 98])] : List ByteArray)) v8.1).bind fun v10 => some (((T_impl_Value.mk 2 0 v10)), v8.2) else (spec_l20Rd_pick x2 2).bind fun v12 => some (((T_impl_Value.mk 3 v12.1 (ByteArray.mk #[]))), v12.2)
def spec_l20Like (a0 : T_spec_l20Rd) (a1 : T_impl_Column) : Option (T_impl_Value × T_spec_l20Rd) := bif a1.fEmpty then (spec_l20Rd_pick a0 5).bind fun v14 => spec_l20Like_j0 a1 ((v14.1 == 0)) v14.2 else spec_l20Like_j0 a1 false a0
theorem ok_spec_l20Like {a0 : T_spec_l20Rd} {a1 : T_impl_Column} {y : T_impl_Value × T_spec_l20Rd} (h : spec_l20Like a0 a1 = some y) : OKb Tryz.prog 191 (Enc.cells a0) [E a1] (E y.1) (Enc.cells y.2) := by
  refine OKb_of_pwp τ_ok Tryz.func191 rfl (by kernel_rfl) rfl (Enc.frz _) (Enc.frz _) fun Γ hQ => ?_
  unfold spec_l20Like at h
  refine srveM [4] 31 [(0, .ptr 0 0 0), (3, pf a1 0), (4, .ptr 1 0 0)] [sc 0 a0, some ⟨0, Enc.cells ((T_impl_Value.mk 0 0 (ByteArray.mk #[])))⟩] ?_
  refine pwp_seq ?_
  refine pwp_seq ?_
  refine pwp_join (σ := Bool × T_spec_l20Rd) (fun (x1, x2) => (⟨31, [(0, .ptr 0 0 0), (3, pf a1 0), (4, .ptr 1 0 0), (11, B x1)], [sc 0 x2, some ⟨0, Enc.cells ((T_impl_Value.mk 0 0 (ByteArray.mk #[])))⟩]⟩ : St)) (fun (x1, x2) => spec_l20Like_j0 a1 x1 x2 = some y) ?_ ?_
  refine rvM [4] 3 31 [(0, .ptr 0 0 0), (3, pf a1 0), (4, .ptr 1 0 0), (7, B a1.fEmpty)] [sc 0 a0, some ⟨0, Enc.cells ((T_impl_Value.mk 0 0 (ByteArray.mk #[])))⟩] ?_
  rcases Bool.eq_false_or_eq_true a1.fEmpty with hc16 | hc16
  replace h := bT hc16 h
  rw [hc16]
  refine vM [4] 1 31 [(0, .ptr 0 0 0), (3, pf a1 0), (4, .ptr 1 0 0), (7, B true), (8, .ptr 0 0 0)] [sc 0 a0, some ⟨0, Enc.cells ((T_impl_Value.mk 0 0 (ByteArray.mk #[])))⟩] ?_
  obtain ⟨v14, hv15, h⟩ := bindS h
  refine cB 9 0 0 (ok_spec_l20Rd_pick hv15) ?_
  refine veM [4] 2 31 [(0, .ptr 0 0 0), (3, pf a1 0), (4, .ptr 1 0 0), (11, B ((v14.1 == 0)))] [sc 0 v14.2, some ⟨0, Enc.cells ((T_impl_Value.mk 0 0 (ByteArray.mk #[])))⟩] ?_
  exact ⟨((v14.1 == 0), v14.2), h, it [0, 3, 4, 11]⟩
  replace h := bF hc16 h
  rw [hc16]
  refine veM [4] 4 31 [(0, .ptr 0 0 0), (3, pf a1 0), (4, .ptr 1 0 0), (11, B false)] [sc 0 a0, some ⟨0, Enc.cells ((T_impl_Value.mk 0 0 (ByteArray.mk #[])))⟩] ?_
  exact ⟨(false, a0), h, it [0, 3, 4, 11]⟩
  rintro ⟨x1, x2⟩ h
  dsimp only at h ⊢
  unfold spec_l20Like_j0 at h
  refine pc h (fun h => ?_) (fun h => ?_)
  refine srveM [4] 31 [(4, .ptr 1 0 0)] [sc 0 x2, some ⟨0, Enc.cells ((T_impl_Value.mk 0 0 (ByteArray.mk #[])))⟩] ?_
  have h := si h
  subst h
  exact pwp_ret ⟨.inr rfl, E ((T_impl_Value.mk 0 0 (ByteArray.mk #[]))), _, 0, by kernel_rfl, (OutP.frz (by kernel_rfl)), by decide, by decide, by kernel_rfl⟩
  refine pwp_skip ?_
  refine pwp_seq ?_
  refine srveM [4] 31 [(0, .ptr 0 0 0), (4, .ptr 1 0 0), (14, I a1.fKind)] [sc 0 x2, some ⟨0, Enc.cells ((T_impl_Value.mk 0 0 (ByteArray.mk #[])))⟩] ?_
  refine pwp_block ?_
  refine srveM [4] 31 [(0, .ptr 0 0 0), (4, .ptr 1 0 0), (14, I a1.fKind), (15, B ((a1.fKind == 1)))] [sc 0 x2, some ⟨0, Enc.cells ((T_impl_Value.mk 0 0 (ByteArray.mk #[])))⟩] ?_
  refine pc h (fun h => ?_) (fun h => ?_)
  refine srvM [4] 1 31 [(4, .ptr 1 0 0), (17, .ptr 0 0 0)] [sc 0 x2, some ⟨0, Enc.cells ((T_impl_Value.mk 0 0 (ByteArray.mk #[])))⟩] ?_
  obtain ⟨v5, hv6, h⟩ := bindS h
  refine cB 18 0 0 (ok_spec_l20Rd_pick hv6) ?_
  refine veM [4] 2 31 [(4, .ptr 1 0 0)] [sc 0 v5.2, some ⟨0, Enc.cells ((T_impl_Value.mk 1 v5.1 (ByteArray.mk #[])))⟩] ?_
  have h := si h
  subst h
  exact pwp_ret ⟨.inr rfl, E ((T_impl_Value.mk 1 v5.1 (ByteArray.mk #[]))), _, 0, by kernel_rfl, (OutP.frz (by kernel_rfl)), by decide, by decide, by kernel_rfl⟩
  refine srveM [4] 31 [(0, .ptr 0 0 0), (4, .ptr 1 0 0), (20, B ((a1.fKind == 2)))] [sc 0 x2, some ⟨0, Enc.cells ((T_impl_Value.mk 0 0 (ByteArray.mk #[])))⟩] ?_
  refine pc h (fun h => ?_) (fun h => ?_)
  refine srvM [4] 2 31 [(4, .ptr 1 0 0), (22, .arr 1 (([(ByteArray.mk #[]), (ByteArray.mk #[97]), (ByteArray.mk #[98]), (ByteArray.mk #[97, 98])] : List ByteArray)).length (eL ([(ByteArray.mk #[]), (ByteArray.mk #[97]), (ByteArray.mk #[98]), (ByteArray.mk #[97, 98])] : List ByteArray)) true), (23, .ptr 0 0 0)] [sc 0 x2, some ⟨0, Enc.cells ((T_impl_Value.mk 0 0 (ByteArray.mk #[])))⟩] ?_
  obtain ⟨v8, hv9, h⟩ := bindS h
  refine cB 24 0 0 (ok_spec_l20Rd_pick hv9) ?_
  obtain ⟨v10, hv11, h⟩ := bindS h
  refine opsP_idx τ_ok 25 hv11 (by kernel_rfl) ?_
  refine veM [4] 3 31 [(4, .ptr 1 0 0)] [sc 0 v8.2, some ⟨0, Enc.cells ((T_impl_Value.mk 2 0 v10))⟩] ?_
  have h := si h
  subst h
  exact pwp_ret ⟨.inr rfl, E ((T_impl_Value.mk 2 0 v10)), _, 0, by kernel_rfl, (OutP.frz (by kernel_rfl)), by decide, by decide, by kernel_rfl⟩
  refine pwp_skip ?_
  refine srvM [4] 1 31 [(4, .ptr 1 0 0), (28, .ptr 0 0 0)] [sc 0 x2, some ⟨0, Enc.cells ((T_impl_Value.mk 0 0 (ByteArray.mk #[])))⟩] ?_
  obtain ⟨v12, hv13, h⟩ := bindS h
  refine cB 29 0 0 (ok_spec_l20Rd_pick hv13) ?_
  refine veM [4] 2 31 [(4, .ptr 1 0 0)] [sc 0 v12.2, some ⟨0, Enc.cells ((T_impl_Value.mk 3 v12.1 (ByteArray.mk #[])))⟩] ?_
  have h := si h
  subst h
  exact pwp_ret ⟨.inr rfl, E ((T_impl_Value.mk 3 v12.1 (ByteArray.mk #[]))), _, 0, by kernel_rfl, (OutP.frz (by kernel_rfl)), by decide, by decide, by kernel_rfl⟩
def slices_IndexFunc_impl_Value_impl_Value_l0 (a0 : List T_impl_Value) (a1 : T_impl_Value → Option Bool) : Nat → Int → Option Int
  | 0, _ => none
  | f2 + 1, x1 => bif (decide (x1 < ((a0.length : Int)))) then (getI a0 x1).bind fun v5 => (a1 v5).bind fun v7 => bif v7 then some x1 else (slices_IndexFunc_impl_Value_impl_Value_l0 a0 a1 f2) ((w64 (x1 + 1))) else some (-1)
def slices_IndexFunc_impl_Value_impl_Value (a0 : List T_impl_Value) (a1 : T_impl_Value → Option Bool) : Option Int := slices_IndexFunc_impl_Value_impl_Value_l0 a0 a1 FUEL 0
theorem ok_slices_IndexFunc_impl_Value_impl_Value {a0 : List T_impl_Value} {g1 : FuncId} {c1 : List V} (hz1 : frzL c1 = true) {a1 : T_impl_Value → Option Bool} (hp1 : ∀ x0 y, a1 x0 = some y → OK Tryz.prog g1 ([E x0] ++ c1) (B y)) {y : Int} (h : slices_IndexFunc_impl_Value_impl_Value a0 a1 = some y) : OK Tryz.prog 202 [A a0, .fn g1 c1] (I y) := by
  refine ow Tryz.func202 fun Γ hX => ?_
  unfold slices_IndexFunc_impl_Value_impl_Value at h
  refine srve 19 [(0, A a0), (1, .fn g1 c1)] [] ?_
  refine pwp_seq ?_
  refine srve 19 [(0, A a0), (1, .fn g1 c1), (7, I ((a0.length : Int))), (8, I 0)] [] ?_
  refine pwp_block ?_
  refine pwp_loop (ι := Nat × Int) (fun (f2, x1) => (⟨19, [(0, A a0), (1, .fn g1 c1), (7, I ((a0.length : Int))), (8, I x1)], []⟩ : St)) (fun (f2, x1) => slices_IndexFunc_impl_Value_impl_Value_l0 a0 a1 f2 x1 = some y) Prod.fst (FUEL, 0) h (it [0, 1, 7, 8]) ?_
  rintro ⟨f2, x1⟩ h
  dsimp only at h ⊢
  rcases f2 with _ | f2
  cases h
  rw [slices_IndexFunc_impl_Value_impl_Value_l0] at h
  refine srve 19 [(0, A a0), (1, .fn g1 c1), (7, I ((a0.length : Int))), (8, I x1), (9, B ((decide (x1 < ((a0.length : Int))))))] [] ?_
  refine pwp_seq ?_
  refine pc h (fun h => ?_) (fun h => ?_)
  refine pwp_skip ?_
  refine pwp_seq ?_
  refine pwp_block ?_
  refine srve 19 [(0, A a0), (1, .fn g1 c1), (5, I x1), (7, I ((a0.length : Int))), (8, I x1)] [] ?_
  refine srv 3 19 [(0, A a0), (1, .fn g1 c1), (5, I x1), (7, I ((a0.length : Int))), (8, I x1), (11, .fn g1 c1), (12, A a0), (13, I x1)] [] ?_
  obtain ⟨v5, hv6, h⟩ := bindS h
  refine opsP_idx τ_ok 14 hv6 (by kernel_rfl) ?_
  refine v 1 19 [(0, A a0), (1, .fn g1 c1), (5, I x1), (7, I ((a0.length : Int))), (8, I x1), (11, .fn g1 c1), (15, E v5)] [] ?_
  obtain ⟨v7, hv8, h⟩ := bindS h
  refine opsP_callF τ 16 (hp1 _ _ hv8) (FzTo.frz rfl) (frz_app (xs := [E v5]) rfl hz1) (by kernel_rfl) ?_
  refine ve 0 19 [(0, A a0), (1, .fn g1 c1), (5, I x1), (7, I ((a0.length : Int))), (8, I x1), (16, B v7)] [] ?_
  refine pc h (fun h => ?_) (fun h => ?_)
  refine srve 19 [(4, I x1)] [] ?_
  cases h
  exact pwp_ret rz
  refine pwp_skip ?_
  refine rve 19 [(0, A a0), (1, .fn g1 c1), (7, I ((a0.length : Int))), (8, I ((w64 (x1 + 1))))] [] ?_
  exact ⟨(f2, (w64 (x1 + 1))), h, Nat.lt_succ_self _, it [0, 1, 7, 8]⟩
  refine pwp_exit ?_
  refine srve 19 [(4, I (-1))] [] ?_
  cases h
  exact pwp_ret rz
def impl_Step_plain_j1 (a0 : T_impl_Step) (x1 : Bool) (x2 : Bool) : Option Bool := bif (!(a0.fKind == 1)) then bif x1 then bif (a0.fKind == 1) then bif x2 then bif (a0.fKind == 3) then some true else some ((((a0.fList.length : Int)) == 0)) else bif (((a0.fE.length : Int)) == 0) then bif (a0.fKind == 3) then some true else some ((((a0.fList.length : Int)) == 0)) else some false else bif (a0.fN == 0) then bif x2 then bif (a0.fKind == 3) then some true else some ((((a0.fList.length : Int)) == 0)) else bif (((a0.fE.length : Int)) == 0) then bif (a0.fKind == 3) then some true else some ((((a0.fList.length : Int)) == 0)) else some false else some false else bif (a0.fB == 0) then bif (a0.fKind == 1) then bif x2 then bif (a0.fKind == 3) then some true else some ((((a0.fList.length : Int)) == 0)) else bif (((a0.fE.length : Int)) == 0) then bif (a0.fKind == 3) then some true else some ((((a0.fList.length : Int)) == 0)) else some false else bif (a0.fN == 0) then bif x2 then bif (a0.fKind == 3) then some true else some ((((a0.fList.length : Int)) == 0)) else bif (((a0.fE.length : Int)) == 0) then bif (a0.fKind == 3) then some true else some ((((a0.fList.length : Int)) == 0)) else some false else some false else some false else bif (a0.fA == 0) then bif x1 then bif (a0.fKind == 1) then bif x2 then bif (a0.fKind == 3) then some true else some ((((a0.fList.length : Int)) == 0)) else bif (((a0.fE.length : Int)) == 0) then bif (a0.fKind == 3) then some true else some ((((a0.fList.length : Int)) == 0)) else some false else bif (a0.fN == 0) then bif x2 then bif (a0.fKind == 3) then some true else some ((((a0.fList.length : Int)) == 0)) else bif (((a0.fE.length : Int)) == 0) then bif (a0.fKind == 3) then some true else some ((((a0.fList.length : Int)) == 0)) else some false else some false else bif (a0.fB == 0) then bif (a0.fKind == 1) then bif x2 then bif (a0.fKind == 3) then some true else some ((((a0.fList.length : Int)) == 0)) else bif (((a0.fE.length : Int)) == 0) then bif (a0.fKind == 3) then some true else some ((((a0.fList.length : Int)) == 0)) else some false else bif (a0.fN == 0) then bif x2 then bif (a0.fKind == 3) then some true else some ((((a0.fList.length : Int)) == 0)) else bif (((a0.fE.length : Int)) == 0) then bif (a0.fKind == 3) then some true else some ((((a0.fList.length : Int)) == 0)) else some false else some false else some false else some false
def impl_Step_plain_j0 (a0 : T_impl_Step) (x1 : Bool) : Option Bool := bif (a0.fKind == 2) then impl_Step_plain_j1 a0 x1 true else impl_Step_plain_j1 a0 x1 ((a0.fKind == 4))
def impl_Step_plain (a0 : T_impl_Step) : Option Bool := bif (a0.fKind == 4) then impl_Step_plain_j0 a0 true else impl_Step_plain_j0 a0 ((a0.fKind == 5))
theorem ok_impl_Step_plain {a0 : T_impl_Step} {y : Bool} (h : impl_Step_plain a0 = some y) : OK Tryz.prog 208 [E a0] (B y) := by
  refine ow Tryz.func208 fun Γ hX => ?_
  unfold impl_Step_plain at h
  refine srve 67 [(1, pf a0 0)] [] ?_
  refine pwp_seq ?_
  refine pwp_join (σ := Bool) (fun x1 => (⟨67, [(1, pf a0 0), (3, B x1)], []⟩ : St)) (fun x1 => impl_Step_plain_j0 a0 x1 = some y) ?_ ?_
  refine rv 4 67 [(1, pf a0 0), (8, B ((a0.fKind == 4)))] [] ?_
  rcases fk ((a0.fKind == 4)) with hc50 | hc50
  replace h := bT hc50 h
  rw [hc50]
  refine ve 5 67 [(1, pf a0 0), (3, B true)] [] ?_
  exact ⟨true, h, it [1, 3]⟩
  replace h := bF hc50 h
  rw [hc50]
  refine ve 5 67 [(1, pf a0 0), (3, B ((a0.fKind == 5)))] [] ?_
  exact ⟨(a0.fKind == 5), h, it [1, 3]⟩
  rintro x1 h
  unfold impl_Step_plain_j0 at h
  refine pwp_seq ?_
  refine pwp_join (σ := Bool) (fun x2 => (⟨67, [(1, pf a0 0), (3, B x1), (4, B x2)], []⟩ : St)) (fun x2 => impl_Step_plain_j1 a0 x1 x2 = some y) ?_ ?_
  refine rv 4 67 [(1, pf a0 0), (3, B x1), (16, B ((a0.fKind == 2)))] [] ?_
  rcases fk ((a0.fKind == 2)) with hc49 | hc49
  replace h := bT hc49 h
  rw [hc49]
  refine ve 5 67 [(1, pf a0 0), (3, B x1), (4, B true)] [] ?_
  exact ⟨true, h, it [1, 3, 4]⟩
  replace h := bF hc49 h
  rw [hc49]
  refine ve 5 67 [(1, pf a0 0), (3, B x1), (4, B ((a0.fKind == 4)))] [] ?_
  exact ⟨(a0.fKind == 4), h, it [1, 3, 4]⟩
  rintro x2 h
  unfold impl_Step_plain_j1 at h
  refine srv 4 67 [(1, pf a0 0), (3, B x1), (4, B x2), (24, B ((!(a0.fKind == 1))))] [] ?_
  rcases fk ((!(a0.fKind == 1))) with hc48 | hc48
  replace h := bT hc48 h
  rw [hc48]
  refine v 7 67 [(1, pf a0 0), (4, B x2), (29, B true), (31, B x1)] [] ?_
  rcases Bool.eq_false_or_eq_true x1 with hc24 | hc24
  replace h := bT hc24 h
  rw [hc24]
  refine v 10 67 [(1, pf a0 0), (4, B x2), (37, B true), (41, B ((a0.fKind == 1)))] [] ?_
  rcases fk ((a0.fKind == 1)) with hc12 | hc12
  replace h := bT hc12 h
  rw [hc12]
  refine v 8 67 [(1, pf a0 0), (47, B true), (49, B x2)] [] ?_
  rcases Bool.eq_false_or_eq_true x2 with hc6 | hc6
  replace h := bT hc6 h
  rw [hc6]
  refine v 11 67 [(1, pf a0 0), (56, B true), (60, B ((a0.fKind == 3)))] [] ?_
  rcases fk ((a0.fKind == 3)) with hc3 | hc3
  replace h := bT hc3 h
  rw [hc3]
  refine ve 7 67 [(2, B true)] [] ?_
  cases h
  exact pwp_ret rz
  replace h := bF hc3 h
  rw [hc3]
  refine ve 7 67 [(2, B ((((a0.fList.length : Int)) == 0)))] [] ?_
  cases h
  exact pwp_ret rz
  replace h := bF hc6 h
  rw [hc6]
  refine v 7 67 [(1, pf a0 0), (56, B ((((a0.fE.length : Int)) == 0)))] [] ?_
  rcases fk ((((a0.fE.length : Int)) == 0)) with hc5 | hc5
  replace h := bT hc5 h
  rw [hc5]
  refine v 4 67 [(1, pf a0 0), (56, B true), (60, B ((a0.fKind == 3)))] [] ?_
  rcases fk ((a0.fKind == 3)) with hc4 | hc4
  replace h := bT hc4 h
  rw [hc4]
  refine ve 7 67 [(2, B true)] [] ?_
  cases h
  exact pwp_ret rz
  replace h := bF hc4 h
  rw [hc4]
  refine ve 7 67 [(2, B ((((a0.fList.length : Int)) == 0)))] [] ?_
  cases h
  exact pwp_ret rz
  replace h := bF hc5 h
  rw [hc5]
  refine ve 11 67 [(2, B false)] [] ?_
  cases h
  exact pwp_ret rz
  replace h := bF hc12 h
  rw [hc12]
  refine v 6 67 [(1, pf a0 0), (4, B x2), (47, B ((a0.fN == 0)))] [] ?_
  rcases fk ((a0.fN == 0)) with hc11 | hc11
  replace h := bT hc11 h
  rw [hc11]
  refine v 2 67 [(1, pf a0 0), (47, B true), (49, B x2)] [] ?_
  rcases Bool.eq_false_or_eq_true x2 with hc10 | hc10
  replace h := bT hc10 h
  rw [hc10]
  refine v 11 67 [(1, pf a0 0), (56, B true), (60, B ((a0.fKind == 3)))] [] ?_
  rcases fk ((a0.fKind == 3)) with hc7 | hc7
  replace h := bT hc7 h
  rw [hc7]
  refine ve 7 67 [(2, B true)] [] ?_
  cases h
  exact pwp_ret rz
  replace h := bF hc7 h
  rw [hc7]
  refine ve 7 67 [(2, B ((((a0.fList.length : Int)) == 0)))] [] ?_
  cases h
  exact pwp_ret rz
  replace h := bF hc10 h
  rw [hc10]
  refine v 7 67 [(1, pf a0 0), (56, B ((((a0.fE.length : Int)) == 0)))] [] ?_
  rcases fk ((((a0.fE.length : Int)) == 0)) with hc9 | hc9
  replace h := bT hc9 h
  rw [hc9]
  refine v 4 67 [(1, pf a0 0), (56, B true), (60, B ((a0.fKind == 3)))] [] ?_
  rcases fk ((a0.fKind == 3)) with hc8 | hc8
  replace h := bT hc8 h
  rw [hc8]
  refine ve 7 67 [(2, B true)] [] ?_
  cases h
  exact pwp_ret rz
  replace h := bF hc8 h
  rw [hc8]
  refine ve 7 67 [(2, B ((((a0.fList.length : Int)) == 0)))] [] ?_
  cases h
  exact pwp_ret rz
  replace h := bF hc9 h
  rw [hc9]
  refine ve 11 67 [(2, B false)] [] ?_
  cases h
  exact pwp_ret rz
  replace h := bF hc11 h
  rw [hc11]
  refine ve 20 67 [(2, B false)] [] ?_
  cases h
  exact pwp_ret rz
  replace h := bF hc24 h
  rw [hc24]
  refine v 6 67 [(1, pf a0 0), (4, B x2), (37, B ((a0.fB == 0)))] [] ?_
  rcases fk ((a0.fB == 0)) with hc23 | hc23
  replace h := bT hc23 h
  rw [hc23]
  refine v 4 67 [(1, pf a0 0), (4, B x2), (37, B true), (41, B ((a0.fKind == 1)))] [] ?_
  rcases fk ((a0.fKind == 1)) with hc22 | hc22
  replace h := bT hc22 h
  rw [hc22]
  refine v 8 67 [(1, pf a0 0), (47, B true), (49, B x2)] [] ?_
  rcases Bool.eq_false_or_eq_true x2 with hc16 | hc16
  replace h := bT hc16 h
  rw [hc16]
  refine v 11 67 [(1, pf a0 0), (56, B true), (60, B ((a0.fKind == 3)))] [] ?_
  rcases fk ((a0.fKind == 3)) with hc13 | hc13
  replace h := bT hc13 h
  rw [hc13]
  refine ve 7 67 [(2, B true)] [] ?_
  cases h
  exact pwp_ret rz
  replace h := bF hc13 h
  rw [hc13]
  refine ve 7 67 [(2, B ((((a0.fList.length : Int)) == 0)))] [] ?_
  cases h
  exact pwp_ret rz
  replace h := bF hc16 h
  rw [hc16]
  refine v 7 67 [(1, pf a0 0), (56, B ((((a0.fE.length : Int)) == 0)))] [] ?_
  rcases fk ((((a0.fE.length : Int)) == 0)) with hc15 | hc15
  replace h := bT hc15 h
  rw [hc15]
  refine v 4 67 [(1, pf a0 0), (56, B true), (60, B ((a0.fKind == 3)))] [] ?_
  rcases fk ((a0.fKind == 3)) with hc14 | hc14
  replace h := bT hc14 h
  rw [hc14]
  refine ve 7 67 [(2, B true)] [] ?_
  cases h
  exact pwp_ret rz
  replace h := bF hc14 h
  rw [hc14]
  refine ve 7 67 [(2, B ((((a0.fList.length : Int)) == 0)))] [] ?_
  cases h
  exact pwp_ret rz
  replace h := bF hc15 h
  rw [hc15]
  refine ve 11 67 [(2, B false)] [] ?_
  cases h
  exact pwp_ret rz
  replace h := bF hc22 h
  rw [hc22]
  refine v 6 67 [(1, pf a0 0), (4, B x2), (47, B ((a0.fN == 0)))] [] ?_
  rcases fk ((a0.fN == 0)) with hc21 | hc21
  replace h := bT hc21 h
  rw [hc21]
  refine v 2 67 [(1, pf a0 0), (47, B true), (49, B x2)] [] ?_
  rcases Bool.eq_false_or_eq_true x2 with hc20 | hc20
  replace h := bT hc20 h
  rw [hc20]
  refine v 11 67 [(1, pf a0 0), (56, B true), (60, B ((a0.fKind == 3)))] [] ?_
  rcases fk ((a0.fKind == 3)) with hc17 | hc17
  replace h := bT hc17 h
  rw [hc17]
  refine ve 7 67 [(2, B true)] [] ?_
  cases h
  exact pwp_ret rz
  replace h := bF hc17 h
  rw [hc17]
  refine ve 7 67 [(2, B ((((a0.fList.length : Int)) == 0)))] [] ?_
  cases h
  exact pwp_ret rz
  replace h := bF hc20 h
  rw [hc20]
  refine v 7 67 [(1, pf a0 0), (56, B ((((a0.fE.length : Int)) == 0)))] [] ?_
  rcases fk ((((a0.fE.length : Int)) == 0)) with hc19 | hc19
  replace h := bT hc19 h
  rw [hc19]
  refine v 4 67 [(1, pf a0 0), (56, B true), (60, B ((a0.fKind == 3)))] [] ?_
  rcases fk ((a0.fKind == 3)) with hc18 | hc18
  replace h := bT hc18 h
  rw [hc18]
  refine ve 7 67 [(2, B true)] [] ?_
  cases h
  exact pwp_ret rz
  replace h := bF hc18 h
  rw [hc18]
  refine ve 7 67 [(2, B ((((a0.fList.length : Int)) == 0)))] [] ?_
  cases h
  exact pwp_ret rz
  replace h := bF hc19 h
  rw [hc19]
  refine ve 11 67 [(2, B false)] [] ?_
  cases h
  exact pwp_ret rz
  replace h := bF hc21 h
  rw [hc21]
  refine ve 20 67 [(2, B false)] [] ?_
  cases h
  exact pwp_ret rz
  replace h := bF hc23 h
  rw [hc23]
  refine ve 30 67 [(2, B false)] [] ?_
  cases h
  exact pwp_ret rz
  replace h := bF hc48 h
  rw [hc48]
  refine v 5 67 [(1, pf a0 0), (3, B x1), (4, B x2), (29, B ((a0.fA == 0)))] [] ?_
  rcases fk ((a0.fA == 0)) with hc47 | hc47
  replace h := bT hc47 h
  rw [hc47]
  refine v 2 67 [(1, pf a0 0), (4, B x2), (29, B true), (31, B x1)] [] ?_
  rcases Bool.eq_false_or_eq_true x1 with hc46 | hc46
  replace h := bT hc46 h
  rw [hc46]
  refine v 10 67 [(1, pf a0 0), (4, B x2), (37, B true), (41, B ((a0.fKind == 1)))] [] ?_
  rcases fk ((a0.fKind == 1)) with hc34 | hc34
  replace h := bT hc34 h
  rw [hc34]
  refine v 8 67 [(1, pf a0 0), (47, B true), (49, B x2)] [] ?_
  rcases Bool.eq_false_or_eq_true x2 with hc28 | hc28
  replace h := bT hc28 h
  rw [hc28]
  refine v 11 67 [(1, pf a0 0), (56, B true), (60, B ((a0.fKind == 3)))] [] ?_
  rcases fk ((a0.fKind == 3)) with hc25 | hc25
  replace h := bT hc25 h
  rw [hc25]
  refine ve 7 67 [(2, B true)] [] ?_
  cases h
  exact pwp_ret rz
  replace h := bF hc25 h
  rw [hc25]
  refine ve 7 67 [(2, B ((((a0.fList.length : Int)) == 0)))] [] ?_
  cases h
  exact pwp_ret rz
  replace h := bF hc28 h
  rw [hc28]
  refine v 7 67 [(1, pf a0 0), (56, B ((((a0.fE.length : Int)) == 0)))] [] ?_
  rcases fk ((((a0.fE.length : Int)) == 0)) with hc27 | hc27
  replace h := bT hc27 h
  rw [hc27]
  refine v 4 67 [(1, pf a0 0), (56, B true), (60, B ((a0.fKind == 3)))] [] ?_
  rcases fk ((a0.fKind == 3)) with hc26 | hc26
  replace h := bT hc26 h
  rw [hc26]
  refine ve 7 67 [(2, B true)] [] ?_
  cases h
  exact pwp_ret rz
  replace h := bF hc26 h
  rw [hc26]
  refine ve 7 67 [(2, B ((((a0.fList.length : Int)) == 0)))] [] ?_
  cases h
  exact pwp_ret rz
  replace h := bF hc27 h
  rw [hc27]
  refine ve 11 67 [(2, B false)] [] ?_
  cases h
  exact pwp_ret rz
  replace h := bF hc34 h
  rw [hc34]
  refine v 6 67 [(1, pf a0 0), (4, B x2), (47, B ((a0.fN == 0)))] [] ?_
  rcases fk ((a0.fN == 0)) with hc33 | hc33
  replace h := bT hc33 h
  rw [hc33]
  refine v 2 67 [(1, pf a0 0), (47, B true), (49, B x2)] [] ?_
  rcases Bool.eq_false_or_eq_true x2 with hc32 | hc32
  replace h := bT hc32 h
  rw [hc32]
  refine v 11 67 [(1, pf a0 0), (56, B true), (60, B ((a0.fKind == 3)))] [] ?_
  rcases fk ((a0.fKind == 3)) with hc29 | hc29
  replace h := bT hc29 h
  rw [hc29]
  refine ve 7 67 [(2, B true)] [] ?_
  cases h
  exact pwp_ret rz
  replace h := bF hc29 h
  rw [hc29]
  refine ve 7 67 [(2, B ((((a0.fList.length : Int)) == 0)))] [] ?_
  cases h
  exact pwp_ret rz
  replace h := bF hc32 h
  rw [hc32]
  refine v 7 67 [(1, pf a0 0), (56, B ((((a0.fE.length : Int)) == 0)))] [] ?_
  rcases fk ((((a0.fE.length : Int)) == 0)) with hc31 | hc31
  replace h := bT hc31 h
  rw [hc31]
  refine v 4 67 [(1, pf a0 0), (56, B true), (60, B ((a0.fKind == 3)))] [] ?_
  rcases fk ((a0.fKind == 3)) with hc30 | hc30
  replace h := bT hc30 h
  rw [hc30]
  refine ve 7 67 [(2, B true)] [] ?_
  cases h
  exact pwp_ret rz
  replace h := bF hc30 h
  rw [hc30]
  refine ve 7 67 [(2, B ((((a0.fList.length : Int)) == 0)))] [] ?_
  cases h
  exact pwp_ret rz
  replace h := bF hc31 h
  rw [hc31]
  refine ve 11 67 [(2, B false)] [] ?_
  cases h
  exact pwp_ret rz
  replace h := bF hc33 h
  rw [hc33]
  refine ve 20 67 [(2, B false)] [] ?_
  cases h
  exact pwp_ret rz
  replace h := bF hc46 h
  rw [hc46]
  refine v 6 67 [(1, pf a0 0), (4, B x2), (37, B ((a0.fB == 0)))] [] ?_
  rcases fk ((a0.fB == 0)) with hc45 | hc45
  replace h := bT hc45 h
  rw [hc45]
  refine v 4 67 [(1, pf a0 0), (4, B x2), (37, B true), (41, B ((a0.fKind == 1)))] [] ?_
  rcases fk ((a0.fKind == 1)) with hc44 | hc44
  replace h := bT hc44 h
  rw [hc44]
  refine v 8 67 [(1, pf a0 0), (47, B true), (49, B x2)] [] ?_
  rcases Bool.eq_false_or_eq_true x2 with hc38 | hc38
  replace h := bT hc38 h
  rw [hc38]
  refine v 11 67 [(1, pf a0 0), (56, B true), (60, B ((a0.fKind == 3)))] [] ?_
  rcases fk ((a0.fKind == 3)) with hc35 | hc35
  replace h := bT hc35 h
  rw [hc35]
  refine ve 7 67 [(2, B true)] [] ?_
  cases h
  exact pwp_ret rz
  replace h := bF hc35 h
  rw [hc35]
  refine ve 7 67 [(2, B ((((a0.fList.length : Int)) == 0)))] [] ?_
  cases h
  exact pwp_ret rz
  replace h := bF hc38 h
  rw [hc38]
  refine v 7 67 [(1, pf a0 0), (56, B ((((a0.fE.length : Int)) == 0)))] [] ?_
  rcases fk ((((a0.fE.length : Int)) == 0)) with hc37 | hc37
  replace h := bT hc37 h
  rw [hc37]
  refine v 4 67 [(1, pf a0 0), (56, B true), (60, B ((a0.fKind == 3)))] [] ?_
  rcases fk ((a0.fKind == 3)) with hc36 | hc36
  replace h := bT hc36 h
  rw [hc36]
  refine ve 7 67 [(2, B true)] [] ?_
  cases h
  exact pwp_ret rz
  replace h := bF hc36 h
  rw [hc36]
  refine ve 7 67 [(2, B ((((a0.fList.length : Int)) == 0)))] [] ?_
  cases h
  exact pwp_ret rz
  replace h := bF hc37 h
  rw [hc37]
  refine ve 11 67 [(2, B false)] [] ?_
  cases h
  exact pwp_ret rz
  replace h := bF hc44 h
  rw [hc44]
  refine v 6 67 [(1, pf a0 0), (4, B x2), (47, B ((a0.fN == 0)))] [] ?_
  rcases fk ((a0.fN == 0)) with hc43 | hc43
  replace h := bT hc43 h
  rw [hc43]
  refine v 2 67 [(1, pf a0 0), (47, B true), (49, B x2)] [] ?_
  rcases Bool.eq_false_or_eq_true x2 with hc42 | hc42
  replace h := bT hc42 h
  rw [hc42]
  refine v 11 67 [(1, pf a0 0), (56, B true), (60, B ((a0.fKind == 3)))] [] ?_
  rcases fk ((a0.fKind == 3)) with hc39 | hc39
  replace h := bT hc39 h
  rw [hc39]
  refine ve 7 67 [(2, B true)] [] ?_
  cases h
  exact pwp_ret rz
  replace h := bF hc39 h
  rw [hc39]
  refine ve 7 67 [(2, B ((((a0.fList.length : Int)) == 0)))] [] ?_
  cases h
  exact pwp_ret rz
  replace h := bF hc42 h
  rw [hc42]
  refine v 7 67 [(1, pf a0 0), (56, B ((((a0.fE.length : Int)) == 0)))] [] ?_
  rcases fk ((((a0.fE.length : Int)) == 0)) with hc41 | hc41
  replace h := bT hc41 h
  rw [hc41]
  refine v 4 67 [(1, pf a0 0), (56, B true), (60, B ((a0.fKind == 3)))] [] ?_
  rcases fk ((a0.fKind == 3)) with hc40 | hc40
  replace h := bT hc40 h
  rw [hc40]
  refine ve 7 67 [(2, B true)] [] ?_
  cases h
  exact pwp_ret rz
  replace h := bF hc40 h
  rw [hc40]
  refine ve 7 67 [(2, B ((((a0.fList.length : Int)) == 0)))] [] ?_
  cases h
  exact pwp_ret rz
  replace h := bF hc41 h
  rw [hc41]
  refine ve 11 67 [(2, B false)] [] ?_
  cases h
  exact pwp_ret rz
  replace h := bF hc43 h
  rw [hc43]
  refine ve 20 67 [(2, B false)] [] ?_
  cases h
  exact pwp_ret rz
  replace h := bF hc45 h
  rw [hc45]
  refine ve 30 67 [(2, B false)] [] ?_
  cases h
  exact pwp_ret rz
  replace h := bF hc47 h
  rw [hc47]
  refine ve 38 67 [(2, B false)] [] ?_
  cases h
  exact pwp_ret rz
def impl_NotOf (a0 : Int) : Option Int := bif (a0 == 0) then some 1 else bif (a0 == 1) then some 0 else bif (a0 == 2) then some 2 else some (-1)
theorem ok_impl_NotOf {a0 : Int} {y : Int} (h : impl_NotOf a0 = some y) : OK Tryz.prog 214 [I a0] (I y) := by
  refine ow Tryz.func214 fun Γ hX => ?_
  unfold impl_NotOf at h
  refine srve 10 [(0, I a0)] [] ?_
  refine pwp_seq ?_
  refine srve 10 [(3, I a0)] [] ?_
  refine pwp_block ?_
  refine srve 10 [(3, I a0), (4, B ((a0 == 0)))] [] ?_
  refine pc h (fun h => ?_) (fun h => ?_)
  refine srve 10 [(2, I 1)] [] ?_
  cases h
  exact pwp_ret rz
  refine srve 10 [(3, I a0), (6, B ((a0 == 1)))] [] ?_
  refine pc h (fun h => ?_) (fun h => ?_)
  refine srve 10 [(2, I 0)] [] ?_
  cases h
  exact pwp_ret rz
  refine srve 10 [(8, B ((a0 == 2)))] [] ?_
  refine pc h (fun h => ?_) (fun h => ?_)
  refine srve 10 [(2, I 2)] [] ?_
  cases h
  exact pwp_ret rz
  refine pwp_skip ?_
  refine srve 10 [(2, I (-1))] [] ?_
  cases h
  exact pwp_ret rz
def impl_truthIf (a0 : Bool) : Option Int := bif a0 then some 1 else some 0
theorem ok_impl_truthIf {a0 : Bool} {y : Int} (h : impl_truthIf a0 = some y) : OK Tryz.prog 215 [B a0] (I y) := by
  refine ow Tryz.func215 fun Γ hX => ?_
  unfold impl_truthIf at h
  refine srve 4 [(0, B a0)] [] ?_
  refine pwp_seq ?_
  refine srve 4 [(3, B a0)] [] ?_
  refine pc h (fun h => ?_) (fun h => ?_)
  refine srve 4 [(2, I 1)] [] ?_
  cases h
  exact pwp_ret rz
  refine pwp_skip ?_
  refine srve 4 [(2, I 0)] [] ?_
  cases h
  exact pwp_ret rz
def spec_l1Text_j1 (x1 : Int) (K3 : Int → Option Bool) (x5 : Bool) : Option Bool := bif x5 then some false else K3 ((w64 (x1 + 1)))
def spec_l1Text_l0 (a0 : ByteArray) : Nat → Int → Option Bool
  | 0, _ => none
  | f2 + 1, x1 => bif (decide (x1 < ((a0.size : Int)))) then (getB a0 x1).bind fun v7 => bif (decide ((v7.toNat : Int) < 97)) then spec_l1Text_j1 x1 (spec_l1Text_l0 a0 f2) true else (getB a0 x1).bind fun v9 => spec_l1Text_j1 x1 (spec_l1Text_l0 a0 f2) ((decide ((v9.toNat : Int) > 122))) else some ((decide (((a0.size : Int)) ≤ 6)))
def spec_l1Text (a0 : ByteArray) : Option Bool := spec_l1Text_l0 a0 FUEL 0
theorem ok_spec_l1Text {a0 : ByteArray} {y : Bool} (h : spec_l1Text a0 = some y) : OK Tryz.prog 216 [S a0] (B y) := by
  refine ow Tryz.func216 fun Γ hX => ?_
  unfold spec_l1Text at h
  refine srve 23 [(0, S a0)] [] ?_
  refine pwp_seq ?_
  refine srve 23 [(0, S a0), (3, I 0)] [] ?_
  refine pwp_block ?_
  refine pwp_loop (ι := Nat × Int) (fun (f2, x1) => (⟨23, [(0, S a0), (3, I x1)], []⟩ : St)) (fun (f2, x1) => spec_l1Text_l0 a0 f2 x1 = some y) Prod.fst (FUEL, 0) h (it [0, 3]) ?_
  rintro ⟨f2, x1⟩ h
  dsimp only at h ⊢
  rcases f2 with _ | f2
  cases h
  rw [spec_l1Text_l0] at h
  refine pwp_seq ?_
  refine srve 23 [(0, S a0), (3, I x1), (7, B ((decide (x1 < ((a0.size : Int))))))] [] ?_
  refine pc h (fun h => ?_) (fun h => ?_)
  refine pwp_skip ?_
  refine pwp_seq ?_
  refine pwp_block ?_
  refine pwp_seq ?_
  refine pwp_join (σ := Bool) (fun x5 => (⟨23, [(0, S a0), (3, I x1), (19, B x5)], []⟩ : St)) (fun x5 => spec_l1Text_j1 x1 (spec_l1Text_l0 a0 f2) x5 = some y) ?_ ?_
  refine rv 2 23 [(0, S a0), (3, I x1), (10, S a0), (11, I x1)] [] ?_
  obtain ⟨v7, hv8, h⟩ := bindS h
  refine opsP_byt τ_ok 12 hv8 (by kernel_rfl) ?_
  refine v 2 23 [(0, S a0), (3, I x1), (14, B ((decide ((v7.toNat : Int) < 97))))] [] ?_
  rcases fk ((decide ((v7.toNat : Int) < 97))) with hc11 | hc11
  replace h := bT hc11 h
  rw [hc11]
  refine ve 5 23 [(0, S a0), (3, I x1), (15, .lit undef), (16, .lit undef), (17, .lit undef), (18, .lit undef), (19, B true)] [] ?_
  exact ⟨true, h, it [0, 3, 19]⟩
  replace h := bF hc11 h
  rw [hc11]
  refine v 2 23 [(0, S a0), (3, I x1), (14, B false), (15, S a0), (16, I x1)] [] ?_
  obtain ⟨v9, hv10, h⟩ := bindS h
  refine opsP_byt τ_ok 17 hv10 (by kernel_rfl) ?_
  refine ve 2 23 [(0, S a0), (3, I x1), (15, S a0), (16, I x1), (17, .lit (.int .u8 (v9).toNat)), (18, B ((decide ((v9.toNat : Int) > 122)))), (19, B ((decide ((v9.toNat : Int) > 122))))] [] ?_
  exact ⟨(decide ((v9.toNat : Int) > 122)), h, it [0, 3, 19]⟩
  rintro x5 h
  unfold spec_l1Text_j1 at h
  refine pc h (fun h => ?_) (fun h => ?_)
  refine srve 23 [(2, B false)] [] ?_
  cases h
  exact pwp_ret rz
  refine pwp_skip ?_
  refine rve 23 [(0, S a0), (3, I ((w64 (x1 + 1))))] [] ?_
  exact ⟨(f2, (w64 (x1 + 1))), h, Nat.lt_succ_self _, it [0, 3]⟩
  refine pwp_exit ?_
  refine srve 23 [(2, B ((decide (((a0.size : Int)) ≤ 6))))] [] ?_
  cases h
  exact pwp_ret rz
def cmp_Or_int_l0 (a0 : List Int) : Nat → Int → Option Int
  | 0, _ => none
  | f2 + 1, x1 => bif (decide (x1 < ((a0.length : Int)))) then (getI a0 x1).bind fun v5 => bif (!(v5 == 0)) then some v5 else (cmp_Or_int_l0 a0 f2) ((w64 (x1 + 1))) else some 0
def cmp_Or_int (a0 : List Int) : Option Int := cmp_Or_int_l0 a0 FUEL 0
theorem ok_cmp_Or_int {a0 : List Int} {y : Int} (h : cmp_Or_int a0 = some y) : OK Tryz.prog 224 [A a0] (I y) := by
  refine ow Tryz.func224 fun Γ hX => ?_
  unfold cmp_Or_int at h
  refine srve 18 [(0, A a0)] [] ?_
  refine srve 18 [(0, A a0), (3, I 0)] [] ?_
  refine pwp_seq ?_
  refine srve 18 [(3, I 0), (6, A a0), (7, I ((a0.length : Int))), (8, I 0)] [] ?_
  refine pwp_block ?_
  refine pwp_loop (ι := Nat × Int) (fun (f2, x1) => (⟨18, [(3, I 0), (6, A a0), (7, I ((a0.length : Int))), (8, I x1)], []⟩ : St)) (fun (f2, x1) => cmp_Or_int_l0 a0 f2 x1 = some y) Prod.fst (FUEL, 0) h (it [3, 6, 7, 8]) ?_
  rintro ⟨f2, x1⟩ h
  dsimp only at h ⊢
  rcases f2 with _ | f2
  cases h
  rw [cmp_Or_int_l0] at h
  refine srve 18 [(3, I 0), (6, A a0), (7, I ((a0.length : Int))), (8, I x1), (9, B ((decide (x1 < ((a0.length : Int))))))] [] ?_
  refine pwp_seq ?_
  refine pc h (fun h => ?_) (fun h => ?_)
  refine pwp_skip ?_
  refine pwp_seq ?_
  refine pwp_block ?_
  refine pwp_seq ?_
  refine pwp_region ?_
  obtain ⟨v5, hv6, h⟩ := bindS h
  refine opsP_idx τ_ok 10 hv6 (by kernel_rfl) ?_
  refine ve 2 18 [(3, I 0), (5, I v5), (6, A a0), (7, I ((a0.length : Int))), (8, I x1)] [] ?_
  refine srve 18 [(3, I 0), (5, I v5), (6, A a0), (7, I ((a0.length : Int))), (8, I x1), (14, B ((!(v5 == 0))))] [] ?_
  refine pc h (fun h => ?_) (fun h => ?_)
  refine srve 18 [(2, I v5)] [] ?_
  cases h
  exact pwp_ret rz
  refine pwp_skip ?_
  refine rve 18 [(3, I 0), (6, A a0), (7, I ((a0.length : Int))), (8, I ((w64 (x1 + 1))))] [] ?_
  exact ⟨(f2, (w64 (x1 + 1))), h, Nat.lt_succ_self _, it [3, 6, 7, 8]⟩
  refine pwp_exit ?_
  refine srve 18 [(2, I 0)] [] ?_
  cases h
  exact pwp_ret rz
def impl_TruthOk (a0 : Int) : Option Bool := (impl_between a0 0 2).bind fun v1 => some v1
theorem ok_impl_TruthOk {a0 : Int} {y : Bool} (h : impl_TruthOk a0 = some y) : OK Tryz.prog 227 [I a0] (B y) := by
  refine ow Tryz.func227 fun Γ hX => ?_
  unfold impl_TruthOk at h
  refine srve 5 [(0, I a0)] [] ?_
  refine srv 1 5 [(3, I a0)] [] ?_
  obtain ⟨v1, hv2, h⟩ := bindS h
  refine cF 4 (ok_impl_between hv2) ?_
  refine ve 1 5 [(2, B v1)] [] ?_
  cases h
  exact pwp_ret rz
def cmp_isNaN_int (a0 : Int) : Option Bool := some ((!(a0 == a0)))
theorem ok_cmp_isNaN_int {a0 : Int} {y : Bool} (h : cmp_isNaN_int a0 = some y) : OK Tryz.prog 228 [I a0] (B y) := by
  refine ow Tryz.func228 fun Γ hX => ?_
  unfold cmp_isNaN_int at h
  refine srve 6 [(0, I a0)] [] ?_
  refine srve 6 [(2, B ((!(a0 == a0))))] [] ?_
  cases h
  exact pwp_ret rz
def cmp_isNaN_string (a0 : ByteArray) : Option Bool := some ((!(a0.toList == a0.toList)))
theorem ok_cmp_isNaN_string {a0 : ByteArray} {y : Bool} (h : cmp_isNaN_string a0 = some y) : OK Tryz.prog 229 [S a0] (B y) := by
  refine ow Tryz.func229 fun Γ hX => ?_
  unfold cmp_isNaN_string at h
  refine srve 6 [(0, S a0)] [] ?_
  refine srve 6 [(2, B ((!(a0.toList == a0.toList))))] [] ?_
  cases h
  exact pwp_ret rz
def laws_sameRows_l0 (a0 : List (List T_impl_Value)) (a1 : List (List T_impl_Value)) : Nat → Int → Option Bool
  | 0, _ => none
  | f3 + 1, x2 => bif (decide (x2 < ((a0.length : Int)))) then (getI a0 x2).bind fun v6 => (getI a1 x2).bind fun v8 => (laws_sameRow v6 v8).bind fun v10 => bif (!v10) then some false else (laws_sameRows_l0 a0 a1 f3) ((w64 (x2 + 1))) else some true
def laws_sameRows (a0 : List (List T_impl_Value)) (a1 : List (List T_impl_Value)) : Option Bool := bif (!(((a0.length : Int)) == ((a1.length : Int)))) then some false else laws_sameRows_l0 a0 a1 FUEL 0
theorem ok_laws_sameRows {a0 : List (List T_impl_Value)} {a1 : List (List T_impl_Value)} {y : Bool} (h : laws_sameRows a0 a1 = some y) : OK Tryz.prog 14 [A a0, A a1] (B y) := by
  refine ow Tryz.func14 fun Γ hX => ?_
  unfold laws_sameRows at h
  refine srve 27 [(0, A a0), (1, A a1)] [] ?_
  refine pwp_seq ?_
  refine srve 27 [(0, A a0), (1, A a1), (10, B ((!(((a0.length : Int)) == ((a1.length : Int))))))] [] ?_
  refine pc h (fun h => ?_) (fun h => ?_)
  refine srve 27 [(4, B false)] [] ?_
  cases h
  exact pwp_ret rz
  refine pwp_skip ?_
  refine pwp_seq ?_
  refine srve 27 [(0, A a0), (1, A a1), (5, I 0)] [] ?_
  refine pwp_block ?_
  refine pwp_loop (ι := Nat × Int) (fun (f3, x2) => (⟨27, [(0, A a0), (1, A a1), (5, I x2)], []⟩ : St)) (fun (f3, x2) => laws_sameRows_l0 a0 a1 f3 x2 = some y) Prod.fst (FUEL, 0) h (it [0, 1, 5]) ?_
  rintro ⟨f3, x2⟩ h
  dsimp only at h ⊢
  rcases f3 with _ | f3
  cases h
  rw [laws_sameRows_l0] at h
  refine pwp_seq ?_
  refine srve 27 [(0, A a0), (1, A a1), (5, I x2), (14, B ((decide (x2 < ((a0.length : Int))))))] [] ?_
  refine pc h (fun h => ?_) (fun h => ?_)
  refine pwp_skip ?_
  refine pwp_seq ?_
  refine pwp_block ?_
  refine pwp_seq ?_
  refine ip 27 [(0, A a0), (1, A a1), (5, I x2)] [] ?_
  refine pN 10 ?_
  refine qv [] trivial 2 27 [(18, I x2), (17, A a0), (0, A a0), (1, A a1), (5, I x2)] [] ?_
  obtain ⟨v6, hv7, h⟩ := bindS h
  refine qX (some 19) (pf v6 0) 27 [(19, pf v6 0), (0, A a0), (1, A a1), (5, I x2)] [] (fun Γ' hΓ => CoreE.of_y (idxV_sound τ_ok (by kernel_rfl) hv7)) trivial ?_
  refine qv [] trivial 3 27 [(22, I x2), (21, A a1), (20, A v6), (0, A a0), (1, A a1), (5, I x2)] [] ?_
  obtain ⟨v8, hv9, h⟩ := bindS h
  refine qX (some 23) (pf v8 0) 27 [(23, pf v8 0), (20, A v6), (0, A a0), (1, A a1), (5, I x2)] [] (fun Γ' hΓ => CoreE.of_y (idxV_sound τ_ok (by kernel_rfl) hv9)) trivial ?_
  refine qv [] trivial 1 27 [(24, A v8), (20, A v6), (0, A a0), (1, A a1), (5, I x2)] [] ?_
  obtain ⟨v10, hv11, h⟩ := bindS h
  refine qX (some 25) (B v10) 27 [(25, B v10), (0, A a0), (1, A a1), (5, I x2)] [] (fun Γ' hΓ => CoreE.of_g (callV_sound (τ := τ) (by kernel_rfl) rfl (ok_laws_sameRow hv11) (FzTo.frz rfl))) trivial ?_
  refine qvn [] trivial 1 27 [(0, A a0), (1, A a1), (5, I x2), (26, B ((!v10)))] [] ?_
  refine pc h (fun h => ?_) (fun h => ?_)
  refine srve 27 [(4, B false)] [] ?_
  cases h
  exact pwp_ret rz
  refine pwp_skip ?_
  refine rve 27 [(0, A a0), (1, A a1), (5, I ((w64 (x2 + 1))))] [] ?_
  exact ⟨(f3, (w64 (x2 + 1))), h, Nat.lt_succ_self _, it [0, 1, 5]⟩
  refine pwp_exit ?_
  refine srve 27 [(4, B true)] [] ?_
  cases h
  exact pwp_ret rz
def impl_RowMany_l0 (a0 : List (List T_impl_Value)) (a1 : List T_impl_Value) : Nat → Int → Int → Option Int
  | 0, _, _ => none
  | f3 + 1, x1, x2 => bif (decide (x2 < ((a0.length : Int)))) then (getI a0 x2).bind fun v6 => (slices_Equal_impl_Value_impl_Value v6 a1).bind fun v8 => bif v8 then (impl_RowMany_l0 a0 a1 f3) ((w64 (x1 + 1))) ((w64 (x2 + 1))) else (impl_RowMany_l0 a0 a1 f3) x1 ((w64 (x2 + 1))) else some x1
def impl_RowMany (a0 : List (List T_impl_Value)) (a1 : List T_impl_Value) : Option Int := impl_RowMany_l0 a0 a1 FUEL 0 0
theorem ok_impl_RowMany {a0 : List (List T_impl_Value)} {a1 : List T_impl_Value} {y : Int} (h : impl_RowMany a0 a1 = some y) : OK Tryz.prog 29 [A a0, A a1] (I y) := by
  refine ow Tryz.func29 fun Γ hX => ?_
  unfold impl_RowMany at h
  refine srve 21 [(0, A a0), (1, A a1)] [] ?_
  refine srve 21 [(0, A a0), (1, A a1), (5, I 0)] [] ?_
  refine pwp_seq ?_
  refine srve 21 [(1, A a1), (5, I 0), (8, A a0), (9, I ((a0.length : Int))), (10, I 0)] [] ?_
  refine pwp_block ?_
  refine pwp_loop (ι := Nat × Int × Int) (fun (f3, x1, x2) => (⟨21, [(1, A a1), (5, I x1), (8, A a0), (9, I ((a0.length : Int))), (10, I x2)], []⟩ : St)) (fun (f3, x1, x2) => impl_RowMany_l0 a0 a1 f3 x1 x2 = some y) Prod.fst (FUEL, 0, 0) h (it [1, 5, 8, 9, 10]) ?_
  rintro ⟨f3, x1, x2⟩ h
  dsimp only at h ⊢
  rcases f3 with _ | f3
  cases h
  rw [impl_RowMany_l0] at h
  refine srve 21 [(1, A a1), (5, I x1), (8, A a0), (9, I ((a0.length : Int))), (10, I x2), (11, B ((decide (x2 < ((a0.length : Int))))))] [] ?_
  refine pwp_seq ?_
  refine pc h (fun h => ?_) (fun h => ?_)
  refine pwp_skip ?_
  refine pwp_seq ?_
  refine pwp_block ?_
  refine pwp_seq ?_
  refine pwp_region ?_
  obtain ⟨v6, hv7, h⟩ := bindS h
  refine opsP_idx τ_ok 12 hv7 (by kernel_rfl) ?_
  refine ve 2 21 [(1, A a1), (5, I x1), (7, A v6), (8, A a0), (9, I ((a0.length : Int))), (10, I x2)] [] ?_
  refine srv 2 21 [(1, A a1), (5, I x1), (8, A a0), (9, I ((a0.length : Int))), (10, I x2), (14, A v6), (15, A a1)] [] ?_
  obtain ⟨v8, hv9, h⟩ := bindS h
  refine cF 16 (ok_slices_Equal_impl_Value_impl_Value hv9) ?_
  refine ve 0 21 [(1, A a1), (5, I x1), (8, A a0), (9, I ((a0.length : Int))), (10, I x2), (16, B v8)] [] ?_
  refine pc h (fun h => ?_) (fun h => ?_)
  refine rve 21 [(1, A a1), (5, I ((w64 (x1 + 1)))), (8, A a0), (9, I ((a0.length : Int))), (10, I x2)] [] ?_
  refine rve 21 [(1, A a1), (5, I ((w64 (x1 + 1)))), (8, A a0), (9, I ((a0.length : Int))), (10, I ((w64 (x2 + 1))))] [] ?_
  exact ⟨(f3, (w64 (x1 + 1)), (w64 (x2 + 1))), h, Nat.lt_succ_self _, it [1, 5, 8, 9, 10]⟩
  refine pwp_skip ?_
  refine rve 21 [(1, A a1), (5, I x1), (8, A a0), (9, I ((a0.length : Int))), (10, I ((w64 (x2 + 1))))] [] ?_
  exact ⟨(f3, x1, (w64 (x2 + 1))), h, Nat.lt_succ_self _, it [1, 5, 8, 9, 10]⟩
  refine pwp_exit ?_
  refine srve 21 [(4, I x1)] [] ?_
  cases h
  exact pwp_ret rz
def spec_l6Joined (a0 : List T_impl_Value) (a1 : List T_impl_Value) : Option (List T_impl_Value) := (spec_l3Own a0).bind fun v1 => (app v1 a1).bind fun v3 => some v3
theorem ok_spec_l6Joined {a0 : List T_impl_Value} {a1 : List T_impl_Value} {y : List T_impl_Value} (h : spec_l6Joined a0 a1 = some y) : OK Tryz.prog 65 [A a0, A a1] (O y) := by
  refine ow Tryz.func65 fun Γ hX => ?_
  unfold spec_l6Joined at h
  refine srve 9 [(0, A a0), (1, A a1)] [] ?_
  refine srv 1 9 [(1, A a1), (5, A a0)] [] ?_
  obtain ⟨v1, hv2, h⟩ := bindS h
  refine opsP_callO τ 6 (ok_spec_l3Own hv2) rfl (by kernel_rfl) ?_
  refine v 1 9 [(6, rf 0 0 3 v1), (7, A a1)] [sl 0 v1] ?_
  obtain ⟨v3, hv4, h⟩ := bindS h
  refine opsP_app τ_ok 8 0 0 (nx hX) hv4 (by kernel_rfl) ?_
  refine ve 1 9 [(4, rf 0 1 3 v3)] [sl 1 v3] ?_
  have h := si h
  subst h
  exact pwp_ret (rt (rf 0 1 3 v3) (OutP.list (v := 1) (by kernel_rfl)))
def slices_ContainsFunc_impl_Value_impl_Value_s3 (a0 : List (List T_impl_Value)) (a1 : (List T_impl_Value) → Option Bool) : Option Bool := (slices_IndexFunc_impl_Value_impl_Value_s3 a0 a1).bind fun v1 => some ((decide (v1 ≥ 0)))
theorem ok_slices_ContainsFunc_impl_Value_impl_Value_s3 {a0 : List (List T_impl_Value)} {g1 : FuncId} {c1 : List V} (hz1 : frzL c1 = true) {a1 : (List T_impl_Value) → Option Bool} (hp1 : ∀ x0 y, a1 x0 = some y → OK Tryz.prog g1 ([A x0] ++ c1) (B y)) {y : Bool} (h : slices_ContainsFunc_impl_Value_impl_Value_s3 a0 a1 = some y) : OK Tryz.prog 66 [A a0, .fn g1 c1] (B y) := by
  refine ow Tryz.func66 fun Γ hX => ?_
  unfold slices_ContainsFunc_impl_Value_impl_Value_s3 at h
  refine srve 9 [(0, A a0), (1, .fn g1 c1)] [] ?_
  refine srv 2 9 [(5, A a0), (6, .fn g1 c1)] [] ?_
  obtain ⟨v1, hv2, h⟩ := bindS h
  refine opsP_callF τ 7 (ok_slices_IndexFunc_impl_Value_impl_Value_s3 (hz1) (hp1) hv2) (FzTo.frz rfl) (by simp only [frzL, frz, hz1, Bool.and_true]) (by kernel_rfl) ?_
  refine ve 2 9 [(4, B ((decide (v1 ≥ 0))))] [] ?_
  cases h
  exact pwp_ret rz
def impl_rowsHas (a0 : List (List T_impl_Value)) (a1 : List T_impl_Value) : Option Bool := (impl_RowMany a0 a1).bind fun v1 => some ((decide (v1 > 0)))
theorem ok_impl_rowsHas {a0 : List (List T_impl_Value)} {a1 : List T_impl_Value} {y : Bool} (h : impl_rowsHas a0 a1 = some y) : OK Tryz.prog 90 [A a0, A a1] (B y) := by
  refine ow Tryz.func90 fun Γ hX => ?_
  unfold impl_rowsHas at h
  refine srve 9 [(0, A a0), (1, A a1)] [] ?_
  refine srv 2 9 [(5, A a0), (6, A a1)] [] ?_
  obtain ⟨v1, hv2, h⟩ := bindS h
  refine cF 7 (ok_impl_RowMany hv2) ?_
  refine ve 2 9 [(4, B ((decide (v1 > 0))))] [] ?_
  cases h
  exact pwp_ret rz
def slices_ContainsFunc_impl_Table_impl_Table (a0 : List T_impl_Table) (a1 : T_impl_Table → Option Bool) : Option Bool := (slices_IndexFunc_impl_Table_impl_Table a0 a1).bind fun v1 => some ((decide (v1 ≥ 0)))
theorem ok_slices_ContainsFunc_impl_Table_impl_Table {a0 : List T_impl_Table} {g1 : FuncId} {c1 : List V} (hz1 : frzL c1 = true) {a1 : T_impl_Table → Option Bool} (hp1 : ∀ x0 y, a1 x0 = some y → OK Tryz.prog g1 ([E x0] ++ c1) (B y)) {y : Bool} (h : slices_ContainsFunc_impl_Table_impl_Table a0 a1 = some y) : OK Tryz.prog 111 [A a0, .fn g1 c1] (B y) := by
  refine ow Tryz.func111 fun Γ hX => ?_
  unfold slices_ContainsFunc_impl_Table_impl_Table at h
  refine srve 9 [(0, A a0), (1, .fn g1 c1)] [] ?_
  refine srv 2 9 [(5, A a0), (6, .fn g1 c1)] [] ?_
  obtain ⟨v1, hv2, h⟩ := bindS h
  refine opsP_callF τ 7 (ok_slices_IndexFunc_impl_Table_impl_Table (hz1) (hp1) hv2) (FzTo.frz rfl) (by simp only [frzL, frz, hz1, Bool.and_true]) (by kernel_rfl) ?_
  refine ve 2 9 [(4, B ((decide (v1 ≥ 0))))] [] ?_
  cases h
  exact pwp_ret rz
def slices_ContainsFunc_impl_Column_impl_Column (a0 : List T_impl_Column) (a1 : T_impl_Column → Option Bool) : Option Bool := (slices_IndexFunc_impl_Column_impl_Column a0 a1).bind fun v1 => some ((decide (v1 ≥ 0)))
theorem ok_slices_ContainsFunc_impl_Column_impl_Column {a0 : List T_impl_Column} {g1 : FuncId} {c1 : List V} (hz1 : frzL c1 = true) {a1 : T_impl_Column → Option Bool} (hp1 : ∀ x0 y, a1 x0 = some y → OK Tryz.prog g1 ([E x0] ++ c1) (B y)) {y : Bool} (h : slices_ContainsFunc_impl_Column_impl_Column a0 a1 = some y) : OK Tryz.prog 126 [A a0, .fn g1 c1] (B y) := by
  refine ow Tryz.func126 fun Γ hX => ?_
  unfold slices_ContainsFunc_impl_Column_impl_Column at h
  refine srve 9 [(0, A a0), (1, .fn g1 c1)] [] ?_
  refine srv 2 9 [(5, A a0), (6, .fn g1 c1)] [] ?_
  obtain ⟨v1, hv2, h⟩ := bindS h
  refine opsP_callF τ 7 (ok_slices_IndexFunc_impl_Column_impl_Column (hz1) (hp1) hv2) (FzTo.frz rfl) (by simp only [frzL, frz, hz1, Bool.and_true]) (by kernel_rfl) ?_
  refine ve 2 9 [(4, B ((decide (v1 ≥ 0))))] [] ?_
  cases h
  exact pwp_ret rz
def spec_l20Columns_l0 (a1 : Int) : Nat → Int → T_spec_l20Rd → (List T_impl_Column) → Option ((List T_impl_Column) × T_spec_l20Rd)
  | 0, _, _, _ => none
  | f8 + 1, x5, x6, x7 => bif (decide (x5 > 0)) then (spec_l20Rd_pick x6 4).bind fun v11 => (getI (([1, 1, 2, 3] : List Int)) v11.1).bind fun v13 => (spec_l20Rd_pick v11.2 3).bind fun v15 => (app x7 (([(T_impl_Column.mk v13 ((decide (v15.1 > 0))))] : List T_impl_Column))).bind fun v17 => (spec_l20Columns_l0 a1 f8) ((w64 (x5 - 1))) v15.2 v17 else (spec_l20Rd_odd x6 a1).bind fun v19 => bif v19.1 then (spec_l20Rd_pick v19.2 6).bind fun v22 => (app x7 (([(T_impl_Column.mk ((w64 (v22.1 - 1))) false), (T_impl_Column.mk 1 false), (T_impl_Column.mk 1 false)] : List T_impl_Column))).bind fun v24 => some (v24, v22.2) else some (x7, v19.2)
def spec_l20Columns (a0 : T_spec_l20Rd) (a1 : Int) : Option ((List T_impl_Column) × T_spec_l20Rd) := (spec_l20Rd_pick a0 3).bind fun v1 => spec_l20Columns_l0 a1 FUEL ((w64 (1 + v1.1))) v1.2 (([] : List T_impl_Column))
theorem ok_spec_l20Columns {a0 : T_spec_l20Rd} {a1 : Int} {y : (List T_impl_Column) × T_spec_l20Rd} (h : spec_l20Columns a0 a1 = some y) : OKb Tryz.prog 128 (Enc.cells a0) [I a1] (O y.1) (Enc.cells y.2) := by
  refine OKb_of_pwp τ_ok Tryz.func128 rfl (by kernel_rfl) rfl (Enc.frz _) (Enc.frz _) fun Γ hQ => ?_
  unfold spec_l20Columns at h
  refine srve 40 [(0, .ptr 0 0 0), (1, I a1)] [sc 0 a0] ?_
  refine srve 40 [(0, .ptr 0 0 0), (1, I a1), (5, .arr 2 0 (eL ([] : List T_impl_Column)) true)] [sc 0 a0] ?_
  refine pwp_seq ?_
  refine srv 1 40 [(0, .ptr 0 0 0), (1, I a1), (5, .arr 2 0 (eL ([] : List T_impl_Column)) true), (8, .ptr 0 0 0)] [sc 0 a0] ?_
  obtain ⟨v1, hv2, h⟩ := bindS h
  refine cB 9 0 0 (ok_spec_l20Rd_pick hv2) ?_
  refine ve 2 40 [(0, .ptr 0 0 0), (1, I a1), (5, .arr 2 0 (eL ([] : List T_impl_Column)) true), (6, I ((w64 (1 + v1.1))))] [sc 0 v1.2] ?_
  refine pwp_block ?_
  refine pwp_loop (ι := Nat × Int × T_spec_l20Rd × (List T_impl_Column)) (fun (f8, x5, x6, x7) => (⟨40, [(0, .ptr 0 0 0), (1, I a1), (5, rf 1 0 2 x7), (6, I x5)], [sc 0 x6, sl 0 x7]⟩ : St)) (fun (f8, x5, x6, x7) => spec_l20Columns_l0 a1 f8 x5 x6 x7 = some y) Prod.fst (FUEL, (w64 (1 + v1.1)), v1.2, ([] : List T_impl_Column)) h (Imp.thawS 5 [0, 1, 5, 6] (by kernel_rfl)) ?_
  rintro ⟨f8, x5, x6, x7⟩ h
  dsimp only at h ⊢
  rcases f8 with _ | f8
  cases h
  rw [spec_l20Columns_l0] at h
  refine pwp_seq ?_
  refine srve 40 [(0, .ptr 0 0 0), (1, I a1), (5, rf 1 0 2 x7), (6, I x5), (12, B ((decide (x5 > 0))))] [sc 0 x6, sl 0 x7] ?_
  refine pc h (fun h => ?_) (fun h => ?_)
  refine pwp_skip ?_
  refine pwp_seq ?_
  refine pwp_block ?_
  refine ip 40 [(0, .ptr 0 0 0), (1, I a1), (5, rf 1 0 2 x7), (6, I x5)] [sc 0 x6, sl 0 x7] ?_
  refine pwp_any ([[1], [], [], [0], [], [], [], [0], [], [], [], [1], [1]]) ([[], [], [], [0], [], [], [], [0], [], [], [], [1], []]) rfl (by kernel_rfl) ?_
  refine qv [1] (hL trivial) 1 40 [(15, rf 1 0 2 x7), (0, .ptr 0 0 0), (1, I a1), (5, rf 1 0 2 x7), (6, I x5)] [sc 0 x6, sl 0 x7] ?_
  refine qv [] trivial 1 40 [(16, .arr 1 (([1, 1, 2, 3] : List Int)).length (eL ([1, 1, 2, 3] : List Int)) true), (15, rf 1 0 2 x7), (0, .ptr 0 0 0), (1, I a1), (5, rf 1 0 2 x7), (6, I x5)] [sc 0 x6, sl 0 x7] ?_
  refine qA_mv (⟨40, [(17, .ptr 0 0 0), (16, .arr 1 (([1, 1, 2, 3] : List Int)).length (eL ([1, 1, 2, 3] : List Int)) true), (15, rf 1 0 2 x7), (0, .ptr 0 0 0), (1, I a1), (5, rf 1 0 2 x7), (6, I x5)], [sc 0 x6, sl 0 x7]⟩) (by kernel_rfl) rfl ?_
  obtain ⟨v11, hv12, h⟩ := bindS h
  refine qX (some 18) (I v11.1) 40 [(18, I v11.1), (16, .arr 1 (([1, 1, 2, 3] : List Int)).length (eL ([1, 1, 2, 3] : List Int)) true), (15, rf 1 0 2 x7), (0, .ptr 0 0 0), (1, I a1), (5, rf 1 0 2 x7), (6, I x5)] [sc 0 v11.2, sl 0 x7] (fun Γ' hΓ => callB_E τ 18 0 0 (ok_spec_l20Rd_pick hv12) (FzTo.frz rfl) rfl (by kernel_rfl)) (hB trivial) ?_
  obtain ⟨v13, hv14, h⟩ := bindS h
  refine qX (some 19) (pf v13 0) 40 [(19, pf v13 0), (15, rf 1 0 2 x7), (0, .ptr 0 0 0), (1, I a1), (5, rf 1 0 2 x7), (6, I x5)] [sc 0 v11.2, sl 0 x7] (fun Γ' hΓ => CoreE.of_y (idxV_sound τ_ok (by kernel_rfl) hv14)) trivial ?_
  refine qv [] trivial 1 40 [(20, I v13), (15, rf 1 0 2 x7), (0, .ptr 0 0 0), (1, I a1), (5, rf 1 0 2 x7), (6, I x5)] [sc 0 v11.2, sl 0 x7] ?_
  refine qA_mv (⟨40, [(21, .ptr 0 0 0), (20, I v13), (15, rf 1 0 2 x7), (0, .ptr 0 0 0), (1, I a1), (5, rf 1 0 2 x7), (6, I x5)], [sc 0 v11.2, sl 0 x7]⟩) (by kernel_rfl) rfl ?_
  obtain ⟨v15, hv16, h⟩ := bindS h
  refine qX (some 22) (I v15.1) 40 [(22, I v15.1), (20, I v13), (15, rf 1 0 2 x7), (0, .ptr 0 0 0), (1, I a1), (5, rf 1 0 2 x7), (6, I x5)] [sc 0 v15.2, sl 0 x7] (fun Γ' hΓ => callB_E τ 22 0 0 (ok_spec_l20Rd_pick hv16) (FzTo.frz rfl) rfl (by kernel_rfl)) (hB trivial) ?_
  refine qv [] trivial 3 40 [(25, .arr 2 (([(T_impl_Column.mk v13 ((decide (v15.1 > 0))))] : List T_impl_Column)).length (eL ([(T_impl_Column.mk v13 ((decide (v15.1 > 0))))] : List T_impl_Column)) true), (15, rf 1 0 2 x7), (0, .ptr 0 0 0), (1, I a1), (5, rf 1 0 2 x7), (6, I x5)] [sc 0 v15.2, sl 0 x7] ?_
  obtain ⟨v17, hv18, h⟩ := bindS h
  refine qX (some 26) (rf 1 1 2 v17) 40 [(26, rf 1 1 2 v17), (0, .ptr 0 0 0), (1, I a1), (5, rf 1 0 2 x7), (6, I x5)] [sc 0 v15.2, sl 1 v17] (fun Γ' hΓ => app_Ew τ_ok 26 1 0 (by first | exact py hΓ hQ | exact pky hΓ hQ) hv18 (by kernel_rfl)) (hL trivial) ?_
  refine qvn [1] (hL trivial) 1 40 [(0, .ptr 0 0 0), (1, I a1), (5, rf 1 1 2 v17), (6, I x5)] [sc 0 v15.2, sl 1 v17] ?_
  refine rve 40 [(0, .ptr 0 0 0), (1, I a1), (5, rf 1 1 2 v17), (6, I ((w64 (x5 - 1))))] [sc 0 v15.2, sl 1 v17] ?_
  exact ⟨(f8, (w64 (x5 - 1)), v15.2, v17), h, Nat.lt_succ_self _, (it (st' := ⟨40, [(0, .ptr 0 0 0), (1, I a1), (5, rf 1 1 2 v17), (6, I ((w64 (x5 - 1))))], [sc 0 v15.2, sl 1 v17]⟩) [0, 1, 5, 6]).trans (Imp.reverS 1 1 (eL v17) [0, 1, 5, 6] (by kernel_rfl) (by exact (And.intro (rfl) (And.intro (eL_frz _) trivial))) (by kernel_rfl))⟩
  refine pwp_exit ?_
  refine pwp_seq ?_
  refine srv 2 40 [(0, .ptr 0 0 0), (5, rf 1 0 2 x7), (27, .ptr 0 0 0), (28, I a1)] [sc 0 x6, sl 0 x7] ?_
  obtain ⟨v19, hv20, h⟩ := bindS h
  refine cB 29 0 0 (ok_spec_l20Rd_odd hv20) ?_
  refine ve 0 40 [(0, .ptr 0 0 0), (5, rf 1 0 2 x7), (29, B v19.1)] [sc 0 v19.2, sl 0 x7] ?_
  refine pc h (fun h => ?_) (fun h => ?_)
  refine rv 2 40 [(30, rf 1 0 2 x7), (31, .ptr 0 0 0)] [sc 0 v19.2, sl 0 x7] ?_
  obtain ⟨v22, hv23, h⟩ := bindS h
  refine cB 32 0 0 (ok_spec_l20Rd_pick hv23) ?_
  refine v 5 40 [(30, rf 1 0 2 x7), (37, .arr 2 (([(T_impl_Column.mk ((w64 (v22.1 - 1))) false), (T_impl_Column.mk 1 false), (T_impl_Column.mk 1 false)] : List T_impl_Column)).length (eL ([(T_impl_Column.mk ((w64 (v22.1 - 1))) false), (T_impl_Column.mk 1 false), (T_impl_Column.mk 1 false)] : List T_impl_Column)) true)] [sc 0 v22.2, sl 0 x7] ?_
  obtain ⟨v24, hv25, h⟩ := bindS h
  refine opsP_app τ_ok 38 1 0 (pn hQ) hv25 (by kernel_rfl) ?_
  refine ve 1 40 [(5, rf 1 1 2 v24)] [sc 0 v22.2, sl 1 v24] ?_
  refine srve 40 [(4, rf 1 1 2 v24)] [sc 0 v22.2, sl 1 v24] ?_
  have h := si h
  subst h
  exact pwp_ret ⟨.inr rfl, rf 1 1 2 v24, _, 0, by kernel_rfl, (OutP.list (v := 1) (by kernel_rfl)), by decide, by decide, by kernel_rfl⟩
  refine pwp_skip ?_
  refine srve 40 [(4, rf 1 0 2 x7)] [sc 0 v19.2, sl 0 x7] ?_
  have h := si h
  subst h
  exact pwp_ret ⟨.inr rfl, rf 1 0 2 x7, _, 0, by kernel_rfl, (OutP.list (v := 0) (by kernel_rfl)), by decide, by decide, by kernel_rfl⟩
def impl_Value_ok (a0 : T_impl_Value) : Option Bool := bif (a0.fKind == 0) then some ((eq_T_impl_Value a0 ((T_impl_Value.mk 0 0 (ByteArray.mk #[]))))) else bif (a0.fKind == 1) then bif (a0.fS.toList == ((ByteArray.mk #[])).toList) then (impl_between a0.fN (-9999) 9999).bind fun v3 => some v3 else some false else bif (a0.fKind == 2) then bif (a0.fN == 0) then bif (decide (((a0.fS.size : Int)) ≤ 6)) then (impl_letters a0.fS).bind fun v7 => some v7 else some false else some false else bif (a0.fKind == 3) then bif (a0.fS.toList == ((ByteArray.mk #[])).toList) then (impl_between a0.fN 0 1).bind fun v12 => some v12 else some false else some false
theorem ok_impl_Value_ok {a0 : T_impl_Value} {y : Bool} (h : impl_Value_ok a0 = some y) : OK Tryz.prog 136 [E a0] (B y) := by
  refine ow Tryz.func136 fun Γ hX => ?_
  unfold impl_Value_ok at h
  refine srve 46 [(1, pf a0 0)] [] ?_
  refine pwp_seq ?_
  refine srve 46 [(1, pf a0 0), (4, I a0.fKind)] [] ?_
  refine pwp_block ?_
  refine srve 46 [(1, pf a0 0), (4, I a0.fKind), (5, B ((a0.fKind == 0)))] [] ?_
  refine pc h (fun h => ?_) (fun h => ?_)
  refine srve 46 [(2, B ((eq_T_impl_Value a0 ((T_impl_Value.mk 0 0 (ByteArray.mk #[]))))))] [] ?_
  cases h
  exact pwp_ret rz
  refine srve 46 [(1, pf a0 0), (4, I a0.fKind), (10, B ((a0.fKind == 1)))] [] ?_
  refine pc h (fun h => ?_) (fun h => ?_)
  refine srv 4 46 [(1, pf a0 0), (15, B ((a0.fS.toList == ((ByteArray.mk #[])).toList)))] [] ?_
  rcases fk ((a0.fS.toList == ((ByteArray.mk #[])).toList)) with hc5 | hc5
  replace h := bT hc5 h
  rw [hc5]
  refine v 2 46 [(15, B true), (17, I a0.fN)] [] ?_
  obtain ⟨v3, hv4, h⟩ := bindS h
  refine cF 18 (ok_impl_between hv4) ?_
  refine ve 2 46 [(2, B v3)] [] ?_
  cases h
  exact pwp_ret rz
  replace h := bF hc5 h
  rw [hc5]
  refine ve 5 46 [(2, B false)] [] ?_
  cases h
  exact pwp_ret rz
  refine srve 46 [(1, pf a0 0), (4, I a0.fKind), (20, B ((a0.fKind == 2)))] [] ?_
  refine pc h (fun h => ?_) (fun h => ?_)
  refine srv 4 46 [(1, pf a0 0), (25, B ((a0.fN == 0)))] [] ?_
  rcases fk ((a0.fN == 0)) with hc10 | hc10
  replace h := bT hc10 h
  rw [hc10]
  refine v 6 46 [(1, pf a0 0), (31, B ((decide (((a0.fS.size : Int)) ≤ 6))))] [] ?_
  rcases fk ((decide (((a0.fS.size : Int)) ≤ 6))) with hc9 | hc9
  replace h := bT hc9 h
  rw [hc9]
  refine v 2 46 [(31, B true), (33, S a0.fS)] [] ?_
  obtain ⟨v7, hv8, h⟩ := bindS h
  refine cF 34 (ok_impl_letters hv8) ?_
  refine ve 2 46 [(2, B v7)] [] ?_
  cases h
  exact pwp_ret rz
  replace h := bF hc9 h
  rw [hc9]
  refine ve 5 46 [(2, B false)] [] ?_
  cases h
  exact pwp_ret rz
  replace h := bF hc10 h
  rw [hc10]
  refine ve 11 46 [(2, B false)] [] ?_
  cases h
  exact pwp_ret rz
  refine srve 46 [(1, pf a0 0), (36, B ((a0.fKind == 3)))] [] ?_
  refine pc h (fun h => ?_) (fun h => ?_)
  refine srv 4 46 [(1, pf a0 0), (41, B ((a0.fS.toList == ((ByteArray.mk #[])).toList)))] [] ?_
  rcases fk ((a0.fS.toList == ((ByteArray.mk #[])).toList)) with hc14 | hc14
  replace h := bT hc14 h
  rw [hc14]
  refine v 2 46 [(41, B true), (43, I a0.fN)] [] ?_
  obtain ⟨v12, hv13, h⟩ := bindS h
  refine cF 44 (ok_impl_between hv13) ?_
  refine ve 2 46 [(2, B v12)] [] ?_
  cases h
  exact pwp_ret rz
  replace h := bF hc14 h
  rw [hc14]
  refine ve 5 46 [(2, B false)] [] ?_
  cases h
  exact pwp_ret rz
  refine pwp_skip ?_
  refine srve 46 [(2, B false)] [] ?_
  cases h
  exact pwp_ret rz
def slices_ContainsFunc_int_int (a0 : List Int) (a1 : Int → Option Bool) : Option Bool := (slices_IndexFunc_int_int a0 a1).bind fun v1 => some ((decide (v1 ≥ 0)))
theorem ok_slices_ContainsFunc_int_int {a0 : List Int} {g1 : FuncId} {c1 : List V} (hz1 : frzL c1 = true) {a1 : Int → Option Bool} (hp1 : ∀ x0 y, a1 x0 = some y → OK Tryz.prog g1 ([I x0] ++ c1) (B y)) {y : Bool} (h : slices_ContainsFunc_int_int a0 a1 = some y) : OK Tryz.prog 140 [A a0, .fn g1 c1] (B y) := by
  refine ow Tryz.func140 fun Γ hX => ?_
  unfold slices_ContainsFunc_int_int at h
  refine srve 9 [(0, A a0), (1, .fn g1 c1)] [] ?_
  refine srv 2 9 [(5, A a0), (6, .fn g1 c1)] [] ?_
  obtain ⟨v1, hv2, h⟩ := bindS h
  refine opsP_callF τ 7 (ok_slices_IndexFunc_int_int (hz1) (hp1) hv2) (FzTo.frz rfl) (by simp only [frzL, frz, hz1, Bool.and_true]) (by kernel_rfl) ?_
  refine ve 2 9 [(4, B ((decide (v1 ≥ 0))))] [] ?_
  cases h
  exact pwp_ret rz
def impl_clone_impl_Value (a0 : List T_impl_Value) : Option (List T_impl_Value) := bif (((a0.length : Int)) == 0) then some (([] : List T_impl_Value)) else (app [] a0).bind fun v2 => (slices_Clip_impl_Value_impl_Value v2).bind fun v4 => some v4
theorem ok_impl_clone_impl_Value {a0 : List T_impl_Value} {y : List T_impl_Value} (h : impl_clone_impl_Value a0 = some y) : OK Tryz.prog 145 [A a0] (A y) := by
  refine ow Tryz.func145 fun Γ hX => ?_
  unfold impl_clone_impl_Value at h
  refine srve 9 [(0, A a0)] [] ?_
  refine pwp_seq ?_
  refine srve 9 [(0, A a0), (5, B ((((a0.length : Int)) == 0)))] [] ?_
  refine pc h (fun h => ?_) (fun h => ?_)
  refine srve 9 [(2, .arr 3 0 (eL ([] : List T_impl_Value)) true)] [] ?_
  refine ip 9 [(2, .arr 3 0 (eL ([] : List T_impl_Value)) true)] [] ?_
  refine pwp_imp (Imp.unfS (st' := ⟨9, [(2, A (([] : List T_impl_Value)))], []⟩) 2 [2] (by kernel_rfl)) ?_
  cases h
  exact pwp_ret rz
  refine pwp_skip ?_
  refine srv 1 9 [(6, A a0)] [] ?_
  obtain ⟨v2, hv3, h⟩ := bindS h
  refine opsP_apn τ_ok 7 0 (nx hX) hv3 (by kernel_rfl) ?_
  refine v 0 9 [(7, rf 0 1 3 v2)] [sl 1 v2] ?_
  refine opsP_imp ((Imp.freezeB (v := 1) (cs := eL v2) (st' := ⟨9, [(7, A v2)], [none]⟩) 0 1 (nx hX) (by kernel_rfl) (eL_frz _) (wholeC (whole_is (eL_len v2).symm) wholeC0) (HpRel.key HpRel.nil) (by kernel_rfl) rfl (nx hX))) ?_
  obtain ⟨v4, hv5, h⟩ := bindS h
  refine cF 8 (ok_slices_Clip_impl_Value_impl_Value hv5) ?_
  refine ve 1 9 [(2, A v4)] [none] ?_
  cases h
  exact pwp_ret rz
def spec_l20Fit_l0 (a1 : List T_impl_Column) (a2 : Int) : Nat → Int → T_spec_l20Rd → (List T_impl_Value) → Option ((List T_impl_Value) × T_spec_l20Rd)
  | 0, _, _, _ => none
  | f6 + 1, x3, x4, x5 => bif (decide (x3 < ((a1.length : Int)))) then (getI a1 x3).bind fun v9 => (spec_l20Like x4 v9).bind fun v11 => (app x5 (([v11.1] : List T_impl_Value))).bind fun v13 => (spec_l20Fit_l0 a1 a2 f6) ((w64 (x3 + 1))) v11.2 v13 else (spec_l20Rd_odd x4 a2).bind fun v15 => bif v15.1 then (spec_l20Rd_pick v15.2 3).bind fun v18 => bif (v18.1 == 0) then (app x5 (([(T_impl_Value.mk 0 0 (ByteArray.mk #[]))] : List T_impl_Value))).bind fun v21 => some (v21, v18.2) else bif (v18.1 == 1) then bif (decide (((x5.length : Int)) > 0)) then (spec_l20Rd_pick v18.2 ((x5.length : Int))).bind fun v25 => (spec_l20Value v25.2 3).bind fun v27 => (getI x5 v25.1).bind fun v29 => some (((x5.set v25.1.toNat v27.1)), v27.2) else some (x5, v18.2) else (spec_l20Value v18.2 0).bind fun v31 => (spec_l20Value v31.2 0).bind fun v33 => (spec_l20Value v33.2 0).bind fun v35 => (app x5 (([v31.1, v33.1, v35.1] : List T_impl_Value))).bind fun v37 => some (v37, v35.2) else some (x5, v15.2)
def spec_l20Fit (a0 : T_spec_l20Rd) (a1 : List T_impl_Column) (a2 : Int) : Option ((List T_impl_Value) × T_spec_l20Rd) := spec_l20Fit_l0 a1 a2 FUEL 0 a0 (([] : List T_impl_Value))
theorem ok_spec_l20Fit {a0 : T_spec_l20Rd} {a1 : List T_impl_Column} {a2 : Int} {y : (List T_impl_Value) × T_spec_l20Rd} (h : spec_l20Fit a0 a1 a2 = some y) : OKb Tryz.prog 149 (Enc.cells a0) [A a1, I a2] (O y.1) (Enc.cells y.2) := by
  refine OKb_of_pwp τ_ok Tryz.func149 rfl (by kernel_rfl) rfl (Enc.frz _) (Enc.frz _) fun Γ hQ => ?_
  unfold spec_l20Fit at h
  refine srve 59 [(0, .ptr 0 0 0), (1, A a1), (2, I a2)] [sc 0 a0] ?_
  refine srve 59 [(0, .ptr 0 0 0), (1, A a1), (2, I a2), (7, .arr 3 0 (eL ([] : List T_impl_Value)) true)] [sc 0 a0] ?_
  refine pwp_seq ?_
  refine srve 59 [(0, .ptr 0 0 0), (1, A a1), (2, I a2), (7, .arr 3 0 (eL ([] : List T_impl_Value)) true), (8, I 0)] [sc 0 a0] ?_
  refine pwp_block ?_
  refine pwp_loop (ι := Nat × Int × T_spec_l20Rd × (List T_impl_Value)) (fun (f6, x3, x4, x5) => (⟨59, [(0, .ptr 0 0 0), (1, A a1), (2, I a2), (7, rf 1 0 3 x5), (8, I x3)], [sc 0 x4, sl 0 x5]⟩ : St)) (fun (f6, x3, x4, x5) => spec_l20Fit_l0 a1 a2 f6 x3 x4 x5 = some y) Prod.fst (FUEL, 0, a0, ([] : List T_impl_Value)) h (Imp.thawS 7 [0, 1, 2, 7, 8] (by kernel_rfl)) ?_
  rintro ⟨f6, x3, x4, x5⟩ h
  dsimp only at h ⊢
  rcases f6 with _ | f6
  cases h
  rw [spec_l20Fit_l0] at h
  refine pwp_seq ?_
  refine srve 59 [(0, .ptr 0 0 0), (1, A a1), (2, I a2), (7, rf 1 0 3 x5), (8, I x3), (13, B ((decide (x3 < ((a1.length : Int))))))] [sc 0 x4, sl 0 x5] ?_
  refine pc h (fun h => ?_) (fun h => ?_)
  refine pwp_skip ?_
  refine pwp_seq ?_
  refine pwp_block ?_
  refine rv 4 59 [(0, .ptr 0 0 0), (1, A a1), (2, I a2), (8, I x3), (16, rf 1 0 3 x5), (17, .ptr 0 0 0), (18, A a1), (19, I x3)] [sc 0 x4, sl 0 x5] ?_
  obtain ⟨v9, hv10, h⟩ := bindS h
  refine opsP_idx τ_ok 20 hv10 (by kernel_rfl) ?_
  refine v 1 59 [(0, .ptr 0 0 0), (1, A a1), (2, I a2), (8, I x3), (16, rf 1 0 3 x5), (17, .ptr 0 0 0), (21, E v9)] [sc 0 x4, sl 0 x5] ?_
  obtain ⟨v11, hv12, h⟩ := bindS h
  refine cB 22 0 0 (ok_spec_l20Like hv12) ?_
  refine v 1 59 [(0, .ptr 0 0 0), (1, A a1), (2, I a2), (8, I x3), (16, rf 1 0 3 x5), (23, .arr 3 (([v11.1] : List T_impl_Value)).length (eL ([v11.1] : List T_impl_Value)) true)] [sc 0 v11.2, sl 0 x5] ?_
  obtain ⟨v13, hv14, h⟩ := bindS h
  refine opsP_app τ_ok 24 1 0 (pn hQ) hv14 (by kernel_rfl) ?_
  refine ve 1 59 [(0, .ptr 0 0 0), (1, A a1), (2, I a2), (7, rf 1 1 3 v13), (8, I x3)] [sc 0 v11.2, sl 1 v13] ?_
  refine rve 59 [(0, .ptr 0 0 0), (1, A a1), (2, I a2), (7, rf 1 1 3 v13), (8, I ((w64 (x3 + 1))))] [sc 0 v11.2, sl 1 v13] ?_
  exact ⟨(f6, (w64 (x3 + 1)), v11.2, v13), h, Nat.lt_succ_self _, (it (st' := ⟨59, [(0, .ptr 0 0 0), (1, A a1), (2, I a2), (7, rf 1 1 3 v13), (8, I ((w64 (x3 + 1))))], [sc 0 v11.2, sl 1 v13]⟩) [0, 1, 2, 7, 8]).trans (Imp.reverS 1 1 (eL v13) [0, 1, 2, 7, 8] (by kernel_rfl) (by exact (And.intro (rfl) (And.intro (eL_frz _) trivial))) (by kernel_rfl))⟩
  refine pwp_exit ?_
  refine pwp_seq ?_
  refine srv 2 59 [(0, .ptr 0 0 0), (7, rf 1 0 3 x5), (25, .ptr 0 0 0), (26, I a2)] [sc 0 x4, sl 0 x5] ?_
  obtain ⟨v15, hv16, h⟩ := bindS h
  refine cB 27 0 0 (ok_spec_l20Rd_odd hv16) ?_
  refine ve 0 59 [(0, .ptr 0 0 0), (7, rf 1 0 3 x5), (27, B v15.1)] [sc 0 v15.2, sl 0 x5] ?_
  refine pc h (fun h => ?_) (fun h => ?_)
  refine srv 1 59 [(0, .ptr 0 0 0), (7, rf 1 0 3 x5), (28, .ptr 0 0 0)] [sc 0 v15.2, sl 0 x5] ?_
  obtain ⟨v18, hv19, h⟩ := bindS h
  refine cB 29 0 0 (ok_spec_l20Rd_pick hv19) ?_
  refine ve 0 59 [(0, .ptr 0 0 0), (7, rf 1 0 3 x5), (29, I v18.1)] [sc 0 v18.2, sl 0 x5] ?_
  refine pwp_block ?_
  refine srve 59 [(0, .ptr 0 0 0), (7, rf 1 0 3 x5), (29, I v18.1), (39, B ((v18.1 == 0)))] [sc 0 v18.2, sl 0 x5] ?_
  refine pc h (fun h => ?_) (fun h => ?_)
  refine rv 3 59 [(41, rf 1 0 3 x5), (43, .arr 3 (([(T_impl_Value.mk 0 0 (ByteArray.mk #[]))] : List T_impl_Value)).length (eL ([(T_impl_Value.mk 0 0 (ByteArray.mk #[]))] : List T_impl_Value)) true)] [sc 0 v18.2, sl 0 x5] ?_
  obtain ⟨v21, hv22, h⟩ := bindS h
  refine opsP_app τ_ok 44 1 0 (pn hQ) hv22 (by kernel_rfl) ?_
  refine ve 1 59 [(7, rf 1 1 3 v21)] [sc 0 v18.2, sl 1 v21] ?_
  refine srve 59 [(6, rf 1 1 3 v21)] [sc 0 v18.2, sl 1 v21] ?_
  have h := si h
  subst h
  exact pwp_ret ⟨.inr rfl, rf 1 1 3 v21, _, 0, by kernel_rfl, (OutP.list (v := 1) (by kernel_rfl)), by decide, by decide, by kernel_rfl⟩
  refine srve 59 [(0, .ptr 0 0 0), (7, rf 1 0 3 x5), (45, B ((v18.1 == 1)))] [sc 0 v18.2, sl 0 x5] ?_
  refine pc h (fun h => ?_) (fun h => ?_)
  refine srve 59 [(0, .ptr 0 0 0), (7, rf 1 0 3 x5), (49, B ((decide (((x5.length : Int)) > 0))))] [sc 0 v18.2, sl 0 x5] ?_
  refine pc h (fun h => ?_) (fun h => ?_)
  refine rv 4 59 [(0, .ptr 0 0 0), (7, rf 1 0 3 x5), (50, rf 1 0 3 x5), (51, .ptr 0 0 0), (53, I ((x5.length : Int)))] [sc 0 v18.2, sl 0 x5] ?_
  obtain ⟨v25, hv26, h⟩ := bindS h
  refine cB 54 0 0 (ok_spec_l20Rd_pick hv26) ?_
  refine v 1 59 [(7, rf 1 0 3 x5), (50, rf 1 0 3 x5), (54, I v25.1), (55, .ptr 0 0 0)] [sc 0 v25.2, sl 0 x5] ?_
  obtain ⟨v27, hv28, h⟩ := bindS h
  refine cB 56 0 0 (ok_spec_l20Value hv28) ?_
  obtain ⟨v29, hv30, h⟩ := bindS h
  refine opsP_idr τ_ok 57 1 0 x5.length hv30 rfl (by kernel_rfl) ?_
  refine v 0 59 [(7, rf 1 0 3 x5), (56, E v27.1), (57, .ptr 1 0 (v25.1.toNat * 3))] [sc 0 v27.2, sl 0 x5] ?_
  refine opsP_ste (vs := [I v27.1.fKind, I v27.1.fN, S v27.1.fS]) τ_ok 35 1 0 0 v27.1 hv30 (by kernel_rfl) (by kernel_rfl) (by kernel_rfl) (renC (ren_ref (List.length_set ..).symm) (renC trivial (renC trivial renC0))) ?_
  refine ve 0 59 [(7, .ref 1 0 0 3 ((x5.set v25.1.toNat v27.1)).length false)] [sc 0 v27.2, some ⟨0, eL ((x5.set v25.1.toNat v27.1))⟩] ?_
  refine srve 59 [(6, .ref 1 0 0 3 ((x5.set v25.1.toNat v27.1)).length false)] [sc 0 v27.2, some ⟨0, eL ((x5.set v25.1.toNat v27.1))⟩] ?_
  have h := si h
  subst h
  exact pwp_ret ⟨.inr rfl, .ref 1 0 0 3 ((x5.set v25.1.toNat v27.1)).length false, _, 0, by kernel_rfl, (OutP.list (v := 0) (by kernel_rfl)), by decide, by decide, by kernel_rfl⟩
  refine pwp_skip ?_
  refine srve 59 [(6, rf 1 0 3 x5)] [sc 0 v18.2, sl 0 x5] ?_
  have h := si h
  subst h
  exact pwp_ret ⟨.inr rfl, rf 1 0 3 x5, _, 0, by kernel_rfl, (OutP.list (v := 0) (by kernel_rfl)), by decide, by decide, by kernel_rfl⟩
  refine rv 2 59 [(0, .ptr 0 0 0), (30, rf 1 0 3 x5), (31, .ptr 0 0 0)] [sc 0 v18.2, sl 0 x5] ?_
  obtain ⟨v31, hv32, h⟩ := bindS h
  refine cB 32 0 0 (ok_spec_l20Value hv32) ?_
  refine v 1 59 [(0, .ptr 0 0 0), (30, rf 1 0 3 x5), (32, E v31.1), (33, .ptr 0 0 0)] [sc 0 v31.2, sl 0 x5] ?_
  obtain ⟨v33, hv34, h⟩ := bindS h
  refine cB 34 0 0 (ok_spec_l20Value hv34) ?_
  refine v 1 59 [(30, rf 1 0 3 x5), (32, E v31.1), (34, E v33.1), (35, .ptr 0 0 0)] [sc 0 v33.2, sl 0 x5] ?_
  obtain ⟨v35, hv36, h⟩ := bindS h
  refine cB 36 0 0 (ok_spec_l20Value hv36) ?_
  refine v 1 59 [(30, rf 1 0 3 x5), (37, .arr 3 (([v31.1, v33.1, v35.1] : List T_impl_Value)).length (eL ([v31.1, v33.1, v35.1] : List T_impl_Value)) true)] [sc 0 v35.2, sl 0 x5] ?_
  obtain ⟨v37, hv38, h⟩ := bindS h
  refine opsP_app τ_ok 38 1 0 (pn hQ) hv38 (by kernel_rfl) ?_
  refine ve 1 59 [(7, rf 1 1 3 v37)] [sc 0 v35.2, sl 1 v37] ?_
  refine srve 59 [(6, rf 1 1 3 v37)] [sc 0 v35.2, sl 1 v37] ?_
  have h := si h
  subst h
  exact pwp_ret ⟨.inr rfl, rf 1 1 3 v37, _, 0, by kernel_rfl, (OutP.list (v := 1) (by kernel_rfl)), by decide, by decide, by kernel_rfl⟩
  refine pwp_skip ?_
  refine srve 59 [(6, rf 1 0 3 x5)] [sc 0 v15.2, sl 0 x5] ?_
  have h := si h
  subst h
  exact pwp_ret ⟨.inr rfl, rf 1 0 3 x5, _, 0, by kernel_rfl, (OutP.list (v := 0) (by kernel_rfl)), by decide, by decide, by kernel_rfl⟩
def slices_ContainsFunc_impl_Value_impl_Value (a0 : List T_impl_Value) (a1 : T_impl_Value → Option Bool) : Option Bool := (slices_IndexFunc_impl_Value_impl_Value a0 a1).bind fun v1 => some ((decide (v1 ≥ 0)))
theorem ok_slices_ContainsFunc_impl_Value_impl_Value {a0 : List T_impl_Value} {g1 : FuncId} {c1 : List V} (hz1 : frzL c1 = true) {a1 : T_impl_Value → Option Bool} (hp1 : ∀ x0 y, a1 x0 = some y → OK Tryz.prog g1 ([E x0] ++ c1) (B y)) {y : Bool} (h : slices_ContainsFunc_impl_Value_impl_Value a0 a1 = some y) : OK Tryz.prog 163 [A a0, .fn g1 c1] (B y) := by
  refine ow Tryz.func163 fun Γ hX => ?_
  unfold slices_ContainsFunc_impl_Value_impl_Value at h
  refine srve 9 [(0, A a0), (1, .fn g1 c1)] [] ?_
  refine srv 2 9 [(5, A a0), (6, .fn g1 c1)] [] ?_
  obtain ⟨v1, hv2, h⟩ := bindS h
  refine opsP_callF τ 7 (ok_slices_IndexFunc_impl_Value_impl_Value (hz1) (hp1) hv2) (FzTo.frz rfl) (by simp only [frzL, frz, hz1, Bool.and_true]) (by kernel_rfl) ?_
  refine ve 2 9 [(4, B ((decide (v1 ≥ 0))))] [] ?_
  cases h
  exact pwp_ret rz
def impl_RowOk_1 (a0 : T_impl_Value) : Option Bool := (impl_Value_ok a0).bind fun v1 => some ((!v1))
theorem ok_impl_RowOk_1 {a0 : T_impl_Value} {y : Bool} (h : impl_RowOk_1 a0 = some y) : OK Tryz.prog 183 [E a0] (B y) := by
  refine ow Tryz.func183 fun Γ hX => ?_
  unfold impl_RowOk_1 at h
  refine srve 6 [(1, pf a0 0)] [] ?_
  refine srv 1 6 [(3, E a0)] [] ?_
  obtain ⟨v1, hv2, h⟩ := bindS h
  refine cF 4 (ok_impl_Value_ok hv2) ?_
  refine ve 2 6 [(2, B ((!v1)))] [] ?_
  cases h
  exact pwp_ret rz
def impl_taken_l0 (a0 : List T_impl_Value) (a1 : List Int) : Nat → Int → (List T_impl_Value) → Option (List T_impl_Value)
  | 0, _, _ => none
  | f4 + 1, x2, x3 => bif (decide (x2 < ((a1.length : Int)))) then (getI a1 x2).bind fun v7 => (getI a0 v7).bind fun v9 => (app x3 (([v9] : List T_impl_Value))).bind fun v11 => (impl_taken_l0 a0 a1 f4) ((w64 (x2 + 1))) v11 else (impl_clone_impl_Value x3).bind fun v13 => some v13
def impl_taken (a0 : List T_impl_Value) (a1 : List Int) : Option (List T_impl_Value) := impl_taken_l0 a0 a1 FUEL 0 (([] : List T_impl_Value))
theorem ok_impl_taken {a0 : List T_impl_Value} {a1 : List Int} {y : List T_impl_Value} (h : impl_taken a0 a1 = some y) : OK Tryz.prog 185 [A a0, A a1] (A y) := by
  refine ow Tryz.func185 fun Γ hX => ?_
  unfold impl_taken at h
  refine srve 24 [(0, A a0), (1, A a1)] [] ?_
  refine srve 24 [(0, A a0), (1, A a1), (5, .arr 3 0 (eL ([] : List T_impl_Value)) true)] [] ?_
  refine pwp_seq ?_
  refine srve 24 [(0, A a0), (5, .arr 3 0 (eL ([] : List T_impl_Value)) true), (8, A a1), (9, I ((a1.length : Int))), (10, I 0)] [] ?_
  refine pwp_block ?_
  refine pwp_loop (ι := Nat × Int × (List T_impl_Value)) (fun (f4, x2, x3) => (⟨24, [(0, A a0), (5, rf 0 0 3 x3), (8, A a1), (9, I ((a1.length : Int))), (10, I x2)], [sl 0 x3]⟩ : St)) (fun (f4, x2, x3) => impl_taken_l0 a0 a1 f4 x2 x3 = some y) Prod.fst (FUEL, 0, ([] : List T_impl_Value)) h (Imp.thawS 5 [0, 5, 8, 9, 10] (by kernel_rfl)) ?_
  rintro ⟨f4, x2, x3⟩ h
  dsimp only at h ⊢
  rcases f4 with _ | f4
  cases h
  rw [impl_taken_l0] at h
  refine srve 24 [(0, A a0), (5, rf 0 0 3 x3), (8, A a1), (9, I ((a1.length : Int))), (10, I x2), (11, B ((decide (x2 < ((a1.length : Int))))))] [sl 0 x3] ?_
  refine pwp_seq ?_
  refine pc h (fun h => ?_) (fun h => ?_)
  refine pwp_skip ?_
  refine pwp_seq ?_
  refine pwp_block ?_
  refine pwp_seq ?_
  refine pwp_region ?_
  obtain ⟨v7, hv8, h⟩ := bindS h
  refine opsP_idx τ_ok 12 hv8 (by kernel_rfl) ?_
  refine ve 2 24 [(0, A a0), (5, rf 0 0 3 x3), (7, I v7), (8, A a1), (9, I ((a1.length : Int))), (10, I x2)] [sl 0 x3] ?_
  refine rv 3 24 [(0, A a0), (8, A a1), (9, I ((a1.length : Int))), (10, I x2), (14, rf 0 0 3 x3), (15, A a0), (16, I v7)] [sl 0 x3] ?_
  obtain ⟨v9, hv10, h⟩ := bindS h
  refine opsP_idx τ_ok 17 hv10 (by kernel_rfl) ?_
  refine v 2 24 [(0, A a0), (8, A a1), (9, I ((a1.length : Int))), (10, I x2), (14, rf 0 0 3 x3), (19, .arr 3 (([v9] : List T_impl_Value)).length (eL ([v9] : List T_impl_Value)) true)] [sl 0 x3] ?_
  obtain ⟨v11, hv12, h⟩ := bindS h
  refine opsP_app τ_ok 20 0 0 (nx hX) hv12 (by kernel_rfl) ?_
  refine ve 1 24 [(0, A a0), (5, rf 0 1 3 v11), (8, A a1), (9, I ((a1.length : Int))), (10, I x2)] [sl 1 v11] ?_
  refine rve 24 [(0, A a0), (5, rf 0 1 3 v11), (8, A a1), (9, I ((a1.length : Int))), (10, I ((w64 (x2 + 1))))] [sl 1 v11] ?_
  exact ⟨(f4, (w64 (x2 + 1)), v11), h, Nat.lt_succ_self _, (it (st' := ⟨24, [(0, A a0), (5, rf 0 1 3 v11), (8, A a1), (9, I ((a1.length : Int))), (10, I ((w64 (x2 + 1))))], [sl 1 v11]⟩) [0, 5, 8, 9, 10]).trans (Imp.reverS 0 1 (eL v11) [0, 5, 8, 9, 10] (by kernel_rfl) (by exact (And.intro (eL_frz _) trivial)) (by kernel_rfl))⟩
  refine pwp_exit ?_
  refine srv 1 24 [(22, rf 0 0 3 x3)] [sl 0 x3] ?_
  refine opsP_imp ((Imp.freezeB (v := 0) (cs := eL x3) (st' := ⟨24, [(22, A x3)], [none]⟩) 0 0 (nx hX) (by kernel_rfl) (eL_frz _) (wholeC (whole_is (eL_len x3).symm) wholeC0) (HpRel.key HpRel.nil) (by kernel_rfl) rfl (nx hX))) ?_
  obtain ⟨v13, hv14, h⟩ := bindS h
  refine cF 23 (ok_impl_clone_impl_Value hv14) ?_
  refine ve 1 24 [(4, A v13)] [none] ?_
  cases h
  exact pwp_ret rz
def spec_ValueOk (a0 : T_impl_Value) : Option Bool := bif (a0.fKind == 0) then bif (a0.fN == 0) then some ((a0.fS.toList == ((ByteArray.mk #[])).toList)) else some false else bif (a0.fKind == 1) then (spec_l1In a0.fN (-9999) 9999).bind fun v4 => bif v4 then some ((a0.fS.toList == ((ByteArray.mk #[])).toList)) else some false else bif (a0.fKind == 2) then bif (a0.fN == 0) then (spec_l1Text a0.fS).bind fun v8 => some v8 else some false else bif (a0.fKind == 3) then (spec_l1In a0.fN 0 1).bind fun v12 => bif v12 then some ((a0.fS.toList == ((ByteArray.mk #[])).toList)) else some false else some false
theorem ok_spec_ValueOk {a0 : T_impl_Value} {y : Bool} (h : spec_ValueOk a0 = some y) : OK Tryz.prog 193 [E a0] (B y) := by
  refine ow Tryz.func193 fun Γ hX => ?_
  unfold spec_ValueOk at h
  refine srve 45 [(1, pf a0 0)] [] ?_
  refine pwp_seq ?_
  refine srve 45 [(1, pf a0 0), (4, I a0.fKind)] [] ?_
  refine pwp_block ?_
  refine srve 45 [(1, pf a0 0), (4, I a0.fKind), (5, B ((a0.fKind == 0)))] [] ?_
  refine pc h (fun h => ?_) (fun h => ?_)
  refine srv 4 45 [(1, pf a0 0), (10, B ((a0.fN == 0)))] [] ?_
  rcases fk ((a0.fN == 0)) with hc2 | hc2
  replace h := bT hc2 h
  rw [hc2]
  refine ve 5 45 [(2, B ((a0.fS.toList == ((ByteArray.mk #[])).toList)))] [] ?_
  cases h
  exact pwp_ret rz
  replace h := bF hc2 h
  rw [hc2]
  refine ve 5 45 [(2, B false)] [] ?_
  cases h
  exact pwp_ret rz
  refine srve 45 [(1, pf a0 0), (4, I a0.fKind), (15, B ((a0.fKind == 1)))] [] ?_
  refine pc h (fun h => ?_) (fun h => ?_)
  refine srv 2 45 [(1, pf a0 0), (18, I a0.fN)] [] ?_
  obtain ⟨v4, hv5, h⟩ := bindS h
  refine cF 19 (ok_spec_l1In hv5) ?_
  refine v 1 45 [(1, pf a0 0), (20, B v4)] [] ?_
  rcases Bool.eq_false_or_eq_true v4 with hc6 | hc6
  replace h := bT hc6 h
  rw [hc6]
  refine ve 5 45 [(2, B ((a0.fS.toList == ((ByteArray.mk #[])).toList)))] [] ?_
  cases h
  exact pwp_ret rz
  replace h := bF hc6 h
  rw [hc6]
  refine ve 5 45 [(2, B false)] [] ?_
  cases h
  exact pwp_ret rz
  refine srve 45 [(1, pf a0 0), (4, I a0.fKind), (25, B ((a0.fKind == 2)))] [] ?_
  refine pc h (fun h => ?_) (fun h => ?_)
  refine srv 4 45 [(1, pf a0 0), (30, B ((a0.fN == 0)))] [] ?_
  rcases fk ((a0.fN == 0)) with hc10 | hc10
  replace h := bT hc10 h
  rw [hc10]
  refine v 2 45 [(30, B true), (32, S a0.fS)] [] ?_
  obtain ⟨v8, hv9, h⟩ := bindS h
  refine cF 33 (ok_spec_l1Text hv9) ?_
  refine ve 2 45 [(2, B v8)] [] ?_
  cases h
  exact pwp_ret rz
  replace h := bF hc10 h
  rw [hc10]
  refine ve 5 45 [(2, B false)] [] ?_
  cases h
  exact pwp_ret rz
  refine srve 45 [(1, pf a0 0), (35, B ((a0.fKind == 3)))] [] ?_
  refine pc h (fun h => ?_) (fun h => ?_)
  refine srv 2 45 [(1, pf a0 0), (38, I a0.fN)] [] ?_
  obtain ⟨v12, hv13, h⟩ := bindS h
  refine cF 39 (ok_spec_l1In hv13) ?_
  refine v 1 45 [(1, pf a0 0), (40, B v12)] [] ?_
  rcases Bool.eq_false_or_eq_true v12 with hc14 | hc14
  replace h := bT hc14 h
  rw [hc14]
  refine ve 5 45 [(2, B ((a0.fS.toList == ((ByteArray.mk #[])).toList)))] [] ?_
  cases h
  exact pwp_ret rz
  replace h := bF hc14 h
  rw [hc14]
  refine ve 5 45 [(2, B false)] [] ?_
  cases h
  exact pwp_ret rz
  refine pwp_skip ?_
  refine srve 45 [(2, B false)] [] ?_
  cases h
  exact pwp_ret rz
def spec_RowOk_l0 (a0 : List T_impl_Value) : Nat → Int → Option Bool
  | 0, _ => none
  | f2 + 1, x1 => bif (decide (x1 < ((a0.length : Int)))) then (getI a0 x1).bind fun v5 => (spec_ValueOk v5).bind fun v7 => bif (!v7) then some false else (spec_RowOk_l0 a0 f2) ((w64 (x1 + 1))) else some ((decide (((a0.length : Int)) ≤ 4)))
def spec_RowOk (a0 : List T_impl_Value) : Option Bool := spec_RowOk_l0 a0 FUEL 0
theorem ok_spec_RowOk {a0 : List T_impl_Value} {y : Bool} (h : spec_RowOk a0 = some y) : OK Tryz.prog 194 [A a0] (B y) := by
  refine ow Tryz.func194 fun Γ hX => ?_
  unfold spec_RowOk at h
  refine srve 19 [(0, A a0)] [] ?_
  refine pwp_seq ?_
  refine srve 19 [(0, A a0), (3, I 0)] [] ?_
  refine pwp_block ?_
  refine pwp_loop (ι := Nat × Int) (fun (f2, x1) => (⟨19, [(0, A a0), (3, I x1)], []⟩ : St)) (fun (f2, x1) => spec_RowOk_l0 a0 f2 x1 = some y) Prod.fst (FUEL, 0) h (it [0, 3]) ?_
  rintro ⟨f2, x1⟩ h
  dsimp only at h ⊢
  rcases f2 with _ | f2
  cases h
  rw [spec_RowOk_l0] at h
  refine pwp_seq ?_
  refine srve 19 [(0, A a0), (3, I x1), (7, B ((decide (x1 < ((a0.length : Int))))))] [] ?_
  refine pc h (fun h => ?_) (fun h => ?_)
  refine pwp_skip ?_
  refine pwp_seq ?_
  refine pwp_block ?_
  refine srv 2 19 [(0, A a0), (3, I x1), (10, A a0), (11, I x1)] [] ?_
  obtain ⟨v5, hv6, h⟩ := bindS h
  refine opsP_idx τ_ok 12 hv6 (by kernel_rfl) ?_
  refine v 1 19 [(0, A a0), (3, I x1), (13, E v5)] [] ?_
  obtain ⟨v7, hv8, h⟩ := bindS h
  refine cF 14 (ok_spec_ValueOk hv8) ?_
  refine ve 1 19 [(0, A a0), (3, I x1), (15, B ((!v7)))] [] ?_
  refine pc h (fun h => ?_) (fun h => ?_)
  refine srve 19 [(2, B false)] [] ?_
  cases h
  exact pwp_ret rz
  refine pwp_skip ?_
  refine rve 19 [(0, A a0), (3, I ((w64 (x1 + 1))))] [] ?_
  exact ⟨(f2, (w64 (x1 + 1))), h, Nat.lt_succ_self _, it [0, 3]⟩
  refine pwp_exit ?_
  refine srve 19 [(2, B ((decide (((a0.length : Int)) ≤ 4))))] [] ?_
  cases h
  exact pwp_ret rz
def impl_TruthOf (a0 : T_impl_Value) : Option Int := (impl_Value_ok a0).bind fun v1 => bif (!v1) then some (-1) else bif (a0.fKind == 0) then some 2 else bif (a0.fKind == 3) then some a0.fN else some (-1)
theorem ok_impl_TruthOf {a0 : T_impl_Value} {y : Int} (h : impl_TruthOf a0 = some y) : OK Tryz.prog 212 [E a0] (I y) := by
  refine ow Tryz.func212 fun Γ hX => ?_
  unfold impl_TruthOf at h
  refine srve 17 [(1, pf a0 0)] [] ?_
  refine pwp_seq ?_
  refine pwp_block ?_
  refine srv 1 17 [(1, pf a0 0), (4, E a0)] [] ?_
  obtain ⟨v1, hv2, h⟩ := bindS h
  refine cF 5 (ok_impl_Value_ok hv2) ?_
  refine ve 2 17 [(1, pf a0 0), (3, B ((!v1)))] [] ?_
  refine pc h (fun h => ?_) (fun h => ?_)
  refine srve 17 [(2, I (-1))] [] ?_
  cases h
  exact pwp_ret rz
  refine srve 17 [(1, pf a0 0), (7, B ((a0.fKind == 0)))] [] ?_
  refine pc h (fun h => ?_) (fun h => ?_)
  refine srve 17 [(2, I 2)] [] ?_
  cases h
  exact pwp_ret rz
  refine srve 17 [(1, pf a0 0), (11, B ((a0.fKind == 3)))] [] ?_
  refine pc h (fun h => ?_) (fun h => ?_)
  refine srve 17 [(2, I a0.fN)] [] ?_
  cases h
  exact pwp_ret rz
  refine pwp_skip ?_
  refine srve 17 [(2, I (-1))] [] ?_
  cases h
  exact pwp_ret rz
def impl_fold_j2 (a2 : Int) (x5 : Bool) : Option Int := bif x5 then some 2 else some ((w64 (1 - a2)))
def impl_fold_j1 (a0 : Int) (a1 : Int) (a2 : Int) (x3 : Bool) : Option Int := bif x3 then some a2 else bif (a0 == 2) then impl_fold_j2 a2 true else impl_fold_j2 a2 ((a1 == 2))
def impl_fold_j0 (a0 : Int) (a1 : Int) (a2 : Int) (x1 : Bool) : Option Int := bif x1 then some (-1) else bif (a0 == a2) then impl_fold_j1 a0 a1 a2 true else impl_fold_j1 a0 a1 a2 ((a1 == a2))
def impl_fold (a0 : Int) (a1 : Int) (a2 : Int) : Option Int := (impl_TruthOk a0).bind fun v9 => bif (!v9) then impl_fold_j0 a0 a1 a2 true else (impl_TruthOk a1).bind fun v11 => impl_fold_j0 a0 a1 a2 ((!v11))
theorem ok_impl_fold {a0 : Int} {a1 : Int} {a2 : Int} {y : Int} (h : impl_fold a0 a1 a2 = some y) : OK Tryz.prog 221 [I a0, I a1, I a2] (I y) := by
  refine ow Tryz.func221 fun Γ hX => ?_
  unfold impl_fold at h
  refine srve 35 [(0, I a0), (1, I a1), (2, I a2)] [] ?_
  refine pwp_seq ?_
  refine pwp_block ?_
  refine pwp_seq ?_
  refine pwp_join (σ := Bool) (fun x1 => (⟨35, [(0, I a0), (1, I a1), (2, I a2), (7, B x1)], []⟩ : St)) (fun x1 => impl_fold_j0 a0 a1 a2 x1 = some y) ?_ ?_
  refine rv 1 35 [(0, I a0), (1, I a1), (2, I a2), (8, I a0)] [] ?_
  obtain ⟨v9, hv10, h⟩ := bindS h
  refine cF 9 (ok_impl_TruthOk hv10) ?_
  refine v 2 35 [(0, I a0), (1, I a1), (2, I a2), (11, B ((!v9)))] [] ?_
  rcases fk ((!v9)) with hc13 | hc13
  replace h := bT hc13 h
  rw [hc13]
  refine ve 5 35 [(0, I a0), (1, I a1), (2, I a2), (7, B true)] [] ?_
  exact ⟨true, h, it [0, 1, 2, 7]⟩
  replace h := bF hc13 h
  rw [hc13]
  refine v 1 35 [(0, I a0), (1, I a1), (2, I a2), (11, B false), (12, I a1)] [] ?_
  obtain ⟨v11, hv12, h⟩ := bindS h
  refine cF 13 (ok_impl_TruthOk hv12) ?_
  refine ve 3 35 [(0, I a0), (1, I a1), (2, I a2), (7, B ((!v11)))] [] ?_
  exact ⟨(!v11), h, it [0, 1, 2, 7]⟩
  rintro x1 h
  unfold impl_fold_j0 at h
  refine pc h (fun h => ?_) (fun h => ?_)
  refine srve 35 [(6, I (-1))] [] ?_
  cases h
  exact pwp_ret rz
  refine pwp_seq ?_
  refine pwp_join (σ := Bool) (fun x3 => (⟨35, [(0, I a0), (1, I a1), (2, I a2), (16, B x3)], []⟩ : St)) (fun x3 => impl_fold_j1 a0 a1 a2 x3 = some y) ?_ ?_
  refine rv 4 35 [(0, I a0), (1, I a1), (2, I a2), (20, B ((a0 == a2)))] [] ?_
  rcases fk ((a0 == a2)) with hc8 | hc8
  replace h := bT hc8 h
  rw [hc8]
  refine ve 5 35 [(0, I a0), (1, I a1), (2, I a2), (16, B true)] [] ?_
  exact ⟨true, h, it [0, 1, 2, 16]⟩
  replace h := bF hc8 h
  rw [hc8]
  refine ve 5 35 [(0, I a0), (1, I a1), (2, I a2), (16, B ((a1 == a2)))] [] ?_
  exact ⟨(a1 == a2), h, it [0, 1, 2, 16]⟩
  rintro x3 h
  unfold impl_fold_j1 at h
  refine pc h (fun h => ?_) (fun h => ?_)
  refine srve 35 [(6, I a2)] [] ?_
  cases h
  exact pwp_ret rz
  refine pwp_seq ?_
  refine pwp_join (σ := Bool) (fun x5 => (⟨35, [(2, I a2), (26, B x5)], []⟩ : St)) (fun x5 => impl_fold_j2 a2 x5 = some y) ?_ ?_
  refine rv 3 35 [(1, I a1), (2, I a2), (29, B ((a0 == 2)))] [] ?_
  rcases fk ((a0 == 2)) with hc7 | hc7
  replace h := bT hc7 h
  rw [hc7]
  refine ve 4 35 [(2, I a2), (26, B true)] [] ?_
  exact ⟨true, h, it [2, 26]⟩
  replace h := bF hc7 h
  rw [hc7]
  refine ve 4 35 [(2, I a2), (26, B ((a1 == 2)))] [] ?_
  exact ⟨(a1 == 2), h, it [2, 26]⟩
  rintro x5 h
  unfold impl_fold_j2 at h
  refine pc h (fun h => ?_) (fun h => ?_)
  refine srve 35 [(6, I 2)] [] ?_
  cases h
  exact pwp_ret rz
  refine pwp_skip ?_
  refine srve 35 [(6, I ((w64 (1 - a2))))] [] ?_
  cases h
  exact pwp_ret rz
def cmp_Compare_int (a0 : Int) (a1 : Int) : Option Int := (cmp_isNaN_int a0).bind fun v1 => (cmp_isNaN_int a1).bind fun v3 => bif v1 then bif v3 then some 0 else some (-1) else bif v3 then some 1 else bif (decide (a0 < a1)) then some (-1) else bif (decide (a0 > a1)) then some 1 else some 0
theorem ok_cmp_Compare_int {a0 : Int} {a1 : Int} {y : Int} (h : cmp_Compare_int a0 a1 = some y) : OK Tryz.prog 225 [I a0, I a1] (I y) := by
  refine ow Tryz.func225 fun Γ hX => ?_
  unfold cmp_Compare_int at h
  refine srve 20 [(0, I a0), (1, I a1)] [] ?_
  refine srv 1 20 [(0, I a0), (1, I a1), (7, I a0)] [] ?_
  obtain ⟨v1, hv2, h⟩ := bindS h
  refine cF 8 (ok_cmp_isNaN_int hv2) ?_
  refine ve 1 20 [(0, I a0), (1, I a1), (5, B v1)] [] ?_
  refine srv 1 20 [(0, I a0), (1, I a1), (5, B v1), (9, I a1)] [] ?_
  obtain ⟨v3, hv4, h⟩ := bindS h
  refine cF 10 (ok_cmp_isNaN_int hv4) ?_
  refine ve 1 20 [(0, I a0), (1, I a1), (5, B v1), (6, B v3)] [] ?_
  refine pwp_seq ?_
  refine srve 20 [(0, I a0), (1, I a1), (6, B v3), (11, B v1)] [] ?_
  refine pc h (fun h => ?_) (fun h => ?_)
  refine pwp_seq ?_
  refine srve 20 [(12, B v3)] [] ?_
  refine pc h (fun h => ?_) (fun h => ?_)
  refine srve 20 [(4, I 0)] [] ?_
  cases h
  exact pwp_ret rz
  refine pwp_skip ?_
  refine srve 20 [(4, I (-1))] [] ?_
  cases h
  exact pwp_ret rz
  refine pwp_skip ?_
  refine pwp_seq ?_
  refine srve 20 [(0, I a0), (1, I a1), (13, B v3)] [] ?_
  refine pc h (fun h => ?_) (fun h => ?_)
  refine srve 20 [(4, I 1)] [] ?_
  cases h
  exact pwp_ret rz
  refine pwp_skip ?_
  refine pwp_seq ?_
  refine srve 20 [(0, I a0), (1, I a1), (16, B ((decide (a0 < a1))))] [] ?_
  refine pc h (fun h => ?_) (fun h => ?_)
  refine srve 20 [(4, I (-1))] [] ?_
  cases h
  exact pwp_ret rz
  refine pwp_skip ?_
  refine pwp_seq ?_
  refine srve 20 [(19, B ((decide (a0 > a1))))] [] ?_
  refine pc h (fun h => ?_) (fun h => ?_)
  refine srve 20 [(4, I 1)] [] ?_
  cases h
  exact pwp_ret rz
  refine pwp_skip ?_
  refine srve 20 [(4, I 0)] [] ?_
  cases h
  exact pwp_ret rz
def cmp_Compare_string (a0 : ByteArray) (a1 : ByteArray) : Option Int := (cmp_isNaN_string a0).bind fun v1 => (cmp_isNaN_string a1).bind fun v3 => bif v1 then bif v3 then some 0 else some (-1) else bif v3 then some 1 else bif (Op.bytesLess a0.toList a1.toList) then some (-1) else bif (!Op.bytesLess a0.toList a1.toList && !(a0.toList == a1.toList)) then some 1 else some 0
theorem ok_cmp_Compare_string {a0 : ByteArray} {a1 : ByteArray} {y : Int} (h : cmp_Compare_string a0 a1 = some y) : OK Tryz.prog 226 [S a0, S a1] (I y) := by
  refine ow Tryz.func226 fun Γ hX => ?_
  unfold cmp_Compare_string at h
  refine srve 20 [(0, S a0), (1, S a1)] [] ?_
  refine srv 1 20 [(0, S a0), (1, S a1), (7, S a0)] [] ?_
  obtain ⟨v1, hv2, h⟩ := bindS h
  refine cF 8 (ok_cmp_isNaN_string hv2) ?_
  refine ve 1 20 [(0, S a0), (1, S a1), (5, B v1)] [] ?_
  refine srv 1 20 [(0, S a0), (1, S a1), (5, B v1), (9, S a1)] [] ?_
  obtain ⟨v3, hv4, h⟩ := bindS h
  refine cF 10 (ok_cmp_isNaN_string hv4) ?_
  refine ve 1 20 [(0, S a0), (1, S a1), (5, B v1), (6, B v3)] [] ?_
  refine pwp_seq ?_
  refine srve 20 [(0, S a0), (1, S a1), (6, B v3), (11, B v1)] [] ?_
  refine pc h (fun h => ?_) (fun h => ?_)
  refine pwp_seq ?_
  refine srve 20 [(12, B v3)] [] ?_
  refine pc h (fun h => ?_) (fun h => ?_)
  refine srve 20 [(4, I 0)] [] ?_
  cases h
  exact pwp_ret rz
  refine pwp_skip ?_
  refine srve 20 [(4, I (-1))] [] ?_
  cases h
  exact pwp_ret rz
  refine pwp_skip ?_
  refine pwp_seq ?_
  refine srve 20 [(0, S a0), (1, S a1), (13, B v3)] [] ?_
  refine pc h (fun h => ?_) (fun h => ?_)
  refine srve 20 [(4, I 1)] [] ?_
  cases h
  exact pwp_ret rz
  refine pwp_skip ?_
  refine pwp_seq ?_
  refine srve 20 [(0, S a0), (1, S a1), (16, B ((Op.bytesLess a0.toList a1.toList)))] [] ?_
  refine pc h (fun h => ?_) (fun h => ?_)
  refine srve 20 [(4, I (-1))] [] ?_
  cases h
  exact pwp_ret rz
  refine pwp_skip ?_
  refine pwp_seq ?_
  refine srve 20 [(19, B ((!Op.bytesLess a0.toList a1.toList && !(a0.toList == a1.toList))))] [] ?_
  refine pc h (fun h => ?_) (fun h => ?_)
  refine srve 20 [(4, I 1)] [] ?_
  cases h
  exact pwp_ret rz
  refine pwp_skip ?_
  refine srve 20 [(4, I 0)] [] ?_
  cases h
  exact pwp_ret rz
def slices_Grow_impl_Value_impl_Value_s3_n0 (a1 : Int) : Option (List (List T_impl_Value)) := bif (decide (a1 < 0)) then none else bif (decide (((w64 (a1 - ((w64 (0 - ((0 : Int)))))))) > 0)) then (apzI ((w64 (a1 - ((w64 (0 - ((0 : Int)))))))) (([] : List T_impl_Value))).bind fun v3 => (slI v3 none (some ((0 : Int))) none).bind fun v5 => some v5 else some (([] : List (List T_impl_Value)))
theorem ok_slices_Grow_impl_Value_impl_Value_s3_n0 {a1 : Int} {y : List (List T_impl_Value)} (h : slices_Grow_impl_Value_impl_Value_s3_n0 a1 = some y) : OK Tryz.prog 144 [.arr 1 0 (eL ([] : List (List T_impl_Value))) true, I a1] (O y) := by
  refine ow Tryz.func144 fun Γ hX => ?_
  unfold slices_Grow_impl_Value_impl_Value_s3_n0 at h
  refine srve 27 [(0, .arr 1 0 (eL ([] : List (List T_impl_Value))) true), (1, I a1)] [] ?_
  refine pwp_seq ?_
  refine srve 27 [(0, .arr 1 0 (eL ([] : List (List T_impl_Value))) true), (1, I a1), (6, B ((decide (a1 < 0))))] [] ?_
  refine pc h (fun h => ?_) (fun h => ?_)
  cases h
  refine pwp_skip ?_
  refine pwp_seq ?_
  refine srv 2 27 [(0, .arr 1 0 (eL ([] : List (List T_impl_Value))) true), (8, I a1), (9, .arr 1 0 (eL ([] : List (List T_impl_Value))) true)] [] ?_
  refine opsP_E (dd := some 10) (x := I 0) (CoreE.of_y (capV_sound (n := 0) τ_ok (by kernel_rfl))) ?_
  refine ve 5 27 [(0, .arr 1 0 (eL ([] : List (List T_impl_Value))) true), (1, I ((w64 (a1 - ((w64 (0 - ((0 : Int)))))))))] [] ?_
  refine srve 27 [(0, .arr 1 0 (eL ([] : List (List T_impl_Value))) true), (1, I ((w64 (a1 - ((w64 (0 - ((0 : Int))))))))), (16, B ((decide (((w64 (a1 - ((w64 (0 - ((0 : Int)))))))) > 0))))] [] ?_
  refine pc h (fun h => ?_) (fun h => ?_)
  refine rv 2 27 [(0, .arr 1 0 (eL ([] : List (List T_impl_Value))) true), (1, I ((w64 (a1 - ((w64 (0 - ((0 : Int))))))))), (17, .arr 1 0 (eL ([] : List (List T_impl_Value))) true), (18, .arr 1 0 (eL ([] : List (List T_impl_Value))) true)] [] ?_
  refine opsP_E (dd := some 19) (x := I 0) (CoreE.of_y (capV_sound (n := 0) τ_ok (by kernel_rfl))) ?_
  refine opsP_E (dd := some 20) (x := .arr 1 0 [] true) (CoreE.of_y (slnV_sound τ_ok (by kernel_rfl))) ?_
  refine v 1 27 [(0, .arr 1 0 (eL ([] : List (List T_impl_Value))) true), (20, .arr 1 0 (eL ([] : List (List T_impl_Value))) true), (21, I ((w64 (a1 - ((w64 (0 - ((0 : Int)))))))))] [] ?_
  obtain ⟨v3, hv4, h⟩ := bindS h
  refine opsP_apz τ_ok 22 0 _ hv4 (by kernel_rfl) (by kernel_rfl) ?_
  refine v 2 27 [(22, rf 0 0 1 v3), (24, I ((0 : Int)))] [sl 0 v3] ?_
  obtain ⟨v5, hv6, h⟩ := bindS h
  refine opsP_slr τ_ok 25 0 0 v3.length hv6 rfl (by kernel_rfl) ?_
  refine ve 1 27 [(0, rf 0 0 1 v5)] [sl 0 v3] ?_
  refine srve 27 [(4, rf 0 0 1 v5)] [sl 0 v3] ?_
  refine ip 27 [(4, rf 0 0 1 v5)] [sl 0 v3] ?_
  refine pwp_imp (Imp.cut (st' := ⟨27, [(4, rf 0 0 1 v5)], [sl 0 v5]⟩) 0 0 v3 v5 (by kernel_rfl) (slI_view hv6) (by kernel_rfl)) ?_
  have h := si h
  subst h
  exact pwp_ret (rt (rf 0 0 1 v5) (OutP.list (v := 0) (by kernel_rfl)))
  refine pwp_skip ?_
  refine srve 27 [(4, .arr 1 0 (eL ([] : List (List T_impl_Value))) true)] [] ?_
  refine ip 27 [(4, .arr 1 0 (eL ([] : List (List T_impl_Value))) true)] [] ?_
  refine pwp_imp (Imp.thawS (st' := ⟨27, [(4, .ref 0 0 0 1 (([] : List (List T_impl_Value))).length false)], [some ⟨0, eL (([] : List (List T_impl_Value)))⟩]⟩) 4 [4] (by kernel_rfl)) ?_
  have h := si h
  subst h
  exact pwp_ret (rt (.ref 0 0 0 1 (([] : List (List T_impl_Value))).length false) (OutP.list (v := 0) (by kernel_rfl)))
def slices_Grow_impl_Column_impl_Column_n0 (a1 : Int) : Option (List T_impl_Column) := bif (decide (a1 < 0)) then none else bif (decide (((w64 (a1 - ((w64 (0 - ((0 : Int)))))))) > 0)) then (apzI ((w64 (a1 - ((w64 (0 - ((0 : Int)))))))) ((T_impl_Column.mk 0 false))).bind fun v3 => (slI v3 none (some ((0 : Int))) none).bind fun v5 => some v5 else some (([] : List T_impl_Column))
theorem ok_slices_Grow_impl_Column_impl_Column_n0 {a1 : Int} {y : List T_impl_Column} (h : slices_Grow_impl_Column_impl_Column_n0 a1 = some y) : OK Tryz.prog 186 [.arr 2 0 (eL ([] : List T_impl_Column)) true, I a1] (O y) := by
  refine ow Tryz.func186 fun Γ hX => ?_
  unfold slices_Grow_impl_Column_impl_Column_n0 at h
  refine srve 27 [(0, .arr 2 0 (eL ([] : List T_impl_Column)) true), (1, I a1)] [] ?_
  refine pwp_seq ?_
  refine srve 27 [(0, .arr 2 0 (eL ([] : List T_impl_Column)) true), (1, I a1), (6, B ((decide (a1 < 0))))] [] ?_
  refine pc h (fun h => ?_) (fun h => ?_)
  cases h
  refine pwp_skip ?_
  refine pwp_seq ?_
  refine srv 2 27 [(0, .arr 2 0 (eL ([] : List T_impl_Column)) true), (8, I a1), (9, .arr 2 0 (eL ([] : List T_impl_Column)) true)] [] ?_
  refine opsP_E (dd := some 10) (x := I 0) (CoreE.of_y (capV_sound (n := 0) τ_ok (by kernel_rfl))) ?_
  refine ve 5 27 [(0, .arr 2 0 (eL ([] : List T_impl_Column)) true), (1, I ((w64 (a1 - ((w64 (0 - ((0 : Int)))))))))] [] ?_
  refine srve 27 [(0, .arr 2 0 (eL ([] : List T_impl_Column)) true), (1, I ((w64 (a1 - ((w64 (0 - ((0 : Int))))))))), (16, B ((decide (((w64 (a1 - ((w64 (0 - ((0 : Int)))))))) > 0))))] [] ?_
  refine pc h (fun h => ?_) (fun h => ?_)
  refine rv 2 27 [(0, .arr 2 0 (eL ([] : List T_impl_Column)) true), (1, I ((w64 (a1 - ((w64 (0 - ((0 : Int))))))))), (17, .arr 2 0 (eL ([] : List T_impl_Column)) true), (18, .arr 2 0 (eL ([] : List T_impl_Column)) true)] [] ?_
  refine opsP_E (dd := some 19) (x := I 0) (CoreE.of_y (capV_sound (n := 0) τ_ok (by kernel_rfl))) ?_
  refine opsP_E (dd := some 20) (x := .arr 2 0 [] true) (CoreE.of_y (slnV_sound τ_ok (by kernel_rfl))) ?_
  refine v 1 27 [(0, .arr 2 0 (eL ([] : List T_impl_Column)) true), (20, .arr 2 0 (eL ([] : List T_impl_Column)) true), (21, I ((w64 (a1 - ((w64 (0 - ((0 : Int)))))))))] [] ?_
  obtain ⟨v3, hv4, h⟩ := bindS h
  refine opsP_apz τ_ok 22 0 _ hv4 (by kernel_rfl) (by kernel_rfl) ?_
  refine v 2 27 [(22, rf 0 0 2 v3), (24, I ((0 : Int)))] [sl 0 v3] ?_
  obtain ⟨v5, hv6, h⟩ := bindS h
  refine opsP_slr τ_ok 25 0 0 v3.length hv6 rfl (by kernel_rfl) ?_
  refine ve 1 27 [(0, rf 0 0 2 v5)] [sl 0 v3] ?_
  refine srve 27 [(4, rf 0 0 2 v5)] [sl 0 v3] ?_
  refine ip 27 [(4, rf 0 0 2 v5)] [sl 0 v3] ?_
  refine pwp_imp (Imp.cut (st' := ⟨27, [(4, rf 0 0 2 v5)], [sl 0 v5]⟩) 0 0 v3 v5 (by kernel_rfl) (slI_view hv6) (by kernel_rfl)) ?_
  have h := si h
  subst h
  exact pwp_ret (rt (rf 0 0 2 v5) (OutP.list (v := 0) (by kernel_rfl)))
  refine pwp_skip ?_
  refine srve 27 [(4, .arr 2 0 (eL ([] : List T_impl_Column)) true)] [] ?_
  refine ip 27 [(4, .arr 2 0 (eL ([] : List T_impl_Column)) true)] [] ?_
  refine pwp_imp (Imp.thawS (st' := ⟨27, [(4, .ref 0 0 0 2 (([] : List T_impl_Column)).length false)], [some ⟨0, eL (([] : List T_impl_Column))⟩]⟩) 4 [4] (by kernel_rfl)) ?_
  have h := si h
  subst h
  exact pwp_ret (rt (.ref 0 0 0 2 (([] : List T_impl_Column)).length false) (OutP.list (v := 0) (by kernel_rfl)))
def slices_Grow_impl_Value_impl_Value_n0 (a1 : Int) : Option (List T_impl_Value) := bif (decide (a1 < 0)) then none else bif (decide (((w64 (a1 - ((w64 (0 - ((0 : Int)))))))) > 0)) then (apzI ((w64 (a1 - ((w64 (0 - ((0 : Int)))))))) ((T_impl_Value.mk 0 0 (ByteArray.mk #[])))).bind fun v3 => (slI v3 none (some ((0 : Int))) none).bind fun v5 => some v5 else some (([] : List T_impl_Value))
theorem ok_slices_Grow_impl_Value_impl_Value_n0 {a1 : Int} {y : List T_impl_Value} (h : slices_Grow_impl_Value_impl_Value_n0 a1 = some y) : OK Tryz.prog 190 [.arr 3 0 (eL ([] : List T_impl_Value)) true, I a1] (O y) := by
  refine ow Tryz.func190 fun Γ hX => ?_
  unfold slices_Grow_impl_Value_impl_Value_n0 at h
  refine srve 27 [(0, .arr 3 0 (eL ([] : List T_impl_Value)) true), (1, I a1)] [] ?_
  refine pwp_seq ?_
  refine srve 27 [(0, .arr 3 0 (eL ([] : List T_impl_Value)) true), (1, I a1), (6, B ((decide (a1 < 0))))] [] ?_
  refine pc h (fun h => ?_) (fun h => ?_)
  cases h
  refine pwp_skip ?_
  refine pwp_seq ?_
  refine srv 2 27 [(0, .arr 3 0 (eL ([] : List T_impl_Value)) true), (8, I a1), (9, .arr 3 0 (eL ([] : List T_impl_Value)) true)] [] ?_
  refine opsP_E (dd := some 10) (x := I 0) (CoreE.of_y (capV_sound (n := 0) τ_ok (by kernel_rfl))) ?_
  refine ve 5 27 [(0, .arr 3 0 (eL ([] : List T_impl_Value)) true), (1, I ((w64 (a1 - ((w64 (0 - ((0 : Int)))))))))] [] ?_
  refine srve 27 [(0, .arr 3 0 (eL ([] : List T_impl_Value)) true), (1, I ((w64 (a1 - ((w64 (0 - ((0 : Int))))))))), (16, B ((decide (((w64 (a1 - ((w64 (0 - ((0 : Int)))))))) > 0))))] [] ?_
  refine pc h (fun h => ?_) (fun h => ?_)
  refine rv 2 27 [(0, .arr 3 0 (eL ([] : List T_impl_Value)) true), (1, I ((w64 (a1 - ((w64 (0 - ((0 : Int))))))))), (17, .arr 3 0 (eL ([] : List T_impl_Value)) true), (18, .arr 3 0 (eL ([] : List T_impl_Value)) true)] [] ?_
  refine opsP_E (dd := some 19) (x := I 0) (CoreE.of_y (capV_sound (n := 0) τ_ok (by kernel_rfl))) ?_
  refine opsP_E (dd := some 20) (x := .arr 3 0 [] true) (CoreE.of_y (slnV_sound τ_ok (by kernel_rfl))) ?_
  refine v 1 27 [(0, .arr 3 0 (eL ([] : List T_impl_Value)) true), (20, .arr 3 0 (eL ([] : List T_impl_Value)) true), (21, I ((w64 (a1 - ((w64 (0 - ((0 : Int)))))))))] [] ?_
  obtain ⟨v3, hv4, h⟩ := bindS h
  refine opsP_apz τ_ok 22 0 _ hv4 (by kernel_rfl) (by kernel_rfl) ?_
  refine v 2 27 [(22, rf 0 0 3 v3), (24, I ((0 : Int)))] [sl 0 v3] ?_
  obtain ⟨v5, hv6, h⟩ := bindS h
  refine opsP_slr τ_ok 25 0 0 v3.length hv6 rfl (by kernel_rfl) ?_
  refine ve 1 27 [(0, rf 0 0 3 v5)] [sl 0 v3] ?_
  refine srve 27 [(4, rf 0 0 3 v5)] [sl 0 v3] ?_
  refine ip 27 [(4, rf 0 0 3 v5)] [sl 0 v3] ?_
  refine pwp_imp (Imp.cut (st' := ⟨27, [(4, rf 0 0 3 v5)], [sl 0 v5]⟩) 0 0 v3 v5 (by kernel_rfl) (slI_view hv6) (by kernel_rfl)) ?_
  have h := si h
  subst h
  exact pwp_ret (rt (rf 0 0 3 v5) (OutP.list (v := 0) (by kernel_rfl)))
  refine pwp_skip ?_
  refine srve 27 [(4, .arr 3 0 (eL ([] : List T_impl_Value)) true)] [] ?_
  refine ip 27 [(4, .arr 3 0 (eL ([] : List T_impl_Value)) true)] [] ?_
  refine pwp_imp (Imp.thawS (st' := ⟨27, [(4, .ref 0 0 0 3 (([] : List T_impl_Value)).length false)], [some ⟨0, eL (([] : List T_impl_Value))⟩]⟩) 4 [4] (by kernel_rfl)) ?_
  have h := si h
  subst h
  exact pwp_ret (rt (.ref 0 0 0 3 (([] : List T_impl_Value)).length false) (OutP.list (v := 0) (by kernel_rfl)))
def impl_ColumnsOk (a0 : List T_impl_Column) : Option Bool := bif (decide (((a0.length : Int)) ≤ 4)) then (slices_ContainsFunc_impl_Column_impl_Column a0 impl_ColumnsOk_1).bind fun v1 => some ((!v1)) else some false
theorem ok_impl_ColumnsOk {a0 : List T_impl_Column} {y : Bool} (h : impl_ColumnsOk a0 = some y) : OK Tryz.prog 57 [A a0] (B y) := by
  refine ow Tryz.func57 fun Γ hX => ?_
  unfold impl_ColumnsOk at h
  refine srve 11 [(0, A a0)] [] ?_
  refine srv 4 11 [(0, A a0), (6, B ((decide (((a0.length : Int)) ≤ 4))))] [] ?_
  rcases fk ((decide (((a0.length : Int)) ≤ 4))) with hc3 | hc3
  replace h := bT hc3 h
  rw [hc3]
  refine v 1 11 [(6, B true), (7, A a0)] [] ?_
  obtain ⟨v1, hv2, h⟩ := bindS h
  refine cF 8 (ok_slices_ContainsFunc_impl_Column_impl_Column (rfl) (fun _ w hw => ok_impl_ColumnsOk_1 hw) hv2) ?_
  refine ve 3 11 [(2, B ((!v1)))] [] ?_
  cases h
  exact pwp_ret rz
  replace h := bF hc3 h
  rw [hc3]
  refine ve 5 11 [(2, B false)] [] ?_
  cases h
  exact pwp_ret rz
def impl_ValueOk (a0 : T_impl_Value) : Option Bool := (impl_Value_ok a0).bind fun v1 => some v1
theorem ok_impl_ValueOk {a0 : T_impl_Value} {y : Bool} (h : impl_ValueOk a0 = some y) : OK Tryz.prog 69 [E a0] (B y) := by
  refine ow Tryz.func69 fun Γ hX => ?_
  unfold impl_ValueOk at h
  refine srve 5 [(1, pf a0 0)] [] ?_
  refine srv 1 5 [(3, E a0)] [] ?_
  obtain ⟨v1, hv2, h⟩ := bindS h
  refine cF 4 (ok_impl_Value_ok hv2) ?_
  refine ve 1 5 [(2, B v1)] [] ?_
  cases h
  exact pwp_ret rz
def impl_Part_tells_j0 (a0 : T_impl_Part) (x14 : Bool) : Option Bool := bif x14 then bif (a0.fN == 0) then some ((eq_T_impl_Value a0.fV ((T_impl_Value.mk 0 0 (ByteArray.mk #[]))))) else some false else some false
def impl_Part_tells (a0 : T_impl_Part) (a1 : List T_impl_Column) : Option Bool := bif (a0.fKind == 1) then bif (a0.fN == 0) then (impl_Value_ok a0.fV).bind fun v2 => bif v2 then some ((!(a0.fV.fKind == 0))) else some false else some false else bif (a0.fKind == 2) then (impl_between a0.fN 0 ((w64 (((a1.length : Int)) - 1)))).bind fun v7 => bif v7 then some ((eq_T_impl_Value a0.fV ((T_impl_Value.mk 0 0 (ByteArray.mk #[]))))) else some false else bif (a0.fKind == 4) then (impl_between a0.fN 1 4).bind fun v11 => bif v11 then some ((eq_T_impl_Value a0.fV ((T_impl_Value.mk 0 0 (ByteArray.mk #[]))))) else some false else bif (a0.fKind == 3) then impl_Part_tells_j0 a0 ((a0.fKind == 3)) else bif (a0.fKind == 5) then impl_Part_tells_j0 a0 ((a0.fKind == 5)) else bif (a0.fKind == 6) then impl_Part_tells_j0 a0 ((a0.fKind == 6)) else bif (a0.fKind == 7) then impl_Part_tells_j0 a0 ((a0.fKind == 7)) else impl_Part_tells_j0 a0 ((a0.fKind == 8))
theorem ok_impl_Part_tells {a0 : T_impl_Part} {a1 : List T_impl_Column} {y : Bool} (h : impl_Part_tells a0 a1 = some y) : OK Tryz.prog 80 [E a0, A a1] (B y) := by
  refine ow Tryz.func80 fun Γ hX => ?_
  unfold impl_Part_tells at h
  refine srve 63 [(1, A a1), (2, pf a0 0)] [] ?_
  refine pwp_seq ?_
  refine srve 63 [(1, A a1), (2, pf a0 0), (6, I a0.fKind)] [] ?_
  refine pwp_block ?_
  refine srve 63 [(1, A a1), (2, pf a0 0), (6, I a0.fKind), (7, B ((a0.fKind == 1)))] [] ?_
  refine pc h (fun h => ?_) (fun h => ?_)
  refine srv 4 63 [(2, pf a0 0), (12, B ((a0.fN == 0)))] [] ?_
  rcases fk ((a0.fN == 0)) with hc5 | hc5
  replace h := bT hc5 h
  rw [hc5]
  refine v 2 63 [(2, pf a0 0), (12, B true), (14, E a0.fV)] [] ?_
  obtain ⟨v2, hv3, h⟩ := bindS h
  refine cF 15 (ok_impl_Value_ok hv3) ?_
  refine v 2 63 [(2, pf a0 0), (17, B v2)] [] ?_
  rcases Bool.eq_false_or_eq_true v2 with hc4 | hc4
  replace h := bT hc4 h
  rw [hc4]
  refine ve 6 63 [(4, B ((!(a0.fV.fKind == 0))))] [] ?_
  cases h
  exact pwp_ret rz
  replace h := bF hc4 h
  rw [hc4]
  refine ve 6 63 [(4, B false)] [] ?_
  cases h
  exact pwp_ret rz
  replace h := bF hc5 h
  rw [hc5]
  refine ve 11 63 [(4, B false)] [] ?_
  cases h
  exact pwp_ret rz
  refine srve 63 [(1, A a1), (2, pf a0 0), (6, I a0.fKind), (23, B ((a0.fKind == 2)))] [] ?_
  refine pc h (fun h => ?_) (fun h => ?_)
  refine srv 5 63 [(2, pf a0 0), (26, I a0.fN), (29, I ((w64 (((a1.length : Int)) - 1))))] [] ?_
  obtain ⟨v7, hv8, h⟩ := bindS h
  refine cF 30 (ok_impl_between hv8) ?_
  refine v 1 63 [(2, pf a0 0), (31, B v7)] [] ?_
  rcases Bool.eq_false_or_eq_true v7 with hc9 | hc9
  replace h := bT hc9 h
  rw [hc9]
  refine ve 6 63 [(4, B ((eq_T_impl_Value a0.fV ((T_impl_Value.mk 0 0 (ByteArray.mk #[]))))))] [] ?_
  cases h
  exact pwp_ret rz
  replace h := bF hc9 h
  rw [hc9]
  refine ve 6 63 [(4, B false)] [] ?_
  cases h
  exact pwp_ret rz
  refine srve 63 [(2, pf a0 0), (6, I a0.fKind), (37, B ((a0.fKind == 4)))] [] ?_
  refine pc h (fun h => ?_) (fun h => ?_)
  refine srv 2 63 [(2, pf a0 0), (40, I a0.fN)] [] ?_
  obtain ⟨v11, hv12, h⟩ := bindS h
  refine cF 41 (ok_impl_between hv12) ?_
  refine v 1 63 [(2, pf a0 0), (42, B v11)] [] ?_
  rcases Bool.eq_false_or_eq_true v11 with hc13 | hc13
  replace h := bT hc13 h
  rw [hc13]
  refine ve 6 63 [(4, B ((eq_T_impl_Value a0.fV ((T_impl_Value.mk 0 0 (ByteArray.mk #[]))))))] [] ?_
  cases h
  exact pwp_ret rz
  replace h := bF hc13 h
  rw [hc13]
  refine ve 6 63 [(4, B false)] [] ?_
  cases h
  exact pwp_ret rz
  refine pwp_seq ?_
  refine pwp_join (σ := Bool) (fun x14 => (⟨63, [(2, pf a0 0), (48, B x14)], []⟩ : St)) (fun x14 => impl_Part_tells_j0 a0 x14 = some y) ?_ ?_
  refine srve 63 [(2, pf a0 0), (6, I a0.fKind), (48, B ((a0.fKind == 3)))] [] ?_
  refine pc h (fun h => ?_) (fun h => ?_)
  refine pwp_skip ?_
  exact ⟨(a0.fKind == 3), h, it [2, 48]⟩
  refine srve 63 [(2, pf a0 0), (6, I a0.fKind), (48, B ((a0.fKind == 5)))] [] ?_
  refine pc h (fun h => ?_) (fun h => ?_)
  refine pwp_skip ?_
  exact ⟨(a0.fKind == 5), h, it [2, 48]⟩
  refine srve 63 [(2, pf a0 0), (6, I a0.fKind), (48, B ((a0.fKind == 6)))] [] ?_
  refine pc h (fun h => ?_) (fun h => ?_)
  refine pwp_skip ?_
  exact ⟨(a0.fKind == 6), h, it [2, 48]⟩
  refine srve 63 [(2, pf a0 0), (6, I a0.fKind), (48, B ((a0.fKind == 7)))] [] ?_
  refine pc h (fun h => ?_) (fun h => ?_)
  refine pwp_skip ?_
  exact ⟨(a0.fKind == 7), h, it [2, 48]⟩
  refine rve 63 [(2, pf a0 0), (48, B ((a0.fKind == 8)))] [] ?_
  exact ⟨(a0.fKind == 8), h, it [2, 48]⟩
  rintro x14 h
  unfold impl_Part_tells_j0 at h
  refine pc h (fun h => ?_) (fun h => ?_)
  refine srv 4 63 [(2, pf a0 0), (57, B ((a0.fN == 0)))] [] ?_
  rcases fk ((a0.fN == 0)) with hc16 | hc16
  replace h := bT hc16 h
  rw [hc16]
  refine ve 6 63 [(4, B ((eq_T_impl_Value a0.fV ((T_impl_Value.mk 0 0 (ByteArray.mk #[]))))))] [] ?_
  cases h
  exact pwp_ret rz
  replace h := bF hc16 h
  rw [hc16]
  refine ve 6 63 [(4, B false)] [] ?_
  cases h
  exact pwp_ret rz
  refine pwp_skip ?_
  refine srve 63 [(4, B false)] [] ?_
  cases h
  exact pwp_ret rz
def slices_Concat_impl_Value_impl_Value_s3_l1 (a0 : List (List (List T_impl_Value))) : Nat → Int → (List (List T_impl_Value)) → Option (List (List T_impl_Value))
  | 0, _, _ => none
  | f14 + 1, x12, x13 => bif (decide (x12 < ((a0.length : Int)))) then (getI a0 x12).bind fun v17 => (app x13 v17).bind fun v19 => (slices_Concat_impl_Value_impl_Value_s3_l1 a0 f14) ((w64 (x12 + 1))) v19 else some x13
def slices_Concat_impl_Value_impl_Value_s3_l0 (a0 : List (List (List T_impl_Value))) : Nat → Int → Int → Option (List (List T_impl_Value))
  | 0, _, _ => none
  | f3 + 1, x1, x2 => bif (decide (x2 < ((a0.length : Int)))) then (getI a0 x2).bind fun v6 => bif (decide (((w64 (x1 + ((v6.length : Int))))) < 0)) then none else (slices_Concat_impl_Value_impl_Value_s3_l0 a0 f3) ((w64 (x1 + ((v6.length : Int))))) ((w64 (x2 + 1))) else (slices_Grow_impl_Value_impl_Value_s3_n0 x1).bind fun v9 => slices_Concat_impl_Value_impl_Value_s3_l1 a0 FUEL 0 v9
def slices_Concat_impl_Value_impl_Value_s3 (a0 : List (List (List T_impl_Value))) : Option (List (List T_impl_Value)) := slices_Concat_impl_Value_impl_Value_s3_l0 a0 FUEL 0 0
theorem ok_slices_Concat_impl_Value_impl_Value_s3 {a0 : List (List (List T_impl_Value))} {y : List (List T_impl_Value)} (h : slices_Concat_impl_Value_impl_Value_s3 a0 = some y) : OK Tryz.prog 83 [A a0] (O y) := by
  refine ow Tryz.func83 fun Γ hX => ?_
  unfold slices_Concat_impl_Value_impl_Value_s3 at h
  refine srve 36 [(0, A a0)] [] ?_
  refine srve 36 [(0, A a0), (3, I 0)] [] ?_
  refine pwp_seq ?_
  refine srve 36 [(0, A a0), (3, I 0), (9, A a0), (10, I ((a0.length : Int))), (11, I 0)] [] ?_
  refine pwp_block ?_
  refine pwp_loop (ι := Nat × Int × Int) (fun (f3, x1, x2) => (⟨36, [(0, A a0), (3, I x1), (9, A a0), (10, I ((a0.length : Int))), (11, I x2)], []⟩ : St)) (fun (f3, x1, x2) => slices_Concat_impl_Value_impl_Value_s3_l0 a0 f3 x1 x2 = some y) Prod.fst (FUEL, 0, 0) h (it [0, 3, 9, 10, 11]) ?_
  rintro ⟨f3, x1, x2⟩ h
  dsimp only at h ⊢
  rcases f3 with _ | f3
  cases h
  rw [slices_Concat_impl_Value_impl_Value_s3_l0] at h
  refine srve 36 [(0, A a0), (3, I x1), (9, A a0), (10, I ((a0.length : Int))), (11, I x2), (12, B ((decide (x2 < ((a0.length : Int))))))] [] ?_
  refine pwp_seq ?_
  refine pc h (fun h => ?_) (fun h => ?_)
  refine pwp_skip ?_
  refine pwp_seq ?_
  refine pwp_block ?_
  refine pwp_seq ?_
  refine pwp_region ?_
  obtain ⟨v6, hv7, h⟩ := bindS h
  refine opsP_idx τ_ok 13 hv7 (by kernel_rfl) ?_
  refine ve 2 36 [(0, A a0), (3, I x1), (5, A v6), (9, A a0), (10, I ((a0.length : Int))), (11, I x2)] [] ?_
  refine srve 36 [(0, A a0), (3, I ((w64 (x1 + ((v6.length : Int)))))), (9, A a0), (10, I ((a0.length : Int))), (11, I x2)] [] ?_
  refine srve 36 [(0, A a0), (3, I ((w64 (x1 + ((v6.length : Int)))))), (9, A a0), (10, I ((a0.length : Int))), (11, I x2), (20, B ((decide (((w64 (x1 + ((v6.length : Int))))) < 0))))] [] ?_
  refine pc h (fun h => ?_) (fun h => ?_)
  cases h
  refine pwp_skip ?_
  refine rve 36 [(0, A a0), (3, I ((w64 (x1 + ((v6.length : Int)))))), (9, A a0), (10, I ((a0.length : Int))), (11, I ((w64 (x2 + 1))))] [] ?_
  exact ⟨(f3, (w64 (x1 + ((v6.length : Int)))), (w64 (x2 + 1))), h, Nat.lt_succ_self _, it [0, 3, 9, 10, 11]⟩
  refine pwp_exit ?_
  refine srv 1 36 [(0, A a0), (23, I x1)] [] ?_
  obtain ⟨v9, hv10, h⟩ := bindS h
  refine opsP_callH τ 24 (ok_slices_Grow_impl_Value_impl_Value_s3_n0 hv10) rfl (by kernel_rfl) ?_
  refine ve 1 36 [(0, A a0), (6, rf 0 0 1 v9)] [sl 0 v9] ?_
  refine pwp_seq ?_
  refine srve 36 [(6, rf 0 0 1 v9), (25, A a0), (26, I ((a0.length : Int))), (27, I 0)] [sl 0 v9] ?_
  refine pwp_block ?_
  refine pwp_loop (ι := Nat × Int × (List (List T_impl_Value))) (fun (f14, x12, x13) => (⟨36, [(6, rf 0 0 1 x13), (25, A a0), (26, I ((a0.length : Int))), (27, I x12)], [sl 0 x13]⟩ : St)) (fun (f14, x12, x13) => slices_Concat_impl_Value_impl_Value_s3_l1 a0 f14 x12 x13 = some y) Prod.fst (FUEL, 0, v9) h (it [6, 25, 26, 27]) ?_
  rintro ⟨f14, x12, x13⟩ h
  dsimp only at h ⊢
  rcases f14 with _ | f14
  cases h
  rw [slices_Concat_impl_Value_impl_Value_s3_l1] at h
  refine srve 36 [(6, rf 0 0 1 x13), (25, A a0), (26, I ((a0.length : Int))), (27, I x12), (28, B ((decide (x12 < ((a0.length : Int))))))] [sl 0 x13] ?_
  refine pwp_seq ?_
  refine pc h (fun h => ?_) (fun h => ?_)
  refine pwp_skip ?_
  refine pwp_seq ?_
  refine pwp_block ?_
  refine pwp_seq ?_
  refine pwp_region ?_
  obtain ⟨v17, hv18, h⟩ := bindS h
  refine opsP_idx τ_ok 29 hv18 (by kernel_rfl) ?_
  refine ve 2 36 [(6, rf 0 0 1 x13), (8, A v17), (25, A a0), (26, I ((a0.length : Int))), (27, I x12)] [sl 0 x13] ?_
  refine rv 2 36 [(25, A a0), (26, I ((a0.length : Int))), (27, I x12), (31, rf 0 0 1 x13), (32, A v17)] [sl 0 x13] ?_
  obtain ⟨v19, hv20, h⟩ := bindS h
  refine opsP_app τ_ok 33 0 0 (nx hX) hv20 (by kernel_rfl) ?_
  refine ve 1 36 [(6, rf 0 1 1 v19), (25, A a0), (26, I ((a0.length : Int))), (27, I x12)] [sl 1 v19] ?_
  refine rve 36 [(6, rf 0 1 1 v19), (25, A a0), (26, I ((a0.length : Int))), (27, I ((w64 (x12 + 1))))] [sl 1 v19] ?_
  exact ⟨(f14, (w64 (x12 + 1)), v19), h, Nat.lt_succ_self _, (it (st' := ⟨36, [(6, rf 0 1 1 v19), (25, A a0), (26, I ((a0.length : Int))), (27, I ((w64 (x12 + 1))))], [sl 1 v19]⟩) [6, 25, 26, 27]).trans (Imp.reverS 0 1 (eL v19) [6, 25, 26, 27] (by kernel_rfl) (by exact (And.intro (eL_frz _) trivial)) (by kernel_rfl))⟩
  refine pwp_exit ?_
  refine srve 36 [(2, rf 0 0 1 x13)] [sl 0 x13] ?_
  have h := si h
  subst h
  exact pwp_ret (rt (rf 0 0 1 x13) (OutP.list (v := 0) (by kernel_rfl)))
def impl_rowsCopy_l0 (a0 : List (List T_impl_Value)) : Nat → Int → (List (List T_impl_Value)) → Option (List (List T_impl_Value))
  | 0, _, _ => none
  | f4 + 1, x2, x3 => bif (decide (x2 < ((a0.length : Int)))) then (getI a0 x2).bind fun v7 => (impl_clone_impl_Value v7).bind fun v9 => (app x3 (([v9] : List (List T_impl_Value)))).bind fun v11 => (impl_rowsCopy_l0 a0 f4) ((w64 (x2 + 1))) v11 else (slices_Clip_impl_Value_impl_Value_s3 x3).bind fun v13 => some v13
def impl_rowsCopy (a0 : List (List T_impl_Value)) : Option (List (List T_impl_Value)) := impl_rowsCopy_l0 a0 FUEL 0 (([] : List (List T_impl_Value)))
theorem ok_impl_rowsCopy {a0 : List (List T_impl_Value)} {y : List (List T_impl_Value)} (h : impl_rowsCopy a0 = some y) : OK Tryz.prog 91 [A a0] (A y) := by
  refine ow Tryz.func91 fun Γ hX => ?_
  unfold impl_rowsCopy at h
  refine srve 20 [(0, A a0)] [] ?_
  refine srve 20 [(0, A a0), (3, .arr 1 0 (eL ([] : List (List T_impl_Value))) true)] [] ?_
  refine pwp_seq ?_
  refine srve 20 [(3, .arr 1 0 (eL ([] : List (List T_impl_Value))) true), (6, A a0), (7, I ((a0.length : Int))), (8, I 0)] [] ?_
  refine pwp_block ?_
  refine pwp_loop (ι := Nat × Int × (List (List T_impl_Value))) (fun (f4, x2, x3) => (⟨20, [(3, rf 0 0 1 x3), (6, A a0), (7, I ((a0.length : Int))), (8, I x2)], [sl 0 x3]⟩ : St)) (fun (f4, x2, x3) => impl_rowsCopy_l0 a0 f4 x2 x3 = some y) Prod.fst (FUEL, 0, ([] : List (List T_impl_Value))) h (Imp.thawS 3 [3, 6, 7, 8] (by kernel_rfl)) ?_
  rintro ⟨f4, x2, x3⟩ h
  dsimp only at h ⊢
  rcases f4 with _ | f4
  cases h
  rw [impl_rowsCopy_l0] at h
  refine srve 20 [(3, rf 0 0 1 x3), (6, A a0), (7, I ((a0.length : Int))), (8, I x2), (9, B ((decide (x2 < ((a0.length : Int))))))] [sl 0 x3] ?_
  refine pwp_seq ?_
  refine pc h (fun h => ?_) (fun h => ?_)
  refine pwp_skip ?_
  refine pwp_seq ?_
  refine pwp_block ?_
  refine pwp_seq ?_
  refine pwp_region ?_
  obtain ⟨v7, hv8, h⟩ := bindS h
  refine opsP_idx τ_ok 10 hv8 (by kernel_rfl) ?_
  refine ve 2 20 [(3, rf 0 0 1 x3), (5, A v7), (6, A a0), (7, I ((a0.length : Int))), (8, I x2)] [sl 0 x3] ?_
  refine rv 2 20 [(6, A a0), (7, I ((a0.length : Int))), (8, I x2), (12, rf 0 0 1 x3), (13, A v7)] [sl 0 x3] ?_
  obtain ⟨v9, hv10, h⟩ := bindS h
  refine cF 14 (ok_impl_clone_impl_Value hv10) ?_
  refine v 1 20 [(6, A a0), (7, I ((a0.length : Int))), (8, I x2), (12, rf 0 0 1 x3), (15, .arr 1 (([v9] : List (List T_impl_Value))).length (eL ([v9] : List (List T_impl_Value))) true)] [sl 0 x3] ?_
  obtain ⟨v11, hv12, h⟩ := bindS h
  refine opsP_app τ_ok 16 0 0 (nx hX) hv12 (by kernel_rfl) ?_
  refine ve 1 20 [(3, rf 0 1 1 v11), (6, A a0), (7, I ((a0.length : Int))), (8, I x2)] [sl 1 v11] ?_
  refine rve 20 [(3, rf 0 1 1 v11), (6, A a0), (7, I ((a0.length : Int))), (8, I ((w64 (x2 + 1))))] [sl 1 v11] ?_
  exact ⟨(f4, (w64 (x2 + 1)), v11), h, Nat.lt_succ_self _, (it (st' := ⟨20, [(3, rf 0 1 1 v11), (6, A a0), (7, I ((a0.length : Int))), (8, I ((w64 (x2 + 1))))], [sl 1 v11]⟩) [3, 6, 7, 8]).trans (Imp.reverS 0 1 (eL v11) [3, 6, 7, 8] (by kernel_rfl) (by exact (And.intro (eL_frz _) trivial)) (by kernel_rfl))⟩
  refine pwp_exit ?_
  refine srv 1 20 [(18, rf 0 0 1 x3)] [sl 0 x3] ?_
  refine opsP_imp ((Imp.freezeB (v := 0) (cs := eL x3) (st' := ⟨20, [(18, A x3)], [none]⟩) 0 0 (nx hX) (by kernel_rfl) (eL_frz _) (wholeC (whole_is (eL_len x3).symm) wholeC0) (HpRel.key HpRel.nil) (by kernel_rfl) rfl (nx hX))) ?_
  obtain ⟨v13, hv14, h⟩ := bindS h
  refine cF 19 (ok_slices_Clip_impl_Value_impl_Value_s3 hv14) ?_
  refine ve 1 20 [(2, A v13)] [none] ?_
  cases h
  exact pwp_ret rz
def spec_l20Bag_j1 (x5 : Int) (K9 : Int → T_spec_l20Rd → (List (List T_impl_Value)) → Option ((List (List T_impl_Value)) × T_spec_l20Rd)) (x11 : T_spec_l20Rd) (x12 : List (List T_impl_Value)) : Option ((List (List T_impl_Value)) × T_spec_l20Rd) := K9 ((w64 (x5 - 1))) x11 x12
def spec_l20Bag_j2 (a1 : List T_impl_Column) (a2 : Int) (x5 : Int) (x7 : List (List T_impl_Value)) (K9 : Int → T_spec_l20Rd → (List (List T_impl_Value)) → Option ((List (List T_impl_Value)) × T_spec_l20Rd)) (x13 : Bool) (x14 : T_spec_l20Rd) : Option ((List (List T_impl_Value)) × T_spec_l20Rd) := bif x13 then (spec_l20Rd_pick x14 ((x7.length : Int))).bind fun v16 => (getI x7 v16.1).bind fun v18 => (spec_l3Own v18).bind fun v20 => (app x7 (([v20] : List (List T_impl_Value)))).bind fun v22 => spec_l20Bag_j1 x5 K9 v16.2 v22 else (spec_l20Fit x14 a1 a2).bind fun v24 => (app x7 (([v24.1] : List (List T_impl_Value)))).bind fun v26 => spec_l20Bag_j1 x5 K9 v24.2 v26
def spec_l20Bag_l0 (a1 : List T_impl_Column) (a2 : Int) : Nat → Int → T_spec_l20Rd → (List (List T_impl_Value)) → Option ((List (List T_impl_Value)) × T_spec_l20Rd)
  | 0, _, _, _ => none
  | f8 + 1, x5, x6, x7 => bif (decide (x5 > 0)) then bif (decide (((x7.length : Int)) > 0)) then (spec_l20Rd_pick x6 3).bind fun v28 => spec_l20Bag_j2 a1 a2 x5 x7 (spec_l20Bag_l0 a1 a2 f8) ((v28.1 == 0)) v28.2 else spec_l20Bag_j2 a1 a2 x5 x7 (spec_l20Bag_l0 a1 a2 f8) false x6 else some (x7, x6)
def spec_l20Bag (a0 : T_spec_l20Rd) (a1 : List T_impl_Column) (a2 : Int) : Option ((List (List T_impl_Value)) × T_spec_l20Rd) := (spec_l20Rd_pick a0 7).bind fun v1 => spec_l20Bag_l0 a1 a2 FUEL v1.1 v1.2 (([] : List (List T_impl_Value)))
theorem ok_spec_l20Bag {a0 : T_spec_l20Rd} {a1 : List T_impl_Column} {a2 : Int} {y : (List (List T_impl_Value)) × T_spec_l20Rd} (h : spec_l20Bag a0 a1 a2 = some y) : OKb Tryz.prog 129 (Enc.cells a0) [A a1, I a2] (O y.1) (Enc.cells y.2) := by
  refine OKb_of_pwp τ_ok Tryz.func129 rfl (by kernel_rfl) rfl (Enc.frz _) (Enc.frz _) fun Γ hQ => ?_
  unfold spec_l20Bag at h
  refine srve 43 [(0, .ptr 0 0 0), (1, A a1), (2, I a2)] [sc 0 a0] ?_
  refine srve 43 [(0, .ptr 0 0 0), (1, A a1), (2, I a2), (7, .arr 1 0 (eL ([] : List (List T_impl_Value))) true)] [sc 0 a0] ?_
  refine pwp_seq ?_
  refine srv 1 43 [(0, .ptr 0 0 0), (1, A a1), (2, I a2), (7, .arr 1 0 (eL ([] : List (List T_impl_Value))) true), (10, .ptr 0 0 0)] [sc 0 a0] ?_
  obtain ⟨v1, hv2, h⟩ := bindS h
  refine cB 11 0 0 (ok_spec_l20Rd_pick hv2) ?_
  refine ve 1 43 [(0, .ptr 0 0 0), (1, A a1), (2, I a2), (7, .arr 1 0 (eL ([] : List (List T_impl_Value))) true), (8, I v1.1)] [sc 0 v1.2] ?_
  refine pwp_block ?_
  refine pwp_loop (ι := Nat × Int × T_spec_l20Rd × (List (List T_impl_Value))) (fun (f8, x5, x6, x7) => (⟨43, [(0, .ptr 0 0 0), (1, A a1), (2, I a2), (7, rf 1 0 1 x7), (8, I x5)], [sc 0 x6, sl 0 x7]⟩ : St)) (fun (f8, x5, x6, x7) => spec_l20Bag_l0 a1 a2 f8 x5 x6 x7 = some y) Prod.fst (FUEL, v1.1, v1.2, ([] : List (List T_impl_Value))) h (Imp.thawS 7 [0, 1, 2, 7, 8] (by kernel_rfl)) ?_
  rintro ⟨f8, x5, x6, x7⟩ h
  dsimp only at h ⊢
  rcases f8 with _ | f8
  cases h
  rw [spec_l20Bag_l0] at h
  refine pwp_seq ?_
  refine srve 43 [(0, .ptr 0 0 0), (1, A a1), (2, I a2), (7, rf 1 0 1 x7), (8, I x5), (13, B ((decide (x5 > 0))))] [sc 0 x6, sl 0 x7] ?_
  refine pc h (fun h => ?_) (fun h => ?_)
  refine pwp_skip ?_
  refine pwp_seq ?_
  refine pwp_join (σ := T_spec_l20Rd × (List (List T_impl_Value))) (fun (x11, x12) => (⟨43, [(0, .ptr 0 0 0), (1, A a1), (2, I a2), (7, rf 1 0 1 x12), (8, I x5)], [sc 0 x11, sl 0 x12]⟩ : St)) (fun (x11, x12) => spec_l20Bag_j1 x5 (spec_l20Bag_l0 a1 a2 f8) x11 x12 = some y) ?_ ?_
  refine pwp_block ?_
  refine pwp_seq ?_
  refine pwp_join (σ := Bool × T_spec_l20Rd) (fun (x13, x14) => (⟨43, [(0, .ptr 0 0 0), (1, A a1), (2, I a2), (7, rf 1 0 1 x7), (8, I x5), (23, B x13)], [sc 0 x14, sl 0 x7]⟩ : St)) (fun (x13, x14) => spec_l20Bag_j2 a1 a2 x5 x7 (spec_l20Bag_l0 a1 a2 f8) x13 x14 = some y) ?_ ?_
  refine rv 4 43 [(0, .ptr 0 0 0), (1, A a1), (2, I a2), (7, rf 1 0 1 x7), (8, I x5), (19, B ((decide (((x7.length : Int)) > 0))))] [sc 0 x6, sl 0 x7] ?_
  rcases fk ((decide (((x7.length : Int)) > 0))) with hc30 | hc30
  replace h := bT hc30 h
  rw [hc30]
  refine v 1 43 [(0, .ptr 0 0 0), (1, A a1), (2, I a2), (7, rf 1 0 1 x7), (8, I x5), (19, B true), (20, .ptr 0 0 0)] [sc 0 x6, sl 0 x7] ?_
  obtain ⟨v28, hv29, h⟩ := bindS h
  refine cB 21 0 0 (ok_spec_l20Rd_pick hv29) ?_
  refine ve 2 43 [(0, .ptr 0 0 0), (1, A a1), (2, I a2), (7, rf 1 0 1 x7), (8, I x5), (20, .ptr 0 0 0), (21, I v28.1), (22, B ((v28.1 == 0))), (23, B ((v28.1 == 0)))] [sc 0 v28.2, sl 0 x7] ?_
  exact ⟨((v28.1 == 0), v28.2), h, it [0, 1, 2, 7, 8, 23]⟩
  replace h := bF hc30 h
  rw [hc30]
  refine ve 4 43 [(0, .ptr 0 0 0), (1, A a1), (2, I a2), (7, rf 1 0 1 x7), (8, I x5), (20, .lit undef), (21, .lit undef), (22, .lit undef), (23, B false)] [sc 0 x6, sl 0 x7] ?_
  exact ⟨(false, x6), h, it [0, 1, 2, 7, 8, 23]⟩
  rintro ⟨x13, x14⟩ h
  dsimp only at h ⊢
  unfold spec_l20Bag_j2 at h
  refine pc h (fun h => ?_) (fun h => ?_)
  refine rv 5 43 [(0, .ptr 0 0 0), (1, A a1), (2, I a2), (8, I x5), (24, rf 1 0 1 x7), (25, rf 1 0 1 x7), (26, .ptr 0 0 0), (28, I ((x7.length : Int)))] [sc 0 x14, sl 0 x7] ?_
  obtain ⟨v16, hv17, h⟩ := bindS h
  refine cB 29 0 0 (ok_spec_l20Rd_pick hv17) ?_
  obtain ⟨v18, hv19, h⟩ := bindS h
  refine opsP_idr τ_ok 30 1 0 x7.length hv19 rfl (by kernel_rfl) ?_
  refine opsP_lde (r := A v18) τ_ok 31 50 0 hv19 (by kernel_rfl) (by kernel_rfl) ?_
  obtain ⟨v20, hv21, h⟩ := bindS h
  refine cFo 32 (ok_spec_l3Own hv21) ?_
  refine v 1 43 [(0, .ptr 0 0 0), (1, A a1), (2, I a2), (8, I x5), (24, rf 1 0 1 x7), (33, .arr 1 (([v20] : List (List T_impl_Value))).length (eL ([v20] : List (List T_impl_Value))) true)] [sc 0 v16.2, sl 0 x7] ?_
  obtain ⟨v22, hv23, h⟩ := bindS h
  refine opsP_app τ_ok 34 1 0 (pn hQ) hv23 (by kernel_rfl) ?_
  refine ve 1 43 [(0, .ptr 0 0 0), (1, A a1), (2, I a2), (7, rf 1 1 1 v22), (8, I x5)] [sc 0 v16.2, sl 1 v22] ?_
  exact ⟨(v16.2, v22), h, (it (st' := ⟨43, [(0, .ptr 0 0 0), (1, A a1), (2, I a2), (7, rf 1 1 1 v22), (8, I x5)], [sc 0 v16.2, sl 1 v22]⟩) [0, 1, 2, 7, 8]).trans (Imp.reverS 1 1 (eL v22) [0, 1, 2, 7, 8] (by kernel_rfl) (by exact (And.intro (rfl) (And.intro (eL_frz _) trivial))) (by kernel_rfl))⟩
  refine rv 4 43 [(0, .ptr 0 0 0), (1, A a1), (2, I a2), (8, I x5), (35, rf 1 0 1 x7), (36, .ptr 0 0 0), (37, A a1), (38, I a2)] [sc 0 x14, sl 0 x7] ?_
  obtain ⟨v24, hv25, h⟩ := bindS h
  refine cBo 39 0 0 (ok_spec_l20Fit hv25) ?_
  refine v 1 43 [(0, .ptr 0 0 0), (1, A a1), (2, I a2), (8, I x5), (35, rf 1 0 1 x7), (40, .arr 1 (([v24.1] : List (List T_impl_Value))).length (eL ([v24.1] : List (List T_impl_Value))) true)] [sc 0 v24.2, sl 0 x7] ?_
  obtain ⟨v26, hv27, h⟩ := bindS h
  refine opsP_app τ_ok 41 1 0 (pn hQ) hv27 (by kernel_rfl) ?_
  refine ve 1 43 [(0, .ptr 0 0 0), (1, A a1), (2, I a2), (7, rf 1 1 1 v26), (8, I x5)] [sc 0 v24.2, sl 1 v26] ?_
  exact ⟨(v24.2, v26), h, (it (st' := ⟨43, [(0, .ptr 0 0 0), (1, A a1), (2, I a2), (7, rf 1 1 1 v26), (8, I x5)], [sc 0 v24.2, sl 1 v26]⟩) [0, 1, 2, 7, 8]).trans (Imp.reverS 1 1 (eL v26) [0, 1, 2, 7, 8] (by kernel_rfl) (by exact (And.intro (rfl) (And.intro (eL_frz _) trivial))) (by kernel_rfl))⟩
  rintro ⟨x11, x12⟩ h
  dsimp only at h ⊢
  unfold spec_l20Bag_j1 at h
  refine rve 43 [(0, .ptr 0 0 0), (1, A a1), (2, I a2), (7, rf 1 0 1 x12), (8, I ((w64 (x5 - 1))))] [sc 0 x11, sl 0 x12] ?_
  exact ⟨(f8, (w64 (x5 - 1)), x11, x12), h, Nat.lt_succ_self _, it [0, 1, 2, 7, 8]⟩
  refine pwp_exit ?_
  refine srve 43 [(6, rf 1 0 1 x7)] [sc 0 x6, sl 0 x7] ?_
  have h := si h
  subst h
  exact pwp_ret ⟨.inr rfl, rf 1 0 1 x7, _, 0, by kernel_rfl, (OutP.list (v := 0) (by kernel_rfl)), by decide, by decide, by kernel_rfl⟩
def impl_RowOk (a0 : List T_impl_Value) : Option Bool := bif (decide (((a0.length : Int)) ≤ 4)) then (slices_ContainsFunc_impl_Value_impl_Value a0 impl_RowOk_1).bind fun v1 => some ((!v1)) else some false
theorem ok_impl_RowOk {a0 : List T_impl_Value} {y : Bool} (h : impl_RowOk a0 = some y) : OK Tryz.prog 135 [A a0] (B y) := by
  refine ow Tryz.func135 fun Γ hX => ?_
  unfold impl_RowOk at h
  refine srve 11 [(0, A a0)] [] ?_
  refine srv 4 11 [(0, A a0), (6, B ((decide (((a0.length : Int)) ≤ 4))))] [] ?_
  rcases fk ((decide (((a0.length : Int)) ≤ 4))) with hc3 | hc3
  replace h := bT hc3 h
  rw [hc3]
  refine v 1 11 [(6, B true), (7, A a0)] [] ?_
  obtain ⟨v1, hv2, h⟩ := bindS h
  refine cF 8 (ok_slices_ContainsFunc_impl_Value_impl_Value (rfl) (fun _ w hw => ok_impl_RowOk_1 hw) hv2) ?_
  refine ve 3 11 [(2, B ((!v1)))] [] ?_
  cases h
  exact pwp_ret rz
  replace h := bF hc3 h
  rw [hc3]
  refine ve 5 11 [(2, B false)] [] ?_
  cases h
  exact pwp_ret rz
def slices_Concat_impl_Column_impl_Column_l1 (a0 : List (List T_impl_Column)) : Nat → Int → (List T_impl_Column) → Option (List T_impl_Column)
  | 0, _, _ => none
  | f14 + 1, x12, x13 => bif (decide (x12 < ((a0.length : Int)))) then (getI a0 x12).bind fun v17 => (app x13 v17).bind fun v19 => (slices_Concat_impl_Column_impl_Column_l1 a0 f14) ((w64 (x12 + 1))) v19 else some x13
def slices_Concat_impl_Column_impl_Column_l0 (a0 : List (List T_impl_Column)) : Nat → Int → Int → Option (List T_impl_Column)
  | 0, _, _ => none
  | f3 + 1, x1, x2 => bif (decide (x2 < ((a0.length : Int)))) then (getI a0 x2).bind fun v6 => bif (decide (((w64 (x1 + ((v6.length : Int))))) < 0)) then none else (slices_Concat_impl_Column_impl_Column_l0 a0 f3) ((w64 (x1 + ((v6.length : Int))))) ((w64 (x2 + 1))) else (slices_Grow_impl_Column_impl_Column_n0 x1).bind fun v9 => slices_Concat_impl_Column_impl_Column_l1 a0 FUEL 0 v9
def slices_Concat_impl_Column_impl_Column (a0 : List (List T_impl_Column)) : Option (List T_impl_Column) := slices_Concat_impl_Column_impl_Column_l0 a0 FUEL 0 0
theorem ok_slices_Concat_impl_Column_impl_Column {a0 : List (List T_impl_Column)} {y : List T_impl_Column} (h : slices_Concat_impl_Column_impl_Column a0 = some y) : OK Tryz.prog 138 [A a0] (O y) := by
  refine ow Tryz.func138 fun Γ hX => ?_
  unfold slices_Concat_impl_Column_impl_Column at h
  refine srve 36 [(0, A a0)] [] ?_
  refine srve 36 [(0, A a0), (3, I 0)] [] ?_
  refine pwp_seq ?_
  refine srve 36 [(0, A a0), (3, I 0), (9, A a0), (10, I ((a0.length : Int))), (11, I 0)] [] ?_
  refine pwp_block ?_
  refine pwp_loop (ι := Nat × Int × Int) (fun (f3, x1, x2) => (⟨36, [(0, A a0), (3, I x1), (9, A a0), (10, I ((a0.length : Int))), (11, I x2)], []⟩ : St)) (fun (f3, x1, x2) => slices_Concat_impl_Column_impl_Column_l0 a0 f3 x1 x2 = some y) Prod.fst (FUEL, 0, 0) h (it [0, 3, 9, 10, 11]) ?_
  rintro ⟨f3, x1, x2⟩ h
  dsimp only at h ⊢
  rcases f3 with _ | f3
  cases h
  rw [slices_Concat_impl_Column_impl_Column_l0] at h
  refine srve 36 [(0, A a0), (3, I x1), (9, A a0), (10, I ((a0.length : Int))), (11, I x2), (12, B ((decide (x2 < ((a0.length : Int))))))] [] ?_
  refine pwp_seq ?_
  refine pc h (fun h => ?_) (fun h => ?_)
  refine pwp_skip ?_
  refine pwp_seq ?_
  refine pwp_block ?_
  refine pwp_seq ?_
  refine pwp_region ?_
  obtain ⟨v6, hv7, h⟩ := bindS h
  refine opsP_idx τ_ok 13 hv7 (by kernel_rfl) ?_
  refine ve 2 36 [(0, A a0), (3, I x1), (5, A v6), (9, A a0), (10, I ((a0.length : Int))), (11, I x2)] [] ?_
  refine srve 36 [(0, A a0), (3, I ((w64 (x1 + ((v6.length : Int)))))), (9, A a0), (10, I ((a0.length : Int))), (11, I x2)] [] ?_
  refine srve 36 [(0, A a0), (3, I ((w64 (x1 + ((v6.length : Int)))))), (9, A a0), (10, I ((a0.length : Int))), (11, I x2), (20, B ((decide (((w64 (x1 + ((v6.length : Int))))) < 0))))] [] ?_
  refine pc h (fun h => ?_) (fun h => ?_)
  cases h
  refine pwp_skip ?_
  refine rve 36 [(0, A a0), (3, I ((w64 (x1 + ((v6.length : Int)))))), (9, A a0), (10, I ((a0.length : Int))), (11, I ((w64 (x2 + 1))))] [] ?_
  exact ⟨(f3, (w64 (x1 + ((v6.length : Int)))), (w64 (x2 + 1))), h, Nat.lt_succ_self _, it [0, 3, 9, 10, 11]⟩
  refine pwp_exit ?_
  refine srv 1 36 [(0, A a0), (23, I x1)] [] ?_
  obtain ⟨v9, hv10, h⟩ := bindS h
  refine opsP_callH τ 24 (ok_slices_Grow_impl_Column_impl_Column_n0 hv10) rfl (by kernel_rfl) ?_
  refine ve 1 36 [(0, A a0), (6, rf 0 0 2 v9)] [sl 0 v9] ?_
  refine pwp_seq ?_
  refine srve 36 [(6, rf 0 0 2 v9), (25, A a0), (26, I ((a0.length : Int))), (27, I 0)] [sl 0 v9] ?_
  refine pwp_block ?_
  refine pwp_loop (ι := Nat × Int × (List T_impl_Column)) (fun (f14, x12, x13) => (⟨36, [(6, rf 0 0 2 x13), (25, A a0), (26, I ((a0.length : Int))), (27, I x12)], [sl 0 x13]⟩ : St)) (fun (f14, x12, x13) => slices_Concat_impl_Column_impl_Column_l1 a0 f14 x12 x13 = some y) Prod.fst (FUEL, 0, v9) h (it [6, 25, 26, 27]) ?_
  rintro ⟨f14, x12, x13⟩ h
  dsimp only at h ⊢
  rcases f14 with _ | f14
  cases h
  rw [slices_Concat_impl_Column_impl_Column_l1] at h
  refine srve 36 [(6, rf 0 0 2 x13), (25, A a0), (26, I ((a0.length : Int))), (27, I x12), (28, B ((decide (x12 < ((a0.length : Int))))))] [sl 0 x13] ?_
  refine pwp_seq ?_
  refine pc h (fun h => ?_) (fun h => ?_)
  refine pwp_skip ?_
  refine pwp_seq ?_
  refine pwp_block ?_
  refine pwp_seq ?_
  refine pwp_region ?_
  obtain ⟨v17, hv18, h⟩ := bindS h
  refine opsP_idx τ_ok 29 hv18 (by kernel_rfl) ?_
  refine ve 2 36 [(6, rf 0 0 2 x13), (8, A v17), (25, A a0), (26, I ((a0.length : Int))), (27, I x12)] [sl 0 x13] ?_
  refine rv 2 36 [(25, A a0), (26, I ((a0.length : Int))), (27, I x12), (31, rf 0 0 2 x13), (32, A v17)] [sl 0 x13] ?_
  obtain ⟨v19, hv20, h⟩ := bindS h
  refine opsP_app τ_ok 33 0 0 (nx hX) hv20 (by kernel_rfl) ?_
  refine ve 1 36 [(6, rf 0 1 2 v19), (25, A a0), (26, I ((a0.length : Int))), (27, I x12)] [sl 1 v19] ?_
  refine rve 36 [(6, rf 0 1 2 v19), (25, A a0), (26, I ((a0.length : Int))), (27, I ((w64 (x12 + 1))))] [sl 1 v19] ?_
  exact ⟨(f14, (w64 (x12 + 1)), v19), h, Nat.lt_succ_self _, (it (st' := ⟨36, [(6, rf 0 1 2 v19), (25, A a0), (26, I ((a0.length : Int))), (27, I ((w64 (x12 + 1))))], [sl 1 v19]⟩) [6, 25, 26, 27]).trans (Imp.reverS 0 1 (eL v19) [6, 25, 26, 27] (by kernel_rfl) (by exact (And.intro (eL_frz _) trivial)) (by kernel_rfl))⟩
  refine pwp_exit ?_
  refine srve 36 [(2, rf 0 0 2 x13)] [sl 0 x13] ?_
  have h := si h
  subst h
  exact pwp_ret (rt (rf 0 0 2 x13) (OutP.list (v := 0) (by kernel_rfl)))
def impl_Part_kind_1 (a0 : Int) (b0 : List Int) : Option Bool := (slices_ContainsFunc_int_int b0 (fun z0 => impl_Part_kind_1_1 z0 a0)).bind fun v1 => some ((!v1))
theorem ok_impl_Part_kind_1 {a0 : Int} {b0 : List Int} {y : Bool} (h : impl_Part_kind_1 a0 b0 = some y) : OK Tryz.prog 139 [I a0, pf b0 0] (B y) := by
  refine ow Tryz.func139 fun Γ hX => ?_
  unfold impl_Part_kind_1 at h
  refine srve 8 [(1, pf b0 0), (2, pf a0 0)] [] ?_
  refine srv 2 8 [(4, A b0), (5, .fn 141 [pf a0 0])] [] ?_
  obtain ⟨v1, hv2, h⟩ := bindS h
  refine cF 6 (ok_slices_ContainsFunc_int_int (rfl) (fun _ w hw => ok_impl_Part_kind_1_1 hw) hv2) ?_
  refine ve 2 8 [(3, B ((!v1)))] [] ?_
  cases h
  exact pwp_ret rz
def slices_Concat_impl_Value_impl_Value_l1 (a0 : List (List T_impl_Value)) : Nat → Int → (List T_impl_Value) → Option (List T_impl_Value)
  | 0, _, _ => none
  | f14 + 1, x12, x13 => bif (decide (x12 < ((a0.length : Int)))) then (getI a0 x12).bind fun v17 => (app x13 v17).bind fun v19 => (slices_Concat_impl_Value_impl_Value_l1 a0 f14) ((w64 (x12 + 1))) v19 else some x13
def slices_Concat_impl_Value_impl_Value_l0 (a0 : List (List T_impl_Value)) : Nat → Int → Int → Option (List T_impl_Value)
  | 0, _, _ => none
  | f3 + 1, x1, x2 => bif (decide (x2 < ((a0.length : Int)))) then (getI a0 x2).bind fun v6 => bif (decide (((w64 (x1 + ((v6.length : Int))))) < 0)) then none else (slices_Concat_impl_Value_impl_Value_l0 a0 f3) ((w64 (x1 + ((v6.length : Int))))) ((w64 (x2 + 1))) else (slices_Grow_impl_Value_impl_Value_n0 x1).bind fun v9 => slices_Concat_impl_Value_impl_Value_l1 a0 FUEL 0 v9
def slices_Concat_impl_Value_impl_Value (a0 : List (List T_impl_Value)) : Option (List T_impl_Value) := slices_Concat_impl_Value_impl_Value_l0 a0 FUEL 0 0
theorem ok_slices_Concat_impl_Value_impl_Value {a0 : List (List T_impl_Value)} {y : List T_impl_Value} (h : slices_Concat_impl_Value_impl_Value a0 = some y) : OK Tryz.prog 146 [A a0] (O y) := by
  refine ow Tryz.func146 fun Γ hX => ?_
  unfold slices_Concat_impl_Value_impl_Value at h
  refine srve 36 [(0, A a0)] [] ?_
  refine srve 36 [(0, A a0), (3, I 0)] [] ?_
  refine pwp_seq ?_
  refine srve 36 [(0, A a0), (3, I 0), (9, A a0), (10, I ((a0.length : Int))), (11, I 0)] [] ?_
  refine pwp_block ?_
  refine pwp_loop (ι := Nat × Int × Int) (fun (f3, x1, x2) => (⟨36, [(0, A a0), (3, I x1), (9, A a0), (10, I ((a0.length : Int))), (11, I x2)], []⟩ : St)) (fun (f3, x1, x2) => slices_Concat_impl_Value_impl_Value_l0 a0 f3 x1 x2 = some y) Prod.fst (FUEL, 0, 0) h (it [0, 3, 9, 10, 11]) ?_
  rintro ⟨f3, x1, x2⟩ h
  dsimp only at h ⊢
  rcases f3 with _ | f3
  cases h
  rw [slices_Concat_impl_Value_impl_Value_l0] at h
  refine srve 36 [(0, A a0), (3, I x1), (9, A a0), (10, I ((a0.length : Int))), (11, I x2), (12, B ((decide (x2 < ((a0.length : Int))))))] [] ?_
  refine pwp_seq ?_
  refine pc h (fun h => ?_) (fun h => ?_)
  refine pwp_skip ?_
  refine pwp_seq ?_
  refine pwp_block ?_
  refine pwp_seq ?_
  refine pwp_region ?_
  obtain ⟨v6, hv7, h⟩ := bindS h
  refine opsP_idx τ_ok 13 hv7 (by kernel_rfl) ?_
  refine ve 2 36 [(0, A a0), (3, I x1), (5, A v6), (9, A a0), (10, I ((a0.length : Int))), (11, I x2)] [] ?_
  refine srve 36 [(0, A a0), (3, I ((w64 (x1 + ((v6.length : Int)))))), (9, A a0), (10, I ((a0.length : Int))), (11, I x2)] [] ?_
  refine srve 36 [(0, A a0), (3, I ((w64 (x1 + ((v6.length : Int)))))), (9, A a0), (10, I ((a0.length : Int))), (11, I x2), (20, B ((decide (((w64 (x1 + ((v6.length : Int))))) < 0))))] [] ?_
  refine pc h (fun h => ?_) (fun h => ?_)
  cases h
  refine pwp_skip ?_
  refine rve 36 [(0, A a0), (3, I ((w64 (x1 + ((v6.length : Int)))))), (9, A a0), (10, I ((a0.length : Int))), (11, I ((w64 (x2 + 1))))] [] ?_
  exact ⟨(f3, (w64 (x1 + ((v6.length : Int)))), (w64 (x2 + 1))), h, Nat.lt_succ_self _, it [0, 3, 9, 10, 11]⟩
  refine pwp_exit ?_
  refine srv 1 36 [(0, A a0), (23, I x1)] [] ?_
  obtain ⟨v9, hv10, h⟩ := bindS h
  refine opsP_callH τ 24 (ok_slices_Grow_impl_Value_impl_Value_n0 hv10) rfl (by kernel_rfl) ?_
  refine ve 1 36 [(0, A a0), (6, rf 0 0 3 v9)] [sl 0 v9] ?_
  refine pwp_seq ?_
  refine srve 36 [(6, rf 0 0 3 v9), (25, A a0), (26, I ((a0.length : Int))), (27, I 0)] [sl 0 v9] ?_
  refine pwp_block ?_
  refine pwp_loop (ι := Nat × Int × (List T_impl_Value)) (fun (f14, x12, x13) => (⟨36, [(6, rf 0 0 3 x13), (25, A a0), (26, I ((a0.length : Int))), (27, I x12)], [sl 0 x13]⟩ : St)) (fun (f14, x12, x13) => slices_Concat_impl_Value_impl_Value_l1 a0 f14 x12 x13 = some y) Prod.fst (FUEL, 0, v9) h (it [6, 25, 26, 27]) ?_
  rintro ⟨f14, x12, x13⟩ h
  dsimp only at h ⊢
  rcases f14 with _ | f14
  cases h
  rw [slices_Concat_impl_Value_impl_Value_l1] at h
  refine srve 36 [(6, rf 0 0 3 x13), (25, A a0), (26, I ((a0.length : Int))), (27, I x12), (28, B ((decide (x12 < ((a0.length : Int))))))] [sl 0 x13] ?_
  refine pwp_seq ?_
  refine pc h (fun h => ?_) (fun h => ?_)
  refine pwp_skip ?_
  refine pwp_seq ?_
  refine pwp_block ?_
  refine pwp_seq ?_
  refine pwp_region ?_
  obtain ⟨v17, hv18, h⟩ := bindS h
  refine opsP_idx τ_ok 29 hv18 (by kernel_rfl) ?_
  refine ve 2 36 [(6, rf 0 0 3 x13), (8, A v17), (25, A a0), (26, I ((a0.length : Int))), (27, I x12)] [sl 0 x13] ?_
  refine rv 2 36 [(25, A a0), (26, I ((a0.length : Int))), (27, I x12), (31, rf 0 0 3 x13), (32, A v17)] [sl 0 x13] ?_
  obtain ⟨v19, hv20, h⟩ := bindS h
  refine opsP_app τ_ok 33 0 0 (nx hX) hv20 (by kernel_rfl) ?_
  refine ve 1 36 [(6, rf 0 1 3 v19), (25, A a0), (26, I ((a0.length : Int))), (27, I x12)] [sl 1 v19] ?_
  refine rve 36 [(6, rf 0 1 3 v19), (25, A a0), (26, I ((a0.length : Int))), (27, I ((w64 (x12 + 1))))] [sl 1 v19] ?_
  exact ⟨(f14, (w64 (x12 + 1)), v19), h, Nat.lt_succ_self _, (it (st' := ⟨36, [(6, rf 0 1 3 v19), (25, A a0), (26, I ((a0.length : Int))), (27, I ((w64 (x12 + 1))))], [sl 1 v19]⟩) [6, 25, 26, 27]).trans (Imp.reverS 0 1 (eL v19) [6, 25, 26, 27] (by kernel_rfl) (by exact (And.intro (eL_frz _) trivial)) (by kernel_rfl))⟩
  refine pwp_exit ?_
  refine srve 36 [(2, rf 0 0 3 x13)] [sl 0 x13] ?_
  have h := si h
  subst h
  exact pwp_ret (rt (rf 0 0 3 x13) (OutP.list (v := 0) (by kernel_rfl)))
def spec_RowFits_j2 (x3 : Int) (K5 : Int → Option Bool) (x7 : Bool) : Option Bool := bif x7 then some false else K5 ((w64 (x3 + 1)))
def spec_RowFits_l1 (a0 : List T_impl_Column) (a1 : List T_impl_Value) : Nat → Int → Option Bool
  | 0, _ => none
  | f4 + 1, x3 => bif (decide (x3 < ((a1.length : Int)))) then (getI a1 x3).bind fun v9 => (getI a0 x3).bind fun v11 => bif (!(v9.fKind == v11.fKind)) then (getI a1 x3).bind fun v13 => bif (!(v13.fKind == 0)) then spec_RowFits_j2 x3 (spec_RowFits_l1 a0 a1 f4) true else (getI a0 x3).bind fun v15 => spec_RowFits_j2 x3 (spec_RowFits_l1 a0 a1 f4) ((!v15.fEmpty)) else spec_RowFits_j2 x3 (spec_RowFits_l1 a0 a1 f4) false else some true
def spec_RowFits_j0 (a0 : List T_impl_Column) (a1 : List T_impl_Value) (x1 : Bool) : Option Bool := bif x1 then some false else spec_RowFits_l1 a0 a1 FUEL 0
def spec_RowFits (a0 : List T_impl_Column) (a1 : List T_impl_Value) : Option Bool := (spec_ColumnsOk a0).bind fun v19 => bif (!v19) then spec_RowFits_j0 a0 a1 true else (spec_RowOk a1).bind fun v21 => bif (!v21) then spec_RowFits_j0 a0 a1 true else spec_RowFits_j0 a0 a1 ((!(((a1.length : Int)) == ((a0.length : Int)))))
theorem ok_spec_RowFits {a0 : List T_impl_Column} {a1 : List T_impl_Value} {y : Bool} (h : spec_RowFits a0 a1 = some y) : OK Tryz.prog 159 [A a0, A a1] (B y) := by
  refine ow Tryz.func159 fun Γ hX => ?_
  unfold spec_RowFits at h
  refine srve 54 [(0, A a0), (1, A a1)] [] ?_
  refine pwp_seq ?_
  refine pwp_seq ?_
  refine pwp_join (σ := Bool) (fun x1 => (⟨54, [(0, A a0), (1, A a1), (20, B x1)], []⟩ : St)) (fun x1 => spec_RowFits_j0 a0 a1 x1 = some y) ?_ ?_
  refine rv 1 54 [(0, A a0), (1, A a1), (6, A a0)] [] ?_
  obtain ⟨v19, hv20, h⟩ := bindS h
  refine cF 7 (ok_spec_ColumnsOk hv20) ?_
  refine v 2 54 [(0, A a0), (1, A a1), (9, B ((!v19)))] [] ?_
  rcases fk ((!v19)) with hc24 | hc24
  replace h := bT hc24 h
  rw [hc24]
  refine ve 11 54 [(0, A a0), (1, A a1), (20, B true)] [] ?_
  exact ⟨true, h, it [0, 1, 20]⟩
  replace h := bF hc24 h
  rw [hc24]
  refine v 1 54 [(0, A a0), (1, A a1), (9, B false), (10, A a1)] [] ?_
  obtain ⟨v21, hv22, h⟩ := bindS h
  refine cF 11 (ok_spec_RowOk hv22) ?_
  refine v 3 54 [(0, A a0), (1, A a1), (14, B ((!v21)))] [] ?_
  rcases fk ((!v21)) with hc23 | hc23
  replace h := bT hc23 h
  rw [hc23]
  refine ve 6 54 [(0, A a0), (1, A a1), (20, B true)] [] ?_
  exact ⟨true, h, it [0, 1, 20]⟩
  replace h := bF hc23 h
  rw [hc23]
  refine ve 6 54 [(0, A a0), (1, A a1), (20, B ((!(((a1.length : Int)) == ((a0.length : Int))))))] [] ?_
  exact ⟨(!(((a1.length : Int)) == ((a0.length : Int)))), h, it [0, 1, 20]⟩
  rintro x1 h
  unfold spec_RowFits_j0 at h
  refine pc h (fun h => ?_) (fun h => ?_)
  refine srve 54 [(4, B false)] [] ?_
  cases h
  exact pwp_ret rz
  refine pwp_skip ?_
  refine pwp_seq ?_
  refine srve 54 [(0, A a0), (1, A a1), (5, I 0)] [] ?_
  refine pwp_block ?_
  refine pwp_loop (ι := Nat × Int) (fun (f4, x3) => (⟨54, [(0, A a0), (1, A a1), (5, I x3)], []⟩ : St)) (fun (f4, x3) => spec_RowFits_l1 a0 a1 f4 x3 = some y) Prod.fst (FUEL, 0) h (it [0, 1, 5]) ?_
  rintro ⟨f4, x3⟩ h
  dsimp only at h ⊢
  rcases f4 with _ | f4
  cases h
  rw [spec_RowFits_l1] at h
  refine pwp_seq ?_
  refine srve 54 [(0, A a0), (1, A a1), (5, I x3), (24, B ((decide (x3 < ((a1.length : Int))))))] [] ?_
  refine pc h (fun h => ?_) (fun h => ?_)
  refine pwp_skip ?_
  refine pwp_seq ?_
  refine pwp_block ?_
  refine pwp_seq ?_
  refine pwp_join (σ := Bool) (fun x7 => (⟨54, [(0, A a0), (1, A a1), (5, I x3), (53, B x7)], []⟩ : St)) (fun x7 => spec_RowFits_j2 x3 (spec_RowFits_l1 a0 a1 f4) x7 = some y) ?_ ?_
  refine ip 54 [(0, A a0), (1, A a1), (5, I x3)] [] ?_
  refine pN 27 ?_
  refine qv [] trivial 2 54 [(28, I x3), (27, A a1), (0, A a0), (1, A a1), (5, I x3)] [] ?_
  obtain ⟨v9, hv10, h⟩ := bindS h
  refine qX (some 29) (pf v9 0) 54 [(29, pf v9 0), (0, A a0), (1, A a1), (5, I x3)] [] (fun Γ' hΓ => CoreE.of_y (idxV_sound τ_ok (by kernel_rfl) hv10)) trivial ?_
  refine qv [] trivial 4 54 [(33, I x3), (32, A a0), (31, I v9.fKind), (0, A a0), (1, A a1), (5, I x3)] [] ?_
  obtain ⟨v11, hv12, h⟩ := bindS h
  refine qX (some 34) (pf v11 0) 54 [(34, pf v11 0), (31, I v9.fKind), (0, A a0), (1, A a1), (5, I x3)] [] (fun Γ' hΓ => CoreE.of_y (idxV_sound τ_ok (by kernel_rfl) hv12)) trivial ?_
  refine qv [] trivial 4 54 [(38, B ((!(v9.fKind == v11.fKind)))), (0, A a0), (1, A a1), (5, I x3)] [] ?_
  rcases fk ((!(v9.fKind == v11.fKind))) with hc18 | hc18
  replace h := bT hc18 h
  rw [hc18]
  refine qv [] trivial 2 54 [(40, I x3), (39, A a1), (38, B true), (0, A a0), (1, A a1), (5, I x3)] [] ?_
  obtain ⟨v13, hv14, h⟩ := bindS h
  refine qX (some 41) (pf v13 0) 54 [(41, pf v13 0), (40, I x3), (39, A a1), (38, B true), (0, A a0), (1, A a1), (5, I x3)] [] (fun Γ' hΓ => CoreE.of_y (idxV_sound τ_ok (by kernel_rfl) hv14)) trivial ?_
  refine qv [] trivial 4 54 [(45, B ((!(v13.fKind == 0)))), (44, B ((!(v13.fKind == 0)))), (43, I v13.fKind), (42, pf v13 0), (41, pf v13 0), (40, I x3), (39, A a1), (38, B true), (0, A a0), (1, A a1), (5, I x3)] [] ?_
  rcases fk ((!(v13.fKind == 0))) with hc17 | hc17
  replace h := bT hc17 h
  rw [hc17]
  refine qvn [] trivial 8 54 [(0, A a0), (1, A a1), (5, I x3), (39, A a1), (40, I x3), (41, pf v13 0), (42, pf v13 0), (43, I v13.fKind), (44, B true), (45, B true), (46, .lit undef), (47, .lit undef), (48, .lit undef), (49, .lit undef), (50, .lit undef), (51, .lit undef), (52, B true), (53, B true)] [] ?_
  exact ⟨true, h, it [0, 1, 5, 53]⟩
  replace h := bF hc17 h
  rw [hc17]
  refine qv [] trivial 2 54 [(47, I x3), (46, A a0), (45, B false), (44, B false), (43, I v13.fKind), (42, pf v13 0), (41, pf v13 0), (40, I x3), (39, A a1), (38, B true), (0, A a0), (1, A a1), (5, I x3)] [] ?_
  obtain ⟨v15, hv16, h⟩ := bindS h
  refine qX (some 48) (pf v15 0) 54 [(48, pf v15 0), (47, I x3), (46, A a0), (45, B false), (44, B false), (43, I v13.fKind), (42, pf v13 0), (41, pf v13 0), (40, I x3), (39, A a1), (38, B true), (0, A a0), (1, A a1), (5, I x3)] [] (fun Γ' hΓ => CoreE.of_y (idxV_sound τ_ok (by kernel_rfl) hv16)) trivial ?_
  refine qvn [] trivial 5 54 [(0, A a0), (1, A a1), (5, I x3), (39, A a1), (40, I x3), (41, pf v13 0), (42, pf v13 0), (43, I v13.fKind), (44, B false), (45, B false), (46, A a0), (47, I x3), (48, pf v15 0), (49, pf v15 1), (50, B v15.fEmpty), (51, B ((!v15.fEmpty))), (52, B ((!v15.fEmpty))), (53, B ((!v15.fEmpty)))] [] ?_
  exact ⟨(!v15.fEmpty), h, it [0, 1, 5, 53]⟩
  replace h := bF hc18 h
  rw [hc18]
  refine qvn [] trivial 15 54 [(0, A a0), (1, A a1), (5, I x3), (39, .lit undef), (40, .lit undef), (41, .lit undef), (42, .lit undef), (43, .lit undef), (44, .lit undef), (45, .lit undef), (46, .lit undef), (47, .lit undef), (48, .lit undef), (49, .lit undef), (50, .lit undef), (51, .lit undef), (52, .lit undef), (53, B false)] [] ?_
  exact ⟨false, h, it [0, 1, 5, 53]⟩
  rintro x7 h
  unfold spec_RowFits_j2 at h
  refine pc h (fun h => ?_) (fun h => ?_)
  refine srve 54 [(4, B false)] [] ?_
  cases h
  exact pwp_ret rz
  refine pwp_skip ?_
  refine rve 54 [(0, A a0), (1, A a1), (5, I ((w64 (x3 + 1))))] [] ?_
  exact ⟨(f4, (w64 (x3 + 1))), h, Nat.lt_succ_self _, it [0, 1, 5]⟩
  refine pwp_exit ?_
  refine srve 54 [(4, B true)] [] ?_
  cases h
  exact pwp_ret rz
def impl_AndOf (a0 : Int) (a1 : Int) : Option Int := (impl_fold a0 a1 0).bind fun v1 => some v1
theorem ok_impl_AndOf {a0 : Int} {a1 : Int} {y : Int} (h : impl_AndOf a0 a1 = some y) : OK Tryz.prog 211 [I a0, I a1] (I y) := by
  refine ow Tryz.func211 fun Γ hX => ?_
  unfold impl_AndOf at h
  refine srve 8 [(0, I a0), (1, I a1)] [] ?_
  refine srv 2 8 [(5, I a0), (6, I a1)] [] ?_
  obtain ⟨v1, hv2, h⟩ := bindS h
  refine cF 7 (ok_impl_fold hv2) ?_
  refine ve 1 8 [(4, I v1)] [] ?_
  cases h
  exact pwp_ret rz
def impl_OrOf (a0 : Int) (a1 : Int) : Option Int := (impl_fold a0 a1 1).bind fun v1 => some v1
theorem ok_impl_OrOf {a0 : Int} {a1 : Int} {y : Int} (h : impl_OrOf a0 a1 = some y) : OK Tryz.prog 213 [I a0, I a1] (I y) := by
  refine ow Tryz.func213 fun Γ hX => ?_
  unfold impl_OrOf at h
  refine srve 8 [(0, I a0), (1, I a1)] [] ?_
  refine srv 2 8 [(5, I a0), (6, I a1)] [] ?_
  obtain ⟨v1, hv2, h⟩ := bindS h
  refine cF 7 (ok_impl_fold hv2) ?_
  refine ve 1 8 [(4, I v1)] [] ?_
  cases h
  exact pwp_ret rz
def impl_Value_order (a0 : T_impl_Value) (a1 : T_impl_Value) : Option Int := (cmp_Compare_int a0.fKind a1.fKind).bind fun v1 => (cmp_Compare_int a0.fN a1.fN).bind fun v3 => (cmp_Compare_string a0.fS a1.fS).bind fun v5 => (cmp_Or_int ([v1, v3, v5])).bind fun v7 => some v7
theorem ok_impl_Value_order {a0 : T_impl_Value} {a1 : T_impl_Value} {y : Int} (h : impl_Value_order a0 a1 = some y) : OK Tryz.prog 220 [E a0, E a1] (I y) := by
  refine ow Tryz.func220 fun Γ hX => ?_
  unfold impl_Value_order at h
  refine srve 22 [(2, pf a0 0), (3, pf a1 0)] [] ?_
  refine pwp_seq ?_
  refine ip 22 [(2, pf a0 0), (3, pf a1 0)] [] ?_
  refine pN 18 ?_
  refine qv [] trivial 4 22 [(8, I a1.fKind), (6, I a0.fKind), (2, pf a0 0), (3, pf a1 0)] [] ?_
  obtain ⟨v1, hv2, h⟩ := bindS h
  refine qX (some 9) (I v1) 22 [(9, I v1), (2, pf a0 0), (3, pf a1 0)] [] (fun Γ' hΓ => CoreE.of_g (callV_sound (τ := τ) (by kernel_rfl) rfl (ok_cmp_Compare_int hv2) (FzTo.frz rfl))) trivial ?_
  refine qv [] trivial 4 22 [(13, I a1.fN), (11, I a0.fN), (9, I v1), (2, pf a0 0), (3, pf a1 0)] [] ?_
  obtain ⟨v3, hv4, h⟩ := bindS h
  refine qX (some 14) (I v3) 22 [(14, I v3), (9, I v1), (2, pf a0 0), (3, pf a1 0)] [] (fun Γ' hΓ => CoreE.of_g (callV_sound (τ := τ) (by kernel_rfl) rfl (ok_cmp_Compare_int hv4) (FzTo.frz rfl))) trivial ?_
  refine qv [] trivial 4 22 [(18, S a1.fS), (16, S a0.fS), (14, I v3), (9, I v1)] [] ?_
  obtain ⟨v5, hv6, h⟩ := bindS h
  refine qX (some 19) (I v5) 22 [(19, I v5), (14, I v3), (9, I v1)] [] (fun Γ' hΓ => CoreE.of_g (callV_sound (τ := τ) (by kernel_rfl) rfl (ok_cmp_Compare_string hv6) (FzTo.frz rfl))) trivial ?_
  refine qv [] trivial 1 22 [(20, .arr 1 (([v1, v3, v5] : List Int)).length (eL ([v1, v3, v5] : List Int)) true)] [] ?_
  obtain ⟨v7, hv8, h⟩ := bindS h
  refine qX (some 21) (I v7) 22 [(21, I v7)] [] (fun Γ' hΓ => CoreE.of_g (callV_sound (τ := τ) (by kernel_rfl) rfl (ok_cmp_Or_int hv8) (FzTo.frz rfl))) trivial ?_
  refine qvn [] trivial 1 22 [(4, I v7)] [] ?_
  cases h
  exact pwp_ret rz
def laws_alive  : Option Bool := (impl_ValueOk ((T_impl_Value.mk 1 3 (ByteArray.mk #[])))).bind fun v1 => bif v1 then (impl_ValueOk ((T_impl_Value.mk 9 0 (ByteArray.mk #[])))).bind fun v3 => some ((!v3)) else some false
theorem ok_laws_alive  {y : Bool} (h : laws_alive  = some y) : OK Tryz.prog 17 [] (B y) := by
  refine ow Tryz.func17 fun Γ hX => ?_
  unfold laws_alive at h
  refine srve 8 [] [] ?_
  refine srv 1 8 [(1, E ((T_impl_Value.mk 1 3 (ByteArray.mk #[]))))] [] ?_
  obtain ⟨v1, hv2, h⟩ := bindS h
  refine cF 2 (ok_impl_ValueOk hv2) ?_
  refine v 1 8 [(3, B v1)] [] ?_
  rcases Bool.eq_false_or_eq_true v1 with hc5 | hc5
  replace h := bT hc5 h
  rw [hc5]
  refine v 1 8 [(3, B true), (4, E ((T_impl_Value.mk 9 0 (ByteArray.mk #[]))))] [] ?_
  obtain ⟨v3, hv4, h⟩ := bindS h
  refine cF 5 (ok_impl_ValueOk hv4) ?_
  refine ve 3 8 [(0, B ((!v3)))] [] ?_
  cases h
  exact pwp_ret rz
  replace h := bF hc5 h
  rw [hc5]
  refine ve 5 8 [(0, B false)] [] ?_
  cases h
  exact pwp_ret rz
def impl_RowsOnce_l0 (a0 : List (List T_impl_Value)) : Nat → Int → (List (List T_impl_Value)) → Option (List (List T_impl_Value))
  | 0, _, _ => none
  | f4 + 1, x2, x3 => bif (decide (x2 < ((a0.length : Int)))) then (getI a0 x2).bind fun v7 => (impl_rowsHas x3 v7).bind fun v9 => bif (!v9) then (app x3 (([v7] : List (List T_impl_Value)))).bind fun v12 => (impl_RowsOnce_l0 a0 f4) ((w64 (x2 + 1))) v12 else (impl_RowsOnce_l0 a0 f4) ((w64 (x2 + 1))) x3 else (impl_rowsCopy x3).bind fun v14 => some v14
def impl_RowsOnce (a0 : List (List T_impl_Value)) : Option (List (List T_impl_Value)) := impl_RowsOnce_l0 a0 FUEL 0 (([] : List (List T_impl_Value)))
theorem ok_impl_RowsOnce {a0 : List (List T_impl_Value)} {y : List (List T_impl_Value)} (h : impl_RowsOnce a0 = some y) : OK Tryz.prog 34 [A a0] (A y) := by
  refine ow Tryz.func34 fun Γ hX => ?_
  unfold impl_RowsOnce at h
  refine srve 23 [(0, A a0)] [] ?_
  refine srve 23 [(0, A a0), (3, .arr 1 0 (eL ([] : List (List T_impl_Value))) true)] [] ?_
  refine pwp_seq ?_
  refine srve 23 [(3, .arr 1 0 (eL ([] : List (List T_impl_Value))) true), (6, A a0), (7, I ((a0.length : Int))), (8, I 0)] [] ?_
  refine pwp_block ?_
  refine pwp_loop (ι := Nat × Int × (List (List T_impl_Value))) (fun (f4, x2, x3) => (⟨23, [(3, rf 0 0 1 x3), (6, A a0), (7, I ((a0.length : Int))), (8, I x2)], [sl 0 x3]⟩ : St)) (fun (f4, x2, x3) => impl_RowsOnce_l0 a0 f4 x2 x3 = some y) Prod.fst (FUEL, 0, ([] : List (List T_impl_Value))) h (Imp.thawS 3 [3, 6, 7, 8] (by kernel_rfl)) ?_
  rintro ⟨f4, x2, x3⟩ h
  dsimp only at h ⊢
  rcases f4 with _ | f4
  cases h
  rw [impl_RowsOnce_l0] at h
  refine srve 23 [(3, rf 0 0 1 x3), (6, A a0), (7, I ((a0.length : Int))), (8, I x2), (9, B ((decide (x2 < ((a0.length : Int))))))] [sl 0 x3] ?_
  refine pwp_seq ?_
  refine pc h (fun h => ?_) (fun h => ?_)
  refine pwp_skip ?_
  refine pwp_seq ?_
  refine pwp_block ?_
  refine pwp_seq ?_
  refine pwp_region ?_
  obtain ⟨v7, hv8, h⟩ := bindS h
  refine opsP_idx τ_ok 10 hv8 (by kernel_rfl) ?_
  refine ve 2 23 [(3, rf 0 0 1 x3), (5, A v7), (6, A a0), (7, I ((a0.length : Int))), (8, I x2)] [sl 0 x3] ?_
  refine srv 2 23 [(3, rf 0 0 1 x3), (5, A v7), (6, A a0), (7, I ((a0.length : Int))), (8, I x2), (12, rf 0 0 1 x3), (13, A v7)] [sl 0 x3] ?_
  obtain ⟨v9, hv10, h⟩ := bindS h
  refine opsP_callV (xs := [rf 0 0 1 x3, A v7]) τ 14 (ok_impl_rowsHas hv10) (Blind.lit _) (FzTo.frz rfl) (by kernel_rfl) (ViewL.cons (View.whole (v := 0) x3 (by kernel_rfl) rfl) (ViewL.cons (View.frz rfl) (ViewL.nil _))) ?_
  refine ve 1 23 [(3, rf 0 0 1 x3), (5, A v7), (6, A a0), (7, I ((a0.length : Int))), (8, I x2), (15, B ((!v9)))] [sl 0 x3] ?_
  refine pc h (fun h => ?_) (fun h => ?_)
  refine rv 3 23 [(6, A a0), (7, I ((a0.length : Int))), (8, I x2), (16, rf 0 0 1 x3), (18, .arr 1 (([v7] : List (List T_impl_Value))).length (eL ([v7] : List (List T_impl_Value))) true)] [sl 0 x3] ?_
  obtain ⟨v12, hv13, h⟩ := bindS h
  refine opsP_app τ_ok 19 0 0 (nx hX) hv13 (by kernel_rfl) ?_
  refine ve 1 23 [(3, rf 0 1 1 v12), (6, A a0), (7, I ((a0.length : Int))), (8, I x2)] [sl 1 v12] ?_
  refine rve 23 [(3, rf 0 1 1 v12), (6, A a0), (7, I ((a0.length : Int))), (8, I ((w64 (x2 + 1))))] [sl 1 v12] ?_
  exact ⟨(f4, (w64 (x2 + 1)), v12), h, Nat.lt_succ_self _, (it (st' := ⟨23, [(3, rf 0 1 1 v12), (6, A a0), (7, I ((a0.length : Int))), (8, I ((w64 (x2 + 1))))], [sl 1 v12]⟩) [3, 6, 7, 8]).trans (Imp.reverS 0 1 (eL v12) [3, 6, 7, 8] (by kernel_rfl) (by exact (And.intro (eL_frz _) trivial)) (by kernel_rfl))⟩
  refine pwp_skip ?_
  refine rve 23 [(3, rf 0 0 1 x3), (6, A a0), (7, I ((a0.length : Int))), (8, I ((w64 (x2 + 1))))] [sl 0 x3] ?_
  exact ⟨(f4, (w64 (x2 + 1)), x3), h, Nat.lt_succ_self _, it [3, 6, 7, 8]⟩
  refine pwp_exit ?_
  refine srv 1 23 [(21, rf 0 0 1 x3)] [sl 0 x3] ?_
  refine opsP_imp ((Imp.freezeB (v := 0) (cs := eL x3) (st' := ⟨23, [(21, A x3)], [none]⟩) 0 0 (nx hX) (by kernel_rfl) (eL_frz _) (wholeC (whole_is (eL_len x3).symm) wholeC0) (HpRel.key HpRel.nil) (by kernel_rfl) rfl (nx hX))) ?_
  obtain ⟨v14, hv15, h⟩ := bindS h
  refine cF 22 (ok_impl_rowsCopy hv15) ?_
  refine ve 1 23 [(2, A v14)] [none] ?_
  cases h
  exact pwp_ret rz
def spec_l20Pair_j0 (v7 : List T_impl_Column) (v15 : List T_impl_Column) (v19 : Int × T_spec_l20Rd) (v21 : T_impl_Column) (v23 : T_impl_Column) (v29 : List (List T_impl_Value)) (x33 : Int) (x34 : Int) (x35 : T_spec_l20Rd) (x36 : List (List T_impl_Value)) : Option (((List T_impl_Column) × (List T_impl_Column) × (List (List T_impl_Value)) × (List (List T_impl_Value)) × Int × Int) × T_spec_l20Rd) := some ((v7, (v15.set v19.1.toNat (({ v23 with fKind := v21.fKind } : T_impl_Column))), v29, x36, x33, x34), x35)
def spec_l20Pair (a0 : T_spec_l20Rd) (a1 : Int) : Option (((List T_impl_Column) × (List T_impl_Column) × (List (List T_impl_Value)) × (List (List T_impl_Value)) × Int × Int) × T_spec_l20Rd) := (spec_l20Columns a0 0).bind fun v1 => (spec_l20Rd_pick v1.2 2).bind fun v3 => (remI v3.1 ((v1.1.length : Int))).bind fun v5 => (slI v1.1 none (some ((w64 (1 + v5)))) none).bind fun v7 => (spec_l20Columns v3.2 0).bind fun v9 => (spec_l20Rd_pick v9.2 2).bind fun v11 => (remI v11.1 ((v9.1.length : Int))).bind fun v13 => (slI v9.1 none (some ((w64 (1 + v13)))) none).bind fun v15 => (spec_l20Rd_pick v11.2 ((v7.length : Int))).bind fun v17 => (spec_l20Rd_pick v17.2 ((v15.length : Int))).bind fun v19 => (getI v7 v17.1).bind fun v21 => (getI v15 v19.1).bind fun v23 => (spec_l20Bag v19.2 v7 0).bind fun v25 => (spec_l20Bag v25.2 v7 0).bind fun v27 => (app v25.1 v27.1).bind fun v29 => (spec_l20Bag v27.2 ((v15.set v19.1.toNat (({ v23 with fKind := v21.fKind } : T_impl_Column)))) 0).bind fun v31 => (spec_l20Rd_odd v31.2 a1).bind fun v37 => bif v37.1 then (spec_l20Rd_pick v37.2 3).bind fun v40 => bif (v40.1 == 0) then (spec_l20Rd_pick v40.2 6).bind fun v43 => spec_l20Pair_j0 v7 v15 v19 v21 v23 v29 ((w64 (v43.1 - 1))) v19.1 v43.2 v31.1 else bif (v40.1 == 1) then (app v31.1 (([[(T_impl_Value.mk 7 0 (ByteArray.mk #[]))]] : List (List T_impl_Value)))).bind fun v46 => spec_l20Pair_j0 v7 v15 v19 v21 v23 v29 v17.1 v19.1 v40.2 v46 else (spec_l20Rd_pick v40.2 6).bind fun v48 => spec_l20Pair_j0 v7 v15 v19 v21 v23 v29 v17.1 ((w64 (v48.1 - 1))) v48.2 v31.1 else spec_l20Pair_j0 v7 v15 v19 v21 v23 v29 v17.1 v19.1 v37.2 v31.1
theorem ok_spec_l20Pair {a0 : T_spec_l20Rd} {a1 : Int} {y : ((List T_impl_Column) × (List T_impl_Column) × (List (List T_impl_Value)) × (List (List T_impl_Value)) × Int × Int) × T_spec_l20Rd} (h : spec_l20Pair a0 a1 = some y) : OKb Tryz.prog 58 (Enc.cells a0) [I a1] (.tup [A y.1.1, A y.1.2.1, O y.1.2.2.1, O y.1.2.2.2.1, I y.1.2.2.2.2.1, I y.1.2.2.2.2.2]) (Enc.cells y.2) := by
  refine OKb_of_pwp τ_ok Tryz.func58 rfl (by kernel_rfl) rfl (Enc.frz _) (Enc.frz _) fun Γ hQ => ?_
  unfold spec_l20Pair at h
  refine srve 89 [(0, .ptr 0 0 0), (1, I a1)] [sc 0 a0] ?_
  refine srv 1 89 [(0, .ptr 0 0 0), (1, I a1), (16, .ptr 0 0 0)] [sc 0 a0] ?_
  obtain ⟨v1, hv2, h⟩ := bindS h
  refine cBo 17 0 0 (ok_spec_l20Columns hv2) ?_
  refine ve 1 89 [(0, .ptr 0 0 0), (1, I a1), (10, A v1.1)] [sc 0 v1.2] ?_
  refine srv 2 89 [(0, .ptr 0 0 0), (1, I a1), (10, A v1.1), (18, A v1.1), (19, .ptr 0 0 0)] [sc 0 v1.2] ?_
  obtain ⟨v3, hv4, h⟩ := bindS h
  refine cB 20 0 0 (ok_spec_l20Rd_pick hv4) ?_
  refine v 2 89 [(0, .ptr 0 0 0), (1, I a1), (18, A v1.1), (20, I v3.1), (22, I ((v1.1.length : Int)))] [sc 0 v3.2] ?_
  obtain ⟨v5, hv6, h⟩ := bindS h
  refine opsP_div τ_ok (r := true) 23 hv6 (by kernel_rfl) ?_
  refine v 1 89 [(0, .ptr 0 0 0), (1, I a1), (18, A v1.1), (24, I ((w64 (1 + v5))))] [sc 0 v3.2] ?_
  obtain ⟨v7, hv8, h⟩ := bindS h
  refine opsP_slc τ_ok 25 hv8 (by kernel_rfl) ?_
  refine ve 1 89 [(0, .ptr 0 0 0), (1, I a1), (10, A v7)] [sc 0 v3.2] ?_
  refine srv 1 89 [(0, .ptr 0 0 0), (1, I a1), (10, A v7), (26, .ptr 0 0 0)] [sc 0 v3.2] ?_
  obtain ⟨v9, hv10, h⟩ := bindS h
  refine opsP_E (dd := some 27) (x := rf 1 0 2 v9.1) (callBN_E τ 27 0 0 1 (by first | exact pn hQ | exact pk hQ) (by decide) (ok_spec_l20Columns hv10) rfl (by kernel_rfl) (by kernel_rfl)) ?_
  refine ve 1 89 [(0, .ptr 0 0 0), (1, I a1), (10, A v7), (11, rf 1 0 2 v9.1)] [sc 0 v9.2, sl 0 v9.1] ?_
  refine srv 2 89 [(0, .ptr 0 0 0), (1, I a1), (10, A v7), (11, rf 1 0 2 v9.1), (28, rf 1 0 2 v9.1), (29, .ptr 0 0 0)] [sc 0 v9.2, sl 0 v9.1] ?_
  obtain ⟨v11, hv12, h⟩ := bindS h
  refine cB 30 0 0 (ok_spec_l20Rd_pick hv12) ?_
  refine v 2 89 [(0, .ptr 0 0 0), (1, I a1), (10, A v7), (28, rf 1 0 2 v9.1), (30, I v11.1), (32, I ((v9.1.length : Int)))] [sc 0 v11.2, sl 0 v9.1] ?_
  obtain ⟨v13, hv14, h⟩ := bindS h
  refine opsP_div τ_ok (r := true) 33 hv14 (by kernel_rfl) ?_
  refine v 1 89 [(0, .ptr 0 0 0), (1, I a1), (10, A v7), (28, rf 1 0 2 v9.1), (34, I ((w64 (1 + v13))))] [sc 0 v11.2, sl 0 v9.1] ?_
  obtain ⟨v15, hv16, h⟩ := bindS h
  refine opsP_slr τ_ok 35 1 0 v9.1.length hv16 rfl (by kernel_rfl) ?_
  refine ve 1 89 [(0, .ptr 0 0 0), (1, I a1), (10, A v7), (11, rf 1 0 2 v15)] [sc 0 v11.2, sl 0 v9.1] ?_
  refine srv 3 89 [(0, .ptr 0 0 0), (1, I a1), (10, A v7), (11, rf 1 0 2 v15), (36, .ptr 0 0 0), (38, I ((v7.length : Int)))] [sc 0 v11.2, sl 0 v9.1] ?_
  obtain ⟨v17, hv18, h⟩ := bindS h
  refine cB 39 0 0 (ok_spec_l20Rd_pick hv18) ?_
  refine ve 1 89 [(0, .ptr 0 0 0), (1, I a1), (10, A v7), (11, rf 1 0 2 v15), (12, I v17.1)] [sc 0 v17.2, sl 0 v9.1] ?_
  refine srv 3 89 [(0, .ptr 0 0 0), (1, I a1), (10, A v7), (11, rf 1 0 2 v15), (12, I v17.1), (40, .ptr 0 0 0), (42, I ((v15.length : Int)))] [sc 0 v17.2, sl 0 v9.1] ?_
  obtain ⟨v19, hv20, h⟩ := bindS h
  refine cB 43 0 0 (ok_spec_l20Rd_pick hv20) ?_
  refine ve 1 89 [(0, .ptr 0 0 0), (1, I a1), (10, A v7), (11, rf 1 0 2 v15), (12, I v17.1), (13, I v19.1)] [sc 0 v19.2, sl 0 v9.1] ?_
  refine srv 4 89 [(0, .ptr 0 0 0), (1, I a1), (10, A v7), (11, rf 1 0 2 v15), (12, I v17.1), (13, I v19.1), (44, rf 1 0 2 v15), (45, I v19.1), (46, A v7), (47, I v17.1)] [sc 0 v19.2, sl 0 v9.1] ?_
  obtain ⟨v21, hv22, h⟩ := bindS h
  refine opsP_idx τ_ok 48 hv22 (by kernel_rfl) ?_
  refine v 2 89 [(0, .ptr 0 0 0), (1, I a1), (10, A v7), (11, rf 1 0 2 v15), (12, I v17.1), (13, I v19.1), (44, rf 1 0 2 v15), (45, I v19.1), (50, I v21.fKind)] [sc 0 v19.2, sl 0 v9.1] ?_
  obtain ⟨v23, hv24, h⟩ := bindS h
  refine opsP_idr τ_ok 51 1 0 v15.length hv24 rfl (by kernel_rfl) ?_
  refine v 1 89 [(0, .ptr 0 0 0), (1, I a1), (10, A v7), (11, rf 1 0 2 v15), (12, I v17.1), (13, I v19.1), (50, I v21.fKind), (52, .ptr 1 0 (v19.1.toNat * 2))] [sc 0 v19.2, sl 0 v9.1] ?_
  refine opsP_E (dd := none) (x := .any) (ste_E (vs := [I v21.fKind]) τ_ok 3 1 0 0 (({ v23 with fKind := v21.fKind } : T_impl_Column)) (getI_part0 hv16 hv24) (by kernel_rfl) (by kernel_rfl) (by kernel_rfl)) ?_
  refine io 89 [(0, .ptr 0 0 0), (1, I a1), (10, A v7), (11, rf 1 0 2 v15), (12, I v17.1), (13, I v19.1), (50, I v21.fKind), (52, .ptr 1 0 (v19.1.toNat * 2))] [sc 0 v19.2, some ⟨0, eL ((v9.1.set v19.1.toNat (({ v23 with fKind := v21.fKind } : T_impl_Column))))⟩] ?_
  refine opsP_imp (Imp.of_eq (st' := ⟨89, [(0, .ptr 0 0 0), (1, I a1), (10, A v7), (11, .ref 1 0 0 2 ((v15.set v19.1.toNat (({ v23 with fKind := v21.fKind } : T_impl_Column)))).length false), (12, I v17.1), (13, I v19.1), (50, I v21.fKind), (52, .ptr 1 0 (v19.1.toNat * 2))], [sc 0 v19.2, some ⟨0, eL ((v9.1.set v19.1.toNat (({ v23 with fKind := v21.fKind } : T_impl_Column))))⟩]⟩) (by simp only [List.length_set])) ?_
  refine ve 0 89 [(0, .ptr 0 0 0), (1, I a1), (10, A v7), (11, .ref 1 0 0 2 ((v15.set v19.1.toNat (({ v23 with fKind := v21.fKind } : T_impl_Column)))).length false), (12, I v17.1), (13, I v19.1)] [sc 0 v19.2, some ⟨0, eL ((v9.1.set v19.1.toNat (({ v23 with fKind := v21.fKind } : T_impl_Column))))⟩] ?_
  refine srv 2 89 [(0, .ptr 0 0 0), (1, I a1), (10, A v7), (11, .ref 1 0 0 2 ((v15.set v19.1.toNat (({ v23 with fKind := v21.fKind } : T_impl_Column)))).length false), (12, I v17.1), (13, I v19.1), (53, .ptr 0 0 0), (54, A v7)] [sc 0 v19.2, some ⟨0, eL ((v9.1.set v19.1.toNat (({ v23 with fKind := v21.fKind } : T_impl_Column))))⟩] ?_
  obtain ⟨v25, hv26, h⟩ := bindS h
  refine opsP_E (dd := some 55) (x := rf 2 0 1 v25.1) (callBN_E τ 55 0 0 2 (by first | exact pn hQ | exact pk hQ) (by decide) (ok_spec_l20Bag hv26) rfl (by kernel_rfl) (by kernel_rfl)) ?_
  refine v 2 89 [(0, .ptr 0 0 0), (1, I a1), (10, A v7), (11, .ref 1 0 0 2 ((v15.set v19.1.toNat (({ v23 with fKind := v21.fKind } : T_impl_Column)))).length false), (12, I v17.1), (13, I v19.1), (55, rf 2 0 1 v25.1), (56, .ptr 0 0 0), (57, A v7)] [sc 0 v25.2, some ⟨0, eL ((v9.1.set v19.1.toNat (({ v23 with fKind := v21.fKind } : T_impl_Column))))⟩, sl 0 v25.1] ?_
  obtain ⟨v27, hv28, h⟩ := bindS h
  refine cBo 58 0 0 (ok_spec_l20Bag hv28) ?_
  obtain ⟨v29, hv30, h⟩ := bindS h
  refine opsP_app τ_ok 59 2 0 (pn hQ) hv30 (by kernel_rfl) ?_
  refine ve 1 89 [(0, .ptr 0 0 0), (1, I a1), (10, A v7), (11, .ref 1 0 0 2 ((v15.set v19.1.toNat (({ v23 with fKind := v21.fKind } : T_impl_Column)))).length false), (12, I v17.1), (13, I v19.1), (14, rf 2 1 1 v29)] [sc 0 v27.2, some ⟨0, eL ((v9.1.set v19.1.toNat (({ v23 with fKind := v21.fKind } : T_impl_Column))))⟩, sl 1 v29] ?_
  refine srv 2 89 [(0, .ptr 0 0 0), (1, I a1), (10, A v7), (11, .ref 1 0 0 2 ((v15.set v19.1.toNat (({ v23 with fKind := v21.fKind } : T_impl_Column)))).length false), (12, I v17.1), (13, I v19.1), (14, rf 2 1 1 v29), (60, .ptr 0 0 0), (61, .ref 1 0 0 2 ((v15.set v19.1.toNat (({ v23 with fKind := v21.fKind } : T_impl_Column)))).length false)] [sc 0 v27.2, some ⟨0, eL ((v9.1.set v19.1.toNat (({ v23 with fKind := v21.fKind } : T_impl_Column))))⟩, sl 1 v29] ?_
  refine opsP_imp ((Imp.cut (st' := ⟨89, [(0, .ptr 0 0 0), (1, I a1), (10, A v7), (11, .ref 1 0 0 2 ((v15.set v19.1.toNat (({ v23 with fKind := v21.fKind } : T_impl_Column)))).length false), (12, I v17.1), (13, I v19.1), (14, rf 2 1 1 v29), (60, .ptr 0 0 0), (61, .ref 1 0 0 2 ((v15.set v19.1.toNat (({ v23 with fKind := v21.fKind } : T_impl_Column)))).length false)], [sc 0 v27.2, some ⟨0, eL ((v15.set v19.1.toNat (({ v23 with fKind := v21.fKind } : T_impl_Column))))⟩, sl 1 v29]⟩) 1 0 ((v9.1.set v19.1.toNat (({ v23 with fKind := v21.fKind } : T_impl_Column)))) ((v15.set v19.1.toNat (({ v23 with fKind := v21.fKind } : T_impl_Column)))) (by kernel_rfl) (slI_view (slI_set0 hv16)) (by kernel_rfl)).trans ((Imp.freezeB (v := 0) (cs := eL ((v15.set v19.1.toNat (({ v23 with fKind := v21.fKind } : T_impl_Column))))) (st' := ⟨89, [(0, .ptr 0 0 0), (1, I a1), (10, A v7), (11, A ((v15.set v19.1.toNat (({ v23 with fKind := v21.fKind } : T_impl_Column))))), (12, I v17.1), (13, I v19.1), (14, rf 2 1 1 v29), (60, .ptr 0 0 0), (61, A ((v15.set v19.1.toNat (({ v23 with fKind := v21.fKind } : T_impl_Column)))))], [sc 0 v27.2, none, sl 1 v29]⟩) 1 0 (pn hQ) (by kernel_rfl) (eL_frz _) (wholeC (whole_noRef (by kernel_rfl)) (wholeC (whole_noRef (by kernel_rfl)) (wholeC (whole_noRef (by kernel_rfl)) (wholeC (whole_is (eL_len ((v15.set v19.1.toNat (({ v23 with fKind := v21.fKind } : T_impl_Column))))).symm) (wholeC (whole_noRef (by kernel_rfl)) (wholeC (whole_noRef (by kernel_rfl)) (wholeC (whole_ne rfl) (wholeC (whole_noRef (by kernel_rfl)) (wholeC (whole_is (eL_len ((v15.set v19.1.toNat (({ v23 with fKind := v21.fKind } : T_impl_Column))))).symm) wholeC0))))))))) (HpRel.frz rfl (Enc.frz _) (HpRel.key (HpRel.frz rfl (eL_frz _) HpRel.nil))) (by kernel_rfl) rfl (p01 hQ)))) ?_
  obtain ⟨v31, hv32, h⟩ := bindS h
  refine opsP_E (dd := some 62) (x := rf 3 0 1 v31.1) (callBN_E τ 62 0 0 3 (by first | exact pn hQ | exact pk hQ) (by decide) (ok_spec_l20Bag hv32) rfl (by kernel_rfl) (by kernel_rfl)) ?_
  refine ve 1 89 [(0, .ptr 0 0 0), (1, I a1), (10, A v7), (11, A ((v15.set v19.1.toNat (({ v23 with fKind := v21.fKind } : T_impl_Column))))), (12, I v17.1), (13, I v19.1), (14, rf 2 1 1 v29), (15, rf 3 0 1 v31.1)] [sc 0 v31.2, none, sl 1 v29, sl 0 v31.1] ?_
  refine pwp_seq ?_
  refine pwp_join (σ := Int × Int × T_spec_l20Rd × (List (List T_impl_Value))) (fun (x33, x34, x35, x36) => (⟨89, [(10, A v7), (11, A ((v15.set v19.1.toNat (({ v23 with fKind := v21.fKind } : T_impl_Column))))), (12, I x33), (13, I x34), (14, rf 2 0 1 v29), (15, rf 3 0 1 x36)], [sc 0 x35, none, sl 0 v29, sl 0 x36]⟩ : St)) (fun (x33, x34, x35, x36) => spec_l20Pair_j0 v7 v15 v19 v21 v23 v29 x33 x34 x35 x36 = some y) ?_ ?_
  refine srv 2 89 [(0, .ptr 0 0 0), (10, A v7), (11, A ((v15.set v19.1.toNat (({ v23 with fKind := v21.fKind } : T_impl_Column))))), (12, I v17.1), (13, I v19.1), (14, rf 2 1 1 v29), (15, rf 3 0 1 v31.1), (63, .ptr 0 0 0), (64, I a1)] [sc 0 v31.2, none, sl 1 v29, sl 0 v31.1] ?_
  obtain ⟨v37, hv38, h⟩ := bindS h
  refine cB 65 0 0 (ok_spec_l20Rd_odd hv38) ?_
  refine ve 0 89 [(0, .ptr 0 0 0), (10, A v7), (11, A ((v15.set v19.1.toNat (({ v23 with fKind := v21.fKind } : T_impl_Column))))), (12, I v17.1), (13, I v19.1), (14, rf 2 1 1 v29), (15, rf 3 0 1 v31.1), (65, B v37.1)] [sc 0 v37.2, none, sl 1 v29, sl 0 v31.1] ?_
  refine pc h (fun h => ?_) (fun h => ?_)
  refine srv 1 89 [(0, .ptr 0 0 0), (10, A v7), (11, A ((v15.set v19.1.toNat (({ v23 with fKind := v21.fKind } : T_impl_Column))))), (12, I v17.1), (13, I v19.1), (14, rf 2 1 1 v29), (15, rf 3 0 1 v31.1), (66, .ptr 0 0 0)] [sc 0 v37.2, none, sl 1 v29, sl 0 v31.1] ?_
  obtain ⟨v40, hv41, h⟩ := bindS h
  refine cB 67 0 0 (ok_spec_l20Rd_pick hv41) ?_
  refine ve 0 89 [(0, .ptr 0 0 0), (10, A v7), (11, A ((v15.set v19.1.toNat (({ v23 with fKind := v21.fKind } : T_impl_Column))))), (12, I v17.1), (13, I v19.1), (14, rf 2 1 1 v29), (15, rf 3 0 1 v31.1), (67, I v40.1)] [sc 0 v40.2, none, sl 1 v29, sl 0 v31.1] ?_
  refine pwp_block ?_
  refine srve 89 [(0, .ptr 0 0 0), (10, A v7), (11, A ((v15.set v19.1.toNat (({ v23 with fKind := v21.fKind } : T_impl_Column))))), (12, I v17.1), (13, I v19.1), (14, rf 2 1 1 v29), (15, rf 3 0 1 v31.1), (67, I v40.1), (71, B ((v40.1 == 0)))] [sc 0 v40.2, none, sl 1 v29, sl 0 v31.1] ?_
  refine pc h (fun h => ?_) (fun h => ?_)
  refine rv 1 89 [(10, A v7), (11, A ((v15.set v19.1.toNat (({ v23 with fKind := v21.fKind } : T_impl_Column))))), (13, I v19.1), (14, rf 2 1 1 v29), (15, rf 3 0 1 v31.1), (73, .ptr 0 0 0)] [sc 0 v40.2, none, sl 1 v29, sl 0 v31.1] ?_
  obtain ⟨v43, hv44, h⟩ := bindS h
  refine cB 74 0 0 (ok_spec_l20Rd_pick hv44) ?_
  refine ve 2 89 [(10, A v7), (11, A ((v15.set v19.1.toNat (({ v23 with fKind := v21.fKind } : T_impl_Column))))), (12, I ((w64 (v43.1 - 1)))), (13, I v19.1), (14, rf 2 1 1 v29), (15, rf 3 0 1 v31.1)] [sc 0 v43.2, none, sl 1 v29, sl 0 v31.1] ?_
  exact ⟨((w64 (v43.1 - 1)), v19.1, v43.2, v31.1), h, (it (st' := ⟨89, [(10, A v7), (11, A ((v15.set v19.1.toNat (({ v23 with fKind := v21.fKind } : T_impl_Column))))), (12, I ((w64 (v43.1 - 1)))), (13, I v19.1), (14, rf 2 1 1 v29), (15, rf 3 0 1 v31.1)], [sc 0 v43.2, none, sl 1 v29, sl 0 v31.1]⟩) [10, 11, 12, 13, 14, 15]).trans (Imp.reverS 2 1 (eL v29) [10, 11, 12, 13, 14, 15] (by kernel_rfl) (by exact (And.intro (rfl) (And.intro (eL_frz _) (And.intro (eL_frz _) trivial)))) (by kernel_rfl))⟩
  refine srve 89 [(0, .ptr 0 0 0), (10, A v7), (11, A ((v15.set v19.1.toNat (({ v23 with fKind := v21.fKind } : T_impl_Column))))), (12, I v17.1), (13, I v19.1), (14, rf 2 1 1 v29), (15, rf 3 0 1 v31.1), (76, B ((v40.1 == 1)))] [sc 0 v40.2, none, sl 1 v29, sl 0 v31.1] ?_
  refine pc h (fun h => ?_) (fun h => ?_)
  refine rv 4 89 [(10, A v7), (11, A ((v15.set v19.1.toNat (({ v23 with fKind := v21.fKind } : T_impl_Column))))), (12, I v17.1), (13, I v19.1), (14, rf 2 1 1 v29), (78, rf 3 0 1 v31.1), (81, .arr 1 (([[(T_impl_Value.mk 7 0 (ByteArray.mk #[]))]] : List (List T_impl_Value))).length (eL ([[(T_impl_Value.mk 7 0 (ByteArray.mk #[]))]] : List (List T_impl_Value))) true)] [sc 0 v40.2, none, sl 1 v29, sl 0 v31.1] ?_
  obtain ⟨v46, hv47, h⟩ := bindS h
  refine opsP_app τ_ok 82 3 0 (pn hQ) hv47 (by kernel_rfl) ?_
  refine ve 1 89 [(10, A v7), (11, A ((v15.set v19.1.toNat (({ v23 with fKind := v21.fKind } : T_impl_Column))))), (12, I v17.1), (13, I v19.1), (14, rf 2 1 1 v29), (15, rf 3 1 1 v46)] [sc 0 v40.2, none, sl 1 v29, sl 1 v46] ?_
  exact ⟨(v17.1, v19.1, v40.2, v46), h, (it (st' := ⟨89, [(10, A v7), (11, A ((v15.set v19.1.toNat (({ v23 with fKind := v21.fKind } : T_impl_Column))))), (12, I v17.1), (13, I v19.1), (14, rf 2 1 1 v29), (15, rf 3 1 1 v46)], [sc 0 v40.2, none, sl 1 v29, sl 1 v46]⟩) [10, 11, 12, 13, 14, 15]).trans ((Imp.reverS (st' := ⟨89, [(10, A v7), (11, A ((v15.set v19.1.toNat (({ v23 with fKind := v21.fKind } : T_impl_Column))))), (12, I v17.1), (13, I v19.1), (14, rf 2 0 1 v29), (15, rf 3 1 1 v46)], [sc 0 v40.2, none, sl 0 v29, sl 1 v46]⟩) 2 1 (eL v29) [10, 11, 12, 13, 14, 15] (by kernel_rfl) (by exact (And.intro (rfl) (And.intro (eL_frz _) (And.intro (eL_frz _) trivial)))) (by kernel_rfl)).trans (Imp.reverS 3 1 (eL v46) [10, 11, 12, 13, 14, 15] (by kernel_rfl) (by exact (And.intro (rfl) (And.intro (eL_frz _) (And.intro (eL_frz _) trivial)))) (by kernel_rfl)))⟩
  refine rv 1 89 [(10, A v7), (11, A ((v15.set v19.1.toNat (({ v23 with fKind := v21.fKind } : T_impl_Column))))), (12, I v17.1), (14, rf 2 1 1 v29), (15, rf 3 0 1 v31.1), (68, .ptr 0 0 0)] [sc 0 v40.2, none, sl 1 v29, sl 0 v31.1] ?_
  obtain ⟨v48, hv49, h⟩ := bindS h
  refine cB 69 0 0 (ok_spec_l20Rd_pick hv49) ?_
  refine ve 2 89 [(10, A v7), (11, A ((v15.set v19.1.toNat (({ v23 with fKind := v21.fKind } : T_impl_Column))))), (12, I v17.1), (13, I ((w64 (v48.1 - 1)))), (14, rf 2 1 1 v29), (15, rf 3 0 1 v31.1)] [sc 0 v48.2, none, sl 1 v29, sl 0 v31.1] ?_
  exact ⟨(v17.1, (w64 (v48.1 - 1)), v48.2, v31.1), h, (it (st' := ⟨89, [(10, A v7), (11, A ((v15.set v19.1.toNat (({ v23 with fKind := v21.fKind } : T_impl_Column))))), (12, I v17.1), (13, I ((w64 (v48.1 - 1)))), (14, rf 2 1 1 v29), (15, rf 3 0 1 v31.1)], [sc 0 v48.2, none, sl 1 v29, sl 0 v31.1]⟩) [10, 11, 12, 13, 14, 15]).trans (Imp.reverS 2 1 (eL v29) [10, 11, 12, 13, 14, 15] (by kernel_rfl) (by exact (And.intro (rfl) (And.intro (eL_frz _) (And.intro (eL_frz _) trivial)))) (by kernel_rfl))⟩
  refine pwp_skip ?_
  exact ⟨(v17.1, v19.1, v37.2, v31.1), h, (it (st' := ⟨89, [(10, A v7), (11, A ((v15.set v19.1.toNat (({ v23 with fKind := v21.fKind } : T_impl_Column))))), (12, I v17.1), (13, I v19.1), (14, rf 2 1 1 v29), (15, rf 3 0 1 v31.1)], [sc 0 v37.2, none, sl 1 v29, sl 0 v31.1]⟩) [10, 11, 12, 13, 14, 15]).trans (Imp.reverS 2 1 (eL v29) [10, 11, 12, 13, 14, 15] (by kernel_rfl) (by exact (And.intro (rfl) (And.intro (eL_frz _) (And.intro (eL_frz _) trivial)))) (by kernel_rfl))⟩
  rintro ⟨x33, x34, x35, x36⟩ h
  dsimp only at h ⊢
  unfold spec_l20Pair_j0 at h
  refine srve 89 [(4, A v7), (5, A ((v15.set v19.1.toNat (({ v23 with fKind := v21.fKind } : T_impl_Column))))), (6, rf 2 0 1 v29), (7, rf 3 0 1 x36), (8, I x33), (9, I x34)] [sc 0 x35, none, sl 0 v29, sl 0 x36] ?_
  have h := si h
  subst h
  exact pwp_ret ⟨.inr rfl, .tup [A v7, A ((v15.set v19.1.toNat (({ v23 with fKind := v21.fKind } : T_impl_Column)))), rf 2 0 1 v29, rf 3 0 1 x36, I x33, I x34], _, 0, by kernel_rfl, (OutP.tup (OutL.cons (OutP.frz (by kernel_rfl)) (OutL.cons (OutP.frz (by kernel_rfl)) (OutL.cons (OutP.list (v := 0) (by kernel_rfl)) (OutL.cons (OutP.list (v := 0) (by kernel_rfl)) (OutL.cons (OutP.frz (by kernel_rfl)) (OutL.cons (OutP.frz (by kernel_rfl)) (OutL.nil _)))))))), by decide, by decide, by kernel_rfl⟩
def impl_RowFits_j2 (x3 : Int) (K5 : Int → Option Bool) (x9 : Bool) : Option Bool := bif x9 then some false else K5 ((w64 (x3 + 1)))
def impl_RowFits_l1 (a0 : List T_impl_Column) (a1 : List T_impl_Value) : Nat → Int → Option Bool
  | 0, _ => none
  | f4 + 1, x3 => bif (decide (x3 < ((a1.length : Int)))) then (getI a1 x3).bind fun v7 => (getI a0 x3).bind fun v11 => bif (!(v7.fKind == v11.fKind)) then bif (!(v7.fKind == 0)) then impl_RowFits_j2 x3 (impl_RowFits_l1 a0 a1 f4) true else (getI a0 x3).bind fun v13 => impl_RowFits_j2 x3 (impl_RowFits_l1 a0 a1 f4) ((!v13.fEmpty)) else impl_RowFits_j2 x3 (impl_RowFits_l1 a0 a1 f4) false else some true
def impl_RowFits_j0 (a0 : List T_impl_Column) (a1 : List T_impl_Value) (x1 : Bool) : Option Bool := bif x1 then some false else impl_RowFits_l1 a0 a1 FUEL 0
def impl_RowFits (a0 : List T_impl_Column) (a1 : List T_impl_Value) : Option Bool := (impl_ColumnsOk a0).bind fun v17 => bif (!v17) then impl_RowFits_j0 a0 a1 true else (impl_RowOk a1).bind fun v19 => bif (!v19) then impl_RowFits_j0 a0 a1 true else impl_RowFits_j0 a0 a1 ((!(((a1.length : Int)) == ((a0.length : Int)))))
theorem ok_impl_RowFits {a0 : List T_impl_Column} {a1 : List T_impl_Value} {y : Bool} (h : impl_RowFits a0 a1 = some y) : OK Tryz.prog 68 [A a0, A a1] (B y) := by
  refine ow Tryz.func68 fun Γ hX => ?_
  unfold impl_RowFits at h
  refine srveM [6] 51 [(0, A a0), (1, A a1)] [] ?_
  refine pwp_seq ?_
  refine pwp_seq ?_
  refine pwp_join (σ := Bool) (fun x1 => (⟨51, [(0, A a0), (1, A a1), (21, B x1)], []⟩ : St)) (fun x1 => impl_RowFits_j0 a0 a1 x1 = some y) ?_ ?_
  refine rvM [6] 1 51 [(0, A a0), (1, A a1), (7, A a0)] [] ?_
  obtain ⟨v17, hv18, h⟩ := bindS h
  refine cF 8 (ok_impl_ColumnsOk hv18) ?_
  refine vM [6] 2 51 [(0, A a0), (1, A a1), (10, B ((!v17)))] [] ?_
  rcases fk ((!v17)) with hc22 | hc22
  replace h := bT hc22 h
  rw [hc22]
  refine veM [6] 11 51 [(0, A a0), (1, A a1), (21, B true)] [] ?_
  exact ⟨true, h, it [0, 1, 21]⟩
  replace h := bF hc22 h
  rw [hc22]
  refine vM [6] 1 51 [(0, A a0), (1, A a1), (10, B false), (11, A a1)] [] ?_
  obtain ⟨v19, hv20, h⟩ := bindS h
  refine cF 12 (ok_impl_RowOk hv20) ?_
  refine vM [6] 3 51 [(0, A a0), (1, A a1), (15, B ((!v19)))] [] ?_
  rcases fk ((!v19)) with hc21 | hc21
  replace h := bT hc21 h
  rw [hc21]
  refine veM [6] 6 51 [(0, A a0), (1, A a1), (21, B true)] [] ?_
  exact ⟨true, h, it [0, 1, 21]⟩
  replace h := bF hc21 h
  rw [hc21]
  refine veM [6] 6 51 [(0, A a0), (1, A a1), (21, B ((!(((a1.length : Int)) == ((a0.length : Int))))))] [] ?_
  exact ⟨(!(((a1.length : Int)) == ((a0.length : Int)))), h, it [0, 1, 21]⟩
  rintro x1 h
  unfold impl_RowFits_j0 at h
  refine pc h (fun h => ?_) (fun h => ?_)
  refine srveM [6] 51 [(4, B false)] [] ?_
  cases h
  exact pwp_ret rz
  refine pwp_skip ?_
  refine pwp_seq ?_
  refine srveM [6] 51 [(0, A a0), (22, A a1), (23, I ((a1.length : Int))), (24, I 0)] [] ?_
  refine pwp_block ?_
  refine pwp_loop (ι := Nat × Int) (fun (f4, x3) => (⟨51, [(0, A a0), (22, A a1), (23, I ((a1.length : Int))), (24, I x3)], []⟩ : St)) (fun (f4, x3) => impl_RowFits_l1 a0 a1 f4 x3 = some y) Prod.fst (FUEL, 0) h (it [0, 22, 23, 24]) ?_
  rintro ⟨f4, x3⟩ h
  dsimp only at h ⊢
  rcases f4 with _ | f4
  cases h
  rw [impl_RowFits_l1] at h
  refine srveM [6] 51 [(0, A a0), (22, A a1), (23, I ((a1.length : Int))), (24, I x3), (25, B ((decide (x3 < ((a1.length : Int))))))] [] ?_
  refine pwp_seq ?_
  refine pc h (fun h => ?_) (fun h => ?_)
  refine pwp_skip ?_
  refine pwp_seq ?_
  refine pwp_block ?_
  refine srvM [6] 1 51 [(0, A a0), (22, A a1), (23, I ((a1.length : Int))), (24, I x3), (26, I x3)] [] ?_
  obtain ⟨v7, hv8, h⟩ := bindS h
  refine opsP_idx τ_ok 27 hv8 (by kernel_rfl) ?_
  refine veM [6] 4 51 [(0, A a0), (5, I x3), (6, .ptr 0 0 0), (22, A a1), (23, I ((a1.length : Int))), (24, I x3)] [sc 0 v7] ?_
  refine pwp_seq ?_
  refine pwp_join (σ := Bool) (fun x9 => (⟨51, [(0, A a0), (22, A a1), (23, I ((a1.length : Int))), (24, I x3), (49, B x9)], [sc 0 v7]⟩ : St)) (fun x9 => impl_RowFits_j2 x3 (impl_RowFits_l1 a0 a1 f4) x9 = some y) ?_ ?_
  refine ip 51 [(0, A a0), (5, I x3), (6, .ptr 0 0 0), (22, A a1), (23, I ((a1.length : Int))), (24, I x3)] [sc 0 v7] ?_
  refine pwp_any ([[0], [0], [], [], [], [], [], [], [], [0], [0], [], [], [], [], [], [], [], [], [], []]) ([[], [], [], [], [], [], [], [], [], [], [], [], [], [], [], [], [], [], [], [], []]) rfl (by kernel_rfl) ?_
  refine qvM [6] [0] (hB trivial) 2 51 [(30, I v7.fKind), (0, A a0), (5, I x3), (6, .ptr 0 0 0), (22, A a1), (23, I ((a1.length : Int))), (24, I x3)] [sc 0 v7] ?_
  refine qvM [6] [] trivial 2 51 [(32, I x3), (31, A a0), (30, I v7.fKind), (0, A a0), (5, I x3), (6, .ptr 0 0 0), (22, A a1), (23, I ((a1.length : Int))), (24, I x3)] [sc 0 v7] ?_
  obtain ⟨v11, hv12, h⟩ := bindS h
  refine qX (some 33) (pf v11 0) 51 [(33, pf v11 0), (30, I v7.fKind), (0, A a0), (5, I x3), (6, .ptr 0 0 0), (22, A a1), (23, I ((a1.length : Int))), (24, I x3)] [sc 0 v7] (fun Γ' hΓ => CoreE.of_y (idxV_sound τ_ok (by kernel_rfl) hv12)) trivial ?_
  refine qvM [6] [] trivial 4 51 [(37, B ((!(v7.fKind == v11.fKind)))), (0, A a0), (5, I x3), (6, .ptr 0 0 0), (22, A a1), (23, I ((a1.length : Int))), (24, I x3)] [sc 0 v7] ?_
  rcases fk ((!(v7.fKind == v11.fKind))) with hc16 | hc16
  replace h := bT hc16 h
  rw [hc16]
  refine qvM [6] [0] (hB trivial) 2 51 [(39, I v7.fKind), (38, .ptr 0 0 0), (37, B true), (0, A a0), (5, I x3), (22, A a1), (23, I ((a1.length : Int))), (24, I x3)] [sc 0 v7] ?_
  refine qvM [6] [] trivial 2 51 [(41, B ((!(v7.fKind == 0)))), (40, B ((!(v7.fKind == 0)))), (39, I v7.fKind), (38, .ptr 0 0 0), (37, B true), (0, A a0), (5, I x3), (22, A a1), (23, I ((a1.length : Int))), (24, I x3)] [sc 0 v7] ?_
  rcases fk ((!(v7.fKind == 0))) with hc15 | hc15
  replace h := bT hc15 h
  rw [hc15]
  refine qvnM [6] [] trivial 8 51 [(0, A a0), (22, A a1), (23, I ((a1.length : Int))), (24, I x3), (38, .ptr 0 0 0), (39, I v7.fKind), (40, B true), (41, B true), (42, .lit undef), (43, .lit undef), (44, .lit undef), (45, .lit undef), (46, .lit undef), (47, .lit undef), (48, B true), (49, B true)] [sc 0 v7] ?_
  exact ⟨true, h, it [0, 22, 23, 24, 49]⟩
  replace h := bF hc15 h
  rw [hc15]
  refine qvM [6] [] trivial 2 51 [(43, I x3), (42, A a0), (41, B false), (40, B false), (39, I v7.fKind), (38, .ptr 0 0 0), (37, B true), (0, A a0), (22, A a1), (23, I ((a1.length : Int))), (24, I x3)] [sc 0 v7] ?_
  obtain ⟨v13, hv14, h⟩ := bindS h
  refine qX (some 44) (pf v13 0) 51 [(44, pf v13 0), (43, I x3), (42, A a0), (41, B false), (40, B false), (39, I v7.fKind), (38, .ptr 0 0 0), (37, B true), (0, A a0), (22, A a1), (23, I ((a1.length : Int))), (24, I x3)] [sc 0 v7] (fun Γ' hΓ => CoreE.of_y (idxV_sound τ_ok (by kernel_rfl) hv14)) trivial ?_
  refine qvnM [6] [] trivial 5 51 [(0, A a0), (22, A a1), (23, I ((a1.length : Int))), (24, I x3), (38, .ptr 0 0 0), (39, I v7.fKind), (40, B false), (41, B false), (42, A a0), (43, I x3), (44, pf v13 0), (45, pf v13 1), (46, B v13.fEmpty), (47, B ((!v13.fEmpty))), (48, B ((!v13.fEmpty))), (49, B ((!v13.fEmpty)))] [sc 0 v7] ?_
  exact ⟨(!v13.fEmpty), h, it [0, 22, 23, 24, 49]⟩
  replace h := bF hc16 h
  rw [hc16]
  refine qvM [6] [0] (hB trivial) 2 51 [(39, .lit undef), (38, .lit undef), (37, B false), (0, A a0), (5, I x3), (22, A a1), (23, I ((a1.length : Int))), (24, I x3)] [sc 0 v7] ?_
  refine qvM [6] [] trivial 10 51 [(49, B false), (48, .lit undef), (47, .lit undef), (46, .lit undef), (45, .lit undef), (44, .lit undef), (43, .lit undef), (42, .lit undef), (41, .lit undef), (40, .lit undef), (39, .lit undef), (38, .lit undef), (0, A a0), (22, A a1), (23, I ((a1.length : Int))), (24, I x3)] [sc 0 v7] ?_
  refine qn 51 [(0, A a0), (22, A a1), (23, I ((a1.length : Int))), (24, I x3), (38, .lit undef), (39, .lit undef), (40, .lit undef), (41, .lit undef), (42, .lit undef), (43, .lit undef), (44, .lit undef), (45, .lit undef), (46, .lit undef), (47, .lit undef), (48, .lit undef), (49, B false)] [sc 0 v7] ?_
  exact ⟨false, h, it [0, 22, 23, 24, 49]⟩
  rintro x9 h
  unfold impl_RowFits_j2 at h
  refine pc h (fun h => ?_) (fun h => ?_)
  refine srveM [6] 51 [(4, B false)] [sc 0 v7] ?_
  cases h
  exact pwp_ret rz
  refine pwp_skip ?_
  refine rveM [6] 51 [(0, A a0), (22, A a1), (23, I ((a1.length : Int))), (24, I ((w64 (x3 + 1))))] [sc 0 v7] ?_
  exact ⟨(f4, (w64 (x3 + 1))), h, Nat.lt_succ_self _, (it (st' := ⟨51, [(0, A a0), (22, A a1), (23, I ((a1.length : Int))), (24, I ((w64 (x3 + 1))))], [sc 0 v7]⟩) [0, 22, 23, 24]).trans (Imp.truncS 0 (nx hX) (by kernel_rfl) (allBelow_mem (by exact (And.intro rfl (And.intro rfl (And.intro rfl (And.intro rfl trivial)))))) (by exact trivial) (by kernel_rfl))⟩
  refine pwp_exit ?_
  refine srveM [6] 51 [(4, B true)] [] ?_
  cases h
  exact pwp_ret rz
def impl_Part_kind (a0 : T_impl_Part) (a1 : List T_impl_Column) (a2 : List Int) : Option (Int × Bool) := bif (a0.fKind == 1) then some (a0.fV.fKind, true) else bif (a0.fKind == 2) then (getI a1 a0.fN).bind fun v3 => some (v3.fKind, true) else bif (a0.fKind == 3) then (impl_Part_kind_1 1 a2).bind fun v6 => some (1, v6) else bif (a0.fKind == 4) then (getI a2 0).bind fun v9 => (getI a2 1).bind fun v11 => some (3, (v9 == v11)) else bif (a0.fKind == 8) then some (3, true) else (impl_Part_kind_1 3 a2).bind fun v14 => some (3, v14)
theorem ok_impl_Part_kind {a0 : T_impl_Part} {a1 : List T_impl_Column} {a2 : List Int} {y : Int × Bool} (h : impl_Part_kind a0 a1 a2 = some y) : OK Tryz.prog 81 [E a0, A a1, A a2] (.tup [I y.1, B y.2]) := by
  refine ow Tryz.func81 fun Γ hX => ?_
  unfold impl_Part_kind at h
  refine srve 42 [(1, A a1), (3, pf a0 0), (5, pf a2 0)] [] ?_
  refine srve 42 [(1, A a1), (3, pf a0 0), (5, pf a2 0), (8, .fn 139 [pf a2 0])] [] ?_
  refine pwp_seq ?_
  refine srve 42 [(1, A a1), (3, pf a0 0), (5, pf a2 0), (8, .fn 139 [pf a2 0]), (11, I a0.fKind)] [] ?_
  refine pwp_block ?_
  refine srve 42 [(1, A a1), (3, pf a0 0), (5, pf a2 0), (8, .fn 139 [pf a2 0]), (11, I a0.fKind), (12, B ((a0.fKind == 1)))] [] ?_
  refine pc h (fun h => ?_) (fun h => ?_)
  refine srve 42 [(6, I a0.fV.fKind), (7, B true)] [] ?_
  have h := si h
  subst h
  exact pwp_ret (rt (.tup [I a0.fV.fKind, B true]) (OutP.tup (OutL.cons (OutP.frz (by kernel_rfl)) (OutL.cons (OutP.frz (by kernel_rfl)) (OutL.nil _)))))
  refine srve 42 [(1, A a1), (3, pf a0 0), (5, pf a2 0), (8, .fn 139 [pf a2 0]), (11, I a0.fKind), (17, B ((a0.fKind == 2)))] [] ?_
  refine pc h (fun h => ?_) (fun h => ?_)
  refine srv 3 42 [(19, A a1), (21, I a0.fN)] [] ?_
  obtain ⟨v3, hv4, h⟩ := bindS h
  refine opsP_idx τ_ok 22 hv4 (by kernel_rfl) ?_
  refine ve 4 42 [(6, I v3.fKind), (7, B true)] [] ?_
  have h := si h
  subst h
  exact pwp_ret (rt (.tup [I v3.fKind, B true]) (OutP.tup (OutL.cons (OutP.frz (by kernel_rfl)) (OutL.cons (OutP.frz (by kernel_rfl)) (OutL.nil _)))))
  refine srve 42 [(5, pf a2 0), (8, .fn 139 [pf a2 0]), (11, I a0.fKind), (25, B ((a0.fKind == 3)))] [] ?_
  refine pc h (fun h => ?_) (fun h => ?_)
  refine srv 1 42 [(27, .fn 139 [pf a2 0])] [] ?_
  obtain ⟨v6, hv7, h⟩ := bindS h
  refine cF 28 (ok_impl_Part_kind_1 hv7) ?_
  refine ve 2 42 [(6, I 1), (7, B v6)] [] ?_
  have h := si h
  subst h
  exact pwp_ret (rt (.tup [I 1, B v6]) (OutP.tup (OutL.cons (OutP.frz (by kernel_rfl)) (OutL.cons (OutP.frz (by kernel_rfl)) (OutL.nil _)))))
  refine srve 42 [(5, pf a2 0), (8, .fn 139 [pf a2 0]), (11, I a0.fKind), (29, B ((a0.fKind == 4)))] [] ?_
  refine pc h (fun h => ?_) (fun h => ?_)
  refine pwp_seq ?_
  refine ip 42 [(5, pf a2 0)] [] ?_
  refine pN 9 ?_
  refine qv [] trivial 1 42 [(31, A a2), (5, pf a2 0)] [] ?_
  obtain ⟨v9, hv10, h⟩ := bindS h
  refine qX (some 32) (pf v9 0) 42 [(32, pf v9 0), (5, pf a2 0)] [] (fun Γ' hΓ => CoreE.of_y (idxV_sound τ_ok (by kernel_rfl) hv10)) trivial ?_
  refine qv [] trivial 2 42 [(34, A a2), (33, I v9)] [] ?_
  obtain ⟨v11, hv12, h⟩ := bindS h
  refine qX (some 35) (pf v11 0) 42 [(35, pf v11 0), (33, I v9)] [] (fun Γ' hΓ => CoreE.of_y (idxV_sound τ_ok (by kernel_rfl) hv12)) trivial ?_
  refine qvn [] trivial 4 42 [(6, I 3), (7, B ((v9 == v11)))] [] ?_
  have h := si h
  subst h
  exact pwp_ret (rt (.tup [I 3, B ((v9 == v11))]) (OutP.tup (OutL.cons (OutP.frz (by kernel_rfl)) (OutL.cons (OutP.frz (by kernel_rfl)) (OutL.nil _)))))
  refine srve 42 [(8, .fn 139 [pf a2 0]), (38, B ((a0.fKind == 8)))] [] ?_
  refine pc h (fun h => ?_) (fun h => ?_)
  refine srve 42 [(6, I 3), (7, B true)] [] ?_
  have h := si h
  subst h
  exact pwp_ret (rt (.tup [I 3, B true]) (OutP.tup (OutL.cons (OutP.frz (by kernel_rfl)) (OutL.cons (OutP.frz (by kernel_rfl)) (OutL.nil _)))))
  refine pwp_skip ?_
  refine srv 1 42 [(40, .fn 139 [pf a2 0])] [] ?_
  obtain ⟨v14, hv15, h⟩ := bindS h
  refine cF 41 (ok_impl_Part_kind_1 hv15) ?_
  refine ve 2 42 [(6, I 3), (7, B v14)] [] ?_
  have h := si h
  subst h
  exact pwp_ret (rt (.tup [I 3, B v14]) (OutP.tup (OutL.cons (OutP.frz (by kernel_rfl)) (OutL.cons (OutP.frz (by kernel_rfl)) (OutL.nil _)))))
def impl_beside (a0 : List T_impl_Value) (a1 : List T_impl_Value) : Option (List T_impl_Value) := (slices_Concat_impl_Value_impl_Value ([a0, a1])).bind fun v1 => (impl_clone_impl_Value v1).bind fun v3 => some v3
theorem ok_impl_beside {a0 : List T_impl_Value} {a1 : List T_impl_Value} {y : List T_impl_Value} (h : impl_beside a0 a1 = some y) : OK Tryz.prog 86 [A a0, A a1] (A y) := by
  refine ow Tryz.func86 fun Γ hX => ?_
  unfold impl_beside at h
  refine srve 10 [(0, A a0), (1, A a1)] [] ?_
  refine srv 3 10 [(7, .arr 1 (([a0, a1] : List (List T_impl_Value))).length (eL ([a0, a1] : List (List T_impl_Value))) true)] [] ?_
  obtain ⟨v1, hv2, h⟩ := bindS h
  refine cFo 8 (ok_slices_Concat_impl_Value_impl_Value hv2) ?_
  obtain ⟨v3, hv4, h⟩ := bindS h
  refine cF 9 (ok_impl_clone_impl_Value hv4) ?_
  refine ve 1 10 [(4, A v3)] [] ?_
  cases h
  exact pwp_ret rz
def spec_RowsOk_l0 (a0 : List T_impl_Column) (a1 : List (List T_impl_Value)) : Nat → Int → Option Bool
  | 0, _ => none
  | f2 + 1, x1 => bif (decide (x1 < ((a1.length : Int)))) then (getI a1 x1).bind fun v5 => (spec_RowFits a0 v5).bind fun v7 => bif (!v7) then some false else (spec_RowsOk_l0 a0 a1 f2) ((w64 (x1 + 1))) else (spec_ColumnsOk a0).bind fun v10 => some v10
def spec_RowsOk (a0 : List T_impl_Column) (a1 : List (List T_impl_Value)) : Option Bool := spec_RowsOk_l0 a0 a1 FUEL 0
theorem ok_spec_RowsOk {a0 : List T_impl_Column} {a1 : List (List T_impl_Value)} {y : Bool} (h : spec_RowsOk a0 a1 = some y) : OK Tryz.prog 132 [A a0, A a1] (B y) := by
  refine ow Tryz.func132 fun Γ hX => ?_
  unfold spec_RowsOk at h
  refine srve 21 [(0, A a0), (1, A a1)] [] ?_
  refine pwp_seq ?_
  refine srve 21 [(0, A a0), (1, A a1), (5, I 0)] [] ?_
  refine pwp_block ?_
  refine pwp_loop (ι := Nat × Int) (fun (f2, x1) => (⟨21, [(0, A a0), (1, A a1), (5, I x1)], []⟩ : St)) (fun (f2, x1) => spec_RowsOk_l0 a0 a1 f2 x1 = some y) Prod.fst (FUEL, 0) h (it [0, 1, 5]) ?_
  rintro ⟨f2, x1⟩ h
  dsimp only at h ⊢
  rcases f2 with _ | f2
  cases h
  rw [spec_RowsOk_l0] at h
  refine pwp_seq ?_
  refine srve 21 [(0, A a0), (1, A a1), (5, I x1), (9, B ((decide (x1 < ((a1.length : Int))))))] [] ?_
  refine pc h (fun h => ?_) (fun h => ?_)
  refine pwp_skip ?_
  refine pwp_seq ?_
  refine pwp_block ?_
  refine srv 3 21 [(0, A a0), (1, A a1), (5, I x1), (12, A a0), (13, A a1), (14, I x1)] [] ?_
  obtain ⟨v5, hv6, h⟩ := bindS h
  refine opsP_idx τ_ok 15 hv6 (by kernel_rfl) ?_
  refine v 1 21 [(0, A a0), (1, A a1), (5, I x1), (12, A a0), (16, A v5)] [] ?_
  obtain ⟨v7, hv8, h⟩ := bindS h
  refine cF 17 (ok_spec_RowFits hv8) ?_
  refine ve 1 21 [(0, A a0), (1, A a1), (5, I x1), (18, B ((!v7)))] [] ?_
  refine pc h (fun h => ?_) (fun h => ?_)
  refine srve 21 [(4, B false)] [] ?_
  cases h
  exact pwp_ret rz
  refine pwp_skip ?_
  refine rve 21 [(0, A a0), (1, A a1), (5, I ((w64 (x1 + 1))))] [] ?_
  exact ⟨(f2, (w64 (x1 + 1))), h, Nat.lt_succ_self _, it [0, 1, 5]⟩
  refine pwp_exit ?_
  refine srv 1 21 [(19, A a0)] [] ?_
  obtain ⟨v10, hv11, h⟩ := bindS h
  refine cF 20 (ok_spec_ColumnsOk hv11) ?_
  refine ve 1 21 [(4, B v10)] [] ?_
  cases h
  exact pwp_ret rz
def impl_Compare_j1 (a0 : Int) (a1 : T_impl_Value) (a2 : T_impl_Value) (x3 : Bool) : Option Int := bif x3 then some 2 else bif (!(a1.fKind == a2.fKind)) then some (-1) else (impl_Value_order a1 a2).bind fun v6 => bif (a0 == 1) then bif (v6 == 0) then (impl_truthIf true).bind fun v8 => some v8 else bif (a0 == 2) then bif (!(v6 == 0)) then (impl_truthIf true).bind fun v10 => some v10 else bif (a0 == 3) then bif (decide (v6 < 0)) then (impl_truthIf true).bind fun v12 => some v12 else bif (a0 == 4) then (impl_truthIf ((decide (v6 ≤ 0)))).bind fun v14 => some v14 else (impl_truthIf false).bind fun v16 => some v16 else bif (a0 == 4) then (impl_truthIf ((decide (v6 ≤ 0)))).bind fun v20 => some v20 else (impl_truthIf false).bind fun v22 => some v22 else bif (a0 == 3) then bif (decide (v6 < 0)) then (impl_truthIf true).bind fun v27 => some v27 else bif (a0 == 4) then (impl_truthIf ((decide (v6 ≤ 0)))).bind fun v29 => some v29 else (impl_truthIf false).bind fun v31 => some v31 else bif (a0 == 4) then (impl_truthIf ((decide (v6 ≤ 0)))).bind fun v35 => some v35 else (impl_truthIf false).bind fun v37 => some v37 else bif (a0 == 2) then bif (!(v6 == 0)) then (impl_truthIf true).bind fun v43 => some v43 else bif (a0 == 3) then bif (decide (v6 < 0)) then (impl_truthIf true).bind fun v45 => some v45 else bif (a0 == 4) then (impl_truthIf ((decide (v6 ≤ 0)))).bind fun v47 => some v47 else (impl_truthIf false).bind fun v49 => some v49 else bif (a0 == 4) then (impl_truthIf ((decide (v6 ≤ 0)))).bind fun v53 => some v53 else (impl_truthIf false).bind fun v55 => some v55 else bif (a0 == 3) then bif (decide (v6 < 0)) then (impl_truthIf true).bind fun v60 => some v60 else bif (a0 == 4) then (impl_truthIf ((decide (v6 ≤ 0)))).bind fun v62 => some v62 else (impl_truthIf false).bind fun v64 => some v64 else bif (a0 == 4) then (impl_truthIf ((decide (v6 ≤ 0)))).bind fun v68 => some v68 else (impl_truthIf false).bind fun v70 => some v70
def impl_Compare_j0 (a0 : Int) (a1 : T_impl_Value) (a2 : T_impl_Value) (x1 : Bool) : Option Int := bif x1 then some (-1) else bif (a1.fKind == 0) then impl_Compare_j1 a0 a1 a2 true else impl_Compare_j1 a0 a1 a2 ((a2.fKind == 0))
def impl_Compare (a0 : Int) (a1 : T_impl_Value) (a2 : T_impl_Value) : Option Int := (impl_between a0 1 4).bind fun v77 => bif (!v77) then impl_Compare_j0 a0 a1 a2 true else (impl_Value_ok a1).bind fun v79 => bif (!v79) then impl_Compare_j0 a0 a1 a2 true else (impl_Value_ok a2).bind fun v81 => impl_Compare_j0 a0 a1 a2 ((!v81))
theorem ok_impl_Compare {a0 : Int} {a1 : T_impl_Value} {a2 : T_impl_Value} {y : Int} (h : impl_Compare a0 a1 a2 = some y) : OK Tryz.prog 210 [I a0, E a1, E a2] (I y) := by
  refine ow Tryz.func210 fun Γ hX => ?_
  unfold impl_Compare at h
  refine srve 71 [(0, I a0), (4, pf a1 0), (5, pf a2 0)] [] ?_
  refine pwp_seq ?_
  refine pwp_block ?_
  refine pwp_seq ?_
  refine pwp_join (σ := Bool) (fun x1 => (⟨71, [(0, I a0), (4, pf a1 0), (5, pf a2 0), (8, B x1)], []⟩ : St)) (fun x1 => impl_Compare_j0 a0 a1 a2 x1 = some y) ?_ ?_
  refine rv 1 71 [(0, I a0), (4, pf a1 0), (5, pf a2 0), (9, I a0)] [] ?_
  obtain ⟨v77, hv78, h⟩ := bindS h
  refine cF 10 (ok_impl_between hv78) ?_
  refine v 2 71 [(0, I a0), (4, pf a1 0), (5, pf a2 0), (12, B ((!v77)))] [] ?_
  rcases fk ((!v77)) with hc84 | hc84
  replace h := bT hc84 h
  rw [hc84]
  refine ve 10 71 [(0, I a0), (4, pf a1 0), (5, pf a2 0), (8, B true)] [] ?_
  exact ⟨true, h, it [0, 4, 5, 8]⟩
  replace h := bF hc84 h
  rw [hc84]
  refine v 1 71 [(0, I a0), (4, pf a1 0), (5, pf a2 0), (12, B false), (13, E a1)] [] ?_
  obtain ⟨v79, hv80, h⟩ := bindS h
  refine cF 14 (ok_impl_Value_ok hv80) ?_
  refine v 3 71 [(0, I a0), (4, pf a1 0), (5, pf a2 0), (17, B ((!v79)))] [] ?_
  rcases fk ((!v79)) with hc83 | hc83
  replace h := bT hc83 h
  rw [hc83]
  refine ve 5 71 [(0, I a0), (4, pf a1 0), (5, pf a2 0), (8, B true)] [] ?_
  exact ⟨true, h, it [0, 4, 5, 8]⟩
  replace h := bF hc83 h
  rw [hc83]
  refine v 1 71 [(0, I a0), (4, pf a1 0), (5, pf a2 0), (17, B false), (18, E a2)] [] ?_
  obtain ⟨v81, hv82, h⟩ := bindS h
  refine cF 19 (ok_impl_Value_ok hv82) ?_
  refine ve 3 71 [(0, I a0), (4, pf a1 0), (5, pf a2 0), (8, B ((!v81)))] [] ?_
  exact ⟨(!v81), h, it [0, 4, 5, 8]⟩
  rintro x1 h
  unfold impl_Compare_j0 at h
  refine pc h (fun h => ?_) (fun h => ?_)
  refine srve 71 [(6, I (-1))] [] ?_
  cases h
  exact pwp_ret rz
  refine pwp_seq ?_
  refine pwp_join (σ := Bool) (fun x3 => (⟨71, [(0, I a0), (4, pf a1 0), (5, pf a2 0), (22, B x3)], []⟩ : St)) (fun x3 => impl_Compare_j1 a0 a1 a2 x3 = some y) ?_ ?_
  refine rv 4 71 [(0, I a0), (4, pf a1 0), (5, pf a2 0), (26, B ((a1.fKind == 0)))] [] ?_
  rcases fk ((a1.fKind == 0)) with hc76 | hc76
  replace h := bT hc76 h
  rw [hc76]
  refine ve 5 71 [(0, I a0), (4, pf a1 0), (5, pf a2 0), (22, B true)] [] ?_
  exact ⟨true, h, it [0, 4, 5, 22]⟩
  replace h := bF hc76 h
  rw [hc76]
  refine ve 5 71 [(0, I a0), (4, pf a1 0), (5, pf a2 0), (22, B ((a2.fKind == 0)))] [] ?_
  exact ⟨(a2.fKind == 0), h, it [0, 4, 5, 22]⟩
  rintro x3 h
  unfold impl_Compare_j1 at h
  refine pc h (fun h => ?_) (fun h => ?_)
  refine srve 71 [(6, I 2)] [] ?_
  cases h
  exact pwp_ret rz
  refine srve 71 [(0, I a0), (4, pf a1 0), (5, pf a2 0), (31, B ((!(a1.fKind == a2.fKind))))] [] ?_
  refine pc h (fun h => ?_) (fun h => ?_)
  refine srve 71 [(6, I (-1))] [] ?_
  cases h
  exact pwp_ret rz
  refine pwp_skip ?_
  refine srv 2 71 [(0, I a0), (37, E a1), (38, E a2)] [] ?_
  obtain ⟨v6, hv7, h⟩ := bindS h
  refine cF 39 (ok_impl_Value_order hv7) ?_
  refine ve 1 71 [(0, I a0), (7, I v6)] [] ?_
  refine srv 3 71 [(0, I a0), (7, I v6), (42, B ((a0 == 1)))] [] ?_
  rcases fk ((a0 == 1)) with hc75 | hc75
  replace h := bT hc75 h
  rw [hc75]
  refine v 4 71 [(0, I a0), (7, I v6), (46, B ((v6 == 0)))] [] ?_
  rcases fk ((v6 == 0)) with hc42 | hc42
  replace h := bT hc42 h
  rw [hc42]
  refine v 23 71 [(69, B true)] [] ?_
  obtain ⟨v8, hv9, h⟩ := bindS h
  refine cF 70 (ok_impl_truthIf hv9) ?_
  refine ve 1 71 [(6, I v8)] [] ?_
  cases h
  exact pwp_ret rz
  replace h := bF hc42 h
  rw [hc42]
  refine v 3 71 [(0, I a0), (7, I v6), (46, B false), (49, B ((a0 == 2)))] [] ?_
  rcases fk ((a0 == 2)) with hc41 | hc41
  replace h := bT hc41 h
  rw [hc41]
  refine v 5 71 [(0, I a0), (7, I v6), (54, B ((!(v6 == 0))))] [] ?_
  rcases fk ((!(v6 == 0))) with hc26 | hc26
  replace h := bT hc26 h
  rw [hc26]
  refine v 15 71 [(69, B true)] [] ?_
  obtain ⟨v10, hv11, h⟩ := bindS h
  refine cF 70 (ok_impl_truthIf hv11) ?_
  refine ve 1 71 [(6, I v10)] [] ?_
  cases h
  exact pwp_ret rz
  replace h := bF hc26 h
  rw [hc26]
  refine v 3 71 [(0, I a0), (7, I v6), (54, B false), (57, B ((a0 == 3)))] [] ?_
  rcases fk ((a0 == 3)) with hc25 | hc25
  replace h := bT hc25 h
  rw [hc25]
  refine v 5 71 [(0, I a0), (7, I v6), (62, B ((decide (v6 < 0))))] [] ?_
  rcases fk ((decide (v6 < 0))) with hc19 | hc19
  replace h := bT hc19 h
  rw [hc19]
  refine v 7 71 [(69, B true)] [] ?_
  obtain ⟨v12, hv13, h⟩ := bindS h
  refine cF 70 (ok_impl_truthIf hv13) ?_
  refine ve 1 71 [(6, I v12)] [] ?_
  cases h
  exact pwp_ret rz
  replace h := bF hc19 h
  rw [hc19]
  refine v 3 71 [(7, I v6), (62, B false), (65, B ((a0 == 4)))] [] ?_
  rcases fk ((a0 == 4)) with hc18 | hc18
  replace h := bT hc18 h
  rw [hc18]
  refine v 4 71 [(69, B ((decide (v6 ≤ 0))))] [] ?_
  obtain ⟨v14, hv15, h⟩ := bindS h
  refine cF 70 (ok_impl_truthIf hv15) ?_
  refine ve 1 71 [(6, I v14)] [] ?_
  cases h
  exact pwp_ret rz
  replace h := bF hc18 h
  rw [hc18]
  refine v 4 71 [(69, B false)] [] ?_
  obtain ⟨v16, hv17, h⟩ := bindS h
  refine cF 70 (ok_impl_truthIf hv17) ?_
  refine ve 1 71 [(6, I v16)] [] ?_
  cases h
  exact pwp_ret rz
  replace h := bF hc25 h
  rw [hc25]
  refine v 8 71 [(7, I v6), (62, B false), (65, B ((a0 == 4)))] [] ?_
  rcases fk ((a0 == 4)) with hc24 | hc24
  replace h := bT hc24 h
  rw [hc24]
  refine v 4 71 [(69, B ((decide (v6 ≤ 0))))] [] ?_
  obtain ⟨v20, hv21, h⟩ := bindS h
  refine cF 70 (ok_impl_truthIf hv21) ?_
  refine ve 1 71 [(6, I v20)] [] ?_
  cases h
  exact pwp_ret rz
  replace h := bF hc24 h
  rw [hc24]
  refine v 4 71 [(69, B false)] [] ?_
  obtain ⟨v22, hv23, h⟩ := bindS h
  refine cF 70 (ok_impl_truthIf hv23) ?_
  refine ve 1 71 [(6, I v22)] [] ?_
  cases h
  exact pwp_ret rz
  replace h := bF hc41 h
  rw [hc41]
  refine v 8 71 [(0, I a0), (7, I v6), (54, B false), (57, B ((a0 == 3)))] [] ?_
  rcases fk ((a0 == 3)) with hc40 | hc40
  replace h := bT hc40 h
  rw [hc40]
  refine v 5 71 [(0, I a0), (7, I v6), (62, B ((decide (v6 < 0))))] [] ?_
  rcases fk ((decide (v6 < 0))) with hc34 | hc34
  replace h := bT hc34 h
  rw [hc34]
  refine v 7 71 [(69, B true)] [] ?_
  obtain ⟨v27, hv28, h⟩ := bindS h
  refine cF 70 (ok_impl_truthIf hv28) ?_
  refine ve 1 71 [(6, I v27)] [] ?_
  cases h
  exact pwp_ret rz
  replace h := bF hc34 h
  rw [hc34]
  refine v 3 71 [(7, I v6), (62, B false), (65, B ((a0 == 4)))] [] ?_
  rcases fk ((a0 == 4)) with hc33 | hc33
  replace h := bT hc33 h
  rw [hc33]
  refine v 4 71 [(69, B ((decide (v6 ≤ 0))))] [] ?_
  obtain ⟨v29, hv30, h⟩ := bindS h
  refine cF 70 (ok_impl_truthIf hv30) ?_
  refine ve 1 71 [(6, I v29)] [] ?_
  cases h
  exact pwp_ret rz
  replace h := bF hc33 h
  rw [hc33]
  refine v 4 71 [(69, B false)] [] ?_
  obtain ⟨v31, hv32, h⟩ := bindS h
  refine cF 70 (ok_impl_truthIf hv32) ?_
  refine ve 1 71 [(6, I v31)] [] ?_
  cases h
  exact pwp_ret rz
  replace h := bF hc40 h
  rw [hc40]
  refine v 8 71 [(7, I v6), (62, B false), (65, B ((a0 == 4)))] [] ?_
  rcases fk ((a0 == 4)) with hc39 | hc39
  replace h := bT hc39 h
  rw [hc39]
  refine v 4 71 [(69, B ((decide (v6 ≤ 0))))] [] ?_
  obtain ⟨v35, hv36, h⟩ := bindS h
  refine cF 70 (ok_impl_truthIf hv36) ?_
  refine ve 1 71 [(6, I v35)] [] ?_
  cases h
  exact pwp_ret rz
  replace h := bF hc39 h
  rw [hc39]
  refine v 4 71 [(69, B false)] [] ?_
  obtain ⟨v37, hv38, h⟩ := bindS h
  refine cF 70 (ok_impl_truthIf hv38) ?_
  refine ve 1 71 [(6, I v37)] [] ?_
  cases h
  exact pwp_ret rz
  replace h := bF hc75 h
  rw [hc75]
  refine v 7 71 [(0, I a0), (7, I v6), (46, B false), (49, B ((a0 == 2)))] [] ?_
  rcases fk ((a0 == 2)) with hc74 | hc74
  replace h := bT hc74 h
  rw [hc74]
  refine v 5 71 [(0, I a0), (7, I v6), (54, B ((!(v6 == 0))))] [] ?_
  rcases fk ((!(v6 == 0))) with hc59 | hc59
  replace h := bT hc59 h
  rw [hc59]
  refine v 15 71 [(69, B true)] [] ?_
  obtain ⟨v43, hv44, h⟩ := bindS h
  refine cF 70 (ok_impl_truthIf hv44) ?_
  refine ve 1 71 [(6, I v43)] [] ?_
  cases h
  exact pwp_ret rz
  replace h := bF hc59 h
  rw [hc59]
  refine v 3 71 [(0, I a0), (7, I v6), (54, B false), (57, B ((a0 == 3)))] [] ?_
  rcases fk ((a0 == 3)) with hc58 | hc58
  replace h := bT hc58 h
  rw [hc58]
  refine v 5 71 [(0, I a0), (7, I v6), (62, B ((decide (v6 < 0))))] [] ?_
  rcases fk ((decide (v6 < 0))) with hc52 | hc52
  replace h := bT hc52 h
  rw [hc52]
  refine v 7 71 [(69, B true)] [] ?_
  obtain ⟨v45, hv46, h⟩ := bindS h
  refine cF 70 (ok_impl_truthIf hv46) ?_
  refine ve 1 71 [(6, I v45)] [] ?_
  cases h
  exact pwp_ret rz
  replace h := bF hc52 h
  rw [hc52]
  refine v 3 71 [(7, I v6), (62, B false), (65, B ((a0 == 4)))] [] ?_
  rcases fk ((a0 == 4)) with hc51 | hc51
  replace h := bT hc51 h
  rw [hc51]
  refine v 4 71 [(69, B ((decide (v6 ≤ 0))))] [] ?_
  obtain ⟨v47, hv48, h⟩ := bindS h
  refine cF 70 (ok_impl_truthIf hv48) ?_
  refine ve 1 71 [(6, I v47)] [] ?_
  cases h
  exact pwp_ret rz
  replace h := bF hc51 h
  rw [hc51]
  refine v 4 71 [(69, B false)] [] ?_
  obtain ⟨v49, hv50, h⟩ := bindS h
  refine cF 70 (ok_impl_truthIf hv50) ?_
  refine ve 1 71 [(6, I v49)] [] ?_
  cases h
  exact pwp_ret rz
  replace h := bF hc58 h
  rw [hc58]
  refine v 8 71 [(7, I v6), (62, B false), (65, B ((a0 == 4)))] [] ?_
  rcases fk ((a0 == 4)) with hc57 | hc57
  replace h := bT hc57 h
  rw [hc57]
  refine v 4 71 [(69, B ((decide (v6 ≤ 0))))] [] ?_
  obtain ⟨v53, hv54, h⟩ := bindS h
  refine cF 70 (ok_impl_truthIf hv54) ?_
  refine ve 1 71 [(6, I v53)] [] ?_
  cases h
  exact pwp_ret rz
  replace h := bF hc57 h
  rw [hc57]
  refine v 4 71 [(69, B false)] [] ?_
  obtain ⟨v55, hv56, h⟩ := bindS h
  refine cF 70 (ok_impl_truthIf hv56) ?_
  refine ve 1 71 [(6, I v55)] [] ?_
  cases h
  exact pwp_ret rz
  replace h := bF hc74 h
  rw [hc74]
  refine v 8 71 [(0, I a0), (7, I v6), (54, B false), (57, B ((a0 == 3)))] [] ?_
  rcases fk ((a0 == 3)) with hc73 | hc73
  replace h := bT hc73 h
  rw [hc73]
  refine v 5 71 [(0, I a0), (7, I v6), (62, B ((decide (v6 < 0))))] [] ?_
  rcases fk ((decide (v6 < 0))) with hc67 | hc67
  replace h := bT hc67 h
  rw [hc67]
  refine v 7 71 [(69, B true)] [] ?_
  obtain ⟨v60, hv61, h⟩ := bindS h
  refine cF 70 (ok_impl_truthIf hv61) ?_
  refine ve 1 71 [(6, I v60)] [] ?_
  cases h
  exact pwp_ret rz
  replace h := bF hc67 h
  rw [hc67]
  refine v 3 71 [(7, I v6), (62, B false), (65, B ((a0 == 4)))] [] ?_
  rcases fk ((a0 == 4)) with hc66 | hc66
  replace h := bT hc66 h
  rw [hc66]
  refine v 4 71 [(69, B ((decide (v6 ≤ 0))))] [] ?_
  obtain ⟨v62, hv63, h⟩ := bindS h
  refine cF 70 (ok_impl_truthIf hv63) ?_
  refine ve 1 71 [(6, I v62)] [] ?_
  cases h
  exact pwp_ret rz
  replace h := bF hc66 h
  rw [hc66]
  refine v 4 71 [(69, B false)] [] ?_
  obtain ⟨v64, hv65, h⟩ := bindS h
  refine cF 70 (ok_impl_truthIf hv65) ?_
  refine ve 1 71 [(6, I v64)] [] ?_
  cases h
  exact pwp_ret rz
  replace h := bF hc73 h
  rw [hc73]
  refine v 8 71 [(7, I v6), (62, B false), (65, B ((a0 == 4)))] [] ?_
  rcases fk ((a0 == 4)) with hc72 | hc72
  replace h := bT hc72 h
  rw [hc72]
  refine v 4 71 [(69, B ((decide (v6 ≤ 0))))] [] ?_
  obtain ⟨v68, hv69, h⟩ := bindS h
  refine cF 70 (ok_impl_truthIf hv69) ?_
  refine ve 1 71 [(6, I v68)] [] ?_
  cases h
  exact pwp_ret rz
  replace h := bF hc72 h
  rw [hc72]
  refine v 4 71 [(69, B false)] [] ?_
  obtain ⟨v70, hv71, h⟩ := bindS h
  refine cF 70 (ok_impl_truthIf hv71) ?_
  refine ve 1 71 [(6, I v70)] [] ?_
  cases h
  exact pwp_ret rz
def spec_DrawLoopJoin (a0 : List UInt8) : Option ((List T_impl_Column) × (List T_impl_Column) × (List (List T_impl_Value)) × (List (List T_impl_Value)) × Int × Int) := (spec_l20Open a0).bind fun v1 => (spec_l20Pair v1 9).bind fun v3 => some (v3.1.1, v3.1.2.1, v3.1.2.2.1, v3.1.2.2.2.1, v3.1.2.2.2.2.1, v3.1.2.2.2.2.2)
theorem ok_spec_DrawLoopJoin {a0 : List UInt8} {y : (List T_impl_Column) × (List T_impl_Column) × (List (List T_impl_Value)) × (List (List T_impl_Value)) × Int × Int} (h : spec_DrawLoopJoin a0 = some y) : OK Tryz.prog 12 [A a0] (.tup [A y.1, A y.2.1, A y.2.2.1, A y.2.2.2.1, I y.2.2.2.2.1, I y.2.2.2.2.2]) := by
  refine ow Tryz.func12 fun Γ hX => ?_
  unfold spec_DrawLoopJoin at h
  refine srve 17 [(0, A a0)] [] ?_
  refine srv 1 17 [(8, A a0)] [] ?_
  obtain ⟨v1, hv2, h⟩ := bindS h
  refine opsP_callO τ 9 (ok_spec_l20Open hv2) rfl (by kernel_rfl) ?_
  obtain ⟨v3, hv4, h⟩ := bindS h
  refine opsP_callB τ 10 0 0 (ok_spec_l20Pair hv4) (FzTo.tup (FzToL.cons (FzTo.frz rfl) (FzToL.cons (FzTo.frz rfl) (FzToL.cons (FzTo.O _) (FzToL.cons (FzTo.O _) (FzToL.cons (FzTo.frz rfl) (FzToL.cons (FzTo.frz rfl) FzToL.nil))))))) rfl (by kernel_rfl) ?_
  refine ve 12 17 [(2, A v3.1.1), (3, A v3.1.2.1), (4, A v3.1.2.2.1), (5, A v3.1.2.2.2.1), (6, I v3.1.2.2.2.2.1), (7, I v3.1.2.2.2.2.2)] [sc 0 v3.2] ?_
  have h := si h
  subst h
  exact pwp_ret (rt (.tup [A v3.1.1, A v3.1.2.1, A v3.1.2.2.1, A v3.1.2.2.2.1, I v3.1.2.2.2.2.1, I v3.1.2.2.2.2.2]) (OutP.tup (OutL.cons (OutP.frz (by kernel_rfl)) (OutL.cons (OutP.frz (by kernel_rfl)) (OutL.cons (OutP.frz (by kernel_rfl)) (OutL.cons (OutP.frz (by kernel_rfl)) (OutL.cons (OutP.frz (by kernel_rfl)) (OutL.cons (OutP.frz (by kernel_rfl)) (OutL.nil _)))))))))
def impl_ExprKind_j2 (a0 : List T_impl_Column) (x4 : Int) (x5 : List Int) (K7 : Int → (List Int) → Option Int) (v9 : T_impl_Part) (v11 : Int) (x13 : Bool) : Option Int := bif x13 then some (-1) else (slI x5 (some ((w64 (((x5.length : Int)) - v11)))) none none).bind fun v15 => (impl_Part_kind v9 a0 v15).bind fun v17 => bif (!v17.2) then some (-1) else (slI x5 none (some ((w64 (((x5.length : Int)) - v11)))) none).bind fun v20 => (appT x5 (([v17.1] : List Int)) v20.length).bind fun v22 => K7 ((w64 (x4 + 1))) v22
def impl_ExprKind_l1 (a0 : List T_impl_Column) (a1 : List T_impl_Part) : Nat → Int → (List Int) → Option Int
  | 0, _, _ => none
  | f6 + 1, x4, x5 => bif (decide (x4 < ((a1.length : Int)))) then (getI a1 x4).bind fun v9 => (impl_Part_takes v9).bind fun v11 => (impl_Part_tells v9 a0).bind fun v24 => bif (!v24) then impl_ExprKind_j2 a0 x4 x5 (impl_ExprKind_l1 a0 a1 f6) v9 v11 true else impl_ExprKind_j2 a0 x4 x5 (impl_ExprKind_l1 a0 a1 f6) v9 v11 ((decide (((x5.length : Int)) < v11))) else bif (!(((x5.length : Int)) == 1)) then some (-1) else (getI x5 ((0 : Int))).bind fun v28 => some v28
def impl_ExprKind_j0 (a0 : List T_impl_Column) (a1 : List T_impl_Part) (x1 : Bool) : Option Int := bif x1 then some (-1) else impl_ExprKind_l1 a0 a1 FUEL 0 (([] : List Int))
def impl_ExprKind (a0 : List T_impl_Column) (a1 : List T_impl_Part) : Option Int := (impl_ColumnsOk a0).bind fun v30 => bif (!v30) then impl_ExprKind_j0 a0 a1 true else impl_ExprKind_j0 a0 a1 ((decide (((a1.length : Int)) > 12)))
theorem ok_impl_ExprKind {a0 : List T_impl_Column} {a1 : List T_impl_Part} {y : Int} (h : impl_ExprKind a0 a1 = some y) : OK Tryz.prog 22 [A a0, A a1] (I y) := by
  refine ow Tryz.func22 fun Γ hX => ?_
  unfold impl_ExprKind at h
  refine srveM [7] 67 [(0, A a0), (1, A a1)] [] ?_
  refine pwp_seq ?_
  refine pwp_seq ?_
  refine pwp_join (σ := Bool) (fun x1 => (⟨67, [(0, A a0), (1, A a1), (18, B x1)], []⟩ : St)) (fun x1 => impl_ExprKind_j0 a0 a1 x1 = some y) ?_ ?_
  refine rvM [7] 1 67 [(0, A a0), (1, A a1), (11, A a0)] [] ?_
  obtain ⟨v30, hv31, h⟩ := bindS h
  refine cF 12 (ok_impl_ColumnsOk hv31) ?_
  refine vM [7] 2 67 [(0, A a0), (1, A a1), (14, B ((!v30)))] [] ?_
  rcases fk ((!v30)) with hc32 | hc32
  replace h := bT hc32 h
  rw [hc32]
  refine veM [7] 4 67 [(0, A a0), (1, A a1), (18, B true)] [] ?_
  exact ⟨true, h, it [0, 1, 18]⟩
  replace h := bF hc32 h
  rw [hc32]
  refine veM [7] 4 67 [(0, A a0), (1, A a1), (18, B ((decide (((a1.length : Int)) > 12))))] [] ?_
  exact ⟨(decide (((a1.length : Int)) > 12)), h, it [0, 1, 18]⟩
  rintro x1 h
  unfold impl_ExprKind_j0 at h
  refine pc h (fun h => ?_) (fun h => ?_)
  refine srveM [7] 67 [(4, I (-1))] [] ?_
  cases h
  exact pwp_ret rz
  refine pwp_skip ?_
  refine srveM [7] 67 [(0, A a0), (1, A a1), (5, .arr 1 0 (eL ([] : List Int)) true)] [] ?_
  refine pwp_seq ?_
  refine srveM [7] 67 [(0, A a0), (5, .arr 1 0 (eL ([] : List Int)) true), (19, A a1), (20, I ((a1.length : Int))), (21, I 0)] [] ?_
  refine pwp_block ?_
  refine pwp_loop (ι := Nat × Int × (List Int)) (fun (f6, x4, x5) => (⟨67, [(0, A a0), (5, rf 0 0 1 x5), (19, A a1), (20, I ((a1.length : Int))), (21, I x4)], [sl 0 x5]⟩ : St)) (fun (f6, x4, x5) => impl_ExprKind_l1 a0 a1 f6 x4 x5 = some y) Prod.fst (FUEL, 0, ([] : List Int)) h (Imp.thawS 5 [0, 5, 19, 20, 21] (by kernel_rfl)) ?_
  rintro ⟨f6, x4, x5⟩ h
  dsimp only at h ⊢
  rcases f6 with _ | f6
  cases h
  rw [impl_ExprKind_l1] at h
  refine srveM [7] 67 [(0, A a0), (5, rf 0 0 1 x5), (19, A a1), (20, I ((a1.length : Int))), (21, I x4), (22, B ((decide (x4 < ((a1.length : Int))))))] [sl 0 x5] ?_
  refine pwp_seq ?_
  refine pc h (fun h => ?_) (fun h => ?_)
  refine pwp_skip ?_
  refine pwp_seq ?_
  refine pwp_block ?_
  refine pwp_seq ?_
  refine pwp_region ?_
  obtain ⟨v9, hv10, h⟩ := bindS h
  refine opsP_idx τ_ok 23 hv10 (by kernel_rfl) ?_
  refine veM [7] 3 67 [(0, A a0), (5, rf 0 0 1 x5), (7, .ptr 1 0 0), (19, A a1), (20, I ((a1.length : Int))), (21, I x4)] [sl 0 x5, sc 0 v9] ?_
  refine srvM [7] 1 67 [(0, A a0), (5, rf 0 0 1 x5), (7, .ptr 1 0 0), (19, A a1), (20, I ((a1.length : Int))), (21, I x4), (25, E v9)] [sl 0 x5, sc 0 v9] ?_
  obtain ⟨v11, hv12, h⟩ := bindS h
  refine cF 26 (ok_impl_Part_takes hv12) ?_
  refine veM [7] 1 67 [(0, A a0), (5, rf 0 0 1 x5), (7, .ptr 1 0 0), (8, I v11), (19, A a1), (20, I ((a1.length : Int))), (21, I x4)] [sl 0 x5, sc 0 v9] ?_
  refine pwp_seq ?_
  refine pwp_seq ?_
  refine pwp_join (σ := Bool) (fun x13 => (⟨67, [(0, A a0), (5, rf 0 0 1 x5), (7, .ptr 1 0 0), (8, I v11), (19, A a1), (20, I ((a1.length : Int))), (21, I x4), (36, B x13)], [sl 0 x5, sc 0 v9]⟩ : St)) (fun x13 => impl_ExprKind_j2 a0 x4 x5 (impl_ExprKind_l1 a0 a1 f6) v9 v11 x13 = some y) ?_ ?_
  refine rvM [7] 2 67 [(0, A a0), (5, rf 0 0 1 x5), (7, .ptr 1 0 0), (8, I v11), (19, A a1), (20, I ((a1.length : Int))), (21, I x4), (27, E v9), (28, A a0)] [sl 0 x5, sc 0 v9] ?_
  obtain ⟨v24, hv25, h⟩ := bindS h
  refine cF 29 (ok_impl_Part_tells hv25) ?_
  refine vM [7] 2 67 [(0, A a0), (5, rf 0 0 1 x5), (7, .ptr 1 0 0), (8, I v11), (19, A a1), (20, I ((a1.length : Int))), (21, I x4), (31, B ((!v24)))] [sl 0 x5, sc 0 v9] ?_
  rcases fk ((!v24)) with hc26 | hc26
  replace h := bT hc26 h
  rw [hc26]
  refine veM [7] 5 67 [(0, A a0), (5, rf 0 0 1 x5), (7, .ptr 1 0 0), (8, I v11), (19, A a1), (20, I ((a1.length : Int))), (21, I x4), (32, .lit undef), (33, .lit undef), (34, .lit undef), (35, .lit undef), (36, B true)] [sl 0 x5, sc 0 v9] ?_
  exact ⟨true, h, it [0, 5, 7, 8, 19, 20, 21, 36]⟩
  replace h := bF hc26 h
  rw [hc26]
  refine veM [7] 5 67 [(0, A a0), (5, rf 0 0 1 x5), (7, .ptr 1 0 0), (8, I v11), (19, A a1), (20, I ((a1.length : Int))), (21, I x4), (32, rf 0 0 1 x5), (33, I ((x5.length : Int))), (34, I v11), (35, B ((decide (((x5.length : Int)) < v11)))), (36, B ((decide (((x5.length : Int)) < v11))))] [sl 0 x5, sc 0 v9] ?_
  exact ⟨(decide (((x5.length : Int)) < v11)), h, it [0, 5, 7, 8, 19, 20, 21, 36]⟩
  rintro x13 h
  unfold impl_ExprKind_j2 at h
  refine pc h (fun h => ?_) (fun h => ?_)
  refine srveM [7] 67 [(4, I (-1))] [sl 0 x5, sc 0 v9] ?_
  cases h
  exact pwp_ret rz
  refine pwp_skip ?_
  refine pwp_seq ?_
  refine ip 67 [(0, A a0), (5, rf 0 0 1 x5), (7, .ptr 1 0 0), (8, I v11), (19, A a1), (20, I ((a1.length : Int))), (21, I x4)] [sl 0 x5, sc 0 v9] ?_
  refine pwp_any ([[1], [], [0], [0], [0], [], [], [0], [0], [], [], [], [], []]) ([[], [], [], [], [], [], [], [], [], [], [], [], [], []]) rfl (by kernel_rfl) ?_
  refine qvM [7] [1] (hB trivial) 1 67 [(38, E v9), (0, A a0), (5, rf 0 0 1 x5), (8, I v11), (19, A a1), (20, I ((a1.length : Int))), (21, I x4)] [sl 0 x5, sc 0 v9] ?_
  refine qvM [7] [] trivial 1 67 [(39, A a0), (38, E v9), (0, A a0), (5, rf 0 0 1 x5), (8, I v11), (19, A a1), (20, I ((a1.length : Int))), (21, I x4)] [sl 0 x5, sc 0 v9] ?_
  refine qvM [7] [0] (hL trivial) 3 67 [(42, I ((x5.length : Int))), (40, rf 0 0 1 x5), (39, A a0), (38, E v9), (0, A a0), (5, rf 0 0 1 x5), (8, I v11), (19, A a1), (20, I ((a1.length : Int))), (21, I x4)] [sl 0 x5, sc 0 v9] ?_
  refine qvM [7] [] trivial 2 67 [(44, I ((w64 (((x5.length : Int)) - v11)))), (40, rf 0 0 1 x5), (39, A a0), (38, E v9), (0, A a0), (5, rf 0 0 1 x5), (8, I v11), (19, A a1), (20, I ((a1.length : Int))), (21, I x4)] [sl 0 x5, sc 0 v9] ?_
  obtain ⟨v15, hv16, h⟩ := bindS h
  refine qX (some 45) (.ref 0 0 ((w64 (((x5.length : Int)) - v11)).toNat * 1) 1 v15.length false) 67 [(45, .ref 0 0 ((w64 (((x5.length : Int)) - v11)).toNat * 1) 1 v15.length false), (39, A a0), (38, E v9), (0, A a0), (5, rf 0 0 1 x5), (8, I v11), (19, A a1), (20, I ((a1.length : Int))), (21, I x4)] [sl 0 x5, sc 0 v9] (fun Γ' hΓ => CoreE.of_y (slrV_sound (n := x5.length) τ_ok (by kernel_rfl) rfl hv16)) (hL trivial) ?_
  obtain ⟨v17, hv18, h⟩ := bindS h
  refine qX (some 46) (.tup [I v17.1, B v17.2]) 67 [(46, .tup [I v17.1, B v17.2]), (0, A a0), (5, rf 0 0 1 x5), (8, I v11), (19, A a1), (20, I ((a1.length : Int))), (21, I x4)] [sl 0 x5, sc 0 v9] (fun Γ' hΓ => CoreE.of_g (callVV_sound (xs := [E v9, A a0, .ref 0 0 ((w64 (((x5.length : Int)) - v11)).toNat * 1) 1 v15.length false]) (τ := τ) (by kernel_rfl) (ViewL.cons (View.frz rfl) (ViewL.cons (View.frz rfl) (ViewL.cons (View.ref (v := 0) (lo := (w64 (((x5.length : Int)) - v11)).toNat) x5 v15 (by kernel_rfl) (slI_view hv16) rfl) (ViewL.nil _)))) (ok_impl_Part_kind hv18) (Blind.tup (BlindL.cons (Blind.lit _) (BlindL.cons (Blind.lit _) BlindL.nil))) (FzTo.tup (FzToL.cons (FzTo.frz rfl) (FzToL.cons (FzTo.frz rfl) FzToL.nil))))) (hL trivial) ?_
  refine qvnM [7] [] trivial 5 67 [(0, A a0), (5, rf 0 0 1 x5), (8, I v11), (9, I v17.1), (10, B v17.2), (19, A a1), (20, I ((a1.length : Int))), (21, I x4)] [sl 0 x5, sc 0 v9] ?_
  refine pwp_seq ?_
  refine srveM [7] 67 [(0, A a0), (5, rf 0 0 1 x5), (8, I v11), (9, I v17.1), (19, A a1), (20, I ((a1.length : Int))), (21, I x4), (50, B ((!v17.2)))] [sl 0 x5, sc 0 v9] ?_
  refine pc h (fun h => ?_) (fun h => ?_)
  refine srveM [7] 67 [(4, I (-1))] [sl 0 x5, sc 0 v9] ?_
  cases h
  exact pwp_ret rz
  refine pwp_skip ?_
  refine rvM [7] 5 67 [(0, A a0), (9, I v17.1), (19, A a1), (20, I ((a1.length : Int))), (21, I x4), (51, rf 0 0 1 x5), (55, I ((w64 (((x5.length : Int)) - v11))))] [sl 0 x5, sc 0 v9] ?_
  obtain ⟨v20, hv21, h⟩ := bindS h
  refine opsP_slr τ_ok 56 0 0 x5.length hv21 rfl (by kernel_rfl) ?_
  refine vM [7] 2 67 [(0, A a0), (19, A a1), (20, I ((a1.length : Int))), (21, I x4), (56, rf 0 0 1 v20), (58, .arr 1 (([v17.1] : List Int)).length (eL ([v17.1] : List Int)) true)] [sl 0 x5, sc 0 v9] ?_
  obtain ⟨v22, hv23, h⟩ := bindS h
  refine opsP_apt τ_ok 59 0 0 v20.length (nx hX) hv23 (slI_le hv21) (by kernel_rfl) ?_
  refine veM [7] 1 67 [(0, A a0), (5, rf 0 1 1 v22), (19, A a1), (20, I ((a1.length : Int))), (21, I x4)] [sl 1 v22, sc 0 v9] ?_
  refine rveM [7] 67 [(0, A a0), (5, rf 0 1 1 v22), (19, A a1), (20, I ((a1.length : Int))), (21, I ((w64 (x4 + 1))))] [sl 1 v22, sc 0 v9] ?_
  exact ⟨(f6, (w64 (x4 + 1)), v22), h, Nat.lt_succ_self _, (it (st' := ⟨67, [(0, A a0), (5, rf 0 1 1 v22), (19, A a1), (20, I ((a1.length : Int))), (21, I ((w64 (x4 + 1))))], [sl 1 v22, sc 0 v9]⟩) [0, 5, 19, 20, 21]).trans ((Imp.truncS (st' := ⟨67, [(0, A a0), (5, rf 0 1 1 v22), (19, A a1), (20, I ((a1.length : Int))), (21, I ((w64 (x4 + 1))))], [sl 1 v22]⟩) 1 (nx hX) (by kernel_rfl) (allBelow_mem (by exact (And.intro rfl (And.intro rfl (And.intro rfl (And.intro rfl (And.intro rfl trivial))))))) (by exact (And.intro (frz_below (eL_frz _)) trivial)) (by kernel_rfl)).trans (Imp.reverS 0 1 (eL v22) [0, 5, 19, 20, 21] (by kernel_rfl) (by exact (And.intro (eL_frz _) trivial)) (by kernel_rfl)))⟩
  refine pwp_exit ?_
  refine pwp_seq ?_
  refine srveM [7] 67 [(5, rf 0 0 1 x5), (63, B ((!(((x5.length : Int)) == 1))))] [sl 0 x5] ?_
  refine pc h (fun h => ?_) (fun h => ?_)
  refine srveM [7] 67 [(4, I (-1))] [sl 0 x5] ?_
  cases h
  exact pwp_ret rz
  refine pwp_skip ?_
  refine srvM [7] 1 67 [(64, rf 0 0 1 x5)] [sl 0 x5] ?_
  obtain ⟨v28, hv29, h⟩ := bindS h
  refine opsP_idr τ_ok 65 0 0 x5.length hv29 rfl (by kernel_rfl) ?_
  refine opsP_lde (r := I v28) τ_ok 66 3 0 hv29 (by kernel_rfl) (by kernel_rfl) ?_
  refine veM [7] 1 67 [(4, I v28)] [sl 0 x5] ?_
  cases h
  exact pwp_ret rz
def impl_joins_l1 (a1 : Int) (a3 : Int) (x2 : Int) (K5 : Int → (List (List T_impl_Value)) → Option (List (List T_impl_Value))) (v7 : List T_impl_Value) (v14 : List (List T_impl_Value)) : Nat → Int → (List (List T_impl_Value)) → Option (List (List T_impl_Value))
  | 0, _, _ => none
  | f19 + 1, x17, x18 => bif (decide (x17 < ((v14.length : Int)))) then (getI v14 x17).bind fun v22 => (getI v22 a3).bind fun v24 => (getI v7 a1).bind fun v26 => bif (eq_T_impl_Value v24 v26) then (impl_beside v7 v22).bind fun v29 => (app x18 (([v29] : List (List T_impl_Value)))).bind fun v31 => (impl_joins_l1 a1 a3 x2 K5 v7 v14 f19) ((w64 (x17 + 1))) v31 else (impl_joins_l1 a1 a3 x2 K5 v7 v14 f19) ((w64 (x17 + 1))) x18 else K5 ((w64 (x2 + 1))) x18
def impl_joins_l0 (a0 : List (List T_impl_Value)) (a1 : Int) (a2 : T_impl_Value → Option (List (List T_impl_Value))) (a3 : Int) : Nat → Int → (List (List T_impl_Value)) → Option (List (List T_impl_Value))
  | 0, _, _ => none
  | f4 + 1, x2, x3 => bif (decide (x2 < ((a0.length : Int)))) then (getI a0 x2).bind fun v7 => (getI v7 a1).bind fun v9 => bif (v9.fKind == 0) then (impl_joins_l0 a0 a1 a2 a3 f4) ((w64 (x2 + 1))) x3 else (getI v7 a1).bind fun v12 => (a2 v12).bind fun v14 => impl_joins_l1 a1 a3 x2 (impl_joins_l0 a0 a1 a2 a3 f4) v7 v14 FUEL 0 x3 else (slices_Clip_impl_Value_impl_Value_s3 x3).bind fun v33 => some v33
def impl_joins (a0 : List (List T_impl_Value)) (a1 : Int) (a2 : T_impl_Value → Option (List (List T_impl_Value))) (a3 : Int) : Option (List (List T_impl_Value)) := impl_joins_l0 a0 a1 a2 a3 FUEL 0 (([] : List (List T_impl_Value)))
end Go.D
