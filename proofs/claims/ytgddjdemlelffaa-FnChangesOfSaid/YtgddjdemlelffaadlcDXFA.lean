import Derived.Test.YtgddjdemlelffaadlcDPrimD
import Derived.Test.YtgddjdemlelffaadlcDXT
import Derived.KernelRfl
set_option linter.unusedVariables false
set_option linter.unusedSimpArgs false
namespace Go.D
open Go.Proofs
def laws_sameRow_l0 (a0 : List T_impl_Value) (a1 : List T_impl_Value) : Nat → Int → Option Bool
 | 0, _ => none
 | f3 + 1, x2 => bif (decide (x2 < (a0.length : Int))) then (getI a0 x2).bind fun v6 => (getI a1 x2).bind fun v8 => bif (!(eq_T_impl_Value v6 v8)) then some false else (laws_sameRow_l0 a0 a1 f3) (w64 (x2 + 1)) else some true
def laws_sameRow (a0 : List T_impl_Value) (a1 : List T_impl_Value) : Option Bool := bif (!((a0.length : Int) == (a1.length : Int))) then some false else laws_sameRow_l0 a0 a1 FUEL 0
theorem ok_laws_sameRow {a0 : List T_impl_Value} {a1 : List T_impl_Value} {y : Bool} (h : laws_sameRow a0 a1 = some y) : OK Try.prog 13 [A a0, A a1] (B y) := by
 refine ow Try.func13 fun Γ hX => ?_
 unfold laws_sameRow at h
 refine srve 26 [(0, A a0), (1, A a1)] [] ?_
 refine pwp_seq ?_
 refine srve 26 [(0, A a0), (1, A a1), (10, B (!((a0.length : Int) == (a1.length : Int))))] [] ?_
 refine pc h (fun h => ?_) (fun h => ?_)
 refine srve 26 [(4, B false)] [] ?_
 cases h
 exact pwp_ret rz
 refine pwp_skip ?_
 refine pwp_seq ?_
 refine srve 26 [(0, A a0), (1, A a1), (5, I 0)] [] ?_
 refine pwp_block ?_
 refine pwp_loop (ι := Nat × Int) (fun (f3, x2) => (⟨26, [(0, A a0), (1, A a1), (5, I x2)], []⟩ : St)) (fun (f3, x2) => laws_sameRow_l0 a0 a1 f3 x2 = some y) Prod.fst (FUEL, 0) h (it [0, 1, 5]) ?_
 rintro ⟨f3, x2⟩ h
 dsimp only at h ⊢
 rcases f3 with _ | f3
 cases h
 rw [laws_sameRow_l0] at h
 refine pwp_seq ?_
 refine srve 26 [(0, A a0), (1, A a1), (5, I x2), (14, B (decide (x2 < (a0.length : Int))))] [] ?_
 refine pc h (fun h => ?_) (fun h => ?_)
 refine pwp_skip ?_
 refine pwp_seq ?_
 refine pwp_block ?_
 refine pwp_seq ?_
 refine ip 26 [(0, A a0), (1, A a1), (5, I x2)] [] ?_
 refine pN 9 ?_
 refine qv [] trivial 2 26 [(18, I x2), (17, A a0), (0, A a0), (1, A a1), (5, I x2)] [] ?_
 obtain ⟨v6, hv7, h⟩ := bindS h
 refine qX (some 19) (pf v6 0) 26 [(19, pf v6 0), (0, A a0), (1, A a1), (5, I x2)] [] (fun Γ' hΓ => CoreE.of_y (idxV_sound τ_ok (by kernel_rfl) hv7)) trivial ?_
 refine qv [] trivial 3 26 [(22, I x2), (21, A a1), (20, E v6), (0, A a0), (1, A a1), (5, I x2)] [] ?_
 obtain ⟨v8, hv9, h⟩ := bindS h
 refine qX (some 23) (pf v8 0) 26 [(23, pf v8 0), (20, E v6), (0, A a0), (1, A a1), (5, I x2)] [] (fun Γ' hΓ => CoreE.of_y (idxV_sound τ_ok (by kernel_rfl) hv9)) trivial ?_
 refine qvn [] trivial 2 26 [(0, A a0), (1, A a1), (5, I x2), (25, B (!(eq_T_impl_Value v6 v8)))] [] ?_
 refine pc h (fun h => ?_) (fun h => ?_)
 refine srve 26 [(4, B false)] [] ?_
 cases h
 exact pwp_ret rz
 refine pwp_skip ?_
 refine rve 26 [(0, A a0), (1, A a1), (5, I (w64 (x2 + 1)))] [] ?_
 exact ⟨(f3, (w64 (x2 + 1))), h, Nat.lt_succ_self _, it [0, 1, 5]⟩
 refine pwp_exit ?_
 refine srve 26 [(4, B true)] [] ?_
 cases h
 exact pwp_ret rz
def laws_sameRows_l0 (a0 : List (List T_impl_Value)) (a1 : List (List T_impl_Value)) : Nat → Int → Option Bool
 | 0, _ => none
 | f3 + 1, x2 => bif (decide (x2 < (a0.length : Int))) then (getI a0 x2).bind fun v6 => (getI a1 x2).bind fun v8 => (laws_sameRow v6 v8).bind fun v10 => bif (!v10) then some false else (laws_sameRows_l0 a0 a1 f3) (w64 (x2 + 1)) else some true
def laws_sameRows (a0 : List (List T_impl_Value)) (a1 : List (List T_impl_Value)) : Option Bool := bif (!((a0.length : Int) == (a1.length : Int))) then some false else laws_sameRows_l0 a0 a1 FUEL 0
theorem ok_laws_sameRows {a0 : List (List T_impl_Value)} {a1 : List (List T_impl_Value)} {y : Bool} (h : laws_sameRows a0 a1 = some y) : OK Try.prog 16 [A a0, A a1] (B y) := by
 refine ow Try.func16 fun Γ hX => ?_
 unfold laws_sameRows at h
 refine srve 27 [(0, A a0), (1, A a1)] [] ?_
 refine pwp_seq ?_
 refine srve 27 [(0, A a0), (1, A a1), (10, B (!((a0.length : Int) == (a1.length : Int))))] [] ?_
 refine pc h (fun h => ?_) (fun h => ?_)
 refine srve 27 [(4, B false)] [] ?_
 cases h
 exact pwp_ret rz
 refine pwp_skip ?_
 refine pwp_seq ?_
 refine srve 27 [(0, A a0), (1, A a1), (5, I 0)] [] ?_
 refine pwp_block ?_
 refine pwp_loop (ι := Nat × Int) (fun (f3, x2) => (⟨27, [(0, A a0), (1, A a1), (5, I x2)], []⟩ : St)) (fun (f3, x2) => laws_sameRows_l0 a0 a1 f3 x2 = some y) Prod.fst (FUEL, 0) h (it [0, 1, 5]) ?_
 rintro ⟨f3, x2⟩ h
 dsimp only at h ⊢
 rcases f3 with _ | f3
 cases h
 rw [laws_sameRows_l0] at h
 refine pwp_seq ?_
 refine srve 27 [(0, A a0), (1, A a1), (5, I x2), (14, B (decide (x2 < (a0.length : Int))))] [] ?_
 refine pc h (fun h => ?_) (fun h => ?_)
 refine pwp_skip ?_
 refine pwp_seq ?_
 refine pwp_block ?_
 refine pwp_seq ?_
 refine ip 27 [(0, A a0), (1, A a1), (5, I x2)] [] ?_
 refine pN 10 ?_
 refine qv [] trivial 2 27 [(18, I x2), (17, A a0), (0, A a0), (1, A a1), (5, I x2)] [] ?_
 obtain ⟨v6, hv7, h⟩ := bindS h
 refine qX (some 19) (pf v6 0) 27 [(19, pf v6 0), (0, A a0), (1, A a1), (5, I x2)] [] (fun Γ' hΓ => CoreE.of_y (idxV_sound τ_ok (by kernel_rfl) hv7)) trivial ?_
 refine qv [] trivial 3 27 [(22, I x2), (21, A a1), (20, A v6), (0, A a0), (1, A a1), (5, I x2)] [] ?_
 obtain ⟨v8, hv9, h⟩ := bindS h
 refine qX (some 23) (pf v8 0) 27 [(23, pf v8 0), (20, A v6), (0, A a0), (1, A a1), (5, I x2)] [] (fun Γ' hΓ => CoreE.of_y (idxV_sound τ_ok (by kernel_rfl) hv9)) trivial ?_
 refine qv [] trivial 1 27 [(24, A v8), (20, A v6), (0, A a0), (1, A a1), (5, I x2)] [] ?_
 obtain ⟨v10, hv11, h⟩ := bindS h
 refine qX (some 25) (B v10) 27 [(25, B v10), (0, A a0), (1, A a1), (5, I x2)] [] (fun Γ' hΓ => CoreE.of_g (callV_sound (τ := τ) (by kernel_rfl) rfl (ok_laws_sameRow hv11) (FzTo.frz rfl))) trivial ?_
 refine qvn [] trivial 1 27 [(0, A a0), (1, A a1), (5, I x2), (26, B (!v10))] [] ?_
 refine pc h (fun h => ?_) (fun h => ?_)
 refine srve 27 [(4, B false)] [] ?_
 cases h
 exact pwp_ret rz
 refine pwp_skip ?_
 refine rve 27 [(0, A a0), (1, A a1), (5, I (w64 (x2 + 1)))] [] ?_
 exact ⟨(f3, (w64 (x2 + 1))), h, Nat.lt_succ_self _, it [0, 1, 5]⟩
 refine pwp_exit ?_
 refine srve 27 [(4, B true)] [] ?_
 cases h
 exact pwp_ret rz
def spec_l20Open_j0 (x1 : List UInt8) : Option T_spec_l20Rd := some (T_spec_l20Rd.mk x1 0)
def spec_l20Open (a0 : List UInt8) : Option T_spec_l20Rd := bif (decide ((a0.length : Int) > 2000)) then (slI a0 none (some 2000) none).bind fun v3 => spec_l20Open_j0 v3 else spec_l20Open_j0 a0
theorem ok_spec_l20Open {a0 : List UInt8} {y : T_spec_l20Rd} (h : spec_l20Open a0 = some y) : OK Try.prog 46 [A a0] (.obox (Enc.cells y) 0) := by
 refine ow Try.func46 fun Γ hX => ?_
 unfold spec_l20Open at h
 refine srveM [10] 11 [(0, A a0)] [] ?_
 refine pwp_seq ?_
 refine pwp_join (σ := (List UInt8)) (fun x1 => (⟨11, [(0, A x1)], []⟩ : St)) (fun x1 => spec_l20Open_j0 x1 = some y) ?_ ?_
 refine srveM [10] 11 [(0, A a0), (5, B (decide ((a0.length : Int) > 2000)))] [] ?_
 refine pc h (fun h => ?_) (fun h => ?_)
 refine rvM [10] 1 11 [(6, A a0)] [] ?_
 obtain ⟨v3, hv4, h⟩ := bindS h
 refine opsP_slc τ_ok 7 hv4 (by kernel_rfl) ?_
 refine veM [10] 1 11 [(0, A v3)] [] ?_
 exact ⟨v3, h, it [0]⟩
 refine pwp_skip ?_
 exact ⟨a0, h, it [0]⟩
 rintro x1 h
 unfold spec_l20Open_j0 at h
 refine srveM [10] 11 [(2, .ptr 0 0 0)] [some ⟨0, Enc.cells (T_spec_l20Rd.mk x1 0)⟩] ?_
 have h := si h
 subst h
 exact pwp_ret (rt (.ptr 0 0 0) (OutP.box (v := 0) (by kernel_rfl)))
def impl_between (a0 : Int) (a1 : Int) (a2 : Int) : Option Bool := bif (decide (a0 ≥ a1)) then some (decide (a0 ≤ a2)) else some false
theorem ok_impl_between {a0 : Int} {a1 : Int} {a2 : Int} {y : Bool} (h : impl_between a0 a1 a2 = some y) : OK Try.prog 54 [I a0, I a1, I a2] (B y) := by
 refine ow Try.func54 fun Γ hX => ?_
 unfold impl_between at h
 refine srve 15 [(0, I a0), (1, I a1), (2, I a2)] [] ?_
 refine srv 4 15 [(0, I a0), (2, I a2), (10, B (decide (a0 ≥ a1)))] [] ?_
 rcases fk (decide (a0 ≥ a1)) with hc1 | hc1
 replace h := bT hc1 h
 rw [hc1]
 refine ve 5 15 [(6, B (decide (a0 ≤ a2)))] [] ?_
 cases h
 exact pwp_ret rz
 replace h := bF hc1 h
 rw [hc1]
 refine ve 5 15 [(6, B false)] [] ?_
 cases h
 exact pwp_ret rz
def spec_l20Rd_pick_j0 (a0 : T_spec_l20Rd) (a1 : Int) (x1 : Bool) : Option (Int × T_spec_l20Rd) := bif x1 then some (0, { a0 with fP := (w64 (a0.fP + 1)) }) else bif (decide ((w64 ((({ a0 with fP := (w64 (a0.fP + 1)) } : T_spec_l20Rd).fP) - 1)) < ((({ a0 with fP := (w64 (a0.fP + 1)) } : T_spec_l20Rd).fB).length : Int))) then (getI (({ a0 with fP := (w64 (a0.fP + 1)) } : T_spec_l20Rd).fB) (w64 ((({ a0 with fP := (w64 (a0.fP + 1)) } : T_spec_l20Rd).fP) - 1))).bind fun v4 => (remI (w64 (v4.toNat : Int)) a1).bind fun v6 => some (v6, { a0 with fP := (w64 (a0.fP + 1)) }) else (remI (w64 ((({ a0 with fP := (w64 (a0.fP + 1)) } : T_spec_l20Rd).fP) - 1)) ((({ a0 with fP := (w64 (a0.fP + 1)) } : T_spec_l20Rd).fB).length : Int)).bind fun v8 => (getI (({ a0 with fP := (w64 (a0.fP + 1)) } : T_spec_l20Rd).fB) v8).bind fun v10 => (remI (w64 ((w64 ((w64 ((({ a0 with fP := (w64 (a0.fP + 1)) } : T_spec_l20Rd).fP) - 1)) * 7)) + 3)) ((({ a0 with fP := (w64 (a0.fP + 1)) } : T_spec_l20Rd).fB).length : Int)).bind fun v12 => (getI (({ a0 with fP := (w64 (a0.fP + 1)) } : T_spec_l20Rd).fB) v12).bind fun v14 => (quoI (w64 ((({ a0 with fP := (w64 (a0.fP + 1)) } : T_spec_l20Rd).fP) - 1)) ((({ a0 with fP := (w64 (a0.fP + 1)) } : T_spec_l20Rd).fB).length : Int)).bind fun v16 => (remI (w64 ((BitVec.ofInt 64 (w64 ((w64 ((w64 ((w64 ((w64 (v10.toNat : Int)) * 131)) + (w64 ((w64 (v14.toNat : Int)) * 1117)))) + (w64 ((w64 ((({ a0 with fP := (w64 (a0.fP + 1)) } : T_spec_l20Rd).fP) - 1)) * 29)))) + (w64 (v16 * 53)))) ^^^ BitVec.ofInt 64 (w64 ((w64 ((w64 ((w64 ((w64 ((w64 (v10.toNat : Int)) * 131)) + (w64 ((w64 (v14.toNat : Int)) * 1117)))) + (w64 ((w64 ((({ a0 with fP := (w64 (a0.fP + 1)) } : T_spec_l20Rd).fP) - 1)) * 29)))) + (w64 (v16 * 53)))).tdiv 64))).toNat : Int)) a1).bind fun v18 => some (v18, { a0 with fP := (w64 (a0.fP + 1)) })
def spec_l20Rd_pick (a0 : T_spec_l20Rd) (a1 : Int) : Option (Int × T_spec_l20Rd) := bif (decide (a1 < 1)) then spec_l20Rd_pick_j0 a0 a1 true else spec_l20Rd_pick_j0 a0 a1 (((({ a0 with fP := (w64 (a0.fP + 1)) } : T_spec_l20Rd).fB).length : Int) == 0)
theorem ok_spec_l20Rd_pick {a0 : T_spec_l20Rd} {a1 : Int} {y : Int × T_spec_l20Rd} (h : spec_l20Rd_pick a0 a1 = some y) : OKb Try.prog 60 (Enc.cells a0) [I a1] (I y.1) (Enc.cells y.2) := by
 refine OKb_of_pwp τ_ok Try.func60 rfl (by kernel_rfl) rfl (Enc.frz _) (Enc.frz _) fun Γ hQ => ?_
 unfold spec_l20Rd_pick at h
 refine srve 99 [(0, .ptr 0 0 0), (1, I a1)] [sc 0 a0] ?_
 refine srve 99 [(0, .ptr 0 0 0), (1, I a1)] [some ⟨0, Enc.cells ({ a0 with fP := (w64 (a0.fP + 1)) })⟩] ?_
 refine pwp_seq ?_
 refine pwp_seq ?_
 refine pwp_join (σ := Bool) (fun x1 => (⟨99, [(0, .ptr 0 0 0), (1, I a1), (24, B x1)], [some ⟨0, Enc.cells ({ a0 with fP := (w64 (a0.fP + 1)) })⟩]⟩ : St)) (fun x1 => spec_l20Rd_pick_j0 a0 a1 x1 = some y) ?_ ?_
 refine rv 3 99 [(0, .ptr 0 0 0), (1, I a1), (17, B (decide (a1 < 1)))] [some ⟨0, Enc.cells ({ a0 with fP := (w64 (a0.fP + 1)) })⟩] ?_
 rcases fk (decide (a1 < 1)) with hc20 | hc20
 replace h := bT hc20 h
 rw [hc20]
 refine ve 7 99 [(0, .ptr 0 0 0), (1, I a1), (24, B true)] [some ⟨0, Enc.cells ({ a0 with fP := (w64 (a0.fP + 1)) })⟩] ?_
 exact ⟨true, h, it [0, 1, 24]⟩
 replace h := bF hc20 h
 rw [hc20]
 refine ve 7 99 [(0, .ptr 0 0 0), (1, I a1), (24, B (((({ a0 with fP := (w64 (a0.fP + 1)) } : T_spec_l20Rd).fB).length : Int) == 0))] [some ⟨0, Enc.cells ({ a0 with fP := (w64 (a0.fP + 1)) })⟩] ?_
 exact ⟨(((({ a0 with fP := (w64 (a0.fP + 1)) } : T_spec_l20Rd).fB).length : Int) == 0), h, it [0, 1, 24]⟩
 rintro x1 h
 unfold spec_l20Rd_pick_j0 at h
 refine pc h (fun h => ?_) (fun h => ?_)
 refine srve 99 [(4, I 0)] [some ⟨0, Enc.cells ({ a0 with fP := (w64 (a0.fP + 1)) })⟩] ?_
 have h := si h
 subst h
 exact pwp_ret ⟨.inr rfl, I 0, _, 0, by kernel_rfl, (OutP.frz (by kernel_rfl)), by decide, by decide, by kernel_rfl⟩
 refine pwp_skip ?_
 refine srve 99 [(0, .ptr 0 0 0), (1, I a1), (5, I (w64 ((({ a0 with fP := (w64 (a0.fP + 1)) } : T_spec_l20Rd).fP) - 1)))] [some ⟨0, Enc.cells ({ a0 with fP := (w64 (a0.fP + 1)) })⟩] ?_
 refine pwp_seq ?_
 refine srve 99 [(0, .ptr 0 0 0), (1, I a1), (5, I (w64 ((({ a0 with fP := (w64 (a0.fP + 1)) } : T_spec_l20Rd).fP) - 1))), (36, B (decide ((w64 ((({ a0 with fP := (w64 (a0.fP + 1)) } : T_spec_l20Rd).fP) - 1)) < ((({ a0 with fP := (w64 (a0.fP + 1)) } : T_spec_l20Rd).fB).length : Int))))] [some ⟨0, Enc.cells ({ a0 with fP := (w64 (a0.fP + 1)) })⟩] ?_
 refine pc h (fun h => ?_) (fun h => ?_)
 refine srv 5 99 [(1, I a1), (40, A (({ a0 with fP := (w64 (a0.fP + 1)) } : T_spec_l20Rd).fB)), (41, I (w64 ((({ a0 with fP := (w64 (a0.fP + 1)) } : T_spec_l20Rd).fP) - 1)))] [some ⟨0, Enc.cells ({ a0 with fP := (w64 (a0.fP + 1)) })⟩] ?_
 obtain ⟨v4, hv5, h⟩ := bindS h
 refine opsP_idx τ_ok 42 hv5 (by kernel_rfl) ?_
 refine v 3 99 [(44, I (w64 (v4.toNat : Int))), (45, I a1)] [some ⟨0, Enc.cells ({ a0 with fP := (w64 (a0.fP + 1)) })⟩] ?_
 obtain ⟨v6, hv7, h⟩ := bindS h
 refine opsP_div τ_ok (r := true) 46 hv7 (by kernel_rfl) ?_
 refine ve 1 99 [(4, I v6)] [some ⟨0, Enc.cells ({ a0 with fP := (w64 (a0.fP + 1)) })⟩] ?_
 have h := si h
 subst h
 exact pwp_ret ⟨.inr rfl, I v6, _, 0, by kernel_rfl, (OutP.frz (by kernel_rfl)), by decide, by decide, by kernel_rfl⟩
 refine pwp_skip ?_
 refine pwp_seq ?_
 refine ip 99 [(0, .ptr 0 0 0), (1, I a1), (5, I (w64 ((({ a0 with fP := (w64 (a0.fP + 1)) } : T_spec_l20Rd).fP) - 1)))] [some ⟨0, Enc.cells ({ a0 with fP := (w64 (a0.fP + 1)) })⟩] ?_
 refine pwp_any ([[0], [0], [0], [0], [], [0], [0], [0], [0], [], [], [], [], [], [], [0], [0], [0], [0], [], [], [], [0], [0], [0], [0], [], [], [], [], [], [], [], [], [], [], [], [0], [0], [0], [0], [], [], [], [], []]) ([[], [], [], [], [], [], [], [], [], [], [], [], [], [], [], [], [], [], [], [], [], [], [], [], [], [], [], [], [], [], [], [], [], [], [], [], [], [], [], [], [], [], [], [], [], []]) rfl (by kernel_rfl) ?_
 refine qv [0] (hB trivial) 4 99 [(50, A (({ a0 with fP := (w64 (a0.fP + 1)) } : T_spec_l20Rd).fB)), (0, .ptr 0 0 0), (1, I a1), (5, I (w64 ((({ a0 with fP := (w64 (a0.fP + 1)) } : T_spec_l20Rd).fP) - 1)))] [some ⟨0, Enc.cells ({ a0 with fP := (w64 (a0.fP + 1)) })⟩] ?_
 refine qv [] trivial 1 99 [(51, I (w64 ((({ a0 with fP := (w64 (a0.fP + 1)) } : T_spec_l20Rd).fP) - 1))), (50, A (({ a0 with fP := (w64 (a0.fP + 1)) } : T_spec_l20Rd).fB)), (0, .ptr 0 0 0), (1, I a1), (5, I (w64 ((({ a0 with fP := (w64 (a0.fP + 1)) } : T_spec_l20Rd).fP) - 1)))] [some ⟨0, Enc.cells ({ a0 with fP := (w64 (a0.fP + 1)) })⟩] ?_
 refine qv [0] (hB trivial) 4 99 [(55, A (({ a0 with fP := (w64 (a0.fP + 1)) } : T_spec_l20Rd).fB)), (51, I (w64 ((({ a0 with fP := (w64 (a0.fP + 1)) } : T_spec_l20Rd).fP) - 1))), (50, A (({ a0 with fP := (w64 (a0.fP + 1)) } : T_spec_l20Rd).fB)), (0, .ptr 0 0 0), (1, I a1), (5, I (w64 ((({ a0 with fP := (w64 (a0.fP + 1)) } : T_spec_l20Rd).fP) - 1)))] [some ⟨0, Enc.cells ({ a0 with fP := (w64 (a0.fP + 1)) })⟩] ?_
 refine qv [] trivial 1 99 [(56, I ((({ a0 with fP := (w64 (a0.fP + 1)) } : T_spec_l20Rd).fB).length : Int)), (51, I (w64 ((({ a0 with fP := (w64 (a0.fP + 1)) } : T_spec_l20Rd).fP) - 1))), (50, A (({ a0 with fP := (w64 (a0.fP + 1)) } : T_spec_l20Rd).fB)), (0, .ptr 0 0 0), (1, I a1), (5, I (w64 ((({ a0 with fP := (w64 (a0.fP + 1)) } : T_spec_l20Rd).fP) - 1)))] [some ⟨0, Enc.cells ({ a0 with fP := (w64 (a0.fP + 1)) })⟩] ?_
 obtain ⟨v8, hv9, h⟩ := bindS h
 refine qX (some 57) (I v8) 99 [(57, I v8), (50, A (({ a0 with fP := (w64 (a0.fP + 1)) } : T_spec_l20Rd).fB)), (0, .ptr 0 0 0), (1, I a1), (5, I (w64 ((({ a0 with fP := (w64 (a0.fP + 1)) } : T_spec_l20Rd).fP) - 1)))] [some ⟨0, Enc.cells ({ a0 with fP := (w64 (a0.fP + 1)) })⟩] (fun Γ' hΓ => CoreE.of_y (divV_sound (r := true) τ_ok (by kernel_rfl) hv9)) trivial ?_
 obtain ⟨v10, hv11, h⟩ := bindS h
 refine qX (some 58) (pf v10 0) 99 [(58, pf v10 0), (0, .ptr 0 0 0), (1, I a1), (5, I (w64 ((({ a0 with fP := (w64 (a0.fP + 1)) } : T_spec_l20Rd).fP) - 1)))] [some ⟨0, Enc.cells ({ a0 with fP := (w64 (a0.fP + 1)) })⟩] (fun Γ' hΓ => CoreE.of_y (idxV_sound τ_ok (by kernel_rfl) hv11)) trivial ?_
 refine qv [] trivial 3 99 [(61, I (w64 ((w64 (v10.toNat : Int)) * 131))), (0, .ptr 0 0 0), (1, I a1), (5, I (w64 ((({ a0 with fP := (w64 (a0.fP + 1)) } : T_spec_l20Rd).fP) - 1)))] [some ⟨0, Enc.cells ({ a0 with fP := (w64 (a0.fP + 1)) })⟩] ?_
 refine qv [0] (hB trivial) 4 99 [(65, A (({ a0 with fP := (w64 (a0.fP + 1)) } : T_spec_l20Rd).fB)), (61, I (w64 ((w64 (v10.toNat : Int)) * 131))), (0, .ptr 0 0 0), (1, I a1), (5, I (w64 ((({ a0 with fP := (w64 (a0.fP + 1)) } : T_spec_l20Rd).fP) - 1)))] [some ⟨0, Enc.cells ({ a0 with fP := (w64 (a0.fP + 1)) })⟩] ?_
 refine qv [] trivial 3 99 [(68, I (w64 ((w64 ((w64 ((({ a0 with fP := (w64 (a0.fP + 1)) } : T_spec_l20Rd).fP) - 1)) * 7)) + 3))), (65, A (({ a0 with fP := (w64 (a0.fP + 1)) } : T_spec_l20Rd).fB)), (61, I (w64 ((w64 (v10.toNat : Int)) * 131))), (0, .ptr 0 0 0), (1, I a1), (5, I (w64 ((({ a0 with fP := (w64 (a0.fP + 1)) } : T_spec_l20Rd).fP) - 1)))] [some ⟨0, Enc.cells ({ a0 with fP := (w64 (a0.fP + 1)) })⟩] ?_
 refine qv [0] (hB trivial) 4 99 [(72, A (({ a0 with fP := (w64 (a0.fP + 1)) } : T_spec_l20Rd).fB)), (68, I (w64 ((w64 ((w64 ((({ a0 with fP := (w64 (a0.fP + 1)) } : T_spec_l20Rd).fP) - 1)) * 7)) + 3))), (65, A (({ a0 with fP := (w64 (a0.fP + 1)) } : T_spec_l20Rd).fB)), (61, I (w64 ((w64 (v10.toNat : Int)) * 131))), (0, .ptr 0 0 0), (1, I a1), (5, I (w64 ((({ a0 with fP := (w64 (a0.fP + 1)) } : T_spec_l20Rd).fP) - 1)))] [some ⟨0, Enc.cells ({ a0 with fP := (w64 (a0.fP + 1)) })⟩] ?_
 refine qv [] trivial 1 99 [(73, I ((({ a0 with fP := (w64 (a0.fP + 1)) } : T_spec_l20Rd).fB).length : Int)), (68, I (w64 ((w64 ((w64 ((({ a0 with fP := (w64 (a0.fP + 1)) } : T_spec_l20Rd).fP) - 1)) * 7)) + 3))), (65, A (({ a0 with fP := (w64 (a0.fP + 1)) } : T_spec_l20Rd).fB)), (61, I (w64 ((w64 (v10.toNat : Int)) * 131))), (0, .ptr 0 0 0), (1, I a1), (5, I (w64 ((({ a0 with fP := (w64 (a0.fP + 1)) } : T_spec_l20Rd).fP) - 1)))] [some ⟨0, Enc.cells ({ a0 with fP := (w64 (a0.fP + 1)) })⟩] ?_
 obtain ⟨v12, hv13, h⟩ := bindS h
 refine qX (some 74) (I v12) 99 [(74, I v12), (65, A (({ a0 with fP := (w64 (a0.fP + 1)) } : T_spec_l20Rd).fB)), (61, I (w64 ((w64 (v10.toNat : Int)) * 131))), (0, .ptr 0 0 0), (1, I a1), (5, I (w64 ((({ a0 with fP := (w64 (a0.fP + 1)) } : T_spec_l20Rd).fP) - 1)))] [some ⟨0, Enc.cells ({ a0 with fP := (w64 (a0.fP + 1)) })⟩] (fun Γ' hΓ => CoreE.of_y (divV_sound (r := true) τ_ok (by kernel_rfl) hv13)) trivial ?_
 obtain ⟨v14, hv15, h⟩ := bindS h
 refine qX (some 75) (pf v14 0) 99 [(75, pf v14 0), (61, I (w64 ((w64 (v10.toNat : Int)) * 131))), (0, .ptr 0 0 0), (1, I a1), (5, I (w64 ((({ a0 with fP := (w64 (a0.fP + 1)) } : T_spec_l20Rd).fP) - 1)))] [some ⟨0, Enc.cells ({ a0 with fP := (w64 (a0.fP + 1)) })⟩] (fun Γ' hΓ => CoreE.of_y (idxV_sound τ_ok (by kernel_rfl) hv15)) trivial ?_
 refine qv [] trivial 8 99 [(83, I (w64 ((({ a0 with fP := (w64 (a0.fP + 1)) } : T_spec_l20Rd).fP) - 1))), (82, I (w64 ((w64 ((w64 ((w64 (v10.toNat : Int)) * 131)) + (w64 ((w64 (v14.toNat : Int)) * 1117)))) + (w64 ((w64 ((({ a0 with fP := (w64 (a0.fP + 1)) } : T_spec_l20Rd).fP) - 1)) * 29))))), (0, .ptr 0 0 0), (1, I a1)] [some ⟨0, Enc.cells ({ a0 with fP := (w64 (a0.fP + 1)) })⟩] ?_
 refine qv [0] (hB trivial) 4 99 [(87, A (({ a0 with fP := (w64 (a0.fP + 1)) } : T_spec_l20Rd).fB)), (83, I (w64 ((({ a0 with fP := (w64 (a0.fP + 1)) } : T_spec_l20Rd).fP) - 1))), (82, I (w64 ((w64 ((w64 ((w64 (v10.toNat : Int)) * 131)) + (w64 ((w64 (v14.toNat : Int)) * 1117)))) + (w64 ((w64 ((({ a0 with fP := (w64 (a0.fP + 1)) } : T_spec_l20Rd).fP) - 1)) * 29))))), (1, I a1)] [some ⟨0, Enc.cells ({ a0 with fP := (w64 (a0.fP + 1)) })⟩] ?_
 refine qv [] trivial 1 99 [(88, I ((({ a0 with fP := (w64 (a0.fP + 1)) } : T_spec_l20Rd).fB).length : Int)), (83, I (w64 ((({ a0 with fP := (w64 (a0.fP + 1)) } : T_spec_l20Rd).fP) - 1))), (82, I (w64 ((w64 ((w64 ((w64 (v10.toNat : Int)) * 131)) + (w64 ((w64 (v14.toNat : Int)) * 1117)))) + (w64 ((w64 ((({ a0 with fP := (w64 (a0.fP + 1)) } : T_spec_l20Rd).fP) - 1)) * 29))))), (1, I a1)] [some ⟨0, Enc.cells ({ a0 with fP := (w64 (a0.fP + 1)) })⟩] ?_
 obtain ⟨v16, hv17, h⟩ := bindS h
 refine qX (some 89) (I v16) 99 [(89, I v16), (82, I (w64 ((w64 ((w64 ((w64 (v10.toNat : Int)) * 131)) + (w64 ((w64 (v14.toNat : Int)) * 1117)))) + (w64 ((w64 ((({ a0 with fP := (w64 (a0.fP + 1)) } : T_spec_l20Rd).fP) - 1)) * 29))))), (1, I a1)] [some ⟨0, Enc.cells ({ a0 with fP := (w64 (a0.fP + 1)) })⟩] (fun Γ' hΓ => CoreE.of_y (divV_sound (r := false) τ_ok (by kernel_rfl) hv17)) trivial ?_
 refine qvn [] trivial 3 99 [(1, I a1), (6, I (w64 ((w64 ((w64 ((w64 ((w64 (v10.toNat : Int)) * 131)) + (w64 ((w64 (v14.toNat : Int)) * 1117)))) + (w64 ((w64 ((({ a0 with fP := (w64 (a0.fP + 1)) } : T_spec_l20Rd).fP) - 1)) * 29)))) + (w64 (v16 * 53)))))] [some ⟨0, Enc.cells ({ a0 with fP := (w64 (a0.fP + 1)) })⟩] ?_
 refine srve 99 [(1, I a1), (6, I (w64 ((BitVec.ofInt 64 (w64 ((w64 ((w64 ((w64 ((w64 (v10.toNat : Int)) * 131)) + (w64 ((w64 (v14.toNat : Int)) * 1117)))) + (w64 ((w64 ((({ a0 with fP := (w64 (a0.fP + 1)) } : T_spec_l20Rd).fP) - 1)) * 29)))) + (w64 (v16 * 53)))) ^^^ BitVec.ofInt 64 (w64 ((w64 ((w64 ((w64 ((w64 ((w64 (v10.toNat : Int)) * 131)) + (w64 ((w64 (v14.toNat : Int)) * 1117)))) + (w64 ((w64 ((({ a0 with fP := (w64 (a0.fP + 1)) } : T_spec_l20Rd).fP) - 1)) * 29)))) + (w64 (v16 * 53)))).tdiv 64))).toNat : Int)))] [some ⟨0, Enc.cells ({ a0 with fP := (w64 (a0.fP + 1)) })⟩] ?_
 refine srv 2 99 [(96, I (w64 ((BitVec.ofInt 64 (w64 ((w64 ((w64 ((w64 ((w64 (v10.toNat : Int)) * 131)) + (w64 ((w64 (v14.toNat : Int)) * 1117)))) + (w64 ((w64 ((({ a0 with fP := (w64 (a0.fP + 1)) } : T_spec_l20Rd).fP) - 1)) * 29)))) + (w64 (v16 * 53)))) ^^^ BitVec.ofInt 64 (w64 ((w64 ((w64 ((w64 ((w64 ((w64 (v10.toNat : Int)) * 131)) + (w64 ((w64 (v14.toNat : Int)) * 1117)))) + (w64 ((w64 ((({ a0 with fP := (w64 (a0.fP + 1)) } : T_spec_l20Rd).fP) - 1)) * 29)))) + (w64 (v16 * 53)))).tdiv 64))).toNat : Int))), (97, I a1)] [some ⟨0, Enc.cells ({ a0 with fP := (w64 (a0.fP + 1)) })⟩] ?_
 obtain ⟨v18, hv19, h⟩ := bindS h
 refine opsP_div τ_ok (r := true) 98 hv19 (by kernel_rfl) ?_
 refine ve 1 99 [(4, I v18)] [some ⟨0, Enc.cells ({ a0 with fP := (w64 (a0.fP + 1)) })⟩] ?_
 have h := si h
 subst h
 exact pwp_ret ⟨.inr rfl, I v18, _, 0, by kernel_rfl, (OutP.frz (by kernel_rfl)), by decide, by decide, by kernel_rfl⟩
def spec_l3Own (a0 : List T_impl_Value) : Option (List T_impl_Value) := (app ([] : List T_impl_Value) a0).bind fun v1 => some v1
theorem ok_spec_l3Own {a0 : List T_impl_Value} {y : List T_impl_Value} (h : spec_l3Own a0 = some y) : OK Try.prog 61 [A a0] (O y) := by
 refine ow Try.func61 fun Γ hX => ?_
 unfold spec_l3Own at h
 refine srve 6 [(0, A a0)] [] ?_
 refine srv 2 6 [(3, .arr 3 0 (eL ([] : List T_impl_Value)) true), (4, A a0)] [] ?_
 refine opsP_thaw 3 3 (by kernel_rfl) ?_
 obtain ⟨v1, hv2, h⟩ := bindS h
 refine opsP_app τ_ok 5 0 0 (nx hX) hv2 (by kernel_rfl) ?_
 refine ve 1 6 [(2, rf 0 1 3 v1)] [sl 1 v1] ?_
 have h := si h
 subst h
 exact pwp_ret (rt (rf 0 1 3 v1) (OutP.list (v := 1) (by kernel_rfl)))
def spec_l1In (a0 : Int) (a1 : Int) (a2 : Int) : Option Bool := bif (decide (a0 ≥ a1)) then some (decide (a0 ≤ a2)) else some false
theorem ok_spec_l1In {a0 : Int} {a1 : Int} {a2 : Int} {y : Bool} (h : spec_l1In a0 a1 a2 = some y) : OK Try.prog 62 [I a0, I a1, I a2] (B y) := by
 refine ow Try.func62 fun Γ hX => ?_
 unfold spec_l1In at h
 refine srve 15 [(0, I a0), (1, I a1), (2, I a2)] [] ?_
 refine srv 4 15 [(0, I a0), (2, I a2), (10, B (decide (a0 ≥ a1)))] [] ?_
 rcases fk (decide (a0 ≥ a1)) with hc1 | hc1
 replace h := bT hc1 h
 rw [hc1]
 refine ve 5 15 [(6, B (decide (a0 ≤ a2)))] [] ?_
 cases h
 exact pwp_ret rz
 replace h := bF hc1 h
 rw [hc1]
 refine ve 5 15 [(6, B false)] [] ?_
 cases h
 exact pwp_ret rz
def spec_l3Same_l0 (a0 : List T_impl_Value) (a1 : List T_impl_Value) : Nat → Int → Option Bool
 | 0, _ => none
 | f3 + 1, x2 => bif (decide (x2 < (a0.length : Int))) then (getI a0 x2).bind fun v6 => (getI a1 x2).bind fun v8 => bif (!(eq_T_impl_Value v6 v8)) then some false else (spec_l3Same_l0 a0 a1 f3) (w64 (x2 + 1)) else some true
def spec_l3Same (a0 : List T_impl_Value) (a1 : List T_impl_Value) : Option Bool := bif (!((a0.length : Int) == (a1.length : Int))) then some false else spec_l3Same_l0 a0 a1 FUEL 0
theorem ok_spec_l3Same {a0 : List T_impl_Value} {a1 : List T_impl_Value} {y : Bool} (h : spec_l3Same a0 a1 = some y) : OK Try.prog 89 [A a0, A a1] (B y) := by
 refine ow Try.func89 fun Γ hX => ?_
 unfold spec_l3Same at h
 refine srve 26 [(0, A a0), (1, A a1)] [] ?_
 refine pwp_seq ?_
 refine srve 26 [(0, A a0), (1, A a1), (10, B (!((a0.length : Int) == (a1.length : Int))))] [] ?_
 refine pc h (fun h => ?_) (fun h => ?_)
 refine srve 26 [(4, B false)] [] ?_
 cases h
 exact pwp_ret rz
 refine pwp_skip ?_
 refine pwp_seq ?_
 refine srve 26 [(0, A a0), (1, A a1), (5, I 0)] [] ?_
 refine pwp_block ?_
 refine pwp_loop (ι := Nat × Int) (fun (f3, x2) => (⟨26, [(0, A a0), (1, A a1), (5, I x2)], []⟩ : St)) (fun (f3, x2) => spec_l3Same_l0 a0 a1 f3 x2 = some y) Prod.fst (FUEL, 0) h (it [0, 1, 5]) ?_
 rintro ⟨f3, x2⟩ h
 dsimp only at h ⊢
 rcases f3 with _ | f3
 cases h
 rw [spec_l3Same_l0] at h
 refine pwp_seq ?_
 refine srve 26 [(0, A a0), (1, A a1), (5, I x2), (14, B (decide (x2 < (a0.length : Int))))] [] ?_
 refine pc h (fun h => ?_) (fun h => ?_)
 refine pwp_skip ?_
 refine pwp_seq ?_
 refine pwp_block ?_
 refine pwp_seq ?_
 refine ip 26 [(0, A a0), (1, A a1), (5, I x2)] [] ?_
 refine pN 9 ?_
 refine qv [] trivial 2 26 [(18, I x2), (17, A a0), (0, A a0), (1, A a1), (5, I x2)] [] ?_
 obtain ⟨v6, hv7, h⟩ := bindS h
 refine qX (some 19) (pf v6 0) 26 [(19, pf v6 0), (0, A a0), (1, A a1), (5, I x2)] [] (fun Γ' hΓ => CoreE.of_y (idxV_sound τ_ok (by kernel_rfl) hv7)) trivial ?_
 refine qv [] trivial 3 26 [(22, I x2), (21, A a1), (20, E v6), (0, A a0), (1, A a1), (5, I x2)] [] ?_
 obtain ⟨v8, hv9, h⟩ := bindS h
 refine qX (some 23) (pf v8 0) 26 [(23, pf v8 0), (20, E v6), (0, A a0), (1, A a1), (5, I x2)] [] (fun Γ' hΓ => CoreE.of_y (idxV_sound τ_ok (by kernel_rfl) hv9)) trivial ?_
 refine qvn [] trivial 2 26 [(0, A a0), (1, A a1), (5, I x2), (25, B (!(eq_T_impl_Value v6 v8)))] [] ?_
 refine pc h (fun h => ?_) (fun h => ?_)
 refine srve 26 [(4, B false)] [] ?_
 cases h
 exact pwp_ret rz
 refine pwp_skip ?_
 refine rve 26 [(0, A a0), (1, A a1), (5, I (w64 (x2 + 1)))] [] ?_
 exact ⟨(f3, (w64 (x2 + 1))), h, Nat.lt_succ_self _, it [0, 1, 5]⟩
 refine pwp_exit ?_
 refine srve 26 [(4, B true)] [] ?_
 cases h
 exact pwp_ret rz
def impl_keyOk (a0 : Int) : Option Bool := (impl_between a0 0 4).bind fun v1 => some v1
theorem ok_impl_keyOk {a0 : Int} {y : Bool} (h : impl_keyOk a0 = some y) : OK Try.prog 90 [I a0] (B y) := by
 refine ow Try.func90 fun Γ hX => ?_
 unfold impl_keyOk at h
 refine srve 5 [(0, I a0)] [] ?_
 refine srv 1 5 [(3, I a0)] [] ?_
 obtain ⟨v1, hv2, h⟩ := bindS h
 refine cF 4 (ok_impl_between hv2) ?_
 refine ve 1 5 [(2, B v1)] [] ?_
 cases h
 exact pwp_ret rz
def impl_seen_j1 (x2 : Int) (K4 : Int → Option (T_impl_Version × Bool)) (v6 : T_impl_Version) (x8 : Bool) : Option (T_impl_Version × Bool) := bif x8 then some (v6, true) else K4 (w64 (x2 + 1))
def impl_seen_l0 (a0 : List T_impl_Version) (a1 : Int) (a2 : Int) : Nat → Int → Option (T_impl_Version × Bool)
 | 0, _ => none
 | f3 + 1, x2 => bif (decide (x2 < (a0.length : Int))) then (getI a0 x2).bind fun v6 => bif (v6.fKey == a1) then bif (decide (v6.fBorn ≤ a2)) then bif (v6.fDied == 0) then impl_seen_j1 x2 (impl_seen_l0 a0 a1 a2 f3) v6 true else impl_seen_j1 x2 (impl_seen_l0 a0 a1 a2 f3) v6 (decide (v6.fDied > a2)) else impl_seen_j1 x2 (impl_seen_l0 a0 a1 a2 f3) v6 false else impl_seen_j1 x2 (impl_seen_l0 a0 a1 a2 f3) v6 false else some ((T_impl_Version.mk 0 0 0 []), false)
def impl_seen (a0 : List T_impl_Version) (a1 : Int) (a2 : Int) : Option (T_impl_Version × Bool) := impl_seen_l0 a0 a1 a2 FUEL 0
theorem ok_impl_seen {a0 : List T_impl_Version} {a1 : Int} {a2 : Int} {y : T_impl_Version × Bool} (h : impl_seen a0 a1 a2 = some y) : OK Try.prog 91 [A a0, I a1, I a2] (.tup [E y.1, B y.2]) := by
 refine ow Try.func91 fun Γ hX => ?_
 unfold impl_seen at h
 refine srveM [6, 9] 40 [(0, A a0), (1, I a1), (2, I a2), (6, .ptr 0 0 0)] [some ⟨0, Enc.cells (T_impl_Version.mk 0 0 0 [])⟩] ?_
 refine pwp_seq ?_
 refine srveM [6, 9] 40 [(1, I a1), (2, I a2), (6, .ptr 0 0 0), (10, A a0), (11, I (a0.length : Int)), (12, I 0)] [some ⟨0, Enc.cells (T_impl_Version.mk 0 0 0 [])⟩] ?_
 refine pwp_block ?_
 refine pwp_loop (ι := Nat × Int) (fun (f3, x2) => (⟨40, [(1, I a1), (2, I a2), (6, .ptr 0 0 0), (10, A a0), (11, I (a0.length : Int)), (12, I x2)], [some ⟨0, Enc.cells (T_impl_Version.mk 0 0 0 [])⟩]⟩ : St)) (fun (f3, x2) => impl_seen_l0 a0 a1 a2 f3 x2 = some y) Prod.fst (FUEL, 0) h (it [1, 2, 6, 10, 11, 12]) ?_
 rintro ⟨f3, x2⟩ h
 dsimp only at h ⊢
 rcases f3 with _ | f3
 cases h
 rw [impl_seen_l0] at h
 refine srveM [6, 9] 40 [(1, I a1), (2, I a2), (6, .ptr 0 0 0), (10, A a0), (11, I (a0.length : Int)), (12, I x2), (13, B (decide (x2 < (a0.length : Int))))] [some ⟨0, Enc.cells (T_impl_Version.mk 0 0 0 [])⟩] ?_
 refine pwp_seq ?_
 refine pc h (fun h => ?_) (fun h => ?_)
 refine pwp_skip ?_
 refine pwp_seq ?_
 refine pwp_block ?_
 refine pwp_seq ?_
 refine pwp_region ?_
 obtain ⟨v6, hv7, h⟩ := bindS h
 refine opsP_idx τ_ok 14 hv7 (by kernel_rfl) ?_
 refine veM [6, 9] 3 40 [(1, I a1), (2, I a2), (6, .ptr 0 0 0), (9, .ptr 1 0 0), (10, A a0), (11, I (a0.length : Int)), (12, I x2)] [some ⟨0, Enc.cells (T_impl_Version.mk 0 0 0 [])⟩, sc 0 v6] ?_
 refine pwp_seq ?_
 refine pwp_join (σ := Bool) (fun x8 => (⟨40, [(1, I a1), (2, I a2), (6, .ptr 0 0 0), (9, .ptr 1 0 0), (10, A a0), (11, I (a0.length : Int)), (12, I x2), (36, B x8)], [some ⟨0, Enc.cells (T_impl_Version.mk 0 0 0 [])⟩, sc 0 v6]⟩ : St)) (fun x8 => impl_seen_j1 x2 (impl_seen_l0 a0 a1 a2 f3) v6 x8 = some y) ?_ ?_
 refine rvM [6, 9] 5 40 [(1, I a1), (2, I a2), (6, .ptr 0 0 0), (9, .ptr 1 0 0), (10, A a0), (11, I (a0.length : Int)), (12, I x2), (20, B (v6.fKey == a1))] [some ⟨0, Enc.cells (T_impl_Version.mk 0 0 0 [])⟩, sc 0 v6] ?_
 rcases fk (v6.fKey == a1) with hc12 | hc12
 replace h := bT hc12 h
 rw [hc12]
 refine vM [6, 9] 6 40 [(1, I a1), (2, I a2), (6, .ptr 0 0 0), (9, .ptr 1 0 0), (10, A a0), (11, I (a0.length : Int)), (12, I x2), (21, .ptr 1 0 1), (22, I v6.fBorn), (23, I a2), (24, B (decide (v6.fBorn ≤ a2))), (26, B (decide (v6.fBorn ≤ a2)))] [some ⟨0, Enc.cells (T_impl_Version.mk 0 0 0 [])⟩, sc 0 v6] ?_
 rcases fk (decide (v6.fBorn ≤ a2)) with hc11 | hc11
 replace h := bT hc11 h
 rw [hc11]
 refine vM [6, 9] 4 40 [(1, I a1), (2, I a2), (6, .ptr 0 0 0), (9, .ptr 1 0 0), (10, A a0), (11, I (a0.length : Int)), (12, I x2), (21, .ptr 1 0 1), (22, I v6.fBorn), (23, I a2), (24, B true), (26, B true), (27, .ptr 1 0 2), (28, I v6.fDied), (29, B (v6.fDied == 0)), (30, B (v6.fDied == 0))] [some ⟨0, Enc.cells (T_impl_Version.mk 0 0 0 [])⟩, sc 0 v6] ?_
 rcases fk (v6.fDied == 0) with hc10 | hc10
 replace h := bT hc10 h
 rw [hc10]
 refine veM [6, 9] 6 40 [(1, I a1), (2, I a2), (6, .ptr 0 0 0), (9, .ptr 1 0 0), (10, A a0), (11, I (a0.length : Int)), (12, I x2), (21, .ptr 1 0 1), (22, I v6.fBorn), (23, I a2), (24, B true), (27, .ptr 1 0 2), (28, I v6.fDied), (29, B true), (30, B true), (31, .lit undef), (32, .lit undef), (33, .lit undef), (34, .lit undef), (35, B true), (36, B true)] [some ⟨0, Enc.cells (T_impl_Version.mk 0 0 0 [])⟩, sc 0 v6] ?_
 exact ⟨true, h, it [1, 2, 6, 9, 10, 11, 12, 36]⟩
 replace h := bF hc10 h
 rw [hc10]
 refine veM [6, 9] 6 40 [(1, I a1), (2, I a2), (6, .ptr 0 0 0), (9, .ptr 1 0 0), (10, A a0), (11, I (a0.length : Int)), (12, I x2), (21, .ptr 1 0 1), (22, I v6.fBorn), (23, I a2), (24, B true), (27, .ptr 1 0 2), (28, I v6.fDied), (29, B false), (30, B false), (31, .ptr 1 0 2), (32, I v6.fDied), (33, I a2), (34, B (decide (v6.fDied > a2))), (35, B (decide (v6.fDied > a2))), (36, B (decide (v6.fDied > a2)))] [some ⟨0, Enc.cells (T_impl_Version.mk 0 0 0 [])⟩, sc 0 v6] ?_
 exact ⟨(decide (v6.fDied > a2)), h, it [1, 2, 6, 9, 10, 11, 12, 36]⟩
 replace h := bF hc11 h
 rw [hc11]
 refine veM [6, 9] 10 40 [(1, I a1), (2, I a2), (6, .ptr 0 0 0), (9, .ptr 1 0 0), (10, A a0), (11, I (a0.length : Int)), (12, I x2), (21, .ptr 1 0 1), (22, I v6.fBorn), (23, I a2), (24, B false), (27, .lit undef), (28, .lit undef), (29, .lit undef), (30, .lit undef), (31, .lit undef), (32, .lit undef), (33, .lit undef), (34, .lit undef), (35, .lit undef), (36, B false)] [some ⟨0, Enc.cells (T_impl_Version.mk 0 0 0 [])⟩, sc 0 v6] ?_
 exact ⟨false, h, it [1, 2, 6, 9, 10, 11, 12, 36]⟩
 replace h := bF hc12 h
 rw [hc12]
 refine veM [6, 9] 16 40 [(1, I a1), (2, I a2), (6, .ptr 0 0 0), (9, .ptr 1 0 0), (10, A a0), (11, I (a0.length : Int)), (12, I x2), (21, .lit undef), (22, .lit undef), (23, .lit undef), (24, .lit undef), (27, .lit undef), (28, .lit undef), (29, .lit undef), (30, .lit undef), (31, .lit undef), (32, .lit undef), (33, .lit undef), (34, .lit undef), (35, .lit undef), (36, B false)] [some ⟨0, Enc.cells (T_impl_Version.mk 0 0 0 [])⟩, sc 0 v6] ?_
 exact ⟨false, h, it [1, 2, 6, 9, 10, 11, 12, 36]⟩
 rintro x8 h
 unfold impl_seen_j1 at h
 refine pc h (fun h => ?_) (fun h => ?_)
 refine srveM [6, 9] 40 [(6, .ptr 0 0 0), (7, B true)] [sc 0 v6, sc 0 v6] ?_
 have h := si h
 subst h
 exact pwp_ret (rt (.tup [E v6, B true]) (OutP.tup (OutL.cons (OutP.frz (by kernel_rfl)) (OutL.cons (OutP.frz (by kernel_rfl)) (OutL.nil _)))))
 refine pwp_skip ?_
 refine rveM [6, 9] 40 [(1, I a1), (2, I a2), (6, .ptr 0 0 0), (10, A a0), (11, I (a0.length : Int)), (12, I (w64 (x2 + 1)))] [some ⟨0, Enc.cells (T_impl_Version.mk 0 0 0 [])⟩, sc 0 v6] ?_
 exact ⟨(f3, (w64 (x2 + 1))), h, Nat.lt_succ_self _, (it (st' := ⟨40, [(1, I a1), (2, I a2), (6, .ptr 0 0 0), (10, A a0), (11, I (a0.length : Int)), (12, I (w64 (x2 + 1)))], [some ⟨0, Enc.cells (T_impl_Version.mk 0 0 0 [])⟩, sc 0 v6]⟩) [1, 2, 6, 10, 11, 12]).trans (Imp.truncS 1 (nx hX) (by kernel_rfl) (allBelow_mem (by exact (And.intro rfl (And.intro rfl (And.intro rfl (And.intro rfl (And.intro rfl (And.intro rfl trivial)))))))) (by exact (And.intro (rfl) trivial)) (by kernel_rfl))⟩
 refine pwp_exit ?_
 refine srveM [6, 9] 40 [(6, .ptr 0 0 0), (7, B false)] [some ⟨0, Enc.cells (T_impl_Version.mk 0 0 0 [])⟩] ?_
 have h := si h
 subst h
 exact pwp_ret (rt (.tup [E (T_impl_Version.mk 0 0 0 []), B false]) (OutP.tup (OutL.cons (OutP.frz (by kernel_rfl)) (OutL.cons (OutP.frz (by kernel_rfl)) (OutL.nil _)))))
def slices_IndexFunc_impl_Delta_impl_Delta_l0 (a0 : List T_impl_Delta) (a1 : T_impl_Delta → Option Bool) : Nat → Int → Option Int
 | 0, _ => none
 | f2 + 1, x1 => bif (decide (x1 < (a0.length : Int))) then (getI a0 x1).bind fun v5 => (a1 v5).bind fun v7 => bif v7 then some x1 else (slices_IndexFunc_impl_Delta_impl_Delta_l0 a0 a1 f2) (w64 (x1 + 1)) else some (-1)
def slices_IndexFunc_impl_Delta_impl_Delta (a0 : List T_impl_Delta) (a1 : T_impl_Delta → Option Bool) : Option Int := slices_IndexFunc_impl_Delta_impl_Delta_l0 a0 a1 FUEL 0
theorem ok_slices_IndexFunc_impl_Delta_impl_Delta {a0 : List T_impl_Delta} {g1 : FuncId} {c1 : List V} (hz1 : frzL c1 = true) {a1 : T_impl_Delta → Option Bool} (hp1 : ∀ x0 y, a1 x0 = some y → OK Try.prog g1 ([E x0] ++ c1) (B y)) {y : Int} (h : slices_IndexFunc_impl_Delta_impl_Delta a0 a1 = some y) : OK Try.prog 108 [A a0, .fn g1 c1] (I y) := by
 refine ow Try.func108 fun Γ hX => ?_
 unfold slices_IndexFunc_impl_Delta_impl_Delta at h
 refine srve 19 [(0, A a0), (1, .fn g1 c1)] [] ?_
 refine pwp_seq ?_
 refine srve 19 [(0, A a0), (1, .fn g1 c1), (7, I (a0.length : Int)), (8, I 0)] [] ?_
 refine pwp_block ?_
 refine pwp_loop (ι := Nat × Int) (fun (f2, x1) => (⟨19, [(0, A a0), (1, .fn g1 c1), (7, I (a0.length : Int)), (8, I x1)], []⟩ : St)) (fun (f2, x1) => slices_IndexFunc_impl_Delta_impl_Delta_l0 a0 a1 f2 x1 = some y) Prod.fst (FUEL, 0) h (it [0, 1, 7, 8]) ?_
 rintro ⟨f2, x1⟩ h
 dsimp only at h ⊢
 rcases f2 with _ | f2
 cases h
 rw [slices_IndexFunc_impl_Delta_impl_Delta_l0] at h
 refine srve 19 [(0, A a0), (1, .fn g1 c1), (7, I (a0.length : Int)), (8, I x1), (9, B (decide (x1 < (a0.length : Int))))] [] ?_
 refine pwp_seq ?_
 refine pc h (fun h => ?_) (fun h => ?_)
 refine pwp_skip ?_
 refine pwp_seq ?_
 refine pwp_block ?_
 refine srve 19 [(0, A a0), (1, .fn g1 c1), (5, I x1), (7, I (a0.length : Int)), (8, I x1)] [] ?_
 refine srv 3 19 [(0, A a0), (1, .fn g1 c1), (5, I x1), (7, I (a0.length : Int)), (8, I x1), (11, .fn g1 c1), (12, A a0), (13, I x1)] [] ?_
 obtain ⟨v5, hv6, h⟩ := bindS h
 refine opsP_idx τ_ok 14 hv6 (by kernel_rfl) ?_
 refine v 1 19 [(0, A a0), (1, .fn g1 c1), (5, I x1), (7, I (a0.length : Int)), (8, I x1), (11, .fn g1 c1), (15, E v5)] [] ?_
 obtain ⟨v7, hv8, h⟩ := bindS h
 refine opsP_callF τ 16 (hp1 _ _ hv8) (FzTo.frz rfl) (frz_app (xs := [E v5]) rfl hz1) (by kernel_rfl) ?_
 refine ve 0 19 [(0, A a0), (1, .fn g1 c1), (5, I x1), (7, I (a0.length : Int)), (8, I x1), (16, B v7)] [] ?_
 refine pc h (fun h => ?_) (fun h => ?_)
 refine srve 19 [(4, I x1)] [] ?_
 cases h
 exact pwp_ret rz
 refine pwp_skip ?_
 refine rve 19 [(0, A a0), (1, .fn g1 c1), (7, I (a0.length : Int)), (8, I (w64 (x1 + 1)))] [] ?_
 exact ⟨(f2, (w64 (x1 + 1))), h, Nat.lt_succ_self _, it [0, 1, 7, 8]⟩
 refine pwp_exit ?_
 refine srve 19 [(4, I (-1))] [] ?_
 cases h
 exact pwp_ret rz
def slices_Clone_impl_Value_impl_Value_s3_j0 (x1 : List (List T_impl_Value)) (x2 : Bool) : Option (List (List T_impl_Value)) := bif x2 then some ([] : List (List T_impl_Value)) else (app ([] : List (List T_impl_Value)) x1).bind fun v4 => some v4
def slices_Clone_impl_Value_impl_Value_s3 (a0 : List (List T_impl_Value)) : Option (List (List T_impl_Value)) := slices_Clone_impl_Value_impl_Value_s3_j0 a0 false
theorem ok_slices_Clone_impl_Value_impl_Value_s3 {a0 : List (List T_impl_Value)} {y : List (List T_impl_Value)} (h : slices_Clone_impl_Value_impl_Value_s3 a0 = some y) : OK Try.prog 112 [A a0] (O y) := by
 refine ow Try.func112 fun Γ hX => ?_
 unfold slices_Clone_impl_Value_impl_Value_s3 at h
 refine srve 8 [(0, A a0)] [] ?_
 refine pwp_seq ?_
 refine pwp_seq ?_
 refine pwp_join (σ := (List (List T_impl_Value)) × Bool) (fun (x1, x2) => (⟨8, [(0, A x1), (4, B x2)], []⟩ : St)) (fun (x1, x2) => slices_Clone_impl_Value_impl_Value_s3_j0 x1 x2 = some y) ?_ ?_
 refine rv 1 8 [(0, A a0), (3, A a0)] [] ?_
 refine opsP_nilq τ_ok 4 (xs := a0) (by kernel_rfl) ?_
 rintro (_ | _) hb
 clear hb
 refine ve 0 8 [(0, A a0), (4, B false)] [] ?_
 exact ⟨(a0, false), h, it [0, 4]⟩
 obtain rfl := hb rfl
 replace h := clone_nil h
 refine ve 0 8 [(0, A ([] : List (List T_impl_Value))), (4, B true)] [] ?_
 exact ⟨(([] : List (List T_impl_Value)), true), h, it [0, 4]⟩
 rintro ⟨x1, x2⟩ h
 dsimp only at h ⊢
 unfold slices_Clone_impl_Value_impl_Value_s3_j0 at h
 refine pc h (fun h => ?_) (fun h => ?_)
 refine srve 8 [(2, .arr 1 0 (eL ([] : List (List T_impl_Value))) true)] [] ?_
 refine ip 8 [(2, .arr 1 0 (eL ([] : List (List T_impl_Value))) true)] [] ?_
 refine pwp_imp (Imp.thawS (st' := ⟨8, [(2, .ref 0 0 0 1 ([] : List (List T_impl_Value)).length false)], [some ⟨0, eL ([] : List (List T_impl_Value))⟩]⟩) 2 [2] (by kernel_rfl)) ?_
 have h := si h
 subst h
 exact pwp_ret (rt (.ref 0 0 0 1 ([] : List (List T_impl_Value)).length false) (OutP.list (v := 0) (by kernel_rfl)))
 refine pwp_skip ?_
 refine srv 2 8 [(5, .arr 1 0 (eL ([] : List (List T_impl_Value))) true), (6, A x1)] [] ?_
 refine opsP_thaw 5 1 (by kernel_rfl) ?_
 obtain ⟨v4, hv5, h⟩ := bindS h
 refine opsP_app τ_ok 7 0 0 (nx hX) hv5 (by kernel_rfl) ?_
 refine ve 1 8 [(2, rf 0 1 1 v4)] [sl 1 v4] ?_
 have h := si h
 subst h
 exact pwp_ret (rt (rf 0 1 1 v4) (OutP.list (v := 1) (by kernel_rfl)))
def slices_IndexFunc_impl_Value_impl_Value_s3_l0 (a0 : List (List T_impl_Value)) (a1 : (List T_impl_Value) → Option Bool) : Nat → Int → Option Int
 | 0, _ => none
 | f2 + 1, x1 => bif (decide (x1 < (a0.length : Int))) then (getI a0 x1).bind fun v5 => (a1 v5).bind fun v7 => bif v7 then some x1 else (slices_IndexFunc_impl_Value_impl_Value_s3_l0 a0 a1 f2) (w64 (x1 + 1)) else some (-1)
def slices_IndexFunc_impl_Value_impl_Value_s3 (a0 : List (List T_impl_Value)) (a1 : (List T_impl_Value) → Option Bool) : Option Int := slices_IndexFunc_impl_Value_impl_Value_s3_l0 a0 a1 FUEL 0
theorem ok_slices_IndexFunc_impl_Value_impl_Value_s3 {a0 : List (List T_impl_Value)} {g1 : FuncId} {c1 : List V} (hz1 : frzL c1 = true) {a1 : (List T_impl_Value) → Option Bool} (hp1 : ∀ x0 y, a1 x0 = some y → OK Try.prog g1 ([A x0] ++ c1) (B y)) {y : Int} (h : slices_IndexFunc_impl_Value_impl_Value_s3 a0 a1 = some y) : OK Try.prog 113 [A a0, .fn g1 c1] (I y) := by
 refine ow Try.func113 fun Γ hX => ?_
 unfold slices_IndexFunc_impl_Value_impl_Value_s3 at h
 refine srve 19 [(0, A a0), (1, .fn g1 c1)] [] ?_
 refine pwp_seq ?_
 refine srve 19 [(0, A a0), (1, .fn g1 c1), (7, I (a0.length : Int)), (8, I 0)] [] ?_
 refine pwp_block ?_
 refine pwp_loop (ι := Nat × Int) (fun (f2, x1) => (⟨19, [(0, A a0), (1, .fn g1 c1), (7, I (a0.length : Int)), (8, I x1)], []⟩ : St)) (fun (f2, x1) => slices_IndexFunc_impl_Value_impl_Value_s3_l0 a0 a1 f2 x1 = some y) Prod.fst (FUEL, 0) h (it [0, 1, 7, 8]) ?_
 rintro ⟨f2, x1⟩ h
 dsimp only at h ⊢
 rcases f2 with _ | f2
 cases h
 rw [slices_IndexFunc_impl_Value_impl_Value_s3_l0] at h
 refine srve 19 [(0, A a0), (1, .fn g1 c1), (7, I (a0.length : Int)), (8, I x1), (9, B (decide (x1 < (a0.length : Int))))] [] ?_
 refine pwp_seq ?_
 refine pc h (fun h => ?_) (fun h => ?_)
 refine pwp_skip ?_
 refine pwp_seq ?_
 refine pwp_block ?_
 refine srve 19 [(0, A a0), (1, .fn g1 c1), (5, I x1), (7, I (a0.length : Int)), (8, I x1)] [] ?_
 refine srv 3 19 [(0, A a0), (1, .fn g1 c1), (5, I x1), (7, I (a0.length : Int)), (8, I x1), (11, .fn g1 c1), (12, A a0), (13, I x1)] [] ?_
 obtain ⟨v5, hv6, h⟩ := bindS h
 refine opsP_idx τ_ok 14 hv6 (by kernel_rfl) ?_
 refine v 1 19 [(0, A a0), (1, .fn g1 c1), (5, I x1), (7, I (a0.length : Int)), (8, I x1), (11, .fn g1 c1), (15, A v5)] [] ?_
 obtain ⟨v7, hv8, h⟩ := bindS h
 refine opsP_callF τ 16 (hp1 _ _ hv8) (FzTo.frz rfl) (frz_app (xs := [A v5]) rfl hz1) (by kernel_rfl) ?_
 refine ve 0 19 [(0, A a0), (1, .fn g1 c1), (5, I x1), (7, I (a0.length : Int)), (8, I x1), (16, B v7)] [] ?_
 refine pc h (fun h => ?_) (fun h => ?_)
 refine srve 19 [(4, I x1)] [] ?_
 cases h
 exact pwp_ret rz
 refine pwp_skip ?_
 refine rve 19 [(0, A a0), (1, .fn g1 c1), (7, I (a0.length : Int)), (8, I (w64 (x1 + 1)))] [] ?_
 exact ⟨(f2, (w64 (x1 + 1))), h, Nat.lt_succ_self _, it [0, 1, 7, 8]⟩
 refine pwp_exit ?_
 refine srve 19 [(4, I (-1))] [] ?_
 cases h
 exact pwp_ret rz
def slices_Equal_impl_Value_impl_Value_l0 (a0 : List T_impl_Value) (a1 : List T_impl_Value) : Nat → Int → Option Bool
 | 0, _ => none
 | f3 + 1, x2 => bif (decide (x2 < (a0.length : Int))) then (getI a0 x2).bind fun v6 => (getI a1 x2).bind fun v8 => bif (!(eq_T_impl_Value v6 v8)) then some false else (slices_Equal_impl_Value_impl_Value_l0 a0 a1 f3) (w64 (x2 + 1)) else some true
def slices_Equal_impl_Value_impl_Value (a0 : List T_impl_Value) (a1 : List T_impl_Value) : Option Bool := bif (!((a0.length : Int) == (a1.length : Int))) then some false else slices_Equal_impl_Value_impl_Value_l0 a0 a1 FUEL 0
theorem ok_slices_Equal_impl_Value_impl_Value {a0 : List T_impl_Value} {a1 : List T_impl_Value} {y : Bool} (h : slices_Equal_impl_Value_impl_Value a0 a1 = some y) : OK Try.prog 115 [A a0, A a1] (B y) := by
 refine ow Try.func115 fun Γ hX => ?_
 unfold slices_Equal_impl_Value_impl_Value at h
 refine srve 26 [(0, A a0), (1, A a1)] [] ?_
 refine pwp_seq ?_
 refine srve 26 [(0, A a0), (1, A a1), (10, B (!((a0.length : Int) == (a1.length : Int))))] [] ?_
 refine pc h (fun h => ?_) (fun h => ?_)
 refine srve 26 [(4, B false)] [] ?_
 cases h
 exact pwp_ret rz
 refine pwp_skip ?_
 refine pwp_seq ?_
 refine srve 26 [(0, A a0), (1, A a1), (12, I (a0.length : Int)), (13, I 0)] [] ?_
 refine pwp_block ?_
 refine pwp_loop (ι := Nat × Int) (fun (f3, x2) => (⟨26, [(0, A a0), (1, A a1), (12, I (a0.length : Int)), (13, I x2)], []⟩ : St)) (fun (f3, x2) => slices_Equal_impl_Value_impl_Value_l0 a0 a1 f3 x2 = some y) Prod.fst (FUEL, 0) h (it [0, 1, 12, 13]) ?_
 rintro ⟨f3, x2⟩ h
 dsimp only at h ⊢
 rcases f3 with _ | f3
 cases h
 rw [slices_Equal_impl_Value_impl_Value_l0] at h
 refine srve 26 [(0, A a0), (1, A a1), (12, I (a0.length : Int)), (13, I x2), (14, B (decide (x2 < (a0.length : Int))))] [] ?_
 refine pwp_seq ?_
 refine pc h (fun h => ?_) (fun h => ?_)
 refine pwp_skip ?_
 refine pwp_seq ?_
 refine pwp_block ?_
 refine srve 26 [(0, A a0), (1, A a1), (5, I x2), (12, I (a0.length : Int)), (13, I x2)] [] ?_
 refine pwp_seq ?_
 refine ip 26 [(0, A a0), (1, A a1), (5, I x2), (12, I (a0.length : Int)), (13, I x2)] [] ?_
 refine pN 9 ?_
 refine qv [] trivial 2 26 [(17, I x2), (16, A a0), (0, A a0), (1, A a1), (5, I x2), (12, I (a0.length : Int)), (13, I x2)] [] ?_
 obtain ⟨v6, hv7, h⟩ := bindS h
 refine qX (some 18) (pf v6 0) 26 [(18, pf v6 0), (0, A a0), (1, A a1), (5, I x2), (12, I (a0.length : Int)), (13, I x2)] [] (fun Γ' hΓ => CoreE.of_y (idxV_sound τ_ok (by kernel_rfl) hv7)) trivial ?_
 refine qv [] trivial 3 26 [(21, I x2), (20, A a1), (19, E v6), (0, A a0), (1, A a1), (12, I (a0.length : Int)), (13, I x2)] [] ?_
 obtain ⟨v8, hv9, h⟩ := bindS h
 refine qX (some 22) (pf v8 0) 26 [(22, pf v8 0), (19, E v6), (0, A a0), (1, A a1), (12, I (a0.length : Int)), (13, I x2)] [] (fun Γ' hΓ => CoreE.of_y (idxV_sound τ_ok (by kernel_rfl) hv9)) trivial ?_
 refine qvn [] trivial 2 26 [(0, A a0), (1, A a1), (12, I (a0.length : Int)), (13, I x2), (24, B (!(eq_T_impl_Value v6 v8)))] [] ?_
 refine pc h (fun h => ?_) (fun h => ?_)
 refine srve 26 [(4, B false)] [] ?_
 cases h
 exact pwp_ret rz
 refine pwp_skip ?_
 refine rve 26 [(0, A a0), (1, A a1), (12, I (a0.length : Int)), (13, I (w64 (x2 + 1)))] [] ?_
 exact ⟨(f3, (w64 (x2 + 1))), h, Nat.lt_succ_self _, it [0, 1, 12, 13]⟩
 refine pwp_exit ?_
 refine srve 26 [(4, B true)] [] ?_
 cases h
 exact pwp_ret rz
def slices_Clip_impl_Value_impl_Value_s3 (a0 : List (List T_impl_Value)) : Option (List (List T_impl_Value)) := (slI a0 none (some (a0.length : Int)) (some (a0.length : Int))).bind fun v1 => some v1
theorem ok_slices_Clip_impl_Value_impl_Value_s3 {a0 : List (List T_impl_Value)} {y : List (List T_impl_Value)} (h : slices_Clip_impl_Value_impl_Value_s3 a0 = some y) : OK Try.prog 120 [A a0] (A y) := by
 refine ow Try.func120 fun Γ hX => ?_
 unfold slices_Clip_impl_Value_impl_Value_s3 at h
 refine srve 9 [(0, A a0)] [] ?_
 refine srv 5 9 [(3, A a0), (5, I (a0.length : Int)), (7, I (a0.length : Int))] [] ?_
 obtain ⟨v1, hv2, h⟩ := bindS h
 refine opsP_slc τ_ok 8 hv2 (by kernel_rfl) ?_
 refine ve 1 9 [(2, A v1)] [] ?_
 cases h
 exact pwp_ret rz
def spec_l20Rd_odd (a0 : T_spec_l20Rd) (a1 : Int) : Option (Bool × T_spec_l20Rd) := bif (decide (a1 > 0)) then (spec_l20Rd_pick a0 a1).bind fun v1 => some ((v1.1 == (w64 (a1 - 1))), v1.2) else some (false, a0)
theorem ok_spec_l20Rd_odd {a0 : T_spec_l20Rd} {a1 : Int} {y : Bool × T_spec_l20Rd} (h : spec_l20Rd_odd a0 a1 = some y) : OKb Try.prog 134 (Enc.cells a0) [I a1] (B y.1) (Enc.cells y.2) := by
 refine OKb_of_pwp τ_ok Try.func134 rfl (by kernel_rfl) rfl (Enc.frz _) (Enc.frz _) fun Γ hQ => ?_
 unfold spec_l20Rd_odd at h
 refine srve 15 [(0, .ptr 0 0 0), (1, I a1)] [sc 0 a0] ?_
 refine srv 3 15 [(0, .ptr 0 0 0), (1, I a1), (7, B (decide (a1 > 0)))] [sc 0 a0] ?_
 rcases fk (decide (a1 > 0)) with hc3 | hc3
 replace h := bT hc3 h
 rw [hc3]
 refine v 2 15 [(1, I a1), (7, B true), (8, .ptr 0 0 0), (9, I a1)] [sc 0 a0] ?_
 obtain ⟨v1, hv2, h⟩ := bindS h
 refine cB 10 0 0 (ok_spec_l20Rd_pick hv2) ?_
 refine ve 5 15 [(4, B (v1.1 == (w64 (a1 - 1))))] [sc 0 v1.2] ?_
 have h := si h
 subst h
 exact pwp_ret ⟨.inr rfl, B (v1.1 == (w64 (a1 - 1))), _, 0, by kernel_rfl, (OutP.frz (by kernel_rfl)), by decide, by decide, by kernel_rfl⟩
 replace h := bF hc3 h
 rw [hc3]
 refine ve 8 15 [(4, B false)] [sc 0 a0] ?_
 have h := si h
 subst h
 exact pwp_ret ⟨.inr rfl, B false, _, 0, by kernel_rfl, (OutP.frz (by kernel_rfl)), by decide, by decide, by kernel_rfl⟩
def slices_Clip_impl_Change_impl_Change (a0 : List T_impl_Change) : Option (List T_impl_Change) := (slI a0 none (some (a0.length : Int)) (some (a0.length : Int))).bind fun v1 => some v1
theorem ok_slices_Clip_impl_Change_impl_Change {a0 : List T_impl_Change} {y : List T_impl_Change} (h : slices_Clip_impl_Change_impl_Change a0 = some y) : OK Try.prog 135 [A a0] (A y) := by
 refine ow Try.func135 fun Γ hX => ?_
 unfold slices_Clip_impl_Change_impl_Change at h
 refine srve 9 [(0, A a0)] [] ?_
 refine srv 5 9 [(3, A a0), (5, I (a0.length : Int)), (7, I (a0.length : Int))] [] ?_
 obtain ⟨v1, hv2, h⟩ := bindS h
 refine opsP_slc τ_ok 8 hv2 (by kernel_rfl) ?_
 refine ve 1 9 [(2, A v1)] [] ?_
 cases h
 exact pwp_ret rz
def spec_l13Seen (a0 : T_impl_Version) (a1 : Int) : Option Bool := bif (decide (a0.fBorn ≤ a1)) then bif (a0.fDied == 0) then some true else some (decide (a1 < a0.fDied)) else some false
theorem ok_spec_l13Seen {a0 : T_impl_Version} {a1 : Int} {y : Bool} (h : spec_l13Seen a0 a1 = some y) : OK Try.prog 137 [E a0, I a1] (B y) := by
 refine ow Try.func137 fun Γ hX => ?_
 unfold spec_l13Seen at h
 refine srve 20 [(1, I a1), (2, pf a0 0)] [] ?_
 refine srv 5 20 [(1, I a1), (2, pf a0 0), (9, B (decide (a0.fBorn ≤ a1)))] [] ?_
 rcases fk (decide (a0.fBorn ≤ a1)) with hc2 | hc2
 replace h := bT hc2 h
 rw [hc2]
 refine v 4 20 [(1, I a1), (2, pf a0 0), (9, B true), (13, B (a0.fDied == 0))] [] ?_
 rcases fk (a0.fDied == 0) with hc1 | hc1
 replace h := bT hc1 h
 rw [hc1]
 refine ve 7 20 [(4, B true)] [] ?_
 cases h
 exact pwp_ret rz
 replace h := bF hc1 h
 rw [hc1]
 refine ve 7 20 [(4, B (decide (a1 < a0.fDied)))] [] ?_
 cases h
 exact pwp_ret rz
 replace h := bF hc2 h
 rw [hc2]
 refine ve 11 20 [(4, B false)] [] ?_
 cases h
 exact pwp_ret rz
def cmp_Or_int_l0 (a0 : List Int) : Nat → Int → Option Int
 | 0, _ => none
 | f2 + 1, x1 => bif (decide (x1 < (a0.length : Int))) then (getI a0 x1).bind fun v5 => bif (!(v5 == 0)) then some v5 else (cmp_Or_int_l0 a0 f2) (w64 (x1 + 1)) else some 0
def cmp_Or_int (a0 : List Int) : Option Int := cmp_Or_int_l0 a0 FUEL 0
theorem ok_cmp_Or_int {a0 : List Int} {y : Int} (h : cmp_Or_int a0 = some y) : OK Try.prog 150 [A a0] (I y) := by
 refine ow Try.func150 fun Γ hX => ?_
 unfold cmp_Or_int at h
 refine srve 18 [(0, A a0)] [] ?_
 refine srve 18 [(0, A a0), (3, I 0)] [] ?_
 refine pwp_seq ?_
 refine srve 18 [(3, I 0), (6, A a0), (7, I (a0.length : Int)), (8, I 0)] [] ?_
 refine pwp_block ?_
 refine pwp_loop (ι := Nat × Int) (fun (f2, x1) => (⟨18, [(3, I 0), (6, A a0), (7, I (a0.length : Int)), (8, I x1)], []⟩ : St)) (fun (f2, x1) => cmp_Or_int_l0 a0 f2 x1 = some y) Prod.fst (FUEL, 0) h (it [3, 6, 7, 8]) ?_
 rintro ⟨f2, x1⟩ h
 dsimp only at h ⊢
 rcases f2 with _ | f2
 cases h
 rw [cmp_Or_int_l0] at h
 refine srve 18 [(3, I 0), (6, A a0), (7, I (a0.length : Int)), (8, I x1), (9, B (decide (x1 < (a0.length : Int))))] [] ?_
 refine pwp_seq ?_
 refine pc h (fun h => ?_) (fun h => ?_)
 refine pwp_skip ?_
 refine pwp_seq ?_
 refine pwp_block ?_
 refine pwp_seq ?_
 refine pwp_region ?_
 obtain ⟨v5, hv6, h⟩ := bindS h
 refine opsP_idx τ_ok 10 hv6 (by kernel_rfl) ?_
 refine ve 2 18 [(3, I 0), (5, I v5), (6, A a0), (7, I (a0.length : Int)), (8, I x1)] [] ?_
 refine srve 18 [(3, I 0), (5, I v5), (6, A a0), (7, I (a0.length : Int)), (8, I x1), (14, B (!(v5 == 0)))] [] ?_
 refine pc h (fun h => ?_) (fun h => ?_)
 refine srve 18 [(2, I v5)] [] ?_
 cases h
 exact pwp_ret rz
 refine pwp_skip ?_
 refine rve 18 [(3, I 0), (6, A a0), (7, I (a0.length : Int)), (8, I (w64 (x1 + 1)))] [] ?_
 exact ⟨(f2, (w64 (x1 + 1))), h, Nat.lt_succ_self _, it [3, 6, 7, 8]⟩
 refine pwp_exit ?_
 refine srve 18 [(2, I 0)] [] ?_
 cases h
 exact pwp_ret rz
def slices_CompareFunc_impl_Value_impl_Value_impl_Value_impl_Value_s2_l0 (a0 : List T_impl_Value) (a1 : List T_impl_Value) (a2 : T_impl_Value → T_impl_Value → Option Int) : Nat → Int → Option Int
 | 0, _ => none
 | f2 + 1, x1 => bif (decide (x1 < (a0.length : Int))) then (getI a0 x1).bind fun v5 => bif (decide (x1 ≥ (a1.length : Int))) then some 1 else (getI a1 x1).bind fun v8 => (a2 v5 v8).bind fun v10 => bif (!(v10 == 0)) then some v10 else (slices_CompareFunc_impl_Value_impl_Value_impl_Value_impl_Value_s2_l0 a0 a1 a2 f2) (w64 (x1 + 1)) else bif (decide ((a0.length : Int) < (a1.length : Int))) then some (-1) else some 0
def slices_CompareFunc_impl_Value_impl_Value_impl_Value_impl_Value_s2 (a0 : List T_impl_Value) (a1 : List T_impl_Value) (a2 : T_impl_Value → T_impl_Value → Option Int) : Option Int := slices_CompareFunc_impl_Value_impl_Value_impl_Value_impl_Value_s2_l0 a0 a1 a2 FUEL 0
theorem ok_slices_CompareFunc_impl_Value_impl_Value_impl_Value_impl_Value_s2 {a0 : List T_impl_Value} {a1 : List T_impl_Value} {g2 : FuncId} {c2 : List V} (hz2 : frzL c2 = true) {a2 : T_impl_Value → T_impl_Value → Option Int} (hp2 : ∀ x0 x1 y, a2 x0 x1 = some y → OK Try.prog g2 ([E x0, E x1] ++ c2) (I y)) {y : Int} (h : slices_CompareFunc_impl_Value_impl_Value_impl_Value_impl_Value_s2 a0 a1 a2 = some y) : OK Try.prog 151 [A a0, A a1, .fn g2 c2] (I y) := by
 refine ow Try.func151 fun Γ hX => ?_
 unfold slices_CompareFunc_impl_Value_impl_Value_impl_Value_impl_Value_s2 at h
 refine srveM [8, 9] 39 [(0, A a0), (1, A a1), (2, .fn g2 c2)] [] ?_
 refine pwp_seq ?_
 refine srveM [8, 9] 39 [(0, A a0), (1, A a1), (2, .fn g2 c2), (11, A a0), (12, I (a0.length : Int)), (13, I 0)] [] ?_
 refine pwp_block ?_
 refine pwp_loop (ι := Nat × Int) (fun (f2, x1) => (⟨39, [(0, A a0), (1, A a1), (2, .fn g2 c2), (11, A a0), (12, I (a0.length : Int)), (13, I x1)], []⟩ : St)) (fun (f2, x1) => slices_CompareFunc_impl_Value_impl_Value_impl_Value_impl_Value_s2_l0 a0 a1 a2 f2 x1 = some y) Prod.fst (FUEL, 0) h (it [0, 1, 2, 11, 12, 13]) ?_
 rintro ⟨f2, x1⟩ h
 dsimp only at h ⊢
 rcases f2 with _ | f2
 cases h
 rw [slices_CompareFunc_impl_Value_impl_Value_impl_Value_impl_Value_s2_l0] at h
 refine srveM [8, 9] 39 [(0, A a0), (1, A a1), (2, .fn g2 c2), (11, A a0), (12, I (a0.length : Int)), (13, I x1), (14, B (decide (x1 < (a0.length : Int))))] [] ?_
 refine pwp_seq ?_
 refine pc h (fun h => ?_) (fun h => ?_)
 refine pwp_skip ?_
 refine pwp_seq ?_
 refine pwp_block ?_
 refine srvM [8, 9] 1 39 [(0, A a0), (1, A a1), (2, .fn g2 c2), (11, A a0), (12, I (a0.length : Int)), (13, I x1), (15, I x1)] [] ?_
 obtain ⟨v5, hv6, h⟩ := bindS h
 refine opsP_idx τ_ok 16 hv6 (by kernel_rfl) ?_
 refine veM [8, 9] 4 39 [(0, A a0), (1, A a1), (2, .fn g2 c2), (7, I x1), (8, .ptr 0 0 0), (11, A a0), (12, I (a0.length : Int)), (13, I x1)] [sc 0 v5] ?_
 refine pwp_seq ?_
 refine srveM [8, 9] 39 [(0, A a0), (1, A a1), (2, .fn g2 c2), (7, I x1), (8, .ptr 0 0 0), (11, A a0), (12, I (a0.length : Int)), (13, I x1), (21, B (decide (x1 ≥ (a1.length : Int))))] [sc 0 v5] ?_
 refine pc h (fun h => ?_) (fun h => ?_)
 refine srveM [8, 9] 39 [(6, I 1)] [sc 0 v5] ?_
 cases h
 exact pwp_ret rz
 refine pwp_skip ?_
 refine srvM [8, 9] 2 39 [(0, A a0), (1, A a1), (2, .fn g2 c2), (8, .ptr 0 0 0), (11, A a0), (12, I (a0.length : Int)), (13, I x1), (22, A a1), (23, I x1)] [sc 0 v5] ?_
 obtain ⟨v8, hv9, h⟩ := bindS h
 refine opsP_idx τ_ok 24 hv9 (by kernel_rfl) ?_
 refine veM [8, 9] 3 39 [(0, A a0), (1, A a1), (2, .fn g2 c2), (8, .ptr 0 0 0), (9, .ptr 1 0 0), (11, A a0), (12, I (a0.length : Int)), (13, I x1)] [sc 0 v5, sc 0 v8] ?_
 refine srvM [8, 9] 3 39 [(0, A a0), (1, A a1), (2, .fn g2 c2), (11, A a0), (12, I (a0.length : Int)), (13, I x1), (26, .fn g2 c2), (27, E v5), (28, E v8)] [sc 0 v5, sc 0 v8] ?_
 obtain ⟨v10, hv11, h⟩ := bindS h
 refine opsP_callF τ 29 (hp2 _ _ _ hv11) (FzTo.frz rfl) (frz_app (xs := [E v5, E v8]) rfl hz2) (by kernel_rfl) ?_
 refine veM [8, 9] 1 39 [(0, A a0), (1, A a1), (2, .fn g2 c2), (10, I v10), (11, A a0), (12, I (a0.length : Int)), (13, I x1)] [sc 0 v5, sc 0 v8] ?_
 refine srveM [8, 9] 39 [(0, A a0), (1, A a1), (2, .fn g2 c2), (10, I v10), (11, A a0), (12, I (a0.length : Int)), (13, I x1), (31, B (!(v10 == 0)))] [sc 0 v5, sc 0 v8] ?_
 refine pc h (fun h => ?_) (fun h => ?_)
 refine srveM [8, 9] 39 [(6, I v10)] [sc 0 v5, sc 0 v8] ?_
 cases h
 exact pwp_ret rz
 refine pwp_skip ?_
 refine rveM [8, 9] 39 [(0, A a0), (1, A a1), (2, .fn g2 c2), (11, A a0), (12, I (a0.length : Int)), (13, I (w64 (x1 + 1)))] [sc 0 v5, sc 0 v8] ?_
 exact ⟨(f2, (w64 (x1 + 1))), h, Nat.lt_succ_self _, (it (st' := ⟨39, [(0, A a0), (1, A a1), (2, .fn g2 c2), (11, A a0), (12, I (a0.length : Int)), (13, I (w64 (x1 + 1)))], [sc 0 v5, sc 0 v8]⟩) [0, 1, 2, 11, 12, 13]).trans (Imp.truncS 0 (nx hX) (by kernel_rfl) (allBelow_mem (by exact (And.intro rfl (And.intro rfl (And.intro (below_frz (show frz (.fn g2 c2) = true from hz2)) (And.intro rfl (And.intro rfl (And.intro rfl trivial)))))))) (by exact trivial) (by kernel_rfl))⟩
 refine pwp_exit ?_
 refine pwp_seq ?_
 refine srveM [8, 9] 39 [(38, B (decide ((a0.length : Int) < (a1.length : Int))))] [] ?_
 refine pc h (fun h => ?_) (fun h => ?_)
 refine srveM [8, 9] 39 [(6, I (-1))] [] ?_
 cases h
 exact pwp_ret rz
 refine pwp_skip ?_
 refine srveM [8, 9] 39 [(6, I 0)] [] ?_
 cases h
 exact pwp_ret rz
def spec_l1Text_j1 (x1 : Int) (K3 : Int → Option Bool) (x5 : Bool) : Option Bool := bif x5 then some false else K3 (w64 (x1 + 1))
def spec_l1Text_l0 (a0 : ByteArray) : Nat → Int → Option Bool
 | 0, _ => none
 | f2 + 1, x1 => bif (decide (x1 < (a0.size : Int))) then (getB a0 x1).bind fun v7 => bif (decide ((v7.toNat : Int) < 97)) then spec_l1Text_j1 x1 (spec_l1Text_l0 a0 f2) true else (getB a0 x1).bind fun v9 => spec_l1Text_j1 x1 (spec_l1Text_l0 a0 f2) (decide ((v9.toNat : Int) > 122)) else some (decide ((a0.size : Int) ≤ 6))
def spec_l1Text (a0 : ByteArray) : Option Bool := spec_l1Text_l0 a0 FUEL 0
theorem ok_spec_l1Text {a0 : ByteArray} {y : Bool} (h : spec_l1Text a0 = some y) : OK Try.prog 154 [S a0] (B y) := by
 refine ow Try.func154 fun Γ hX => ?_
 unfold spec_l1Text at h
 refine srve 23 [(0, S a0)] [] ?_
 refine pwp_seq ?_
 refine srve 23 [(0, S a0), (3, I 0)] [] ?_
 refine pwp_block ?_
 refine pwp_loop (ι := Nat × Int) (fun (f2, x1) => (⟨23, [(0, S a0), (3, I x1)], []⟩ : St)) (fun (f2, x1) => spec_l1Text_l0 a0 f2 x1 = some y) Prod.fst (FUEL, 0) h (it [0, 3]) ?_
 rintro ⟨f2, x1⟩ h
 dsimp only at h ⊢
 rcases f2 with _ | f2
 cases h
 rw [spec_l1Text_l0] at h
 refine pwp_seq ?_
 refine srve 23 [(0, S a0), (3, I x1), (7, B (decide (x1 < (a0.size : Int))))] [] ?_
 refine pc h (fun h => ?_) (fun h => ?_)
 refine pwp_skip ?_
 refine pwp_seq ?_
 refine pwp_block ?_
 refine pwp_seq ?_
 refine pwp_join (σ := Bool) (fun x5 => (⟨23, [(0, S a0), (3, I x1), (19, B x5)], []⟩ : St)) (fun x5 => spec_l1Text_j1 x1 (spec_l1Text_l0 a0 f2) x5 = some y) ?_ ?_
 refine rv 2 23 [(0, S a0), (3, I x1), (10, S a0), (11, I x1)] [] ?_
 obtain ⟨v7, hv8, h⟩ := bindS h
 refine opsP_byt τ_ok 12 hv8 (by kernel_rfl) ?_
 refine v 2 23 [(0, S a0), (3, I x1), (14, B (decide ((v7.toNat : Int) < 97)))] [] ?_
 rcases fk (decide ((v7.toNat : Int) < 97)) with hc11 | hc11
 replace h := bT hc11 h
 rw [hc11]
 refine ve 5 23 [(0, S a0), (3, I x1), (15, .lit undef), (16, .lit undef), (17, .lit undef), (18, .lit undef), (19, B true)] [] ?_
 exact ⟨true, h, it [0, 3, 19]⟩
 replace h := bF hc11 h
 rw [hc11]
 refine v 2 23 [(0, S a0), (3, I x1), (14, B false), (15, S a0), (16, I x1)] [] ?_
 obtain ⟨v9, hv10, h⟩ := bindS h
 refine opsP_byt τ_ok 17 hv10 (by kernel_rfl) ?_
 refine ve 2 23 [(0, S a0), (3, I x1), (15, S a0), (16, I x1), (17, .lit (.int .u8 (v9).toNat)), (18, B (decide ((v9.toNat : Int) > 122))), (19, B (decide ((v9.toNat : Int) > 122)))] [] ?_
 exact ⟨(decide ((v9.toNat : Int) > 122)), h, it [0, 3, 19]⟩
 rintro x5 h
 unfold spec_l1Text_j1 at h
 refine pc h (fun h => ?_) (fun h => ?_)
 refine srve 23 [(2, B false)] [] ?_
 cases h
 exact pwp_ret rz
 refine pwp_skip ?_
 refine rve 23 [(0, S a0), (3, I (w64 (x1 + 1)))] [] ?_
 exact ⟨(f2, (w64 (x1 + 1))), h, Nat.lt_succ_self _, it [0, 3]⟩
 refine pwp_exit ?_
 refine srve 23 [(2, B (decide ((a0.size : Int) ≤ 6)))] [] ?_
 cases h
 exact pwp_ret rz
def slices_IndexFunc_impl_Value_impl_Value_l0 (a0 : List T_impl_Value) (a1 : T_impl_Value → Option Bool) : Nat → Int → Option Int
 | 0, _ => none
 | f2 + 1, x1 => bif (decide (x1 < (a0.length : Int))) then (getI a0 x1).bind fun v5 => (a1 v5).bind fun v7 => bif v7 then some x1 else (slices_IndexFunc_impl_Value_impl_Value_l0 a0 a1 f2) (w64 (x1 + 1)) else some (-1)
def slices_IndexFunc_impl_Value_impl_Value (a0 : List T_impl_Value) (a1 : T_impl_Value → Option Bool) : Option Int := slices_IndexFunc_impl_Value_impl_Value_l0 a0 a1 FUEL 0
theorem ok_slices_IndexFunc_impl_Value_impl_Value {a0 : List T_impl_Value} {g1 : FuncId} {c1 : List V} (hz1 : frzL c1 = true) {a1 : T_impl_Value → Option Bool} (hp1 : ∀ x0 y, a1 x0 = some y → OK Try.prog g1 ([E x0] ++ c1) (B y)) {y : Int} (h : slices_IndexFunc_impl_Value_impl_Value a0 a1 = some y) : OK Try.prog 155 [A a0, .fn g1 c1] (I y) := by
 refine ow Try.func155 fun Γ hX => ?_
 unfold slices_IndexFunc_impl_Value_impl_Value at h
 refine srve 19 [(0, A a0), (1, .fn g1 c1)] [] ?_
 refine pwp_seq ?_
 refine srve 19 [(0, A a0), (1, .fn g1 c1), (7, I (a0.length : Int)), (8, I 0)] [] ?_
 refine pwp_block ?_
 refine pwp_loop (ι := Nat × Int) (fun (f2, x1) => (⟨19, [(0, A a0), (1, .fn g1 c1), (7, I (a0.length : Int)), (8, I x1)], []⟩ : St)) (fun (f2, x1) => slices_IndexFunc_impl_Value_impl_Value_l0 a0 a1 f2 x1 = some y) Prod.fst (FUEL, 0) h (it [0, 1, 7, 8]) ?_
 rintro ⟨f2, x1⟩ h
 dsimp only at h ⊢
 rcases f2 with _ | f2
 cases h
 rw [slices_IndexFunc_impl_Value_impl_Value_l0] at h
 refine srve 19 [(0, A a0), (1, .fn g1 c1), (7, I (a0.length : Int)), (8, I x1), (9, B (decide (x1 < (a0.length : Int))))] [] ?_
 refine pwp_seq ?_
 refine pc h (fun h => ?_) (fun h => ?_)
 refine pwp_skip ?_
 refine pwp_seq ?_
 refine pwp_block ?_
 refine srve 19 [(0, A a0), (1, .fn g1 c1), (5, I x1), (7, I (a0.length : Int)), (8, I x1)] [] ?_
 refine srv 3 19 [(0, A a0), (1, .fn g1 c1), (5, I x1), (7, I (a0.length : Int)), (8, I x1), (11, .fn g1 c1), (12, A a0), (13, I x1)] [] ?_
 obtain ⟨v5, hv6, h⟩ := bindS h
 refine opsP_idx τ_ok 14 hv6 (by kernel_rfl) ?_
 refine v 1 19 [(0, A a0), (1, .fn g1 c1), (5, I x1), (7, I (a0.length : Int)), (8, I x1), (11, .fn g1 c1), (15, E v5)] [] ?_
 obtain ⟨v7, hv8, h⟩ := bindS h
 refine opsP_callF τ 16 (hp1 _ _ hv8) (FzTo.frz rfl) (frz_app (xs := [E v5]) rfl hz1) (by kernel_rfl) ?_
 refine ve 0 19 [(0, A a0), (1, .fn g1 c1), (5, I x1), (7, I (a0.length : Int)), (8, I x1), (16, B v7)] [] ?_
 refine pc h (fun h => ?_) (fun h => ?_)
 refine srve 19 [(4, I x1)] [] ?_
 cases h
 exact pwp_ret rz
 refine pwp_skip ?_
 refine rve 19 [(0, A a0), (1, .fn g1 c1), (7, I (a0.length : Int)), (8, I (w64 (x1 + 1)))] [] ?_
 exact ⟨(f2, (w64 (x1 + 1))), h, Nat.lt_succ_self _, it [0, 1, 7, 8]⟩
 refine pwp_exit ?_
 refine srve 19 [(4, I (-1))] [] ?_
 cases h
 exact pwp_ret rz
def impl_letters_l0 (v1 : List UInt8) : Nat → Int → Option Bool
 | 0, _ => none
 | f4 + 1, x3 => bif (decide (x3 < (v1.length : Int))) then (getI v1 x3).bind fun v7 => (impl_between (w64 (v7.toNat : Int)) 97 122).bind fun v9 => bif (!v9) then some false else (impl_letters_l0 v1 f4) (w64 (x3 + 1)) else some true
def impl_letters (a0 : ByteArray) : Option Bool := (bytesOf a0).bind fun v1 => impl_letters_l0 v1 FUEL 0
theorem ok_impl_letters {a0 : ByteArray} {y : Bool} (h : impl_letters a0 = some y) : OK Try.prog 156 [S a0] (B y) := by
 refine ow Try.func156 fun Γ hX => ?_
 unfold impl_letters at h
 refine srve 17 [(0, S a0)] [] ?_
 refine pwp_seq ?_
 refine srv 1 17 [(5, S a0)] [] ?_
 obtain ⟨v1, hv2, h⟩ := bindS h
 refine opsP_cvb τ_ok 6 hv2 (by kernel_rfl) ?_
 refine ve 2 17 [(6, A v1), (7, I (v1.length : Int)), (8, I 0)] [] ?_
 refine pwp_block ?_
 refine pwp_loop (ι := Nat × Int) (fun (f4, x3) => (⟨17, [(6, A v1), (7, I (v1.length : Int)), (8, I x3)], []⟩ : St)) (fun (f4, x3) => impl_letters_l0 v1 f4 x3 = some y) Prod.fst (FUEL, 0) h (it [6, 7, 8]) ?_
 rintro ⟨f4, x3⟩ h
 dsimp only at h ⊢
 rcases f4 with _ | f4
 cases h
 rw [impl_letters_l0] at h
 refine srve 17 [(6, A v1), (7, I (v1.length : Int)), (8, I x3), (9, B (decide (x3 < (v1.length : Int))))] [] ?_
 refine pwp_seq ?_
 refine pc h (fun h => ?_) (fun h => ?_)
 refine pwp_skip ?_
 refine pwp_seq ?_
 refine pwp_block ?_
 refine pwp_seq ?_
 refine pwp_region ?_
 obtain ⟨v7, hv8, h⟩ := bindS h
 refine opsP_idx τ_ok 10 hv8 (by kernel_rfl) ?_
 refine ve 2 17 [(4, .lit (.int .u8 (v7).toNat)), (6, A v1), (7, I (v1.length : Int)), (8, I x3)] [] ?_
 refine srv 2 17 [(6, A v1), (7, I (v1.length : Int)), (8, I x3), (13, I (w64 (v7.toNat : Int)))] [] ?_
 obtain ⟨v9, hv10, h⟩ := bindS h
 refine cF 14 (ok_impl_between hv10) ?_
 refine ve 1 17 [(6, A v1), (7, I (v1.length : Int)), (8, I x3), (15, B (!v9))] [] ?_
 refine pc h (fun h => ?_) (fun h => ?_)
 refine srve 17 [(2, B false)] [] ?_
 cases h
 exact pwp_ret rz
 refine pwp_skip ?_
 refine rve 17 [(6, A v1), (7, I (v1.length : Int)), (8, I (w64 (x3 + 1)))] [] ?_
 exact ⟨(f4, (w64 (x3 + 1))), h, Nat.lt_succ_self _, it [6, 7, 8]⟩
 refine pwp_exit ?_
 refine srve 17 [(2, B true)] [] ?_
 cases h
 exact pwp_ret rz
def slices_Clip_impl_Value_impl_Value (a0 : List T_impl_Value) : Option (List T_impl_Value) := (slI a0 none (some (a0.length : Int)) (some (a0.length : Int))).bind fun v1 => some v1
theorem ok_slices_Clip_impl_Value_impl_Value {a0 : List T_impl_Value} {y : List T_impl_Value} (h : slices_Clip_impl_Value_impl_Value a0 = some y) : OK Try.prog 158 [A a0] (A y) := by
 refine ow Try.func158 fun Γ hX => ?_
 unfold slices_Clip_impl_Value_impl_Value at h
 refine srve 9 [(0, A a0)] [] ?_
 refine srv 5 9 [(3, A a0), (5, I (a0.length : Int)), (7, I (a0.length : Int))] [] ?_
 obtain ⟨v1, hv2, h⟩ := bindS h
 refine opsP_slc τ_ok 8 hv2 (by kernel_rfl) ?_
 refine ve 1 9 [(2, A v1)] [] ?_
 cases h
 exact pwp_ret rz
def spec_l20Small (a0 : T_spec_l20Rd) : Option ((List T_impl_Value) × T_spec_l20Rd) := (spec_l20Rd_pick a0 4).bind fun v1 => some (([(T_impl_Value.mk 1 v1.1 (ByteArray.mk #[]))] : List T_impl_Value), v1.2)
theorem ok_spec_l20Small {a0 : T_spec_l20Rd} {y : (List T_impl_Value) × T_spec_l20Rd} (h : spec_l20Small a0 = some y) : OKb Try.prog 169 (Enc.cells a0) [] (A y.1) (Enc.cells y.2) := by
 refine OKb_of_pwp τ_ok Try.func169 rfl (by kernel_rfl) rfl (Enc.frz _) (Enc.frz _) fun Γ hQ => ?_
 unfold spec_l20Small at h
 refine srve 7 [(0, .ptr 0 0 0)] [sc 0 a0] ?_
 refine srv 1 7 [(3, .ptr 0 0 0)] [sc 0 a0] ?_
 obtain ⟨v1, hv2, h⟩ := bindS h
 refine cB 4 0 0 (ok_spec_l20Rd_pick hv2) ?_
 refine ve 3 7 [(2, .arr 3 ([(T_impl_Value.mk 1 v1.1 (ByteArray.mk #[]))] : List T_impl_Value).length (eL ([(T_impl_Value.mk 1 v1.1 (ByteArray.mk #[]))] : List T_impl_Value)) true)] [sc 0 v1.2] ?_
 refine ip 7 [(2, .arr 3 ([(T_impl_Value.mk 1 v1.1 (ByteArray.mk #[]))] : List T_impl_Value).length (eL ([(T_impl_Value.mk 1 v1.1 (ByteArray.mk #[]))] : List T_impl_Value)) true)] [sc 0 v1.2] ?_
 refine pwp_imp (Imp.unfS (st' := ⟨7, [(2, A ([(T_impl_Value.mk 1 v1.1 (ByteArray.mk #[]))] : List T_impl_Value))], [sc 0 v1.2]⟩) 2 [2] (by kernel_rfl)) ?_
 have h := si h
 subst h
 exact pwp_ret ⟨.inr rfl, A ([(T_impl_Value.mk 1 v1.1 (ByteArray.mk #[]))] : List T_impl_Value), _, 0, by kernel_rfl, (OutP.frz (by kernel_rfl)), by decide, by decide, by kernel_rfl⟩
def spec_l20Like_j0 (a1 : T_impl_Column) (x1 : Bool) (x2 : T_spec_l20Rd) : Option (T_impl_Value × T_spec_l20Rd) := bif x1 then some ((T_impl_Value.mk 0 0 (ByteArray.mk #[])), x2) else bif (a1.fKind == 1) then (spec_l20Rd_pick x2 4).bind fun v5 => some ((T_impl_Value.mk 1 v5.1 (ByteArray.mk #[])), v5.2) else bif (a1.fKind == 2) then (spec_l20Rd_pick x2 4).bind fun v8 => (getI ([(ByteArray.mk #[]), (ByteArray.mk #[97]), (ByteArray.mk #[98]), (ByteArray.mk #[97, 98])] : List ByteArray) v8.1).bind fun v10 => some ((T_impl_Value.mk 2 0 v10), v8.2) else (spec_l20Rd_pick x2 2).bind fun v12 => some ((T_impl_Value.mk 3 v12.1 (ByteArray.mk #[])), v12.2)
def spec_l20Like (a0 : T_spec_l20Rd) (a1 : T_impl_Column) : Option (T_impl_Value × T_spec_l20Rd) := bif a1.fEmpty then (spec_l20Rd_pick a0 5).bind fun v14 => spec_l20Like_j0 a1 (v14.1 == 0) v14.2 else spec_l20Like_j0 a1 false a0
theorem ok_spec_l20Like {a0 : T_spec_l20Rd} {a1 : T_impl_Column} {y : T_impl_Value × T_spec_l20Rd} (h : spec_l20Like a0 a1 = some y) : OKb Try.prog 185 (Enc.cells a0) [E a1] (E y.1) (Enc.cells y.2) := by
 refine OKb_of_pwp τ_ok Try.func185 rfl (by kernel_rfl) rfl (Enc.frz _) (Enc.frz _) fun Γ hQ => ?_
 unfold spec_l20Like at h
 refine srveM [4] 31 [(0, .ptr 0 0 0), (3, pf a1 0), (4, .ptr 1 0 0)] [sc 0 a0, some ⟨0, Enc.cells (T_impl_Value.mk 0 0 (ByteArray.mk #[]))⟩] ?_
 refine pwp_seq ?_
 refine pwp_seq ?_
 refine pwp_join (σ := Bool × T_spec_l20Rd) (fun (x1, x2) => (⟨31, [(0, .ptr 0 0 0), (3, pf a1 0), (4, .ptr 1 0 0), (11, B x1)], [sc 0 x2, some ⟨0, Enc.cells (T_impl_Value.mk 0 0 (ByteArray.mk #[]))⟩]⟩ : St)) (fun (x1, x2) => spec_l20Like_j0 a1 x1 x2 = some y) ?_ ?_
 refine rvM [4] 3 31 [(0, .ptr 0 0 0), (3, pf a1 0), (4, .ptr 1 0 0), (7, B a1.fEmpty)] [sc 0 a0, some ⟨0, Enc.cells (T_impl_Value.mk 0 0 (ByteArray.mk #[]))⟩] ?_
 rcases Bool.eq_false_or_eq_true a1.fEmpty with hc16 | hc16
 replace h := bT hc16 h
 rw [hc16]
 refine vM [4] 1 31 [(0, .ptr 0 0 0), (3, pf a1 0), (4, .ptr 1 0 0), (7, B true), (8, .ptr 0 0 0)] [sc 0 a0, some ⟨0, Enc.cells (T_impl_Value.mk 0 0 (ByteArray.mk #[]))⟩] ?_
 obtain ⟨v14, hv15, h⟩ := bindS h
 refine cB 9 0 0 (ok_spec_l20Rd_pick hv15) ?_
 refine veM [4] 2 31 [(0, .ptr 0 0 0), (3, pf a1 0), (4, .ptr 1 0 0), (11, B (v14.1 == 0))] [sc 0 v14.2, some ⟨0, Enc.cells (T_impl_Value.mk 0 0 (ByteArray.mk #[]))⟩] ?_
 exact ⟨((v14.1 == 0), v14.2), h, it [0, 3, 4, 11]⟩
 replace h := bF hc16 h
 rw [hc16]
 refine veM [4] 4 31 [(0, .ptr 0 0 0), (3, pf a1 0), (4, .ptr 1 0 0), (11, B false)] [sc 0 a0, some ⟨0, Enc.cells (T_impl_Value.mk 0 0 (ByteArray.mk #[]))⟩] ?_
 exact ⟨(false, a0), h, it [0, 3, 4, 11]⟩
 rintro ⟨x1, x2⟩ h
 dsimp only at h ⊢
 unfold spec_l20Like_j0 at h
 refine pc h (fun h => ?_) (fun h => ?_)
 refine srveM [4] 31 [(4, .ptr 1 0 0)] [sc 0 x2, some ⟨0, Enc.cells (T_impl_Value.mk 0 0 (ByteArray.mk #[]))⟩] ?_
 have h := si h
 subst h
 exact pwp_ret ⟨.inr rfl, E (T_impl_Value.mk 0 0 (ByteArray.mk #[])), _, 0, by kernel_rfl, (OutP.frz (by kernel_rfl)), by decide, by decide, by kernel_rfl⟩
 refine pwp_skip ?_
 refine pwp_seq ?_
 refine srveM [4] 31 [(0, .ptr 0 0 0), (4, .ptr 1 0 0), (14, I a1.fKind)] [sc 0 x2, some ⟨0, Enc.cells (T_impl_Value.mk 0 0 (ByteArray.mk #[]))⟩] ?_
 refine pwp_block ?_
 refine srveM [4] 31 [(0, .ptr 0 0 0), (4, .ptr 1 0 0), (14, I a1.fKind), (15, B (a1.fKind == 1))] [sc 0 x2, some ⟨0, Enc.cells (T_impl_Value.mk 0 0 (ByteArray.mk #[]))⟩] ?_
 refine pc h (fun h => ?_) (fun h => ?_)
 refine srvM [4] 1 31 [(4, .ptr 1 0 0), (17, .ptr 0 0 0)] [sc 0 x2, some ⟨0, Enc.cells (T_impl_Value.mk 0 0 (ByteArray.mk #[]))⟩] ?_
 obtain ⟨v5, hv6, h⟩ := bindS h
 refine cB 18 0 0 (ok_spec_l20Rd_pick hv6) ?_
 refine veM [4] 2 31 [(4, .ptr 1 0 0)] [sc 0 v5.2, some ⟨0, Enc.cells (T_impl_Value.mk 1 v5.1 (ByteArray.mk #[]))⟩] ?_
 have h := si h
 subst h
 exact pwp_ret ⟨.inr rfl, E (T_impl_Value.mk 1 v5.1 (ByteArray.mk #[])), _, 0, by kernel_rfl, (OutP.frz (by kernel_rfl)), by decide, by decide, by kernel_rfl⟩
 refine srveM [4] 31 [(0, .ptr 0 0 0), (4, .ptr 1 0 0), (20, B (a1.fKind == 2))] [sc 0 x2, some ⟨0, Enc.cells (T_impl_Value.mk 0 0 (ByteArray.mk #[]))⟩] ?_
 refine pc h (fun h => ?_) (fun h => ?_)
 refine srvM [4] 2 31 [(4, .ptr 1 0 0), (22, .arr 1 ([(ByteArray.mk #[]), (ByteArray.mk #[97]), (ByteArray.mk #[98]), (ByteArray.mk #[97, 98])] : List ByteArray).length (eL ([(ByteArray.mk #[]), (ByteArray.mk #[97]), (ByteArray.mk #[98]), (ByteArray.mk #[97, 98])] : List ByteArray)) true), (23, .ptr 0 0 0)] [sc 0 x2, some ⟨0, Enc.cells (T_impl_Value.mk 0 0 (ByteArray.mk #[]))⟩] ?_
 obtain ⟨v8, hv9, h⟩ := bindS h
 refine cB 24 0 0 (ok_spec_l20Rd_pick hv9) ?_
 obtain ⟨v10, hv11, h⟩ := bindS h
 refine opsP_idx τ_ok 25 hv11 (by kernel_rfl) ?_
 refine veM [4] 3 31 [(4, .ptr 1 0 0)] [sc 0 v8.2, some ⟨0, Enc.cells (T_impl_Value.mk 2 0 v10)⟩] ?_
 have h := si h
 subst h
 exact pwp_ret ⟨.inr rfl, E (T_impl_Value.mk 2 0 v10), _, 0, by kernel_rfl, (OutP.frz (by kernel_rfl)), by decide, by decide, by kernel_rfl⟩
 refine pwp_skip ?_
 refine srvM [4] 1 31 [(4, .ptr 1 0 0), (28, .ptr 0 0 0)] [sc 0 x2, some ⟨0, Enc.cells (T_impl_Value.mk 0 0 (ByteArray.mk #[]))⟩] ?_
 obtain ⟨v12, hv13, h⟩ := bindS h
 refine cB 29 0 0 (ok_spec_l20Rd_pick hv13) ?_
 refine veM [4] 2 31 [(4, .ptr 1 0 0)] [sc 0 v12.2, some ⟨0, Enc.cells (T_impl_Value.mk 3 v12.1 (ByteArray.mk #[]))⟩] ?_
 have h := si h
 subst h
 exact pwp_ret ⟨.inr rfl, E (T_impl_Value.mk 3 v12.1 (ByteArray.mk #[])), _, 0, by kernel_rfl, (OutP.frz (by kernel_rfl)), by decide, by decide, by kernel_rfl⟩
def spec_l20Value_j1 (x3 : T_spec_l20Rd) (x4 : T_impl_Value) : Option (T_impl_Value × T_spec_l20Rd) := some (x4, x3)
def spec_l20Value_j0 (a1 : Int) (x1 : T_spec_l20Rd) (x2 : T_impl_Value) : Option (T_impl_Value × T_spec_l20Rd) := (spec_l20Rd_odd x1 a1).bind fun v5 => bif v5.1 then (spec_l20Rd_pick v5.2 4).bind fun v8 => bif (v8.1 == 0) then spec_l20Value_j1 v8.2 ({ x2 with fN := 10000 }) else bif (v8.1 == 1) then (addS x2.fS (ByteArray.mk #[97, 98, 99, 100, 101, 102, 103])).bind fun v12 => spec_l20Value_j1 v8.2 ({ x2 with fS := v12 }) else bif (v8.1 == 2) then (spec_l20Rd_pick v8.2 7).bind fun v15 => spec_l20Value_j1 v15.2 ({ x2 with fKind := (w64 (v15.1 - 1)) }) else (addS x2.fS (ByteArray.mk #[65])).bind fun v17 => spec_l20Value_j1 v8.2 ({ x2 with fS := v17 }) else spec_l20Value_j1 v5.2 x2
def spec_l20Value_l4 (a1 : Int) : Nat → Int → T_spec_l20Rd → T_impl_Value → Option (T_impl_Value × T_spec_l20Rd)
 | 0, _, _, _ => none
 | f43 + 1, x40, x41, x42 => bif (decide (x40 > 0)) then (spec_l20Rd_pick x41 3).bind fun v46 => (addS x42.fS (ByteArray.mk (List.toArray ([(u8 (w64 (97 + v46.1)))] : List UInt8)))).bind fun v48 => (spec_l20Value_l4 a1 f43) (w64 (x40 - 1)) v46.2 ({ x42 with fS := v48 }) else spec_l20Value_j0 a1 x41 x42
def spec_l20Value_j3 (a1 : Int) (v19 : Int × T_spec_l20Rd) (x33 : Bool) : Option (T_impl_Value × T_spec_l20Rd) := bif x33 then (spec_l20Rd_pick v19.2 4).bind fun v35 => spec_l20Value_l4 a1 FUEL v35.1 v35.2 (T_impl_Value.mk 2 0 (ByteArray.mk #[])) else (spec_l20Rd_pick v19.2 2).bind fun v50 => spec_l20Value_j0 a1 v50.2 (T_impl_Value.mk 3 v50.1 (ByteArray.mk #[]))
def spec_l20Value_j2 (a1 : Int) (v19 : Int × T_spec_l20Rd) (x22 : Bool) : Option (T_impl_Value × T_spec_l20Rd) := bif x22 then (spec_l20Rd_pick v19.2 7).bind fun v24 => (spec_l20Rd_pick v24.2 8).bind fun v26 => bif (v26.1 == 0) then (spec_l20Rd_pick v26.2 5).bind fun v29 => (getI ([9999, -9999, 255, 256, -256] : List Int) v29.1).bind fun v31 => spec_l20Value_j0 a1 v29.2 (T_impl_Value.mk 1 v31 (ByteArray.mk #[])) else spec_l20Value_j0 a1 v26.2 (T_impl_Value.mk 1 (w64 (v24.1 - 3)) (ByteArray.mk #[])) else bif (v19.1 == 4) then spec_l20Value_j3 a1 v19 (v19.1 == 4) else spec_l20Value_j3 a1 v19 (v19.1 == 5)
def spec_l20Value (a0 : T_spec_l20Rd) (a1 : Int) : Option (T_impl_Value × T_spec_l20Rd) := (spec_l20Rd_pick a0 7).bind fun v19 => bif (v19.1 == 0) then spec_l20Value_j0 a1 v19.2 (T_impl_Value.mk 0 0 (ByteArray.mk #[])) else bif (v19.1 == 1) then spec_l20Value_j2 a1 v19 (v19.1 == 1) else bif (v19.1 == 2) then spec_l20Value_j2 a1 v19 (v19.1 == 2) else spec_l20Value_j2 a1 v19 (v19.1 == 3)
theorem ok_spec_l20Value {a0 : T_spec_l20Rd} {a1 : Int} {y : T_impl_Value × T_spec_l20Rd} (h : spec_l20Value a0 a1 = some y) : OKb Try.prog 186 (Enc.cells a0) [I a1] (E y.1) (Enc.cells y.2) := by
 refine OKb_of_pwp τ_ok Try.func186 rfl (by kernel_rfl) rfl (Enc.frz _) (Enc.frz _) fun Γ hQ => ?_
 unfold spec_l20Value at h
 refine srveM [4, 5] 77 [(0, .ptr 0 0 0), (1, I a1), (4, .ptr 1 0 0)] [sc 0 a0, some ⟨0, Enc.cells (T_impl_Value.mk 0 0 (ByteArray.mk #[]))⟩] ?_
 refine srveM [4, 5] 77 [(0, .ptr 0 0 0), (1, I a1), (4, .ptr 1 0 0), (5, .ptr 2 0 0)] [sc 0 a0, some ⟨0, Enc.cells (T_impl_Value.mk 0 0 (ByteArray.mk #[]))⟩, some ⟨0, Enc.cells (T_impl_Value.mk 0 0 (ByteArray.mk #[]))⟩] ?_
 refine pwp_seq ?_
 refine pwp_join (σ := T_spec_l20Rd × T_impl_Value) (fun (x1, x2) => (⟨77, [(0, .ptr 0 0 0), (1, I a1), (4, .ptr 1 0 0), (5, .ptr 2 0 0)], [sc 0 x1, some ⟨0, Enc.cells (T_impl_Value.mk 0 0 (ByteArray.mk #[]))⟩, sc 0 x2]⟩ : St)) (fun (x1, x2) => spec_l20Value_j0 a1 x1 x2 = some y) ?_ ?_
 refine srvM [4, 5] 1 77 [(0, .ptr 0 0 0), (1, I a1), (4, .ptr 1 0 0), (5, .ptr 2 0 0), (8, .ptr 0 0 0)] [sc 0 a0, some ⟨0, Enc.cells (T_impl_Value.mk 0 0 (ByteArray.mk #[]))⟩, some ⟨0, Enc.cells (T_impl_Value.mk 0 0 (ByteArray.mk #[]))⟩] ?_
 obtain ⟨v19, hv20, h⟩ := bindS h
 refine cB 9 0 0 (ok_spec_l20Rd_pick hv20) ?_
 refine veM [4, 5] 0 77 [(0, .ptr 0 0 0), (1, I a1), (4, .ptr 1 0 0), (5, .ptr 2 0 0), (9, I v19.1)] [sc 0 v19.2, some ⟨0, Enc.cells (T_impl_Value.mk 0 0 (ByteArray.mk #[]))⟩, some ⟨0, Enc.cells (T_impl_Value.mk 0 0 (ByteArray.mk #[]))⟩] ?_
 refine pwp_block ?_
 refine srveM [4, 5] 77 [(0, .ptr 0 0 0), (1, I a1), (4, .ptr 1 0 0), (5, .ptr 2 0 0), (9, I v19.1), (13, B (v19.1 == 0))] [sc 0 v19.2, some ⟨0, Enc.cells (T_impl_Value.mk 0 0 (ByteArray.mk #[]))⟩, some ⟨0, Enc.cells (T_impl_Value.mk 0 0 (ByteArray.mk #[]))⟩] ?_
 refine pc h (fun h => ?_) (fun h => ?_)
 refine pwp_skip ?_
 exact ⟨(v19.2, (T_impl_Value.mk 0 0 (ByteArray.mk #[]))), h, it [0, 1, 4, 5]⟩
 refine pwp_seq ?_
 refine pwp_join (σ := Bool) (fun x22 => (⟨77, [(0, .ptr 0 0 0), (1, I a1), (4, .ptr 1 0 0), (5, .ptr 2 0 0), (9, I v19.1), (15, B x22)], [sc 0 v19.2, some ⟨0, Enc.cells (T_impl_Value.mk 0 0 (ByteArray.mk #[]))⟩, some ⟨0, Enc.cells (T_impl_Value.mk 0 0 (ByteArray.mk #[]))⟩]⟩ : St)) (fun x22 => spec_l20Value_j2 a1 v19 x22 = some y) ?_ ?_
 refine srveM [4, 5] 77 [(0, .ptr 0 0 0), (1, I a1), (4, .ptr 1 0 0), (5, .ptr 2 0 0), (9, I v19.1), (15, B (v19.1 == 1))] [sc 0 v19.2, some ⟨0, Enc.cells (T_impl_Value.mk 0 0 (ByteArray.mk #[]))⟩, some ⟨0, Enc.cells (T_impl_Value.mk 0 0 (ByteArray.mk #[]))⟩] ?_
 refine pc h (fun h => ?_) (fun h => ?_)
 refine pwp_skip ?_
 exact ⟨(v19.1 == 1), h, it [0, 1, 4, 5, 9, 15]⟩
 refine srveM [4, 5] 77 [(0, .ptr 0 0 0), (1, I a1), (4, .ptr 1 0 0), (5, .ptr 2 0 0), (9, I v19.1), (15, B (v19.1 == 2))] [sc 0 v19.2, some ⟨0, Enc.cells (T_impl_Value.mk 0 0 (ByteArray.mk #[]))⟩, some ⟨0, Enc.cells (T_impl_Value.mk 0 0 (ByteArray.mk #[]))⟩] ?_
 refine pc h (fun h => ?_) (fun h => ?_)
 refine pwp_skip ?_
 exact ⟨(v19.1 == 2), h, it [0, 1, 4, 5, 9, 15]⟩
 refine rveM [4, 5] 77 [(0, .ptr 0 0 0), (1, I a1), (4, .ptr 1 0 0), (5, .ptr 2 0 0), (9, I v19.1), (15, B (v19.1 == 3))] [sc 0 v19.2, some ⟨0, Enc.cells (T_impl_Value.mk 0 0 (ByteArray.mk #[]))⟩, some ⟨0, Enc.cells (T_impl_Value.mk 0 0 (ByteArray.mk #[]))⟩] ?_
 exact ⟨(v19.1 == 3), h, it [0, 1, 4, 5, 9, 15]⟩
 rintro x22 h
 unfold spec_l20Value_j2 at h
 refine pc h (fun h => ?_) (fun h => ?_)
 refine srvM [4, 5] 1 77 [(0, .ptr 0 0 0), (1, I a1), (4, .ptr 1 0 0), (5, .ptr 2 0 0), (19, .ptr 0 0 0)] [sc 0 v19.2, some ⟨0, Enc.cells (T_impl_Value.mk 0 0 (ByteArray.mk #[]))⟩, some ⟨0, Enc.cells (T_impl_Value.mk 0 0 (ByteArray.mk #[]))⟩] ?_
 obtain ⟨v24, hv25, h⟩ := bindS h
 refine cB 20 0 0 (ok_spec_l20Rd_pick hv25) ?_
 refine veM [4, 5] 3 77 [(0, .ptr 0 0 0), (1, I a1), (4, .ptr 1 0 0), (5, .ptr 2 0 0)] [sc 0 v24.2, some ⟨0, Enc.cells (T_impl_Value.mk 0 0 (ByteArray.mk #[]))⟩, some ⟨0, Enc.cells (T_impl_Value.mk 1 (w64 (v24.1 - 3)) (ByteArray.mk #[]))⟩] ?_
 refine srvM [4, 5] 1 77 [(0, .ptr 0 0 0), (1, I a1), (4, .ptr 1 0 0), (5, .ptr 2 0 0), (23, .ptr 0 0 0)] [sc 0 v24.2, some ⟨0, Enc.cells (T_impl_Value.mk 0 0 (ByteArray.mk #[]))⟩, some ⟨0, Enc.cells (T_impl_Value.mk 1 (w64 (v24.1 - 3)) (ByteArray.mk #[]))⟩] ?_
 obtain ⟨v26, hv27, h⟩ := bindS h
 refine cB 24 0 0 (ok_spec_l20Rd_pick hv27) ?_
 refine veM [4, 5] 1 77 [(0, .ptr 0 0 0), (1, I a1), (4, .ptr 1 0 0), (5, .ptr 2 0 0), (25, B (v26.1 == 0))] [sc 0 v26.2, some ⟨0, Enc.cells (T_impl_Value.mk 0 0 (ByteArray.mk #[]))⟩, some ⟨0, Enc.cells (T_impl_Value.mk 1 (w64 (v24.1 - 3)) (ByteArray.mk #[]))⟩] ?_
 refine pc h (fun h => ?_) (fun h => ?_)
 refine rvM [4, 5] 2 77 [(0, .ptr 0 0 0), (1, I a1), (4, .ptr 1 0 0), (5, .ptr 2 0 0), (26, .arr 1 ([9999, -9999, 255, 256, -256] : List Int).length (eL ([9999, -9999, 255, 256, -256] : List Int)) true), (27, .ptr 0 0 0)] [sc 0 v26.2, some ⟨0, Enc.cells (T_impl_Value.mk 0 0 (ByteArray.mk #[]))⟩, some ⟨0, Enc.cells (T_impl_Value.mk 1 (w64 (v24.1 - 3)) (ByteArray.mk #[]))⟩] ?_
 obtain ⟨v29, hv30, h⟩ := bindS h
 refine cB 28 0 0 (ok_spec_l20Rd_pick hv30) ?_
 obtain ⟨v31, hv32, h⟩ := bindS h
 refine opsP_idx τ_ok 29 hv32 (by kernel_rfl) ?_
 refine veM [4, 5] 3 77 [(0, .ptr 0 0 0), (1, I a1), (4, .ptr 1 0 0), (5, .ptr 2 0 0)] [sc 0 v29.2, some ⟨0, Enc.cells (T_impl_Value.mk 0 0 (ByteArray.mk #[]))⟩, some ⟨0, Enc.cells (T_impl_Value.mk 1 v31 (ByteArray.mk #[]))⟩] ?_
 exact ⟨(v29.2, (T_impl_Value.mk 1 v31 (ByteArray.mk #[]))), h, it [0, 1, 4, 5]⟩
 refine pwp_skip ?_
 exact ⟨(v26.2, (T_impl_Value.mk 1 (w64 (v24.1 - 3)) (ByteArray.mk #[]))), h, it [0, 1, 4, 5]⟩
 refine pwp_seq ?_
 refine pwp_join (σ := Bool) (fun x33 => (⟨77, [(0, .ptr 0 0 0), (1, I a1), (4, .ptr 1 0 0), (5, .ptr 2 0 0), (32, B x33)], [sc 0 v19.2, some ⟨0, Enc.cells (T_impl_Value.mk 0 0 (ByteArray.mk #[]))⟩, some ⟨0, Enc.cells (T_impl_Value.mk 0 0 (ByteArray.mk #[]))⟩]⟩ : St)) (fun x33 => spec_l20Value_j3 a1 v19 x33 = some y) ?_ ?_
 refine srveM [4, 5] 77 [(0, .ptr 0 0 0), (1, I a1), (4, .ptr 1 0 0), (5, .ptr 2 0 0), (9, I v19.1), (32, B (v19.1 == 4))] [sc 0 v19.2, some ⟨0, Enc.cells (T_impl_Value.mk 0 0 (ByteArray.mk #[]))⟩, some ⟨0, Enc.cells (T_impl_Value.mk 0 0 (ByteArray.mk #[]))⟩] ?_
 refine pc h (fun h => ?_) (fun h => ?_)
 refine pwp_skip ?_
 exact ⟨(v19.1 == 4), h, it [0, 1, 4, 5, 32]⟩
 refine rveM [4, 5] 77 [(0, .ptr 0 0 0), (1, I a1), (4, .ptr 1 0 0), (5, .ptr 2 0 0), (32, B (v19.1 == 5))] [sc 0 v19.2, some ⟨0, Enc.cells (T_impl_Value.mk 0 0 (ByteArray.mk #[]))⟩, some ⟨0, Enc.cells (T_impl_Value.mk 0 0 (ByteArray.mk #[]))⟩] ?_
 exact ⟨(v19.1 == 5), h, it [0, 1, 4, 5, 32]⟩
 rintro x33 h
 unfold spec_l20Value_j3 at h
 refine pc h (fun h => ?_) (fun h => ?_)
 refine srveM [4, 5] 77 [(0, .ptr 0 0 0), (1, I a1), (4, .ptr 1 0 0), (5, .ptr 2 0 0)] [sc 0 v19.2, some ⟨0, Enc.cells (T_impl_Value.mk 0 0 (ByteArray.mk #[]))⟩, some ⟨0, Enc.cells (T_impl_Value.mk 2 0 (ByteArray.mk #[]))⟩] ?_
 refine srvM [4, 5] 1 77 [(0, .ptr 0 0 0), (1, I a1), (4, .ptr 1 0 0), (5, .ptr 2 0 0), (36, .ptr 0 0 0)] [sc 0 v19.2, some ⟨0, Enc.cells (T_impl_Value.mk 0 0 (ByteArray.mk #[]))⟩, some ⟨0, Enc.cells (T_impl_Value.mk 2 0 (ByteArray.mk #[]))⟩] ?_
 obtain ⟨v35, hv36, h⟩ := bindS h
 refine cB 37 0 0 (ok_spec_l20Rd_pick hv36) ?_
 refine veM [4, 5] 1 77 [(0, .ptr 0 0 0), (1, I a1), (4, .ptr 1 0 0), (5, .ptr 2 0 0), (6, I v35.1)] [sc 0 v35.2, some ⟨0, Enc.cells (T_impl_Value.mk 0 0 (ByteArray.mk #[]))⟩, some ⟨0, Enc.cells (T_impl_Value.mk 2 0 (ByteArray.mk #[]))⟩] ?_
 refine pwp_block ?_
 refine pwp_loop (ι := Nat × Int × T_spec_l20Rd × T_impl_Value) (fun (f43, x40, x41, x42) => (⟨77, [(0, .ptr 0 0 0), (1, I a1), (4, .ptr 1 0 0), (5, .ptr 2 0 0), (6, I x40)], [sc 0 x41, some ⟨0, Enc.cells (T_impl_Value.mk 0 0 (ByteArray.mk #[]))⟩, sc 0 x42]⟩ : St)) (fun (f43, x40, x41, x42) => spec_l20Value_l4 a1 f43 x40 x41 x42 = some y) Prod.fst (FUEL, v35.1, v35.2, (T_impl_Value.mk 2 0 (ByteArray.mk #[]))) h (it [0, 1, 4, 5, 6]) ?_
 rintro ⟨f43, x40, x41, x42⟩ h
 dsimp only at h ⊢
 rcases f43 with _ | f43
 cases h
 rw [spec_l20Value_l4] at h
 refine pwp_seq ?_
 refine srveM [4, 5] 77 [(0, .ptr 0 0 0), (1, I a1), (4, .ptr 1 0 0), (5, .ptr 2 0 0), (6, I x40), (39, B (decide (x40 > 0)))] [sc 0 x41, some ⟨0, Enc.cells (T_impl_Value.mk 0 0 (ByteArray.mk #[]))⟩, sc 0 x42] ?_
 refine pc h (fun h => ?_) (fun h => ?_)
 refine pwp_skip ?_
 refine pwp_seq ?_
 refine pwp_block ?_
 refine ip 77 [(0, .ptr 0 0 0), (1, I a1), (4, .ptr 1 0 0), (5, .ptr 2 0 0), (6, I x40)] [sc 0 x41, some ⟨0, Enc.cells (T_impl_Value.mk 0 0 (ByteArray.mk #[]))⟩, sc 0 x42] ?_
 refine pwp_any ([[2], [2], [0], [0], [], [], [], [], [], [2], [2]]) ([[], [], [], [0], [], [], [], [], [], [], [2]]) rfl (by kernel_rfl) ?_
 refine qvM [4, 5] [2] (hB trivial) 2 77 [(43, S x42.fS), (0, .ptr 0 0 0), (1, I a1), (4, .ptr 1 0 0), (5, .ptr 2 0 0), (6, I x40)] [sc 0 x41, some ⟨0, Enc.cells (T_impl_Value.mk 0 0 (ByteArray.mk #[]))⟩, sc 0 x42] ?_
 refine qvM [4, 5] [0] (hB trivial) 1 77 [(44, .ptr 0 0 0), (43, S x42.fS), (0, .ptr 0 0 0), (1, I a1), (4, .ptr 1 0 0), (5, .ptr 2 0 0), (6, I x40)] [sc 0 x41, some ⟨0, Enc.cells (T_impl_Value.mk 0 0 (ByteArray.mk #[]))⟩, sc 0 x42] ?_
 obtain ⟨v46, hv47, h⟩ := bindS h
 refine qX (some 45) (I v46.1) 77 [(45, I v46.1), (43, S x42.fS), (0, .ptr 0 0 0), (1, I a1), (4, .ptr 1 0 0), (5, .ptr 2 0 0), (6, I x40)] [sc 0 v46.2, some ⟨0, Enc.cells (T_impl_Value.mk 0 0 (ByteArray.mk #[]))⟩, sc 0 x42] (fun Γ' hΓ => callB_E τ 45 0 0 (ok_spec_l20Rd_pick hv47) (FzTo.frz rfl) rfl (by kernel_rfl)) (hB trivial) ?_
 refine qvM [4, 5] [] trivial 1 77 [(46, I (w64 (97 + v46.1))), (43, S x42.fS), (0, .ptr 0 0 0), (1, I a1), (4, .ptr 1 0 0), (5, .ptr 2 0 0), (6, I x40)] [sc 0 v46.2, some ⟨0, Enc.cells (T_impl_Value.mk 0 0 (ByteArray.mk #[]))⟩, sc 0 x42] ?_
 refine qX (some 47) (.lit (.int .u8 (u8 (w64 (97 + v46.1))).toNat)) 77 [(47, .lit (.int .u8 (u8 (w64 (97 + v46.1))).toNat)), (43, S x42.fS), (0, .ptr 0 0 0), (1, I a1), (4, .ptr 1 0 0), (5, .ptr 2 0 0), (6, I x40)] [sc 0 v46.2, some ⟨0, Enc.cells (T_impl_Value.mk 0 0 (ByteArray.mk #[]))⟩, sc 0 x42] (fun Γ' hΓ => CoreE.of_y (cv8V_sound (n := (w64 (97 + v46.1))) τ_ok (by kernel_rfl))) trivial ?_
 refine qvM [4, 5] [] trivial 1 77 [(48, .arr 1 ([(u8 (w64 (97 + v46.1)))] : List UInt8).length (eL ([(u8 (w64 (97 + v46.1)))] : List UInt8)) true), (43, S x42.fS), (0, .ptr 0 0 0), (1, I a1), (4, .ptr 1 0 0), (5, .ptr 2 0 0), (6, I x40)] [sc 0 v46.2, some ⟨0, Enc.cells (T_impl_Value.mk 0 0 (ByteArray.mk #[]))⟩, sc 0 x42] ?_
 refine qX (some 49) (S (ByteArray.mk (List.toArray ([(u8 (w64 (97 + v46.1)))] : List UInt8)))) 77 [(49, S (ByteArray.mk (List.toArray ([(u8 (w64 (97 + v46.1)))] : List UInt8)))), (43, S x42.fS), (0, .ptr 0 0 0), (1, I a1), (4, .ptr 1 0 0), (5, .ptr 2 0 0), (6, I x40)] [sc 0 v46.2, some ⟨0, Enc.cells (T_impl_Value.mk 0 0 (ByteArray.mk #[]))⟩, sc 0 x42] (fun Γ' hΓ => CoreE.of_y (cvsV_sound (l := ([(u8 (w64 (97 + v46.1)))] : List UInt8)) τ_ok (by kernel_rfl))) trivial ?_
 obtain ⟨v48, hv49, h⟩ := bindS h
 refine qX (some 50) (S v48) 77 [(50, S v48), (0, .ptr 0 0 0), (1, I a1), (4, .ptr 1 0 0), (5, .ptr 2 0 0), (6, I x40)] [sc 0 v46.2, some ⟨0, Enc.cells (T_impl_Value.mk 0 0 (ByteArray.mk #[]))⟩, sc 0 x42] (fun Γ' hΓ => CoreE.of_y (adsV_sound τ_ok (by kernel_rfl) hv49)) trivial ?_
 refine qvM [4, 5] [2] (hB trivial) 1 77 [(51, .ptr 2 0 2), (50, S v48), (0, .ptr 0 0 0), (1, I a1), (4, .ptr 1 0 0), (5, .ptr 2 0 0), (6, I x40)] [sc 0 v46.2, some ⟨0, Enc.cells (T_impl_Value.mk 0 0 (ByteArray.mk #[]))⟩, sc 0 x42] ?_
 refine qX (Hm' := [none, none, some ⟨0, Enc.cells ({ x42 with fS := v48 })⟩]) none (.any) 77 [(0, .ptr 0 0 0), (1, I a1), (4, .ptr 1 0 0), (5, .ptr 2 0 0), (6, I x40)] [sc 0 v46.2, some ⟨0, Enc.cells (T_impl_Value.mk 0 0 (ByteArray.mk #[]))⟩, some ⟨0, Enc.cells ({ x42 with fS := v48 })⟩] (fun Γ' hΓ => sto_E τ_ok 2 0 (by kernel_rfl)) (hB trivial) ?_
 refine qn 77 [(0, .ptr 0 0 0), (1, I a1), (4, .ptr 1 0 0), (5, .ptr 2 0 0), (6, I x40)] [sc 0 v46.2, some ⟨0, Enc.cells (T_impl_Value.mk 0 0 (ByteArray.mk #[]))⟩, some ⟨0, Enc.cells ({ x42 with fS := v48 })⟩] ?_
 refine rveM [4, 5] 77 [(0, .ptr 0 0 0), (1, I a1), (4, .ptr 1 0 0), (5, .ptr 2 0 0), (6, I (w64 (x40 - 1)))] [sc 0 v46.2, some ⟨0, Enc.cells (T_impl_Value.mk 0 0 (ByteArray.mk #[]))⟩, some ⟨0, Enc.cells ({ x42 with fS := v48 })⟩] ?_
 exact ⟨(f43, (w64 (x40 - 1)), v46.2, { x42 with fS := v48 }), h, Nat.lt_succ_self _, it [0, 1, 4, 5, 6]⟩
 refine pwp_exit ?_
 exact ⟨(x41, x42), h, it [0, 1, 4, 5]⟩
 refine rvM [4, 5] 1 77 [(0, .ptr 0 0 0), (1, I a1), (4, .ptr 1 0 0), (5, .ptr 2 0 0), (10, .ptr 0 0 0)] [sc 0 v19.2, some ⟨0, Enc.cells (T_impl_Value.mk 0 0 (ByteArray.mk #[]))⟩, some ⟨0, Enc.cells (T_impl_Value.mk 0 0 (ByteArray.mk #[]))⟩] ?_
 obtain ⟨v50, hv51, h⟩ := bindS h
 refine cB 11 0 0 (ok_spec_l20Rd_pick hv51) ?_
 refine veM [4, 5] 2 77 [(0, .ptr 0 0 0), (1, I a1), (4, .ptr 1 0 0), (5, .ptr 2 0 0)] [sc 0 v50.2, some ⟨0, Enc.cells (T_impl_Value.mk 0 0 (ByteArray.mk #[]))⟩, some ⟨0, Enc.cells (T_impl_Value.mk 3 v50.1 (ByteArray.mk #[]))⟩] ?_
 exact ⟨(v50.2, (T_impl_Value.mk 3 v50.1 (ByteArray.mk #[]))), h, it [0, 1, 4, 5]⟩
 rintro ⟨x1, x2⟩ h
 dsimp only at h ⊢
 unfold spec_l20Value_j0 at h
 refine pwp_seq ?_
 refine pwp_join (σ := T_spec_l20Rd × T_impl_Value) (fun (x3, x4) => (⟨77, [(4, .ptr 1 0 0), (5, .ptr 2 0 0)], [sc 0 x3, some ⟨0, Enc.cells (T_impl_Value.mk 0 0 (ByteArray.mk #[]))⟩, sc 0 x4]⟩ : St)) (fun (x3, x4) => spec_l20Value_j1 x3 x4 = some y) ?_ ?_
 refine srvM [4, 5] 2 77 [(0, .ptr 0 0 0), (4, .ptr 1 0 0), (5, .ptr 2 0 0), (52, .ptr 0 0 0), (53, I a1)] [sc 0 x1, some ⟨0, Enc.cells (T_impl_Value.mk 0 0 (ByteArray.mk #[]))⟩, sc 0 x2] ?_
 obtain ⟨v5, hv6, h⟩ := bindS h
 refine cB 54 0 0 (ok_spec_l20Rd_odd hv6) ?_
 refine veM [4, 5] 0 77 [(0, .ptr 0 0 0), (4, .ptr 1 0 0), (5, .ptr 2 0 0), (54, B v5.1)] [sc 0 v5.2, some ⟨0, Enc.cells (T_impl_Value.mk 0 0 (ByteArray.mk #[]))⟩, sc 0 x2] ?_
 refine pc h (fun h => ?_) (fun h => ?_)
 refine srvM [4, 5] 1 77 [(0, .ptr 0 0 0), (4, .ptr 1 0 0), (5, .ptr 2 0 0), (55, .ptr 0 0 0)] [sc 0 v5.2, some ⟨0, Enc.cells (T_impl_Value.mk 0 0 (ByteArray.mk #[]))⟩, sc 0 x2] ?_
 obtain ⟨v8, hv9, h⟩ := bindS h
 refine cB 56 0 0 (ok_spec_l20Rd_pick hv9) ?_
 refine veM [4, 5] 0 77 [(0, .ptr 0 0 0), (4, .ptr 1 0 0), (5, .ptr 2 0 0), (56, I v8.1)] [sc 0 v8.2, some ⟨0, Enc.cells (T_impl_Value.mk 0 0 (ByteArray.mk #[]))⟩, sc 0 x2] ?_
 refine pwp_block ?_
 refine srveM [4, 5] 77 [(0, .ptr 0 0 0), (4, .ptr 1 0 0), (5, .ptr 2 0 0), (56, I v8.1), (61, B (v8.1 == 0))] [sc 0 v8.2, some ⟨0, Enc.cells (T_impl_Value.mk 0 0 (ByteArray.mk #[]))⟩, sc 0 x2] ?_
 refine pc h (fun h => ?_) (fun h => ?_)
 refine rveM [4, 5] 77 [(4, .ptr 1 0 0), (5, .ptr 2 0 0)] [sc 0 v8.2, some ⟨0, Enc.cells (T_impl_Value.mk 0 0 (ByteArray.mk #[]))⟩, some ⟨0, Enc.cells ({ x2 with fN := 10000 })⟩] ?_
 exact ⟨(v8.2, { x2 with fN := 10000 }), h, it [4, 5]⟩
 refine srveM [4, 5] 77 [(0, .ptr 0 0 0), (4, .ptr 1 0 0), (5, .ptr 2 0 0), (56, I v8.1), (64, B (v8.1 == 1))] [sc 0 v8.2, some ⟨0, Enc.cells (T_impl_Value.mk 0 0 (ByteArray.mk #[]))⟩, sc 0 x2] ?_
 refine pc h (fun h => ?_) (fun h => ?_)
 refine rvM [4, 5] 2 77 [(4, .ptr 1 0 0), (5, .ptr 2 0 0), (67, S x2.fS)] [sc 0 v8.2, some ⟨0, Enc.cells (T_impl_Value.mk 0 0 (ByteArray.mk #[]))⟩, sc 0 x2] ?_
 obtain ⟨v12, hv13, h⟩ := bindS h
 refine opsP_ads τ_ok 68 hv13 (by kernel_rfl) ?_
 refine veM [4, 5] 2 77 [(4, .ptr 1 0 0), (5, .ptr 2 0 0)] [sc 0 v8.2, some ⟨0, Enc.cells (T_impl_Value.mk 0 0 (ByteArray.mk #[]))⟩, some ⟨0, Enc.cells ({ x2 with fS := v12 })⟩] ?_
 exact ⟨(v8.2, { x2 with fS := v12 }), h, it [4, 5]⟩
 refine srveM [4, 5] 77 [(0, .ptr 0 0 0), (4, .ptr 1 0 0), (5, .ptr 2 0 0), (70, B (v8.1 == 2))] [sc 0 v8.2, some ⟨0, Enc.cells (T_impl_Value.mk 0 0 (ByteArray.mk #[]))⟩, sc 0 x2] ?_
 refine pc h (fun h => ?_) (fun h => ?_)
 refine rvM [4, 5] 1 77 [(4, .ptr 1 0 0), (5, .ptr 2 0 0), (72, .ptr 0 0 0)] [sc 0 v8.2, some ⟨0, Enc.cells (T_impl_Value.mk 0 0 (ByteArray.mk #[]))⟩, sc 0 x2] ?_
 obtain ⟨v15, hv16, h⟩ := bindS h
 refine cB 73 0 0 (ok_spec_l20Rd_pick hv16) ?_
 refine veM [4, 5] 3 77 [(4, .ptr 1 0 0), (5, .ptr 2 0 0)] [sc 0 v15.2, some ⟨0, Enc.cells (T_impl_Value.mk 0 0 (ByteArray.mk #[]))⟩, some ⟨0, Enc.cells ({ x2 with fKind := (w64 (v15.1 - 1)) })⟩] ?_
 exact ⟨(v15.2, { x2 with fKind := (w64 (v15.1 - 1)) }), h, it [4, 5]⟩
 refine rvM [4, 5] 2 77 [(4, .ptr 1 0 0), (5, .ptr 2 0 0), (58, S x2.fS)] [sc 0 v8.2, some ⟨0, Enc.cells (T_impl_Value.mk 0 0 (ByteArray.mk #[]))⟩, sc 0 x2] ?_
 obtain ⟨v17, hv18, h⟩ := bindS h
 refine opsP_ads τ_ok 59 hv18 (by kernel_rfl) ?_
 refine veM [4, 5] 2 77 [(4, .ptr 1 0 0), (5, .ptr 2 0 0)] [sc 0 v8.2, some ⟨0, Enc.cells (T_impl_Value.mk 0 0 (ByteArray.mk #[]))⟩, some ⟨0, Enc.cells ({ x2 with fS := v17 })⟩] ?_
 exact ⟨(v8.2, { x2 with fS := v17 }), h, it [4, 5]⟩
 refine pwp_skip ?_
 exact ⟨(v5.2, x2), h, it [4, 5]⟩
 rintro ⟨x3, x4⟩ h
 dsimp only at h ⊢
 unfold spec_l20Value_j1 at h
 refine srveM [4, 5] 77 [(4, .ptr 1 0 0)] [sc 0 x3, sc 0 x4, sc 0 x4] ?_
 have h := si h
 subst h
 exact pwp_ret ⟨.inr rfl, E x4, _, 0, by kernel_rfl, (OutP.frz (by kernel_rfl)), by decide, by decide, by kernel_rfl⟩
def cmp_isNaN_int (a0 : Int) : Option Bool := some (!(a0 == a0))
theorem ok_cmp_isNaN_int {a0 : Int} {y : Bool} (h : cmp_isNaN_int a0 = some y) : OK Try.prog 190 [I a0] (B y) := by
 refine ow Try.func190 fun Γ hX => ?_
 unfold cmp_isNaN_int at h
 refine srve 6 [(0, I a0)] [] ?_
 refine srve 6 [(2, B (!(a0 == a0)))] [] ?_
 cases h
 exact pwp_ret rz
def cmp_isNaN_string (a0 : ByteArray) : Option Bool := some (!(a0.toList == a0.toList))
theorem ok_cmp_isNaN_string {a0 : ByteArray} {y : Bool} (h : cmp_isNaN_string a0 = some y) : OK Try.prog 200 [S a0] (B y) := by
 refine ow Try.func200 fun Γ hX => ?_
 unfold cmp_isNaN_string at h
 refine srve 6 [(0, S a0)] [] ?_
 refine srve 6 [(2, B (!(a0.toList == a0.toList)))] [] ?_
 cases h
 exact pwp_ret rz
def slices_ContainsFunc_impl_Delta_impl_Delta (a0 : List T_impl_Delta) (a1 : T_impl_Delta → Option Bool) : Option Bool := (slices_IndexFunc_impl_Delta_impl_Delta a0 a1).bind fun v1 => some (decide (v1 ≥ 0))
theorem ok_slices_ContainsFunc_impl_Delta_impl_Delta {a0 : List T_impl_Delta} {g1 : FuncId} {c1 : List V} (hz1 : frzL c1 = true) {a1 : T_impl_Delta → Option Bool} (hp1 : ∀ x0 y, a1 x0 = some y → OK Try.prog g1 ([E x0] ++ c1) (B y)) {y : Bool} (h : slices_ContainsFunc_impl_Delta_impl_Delta a0 a1 = some y) : OK Try.prog 51 [A a0, .fn g1 c1] (B y) := by
 refine ow Try.func51 fun Γ hX => ?_
 unfold slices_ContainsFunc_impl_Delta_impl_Delta at h
 refine srve 9 [(0, A a0), (1, .fn g1 c1)] [] ?_
 refine srv 2 9 [(5, A a0), (6, .fn g1 c1)] [] ?_
 obtain ⟨v1, hv2, h⟩ := bindS h
 refine opsP_callF τ 7 (ok_slices_IndexFunc_impl_Delta_impl_Delta (hz1) (hp1) hv2) (FzTo.frz rfl) (by simp only [frzL, frz, hz1, Bool.and_true]) (by kernel_rfl) ?_
 refine ve 2 9 [(4, B (decide (v1 ≥ 0)))] [] ?_
 cases h
 exact pwp_ret rz
def slices_ContainsFunc_impl_Value_impl_Value_s3 (a0 : List (List T_impl_Value)) (a1 : (List T_impl_Value) → Option Bool) : Option Bool := (slices_IndexFunc_impl_Value_impl_Value_s3 a0 a1).bind fun v1 => some (decide (v1 ≥ 0))
theorem ok_slices_ContainsFunc_impl_Value_impl_Value_s3 {a0 : List (List T_impl_Value)} {g1 : FuncId} {c1 : List V} (hz1 : frzL c1 = true) {a1 : (List T_impl_Value) → Option Bool} (hp1 : ∀ x0 y, a1 x0 = some y → OK Try.prog g1 ([A x0] ++ c1) (B y)) {y : Bool} (h : slices_ContainsFunc_impl_Value_impl_Value_s3 a0 a1 = some y) : OK Try.prog 67 [A a0, .fn g1 c1] (B y) := by
 refine ow Try.func67 fun Γ hX => ?_
 unfold slices_ContainsFunc_impl_Value_impl_Value_s3 at h
 refine srve 9 [(0, A a0), (1, .fn g1 c1)] [] ?_
 refine srv 2 9 [(5, A a0), (6, .fn g1 c1)] [] ?_
 obtain ⟨v1, hv2, h⟩ := bindS h
 refine opsP_callF τ 7 (ok_slices_IndexFunc_impl_Value_impl_Value_s3 (hz1) (hp1) hv2) (FzTo.frz rfl) (by simp only [frzL, frz, hz1, Bool.and_true]) (by kernel_rfl) ?_
 refine ve 2 9 [(4, B (decide (v1 ≥ 0)))] [] ?_
 cases h
 exact pwp_ret rz
def spec_l20Columns_l0 (a1 : Int) : Nat → Int → T_spec_l20Rd → (List T_impl_Column) → Option ((List T_impl_Column) × T_spec_l20Rd)
 | 0, _, _, _ => none
 | f8 + 1, x5, x6, x7 => bif (decide (x5 > 0)) then (spec_l20Rd_pick x6 4).bind fun v11 => (getI ([1, 1, 2, 3] : List Int) v11.1).bind fun v13 => (spec_l20Rd_pick v11.2 3).bind fun v15 => (app x7 ([(T_impl_Column.mk v13 (decide (v15.1 > 0)))] : List T_impl_Column)).bind fun v17 => (spec_l20Columns_l0 a1 f8) (w64 (x5 - 1)) v15.2 v17 else (spec_l20Rd_odd x6 a1).bind fun v19 => bif v19.1 then (spec_l20Rd_pick v19.2 6).bind fun v22 => (app x7 ([(T_impl_Column.mk (w64 (v22.1 - 1)) false), (T_impl_Column.mk 1 false), (T_impl_Column.mk 1 false)] : List T_impl_Column)).bind fun v24 => some (v24, v22.2) else some (x7, v19.2)
def spec_l20Columns (a0 : T_spec_l20Rd) (a1 : Int) : Option ((List T_impl_Column) × T_spec_l20Rd) := (spec_l20Rd_pick a0 3).bind fun v1 => spec_l20Columns_l0 a1 FUEL (w64 (1 + v1.1)) v1.2 ([] : List T_impl_Column)
theorem ok_spec_l20Columns {a0 : T_spec_l20Rd} {a1 : Int} {y : (List T_impl_Column) × T_spec_l20Rd} (h : spec_l20Columns a0 a1 = some y) : OKb Try.prog 97 (Enc.cells a0) [I a1] (O y.1) (Enc.cells y.2) := by
 refine OKb_of_pwp τ_ok Try.func97 rfl (by kernel_rfl) rfl (Enc.frz _) (Enc.frz _) fun Γ hQ => ?_
 unfold spec_l20Columns at h
 refine srve 40 [(0, .ptr 0 0 0), (1, I a1)] [sc 0 a0] ?_
 refine srve 40 [(0, .ptr 0 0 0), (1, I a1), (5, .arr 2 0 (eL ([] : List T_impl_Column)) true)] [sc 0 a0] ?_
 refine pwp_seq ?_
 refine srv 1 40 [(0, .ptr 0 0 0), (1, I a1), (5, .arr 2 0 (eL ([] : List T_impl_Column)) true), (8, .ptr 0 0 0)] [sc 0 a0] ?_
 obtain ⟨v1, hv2, h⟩ := bindS h
 refine cB 9 0 0 (ok_spec_l20Rd_pick hv2) ?_
 refine ve 2 40 [(0, .ptr 0 0 0), (1, I a1), (5, .arr 2 0 (eL ([] : List T_impl_Column)) true), (6, I (w64 (1 + v1.1)))] [sc 0 v1.2] ?_
 refine pwp_block ?_
 refine pwp_loop (ι := Nat × Int × T_spec_l20Rd × (List T_impl_Column)) (fun (f8, x5, x6, x7) => (⟨40, [(0, .ptr 0 0 0), (1, I a1), (5, rf 1 0 2 x7), (6, I x5)], [sc 0 x6, sl 0 x7]⟩ : St)) (fun (f8, x5, x6, x7) => spec_l20Columns_l0 a1 f8 x5 x6 x7 = some y) Prod.fst (FUEL, (w64 (1 + v1.1)), v1.2, ([] : List T_impl_Column)) h (Imp.thawS 5 [0, 1, 5, 6] (by kernel_rfl)) ?_
 rintro ⟨f8, x5, x6, x7⟩ h
 dsimp only at h ⊢
 rcases f8 with _ | f8
 cases h
 rw [spec_l20Columns_l0] at h
 refine pwp_seq ?_
 refine srve 40 [(0, .ptr 0 0 0), (1, I a1), (5, rf 1 0 2 x7), (6, I x5), (12, B (decide (x5 > 0)))] [sc 0 x6, sl 0 x7] ?_
 refine pc h (fun h => ?_) (fun h => ?_)
 refine pwp_skip ?_
 refine pwp_seq ?_
 refine pwp_block ?_
 refine ip 40 [(0, .ptr 0 0 0), (1, I a1), (5, rf 1 0 2 x7), (6, I x5)] [sc 0 x6, sl 0 x7] ?_
 refine pwp_any ([[1], [], [], [0], [], [], [], [0], [], [], [], [1], [1]]) ([[], [], [], [0], [], [], [], [0], [], [], [], [1], []]) rfl (by kernel_rfl) ?_
 refine qv [1] (hL trivial) 1 40 [(15, rf 1 0 2 x7), (0, .ptr 0 0 0), (1, I a1), (5, rf 1 0 2 x7), (6, I x5)] [sc 0 x6, sl 0 x7] ?_
 refine qv [] trivial 1 40 [(16, .arr 1 ([1, 1, 2, 3] : List Int).length (eL ([1, 1, 2, 3] : List Int)) true), (15, rf 1 0 2 x7), (0, .ptr 0 0 0), (1, I a1), (5, rf 1 0 2 x7), (6, I x5)] [sc 0 x6, sl 0 x7] ?_
 refine qA_mv (⟨40, [(17, .ptr 0 0 0), (16, .arr 1 ([1, 1, 2, 3] : List Int).length (eL ([1, 1, 2, 3] : List Int)) true), (15, rf 1 0 2 x7), (0, .ptr 0 0 0), (1, I a1), (5, rf 1 0 2 x7), (6, I x5)], [sc 0 x6, sl 0 x7]⟩) (by kernel_rfl) rfl ?_
 obtain ⟨v11, hv12, h⟩ := bindS h
 refine qX (some 18) (I v11.1) 40 [(18, I v11.1), (16, .arr 1 ([1, 1, 2, 3] : List Int).length (eL ([1, 1, 2, 3] : List Int)) true), (15, rf 1 0 2 x7), (0, .ptr 0 0 0), (1, I a1), (5, rf 1 0 2 x7), (6, I x5)] [sc 0 v11.2, sl 0 x7] (fun Γ' hΓ => callB_E τ 18 0 0 (ok_spec_l20Rd_pick hv12) (FzTo.frz rfl) rfl (by kernel_rfl)) (hB trivial) ?_
 obtain ⟨v13, hv14, h⟩ := bindS h
 refine qX (some 19) (pf v13 0) 40 [(19, pf v13 0), (15, rf 1 0 2 x7), (0, .ptr 0 0 0), (1, I a1), (5, rf 1 0 2 x7), (6, I x5)] [sc 0 v11.2, sl 0 x7] (fun Γ' hΓ => CoreE.of_y (idxV_sound τ_ok (by kernel_rfl) hv14)) trivial ?_
 refine qv [] trivial 1 40 [(20, I v13), (15, rf 1 0 2 x7), (0, .ptr 0 0 0), (1, I a1), (5, rf 1 0 2 x7), (6, I x5)] [sc 0 v11.2, sl 0 x7] ?_
 refine qA_mv (⟨40, [(21, .ptr 0 0 0), (20, I v13), (15, rf 1 0 2 x7), (0, .ptr 0 0 0), (1, I a1), (5, rf 1 0 2 x7), (6, I x5)], [sc 0 v11.2, sl 0 x7]⟩) (by kernel_rfl) rfl ?_
 obtain ⟨v15, hv16, h⟩ := bindS h
 refine qX (some 22) (I v15.1) 40 [(22, I v15.1), (20, I v13), (15, rf 1 0 2 x7), (0, .ptr 0 0 0), (1, I a1), (5, rf 1 0 2 x7), (6, I x5)] [sc 0 v15.2, sl 0 x7] (fun Γ' hΓ => callB_E τ 22 0 0 (ok_spec_l20Rd_pick hv16) (FzTo.frz rfl) rfl (by kernel_rfl)) (hB trivial) ?_
 refine qv [] trivial 3 40 [(25, .arr 2 ([(T_impl_Column.mk v13 (decide (v15.1 > 0)))] : List T_impl_Column).length (eL ([(T_impl_Column.mk v13 (decide (v15.1 > 0)))] : List T_impl_Column)) true), (15, rf 1 0 2 x7), (0, .ptr 0 0 0), (1, I a1), (5, rf 1 0 2 x7), (6, I x5)] [sc 0 v15.2, sl 0 x7] ?_
 obtain ⟨v17, hv18, h⟩ := bindS h
 refine qX (some 26) (rf 1 1 2 v17) 40 [(26, rf 1 1 2 v17), (0, .ptr 0 0 0), (1, I a1), (5, rf 1 0 2 x7), (6, I x5)] [sc 0 v15.2, sl 1 v17] (fun Γ' hΓ => app_Ew τ_ok 26 1 0 (by first | exact py hΓ hQ | exact pky hΓ hQ) hv18 (by kernel_rfl)) (hL trivial) ?_
 refine qvn [1] (hL trivial) 1 40 [(0, .ptr 0 0 0), (1, I a1), (5, rf 1 1 2 v17), (6, I x5)] [sc 0 v15.2, sl 1 v17] ?_
 refine rve 40 [(0, .ptr 0 0 0), (1, I a1), (5, rf 1 1 2 v17), (6, I (w64 (x5 - 1)))] [sc 0 v15.2, sl 1 v17] ?_
 exact ⟨(f8, (w64 (x5 - 1)), v15.2, v17), h, Nat.lt_succ_self _, (it (st' := ⟨40, [(0, .ptr 0 0 0), (1, I a1), (5, rf 1 1 2 v17), (6, I (w64 (x5 - 1)))], [sc 0 v15.2, sl 1 v17]⟩) [0, 1, 5, 6]).trans (Imp.reverS 1 1 (eL v17) [0, 1, 5, 6] (by kernel_rfl) (by exact (And.intro (rfl) (And.intro (eL_frz _) trivial))) (by kernel_rfl))⟩
 refine pwp_exit ?_
 refine pwp_seq ?_
 refine srv 2 40 [(0, .ptr 0 0 0), (5, rf 1 0 2 x7), (27, .ptr 0 0 0), (28, I a1)] [sc 0 x6, sl 0 x7] ?_
 obtain ⟨v19, hv20, h⟩ := bindS h
 refine cB 29 0 0 (ok_spec_l20Rd_odd hv20) ?_
 refine ve 0 40 [(0, .ptr 0 0 0), (5, rf 1 0 2 x7), (29, B v19.1)] [sc 0 v19.2, sl 0 x7] ?_
 refine pc h (fun h => ?_) (fun h => ?_)
 refine rv 2 40 [(30, rf 1 0 2 x7), (31, .ptr 0 0 0)] [sc 0 v19.2, sl 0 x7] ?_
 obtain ⟨v22, hv23, h⟩ := bindS h
 refine cB 32 0 0 (ok_spec_l20Rd_pick hv23) ?_
 refine v 5 40 [(30, rf 1 0 2 x7), (37, .arr 2 ([(T_impl_Column.mk (w64 (v22.1 - 1)) false), (T_impl_Column.mk 1 false), (T_impl_Column.mk 1 false)] : List T_impl_Column).length (eL ([(T_impl_Column.mk (w64 (v22.1 - 1)) false), (T_impl_Column.mk 1 false), (T_impl_Column.mk 1 false)] : List T_impl_Column)) true)] [sc 0 v22.2, sl 0 x7] ?_
 obtain ⟨v24, hv25, h⟩ := bindS h
 refine opsP_app τ_ok 38 1 0 (pn hQ) hv25 (by kernel_rfl) ?_
 refine ve 1 40 [(5, rf 1 1 2 v24)] [sc 0 v22.2, sl 1 v24] ?_
 refine srve 40 [(4, rf 1 1 2 v24)] [sc 0 v22.2, sl 1 v24] ?_
 have h := si h
 subst h
 exact pwp_ret ⟨.inr rfl, rf 1 1 2 v24, _, 0, by kernel_rfl, (OutP.list (v := 1) (by kernel_rfl)), by decide, by decide, by kernel_rfl⟩
 refine pwp_skip ?_
 refine srve 40 [(4, rf 1 0 2 x7)] [sc 0 v19.2, sl 0 x7] ?_
 have h := si h
 subst h
 exact pwp_ret ⟨.inr rfl, rf 1 0 2 x7, _, 0, by kernel_rfl, (OutP.list (v := 0) (by kernel_rfl)), by decide, by decide, by kernel_rfl⟩
def spec_ValueOk (a0 : T_impl_Value) : Option Bool := bif (a0.fKind == 0) then bif (a0.fN == 0) then some (a0.fS.toList == (ByteArray.mk #[]).toList) else some false else bif (a0.fKind == 1) then (spec_l1In a0.fN (-9999) 9999).bind fun v4 => bif v4 then some (a0.fS.toList == (ByteArray.mk #[]).toList) else some false else bif (a0.fKind == 2) then bif (a0.fN == 0) then (spec_l1Text a0.fS).bind fun v8 => some v8 else some false else bif (a0.fKind == 3) then (spec_l1In a0.fN 0 1).bind fun v12 => bif v12 then some (a0.fS.toList == (ByteArray.mk #[]).toList) else some false else some false
theorem ok_spec_ValueOk {a0 : T_impl_Value} {y : Bool} (h : spec_ValueOk a0 = some y) : OK Try.prog 106 [E a0] (B y) := by
 refine ow Try.func106 fun Γ hX => ?_
 unfold spec_ValueOk at h
 refine srve 45 [(1, pf a0 0)] [] ?_
 refine pwp_seq ?_
 refine srve 45 [(1, pf a0 0), (4, I a0.fKind)] [] ?_
 refine pwp_block ?_
 refine srve 45 [(1, pf a0 0), (4, I a0.fKind), (5, B (a0.fKind == 0))] [] ?_
 refine pc h (fun h => ?_) (fun h => ?_)
 refine srv 4 45 [(1, pf a0 0), (10, B (a0.fN == 0))] [] ?_
 rcases fk (a0.fN == 0) with hc2 | hc2
 replace h := bT hc2 h
 rw [hc2]
 refine ve 5 45 [(2, B (a0.fS.toList == (ByteArray.mk #[]).toList))] [] ?_
 cases h
 exact pwp_ret rz
 replace h := bF hc2 h
 rw [hc2]
 refine ve 5 45 [(2, B false)] [] ?_
 cases h
 exact pwp_ret rz
 refine srve 45 [(1, pf a0 0), (4, I a0.fKind), (15, B (a0.fKind == 1))] [] ?_
 refine pc h (fun h => ?_) (fun h => ?_)
 refine srv 2 45 [(1, pf a0 0), (18, I a0.fN)] [] ?_
 obtain ⟨v4, hv5, h⟩ := bindS h
 refine cF 19 (ok_spec_l1In hv5) ?_
 refine v 1 45 [(1, pf a0 0), (20, B v4)] [] ?_
 rcases Bool.eq_false_or_eq_true v4 with hc6 | hc6
 replace h := bT hc6 h
 rw [hc6]
 refine ve 5 45 [(2, B (a0.fS.toList == (ByteArray.mk #[]).toList))] [] ?_
 cases h
 exact pwp_ret rz
 replace h := bF hc6 h
 rw [hc6]
 refine ve 5 45 [(2, B false)] [] ?_
 cases h
 exact pwp_ret rz
 refine srve 45 [(1, pf a0 0), (4, I a0.fKind), (25, B (a0.fKind == 2))] [] ?_
 refine pc h (fun h => ?_) (fun h => ?_)
 refine srv 4 45 [(1, pf a0 0), (30, B (a0.fN == 0))] [] ?_
 rcases fk (a0.fN == 0) with hc10 | hc10
 replace h := bT hc10 h
 rw [hc10]
 refine v 2 45 [(30, B true), (32, S a0.fS)] [] ?_
 obtain ⟨v8, hv9, h⟩ := bindS h
 refine cF 33 (ok_spec_l1Text hv9) ?_
 refine ve 2 45 [(2, B v8)] [] ?_
 cases h
 exact pwp_ret rz
 replace h := bF hc10 h
 rw [hc10]
 refine ve 5 45 [(2, B false)] [] ?_
 cases h
 exact pwp_ret rz
 refine srve 45 [(1, pf a0 0), (35, B (a0.fKind == 3))] [] ?_
 refine pc h (fun h => ?_) (fun h => ?_)
 refine srv 2 45 [(1, pf a0 0), (38, I a0.fN)] [] ?_
 obtain ⟨v12, hv13, h⟩ := bindS h
 refine cF 39 (ok_spec_l1In hv13) ?_
 refine v 1 45 [(1, pf a0 0), (40, B v12)] [] ?_
 rcases Bool.eq_false_or_eq_true v12 with hc14 | hc14
 replace h := bT hc14 h
 rw [hc14]
 refine ve 5 45 [(2, B (a0.fS.toList == (ByteArray.mk #[]).toList))] [] ?_
 cases h
 exact pwp_ret rz
 replace h := bF hc14 h
 rw [hc14]
 refine ve 5 45 [(2, B false)] [] ?_
 cases h
 exact pwp_ret rz
 refine pwp_skip ?_
 refine srve 45 [(2, B false)] [] ?_
 cases h
 exact pwp_ret rz
def slices_ContainsFunc_impl_Value_impl_Value (a0 : List T_impl_Value) (a1 : T_impl_Value → Option Bool) : Option Bool := (slices_IndexFunc_impl_Value_impl_Value a0 a1).bind fun v1 => some (decide (v1 ≥ 0))
theorem ok_slices_ContainsFunc_impl_Value_impl_Value {a0 : List T_impl_Value} {g1 : FuncId} {c1 : List V} (hz1 : frzL c1 = true) {a1 : T_impl_Value → Option Bool} (hp1 : ∀ x0 y, a1 x0 = some y → OK Try.prog g1 ([E x0] ++ c1) (B y)) {y : Bool} (h : slices_ContainsFunc_impl_Value_impl_Value a0 a1 = some y) : OK Try.prog 109 [A a0, .fn g1 c1] (B y) := by
 refine ow Try.func109 fun Γ hX => ?_
 unfold slices_ContainsFunc_impl_Value_impl_Value at h
 refine srve 9 [(0, A a0), (1, .fn g1 c1)] [] ?_
 refine srv 2 9 [(5, A a0), (6, .fn g1 c1)] [] ?_
 obtain ⟨v1, hv2, h⟩ := bindS h
 refine opsP_callF τ 7 (ok_slices_IndexFunc_impl_Value_impl_Value (hz1) (hp1) hv2) (FzTo.frz rfl) (by simp only [frzL, frz, hz1, Bool.and_true]) (by kernel_rfl) ?_
 refine ve 2 9 [(4, B (decide (v1 ≥ 0)))] [] ?_
 cases h
 exact pwp_ret rz
def impl_Value_ok (a0 : T_impl_Value) : Option Bool := bif (a0.fKind == 0) then some (eq_T_impl_Value a0 (T_impl_Value.mk 0 0 (ByteArray.mk #[]))) else bif (a0.fKind == 1) then bif (a0.fS.toList == (ByteArray.mk #[]).toList) then (impl_between a0.fN (-9999) 9999).bind fun v3 => some v3 else some false else bif (a0.fKind == 2) then bif (a0.fN == 0) then bif (decide ((a0.fS.size : Int) ≤ 6)) then (impl_letters a0.fS).bind fun v7 => some v7 else some false else some false else bif (a0.fKind == 3) then bif (a0.fS.toList == (ByteArray.mk #[]).toList) then (impl_between a0.fN 0 1).bind fun v12 => some v12 else some false else some false
theorem ok_impl_Value_ok {a0 : T_impl_Value} {y : Bool} (h : impl_Value_ok a0 = some y) : OK Try.prog 111 [E a0] (B y) := by
 refine ow Try.func111 fun Γ hX => ?_
 unfold impl_Value_ok at h
 refine srve 46 [(1, pf a0 0)] [] ?_
 refine pwp_seq ?_
 refine srve 46 [(1, pf a0 0), (4, I a0.fKind)] [] ?_
 refine pwp_block ?_
 refine srve 46 [(1, pf a0 0), (4, I a0.fKind), (5, B (a0.fKind == 0))] [] ?_
 refine pc h (fun h => ?_) (fun h => ?_)
 refine srve 46 [(2, B (eq_T_impl_Value a0 (T_impl_Value.mk 0 0 (ByteArray.mk #[]))))] [] ?_
 cases h
 exact pwp_ret rz
 refine srve 46 [(1, pf a0 0), (4, I a0.fKind), (10, B (a0.fKind == 1))] [] ?_
 refine pc h (fun h => ?_) (fun h => ?_)
 refine srv 4 46 [(1, pf a0 0), (15, B (a0.fS.toList == (ByteArray.mk #[]).toList))] [] ?_
 rcases fk (a0.fS.toList == (ByteArray.mk #[]).toList) with hc5 | hc5
 replace h := bT hc5 h
 rw [hc5]
 refine v 2 46 [(15, B true), (17, I a0.fN)] [] ?_
 obtain ⟨v3, hv4, h⟩ := bindS h
 refine cF 18 (ok_impl_between hv4) ?_
 refine ve 2 46 [(2, B v3)] [] ?_
 cases h
 exact pwp_ret rz
 replace h := bF hc5 h
 rw [hc5]
 refine ve 5 46 [(2, B false)] [] ?_
 cases h
 exact pwp_ret rz
 refine srve 46 [(1, pf a0 0), (4, I a0.fKind), (20, B (a0.fKind == 2))] [] ?_
 refine pc h (fun h => ?_) (fun h => ?_)
 refine srv 4 46 [(1, pf a0 0), (25, B (a0.fN == 0))] [] ?_
 rcases fk (a0.fN == 0) with hc10 | hc10
 replace h := bT hc10 h
 rw [hc10]
 refine v 6 46 [(1, pf a0 0), (31, B (decide ((a0.fS.size : Int) ≤ 6)))] [] ?_
 rcases fk (decide ((a0.fS.size : Int) ≤ 6)) with hc9 | hc9
 replace h := bT hc9 h
 rw [hc9]
 refine v 2 46 [(31, B true), (33, S a0.fS)] [] ?_
 obtain ⟨v7, hv8, h⟩ := bindS h
 refine cF 34 (ok_impl_letters hv8) ?_
 refine ve 2 46 [(2, B v7)] [] ?_
 cases h
 exact pwp_ret rz
 replace h := bF hc9 h
 rw [hc9]
 refine ve 5 46 [(2, B false)] [] ?_
 cases h
 exact pwp_ret rz
 replace h := bF hc10 h
 rw [hc10]
 refine ve 11 46 [(2, B false)] [] ?_
 cases h
 exact pwp_ret rz
 refine srve 46 [(1, pf a0 0), (36, B (a0.fKind == 3))] [] ?_
 refine pc h (fun h => ?_) (fun h => ?_)
 refine srv 4 46 [(1, pf a0 0), (41, B (a0.fS.toList == (ByteArray.mk #[]).toList))] [] ?_
 rcases fk (a0.fS.toList == (ByteArray.mk #[]).toList) with hc14 | hc14
 replace h := bT hc14 h
 rw [hc14]
 refine v 2 46 [(41, B true), (43, I a0.fN)] [] ?_
 obtain ⟨v12, hv13, h⟩ := bindS h
 refine cF 44 (ok_impl_between hv13) ?_
 refine ve 2 46 [(2, B v12)] [] ?_
 cases h
 exact pwp_ret rz
 replace h := bF hc14 h
 rw [hc14]
 refine ve 5 46 [(2, B false)] [] ?_
 cases h
 exact pwp_ret rz
 refine pwp_skip ?_
 refine srve 46 [(2, B false)] [] ?_
 cases h
 exact pwp_ret rz
def impl_afterDeltas_1 (a0 : List T_impl_Value) (b0 : T_impl_Delta) : Option Bool := (slices_Equal_impl_Value_impl_Value a0 b0.fRow).bind fun v1 => some v1
theorem ok_impl_afterDeltas_1 {a0 : List T_impl_Value} {b0 : T_impl_Delta} {y : Bool} (h : impl_afterDeltas_1 a0 b0 = some y) : OK Try.prog 114 [A a0, pf b0 0] (B y) := by
 refine ow Try.func114 fun Γ hX => ?_
 unfold impl_afterDeltas_1 at h
 refine srve 8 [(0, A a0), (1, pf b0 0)] [] ?_
 refine srv 3 8 [(4, A a0), (6, A b0.fRow)] [] ?_
 obtain ⟨v1, hv2, h⟩ := bindS h
 refine cF 7 (ok_slices_Equal_impl_Value_impl_Value hv2) ?_
 refine ve 1 8 [(3, B v1)] [] ?_
 cases h
 exact pwp_ret rz
def impl_clone_impl_Value (a0 : List T_impl_Value) : Option (List T_impl_Value) := bif ((a0.length : Int) == 0) then some ([] : List T_impl_Value) else (app [] a0).bind fun v2 => (slices_Clip_impl_Value_impl_Value v2).bind fun v4 => some v4
theorem ok_impl_clone_impl_Value {a0 : List T_impl_Value} {y : List T_impl_Value} (h : impl_clone_impl_Value a0 = some y) : OK Try.prog 119 [A a0] (A y) := by
 refine ow Try.func119 fun Γ hX => ?_
 unfold impl_clone_impl_Value at h
 refine srve 9 [(0, A a0)] [] ?_
 refine pwp_seq ?_
 refine srve 9 [(0, A a0), (5, B ((a0.length : Int) == 0))] [] ?_
 refine pc h (fun h => ?_) (fun h => ?_)
 refine srve 9 [(2, .arr 3 0 (eL ([] : List T_impl_Value)) true)] [] ?_
 refine ip 9 [(2, .arr 3 0 (eL ([] : List T_impl_Value)) true)] [] ?_
 refine pwp_imp (Imp.unfS (st' := ⟨9, [(2, A ([] : List T_impl_Value))], []⟩) 2 [2] (by kernel_rfl)) ?_
 cases h
 exact pwp_ret rz
 refine pwp_skip ?_
 refine srv 1 9 [(6, A a0)] [] ?_
 obtain ⟨v2, hv3, h⟩ := bindS h
 refine opsP_apn τ_ok 7 0 (nx hX) hv3 (by kernel_rfl) ?_
 refine v 0 9 [(7, rf 0 1 3 v2)] [sl 1 v2] ?_
 refine opsP_imp (Imp.freezeB (v := 1) (cs := eL v2) (st' := ⟨9, [(7, A v2)], [none]⟩) 0 1 (nx hX) (by kernel_rfl) (eL_frz _) (wholeC (whole_is (eL_len v2).symm) wholeC0) (HpRel.key HpRel.nil) (by kernel_rfl) rfl (nx hX)) ?_
 obtain ⟨v4, hv5, h⟩ := bindS h
 refine cF 8 (ok_slices_Clip_impl_Value_impl_Value hv5) ?_
 refine ve 1 9 [(2, A v4)] [none] ?_
 cases h
 exact pwp_ret rz
def spec_l20Fit_l0 (a1 : List T_impl_Column) (a2 : Int) : Nat → Int → T_spec_l20Rd → (List T_impl_Value) → Option ((List T_impl_Value) × T_spec_l20Rd)
 | 0, _, _, _ => none
 | f6 + 1, x3, x4, x5 => bif (decide (x3 < (a1.length : Int))) then (getI a1 x3).bind fun v9 => (spec_l20Like x4 v9).bind fun v11 => (app x5 ([v11.1] : List T_impl_Value)).bind fun v13 => (spec_l20Fit_l0 a1 a2 f6) (w64 (x3 + 1)) v11.2 v13 else (spec_l20Rd_odd x4 a2).bind fun v15 => bif v15.1 then (spec_l20Rd_pick v15.2 3).bind fun v18 => bif (v18.1 == 0) then (app x5 ([(T_impl_Value.mk 0 0 (ByteArray.mk #[]))] : List T_impl_Value)).bind fun v21 => some (v21, v18.2) else bif (v18.1 == 1) then bif (decide ((x5.length : Int) > 0)) then (spec_l20Rd_pick v18.2 (x5.length : Int)).bind fun v25 => (spec_l20Value v25.2 3).bind fun v27 => (getI x5 v25.1).bind fun v29 => some ((x5.set v25.1.toNat v27.1), v27.2) else some (x5, v18.2) else (spec_l20Value v18.2 0).bind fun v31 => (spec_l20Value v31.2 0).bind fun v33 => (spec_l20Value v33.2 0).bind fun v35 => (app x5 ([v31.1, v33.1, v35.1] : List T_impl_Value)).bind fun v37 => some (v37, v35.2) else some (x5, v15.2)
def spec_l20Fit (a0 : T_spec_l20Rd) (a1 : List T_impl_Column) (a2 : Int) : Option ((List T_impl_Value) × T_spec_l20Rd) := spec_l20Fit_l0 a1 a2 FUEL 0 a0 ([] : List T_impl_Value)
theorem ok_spec_l20Fit {a0 : T_spec_l20Rd} {a1 : List T_impl_Column} {a2 : Int} {y : (List T_impl_Value) × T_spec_l20Rd} (h : spec_l20Fit a0 a1 a2 = some y) : OKb Try.prog 146 (Enc.cells a0) [A a1, I a2] (O y.1) (Enc.cells y.2) := by
 refine OKb_of_pwp τ_ok Try.func146 rfl (by kernel_rfl) rfl (Enc.frz _) (Enc.frz _) fun Γ hQ => ?_
 unfold spec_l20Fit at h
 refine srve 59 [(0, .ptr 0 0 0), (1, A a1), (2, I a2)] [sc 0 a0] ?_
 refine srve 59 [(0, .ptr 0 0 0), (1, A a1), (2, I a2), (7, .arr 3 0 (eL ([] : List T_impl_Value)) true)] [sc 0 a0] ?_
 refine pwp_seq ?_
 refine srve 59 [(0, .ptr 0 0 0), (1, A a1), (2, I a2), (7, .arr 3 0 (eL ([] : List T_impl_Value)) true), (8, I 0)] [sc 0 a0] ?_
 refine pwp_block ?_
 refine pwp_loop (ι := Nat × Int × T_spec_l20Rd × (List T_impl_Value)) (fun (f6, x3, x4, x5) => (⟨59, [(0, .ptr 0 0 0), (1, A a1), (2, I a2), (7, rf 1 0 3 x5), (8, I x3)], [sc 0 x4, sl 0 x5]⟩ : St)) (fun (f6, x3, x4, x5) => spec_l20Fit_l0 a1 a2 f6 x3 x4 x5 = some y) Prod.fst (FUEL, 0, a0, ([] : List T_impl_Value)) h (Imp.thawS 7 [0, 1, 2, 7, 8] (by kernel_rfl)) ?_
 rintro ⟨f6, x3, x4, x5⟩ h
 dsimp only at h ⊢
 rcases f6 with _ | f6
 cases h
 rw [spec_l20Fit_l0] at h
 refine pwp_seq ?_
 refine srve 59 [(0, .ptr 0 0 0), (1, A a1), (2, I a2), (7, rf 1 0 3 x5), (8, I x3), (13, B (decide (x3 < (a1.length : Int))))] [sc 0 x4, sl 0 x5] ?_
 refine pc h (fun h => ?_) (fun h => ?_)
 refine pwp_skip ?_
 refine pwp_seq ?_
 refine pwp_block ?_
 refine rv 4 59 [(0, .ptr 0 0 0), (1, A a1), (2, I a2), (8, I x3), (16, rf 1 0 3 x5), (17, .ptr 0 0 0), (18, A a1), (19, I x3)] [sc 0 x4, sl 0 x5] ?_
 obtain ⟨v9, hv10, h⟩ := bindS h
 refine opsP_idx τ_ok 20 hv10 (by kernel_rfl) ?_
 refine v 1 59 [(0, .ptr 0 0 0), (1, A a1), (2, I a2), (8, I x3), (16, rf 1 0 3 x5), (17, .ptr 0 0 0), (21, E v9)] [sc 0 x4, sl 0 x5] ?_
 obtain ⟨v11, hv12, h⟩ := bindS h
 refine cB 22 0 0 (ok_spec_l20Like hv12) ?_
 refine v 1 59 [(0, .ptr 0 0 0), (1, A a1), (2, I a2), (8, I x3), (16, rf 1 0 3 x5), (23, .arr 3 ([v11.1] : List T_impl_Value).length (eL ([v11.1] : List T_impl_Value)) true)] [sc 0 v11.2, sl 0 x5] ?_
 obtain ⟨v13, hv14, h⟩ := bindS h
 refine opsP_app τ_ok 24 1 0 (pn hQ) hv14 (by kernel_rfl) ?_
 refine ve 1 59 [(0, .ptr 0 0 0), (1, A a1), (2, I a2), (7, rf 1 1 3 v13), (8, I x3)] [sc 0 v11.2, sl 1 v13] ?_
 refine rve 59 [(0, .ptr 0 0 0), (1, A a1), (2, I a2), (7, rf 1 1 3 v13), (8, I (w64 (x3 + 1)))] [sc 0 v11.2, sl 1 v13] ?_
 exact ⟨(f6, (w64 (x3 + 1)), v11.2, v13), h, Nat.lt_succ_self _, (it (st' := ⟨59, [(0, .ptr 0 0 0), (1, A a1), (2, I a2), (7, rf 1 1 3 v13), (8, I (w64 (x3 + 1)))], [sc 0 v11.2, sl 1 v13]⟩) [0, 1, 2, 7, 8]).trans (Imp.reverS 1 1 (eL v13) [0, 1, 2, 7, 8] (by kernel_rfl) (by exact (And.intro (rfl) (And.intro (eL_frz _) trivial))) (by kernel_rfl))⟩
 refine pwp_exit ?_
 refine pwp_seq ?_
 refine srv 2 59 [(0, .ptr 0 0 0), (7, rf 1 0 3 x5), (25, .ptr 0 0 0), (26, I a2)] [sc 0 x4, sl 0 x5] ?_
 obtain ⟨v15, hv16, h⟩ := bindS h
 refine cB 27 0 0 (ok_spec_l20Rd_odd hv16) ?_
 refine ve 0 59 [(0, .ptr 0 0 0), (7, rf 1 0 3 x5), (27, B v15.1)] [sc 0 v15.2, sl 0 x5] ?_
 refine pc h (fun h => ?_) (fun h => ?_)
 refine srv 1 59 [(0, .ptr 0 0 0), (7, rf 1 0 3 x5), (28, .ptr 0 0 0)] [sc 0 v15.2, sl 0 x5] ?_
 obtain ⟨v18, hv19, h⟩ := bindS h
 refine cB 29 0 0 (ok_spec_l20Rd_pick hv19) ?_
 refine ve 0 59 [(0, .ptr 0 0 0), (7, rf 1 0 3 x5), (29, I v18.1)] [sc 0 v18.2, sl 0 x5] ?_
 refine pwp_block ?_
 refine srve 59 [(0, .ptr 0 0 0), (7, rf 1 0 3 x5), (29, I v18.1), (39, B (v18.1 == 0))] [sc 0 v18.2, sl 0 x5] ?_
 refine pc h (fun h => ?_) (fun h => ?_)
 refine rv 3 59 [(41, rf 1 0 3 x5), (43, .arr 3 ([(T_impl_Value.mk 0 0 (ByteArray.mk #[]))] : List T_impl_Value).length (eL ([(T_impl_Value.mk 0 0 (ByteArray.mk #[]))] : List T_impl_Value)) true)] [sc 0 v18.2, sl 0 x5] ?_
 obtain ⟨v21, hv22, h⟩ := bindS h
 refine opsP_app τ_ok 44 1 0 (pn hQ) hv22 (by kernel_rfl) ?_
 refine ve 1 59 [(7, rf 1 1 3 v21)] [sc 0 v18.2, sl 1 v21] ?_
 refine srve 59 [(6, rf 1 1 3 v21)] [sc 0 v18.2, sl 1 v21] ?_
 have h := si h
 subst h
 exact pwp_ret ⟨.inr rfl, rf 1 1 3 v21, _, 0, by kernel_rfl, (OutP.list (v := 1) (by kernel_rfl)), by decide, by decide, by kernel_rfl⟩
 refine srve 59 [(0, .ptr 0 0 0), (7, rf 1 0 3 x5), (45, B (v18.1 == 1))] [sc 0 v18.2, sl 0 x5] ?_
 refine pc h (fun h => ?_) (fun h => ?_)
 refine srve 59 [(0, .ptr 0 0 0), (7, rf 1 0 3 x5), (49, B (decide ((x5.length : Int) > 0)))] [sc 0 v18.2, sl 0 x5] ?_
 refine pc h (fun h => ?_) (fun h => ?_)
 refine rv 4 59 [(0, .ptr 0 0 0), (7, rf 1 0 3 x5), (50, rf 1 0 3 x5), (51, .ptr 0 0 0), (53, I (x5.length : Int))] [sc 0 v18.2, sl 0 x5] ?_
 obtain ⟨v25, hv26, h⟩ := bindS h
 refine cB 54 0 0 (ok_spec_l20Rd_pick hv26) ?_
 refine v 1 59 [(7, rf 1 0 3 x5), (50, rf 1 0 3 x5), (54, I v25.1), (55, .ptr 0 0 0)] [sc 0 v25.2, sl 0 x5] ?_
 obtain ⟨v27, hv28, h⟩ := bindS h
 refine cB 56 0 0 (ok_spec_l20Value hv28) ?_
 obtain ⟨v29, hv30, h⟩ := bindS h
 refine opsP_idr τ_ok 57 1 0 x5.length hv30 rfl (by kernel_rfl) ?_
 refine v 0 59 [(7, rf 1 0 3 x5), (56, E v27.1), (57, .ptr 1 0 (v25.1.toNat * 3))] [sc 0 v27.2, sl 0 x5] ?_
 refine opsP_ste (vs := [I v27.1.fKind, I v27.1.fN, S v27.1.fS]) τ_ok 84 1 0 0 v27.1 hv30 (by kernel_rfl) (by kernel_rfl) (by kernel_rfl) (renC (ren_ref (List.length_set ..).symm) (renC trivial (renC trivial renC0))) ?_
 refine ve 0 59 [(7, .ref 1 0 0 3 (x5.set v25.1.toNat v27.1).length false)] [sc 0 v27.2, some ⟨0, eL (x5.set v25.1.toNat v27.1)⟩] ?_
 refine srve 59 [(6, .ref 1 0 0 3 (x5.set v25.1.toNat v27.1).length false)] [sc 0 v27.2, some ⟨0, eL (x5.set v25.1.toNat v27.1)⟩] ?_
 have h := si h
 subst h
 exact pwp_ret ⟨.inr rfl, .ref 1 0 0 3 (x5.set v25.1.toNat v27.1).length false, _, 0, by kernel_rfl, (OutP.list (v := 0) (by kernel_rfl)), by decide, by decide, by kernel_rfl⟩
 refine pwp_skip ?_
 refine srve 59 [(6, rf 1 0 3 x5)] [sc 0 v18.2, sl 0 x5] ?_
 have h := si h
 subst h
 exact pwp_ret ⟨.inr rfl, rf 1 0 3 x5, _, 0, by kernel_rfl, (OutP.list (v := 0) (by kernel_rfl)), by decide, by decide, by kernel_rfl⟩
 refine rv 2 59 [(0, .ptr 0 0 0), (30, rf 1 0 3 x5), (31, .ptr 0 0 0)] [sc 0 v18.2, sl 0 x5] ?_
 obtain ⟨v31, hv32, h⟩ := bindS h
 refine cB 32 0 0 (ok_spec_l20Value hv32) ?_
 refine v 1 59 [(0, .ptr 0 0 0), (30, rf 1 0 3 x5), (32, E v31.1), (33, .ptr 0 0 0)] [sc 0 v31.2, sl 0 x5] ?_
 obtain ⟨v33, hv34, h⟩ := bindS h
 refine cB 34 0 0 (ok_spec_l20Value hv34) ?_
 refine v 1 59 [(30, rf 1 0 3 x5), (32, E v31.1), (34, E v33.1), (35, .ptr 0 0 0)] [sc 0 v33.2, sl 0 x5] ?_
 obtain ⟨v35, hv36, h⟩ := bindS h
 refine cB 36 0 0 (ok_spec_l20Value hv36) ?_
 refine v 1 59 [(30, rf 1 0 3 x5), (37, .arr 3 ([v31.1, v33.1, v35.1] : List T_impl_Value).length (eL ([v31.1, v33.1, v35.1] : List T_impl_Value)) true)] [sc 0 v35.2, sl 0 x5] ?_
 obtain ⟨v37, hv38, h⟩ := bindS h
 refine opsP_app τ_ok 38 1 0 (pn hQ) hv38 (by kernel_rfl) ?_
 refine ve 1 59 [(7, rf 1 1 3 v37)] [sc 0 v35.2, sl 1 v37] ?_
 refine srve 59 [(6, rf 1 1 3 v37)] [sc 0 v35.2, sl 1 v37] ?_
 have h := si h
 subst h
 exact pwp_ret ⟨.inr rfl, rf 1 1 3 v37, _, 0, by kernel_rfl, (OutP.list (v := 1) (by kernel_rfl)), by decide, by decide, by kernel_rfl⟩
 refine pwp_skip ?_
 refine srve 59 [(6, rf 1 0 3 x5)] [sc 0 v15.2, sl 0 x5] ?_
 have h := si h
 subst h
 exact pwp_ret ⟨.inr rfl, rf 1 0 3 x5, _, 0, by kernel_rfl, (OutP.list (v := 0) (by kernel_rfl)), by decide, by decide, by kernel_rfl⟩
def cmp_Compare_int (a0 : Int) (a1 : Int) : Option Int := (cmp_isNaN_int a0).bind fun v1 => (cmp_isNaN_int a1).bind fun v3 => bif v1 then bif v3 then some 0 else some (-1) else bif v3 then some 1 else bif (decide (a0 < a1)) then some (-1) else bif (decide (a0 > a1)) then some 1 else some 0
theorem ok_cmp_Compare_int {a0 : Int} {a1 : Int} {y : Int} (h : cmp_Compare_int a0 a1 = some y) : OK Try.prog 153 [I a0, I a1] (I y) := by
 refine ow Try.func153 fun Γ hX => ?_
 unfold cmp_Compare_int at h
 refine srve 20 [(0, I a0), (1, I a1)] [] ?_
 refine srv 1 20 [(0, I a0), (1, I a1), (7, I a0)] [] ?_
 obtain ⟨v1, hv2, h⟩ := bindS h
 refine cF 8 (ok_cmp_isNaN_int hv2) ?_
 refine ve 1 20 [(0, I a0), (1, I a1), (5, B v1)] [] ?_
 refine srv 1 20 [(0, I a0), (1, I a1), (5, B v1), (9, I a1)] [] ?_
 obtain ⟨v3, hv4, h⟩ := bindS h
 refine cF 10 (ok_cmp_isNaN_int hv4) ?_
 refine ve 1 20 [(0, I a0), (1, I a1), (5, B v1), (6, B v3)] [] ?_
 refine pwp_seq ?_
 refine srve 20 [(0, I a0), (1, I a1), (6, B v3), (11, B v1)] [] ?_
 refine pc h (fun h => ?_) (fun h => ?_)
 refine pwp_seq ?_
 refine srve 20 [(12, B v3)] [] ?_
 refine pc h (fun h => ?_) (fun h => ?_)
 refine srve 20 [(4, I 0)] [] ?_
 cases h
 exact pwp_ret rz
 refine pwp_skip ?_
 refine srve 20 [(4, I (-1))] [] ?_
 cases h
 exact pwp_ret rz
 refine pwp_skip ?_
 refine pwp_seq ?_
 refine srve 20 [(0, I a0), (1, I a1), (13, B v3)] [] ?_
 refine pc h (fun h => ?_) (fun h => ?_)
 refine srve 20 [(4, I 1)] [] ?_
 cases h
 exact pwp_ret rz
 refine pwp_skip ?_
 refine pwp_seq ?_
 refine srve 20 [(0, I a0), (1, I a1), (16, B (decide (a0 < a1)))] [] ?_
 refine pc h (fun h => ?_) (fun h => ?_)
 refine srve 20 [(4, I (-1))] [] ?_
 cases h
 exact pwp_ret rz
 refine pwp_skip ?_
 refine pwp_seq ?_
 refine srve 20 [(19, B (decide (a0 > a1)))] [] ?_
 refine pc h (fun h => ?_) (fun h => ?_)
 refine srve 20 [(4, I 1)] [] ?_
 cases h
 exact pwp_ret rz
 refine pwp_skip ?_
 refine srve 20 [(4, I 0)] [] ?_
 cases h
 exact pwp_ret rz
def spec_l20Any (a0 : T_spec_l20Rd) (a1 : Int) : Option ((List T_impl_Value) × T_spec_l20Rd) := (spec_l20Columns a0 0).bind fun v1 => (spec_l20Fit v1.2 v1.1 a1).bind fun v3 => some (v3.1, v3.2)
theorem ok_spec_l20Any {a0 : T_spec_l20Rd} {a1 : Int} {y : (List T_impl_Value) × T_spec_l20Rd} (h : spec_l20Any a0 a1 = some y) : OKb Try.prog 170 (Enc.cells a0) [I a1] (A y.1) (Enc.cells y.2) := by
 refine OKb_of_pwp τ_ok Try.func170 rfl (by kernel_rfl) rfl (Enc.frz _) (Enc.frz _) fun Γ hQ => ?_
 unfold spec_l20Any at h
 refine srve 10 [(0, .ptr 0 0 0), (1, I a1)] [sc 0 a0] ?_
 refine srv 2 10 [(1, I a1), (5, .ptr 0 0 0), (6, .ptr 0 0 0)] [sc 0 a0] ?_
 obtain ⟨v1, hv2, h⟩ := bindS h
 refine cBo 7 0 0 (ok_spec_l20Columns hv2) ?_
 refine v 1 10 [(5, .ptr 0 0 0), (7, A v1.1), (8, I a1)] [sc 0 v1.2] ?_
 obtain ⟨v3, hv4, h⟩ := bindS h
 refine cBo 9 0 0 (ok_spec_l20Fit hv4) ?_
 refine ve 1 10 [(4, A v3.1)] [sc 0 v3.2] ?_
 have h := si h
 subst h
 exact pwp_ret ⟨.inr rfl, A v3.1, _, 0, by kernel_rfl, (OutP.frz (by kernel_rfl)), by decide, by decide, by kernel_rfl⟩
def cmp_Compare_string (a0 : ByteArray) (a1 : ByteArray) : Option Int := (cmp_isNaN_string a0).bind fun v1 => (cmp_isNaN_string a1).bind fun v3 => bif v1 then bif v3 then some 0 else some (-1) else bif v3 then some 1 else bif (Op.bytesLess a0.toList a1.toList) then some (-1) else bif (!Op.bytesLess a0.toList a1.toList && !(a0.toList == a1.toList)) then some 1 else some 0
theorem ok_cmp_Compare_string {a0 : ByteArray} {a1 : ByteArray} {y : Int} (h : cmp_Compare_string a0 a1 = some y) : OK Try.prog 189 [S a0, S a1] (I y) := by
 refine ow Try.func189 fun Γ hX => ?_
 unfold cmp_Compare_string at h
 refine srve 20 [(0, S a0), (1, S a1)] [] ?_
 refine srv 1 20 [(0, S a0), (1, S a1), (7, S a0)] [] ?_
 obtain ⟨v1, hv2, h⟩ := bindS h
 refine cF 8 (ok_cmp_isNaN_string hv2) ?_
 refine ve 1 20 [(0, S a0), (1, S a1), (5, B v1)] [] ?_
 refine srv 1 20 [(0, S a0), (1, S a1), (5, B v1), (9, S a1)] [] ?_
 obtain ⟨v3, hv4, h⟩ := bindS h
 refine cF 10 (ok_cmp_isNaN_string hv4) ?_
 refine ve 1 20 [(0, S a0), (1, S a1), (5, B v1), (6, B v3)] [] ?_
 refine pwp_seq ?_
 refine srve 20 [(0, S a0), (1, S a1), (6, B v3), (11, B v1)] [] ?_
 refine pc h (fun h => ?_) (fun h => ?_)
 refine pwp_seq ?_
 refine srve 20 [(12, B v3)] [] ?_
 refine pc h (fun h => ?_) (fun h => ?_)
 refine srve 20 [(4, I 0)] [] ?_
 cases h
 exact pwp_ret rz
 refine pwp_skip ?_
 refine srve 20 [(4, I (-1))] [] ?_
 cases h
 exact pwp_ret rz
 refine pwp_skip ?_
 refine pwp_seq ?_
 refine srve 20 [(0, S a0), (1, S a1), (13, B v3)] [] ?_
 refine pc h (fun h => ?_) (fun h => ?_)
 refine srve 20 [(4, I 1)] [] ?_
 cases h
 exact pwp_ret rz
 refine pwp_skip ?_
 refine pwp_seq ?_
 refine srve 20 [(0, S a0), (1, S a1), (16, B (Op.bytesLess a0.toList a1.toList))] [] ?_
 refine pc h (fun h => ?_) (fun h => ?_)
 refine srve 20 [(4, I (-1))] [] ?_
 cases h
 exact pwp_ret rz
 refine pwp_skip ?_
 refine pwp_seq ?_
 refine srve 20 [(19, B (!Op.bytesLess a0.toList a1.toList && !(a0.toList == a1.toList)))] [] ?_
 refine pc h (fun h => ?_) (fun h => ?_)
 refine srve 20 [(4, I 1)] [] ?_
 cases h
 exact pwp_ret rz
 refine pwp_skip ?_
 refine srve 20 [(4, I 0)] [] ?_
 cases h
 exact pwp_ret rz
def spec_RowOk_l0 (a0 : List T_impl_Value) : Nat → Int → Option Bool
 | 0, _ => none
 | f2 + 1, x1 => bif (decide (x1 < (a0.length : Int))) then (getI a0 x1).bind fun v5 => (spec_ValueOk v5).bind fun v7 => bif (!v7) then some false else (spec_RowOk_l0 a0 f2) (w64 (x1 + 1)) else some (decide ((a0.length : Int) ≤ 4))
def spec_RowOk (a0 : List T_impl_Value) : Option Bool := spec_RowOk_l0 a0 FUEL 0
theorem ok_spec_RowOk {a0 : List T_impl_Value} {y : Bool} (h : spec_RowOk a0 = some y) : OK Try.prog 49 [A a0] (B y) := by
 refine ow Try.func49 fun Γ hX => ?_
 unfold spec_RowOk at h
 refine srve 19 [(0, A a0)] [] ?_
 refine pwp_seq ?_
 refine srve 19 [(0, A a0), (3, I 0)] [] ?_
 refine pwp_block ?_
 refine pwp_loop (ι := Nat × Int) (fun (f2, x1) => (⟨19, [(0, A a0), (3, I x1)], []⟩ : St)) (fun (f2, x1) => spec_RowOk_l0 a0 f2 x1 = some y) Prod.fst (FUEL, 0) h (it [0, 3]) ?_
 rintro ⟨f2, x1⟩ h
 dsimp only at h ⊢
 rcases f2 with _ | f2
 cases h
 rw [spec_RowOk_l0] at h
 refine pwp_seq ?_
 refine srve 19 [(0, A a0), (3, I x1), (7, B (decide (x1 < (a0.length : Int))))] [] ?_
 refine pc h (fun h => ?_) (fun h => ?_)
 refine pwp_skip ?_
 refine pwp_seq ?_
 refine pwp_block ?_
 refine srv 2 19 [(0, A a0), (3, I x1), (10, A a0), (11, I x1)] [] ?_
 obtain ⟨v5, hv6, h⟩ := bindS h
 refine opsP_idx τ_ok 12 hv6 (by kernel_rfl) ?_
 refine v 1 19 [(0, A a0), (3, I x1), (13, E v5)] [] ?_
 obtain ⟨v7, hv8, h⟩ := bindS h
 refine cF 14 (ok_spec_ValueOk hv8) ?_
 refine ve 1 19 [(0, A a0), (3, I x1), (15, B (!v7))] [] ?_
 refine pc h (fun h => ?_) (fun h => ?_)
 refine srve 19 [(2, B false)] [] ?_
 cases h
 exact pwp_ret rz
 refine pwp_skip ?_
 refine rve 19 [(0, A a0), (3, I (w64 (x1 + 1)))] [] ?_
 exact ⟨(f2, (w64 (x1 + 1))), h, Nat.lt_succ_self _, it [0, 3]⟩
 refine pwp_exit ?_
 refine srve 19 [(2, B (decide ((a0.length : Int) ≤ 4)))] [] ?_
 cases h
 exact pwp_ret rz
def impl_ValueOk (a0 : T_impl_Value) : Option Bool := (impl_Value_ok a0).bind fun v1 => some v1
theorem ok_impl_ValueOk {a0 : T_impl_Value} {y : Bool} (h : impl_ValueOk a0 = some y) : OK Try.prog 59 [E a0] (B y) := by
 refine ow Try.func59 fun Γ hX => ?_
 unfold impl_ValueOk at h
 refine srve 5 [(1, pf a0 0)] [] ?_
 refine srv 1 5 [(3, E a0)] [] ?_
 obtain ⟨v1, hv2, h⟩ := bindS h
 refine cF 4 (ok_impl_Value_ok hv2) ?_
 refine ve 1 5 [(2, B v1)] [] ?_
 cases h
 exact pwp_ret rz
def impl_changesOf_j2 (x2 : Int) (K5 : Int → (List T_impl_Change) → Option (List T_impl_Change)) (v9 : T_impl_Version × Bool) (x13 : List T_impl_Change) : Option (List T_impl_Change) := bif v9.2 then (impl_clone_impl_Value v9.1.fRow).bind fun v15 => (app x13 ([(T_impl_Change.mk 0 v15 true)] : List T_impl_Change)).bind fun v17 => K5 (w64 (x2 + 1)) v17 else K5 (w64 (x2 + 1)) x13
def impl_changesOf_j1 (x2 : Int) (x3 : List T_impl_Change) (K5 : Int → (List T_impl_Change) → Option (List T_impl_Change)) (v7 : T_impl_Version × Bool) (v9 : T_impl_Version × Bool) (x11 : Bool) : Option (List T_impl_Change) := bif x11 then K5 (w64 (x2 + 1)) x3 else bif v7.2 then (impl_clone_impl_Value v7.1.fRow).bind fun v20 => (app x3 ([(T_impl_Change.mk 0 v20 false)] : List T_impl_Change)).bind fun v22 => impl_changesOf_j2 x2 K5 v9 v22 else impl_changesOf_j2 x2 K5 v9 x3
def impl_changesOf_l0 (a0 : List T_impl_Version) (a1 : Int) : Nat → Int → (List T_impl_Change) → Option (List T_impl_Change)
 | 0, _, _ => none
 | f4 + 1, x2, x3 => bif (decide (x2 < 5)) then (impl_seen a0 x2 a1).bind fun v7 => (impl_seen a0 x2 (w64 (a1 + 1))).bind fun v9 => bif (v7.2 == v9.2) then (slices_Equal_impl_Value_impl_Value v7.1.fRow v9.1.fRow).bind fun v24 => impl_changesOf_j1 x2 x3 (impl_changesOf_l0 a0 a1 f4) v7 v9 v24 else impl_changesOf_j1 x2 x3 (impl_changesOf_l0 a0 a1 f4) v7 v9 false else (slices_Clip_impl_Change_impl_Change x3).bind fun v27 => some v27
def impl_changesOf (a0 : List T_impl_Version) (a1 : Int) : Option (List T_impl_Change) := impl_changesOf_l0 a0 a1 FUEL 0 ([] : List T_impl_Change)
theorem ok_impl_changesOf {a0 : List T_impl_Version} {a1 : Int} {y : List T_impl_Change} (h : impl_changesOf a0 a1 = some y) : OK Try.prog 86 [A a0, I a1] (A y) := by
 refine ow Try.func86 fun Γ hX => ?_
 unfold impl_changesOf at h
 refine srveM [7, 9] 58 [(0, A a0), (1, I a1)] [] ?_
 refine srveM [7, 9] 58 [(0, A a0), (1, I a1), (5, .arr 3 0 (eL ([] : List T_impl_Change)) true)] [] ?_
 refine pwp_seq ?_
 refine srveM [7, 9] 58 [(0, A a0), (1, I a1), (5, .arr 3 0 (eL ([] : List T_impl_Change)) true), (11, I 0)] [] ?_
 refine pwp_block ?_
 refine pwp_loop (ι := Nat × Int × (List T_impl_Change)) (fun (f4, x2, x3) => (⟨58, [(0, A a0), (1, I a1), (5, rf 0 0 3 x3), (11, I x2)], [sl 0 x3]⟩ : St)) (fun (f4, x2, x3) => impl_changesOf_l0 a0 a1 f4 x2 x3 = some y) Prod.fst (FUEL, 0, ([] : List T_impl_Change)) h (Imp.thawS 5 [0, 1, 5, 11] (by kernel_rfl)) ?_
 rintro ⟨f4, x2, x3⟩ h
 dsimp only at h ⊢
 rcases f4 with _ | f4
 cases h
 rw [impl_changesOf_l0] at h
 refine srveM [7, 9] 58 [(0, A a0), (1, I a1), (5, rf 0 0 3 x3), (11, I x2), (12, B (decide (x2 < 5)))] [sl 0 x3] ?_
 refine pwp_seq ?_
 refine pc h (fun h => ?_) (fun h => ?_)
 refine pwp_skip ?_
 refine pwp_seq ?_
 refine pwp_block ?_
 refine srveM [7, 9] 58 [(0, A a0), (1, I a1), (5, rf 0 0 3 x3), (6, I x2), (11, I x2)] [sl 0 x3] ?_
 refine srvM [7, 9] 3 58 [(0, A a0), (1, I a1), (5, rf 0 0 3 x3), (6, I x2), (11, I x2), (15, A a0), (16, I x2), (17, I a1)] [sl 0 x3] ?_
 obtain ⟨v7, hv8, h⟩ := bindS h
 refine opsP_callF τ 18 (ok_impl_seen hv8) (FzTo.tup (FzToL.cons (FzTo.frz rfl) (FzToL.cons (FzTo.frz rfl) FzToL.nil))) rfl (by kernel_rfl) ?_
 refine veM [7, 9] 6 58 [(0, A a0), (1, I a1), (5, rf 0 0 3 x3), (6, I x2), (7, .ptr 1 0 0), (8, B v7.2), (11, I x2)] [sl 0 x3, sc 0 v7.1] ?_
 refine srvM [7, 9] 4 58 [(0, A a0), (1, I a1), (5, rf 0 0 3 x3), (7, .ptr 1 0 0), (8, B v7.2), (11, I x2), (22, A a0), (23, I x2), (25, I (w64 (a1 + 1)))] [sl 0 x3, sc 0 v7.1] ?_
 obtain ⟨v9, hv10, h⟩ := bindS h
 refine opsP_callF τ 26 (ok_impl_seen hv10) (FzTo.tup (FzToL.cons (FzTo.frz rfl) (FzToL.cons (FzTo.frz rfl) FzToL.nil))) rfl (by kernel_rfl) ?_
 refine veM [7, 9] 6 58 [(0, A a0), (1, I a1), (5, rf 0 0 3 x3), (7, .ptr 1 0 0), (8, B v7.2), (9, .ptr 2 0 0), (10, B v9.2), (11, I x2)] [sl 0 x3, sc 0 v7.1, sc 0 v9.1] ?_
 refine pwp_seq ?_
 refine pwp_seq ?_
 refine pwp_join (σ := Bool) (fun x11 => (⟨58, [(0, A a0), (1, I a1), (5, rf 0 0 3 x3), (7, .ptr 1 0 0), (8, B v7.2), (9, .ptr 2 0 0), (10, B v9.2), (11, I x2), (38, B x11)], [sl 0 x3, sc 0 v7.1, sc 0 v9.1]⟩ : St)) (fun x11 => impl_changesOf_j1 x2 x3 (impl_changesOf_l0 a0 a1 f4) v7 v9 x11 = some y) ?_ ?_
 refine rvM [7, 9] 4 58 [(0, A a0), (1, I a1), (5, rf 0 0 3 x3), (7, .ptr 1 0 0), (8, B v7.2), (9, .ptr 2 0 0), (10, B v9.2), (11, I x2), (32, B (v7.2 == v9.2))] [sl 0 x3, sc 0 v7.1, sc 0 v9.1] ?_
 rcases fk (v7.2 == v9.2) with hc26 | hc26
 replace h := bT hc26 h
 rw [hc26]
 refine vM [7, 9] 4 58 [(0, A a0), (1, I a1), (5, rf 0 0 3 x3), (7, .ptr 1 0 0), (8, B v7.2), (9, .ptr 2 0 0), (10, B v9.2), (11, I x2), (32, B true), (33, .ptr 1 0 3), (34, A v7.1.fRow), (35, .ptr 2 0 3), (36, A v9.1.fRow)] [sl 0 x3, sc 0 v7.1, sc 0 v9.1] ?_
 obtain ⟨v24, hv25, h⟩ := bindS h
 refine cF 37 (ok_slices_Equal_impl_Value_impl_Value hv25) ?_
 refine veM [7, 9] 1 58 [(0, A a0), (1, I a1), (5, rf 0 0 3 x3), (7, .ptr 1 0 0), (8, B v7.2), (9, .ptr 2 0 0), (10, B v9.2), (11, I x2), (33, .ptr 1 0 3), (34, A v7.1.fRow), (35, .ptr 2 0 3), (36, A v9.1.fRow), (37, B v24), (38, B v24)] [sl 0 x3, sc 0 v7.1, sc 0 v9.1] ?_
 exact ⟨v24, h, it [0, 1, 5, 7, 8, 9, 10, 11, 38]⟩
 replace h := bF hc26 h
 rw [hc26]
 refine veM [7, 9] 6 58 [(0, A a0), (1, I a1), (5, rf 0 0 3 x3), (7, .ptr 1 0 0), (8, B v7.2), (9, .ptr 2 0 0), (10, B v9.2), (11, I x2), (33, .lit undef), (34, .lit undef), (35, .lit undef), (36, .lit undef), (37, .lit undef), (38, B false)] [sl 0 x3, sc 0 v7.1, sc 0 v9.1] ?_
 exact ⟨false, h, it [0, 1, 5, 7, 8, 9, 10, 11, 38]⟩
 rintro x11 h
 unfold impl_changesOf_j1 at h
 refine pc h (fun h => ?_) (fun h => ?_)
 refine pwp_exit ?_
 refine rveM [7, 9] 58 [(0, A a0), (1, I a1), (5, rf 0 0 3 x3), (11, I (w64 (x2 + 1)))] [sl 0 x3, sc 0 v7.1, sc 0 v9.1] ?_
 exact ⟨(f4, (w64 (x2 + 1)), x3), h, Nat.lt_succ_self _, (it (st' := ⟨58, [(0, A a0), (1, I a1), (5, rf 0 0 3 x3), (11, I (w64 (x2 + 1)))], [sl 0 x3, sc 0 v7.1, sc 0 v9.1]⟩) [0, 1, 5, 11]).trans (Imp.truncS 1 (nx hX) (by kernel_rfl) (allBelow_mem (by exact (And.intro rfl (And.intro rfl (And.intro rfl (And.intro rfl trivial)))))) (by exact (And.intro (frz_below (eL_frz _)) trivial)) (by kernel_rfl))⟩
 refine pwp_skip ?_
 refine pwp_seq ?_
 refine pwp_join (σ := (List T_impl_Change)) (fun x13 => (⟨58, [(0, A a0), (1, I a1), (5, rf 0 0 3 x13), (9, .ptr 2 0 0), (10, B v9.2), (11, I x2)], [sl 0 x13, sc 0 v7.1, sc 0 v9.1]⟩ : St)) (fun x13 => impl_changesOf_j2 x2 (impl_changesOf_l0 a0 a1 f4) v9 x13 = some y) ?_ ?_
 refine srveM [7, 9] 58 [(0, A a0), (1, I a1), (5, rf 0 0 3 x3), (7, .ptr 1 0 0), (9, .ptr 2 0 0), (10, B v9.2), (11, I x2), (39, B v7.2)] [sl 0 x3, sc 0 v7.1, sc 0 v9.1] ?_
 refine pc h (fun h => ?_) (fun h => ?_)
 refine rvM [7, 9] 3 58 [(0, A a0), (1, I a1), (9, .ptr 2 0 0), (10, B v9.2), (11, I x2), (40, rf 0 0 3 x3), (42, A v7.1.fRow)] [sl 0 x3, sc 0 v7.1, sc 0 v9.1] ?_
 obtain ⟨v20, hv21, h⟩ := bindS h
 refine cF 43 (ok_impl_clone_impl_Value hv21) ?_
 refine vM [7, 9] 2 58 [(0, A a0), (1, I a1), (9, .ptr 2 0 0), (10, B v9.2), (11, I x2), (40, rf 0 0 3 x3), (45, .arr 3 ([(T_impl_Change.mk 0 v20 false)] : List T_impl_Change).length (eL ([(T_impl_Change.mk 0 v20 false)] : List T_impl_Change)) true)] [sl 0 x3, sc 0 v7.1, sc 0 v9.1] ?_
 obtain ⟨v22, hv23, h⟩ := bindS h
 refine opsP_app τ_ok 46 0 0 (nx hX) hv23 (by kernel_rfl) ?_
 refine veM [7, 9] 1 58 [(0, A a0), (1, I a1), (5, rf 0 1 3 v22), (9, .ptr 2 0 0), (10, B v9.2), (11, I x2)] [sl 1 v22, sc 0 v7.1, sc 0 v9.1] ?_
 exact ⟨v22, h, (it (st' := ⟨58, [(0, A a0), (1, I a1), (5, rf 0 1 3 v22), (9, .ptr 2 0 0), (10, B v9.2), (11, I x2)], [sl 1 v22, sc 0 v7.1, sc 0 v9.1]⟩) [0, 1, 5, 9, 10, 11]).trans (Imp.reverS 0 1 (eL v22) [0, 1, 5, 9, 10, 11] (by kernel_rfl) (by exact (And.intro (eL_frz _) (And.intro (rfl) (And.intro (rfl) trivial)))) (by kernel_rfl))⟩
 refine pwp_skip ?_
 exact ⟨x3, h, it [0, 1, 5, 9, 10, 11]⟩
 rintro x13 h
 unfold impl_changesOf_j2 at h
 refine srveM [7, 9] 58 [(0, A a0), (1, I a1), (5, rf 0 0 3 x13), (9, .ptr 2 0 0), (11, I x2), (47, B v9.2)] [sl 0 x13, sc 0 v7.1, sc 0 v9.1] ?_
 refine pc h (fun h => ?_) (fun h => ?_)
 refine rvM [7, 9] 3 58 [(0, A a0), (1, I a1), (11, I x2), (48, rf 0 0 3 x13), (50, A v9.1.fRow)] [sl 0 x13, sc 0 v7.1, sc 0 v9.1] ?_
 obtain ⟨v15, hv16, h⟩ := bindS h
 refine cF 51 (ok_impl_clone_impl_Value hv16) ?_
 refine vM [7, 9] 2 58 [(0, A a0), (1, I a1), (11, I x2), (48, rf 0 0 3 x13), (53, .arr 3 ([(T_impl_Change.mk 0 v15 true)] : List T_impl_Change).length (eL ([(T_impl_Change.mk 0 v15 true)] : List T_impl_Change)) true)] [sl 0 x13, sc 0 v7.1, sc 0 v9.1] ?_
 obtain ⟨v17, hv18, h⟩ := bindS h
 refine opsP_app τ_ok 54 0 0 (nx hX) hv18 (by kernel_rfl) ?_
 refine veM [7, 9] 1 58 [(0, A a0), (1, I a1), (5, rf 0 1 3 v17), (11, I x2)] [sl 1 v17, sc 0 v7.1, sc 0 v9.1] ?_
 refine rveM [7, 9] 58 [(0, A a0), (1, I a1), (5, rf 0 1 3 v17), (11, I (w64 (x2 + 1)))] [sl 1 v17, sc 0 v7.1, sc 0 v9.1] ?_
 exact ⟨(f4, (w64 (x2 + 1)), v17), h, Nat.lt_succ_self _, qt (it (st' := ⟨58, [(0, A a0), (1, I a1), (5, rf 0 1 3 v17), (11, I (w64 (x2 + 1)))], [sl 1 v17, sc 0 v7.1, sc 0 v9.1]⟩) [0, 1, 5, 11]) (qt (Imp.truncS (st' := ⟨58, [(0, A a0), (1, I a1), (5, rf 0 1 3 v17), (11, I (w64 (x2 + 1)))], [sl 1 v17]⟩) 1 (nx hX) (by kernel_rfl) (allBelow_mem (by exact (And.intro rfl (And.intro rfl (And.intro rfl (And.intro rfl trivial)))))) (by exact (And.intro (frz_below (eL_frz _)) trivial)) (by kernel_rfl)) (Imp.reverS 0 1 (eL v17) [0, 1, 5, 11] (by kernel_rfl) (by exact (And.intro (eL_frz _) trivial)) (by kernel_rfl)))⟩
 refine pwp_skip ?_
 refine rveM [7, 9] 58 [(0, A a0), (1, I a1), (5, rf 0 0 3 x13), (11, I (w64 (x2 + 1)))] [sl 0 x13, sc 0 v7.1, sc 0 v9.1] ?_
 exact ⟨(f4, (w64 (x2 + 1)), x13), h, Nat.lt_succ_self _, (it (st' := ⟨58, [(0, A a0), (1, I a1), (5, rf 0 0 3 x13), (11, I (w64 (x2 + 1)))], [sl 0 x13, sc 0 v7.1, sc 0 v9.1]⟩) [0, 1, 5, 11]).trans (Imp.truncS 1 (nx hX) (by kernel_rfl) (allBelow_mem (by exact (And.intro rfl (And.intro rfl (And.intro rfl (And.intro rfl trivial)))))) (by exact (And.intro (frz_below (eL_frz _)) trivial)) (by kernel_rfl))⟩
 refine pwp_exit ?_
 refine srvM [7, 9] 1 58 [(56, rf 0 0 3 x3)] [sl 0 x3] ?_
 refine opsP_imp (Imp.freezeB (v := 0) (cs := eL x3) (st' := ⟨58, [(56, A x3)], [none]⟩) 0 0 (nx hX) (by kernel_rfl) (eL_frz _) (wholeC (whole_is (eL_len x3).symm) wholeC0) (HpRel.key HpRel.nil) (by kernel_rfl) rfl (nx hX)) ?_
 obtain ⟨v27, hv28, h⟩ := bindS h
 refine cF 57 (ok_slices_Clip_impl_Change_impl_Change hv28) ?_
 refine veM [7, 9] 1 58 [(4, A v27)] [none] ?_
 cases h
 exact pwp_ret rz
def impl_RowOk_1 (a0 : T_impl_Value) : Option Bool := (impl_Value_ok a0).bind fun v1 => some (!v1)
theorem ok_impl_RowOk_1 {a0 : T_impl_Value} {y : Bool} (h : impl_RowOk_1 a0 = some y) : OK Try.prog 110 [E a0] (B y) := by
 refine ow Try.func110 fun Γ hX => ?_
 unfold impl_RowOk_1 at h
 refine srve 6 [(1, pf a0 0)] [] ?_
 refine srv 1 6 [(3, E a0)] [] ?_
 obtain ⟨v1, hv2, h⟩ := bindS h
 refine cF 4 (ok_impl_Value_ok hv2) ?_
 refine ve 2 6 [(2, B (!v1))] [] ?_
 cases h
 exact pwp_ret rz
def spec_l20Writes_j1 (x3 : Int) (K7 : Int → T_spec_l20Rd → (List T_impl_Write) → Option ((List T_impl_Write) × T_spec_l20Rd)) (x9 : T_spec_l20Rd) (x10 : List T_impl_Write) : Option ((List T_impl_Write) × T_spec_l20Rd) := K7 (w64 (x3 + 1)) x9 x10
def spec_l20Writes_j2 (x3 : Int) (x5 : List T_impl_Write) (K7 : Int → T_spec_l20Rd → (List T_impl_Write) → Option ((List T_impl_Write) × T_spec_l20Rd)) (x14 : T_spec_l20Rd) (x15 : T_impl_Write) : Option ((List T_impl_Write) × T_spec_l20Rd) := (app x5 ([x15] : List T_impl_Write)).bind fun v16 => spec_l20Writes_j1 x3 K7 x14 v16
def spec_l20Writes_l0 (a1 : Int) : Nat → Int → T_spec_l20Rd → (List T_impl_Write) → Option ((List T_impl_Write) × T_spec_l20Rd)
 | 0, _, _, _ => none
 | f6 + 1, x3, x4, x5 => bif (decide (x3 < 5)) then (spec_l20Rd_pick x4 3).bind fun v11 => bif (v11.1 == 0) then (spec_l20Rd_pick v11.2 3).bind fun v18 => bif (v18.1 == 0) then spec_l20Writes_j2 x3 x5 (spec_l20Writes_l0 a1 f6) v18.2 (T_impl_Write.mk x3 [] true) else (spec_l20Small v18.2).bind fun v21 => spec_l20Writes_j2 x3 x5 (spec_l20Writes_l0 a1 f6) v21.2 (T_impl_Write.mk x3 v21.1 false) else spec_l20Writes_j1 x3 (spec_l20Writes_l0 a1 f6) v11.2 x5 else (spec_l20Rd_odd x4 a1).bind fun v23 => bif v23.1 then (spec_l20Rd_pick v23.2 3).bind fun v26 => bif (v26.1 == 0) then (spec_l20Rd_pick v26.2 8).bind fun v29 => (app x5 ([(T_impl_Write.mk (w64 (v29.1 - 1)) [] false)] : List T_impl_Write)).bind fun v31 => some (v31, v29.2) else bif (v26.1 == 1) then (spec_l20Small v26.2).bind fun v34 => (app x5 ([(T_impl_Write.mk 4 v34.1 true)] : List T_impl_Write)).bind fun v36 => some (v36, v34.2) else (spec_l20Any v26.2 1).bind fun v38 => (app x5 ([(T_impl_Write.mk 0 v38.1 false)] : List T_impl_Write)).bind fun v40 => some (v40, v38.2) else some (x5, v23.2)
def spec_l20Writes (a0 : T_spec_l20Rd) (a1 : Int) : Option ((List T_impl_Write) × T_spec_l20Rd) := spec_l20Writes_l0 a1 FUEL 0 a0 ([] : List T_impl_Write)
theorem ok_spec_l20Writes {a0 : T_spec_l20Rd} {a1 : Int} {y : (List T_impl_Write) × T_spec_l20Rd} (h : spec_l20Writes a0 a1 = some y) : OKb Try.prog 133 (Enc.cells a0) [I a1] (O y.1) (Enc.cells y.2) := by
 refine OKb_of_pwp τ_ok Try.func133 rfl (by kernel_rfl) rfl (Enc.frz _) (Enc.frz _) fun Γ hQ => ?_
 unfold spec_l20Writes at h
 refine srveM [7] 58 [(0, .ptr 0 0 0), (1, I a1)] [sc 0 a0] ?_
 refine srveM [7] 58 [(0, .ptr 0 0 0), (1, I a1), (5, .arr 3 0 (eL ([] : List T_impl_Write)) true)] [sc 0 a0] ?_
 refine pwp_seq ?_
 refine srveM [7] 58 [(0, .ptr 0 0 0), (1, I a1), (5, .arr 3 0 (eL ([] : List T_impl_Write)) true), (6, I 0)] [sc 0 a0] ?_
 refine pwp_block ?_
 refine pwp_loop (ι := Nat × Int × T_spec_l20Rd × (List T_impl_Write)) (fun (f6, x3, x4, x5) => (⟨58, [(0, .ptr 0 0 0), (1, I a1), (5, rf 1 0 3 x5), (6, I x3)], [sc 0 x4, sl 0 x5]⟩ : St)) (fun (f6, x3, x4, x5) => spec_l20Writes_l0 a1 f6 x3 x4 x5 = some y) Prod.fst (FUEL, 0, a0, ([] : List T_impl_Write)) h (Imp.thawS 5 [0, 1, 5, 6] (by kernel_rfl)) ?_
 rintro ⟨f6, x3, x4, x5⟩ h
 dsimp only at h ⊢
 rcases f6 with _ | f6
 cases h
 rw [spec_l20Writes_l0] at h
 refine pwp_seq ?_
 refine srveM [7] 58 [(0, .ptr 0 0 0), (1, I a1), (5, rf 1 0 3 x5), (6, I x3), (10, B (decide (x3 < 5)))] [sc 0 x4, sl 0 x5] ?_
 refine pc h (fun h => ?_) (fun h => ?_)
 refine pwp_skip ?_
 refine pwp_seq ?_
 refine pwp_join (σ := T_spec_l20Rd × (List T_impl_Write)) (fun (x9, x10) => (⟨58, [(0, .ptr 0 0 0), (1, I a1), (5, rf 1 0 3 x10), (6, I x3)], [sc 0 x9, sl 0 x10]⟩ : St)) (fun (x9, x10) => spec_l20Writes_j1 x3 (spec_l20Writes_l0 a1 f6) x9 x10 = some y) ?_ ?_
 refine pwp_block ?_
 refine srvM [7] 1 58 [(0, .ptr 0 0 0), (1, I a1), (5, rf 1 0 3 x5), (6, I x3), (13, .ptr 0 0 0)] [sc 0 x4, sl 0 x5] ?_
 obtain ⟨v11, hv12, h⟩ := bindS h
 refine cB 14 0 0 (ok_spec_l20Rd_pick hv12) ?_
 refine veM [7] 1 58 [(0, .ptr 0 0 0), (1, I a1), (5, rf 1 0 3 x5), (6, I x3), (15, B (v11.1 == 0))] [sc 0 v11.2, sl 0 x5] ?_
 refine pc h (fun h => ?_) (fun h => ?_)
 refine srveM [7] 58 [(0, .ptr 0 0 0), (1, I a1), (5, rf 1 0 3 x5), (6, I x3), (7, .ptr 2 0 0)] [sc 0 v11.2, sl 0 x5, some ⟨0, Enc.cells (T_impl_Write.mk x3 [] false)⟩] ?_
 refine pwp_seq ?_
 refine pwp_join (σ := T_spec_l20Rd × T_impl_Write) (fun (x14, x15) => (⟨58, [(0, .ptr 0 0 0), (1, I a1), (5, rf 1 0 3 x5), (6, I x3), (7, .ptr 2 0 0)], [sc 0 x14, sl 0 x5, sc 0 x15]⟩ : St)) (fun (x14, x15) => spec_l20Writes_j2 x3 x5 (spec_l20Writes_l0 a1 f6) x14 x15 = some y) ?_ ?_
 refine srvM [7] 1 58 [(0, .ptr 0 0 0), (1, I a1), (5, rf 1 0 3 x5), (6, I x3), (7, .ptr 2 0 0), (18, .ptr 0 0 0)] [sc 0 v11.2, sl 0 x5, some ⟨0, Enc.cells (T_impl_Write.mk x3 [] false)⟩] ?_
 obtain ⟨v18, hv19, h⟩ := bindS h
 refine cB 19 0 0 (ok_spec_l20Rd_pick hv19) ?_
 refine veM [7] 1 58 [(0, .ptr 0 0 0), (1, I a1), (5, rf 1 0 3 x5), (6, I x3), (7, .ptr 2 0 0), (20, B (v18.1 == 0))] [sc 0 v18.2, sl 0 x5, some ⟨0, Enc.cells (T_impl_Write.mk x3 [] false)⟩] ?_
 refine pc h (fun h => ?_) (fun h => ?_)
 refine rveM [7] 58 [(0, .ptr 0 0 0), (1, I a1), (5, rf 1 0 3 x5), (6, I x3), (7, .ptr 2 0 0)] [sc 0 v18.2, sl 0 x5, some ⟨0, Enc.cells (T_impl_Write.mk x3 [] true)⟩] ?_
 exact ⟨(v18.2, (T_impl_Write.mk x3 [] true)), h, it [0, 1, 5, 6, 7]⟩
 refine rvM [7] 1 58 [(0, .ptr 0 0 0), (1, I a1), (5, rf 1 0 3 x5), (6, I x3), (7, .ptr 2 0 0), (22, .ptr 0 0 0)] [sc 0 v18.2, sl 0 x5, some ⟨0, Enc.cells (T_impl_Write.mk x3 [] false)⟩] ?_
 obtain ⟨v21, hv22, h⟩ := bindS h
 refine cB 23 0 0 (ok_spec_l20Small hv22) ?_
 refine veM [7] 2 58 [(0, .ptr 0 0 0), (1, I a1), (5, rf 1 0 3 x5), (6, I x3), (7, .ptr 2 0 0)] [sc 0 v21.2, sl 0 x5, some ⟨0, Enc.cells (T_impl_Write.mk x3 v21.1 false)⟩] ?_
 exact ⟨(v21.2, (T_impl_Write.mk x3 v21.1 false)), h, it [0, 1, 5, 6, 7]⟩
 rintro ⟨x14, x15⟩ h
 dsimp only at h ⊢
 unfold spec_l20Writes_j2 at h
 refine rvM [7] 3 58 [(0, .ptr 0 0 0), (1, I a1), (6, I x3), (25, rf 1 0 3 x5), (27, .arr 3 ([x15] : List T_impl_Write).length (eL ([x15] : List T_impl_Write)) true)] [sc 0 x14, sl 0 x5, sc 0 x15] ?_
 obtain ⟨v16, hv17, h⟩ := bindS h
 refine opsP_app τ_ok 28 1 0 (pn hQ) hv17 (by kernel_rfl) ?_
 refine veM [7] 1 58 [(0, .ptr 0 0 0), (1, I a1), (5, rf 1 1 3 v16), (6, I x3)] [sc 0 x14, sl 1 v16, sc 0 x15] ?_
 exact ⟨(x14, v16), h, qt (it (st' := ⟨58, [(0, .ptr 0 0 0), (1, I a1), (5, rf 1 1 3 v16), (6, I x3)], [sc 0 x14, sl 1 v16, sc 0 x15]⟩) [0, 1, 5, 6]) (qt (Imp.truncS (st' := ⟨58, [(0, .ptr 0 0 0), (1, I a1), (5, rf 1 1 3 v16), (6, I x3)], [sc 0 x14, sl 1 v16]⟩) 2 (pl hQ) (by kernel_rfl) (allBelow_mem (by exact (And.intro rfl (And.intro rfl (And.intro rfl (And.intro rfl trivial)))))) (by exact (And.intro (rfl) (And.intro (frz_below (eL_frz _)) trivial))) (by kernel_rfl)) (Imp.reverS 1 1 (eL v16) [0, 1, 5, 6] (by kernel_rfl) (by exact (And.intro (rfl) (And.intro (eL_frz _) trivial))) (by kernel_rfl)))⟩
 refine pwp_skip ?_
 exact ⟨(v11.2, x5), h, it [0, 1, 5, 6]⟩
 rintro ⟨x9, x10⟩ h
 dsimp only at h ⊢
 unfold spec_l20Writes_j1 at h
 refine rveM [7] 58 [(0, .ptr 0 0 0), (1, I a1), (5, rf 1 0 3 x10), (6, I (w64 (x3 + 1)))] [sc 0 x9, sl 0 x10] ?_
 exact ⟨(f6, (w64 (x3 + 1)), x9, x10), h, Nat.lt_succ_self _, it [0, 1, 5, 6]⟩
 refine pwp_exit ?_
 refine pwp_seq ?_
 refine srvM [7] 2 58 [(0, .ptr 0 0 0), (5, rf 1 0 3 x5), (29, .ptr 0 0 0), (30, I a1)] [sc 0 x4, sl 0 x5] ?_
 obtain ⟨v23, hv24, h⟩ := bindS h
 refine cB 31 0 0 (ok_spec_l20Rd_odd hv24) ?_
 refine veM [7] 0 58 [(0, .ptr 0 0 0), (5, rf 1 0 3 x5), (31, B v23.1)] [sc 0 v23.2, sl 0 x5] ?_
 refine pc h (fun h => ?_) (fun h => ?_)
 refine srvM [7] 1 58 [(0, .ptr 0 0 0), (5, rf 1 0 3 x5), (32, .ptr 0 0 0)] [sc 0 v23.2, sl 0 x5] ?_
 obtain ⟨v26, hv27, h⟩ := bindS h
 refine cB 33 0 0 (ok_spec_l20Rd_pick hv27) ?_
 refine veM [7] 0 58 [(0, .ptr 0 0 0), (5, rf 1 0 3 x5), (33, I v26.1)] [sc 0 v26.2, sl 0 x5] ?_
 refine pwp_block ?_
 refine srveM [7] 58 [(0, .ptr 0 0 0), (5, rf 1 0 3 x5), (33, I v26.1), (40, B (v26.1 == 0))] [sc 0 v26.2, sl 0 x5] ?_
 refine pc h (fun h => ?_) (fun h => ?_)
 refine rvM [7] 2 58 [(42, rf 1 0 3 x5), (43, .ptr 0 0 0)] [sc 0 v26.2, sl 0 x5] ?_
 obtain ⟨v29, hv30, h⟩ := bindS h
 refine cB 44 0 0 (ok_spec_l20Rd_pick hv30) ?_
 refine vM [7] 3 58 [(42, rf 1 0 3 x5), (47, .arr 3 ([(T_impl_Write.mk (w64 (v29.1 - 1)) [] false)] : List T_impl_Write).length (eL ([(T_impl_Write.mk (w64 (v29.1 - 1)) [] false)] : List T_impl_Write)) true)] [sc 0 v29.2, sl 0 x5] ?_
 obtain ⟨v31, hv32, h⟩ := bindS h
 refine opsP_app τ_ok 48 1 0 (pn hQ) hv32 (by kernel_rfl) ?_
 refine veM [7] 1 58 [(5, rf 1 1 3 v31)] [sc 0 v29.2, sl 1 v31] ?_
 refine srveM [7] 58 [(4, rf 1 1 3 v31)] [sc 0 v29.2, sl 1 v31] ?_
 have h := si h
 subst h
 exact pwp_ret ⟨.inr rfl, rf 1 1 3 v31, _, 0, by kernel_rfl, (OutP.list (v := 1) (by kernel_rfl)), by decide, by decide, by kernel_rfl⟩
 refine srveM [7] 58 [(0, .ptr 0 0 0), (5, rf 1 0 3 x5), (49, B (v26.1 == 1))] [sc 0 v26.2, sl 0 x5] ?_
 refine pc h (fun h => ?_) (fun h => ?_)
 refine rvM [7] 2 58 [(51, rf 1 0 3 x5), (52, .ptr 0 0 0)] [sc 0 v26.2, sl 0 x5] ?_
 obtain ⟨v34, hv35, h⟩ := bindS h
 refine cB 53 0 0 (ok_spec_l20Small hv35) ?_
 refine vM [7] 2 58 [(51, rf 1 0 3 x5), (55, .arr 3 ([(T_impl_Write.mk 4 v34.1 true)] : List T_impl_Write).length (eL ([(T_impl_Write.mk 4 v34.1 true)] : List T_impl_Write)) true)] [sc 0 v34.2, sl 0 x5] ?_
 obtain ⟨v36, hv37, h⟩ := bindS h
 refine opsP_app τ_ok 56 1 0 (pn hQ) hv37 (by kernel_rfl) ?_
 refine veM [7] 1 58 [(5, rf 1 1 3 v36)] [sc 0 v34.2, sl 1 v36] ?_
 refine srveM [7] 58 [(4, rf 1 1 3 v36)] [sc 0 v34.2, sl 1 v36] ?_
 have h := si h
 subst h
 exact pwp_ret ⟨.inr rfl, rf 1 1 3 v36, _, 0, by kernel_rfl, (OutP.list (v := 1) (by kernel_rfl)), by decide, by decide, by kernel_rfl⟩
 refine rvM [7] 2 58 [(34, rf 1 0 3 x5), (35, .ptr 0 0 0)] [sc 0 v26.2, sl 0 x5] ?_
 obtain ⟨v38, hv39, h⟩ := bindS h
 refine cB 36 0 0 (ok_spec_l20Any hv39) ?_
 refine vM [7] 2 58 [(34, rf 1 0 3 x5), (38, .arr 3 ([(T_impl_Write.mk 0 v38.1 false)] : List T_impl_Write).length (eL ([(T_impl_Write.mk 0 v38.1 false)] : List T_impl_Write)) true)] [sc 0 v38.2, sl 0 x5] ?_
 obtain ⟨v40, hv41, h⟩ := bindS h
 refine opsP_app τ_ok 39 1 0 (pn hQ) hv41 (by kernel_rfl) ?_
 refine veM [7] 1 58 [(5, rf 1 1 3 v40)] [sc 0 v38.2, sl 1 v40] ?_
 refine srveM [7] 58 [(4, rf 1 1 3 v40)] [sc 0 v38.2, sl 1 v40] ?_
 have h := si h
 subst h
 exact pwp_ret ⟨.inr rfl, rf 1 1 3 v40, _, 0, by kernel_rfl, (OutP.list (v := 1) (by kernel_rfl)), by decide, by decide, by kernel_rfl⟩
 refine pwp_skip ?_
 refine srveM [7] 58 [(4, rf 1 0 3 x5)] [sc 0 v23.2, sl 0 x5] ?_
 have h := si h
 subst h
 exact pwp_ret ⟨.inr rfl, rf 1 0 3 x5, _, 0, by kernel_rfl, (OutP.list (v := 0) (by kernel_rfl)), by decide, by decide, by kernel_rfl⟩
def spec_l13Version (a0 : T_impl_Version) : Option Bool := (spec_l1In a0.fKey 0 4).bind fun v1 => bif v1 then (spec_l1In a0.fBorn 1 40).bind fun v3 => bif v3 then bif (a0.fDied == 0) then (spec_RowOk a0.fRow).bind fun v5 => some v5 else (spec_l1In a0.fDied (w64 (a0.fBorn + 1)) 40).bind fun v7 => bif v7 then (spec_RowOk a0.fRow).bind fun v9 => some v9 else some false else some false else some false
theorem ok_spec_l13Version {a0 : T_impl_Version} {y : Bool} (h : spec_l13Version a0 = some y) : OK Try.prog 136 [E a0] (B y) := by
 refine ow Try.func136 fun Γ hX => ?_
 unfold spec_l13Version at h
 refine srve 29 [(1, pf a0 0)] [] ?_
 refine srv 2 29 [(1, pf a0 0), (4, I a0.fKey)] [] ?_
 obtain ⟨v1, hv2, h⟩ := bindS h
 refine cF 5 (ok_spec_l1In hv2) ?_
 refine v 1 29 [(1, pf a0 0), (6, B v1)] [] ?_
 rcases Bool.eq_false_or_eq_true v1 with hc14 | hc14
 replace h := bT hc14 h
 rw [hc14]
 refine v 2 29 [(1, pf a0 0), (6, B true), (8, I a0.fBorn)] [] ?_
 obtain ⟨v3, hv4, h⟩ := bindS h
 refine cF 9 (ok_spec_l1In hv4) ?_
 refine v 2 29 [(1, pf a0 0), (11, B v3)] [] ?_
 rcases Bool.eq_false_or_eq_true v3 with hc13 | hc13
 replace h := bT hc13 h
 rw [hc13]
 refine v 4 29 [(1, pf a0 0), (11, B true), (15, B (a0.fDied == 0))] [] ?_
 rcases fk (a0.fDied == 0) with hc12 | hc12
 replace h := bT hc12 h
 rw [hc12]
 refine v 11 29 [(24, B true), (26, A a0.fRow)] [] ?_
 obtain ⟨v5, hv6, h⟩ := bindS h
 refine cF 27 (ok_spec_RowOk hv6) ?_
 refine ve 2 29 [(2, B v5)] [] ?_
 cases h
 exact pwp_ret rz
 replace h := bF hc12 h
 rw [hc12]
 refine v 5 29 [(1, pf a0 0), (11, B true), (15, B false), (17, I a0.fDied), (20, I (w64 (a0.fBorn + 1)))] [] ?_
 obtain ⟨v7, hv8, h⟩ := bindS h
 refine cF 21 (ok_spec_l1In hv8) ?_
 refine v 3 29 [(1, pf a0 0), (24, B v7)] [] ?_
 rcases Bool.eq_false_or_eq_true v7 with hc11 | hc11
 replace h := bT hc11 h
 rw [hc11]
 refine v 2 29 [(24, B true), (26, A a0.fRow)] [] ?_
 obtain ⟨v9, hv10, h⟩ := bindS h
 refine cF 27 (ok_spec_RowOk hv10) ?_
 refine ve 2 29 [(2, B v9)] [] ?_
 cases h
 exact pwp_ret rz
 replace h := bF hc11 h
 rw [hc11]
 refine ve 5 29 [(2, B false)] [] ?_
 cases h
 exact pwp_ret rz
 replace h := bF hc13 h
 rw [hc13]
 refine ve 18 29 [(2, B false)] [] ?_
 cases h
 exact pwp_ret rz
 replace h := bF hc14 h
 rw [hc14]
 refine ve 23 29 [(2, B false)] [] ?_
 cases h
 exact pwp_ret rz
def impl_Value_order (a0 : T_impl_Value) (a1 : T_impl_Value) : Option Int := (cmp_Compare_int a0.fKind a1.fKind).bind fun v1 => (cmp_Compare_int a0.fN a1.fN).bind fun v3 => (cmp_Compare_string a0.fS a1.fS).bind fun v5 => (cmp_Or_int ([v1, v3, v5])).bind fun v7 => some v7
theorem ok_impl_Value_order {a0 : T_impl_Value} {a1 : T_impl_Value} {y : Int} (h : impl_Value_order a0 a1 = some y) : OK Try.prog 152 [E a0, E a1] (I y) := by
 refine ow Try.func152 fun Γ hX => ?_
 unfold impl_Value_order at h
 refine srve 22 [(2, pf a0 0), (3, pf a1 0)] [] ?_
 refine pwp_seq ?_
 refine ip 22 [(2, pf a0 0), (3, pf a1 0)] [] ?_
 refine pN 18 ?_
 refine qv [] trivial 4 22 [(8, I a1.fKind), (6, I a0.fKind), (2, pf a0 0), (3, pf a1 0)] [] ?_
 obtain ⟨v1, hv2, h⟩ := bindS h
 refine qX (some 9) (I v1) 22 [(9, I v1), (2, pf a0 0), (3, pf a1 0)] [] (fun Γ' hΓ => CoreE.of_g (callV_sound (τ := τ) (by kernel_rfl) rfl (ok_cmp_Compare_int hv2) (FzTo.frz rfl))) trivial ?_
 refine qv [] trivial 4 22 [(13, I a1.fN), (11, I a0.fN), (9, I v1), (2, pf a0 0), (3, pf a1 0)] [] ?_
 obtain ⟨v3, hv4, h⟩ := bindS h
 refine qX (some 14) (I v3) 22 [(14, I v3), (9, I v1), (2, pf a0 0), (3, pf a1 0)] [] (fun Γ' hΓ => CoreE.of_g (callV_sound (τ := τ) (by kernel_rfl) rfl (ok_cmp_Compare_int hv4) (FzTo.frz rfl))) trivial ?_
 refine qv [] trivial 4 22 [(18, S a1.fS), (16, S a0.fS), (14, I v3), (9, I v1)] [] ?_
 obtain ⟨v5, hv6, h⟩ := bindS h
 refine qX (some 19) (I v5) 22 [(19, I v5), (14, I v3), (9, I v1)] [] (fun Γ' hΓ => CoreE.of_g (callV_sound (τ := τ) (by kernel_rfl) rfl (ok_cmp_Compare_string hv6) (FzTo.frz rfl))) trivial ?_
 refine qv [] trivial 1 22 [(20, .arr 1 ([v1, v3, v5] : List Int).length (eL ([v1, v3, v5] : List Int)) true)] [] ?_
 obtain ⟨v7, hv8, h⟩ := bindS h
 refine qX (some 21) (I v7) 22 [(21, I v7)] [] (fun Γ' hΓ => CoreE.of_g (callV_sound (τ := τ) (by kernel_rfl) rfl (ok_cmp_Or_int hv8) (FzTo.frz rfl))) trivial ?_
 refine qvn [] trivial 1 22 [(4, I v7)] [] ?_
 cases h
 exact pwp_ret rz
def spec_WritesOk_j1 (x1 : Int) (K3 : Int → Option Bool) (x7 : Bool) : Option Bool := bif x7 then some false else K3 (w64 (x1 + 1))
def spec_WritesOk_l0 (a0 : List T_impl_Write) : Nat → Int → Option Bool
 | 0, _ => none
 | f2 + 1, x1 => bif (decide (x1 < (a0.length : Int))) then (getI a0 x1).bind fun v5 => (spec_l1In v5.fKey 0 4).bind fun v9 => bif (!v9) then spec_WritesOk_j1 x1 (spec_WritesOk_l0 a0 f2) true else (spec_RowOk v5.fRow).bind fun v11 => bif (!v11) then spec_WritesOk_j1 x1 (spec_WritesOk_l0 a0 f2) true else bif v5.fGone then bif (decide ((v5.fRow.length : Int) > 0)) then spec_WritesOk_j1 x1 (spec_WritesOk_l0 a0 f2) true else bif (decide (x1 > 0)) then (getI a0 (w64 (x1 - 1))).bind fun v13 => spec_WritesOk_j1 x1 (spec_WritesOk_l0 a0 f2) (decide (v13.fKey ≥ v5.fKey)) else spec_WritesOk_j1 x1 (spec_WritesOk_l0 a0 f2) false else bif (decide (x1 > 0)) then (getI a0 (w64 (x1 - 1))).bind fun v17 => spec_WritesOk_j1 x1 (spec_WritesOk_l0 a0 f2) (decide (v17.fKey ≥ v5.fKey)) else spec_WritesOk_j1 x1 (spec_WritesOk_l0 a0 f2) false else some true
def spec_WritesOk (a0 : List T_impl_Write) : Option Bool := spec_WritesOk_l0 a0 FUEL 0
theorem ok_spec_WritesOk {a0 : List T_impl_Write} {y : Bool} (h : spec_WritesOk a0 = some y) : OK Try.prog 166 [A a0] (B y) := by
 refine ow Try.func166 fun Γ hX => ?_
 unfold spec_WritesOk at h
 refine srveM [4] 50 [(0, A a0)] [] ?_
 refine pwp_seq ?_
 refine srveM [4] 50 [(0, A a0), (3, I 0)] [] ?_
 refine pwp_block ?_
 refine pwp_loop (ι := Nat × Int) (fun (f2, x1) => (⟨50, [(0, A a0), (3, I x1)], []⟩ : St)) (fun (f2, x1) => spec_WritesOk_l0 a0 f2 x1 = some y) Prod.fst (FUEL, 0) h (it [0, 3]) ?_
 rintro ⟨f2, x1⟩ h
 dsimp only at h ⊢
 rcases f2 with _ | f2
 cases h
 rw [spec_WritesOk_l0] at h
 refine pwp_seq ?_
 refine srveM [4] 50 [(0, A a0), (3, I x1), (8, B (decide (x1 < (a0.length : Int))))] [] ?_
 refine pc h (fun h => ?_) (fun h => ?_)
 refine pwp_skip ?_
 refine pwp_seq ?_
 refine pwp_block ?_
 refine srvM [4] 2 50 [(0, A a0), (3, I x1), (11, A a0), (12, I x1)] [] ?_
 obtain ⟨v5, hv6, h⟩ := bindS h
 refine opsP_idx τ_ok 13 hv6 (by kernel_rfl) ?_
 refine veM [4] 3 50 [(0, A a0), (3, I x1), (4, .ptr 0 0 0)] [sc 0 v5] ?_
 refine pwp_seq ?_
 refine pwp_join (σ := Bool) (fun x7 => (⟨50, [(0, A a0), (3, I x1), (49, B x7)], [sc 0 v5]⟩ : St)) (fun x7 => spec_WritesOk_j1 x1 (spec_WritesOk_l0 a0 f2) x7 = some y) ?_ ?_
 refine ip 50 [(0, A a0), (3, I x1), (4, .ptr 0 0 0)] [sc 0 v5] ?_
 refine pwp_any ([[0], [0], [], [], [], [0], [0], [], [], [], [], [0], [0], [], [0], [0], [], [], [], [], [], [], [], [], [], [], [], [], [], [], [0], [0], [], [], []]) ([[], [], [], [], [], [], [], [], [], [], [], [], [], [], [], [], [], [], [], [], [], [], [], [], [], [], [], [], [], [], [], [], [], [], []]) rfl (by kernel_rfl) ?_
 refine qvM [4] [0] (hB trivial) 2 50 [(16, I v5.fKey), (0, A a0), (3, I x1), (4, .ptr 0 0 0)] [sc 0 v5] ?_
 obtain ⟨v9, hv10, h⟩ := bindS h
 refine qX (some 17) (B v9) 50 [(17, B v9), (0, A a0), (3, I x1), (4, .ptr 0 0 0)] [sc 0 v5] (fun Γ' hΓ => CoreE.of_g (callV_sound (τ := τ) (by kernel_rfl) rfl (ok_spec_l1In hv10) (FzTo.frz rfl))) trivial ?_
 refine qvM [4] [] trivial 2 50 [(19, B (!v9)), (0, A a0), (3, I x1), (4, .ptr 0 0 0)] [sc 0 v5] ?_
 rcases fk (!v9) with hc22 | hc22
 replace h := bT hc22 h
 rw [hc22]
 refine qvM [4] [0] (hB trivial) 2 50 [(21, .lit undef), (20, .lit undef), (19, B true), (0, A a0), (3, I x1), (4, .ptr 0 0 0)] [sc 0 v5] ?_
 refine qvM [4] [] trivial 4 50 [(25, B true), (23, .lit undef), (22, .lit undef), (21, .lit undef), (20, .lit undef), (0, A a0), (3, I x1), (4, .ptr 0 0 0)] [sc 0 v5] ?_
 refine qvM [4] [0] (hB trivial) 2 50 [(27, .lit undef), (26, .lit undef), (25, B true), (23, .lit undef), (22, .lit undef), (21, .lit undef), (20, .lit undef), (0, A a0), (3, I x1), (4, .ptr 0 0 0)] [sc 0 v5] ?_
 refine qvM [4] [] trivial 1 50 [(28, .lit undef), (27, .lit undef), (26, .lit undef), (25, B true), (23, .lit undef), (22, .lit undef), (21, .lit undef), (20, .lit undef), (0, A a0), (3, I x1), (4, .ptr 0 0 0)] [sc 0 v5] ?_
 refine qvM [4] [0] (hB trivial) 2 50 [(30, .lit undef), (29, .lit undef), (28, .lit undef), (27, .lit undef), (26, .lit undef), (25, B true), (23, .lit undef), (22, .lit undef), (21, .lit undef), (20, .lit undef), (0, A a0), (3, I x1), (4, .ptr 0 0 0)] [sc 0 v5] ?_
 refine qvM [4] [] trivial 14 50 [(44, .lit undef), (43, .lit undef), (42, .lit undef), (41, .lit undef), (40, .lit undef), (39, .lit undef), (38, .lit undef), (37, .lit undef), (36, .lit undef), (35, B true), (33, .lit undef), (32, .lit undef), (31, .lit undef), (30, .lit undef), (29, .lit undef), (28, .lit undef), (27, .lit undef), (26, .lit undef), (23, .lit undef), (22, .lit undef), (21, .lit undef), (20, .lit undef), (0, A a0), (3, I x1), (4, .ptr 0 0 0)] [sc 0 v5] ?_
 refine qvM [4] [0] (hB trivial) 2 50 [(46, .lit undef), (45, .lit undef), (44, .lit undef), (43, .lit undef), (42, .lit undef), (41, .lit undef), (40, .lit undef), (39, .lit undef), (38, .lit undef), (37, .lit undef), (36, .lit undef), (35, B true), (33, .lit undef), (32, .lit undef), (31, .lit undef), (30, .lit undef), (29, .lit undef), (28, .lit undef), (27, .lit undef), (26, .lit undef), (23, .lit undef), (22, .lit undef), (21, .lit undef), (20, .lit undef), (0, A a0), (3, I x1)] [sc 0 v5] ?_
 refine qvM [4] [] trivial 3 50 [(49, B true), (48, .lit undef), (47, .lit undef), (46, .lit undef), (45, .lit undef), (44, .lit undef), (43, .lit undef), (42, .lit undef), (41, .lit undef), (40, .lit undef), (39, .lit undef), (38, .lit undef), (37, .lit undef), (36, .lit undef), (33, .lit undef), (32, .lit undef), (31, .lit undef), (30, .lit undef), (29, .lit undef), (28, .lit undef), (27, .lit undef), (26, .lit undef), (23, .lit undef), (22, .lit undef), (21, .lit undef), (20, .lit undef), (0, A a0), (3, I x1)] [sc 0 v5] ?_
 refine qn 50 [(0, A a0), (3, I x1), (20, .lit undef), (21, .lit undef), (22, .lit undef), (23, .lit undef), (26, .lit undef), (27, .lit undef), (28, .lit undef), (29, .lit undef), (30, .lit undef), (31, .lit undef), (32, .lit undef), (33, .lit undef), (36, .lit undef), (37, .lit undef), (38, .lit undef), (39, .lit undef), (40, .lit undef), (41, .lit undef), (42, .lit undef), (43, .lit undef), (44, .lit undef), (45, .lit undef), (46, .lit undef), (47, .lit undef), (48, .lit undef), (49, B true)] [sc 0 v5] ?_
 exact ⟨true, h, it [0, 3, 49]⟩
 replace h := bF hc22 h
 rw [hc22]
 refine qvM [4] [0] (hB trivial) 2 50 [(21, A v5.fRow), (20, .ptr 0 0 1), (19, B false), (0, A a0), (3, I x1), (4, .ptr 0 0 0)] [sc 0 v5] ?_
 obtain ⟨v11, hv12, h⟩ := bindS h
 refine qX (some 22) (B v11) 50 [(22, B v11), (21, A v5.fRow), (20, .ptr 0 0 1), (19, B false), (0, A a0), (3, I x1), (4, .ptr 0 0 0)] [sc 0 v5] (fun Γ' hΓ => CoreE.of_g (callV_sound (τ := τ) (by kernel_rfl) rfl (ok_spec_RowOk hv12) (FzTo.frz rfl))) trivial ?_
 refine qvM [4] [] trivial 3 50 [(25, B (!v11)), (23, B (!v11)), (22, B v11), (21, A v5.fRow), (20, .ptr 0 0 1), (0, A a0), (3, I x1), (4, .ptr 0 0 0)] [sc 0 v5] ?_
 rcases fk (!v11) with hc21 | hc21
 replace h := bT hc21 h
 rw [hc21]
 refine qvM [4] [0] (hB trivial) 2 50 [(27, .lit undef), (26, .lit undef), (25, B true), (23, B true), (22, B v11), (21, A v5.fRow), (20, .ptr 0 0 1), (0, A a0), (3, I x1), (4, .ptr 0 0 0)] [sc 0 v5] ?_
 refine qvM [4] [] trivial 1 50 [(28, .lit undef), (27, .lit undef), (26, .lit undef), (25, B true), (23, B true), (22, B v11), (21, A v5.fRow), (20, .ptr 0 0 1), (0, A a0), (3, I x1), (4, .ptr 0 0 0)] [sc 0 v5] ?_
 refine qvM [4] [0] (hB trivial) 2 50 [(30, .lit undef), (29, .lit undef), (28, .lit undef), (27, .lit undef), (26, .lit undef), (25, B true), (23, B true), (22, B v11), (21, A v5.fRow), (20, .ptr 0 0 1), (0, A a0), (3, I x1), (4, .ptr 0 0 0)] [sc 0 v5] ?_
 refine qvM [4] [] trivial 14 50 [(44, .lit undef), (43, .lit undef), (42, .lit undef), (41, .lit undef), (40, .lit undef), (39, .lit undef), (38, .lit undef), (37, .lit undef), (36, .lit undef), (35, B true), (33, .lit undef), (32, .lit undef), (31, .lit undef), (30, .lit undef), (29, .lit undef), (28, .lit undef), (27, .lit undef), (26, .lit undef), (23, B true), (22, B v11), (21, A v5.fRow), (20, .ptr 0 0 1), (0, A a0), (3, I x1), (4, .ptr 0 0 0)] [sc 0 v5] ?_
 refine qvM [4] [0] (hB trivial) 2 50 [(46, .lit undef), (45, .lit undef), (44, .lit undef), (43, .lit undef), (42, .lit undef), (41, .lit undef), (40, .lit undef), (39, .lit undef), (38, .lit undef), (37, .lit undef), (36, .lit undef), (35, B true), (33, .lit undef), (32, .lit undef), (31, .lit undef), (30, .lit undef), (29, .lit undef), (28, .lit undef), (27, .lit undef), (26, .lit undef), (23, B true), (22, B v11), (21, A v5.fRow), (20, .ptr 0 0 1), (0, A a0), (3, I x1)] [sc 0 v5] ?_
 refine qvM [4] [] trivial 3 50 [(49, B true), (48, .lit undef), (47, .lit undef), (46, .lit undef), (45, .lit undef), (44, .lit undef), (43, .lit undef), (42, .lit undef), (41, .lit undef), (40, .lit undef), (39, .lit undef), (38, .lit undef), (37, .lit undef), (36, .lit undef), (33, .lit undef), (32, .lit undef), (31, .lit undef), (30, .lit undef), (29, .lit undef), (28, .lit undef), (27, .lit undef), (26, .lit undef), (23, B true), (22, B v11), (21, A v5.fRow), (20, .ptr 0 0 1), (0, A a0), (3, I x1)] [sc 0 v5] ?_
 refine qn 50 [(0, A a0), (3, I x1), (20, .ptr 0 0 1), (21, A v5.fRow), (22, B v11), (23, B true), (26, .lit undef), (27, .lit undef), (28, .lit undef), (29, .lit undef), (30, .lit undef), (31, .lit undef), (32, .lit undef), (33, .lit undef), (36, .lit undef), (37, .lit undef), (38, .lit undef), (39, .lit undef), (40, .lit undef), (41, .lit undef), (42, .lit undef), (43, .lit undef), (44, .lit undef), (45, .lit undef), (46, .lit undef), (47, .lit undef), (48, .lit undef), (49, B true)] [sc 0 v5] ?_
 exact ⟨true, h, it [0, 3, 49]⟩
 replace h := bF hc21 h
 rw [hc21]
 refine qvM [4] [0] (hB trivial) 2 50 [(27, B v5.fGone), (26, .ptr 0 0 2), (25, B false), (23, B false), (22, B v11), (21, A v5.fRow), (20, .ptr 0 0 1), (0, A a0), (3, I x1), (4, .ptr 0 0 0)] [sc 0 v5] ?_
 refine qvM [4] [] trivial 1 50 [(28, B v5.fGone), (27, B v5.fGone), (26, .ptr 0 0 2), (25, B false), (23, B false), (22, B v11), (21, A v5.fRow), (20, .ptr 0 0 1), (0, A a0), (3, I x1), (4, .ptr 0 0 0)] [sc 0 v5] ?_
 rcases Bool.eq_false_or_eq_true v5.fGone with hc20 | hc20
 replace h := bT hc20 h
 rw [hc20]
 refine qvM [4] [0] (hB trivial) 2 50 [(30, A v5.fRow), (29, .ptr 0 0 1), (28, B true), (27, B true), (26, .ptr 0 0 2), (25, B false), (23, B false), (22, B v11), (21, A v5.fRow), (20, .ptr 0 0 1), (0, A a0), (3, I x1), (4, .ptr 0 0 0)] [sc 0 v5] ?_
 refine qvM [4] [] trivial 5 50 [(35, B (decide ((v5.fRow.length : Int) > 0))), (33, B (decide ((v5.fRow.length : Int) > 0))), (32, B (decide ((v5.fRow.length : Int) > 0))), (31, I (v5.fRow.length : Int)), (30, A v5.fRow), (29, .ptr 0 0 1), (28, B true), (27, B true), (26, .ptr 0 0 2), (23, B false), (22, B v11), (21, A v5.fRow), (20, .ptr 0 0 1), (0, A a0), (3, I x1), (4, .ptr 0 0 0)] [sc 0 v5] ?_
 rcases fk (decide ((v5.fRow.length : Int) > 0)) with hc16 | hc16
 replace h := bT hc16 h
 rw [hc16]
 refine qvM [4] [] trivial 9 50 [(44, .lit undef), (43, .lit undef), (42, .lit undef), (41, .lit undef), (40, .lit undef), (39, .lit undef), (38, .lit undef), (37, .lit undef), (36, .lit undef), (35, B true), (33, B true), (32, B true), (31, I (v5.fRow.length : Int)), (30, A v5.fRow), (29, .ptr 0 0 1), (28, B true), (27, B true), (26, .ptr 0 0 2), (23, B false), (22, B v11), (21, A v5.fRow), (20, .ptr 0 0 1), (0, A a0), (3, I x1), (4, .ptr 0 0 0)] [sc 0 v5] ?_
 refine qvM [4] [0] (hB trivial) 2 50 [(46, .lit undef), (45, .lit undef), (44, .lit undef), (43, .lit undef), (42, .lit undef), (41, .lit undef), (40, .lit undef), (39, .lit undef), (38, .lit undef), (37, .lit undef), (36, .lit undef), (35, B true), (33, B true), (32, B true), (31, I (v5.fRow.length : Int)), (30, A v5.fRow), (29, .ptr 0 0 1), (28, B true), (27, B true), (26, .ptr 0 0 2), (23, B false), (22, B v11), (21, A v5.fRow), (20, .ptr 0 0 1), (0, A a0), (3, I x1)] [sc 0 v5] ?_
 refine qvM [4] [] trivial 3 50 [(49, B true), (48, .lit undef), (47, .lit undef), (46, .lit undef), (45, .lit undef), (44, .lit undef), (43, .lit undef), (42, .lit undef), (41, .lit undef), (40, .lit undef), (39, .lit undef), (38, .lit undef), (37, .lit undef), (36, .lit undef), (33, B true), (32, B true), (31, I (v5.fRow.length : Int)), (30, A v5.fRow), (29, .ptr 0 0 1), (28, B true), (27, B true), (26, .ptr 0 0 2), (23, B false), (22, B v11), (21, A v5.fRow), (20, .ptr 0 0 1), (0, A a0), (3, I x1)] [sc 0 v5] ?_
 refine qn 50 [(0, A a0), (3, I x1), (20, .ptr 0 0 1), (21, A v5.fRow), (22, B v11), (23, B false), (26, .ptr 0 0 2), (27, B true), (28, B true), (29, .ptr 0 0 1), (30, A v5.fRow), (31, I (v5.fRow.length : Int)), (32, B true), (33, B true), (36, .lit undef), (37, .lit undef), (38, .lit undef), (39, .lit undef), (40, .lit undef), (41, .lit undef), (42, .lit undef), (43, .lit undef), (44, .lit undef), (45, .lit undef), (46, .lit undef), (47, .lit undef), (48, .lit undef), (49, B true)] [sc 0 v5] ?_
 exact ⟨true, h, it [0, 3, 49]⟩
 replace h := bF hc16 h
 rw [hc16]
 refine qvM [4] [] trivial 3 50 [(38, B (decide (x1 > 0))), (37, B (decide (x1 > 0))), (36, I x1), (35, B false), (33, B false), (32, B false), (31, I (v5.fRow.length : Int)), (30, A v5.fRow), (29, .ptr 0 0 1), (28, B true), (27, B true), (26, .ptr 0 0 2), (23, B false), (22, B v11), (21, A v5.fRow), (20, .ptr 0 0 1), (0, A a0), (3, I x1), (4, .ptr 0 0 0)] [sc 0 v5] ?_
 rcases fk (decide (x1 > 0)) with hc15 | hc15
 replace h := bT hc15 h
 rw [hc15]
 refine qvM [4] [] trivial 3 50 [(41, I (w64 (x1 - 1))), (40, I x1), (39, A a0), (38, B true), (37, B true), (36, I x1), (35, B false), (33, B false), (32, B false), (31, I (v5.fRow.length : Int)), (30, A v5.fRow), (29, .ptr 0 0 1), (28, B true), (27, B true), (26, .ptr 0 0 2), (23, B false), (22, B v11), (21, A v5.fRow), (20, .ptr 0 0 1), (0, A a0), (3, I x1), (4, .ptr 0 0 0)] [sc 0 v5] ?_
 obtain ⟨v13, hv14, h⟩ := bindS h
 refine qX (some 42) (pf v13 0) 50 [(42, pf v13 0), (41, I (w64 (x1 - 1))), (40, I x1), (39, A a0), (38, B true), (37, B true), (36, I x1), (35, B false), (33, B false), (32, B false), (31, I (v5.fRow.length : Int)), (30, A v5.fRow), (29, .ptr 0 0 1), (28, B true), (27, B true), (26, .ptr 0 0 2), (23, B false), (22, B v11), (21, A v5.fRow), (20, .ptr 0 0 1), (0, A a0), (3, I x1), (4, .ptr 0 0 0)] [sc 0 v5] (fun Γ' hΓ => CoreE.of_y (idxV_sound τ_ok (by kernel_rfl) hv14)) trivial ?_
 refine qvM [4] [] trivial 2 50 [(44, I v13.fKey), (43, pf v13 0), (42, pf v13 0), (41, I (w64 (x1 - 1))), (40, I x1), (39, A a0), (38, B true), (37, B true), (36, I x1), (35, B false), (33, B false), (32, B false), (31, I (v5.fRow.length : Int)), (30, A v5.fRow), (29, .ptr 0 0 1), (28, B true), (27, B true), (26, .ptr 0 0 2), (23, B false), (22, B v11), (21, A v5.fRow), (20, .ptr 0 0 1), (0, A a0), (3, I x1), (4, .ptr 0 0 0)] [sc 0 v5] ?_
 refine qvM [4] [0] (hB trivial) 2 50 [(46, I v5.fKey), (45, .ptr 0 0 0), (44, I v13.fKey), (43, pf v13 0), (42, pf v13 0), (41, I (w64 (x1 - 1))), (40, I x1), (39, A a0), (38, B true), (37, B true), (36, I x1), (35, B false), (33, B false), (32, B false), (31, I (v5.fRow.length : Int)), (30, A v5.fRow), (29, .ptr 0 0 1), (28, B true), (27, B true), (26, .ptr 0 0 2), (23, B false), (22, B v11), (21, A v5.fRow), (20, .ptr 0 0 1), (0, A a0), (3, I x1)] [sc 0 v5] ?_
 refine qvM [4] [] trivial 3 50 [(49, B (decide (v13.fKey ≥ v5.fKey))), (48, B (decide (v13.fKey ≥ v5.fKey))), (47, B (decide (v13.fKey ≥ v5.fKey))), (46, I v5.fKey), (45, .ptr 0 0 0), (44, I v13.fKey), (43, pf v13 0), (42, pf v13 0), (41, I (w64 (x1 - 1))), (40, I x1), (39, A a0), (38, B true), (37, B true), (36, I x1), (33, B false), (32, B false), (31, I (v5.fRow.length : Int)), (30, A v5.fRow), (29, .ptr 0 0 1), (28, B true), (27, B true), (26, .ptr 0 0 2), (23, B false), (22, B v11), (21, A v5.fRow), (20, .ptr 0 0 1), (0, A a0), (3, I x1)] [sc 0 v5] ?_
 refine qn 50 [(0, A a0), (3, I x1), (20, .ptr 0 0 1), (21, A v5.fRow), (22, B v11), (23, B false), (26, .ptr 0 0 2), (27, B true), (28, B true), (29, .ptr 0 0 1), (30, A v5.fRow), (31, I (v5.fRow.length : Int)), (32, B false), (33, B false), (36, I x1), (37, B true), (38, B true), (39, A a0), (40, I x1), (41, I (w64 (x1 - 1))), (42, pf v13 0), (43, pf v13 0), (44, I v13.fKey), (45, .ptr 0 0 0), (46, I v5.fKey), (47, B (decide (v13.fKey ≥ v5.fKey))), (48, B (decide (v13.fKey ≥ v5.fKey))), (49, B (decide (v13.fKey ≥ v5.fKey)))] [sc 0 v5] ?_
 exact ⟨(decide (v13.fKey ≥ v5.fKey)), h, it [0, 3, 49]⟩
 replace h := bF hc15 h
 rw [hc15]
 refine qvM [4] [] trivial 6 50 [(44, .lit undef), (43, .lit undef), (42, .lit undef), (41, .lit undef), (40, .lit undef), (39, .lit undef), (38, B false), (37, B false), (36, I x1), (35, B false), (33, B false), (32, B false), (31, I (v5.fRow.length : Int)), (30, A v5.fRow), (29, .ptr 0 0 1), (28, B true), (27, B true), (26, .ptr 0 0 2), (23, B false), (22, B v11), (21, A v5.fRow), (20, .ptr 0 0 1), (0, A a0), (3, I x1), (4, .ptr 0 0 0)] [sc 0 v5] ?_
 refine qvM [4] [0] (hB trivial) 2 50 [(46, .lit undef), (45, .lit undef), (44, .lit undef), (43, .lit undef), (42, .lit undef), (41, .lit undef), (40, .lit undef), (39, .lit undef), (38, B false), (37, B false), (36, I x1), (35, B false), (33, B false), (32, B false), (31, I (v5.fRow.length : Int)), (30, A v5.fRow), (29, .ptr 0 0 1), (28, B true), (27, B true), (26, .ptr 0 0 2), (23, B false), (22, B v11), (21, A v5.fRow), (20, .ptr 0 0 1), (0, A a0), (3, I x1)] [sc 0 v5] ?_
 refine qvM [4] [] trivial 3 50 [(49, B false), (48, B false), (47, .lit undef), (46, .lit undef), (45, .lit undef), (44, .lit undef), (43, .lit undef), (42, .lit undef), (41, .lit undef), (40, .lit undef), (39, .lit undef), (38, B false), (37, B false), (36, I x1), (33, B false), (32, B false), (31, I (v5.fRow.length : Int)), (30, A v5.fRow), (29, .ptr 0 0 1), (28, B true), (27, B true), (26, .ptr 0 0 2), (23, B false), (22, B v11), (21, A v5.fRow), (20, .ptr 0 0 1), (0, A a0), (3, I x1)] [sc 0 v5] ?_
 refine qn 50 [(0, A a0), (3, I x1), (20, .ptr 0 0 1), (21, A v5.fRow), (22, B v11), (23, B false), (26, .ptr 0 0 2), (27, B true), (28, B true), (29, .ptr 0 0 1), (30, A v5.fRow), (31, I (v5.fRow.length : Int)), (32, B false), (33, B false), (36, I x1), (37, B false), (38, B false), (39, .lit undef), (40, .lit undef), (41, .lit undef), (42, .lit undef), (43, .lit undef), (44, .lit undef), (45, .lit undef), (46, .lit undef), (47, .lit undef), (48, B false), (49, B false)] [sc 0 v5] ?_
 exact ⟨false, h, it [0, 3, 49]⟩
 replace h := bF hc20 h
 rw [hc20]
 refine qvM [4] [0] (hB trivial) 2 50 [(30, .lit undef), (29, .lit undef), (28, B false), (27, B false), (26, .ptr 0 0 2), (25, B false), (23, B false), (22, B v11), (21, A v5.fRow), (20, .ptr 0 0 1), (0, A a0), (3, I x1), (4, .ptr 0 0 0)] [sc 0 v5] ?_
 refine qvM [4] [] trivial 8 50 [(38, B (decide (x1 > 0))), (37, B (decide (x1 > 0))), (36, I x1), (35, B false), (33, B false), (32, .lit undef), (31, .lit undef), (30, .lit undef), (29, .lit undef), (28, B false), (27, B false), (26, .ptr 0 0 2), (23, B false), (22, B v11), (21, A v5.fRow), (20, .ptr 0 0 1), (0, A a0), (3, I x1), (4, .ptr 0 0 0)] [sc 0 v5] ?_
 rcases fk (decide (x1 > 0)) with hc19 | hc19
 replace h := bT hc19 h
 rw [hc19]
 refine qvM [4] [] trivial 3 50 [(41, I (w64 (x1 - 1))), (40, I x1), (39, A a0), (38, B true), (37, B true), (36, I x1), (35, B false), (33, B false), (32, .lit undef), (31, .lit undef), (30, .lit undef), (29, .lit undef), (28, B false), (27, B false), (26, .ptr 0 0 2), (23, B false), (22, B v11), (21, A v5.fRow), (20, .ptr 0 0 1), (0, A a0), (3, I x1), (4, .ptr 0 0 0)] [sc 0 v5] ?_
 obtain ⟨v17, hv18, h⟩ := bindS h
 refine qX (some 42) (pf v17 0) 50 [(42, pf v17 0), (41, I (w64 (x1 - 1))), (40, I x1), (39, A a0), (38, B true), (37, B true), (36, I x1), (35, B false), (33, B false), (32, .lit undef), (31, .lit undef), (30, .lit undef), (29, .lit undef), (28, B false), (27, B false), (26, .ptr 0 0 2), (23, B false), (22, B v11), (21, A v5.fRow), (20, .ptr 0 0 1), (0, A a0), (3, I x1), (4, .ptr 0 0 0)] [sc 0 v5] (fun Γ' hΓ => CoreE.of_y (idxV_sound τ_ok (by kernel_rfl) hv18)) trivial ?_
 refine qvM [4] [] trivial 2 50 [(44, I v17.fKey), (43, pf v17 0), (42, pf v17 0), (41, I (w64 (x1 - 1))), (40, I x1), (39, A a0), (38, B true), (37, B true), (36, I x1), (35, B false), (33, B false), (32, .lit undef), (31, .lit undef), (30, .lit undef), (29, .lit undef), (28, B false), (27, B false), (26, .ptr 0 0 2), (23, B false), (22, B v11), (21, A v5.fRow), (20, .ptr 0 0 1), (0, A a0), (3, I x1), (4, .ptr 0 0 0)] [sc 0 v5] ?_
 refine qvM [4] [0] (hB trivial) 2 50 [(46, I v5.fKey), (45, .ptr 0 0 0), (44, I v17.fKey), (43, pf v17 0), (42, pf v17 0), (41, I (w64 (x1 - 1))), (40, I x1), (39, A a0), (38, B true), (37, B true), (36, I x1), (35, B false), (33, B false), (32, .lit undef), (31, .lit undef), (30, .lit undef), (29, .lit undef), (28, B false), (27, B false), (26, .ptr 0 0 2), (23, B false), (22, B v11), (21, A v5.fRow), (20, .ptr 0 0 1), (0, A a0), (3, I x1)] [sc 0 v5] ?_
 refine qvM [4] [] trivial 3 50 [(49, B (decide (v17.fKey ≥ v5.fKey))), (48, B (decide (v17.fKey ≥ v5.fKey))), (47, B (decide (v17.fKey ≥ v5.fKey))), (46, I v5.fKey), (45, .ptr 0 0 0), (44, I v17.fKey), (43, pf v17 0), (42, pf v17 0), (41, I (w64 (x1 - 1))), (40, I x1), (39, A a0), (38, B true), (37, B true), (36, I x1), (33, B false), (32, .lit undef), (31, .lit undef), (30, .lit undef), (29, .lit undef), (28, B false), (27, B false), (26, .ptr 0 0 2), (23, B false), (22, B v11), (21, A v5.fRow), (20, .ptr 0 0 1), (0, A a0), (3, I x1)] [sc 0 v5] ?_
 refine qn 50 [(0, A a0), (3, I x1), (20, .ptr 0 0 1), (21, A v5.fRow), (22, B v11), (23, B false), (26, .ptr 0 0 2), (27, B false), (28, B false), (29, .lit undef), (30, .lit undef), (31, .lit undef), (32, .lit undef), (33, B false), (36, I x1), (37, B true), (38, B true), (39, A a0), (40, I x1), (41, I (w64 (x1 - 1))), (42, pf v17 0), (43, pf v17 0), (44, I v17.fKey), (45, .ptr 0 0 0), (46, I v5.fKey), (47, B (decide (v17.fKey ≥ v5.fKey))), (48, B (decide (v17.fKey ≥ v5.fKey))), (49, B (decide (v17.fKey ≥ v5.fKey)))] [sc 0 v5] ?_
 exact ⟨(decide (v17.fKey ≥ v5.fKey)), h, it [0, 3, 49]⟩
 replace h := bF hc19 h
 rw [hc19]
 refine qvM [4] [] trivial 6 50 [(44, .lit undef), (43, .lit undef), (42, .lit undef), (41, .lit undef), (40, .lit undef), (39, .lit undef), (38, B false), (37, B false), (36, I x1), (35, B false), (33, B false), (32, .lit undef), (31, .lit undef), (30, .lit undef), (29, .lit undef), (28, B false), (27, B false), (26, .ptr 0 0 2), (23, B false), (22, B v11), (21, A v5.fRow), (20, .ptr 0 0 1), (0, A a0), (3, I x1), (4, .ptr 0 0 0)] [sc 0 v5] ?_
 refine qvM [4] [0] (hB trivial) 2 50 [(46, .lit undef), (45, .lit undef), (44, .lit undef), (43, .lit undef), (42, .lit undef), (41, .lit undef), (40, .lit undef), (39, .lit undef), (38, B false), (37, B false), (36, I x1), (35, B false), (33, B false), (32, .lit undef), (31, .lit undef), (30, .lit undef), (29, .lit undef), (28, B false), (27, B false), (26, .ptr 0 0 2), (23, B false), (22, B v11), (21, A v5.fRow), (20, .ptr 0 0 1), (0, A a0), (3, I x1)] [sc 0 v5] ?_
 refine qvM [4] [] trivial 3 50 [(49, B false), (48, B false), (47, .lit undef), (46, .lit undef), (45, .lit undef), (44, .lit undef), (43, .lit undef), (42, .lit undef), (41, .lit undef), (40, .lit undef), (39, .lit undef), (38, B false), (37, B false), (36, I x1), (33, B false), (32, .lit undef), (31, .lit undef), (30, .lit undef), (29, .lit undef), (28, B false), (27, B false), (26, .ptr 0 0 2), (23, B false), (22, B v11), (21, A v5.fRow), (20, .ptr 0 0 1), (0, A a0), (3, I x1)] [sc 0 v5] ?_
 refine qn 50 [(0, A a0), (3, I x1), (20, .ptr 0 0 1), (21, A v5.fRow), (22, B v11), (23, B false), (26, .ptr 0 0 2), (27, B false), (28, B false), (29, .lit undef), (30, .lit undef), (31, .lit undef), (32, .lit undef), (33, B false), (36, I x1), (37, B false), (38, B false), (39, .lit undef), (40, .lit undef), (41, .lit undef), (42, .lit undef), (43, .lit undef), (44, .lit undef), (45, .lit undef), (46, .lit undef), (47, .lit undef), (48, B false), (49, B false)] [sc 0 v5] ?_
 exact ⟨false, h, it [0, 3, 49]⟩
 rintro x7 h
 unfold spec_WritesOk_j1 at h
 refine pc h (fun h => ?_) (fun h => ?_)
 refine srveM [4] 50 [(2, B false)] [sc 0 v5] ?_
 cases h
 exact pwp_ret rz
 refine pwp_skip ?_
 refine rveM [4] 50 [(0, A a0), (3, I (w64 (x1 + 1)))] [sc 0 v5] ?_
 exact ⟨(f2, (w64 (x1 + 1))), h, Nat.lt_succ_self _, (it (st' := ⟨50, [(0, A a0), (3, I (w64 (x1 + 1)))], [sc 0 v5]⟩) [0, 3]).trans (Imp.truncS 0 (nx hX) (by kernel_rfl) (allBelow_mem (by exact (And.intro rfl (And.intro rfl trivial)))) (by exact trivial) (by kernel_rfl))⟩
 refine pwp_exit ?_
 refine srveM [4] 50 [(2, B true)] [] ?_
 cases h
 exact pwp_ret rz
def laws_alive  : Option Bool := (impl_ValueOk (T_impl_Value.mk 1 3 (ByteArray.mk #[]))).bind fun v1 => bif v1 then (impl_ValueOk (T_impl_Value.mk 9 0 (ByteArray.mk #[]))).bind fun v3 => some (!v3) else some false
theorem ok_laws_alive  {y : Bool} (h : laws_alive  = some y) : OK Try.prog 18 [] (B y) := by
 refine ow Try.func18 fun Γ hX => ?_
 unfold laws_alive at h
 refine srve 8 [] [] ?_
 refine srv 1 8 [(1, E (T_impl_Value.mk 1 3 (ByteArray.mk #[])))] [] ?_
 obtain ⟨v1, hv2, h⟩ := bindS h
 refine cF 2 (ok_impl_ValueOk hv2) ?_
 refine v 1 8 [(3, B v1)] [] ?_
 rcases Bool.eq_false_or_eq_true v1 with hc5 | hc5
 replace h := bT hc5 h
 rw [hc5]
 refine v 1 8 [(3, B true), (4, E (T_impl_Value.mk 9 0 (ByteArray.mk #[])))] [] ?_
 obtain ⟨v3, hv4, h⟩ := bindS h
 refine cF 5 (ok_impl_ValueOk hv4) ?_
 refine ve 3 8 [(0, B (!v3))] [] ?_
 cases h
 exact pwp_ret rz
 replace h := bF hc5 h
 rw [hc5]
 refine ve 5 8 [(0, B false)] [] ?_
 cases h
 exact pwp_ret rz
def impl_RowOk (a0 : List T_impl_Value) : Option Bool := bif (decide ((a0.length : Int) ≤ 4)) then (slices_ContainsFunc_impl_Value_impl_Value a0 impl_RowOk_1).bind fun v1 => some (!v1) else some false
theorem ok_impl_RowOk {a0 : List T_impl_Value} {y : Bool} (h : impl_RowOk a0 = some y) : OK Try.prog 53 [A a0] (B y) := by
 refine ow Try.func53 fun Γ hX => ?_
 unfold impl_RowOk at h
 refine srve 11 [(0, A a0)] [] ?_
 refine srv 4 11 [(0, A a0), (6, B (decide ((a0.length : Int) ≤ 4)))] [] ?_
 rcases fk (decide ((a0.length : Int) ≤ 4)) with hc3 | hc3
 replace h := bT hc3 h
 rw [hc3]
 refine v 1 11 [(6, B true), (7, A a0)] [] ?_
 obtain ⟨v1, hv2, h⟩ := bindS h
 refine cF 8 (ok_slices_ContainsFunc_impl_Value_impl_Value (rfl) (fun _ w hw => ok_impl_RowOk_1 hw) hv2) ?_
 refine ve 3 11 [(2, B (!v1))] [] ?_
 cases h
 exact pwp_ret rz
 replace h := bF hc3 h
 rw [hc3]
 refine ve 5 11 [(2, B false)] [] ?_
 cases h
 exact pwp_ret rz
def spec_VersionsOk_j1 (x1 : Int) (K3 : Int → Option Bool) (x10 : Bool) : Option Bool := bif x10 then some false else K3 (w64 (x1 + 1))
def spec_VersionsOk_l0 (a0 : List T_impl_Version) : Nat → Int → Option Bool
 | 0, _ => none
 | f2 + 1, x1 => bif (decide (x1 < (a0.length : Int))) then (getI a0 x1).bind fun v5 => (spec_l13Version v5).bind fun v7 => bif (!v7) then some false else bif (decide (x1 > 0)) then (getI a0 (w64 (x1 - 1))).bind fun v12 => (getI a0 x1).bind fun v14 => bif (decide (v12.fKey ≥ v14.fKey)) then (getI a0 (w64 (x1 - 1))).bind fun v16 => (getI a0 x1).bind fun v18 => bif (decide (v16.fKey > v18.fKey)) then spec_VersionsOk_j1 x1 (spec_VersionsOk_l0 a0 f2) true else (getI a0 (w64 (x1 - 1))).bind fun v20 => bif (v20.fDied == 0) then spec_VersionsOk_j1 x1 (spec_VersionsOk_l0 a0 f2) true else (getI a0 (w64 (x1 - 1))).bind fun v22 => (getI a0 x1).bind fun v24 => spec_VersionsOk_j1 x1 (spec_VersionsOk_l0 a0 f2) (decide (v22.fDied > v24.fBorn)) else spec_VersionsOk_j1 x1 (spec_VersionsOk_l0 a0 f2) false else spec_VersionsOk_j1 x1 (spec_VersionsOk_l0 a0 f2) false else some (decide ((a0.length : Int) ≤ 60))
def spec_VersionsOk (a0 : List T_impl_Version) : Option Bool := spec_VersionsOk_l0 a0 FUEL 0
theorem ok_spec_VersionsOk {a0 : List T_impl_Version} {y : Bool} (h : spec_VersionsOk a0 = some y) : OK Try.prog 87 [A a0] (B y) := by
 refine ow Try.func87 fun Γ hX => ?_
 unfold spec_VersionsOk at h
 refine srve 72 [(0, A a0)] [] ?_
 refine pwp_seq ?_
 refine srve 72 [(0, A a0), (3, I 0)] [] ?_
 refine pwp_block ?_
 refine pwp_loop (ι := Nat × Int) (fun (f2, x1) => (⟨72, [(0, A a0), (3, I x1)], []⟩ : St)) (fun (f2, x1) => spec_VersionsOk_l0 a0 f2 x1 = some y) Prod.fst (FUEL, 0) h (it [0, 3]) ?_
 rintro ⟨f2, x1⟩ h
 dsimp only at h ⊢
 rcases f2 with _ | f2
 cases h
 rw [spec_VersionsOk_l0] at h
 refine pwp_seq ?_
 refine srve 72 [(0, A a0), (3, I x1), (7, B (decide (x1 < (a0.length : Int))))] [] ?_
 refine pc h (fun h => ?_) (fun h => ?_)
 refine pwp_skip ?_
 refine pwp_seq ?_
 refine pwp_block ?_
 refine pwp_seq ?_
 refine srv 2 72 [(0, A a0), (3, I x1), (10, A a0), (11, I x1)] [] ?_
 obtain ⟨v5, hv6, h⟩ := bindS h
 refine opsP_idx τ_ok 12 hv6 (by kernel_rfl) ?_
 refine v 1 72 [(0, A a0), (3, I x1), (13, E v5)] [] ?_
 obtain ⟨v7, hv8, h⟩ := bindS h
 refine cF 14 (ok_spec_l13Version hv8) ?_
 refine ve 1 72 [(0, A a0), (3, I x1), (15, B (!v7))] [] ?_
 refine pc h (fun h => ?_) (fun h => ?_)
 refine srve 72 [(2, B false)] [] ?_
 cases h
 exact pwp_ret rz
 refine pwp_skip ?_
 refine pwp_seq ?_
 refine pwp_join (σ := Bool) (fun x10 => (⟨72, [(0, A a0), (3, I x1), (68, B x10)], []⟩ : St)) (fun x10 => spec_VersionsOk_j1 x1 (spec_VersionsOk_l0 a0 f2) x10 = some y) ?_ ?_
 refine ip 72 [(0, A a0), (3, I x1)] [] ?_
 refine pN 53 ?_
 refine qv [] trivial 3 72 [(18, B (decide (x1 > 0))), (0, A a0), (3, I x1)] [] ?_
 rcases fk (decide (x1 > 0)) with hc29 | hc29
 replace h := bT hc29 h
 rw [hc29]
 refine qv [] trivial 3 72 [(21, I (w64 (x1 - 1))), (20, I x1), (19, A a0), (18, B true), (0, A a0), (3, I x1)] [] ?_
 obtain ⟨v12, hv13, h⟩ := bindS h
 refine qX (some 22) (pf v12 0) 72 [(22, pf v12 0), (21, I (w64 (x1 - 1))), (20, I x1), (19, A a0), (18, B true), (0, A a0), (3, I x1)] [] (fun Γ' hΓ => CoreE.of_y (idxV_sound τ_ok (by kernel_rfl) hv13)) trivial ?_
 refine qv [] trivial 4 72 [(26, I x1), (25, A a0), (24, I v12.fKey), (23, pf v12 0), (22, pf v12 0), (21, I (w64 (x1 - 1))), (20, I x1), (19, A a0), (18, B true), (0, A a0), (3, I x1)] [] ?_
 obtain ⟨v14, hv15, h⟩ := bindS h
 refine qX (some 27) (pf v14 0) 72 [(27, pf v14 0), (26, I x1), (25, A a0), (24, I v12.fKey), (23, pf v12 0), (22, pf v12 0), (21, I (w64 (x1 - 1))), (20, I x1), (19, A a0), (18, B true), (0, A a0), (3, I x1)] [] (fun Γ' hΓ => CoreE.of_y (idxV_sound τ_ok (by kernel_rfl) hv15)) trivial ?_
 refine qv [] trivial 5 72 [(32, B (decide (v12.fKey ≥ v14.fKey))), (30, B (decide (v12.fKey ≥ v14.fKey))), (29, I v14.fKey), (28, pf v14 0), (27, pf v14 0), (26, I x1), (25, A a0), (24, I v12.fKey), (23, pf v12 0), (22, pf v12 0), (21, I (w64 (x1 - 1))), (20, I x1), (19, A a0), (0, A a0), (3, I x1)] [] ?_
 rcases fk (decide (v12.fKey ≥ v14.fKey)) with hc28 | hc28
 replace h := bT hc28 h
 rw [hc28]
 refine qv [] trivial 3 72 [(35, I (w64 (x1 - 1))), (34, I x1), (33, A a0), (32, B true), (30, B true), (29, I v14.fKey), (28, pf v14 0), (27, pf v14 0), (26, I x1), (25, A a0), (24, I v12.fKey), (23, pf v12 0), (22, pf v12 0), (21, I (w64 (x1 - 1))), (20, I x1), (19, A a0), (0, A a0), (3, I x1)] [] ?_
 obtain ⟨v16, hv17, h⟩ := bindS h
 refine qX (some 36) (pf v16 0) 72 [(36, pf v16 0), (35, I (w64 (x1 - 1))), (34, I x1), (33, A a0), (32, B true), (30, B true), (29, I v14.fKey), (28, pf v14 0), (27, pf v14 0), (26, I x1), (25, A a0), (24, I v12.fKey), (23, pf v12 0), (22, pf v12 0), (21, I (w64 (x1 - 1))), (20, I x1), (19, A a0), (0, A a0), (3, I x1)] [] (fun Γ' hΓ => CoreE.of_y (idxV_sound τ_ok (by kernel_rfl) hv17)) trivial ?_
 refine qv [] trivial 4 72 [(40, I x1), (39, A a0), (38, I v16.fKey), (37, pf v16 0), (36, pf v16 0), (35, I (w64 (x1 - 1))), (34, I x1), (33, A a0), (32, B true), (30, B true), (29, I v14.fKey), (28, pf v14 0), (27, pf v14 0), (26, I x1), (25, A a0), (24, I v12.fKey), (23, pf v12 0), (22, pf v12 0), (21, I (w64 (x1 - 1))), (20, I x1), (19, A a0), (0, A a0), (3, I x1)] [] ?_
 obtain ⟨v18, hv19, h⟩ := bindS h
 refine qX (some 41) (pf v18 0) 72 [(41, pf v18 0), (40, I x1), (39, A a0), (38, I v16.fKey), (37, pf v16 0), (36, pf v16 0), (35, I (w64 (x1 - 1))), (34, I x1), (33, A a0), (32, B true), (30, B true), (29, I v14.fKey), (28, pf v14 0), (27, pf v14 0), (26, I x1), (25, A a0), (24, I v12.fKey), (23, pf v12 0), (22, pf v12 0), (21, I (w64 (x1 - 1))), (20, I x1), (19, A a0), (0, A a0), (3, I x1)] [] (fun Γ' hΓ => CoreE.of_y (idxV_sound τ_ok (by kernel_rfl) hv19)) trivial ?_
 refine qv [] trivial 4 72 [(45, B (decide (v16.fKey > v18.fKey))), (44, B (decide (v16.fKey > v18.fKey))), (43, I v18.fKey), (42, pf v18 0), (41, pf v18 0), (40, I x1), (39, A a0), (38, I v16.fKey), (37, pf v16 0), (36, pf v16 0), (35, I (w64 (x1 - 1))), (34, I x1), (33, A a0), (32, B true), (30, B true), (29, I v14.fKey), (28, pf v14 0), (27, pf v14 0), (26, I x1), (25, A a0), (24, I v12.fKey), (23, pf v12 0), (22, pf v12 0), (21, I (w64 (x1 - 1))), (20, I x1), (19, A a0), (0, A a0), (3, I x1)] [] ?_
 rcases fk (decide (v16.fKey > v18.fKey)) with hc27 | hc27
 replace h := bT hc27 h
 rw [hc27]
 refine qvn [] trivial 23 72 [(0, A a0), (3, I x1), (19, A a0), (20, I x1), (21, I (w64 (x1 - 1))), (22, pf v12 0), (23, pf v12 0), (24, I v12.fKey), (25, A a0), (26, I x1), (27, pf v14 0), (28, pf v14 0), (29, I v14.fKey), (30, B true), (33, A a0), (34, I x1), (35, I (w64 (x1 - 1))), (36, pf v16 0), (37, pf v16 0), (38, I v16.fKey), (39, A a0), (40, I x1), (41, pf v18 0), (42, pf v18 0), (43, I v18.fKey), (44, B true), (45, B true), (46, .lit undef), (47, .lit undef), (48, .lit undef), (49, .lit undef), (50, .lit undef), (51, .lit undef), (52, .lit undef), (53, B true), (54, B true), (55, .lit undef), (56, .lit undef), (57, .lit undef), (58, .lit undef), (59, .lit undef), (60, .lit undef), (61, .lit undef), (62, .lit undef), (63, .lit undef), (64, .lit undef), (65, .lit undef), (66, .lit undef), (67, B true), (68, B true)] [] ?_
 exact ⟨true, h, it [0, 3, 68]⟩
 replace h := bF hc27 h
 rw [hc27]
 refine qv [] trivial 3 72 [(48, I (w64 (x1 - 1))), (47, I x1), (46, A a0), (45, B false), (44, B false), (43, I v18.fKey), (42, pf v18 0), (41, pf v18 0), (40, I x1), (39, A a0), (38, I v16.fKey), (37, pf v16 0), (36, pf v16 0), (35, I (w64 (x1 - 1))), (34, I x1), (33, A a0), (32, B true), (30, B true), (29, I v14.fKey), (28, pf v14 0), (27, pf v14 0), (26, I x1), (25, A a0), (24, I v12.fKey), (23, pf v12 0), (22, pf v12 0), (21, I (w64 (x1 - 1))), (20, I x1), (19, A a0), (0, A a0), (3, I x1)] [] ?_
 obtain ⟨v20, hv21, h⟩ := bindS h
 refine qX (some 49) (pf v20 0) 72 [(49, pf v20 0), (48, I (w64 (x1 - 1))), (47, I x1), (46, A a0), (45, B false), (44, B false), (43, I v18.fKey), (42, pf v18 0), (41, pf v18 0), (40, I x1), (39, A a0), (38, I v16.fKey), (37, pf v16 0), (36, pf v16 0), (35, I (w64 (x1 - 1))), (34, I x1), (33, A a0), (32, B true), (30, B true), (29, I v14.fKey), (28, pf v14 0), (27, pf v14 0), (26, I x1), (25, A a0), (24, I v12.fKey), (23, pf v12 0), (22, pf v12 0), (21, I (w64 (x1 - 1))), (20, I x1), (19, A a0), (0, A a0), (3, I x1)] [] (fun Γ' hΓ => CoreE.of_y (idxV_sound τ_ok (by kernel_rfl) hv21)) trivial ?_
 refine qv [] trivial 5 72 [(54, B (v20.fDied == 0)), (53, B (v20.fDied == 0)), (52, B (v20.fDied == 0)), (51, I v20.fDied), (50, pf v20 2), (49, pf v20 0), (48, I (w64 (x1 - 1))), (47, I x1), (46, A a0), (45, B false), (44, B false), (43, I v18.fKey), (42, pf v18 0), (41, pf v18 0), (40, I x1), (39, A a0), (38, I v16.fKey), (37, pf v16 0), (36, pf v16 0), (35, I (w64 (x1 - 1))), (34, I x1), (33, A a0), (32, B true), (30, B true), (29, I v14.fKey), (28, pf v14 0), (27, pf v14 0), (26, I x1), (25, A a0), (24, I v12.fKey), (23, pf v12 0), (22, pf v12 0), (21, I (w64 (x1 - 1))), (20, I x1), (19, A a0), (0, A a0), (3, I x1)] [] ?_
 rcases fk (v20.fDied == 0) with hc26 | hc26
 replace h := bT hc26 h
 rw [hc26]
 refine qvn [] trivial 14 72 [(0, A a0), (3, I x1), (19, A a0), (20, I x1), (21, I (w64 (x1 - 1))), (22, pf v12 0), (23, pf v12 0), (24, I v12.fKey), (25, A a0), (26, I x1), (27, pf v14 0), (28, pf v14 0), (29, I v14.fKey), (30, B true), (33, A a0), (34, I x1), (35, I (w64 (x1 - 1))), (36, pf v16 0), (37, pf v16 0), (38, I v16.fKey), (39, A a0), (40, I x1), (41, pf v18 0), (42, pf v18 0), (43, I v18.fKey), (44, B false), (45, B false), (46, A a0), (47, I x1), (48, I (w64 (x1 - 1))), (49, pf v20 0), (50, pf v20 2), (51, I v20.fDied), (52, B true), (53, B true), (54, B true), (55, .lit undef), (56, .lit undef), (57, .lit undef), (58, .lit undef), (59, .lit undef), (60, .lit undef), (61, .lit undef), (62, .lit undef), (63, .lit undef), (64, .lit undef), (65, .lit undef), (66, .lit undef), (67, B true), (68, B true)] [] ?_
 exact ⟨true, h, it [0, 3, 68]⟩
 replace h := bF hc26 h
 rw [hc26]
 refine qv [] trivial 3 72 [(57, I (w64 (x1 - 1))), (56, I x1), (55, A a0), (54, B false), (53, B false), (52, B false), (51, I v20.fDied), (50, pf v20 2), (49, pf v20 0), (48, I (w64 (x1 - 1))), (47, I x1), (46, A a0), (45, B false), (44, B false), (43, I v18.fKey), (42, pf v18 0), (41, pf v18 0), (40, I x1), (39, A a0), (38, I v16.fKey), (37, pf v16 0), (36, pf v16 0), (35, I (w64 (x1 - 1))), (34, I x1), (33, A a0), (32, B true), (30, B true), (29, I v14.fKey), (28, pf v14 0), (27, pf v14 0), (26, I x1), (25, A a0), (24, I v12.fKey), (23, pf v12 0), (22, pf v12 0), (21, I (w64 (x1 - 1))), (20, I x1), (19, A a0), (0, A a0), (3, I x1)] [] ?_
 obtain ⟨v22, hv23, h⟩ := bindS h
 refine qX (some 58) (pf v22 0) 72 [(58, pf v22 0), (57, I (w64 (x1 - 1))), (56, I x1), (55, A a0), (54, B false), (53, B false), (52, B false), (51, I v20.fDied), (50, pf v20 2), (49, pf v20 0), (48, I (w64 (x1 - 1))), (47, I x1), (46, A a0), (45, B false), (44, B false), (43, I v18.fKey), (42, pf v18 0), (41, pf v18 0), (40, I x1), (39, A a0), (38, I v16.fKey), (37, pf v16 0), (36, pf v16 0), (35, I (w64 (x1 - 1))), (34, I x1), (33, A a0), (32, B true), (30, B true), (29, I v14.fKey), (28, pf v14 0), (27, pf v14 0), (26, I x1), (25, A a0), (24, I v12.fKey), (23, pf v12 0), (22, pf v12 0), (21, I (w64 (x1 - 1))), (20, I x1), (19, A a0), (0, A a0), (3, I x1)] [] (fun Γ' hΓ => CoreE.of_y (idxV_sound τ_ok (by kernel_rfl) hv23)) trivial ?_
 refine qv [] trivial 4 72 [(62, I x1), (61, A a0), (60, I v22.fDied), (59, pf v22 2), (58, pf v22 0), (57, I (w64 (x1 - 1))), (56, I x1), (55, A a0), (54, B false), (53, B false), (52, B false), (51, I v20.fDied), (50, pf v20 2), (49, pf v20 0), (48, I (w64 (x1 - 1))), (47, I x1), (46, A a0), (45, B false), (44, B false), (43, I v18.fKey), (42, pf v18 0), (41, pf v18 0), (40, I x1), (39, A a0), (38, I v16.fKey), (37, pf v16 0), (36, pf v16 0), (35, I (w64 (x1 - 1))), (34, I x1), (33, A a0), (32, B true), (30, B true), (29, I v14.fKey), (28, pf v14 0), (27, pf v14 0), (26, I x1), (25, A a0), (24, I v12.fKey), (23, pf v12 0), (22, pf v12 0), (21, I (w64 (x1 - 1))), (20, I x1), (19, A a0), (0, A a0), (3, I x1)] [] ?_
 obtain ⟨v24, hv25, h⟩ := bindS h
 refine qX (some 63) (pf v24 0) 72 [(63, pf v24 0), (62, I x1), (61, A a0), (60, I v22.fDied), (59, pf v22 2), (58, pf v22 0), (57, I (w64 (x1 - 1))), (56, I x1), (55, A a0), (54, B false), (53, B false), (52, B false), (51, I v20.fDied), (50, pf v20 2), (49, pf v20 0), (48, I (w64 (x1 - 1))), (47, I x1), (46, A a0), (45, B false), (44, B false), (43, I v18.fKey), (42, pf v18 0), (41, pf v18 0), (40, I x1), (39, A a0), (38, I v16.fKey), (37, pf v16 0), (36, pf v16 0), (35, I (w64 (x1 - 1))), (34, I x1), (33, A a0), (32, B true), (30, B true), (29, I v14.fKey), (28, pf v14 0), (27, pf v14 0), (26, I x1), (25, A a0), (24, I v12.fKey), (23, pf v12 0), (22, pf v12 0), (21, I (w64 (x1 - 1))), (20, I x1), (19, A a0), (0, A a0), (3, I x1)] [] (fun Γ' hΓ => CoreE.of_y (idxV_sound τ_ok (by kernel_rfl) hv25)) trivial ?_
 refine qvn [] trivial 5 72 [(0, A a0), (3, I x1), (19, A a0), (20, I x1), (21, I (w64 (x1 - 1))), (22, pf v12 0), (23, pf v12 0), (24, I v12.fKey), (25, A a0), (26, I x1), (27, pf v14 0), (28, pf v14 0), (29, I v14.fKey), (30, B true), (33, A a0), (34, I x1), (35, I (w64 (x1 - 1))), (36, pf v16 0), (37, pf v16 0), (38, I v16.fKey), (39, A a0), (40, I x1), (41, pf v18 0), (42, pf v18 0), (43, I v18.fKey), (44, B false), (45, B false), (46, A a0), (47, I x1), (48, I (w64 (x1 - 1))), (49, pf v20 0), (50, pf v20 2), (51, I v20.fDied), (52, B false), (53, B false), (54, B false), (55, A a0), (56, I x1), (57, I (w64 (x1 - 1))), (58, pf v22 0), (59, pf v22 2), (60, I v22.fDied), (61, A a0), (62, I x1), (63, pf v24 0), (64, pf v24 1), (65, I v24.fBorn), (66, B (decide (v22.fDied > v24.fBorn))), (67, B (decide (v22.fDied > v24.fBorn))), (68, B (decide (v22.fDied > v24.fBorn)))] [] ?_
 exact ⟨(decide (v22.fDied > v24.fBorn)), h, it [0, 3, 68]⟩
 replace h := bF hc28 h
 rw [hc28]
 refine qvn [] trivial 36 72 [(0, A a0), (3, I x1), (19, A a0), (20, I x1), (21, I (w64 (x1 - 1))), (22, pf v12 0), (23, pf v12 0), (24, I v12.fKey), (25, A a0), (26, I x1), (27, pf v14 0), (28, pf v14 0), (29, I v14.fKey), (30, B false), (33, .lit undef), (34, .lit undef), (35, .lit undef), (36, .lit undef), (37, .lit undef), (38, .lit undef), (39, .lit undef), (40, .lit undef), (41, .lit undef), (42, .lit undef), (43, .lit undef), (44, .lit undef), (45, .lit undef), (46, .lit undef), (47, .lit undef), (48, .lit undef), (49, .lit undef), (50, .lit undef), (51, .lit undef), (52, .lit undef), (53, .lit undef), (54, .lit undef), (55, .lit undef), (56, .lit undef), (57, .lit undef), (58, .lit undef), (59, .lit undef), (60, .lit undef), (61, .lit undef), (62, .lit undef), (63, .lit undef), (64, .lit undef), (65, .lit undef), (66, .lit undef), (67, .lit undef), (68, B false)] [] ?_
 exact ⟨false, h, it [0, 3, 68]⟩
 replace h := bF hc29 h
 rw [hc29]
 refine qvn [] trivial 50 72 [(0, A a0), (3, I x1), (19, .lit undef), (20, .lit undef), (21, .lit undef), (22, .lit undef), (23, .lit undef), (24, .lit undef), (25, .lit undef), (26, .lit undef), (27, .lit undef), (28, .lit undef), (29, .lit undef), (30, .lit undef), (33, .lit undef), (34, .lit undef), (35, .lit undef), (36, .lit undef), (37, .lit undef), (38, .lit undef), (39, .lit undef), (40, .lit undef), (41, .lit undef), (42, .lit undef), (43, .lit undef), (44, .lit undef), (45, .lit undef), (46, .lit undef), (47, .lit undef), (48, .lit undef), (49, .lit undef), (50, .lit undef), (51, .lit undef), (52, .lit undef), (53, .lit undef), (54, .lit undef), (55, .lit undef), (56, .lit undef), (57, .lit undef), (58, .lit undef), (59, .lit undef), (60, .lit undef), (61, .lit undef), (62, .lit undef), (63, .lit undef), (64, .lit undef), (65, .lit undef), (66, .lit undef), (67, .lit undef), (68, B false)] [] ?_
 exact ⟨false, h, it [0, 3, 68]⟩
 rintro x10 h
 unfold spec_VersionsOk_j1 at h
 refine pc h (fun h => ?_) (fun h => ?_)
 refine srve 72 [(2, B false)] [] ?_
 cases h
 exact pwp_ret rz
 refine pwp_skip ?_
 refine rve 72 [(0, A a0), (3, I (w64 (x1 + 1)))] [] ?_
 exact ⟨(f2, (w64 (x1 + 1))), h, Nat.lt_succ_self _, it [0, 3]⟩
 refine pwp_exit ?_
 refine srve 72 [(2, B (decide ((a0.length : Int) ≤ 60)))] [] ?_
 cases h
 exact pwp_ret rz
def spec_SeenAt_j2 (a0 : List T_impl_Version) (x1 : Int) (K3 : Int → Option ((List T_impl_Value) × Bool)) (x6 : Bool) : Option ((List T_impl_Value) × Bool) := bif x6 then (getI a0 x1).bind fun v8 => (spec_l3Own v8.fRow).bind fun v10 => some (v10, true) else K3 (w64 (x1 + 1))
def spec_SeenAt_j1 (a0 : List T_impl_Version) (a1 : Int) (a2 : Int) (x1 : Int) (K3 : Int → Option ((List T_impl_Value) × Bool)) (x4 : Bool) : Option ((List T_impl_Value) × Bool) := bif x4 then (getI a0 x1).bind fun v12 => bif (v12.fKey == a1) then (getI a0 x1).bind fun v14 => (spec_l13Seen v14 a2).bind fun v16 => spec_SeenAt_j2 a0 x1 K3 v16 else spec_SeenAt_j2 a0 x1 K3 false else some (([] : List T_impl_Value), false)
def spec_SeenAt_l0 (a0 : List T_impl_Version) (a1 : Int) (a2 : Int) : Nat → Int → Option ((List T_impl_Value) × Bool)
 | 0, _ => none
 | f2 + 1, x1 => bif (decide (x1 < (a0.length : Int))) then (spec_VersionsOk a0).bind fun v19 => spec_SeenAt_j1 a0 a1 a2 x1 (spec_SeenAt_l0 a0 a1 a2 f2) v19 else spec_SeenAt_j1 a0 a1 a2 x1 (spec_SeenAt_l0 a0 a1 a2 f2) false
def spec_SeenAt (a0 : List T_impl_Version) (a1 : Int) (a2 : Int) : Option ((List T_impl_Value) × Bool) := spec_SeenAt_l0 a0 a1 a2 FUEL 0
theorem ok_spec_SeenAt {a0 : List T_impl_Version} {a1 : Int} {a2 : Int} {y : (List T_impl_Value) × Bool} (h : spec_SeenAt a0 a1 a2 = some y) : OK Try.prog 88 [A a0, I a1, I a2] (.tup [A y.1, B y.2]) := by
 refine ow Try.func88 fun Γ hX => ?_
 unfold spec_SeenAt at h
 refine srve 41 [(0, A a0), (1, I a1), (2, I a2)] [] ?_
 refine pwp_seq ?_
 refine srve 41 [(0, A a0), (1, I a1), (2, I a2), (8, I 0)] [] ?_
 refine pwp_block ?_
 refine pwp_loop (ι := Nat × Int) (fun (f2, x1) => (⟨41, [(0, A a0), (1, I a1), (2, I a2), (8, I x1)], []⟩ : St)) (fun (f2, x1) => spec_SeenAt_l0 a0 a1 a2 f2 x1 = some y) Prod.fst (FUEL, 0) h (it [0, 1, 2, 8]) ?_
 rintro ⟨f2, x1⟩ h
 dsimp only at h ⊢
 rcases f2 with _ | f2
 cases h
 rw [spec_SeenAt_l0] at h
 refine pwp_seq ?_
 refine pwp_seq ?_
 refine pwp_join (σ := Bool) (fun x4 => (⟨41, [(0, A a0), (1, I a1), (2, I a2), (8, I x1), (16, B x4)], []⟩ : St)) (fun x4 => spec_SeenAt_j1 a0 a1 a2 x1 (spec_SeenAt_l0 a0 a1 a2 f2) x4 = some y) ?_ ?_
 refine rv 5 41 [(0, A a0), (1, I a1), (2, I a2), (8, I x1), (13, B (decide (x1 < (a0.length : Int))))] [] ?_
 rcases fk (decide (x1 < (a0.length : Int))) with hc21 | hc21
 replace h := bT hc21 h
 rw [hc21]
 refine v 1 41 [(0, A a0), (1, I a1), (2, I a2), (8, I x1), (13, B true), (14, A a0)] [] ?_
 obtain ⟨v19, hv20, h⟩ := bindS h
 refine cF 15 (ok_spec_VersionsOk hv20) ?_
 refine ve 1 41 [(0, A a0), (1, I a1), (2, I a2), (8, I x1), (14, A a0), (15, B v19), (16, B v19)] [] ?_
 exact ⟨v19, h, it [0, 1, 2, 8, 16]⟩
 replace h := bF hc21 h
 rw [hc21]
 refine ve 3 41 [(0, A a0), (1, I a1), (2, I a2), (8, I x1), (14, .lit undef), (15, .lit undef), (16, B false)] [] ?_
 exact ⟨false, h, it [0, 1, 2, 8, 16]⟩
 rintro x4 h
 unfold spec_SeenAt_j1 at h
 refine pc h (fun h => ?_) (fun h => ?_)
 refine pwp_skip ?_
 refine pwp_seq ?_
 refine pwp_block ?_
 refine pwp_seq ?_
 refine pwp_join (σ := Bool) (fun x6 => (⟨41, [(0, A a0), (1, I a1), (2, I a2), (8, I x1), (33, B x6)], []⟩ : St)) (fun x6 => spec_SeenAt_j2 a0 x1 (spec_SeenAt_l0 a0 a1 a2 f2) x6 = some y) ?_ ?_
 refine rv 2 41 [(0, A a0), (1, I a1), (2, I a2), (8, I x1), (19, A a0), (20, I x1)] [] ?_
 obtain ⟨v12, hv13, h⟩ := bindS h
 refine opsP_idx τ_ok 21 hv13 (by kernel_rfl) ?_
 refine v 5 41 [(0, A a0), (1, I a1), (2, I a2), (8, I x1), (26, B (v12.fKey == a1))] [] ?_
 rcases fk (v12.fKey == a1) with hc18 | hc18
 replace h := bT hc18 h
 rw [hc18]
 refine v 2 41 [(0, A a0), (1, I a1), (2, I a2), (8, I x1), (26, B true), (27, A a0), (28, I x1)] [] ?_
 obtain ⟨v14, hv15, h⟩ := bindS h
 refine opsP_idx τ_ok 29 hv15 (by kernel_rfl) ?_
 refine v 2 41 [(0, A a0), (1, I a1), (2, I a2), (8, I x1), (26, B true), (27, A a0), (28, I x1), (29, pf v14 0), (30, E v14), (31, I a2)] [] ?_
 obtain ⟨v16, hv17, h⟩ := bindS h
 refine cF 32 (ok_spec_l13Seen hv17) ?_
 refine ve 1 41 [(0, A a0), (1, I a1), (2, I a2), (8, I x1), (27, A a0), (28, I x1), (29, pf v14 0), (30, E v14), (31, I a2), (32, B v16), (33, B v16)] [] ?_
 exact ⟨v16, h, it [0, 1, 2, 8, 33]⟩
 replace h := bF hc18 h
 rw [hc18]
 refine ve 7 41 [(0, A a0), (1, I a1), (2, I a2), (8, I x1), (27, .lit undef), (28, .lit undef), (29, .lit undef), (30, .lit undef), (31, .lit undef), (32, .lit undef), (33, B false)] [] ?_
 exact ⟨false, h, it [0, 1, 2, 8, 33]⟩
 rintro x6 h
 unfold spec_SeenAt_j2 at h
 refine pc h (fun h => ?_) (fun h => ?_)
 refine srv 2 41 [(34, A a0), (35, I x1)] [] ?_
 obtain ⟨v8, hv9, h⟩ := bindS h
 refine opsP_idx τ_ok 36 hv9 (by kernel_rfl) ?_
 refine v 2 41 [(38, A v8.fRow)] [] ?_
 obtain ⟨v10, hv11, h⟩ := bindS h
 refine cFo 39 (ok_spec_l3Own hv11) ?_
 refine ve 2 41 [(6, A v10), (7, B true)] [] ?_
 have h := si h
 subst h
 exact pwp_ret (rt (.tup [A v10, B true]) (OutP.tup (OutL.cons (OutP.frz (by kernel_rfl)) (OutL.cons (OutP.frz (by kernel_rfl)) (OutL.nil _)))))
 refine pwp_skip ?_
 refine rve 41 [(0, A a0), (1, I a1), (2, I a2), (8, I (w64 (x1 + 1)))] [] ?_
 exact ⟨(f2, (w64 (x1 + 1))), h, Nat.lt_succ_self _, it [0, 1, 2, 8]⟩
 refine pwp_exit ?_
 refine srve 41 [(6, .arr 3 0 (eL ([] : List T_impl_Value)) true), (7, B false)] [] ?_
 refine ip 41 [(6, .arr 3 0 (eL ([] : List T_impl_Value)) true), (7, B false)] [] ?_
 refine pwp_imp (Imp.unfS (st' := ⟨41, [(6, A ([] : List T_impl_Value)), (7, B false)], []⟩) 6 [6, 7] (by kernel_rfl)) ?_
 have h := si h
 subst h
 exact pwp_ret (rt (.tup [A ([] : List T_impl_Value), B false]) (OutP.tup (OutL.cons (OutP.frz (by kernel_rfl)) (OutL.cons (OutP.frz (by kernel_rfl)) (OutL.nil _)))))
def impl_allOk_1 (a0 : List T_impl_Value) : Option Bool := (impl_RowOk a0).bind fun v1 => some (!v1)
theorem ok_impl_allOk_1 {a0 : List T_impl_Value} {y : Bool} (h : impl_allOk_1 a0 = some y) : OK Try.prog 99 [A a0] (B y) := by
 refine ow Try.func99 fun Γ hX => ?_
 unfold impl_allOk_1 at h
 refine srve 6 [(0, A a0)] [] ?_
 refine srv 1 6 [(3, A a0)] [] ?_
 obtain ⟨v1, hv2, h⟩ := bindS h
 refine cF 4 (ok_impl_RowOk hv2) ?_
 refine ve 2 6 [(2, B (!v1))] [] ?_
 cases h
 exact pwp_ret rz
def impl_rowOrder (a0 : List T_impl_Value) (a1 : List T_impl_Value) : Option Int := (slices_CompareFunc_impl_Value_impl_Value_impl_Value_impl_Value_s2 a0 a1 impl_Value_order).bind fun v1 => (cmp_Compare_int (a0.length : Int) (a1.length : Int)).bind fun v3 => (cmp_Or_int ([v1, v3])).bind fun v5 => some v5
theorem ok_impl_rowOrder {a0 : List T_impl_Value} {a1 : List T_impl_Value} {y : Int} (h : impl_rowOrder a0 a1 = some y) : OK Try.prog 103 [A a0, A a1] (I y) := by
 refine ow Try.func103 fun Γ hX => ?_
 unfold impl_rowOrder at h
 refine srve 15 [(0, A a0), (1, A a1)] [] ?_
 refine srv 2 15 [(0, A a0), (1, A a1), (5, A a0), (6, A a1)] [] ?_
 obtain ⟨v1, hv2, h⟩ := bindS h
 refine cF 7 (ok_slices_CompareFunc_impl_Value_impl_Value_impl_Value_impl_Value_s2 (rfl) (fun _ _ w hw => ok_impl_Value_order hw) hv2) ?_
 refine v 4 15 [(7, I v1), (9, I (a0.length : Int)), (11, I (a1.length : Int))] [] ?_
 obtain ⟨v3, hv4, h⟩ := bindS h
 refine cF 12 (ok_cmp_Compare_int hv4) ?_
 refine v 1 15 [(13, .arr 1 ([v1, v3] : List Int).length (eL ([v1, v3] : List Int)) true)] [] ?_
 obtain ⟨v5, hv6, h⟩ := bindS h
 refine cF 14 (ok_cmp_Or_int hv6) ?_
 refine ve 1 15 [(4, I v5)] [] ?_
 cases h
 exact pwp_ret rz
def spec_LastTurn_j2 (x2 : Int) (K4 : Int → Int → Option Int) (x7 : Int) : Option Int := K4 x7 (w64 (x2 + 1))
def spec_LastTurn_j1 (a0 : List T_impl_Version) (a1 : Int) (x1 : Int) (x2 : Int) (K4 : Int → Int → Option Int) (x5 : Bool) : Option Int := bif x5 then (getI a0 x2).bind fun v8 => bif (v8.fKey == a1) then (getI a0 x2).bind fun v11 => (getI a0 x2).bind fun v13 => spec_LastTurn_j2 x2 K4 (maxL x1 [v11.fBorn, v13.fDied]) else spec_LastTurn_j2 x2 K4 x1 else some x1
def spec_LastTurn_l0 (a0 : List T_impl_Version) (a1 : Int) : Nat → Int → Int → Option Int
 | 0, _, _ => none
 | f3 + 1, x1, x2 => bif (decide (x2 < (a0.length : Int))) then (spec_VersionsOk a0).bind fun v15 => spec_LastTurn_j1 a0 a1 x1 x2 (spec_LastTurn_l0 a0 a1 f3) v15 else spec_LastTurn_j1 a0 a1 x1 x2 (spec_LastTurn_l0 a0 a1 f3) false
def spec_LastTurn (a0 : List T_impl_Version) (a1 : Int) : Option Int := spec_LastTurn_l0 a0 a1 FUEL 0 0
theorem ok_spec_LastTurn {a0 : List T_impl_Version} {a1 : Int} {y : Int} (h : spec_LastTurn a0 a1 = some y) : OK Try.prog 143 [A a0, I a1] (I y) := by
 refine ow Try.func143 fun Γ hX => ?_
 unfold spec_LastTurn at h
 refine srve 37 [(0, A a0), (1, I a1)] [] ?_
 refine srve 37 [(0, A a0), (1, I a1), (5, I 0)] [] ?_
 refine pwp_seq ?_
 refine srve 37 [(0, A a0), (1, I a1), (5, I 0), (6, I 0)] [] ?_
 refine pwp_block ?_
 refine pwp_loop (ι := Nat × Int × Int) (fun (f3, x1, x2) => (⟨37, [(0, A a0), (1, I a1), (5, I x1), (6, I x2)], []⟩ : St)) (fun (f3, x1, x2) => spec_LastTurn_l0 a0 a1 f3 x1 x2 = some y) Prod.fst (FUEL, 0, 0) h (it [0, 1, 5, 6]) ?_
 rintro ⟨f3, x1, x2⟩ h
 dsimp only at h ⊢
 rcases f3 with _ | f3
 cases h
 rw [spec_LastTurn_l0] at h
 refine pwp_seq ?_
 refine pwp_seq ?_
 refine pwp_join (σ := Bool) (fun x5 => (⟨37, [(0, A a0), (1, I a1), (5, I x1), (6, I x2), (14, B x5)], []⟩ : St)) (fun x5 => spec_LastTurn_j1 a0 a1 x1 x2 (spec_LastTurn_l0 a0 a1 f3) x5 = some y) ?_ ?_
 refine rv 5 37 [(0, A a0), (1, I a1), (5, I x1), (6, I x2), (11, B (decide (x2 < (a0.length : Int))))] [] ?_
 rcases fk (decide (x2 < (a0.length : Int))) with hc17 | hc17
 replace h := bT hc17 h
 rw [hc17]
 refine v 1 37 [(0, A a0), (1, I a1), (5, I x1), (6, I x2), (11, B true), (12, A a0)] [] ?_
 obtain ⟨v15, hv16, h⟩ := bindS h
 refine cF 13 (ok_spec_VersionsOk hv16) ?_
 refine ve 1 37 [(0, A a0), (1, I a1), (5, I x1), (6, I x2), (12, A a0), (13, B v15), (14, B v15)] [] ?_
 exact ⟨v15, h, it [0, 1, 5, 6, 14]⟩
 replace h := bF hc17 h
 rw [hc17]
 refine ve 3 37 [(0, A a0), (1, I a1), (5, I x1), (6, I x2), (12, .lit undef), (13, .lit undef), (14, B false)] [] ?_
 exact ⟨false, h, it [0, 1, 5, 6, 14]⟩
 rintro x5 h
 unfold spec_LastTurn_j1 at h
 refine pc h (fun h => ?_) (fun h => ?_)
 refine pwp_skip ?_
 refine pwp_seq ?_
 refine pwp_join (σ := Int) (fun x7 => (⟨37, [(0, A a0), (1, I a1), (5, I x7), (6, I x2)], []⟩ : St)) (fun x7 => spec_LastTurn_j2 x2 (spec_LastTurn_l0 a0 a1 f3) x7 = some y) ?_ ?_
 refine pwp_block ?_
 refine srv 2 37 [(0, A a0), (1, I a1), (5, I x1), (6, I x2), (17, A a0), (18, I x2)] [] ?_
 obtain ⟨v8, hv9, h⟩ := bindS h
 refine opsP_idx τ_ok 19 hv9 (by kernel_rfl) ?_
 refine ve 4 37 [(0, A a0), (1, I a1), (5, I x1), (6, I x2), (23, B (v8.fKey == a1))] [] ?_
 refine pc h (fun h => ?_) (fun h => ?_)
 refine ip 37 [(0, A a0), (1, I a1), (5, I x1), (6, I x2)] [] ?_
 refine pN 13 ?_
 refine qv [] trivial 3 37 [(26, I x2), (25, A a0), (24, I x1), (0, A a0), (1, I a1), (5, I x1), (6, I x2)] [] ?_
 obtain ⟨v11, hv12, h⟩ := bindS h
 refine qX (some 27) (pf v11 0) 37 [(27, pf v11 0), (24, I x1), (0, A a0), (1, I a1), (5, I x1), (6, I x2)] [] (fun Γ' hΓ => CoreE.of_y (idxV_sound τ_ok (by kernel_rfl) hv12)) trivial ?_
 refine qv [] trivial 4 37 [(31, I x2), (30, A a0), (29, I v11.fBorn), (24, I x1), (0, A a0), (1, I a1), (5, I x1), (6, I x2)] [] ?_
 obtain ⟨v13, hv14, h⟩ := bindS h
 refine qX (some 32) (pf v13 0) 37 [(32, pf v13 0), (29, I v11.fBorn), (24, I x1), (0, A a0), (1, I a1), (5, I x1), (6, I x2)] [] (fun Γ' hΓ => CoreE.of_y (idxV_sound τ_ok (by kernel_rfl) hv14)) trivial ?_
 refine qv [] trivial 2 37 [(34, I v13.fDied), (29, I v11.fBorn), (24, I x1), (0, A a0), (1, I a1), (5, I x1), (6, I x2)] [] ?_
 refine qX (some 35) (I (maxL x1 [v11.fBorn, v13.fDied])) 37 [(35, I (maxL x1 [v11.fBorn, v13.fDied])), (0, A a0), (1, I a1), (5, I x1), (6, I x2)] [] (fun Γ' hΓ => CoreE.of_y (mxmV_sound (τ := τ) (m := true) (a := x1) (l := [v11.fBorn, v13.fDied]) (by kernel_rfl))) trivial ?_
 refine qvn [] trivial 1 37 [(0, A a0), (1, I a1), (5, I (maxL x1 [v11.fBorn, v13.fDied])), (6, I x2)] [] ?_
 exact ⟨(maxL x1 [v11.fBorn, v13.fDied]), h, it [0, 1, 5, 6]⟩
 refine pwp_skip ?_
 exact ⟨x1, h, it [0, 1, 5, 6]⟩
 rintro x7 h
 unfold spec_LastTurn_j2 at h
 refine rve 37 [(0, A a0), (1, I a1), (5, I x7), (6, I (w64 (x2 + 1)))] [] ?_
 exact ⟨(f3, x7, (w64 (x2 + 1))), h, Nat.lt_succ_self _, it [0, 1, 5, 6]⟩
 refine pwp_exit ?_
 refine srve 37 [(4, I x1)] [] ?_
 cases h
 exact pwp_ret rz
def impl_rowsCopy_L0_l0 (a0 : List (List T_impl_Value)) : Nat → Int → (List (List T_impl_Value)) → Option (List (List T_impl_Value))
 | 0, _, _ => none
 | f5 + 1, x3, x4 => bif (decide (x3 < (a0.length : Int))) then (getI a0 x3).bind fun v8 => (impl_clone_impl_Value v8).bind fun v10 => (app x4 ([v10] : List (List T_impl_Value))).bind fun v12 => (impl_rowsCopy_L0_l0 a0 f5) (w64 (x3 + 1)) v12 else (slices_Clip_impl_Value_impl_Value_s3 x4).bind fun v14 => some v14
def impl_rowsCopy_L0 (a0 : List (List T_impl_Value)) : Option (List (List T_impl_Value)) := impl_rowsCopy_L0_l0 a0 FUEL 0 ([] : List (List T_impl_Value))
theorem ok_impl_rowsCopy_L0 {a0 : List (List T_impl_Value)} {y : List (List T_impl_Value)} (h : impl_rowsCopy_L0 a0 = some y) : OKs Try.prog 58 [] 1 a0.length (eL a0) [] (A y) (eL a0) := by
 refine OKs_of_pwp τ_ok Try.func58 rfl (by kernel_rfl) rfl (eL_frz _) (eL_frz _) rfl fun Γ hQ => ?_
 refine pwp_imp (Imp.to (st' := ⟨20, [(0, rf 0 0 1 a0)], [sl 0 a0]⟩) [0] (by kernel_rfl)) ?_
 unfold impl_rowsCopy_L0 at h
 refine srve 20 [(0, rf 0 0 1 a0)] [sl 0 a0] ?_
 refine srve 20 [(0, rf 0 0 1 a0), (3, .arr 1 0 (eL ([] : List (List T_impl_Value))) true)] [sl 0 a0] ?_
 refine pwp_seq ?_
 refine srve 20 [(3, .arr 1 0 (eL ([] : List (List T_impl_Value))) true), (6, rf 0 0 1 a0), (7, I (a0.length : Int)), (8, I 0)] [sl 0 a0] ?_
 refine pwp_block ?_
 refine pwp_loop (ι := Nat × Int × (List (List T_impl_Value))) (fun (f5, x3, x4) => (⟨20, [(3, rf 1 0 1 x4), (6, rf 0 0 1 a0), (7, I (a0.length : Int)), (8, I x3)], [sl 0 a0, sl 0 x4]⟩ : St)) (fun (f5, x3, x4) => impl_rowsCopy_L0_l0 a0 f5 x3 x4 = some y) Prod.fst (FUEL, 0, ([] : List (List T_impl_Value))) h (Imp.thawS 3 [3, 6, 7, 8] (by kernel_rfl)) ?_
 rintro ⟨f5, x3, x4⟩ h
 dsimp only at h ⊢
 rcases f5 with _ | f5
 cases h
 rw [impl_rowsCopy_L0_l0] at h
 refine srve 20 [(3, rf 1 0 1 x4), (6, rf 0 0 1 a0), (7, I (a0.length : Int)), (8, I x3), (9, B (decide (x3 < (a0.length : Int))))] [sl 0 a0, sl 0 x4] ?_
 refine pwp_seq ?_
 refine pc h (fun h => ?_) (fun h => ?_)
 refine pwp_skip ?_
 refine pwp_seq ?_
 refine pwp_block ?_
 refine pwp_seq ?_
 refine pwp_region ?_
 obtain ⟨v8, hv9, h⟩ := bindS h
 refine opsP_idr τ_ok 10 0 0 a0.length hv9 rfl (by kernel_rfl) ?_
 refine opsP_lde (r := A v8) τ_ok 11 29 0 hv9 (by kernel_rfl) (by kernel_rfl) ?_
 refine ve 1 20 [(3, rf 1 0 1 x4), (5, A v8), (6, rf 0 0 1 a0), (7, I (a0.length : Int)), (8, I x3)] [sl 0 a0, sl 0 x4] ?_
 refine rv 2 20 [(6, rf 0 0 1 a0), (7, I (a0.length : Int)), (8, I x3), (12, rf 1 0 1 x4), (13, A v8)] [sl 0 a0, sl 0 x4] ?_
 obtain ⟨v10, hv11, h⟩ := bindS h
 refine cF 14 (ok_impl_clone_impl_Value hv11) ?_
 refine v 1 20 [(6, rf 0 0 1 a0), (7, I (a0.length : Int)), (8, I x3), (12, rf 1 0 1 x4), (15, .arr 1 ([v10] : List (List T_impl_Value)).length (eL ([v10] : List (List T_impl_Value))) true)] [sl 0 a0, sl 0 x4] ?_
 obtain ⟨v12, hv13, h⟩ := bindS h
 refine opsP_app τ_ok 16 1 0 (pn hQ) hv13 (by kernel_rfl) ?_
 refine ve 1 20 [(3, rf 1 1 1 v12), (6, rf 0 0 1 a0), (7, I (a0.length : Int)), (8, I x3)] [sl 0 a0, sl 1 v12] ?_
 refine rve 20 [(3, rf 1 1 1 v12), (6, rf 0 0 1 a0), (7, I (a0.length : Int)), (8, I (w64 (x3 + 1)))] [sl 0 a0, sl 1 v12] ?_
 exact ⟨(f5, (w64 (x3 + 1)), v12), h, Nat.lt_succ_self _, (it (st' := ⟨20, [(3, rf 1 1 1 v12), (6, rf 0 0 1 a0), (7, I (a0.length : Int)), (8, I (w64 (x3 + 1)))], [sl 0 a0, sl 1 v12]⟩) [3, 6, 7, 8]).trans (Imp.reverS 1 1 (eL v12) [3, 6, 7, 8] (by kernel_rfl) (by exact (And.intro (eL_frz _) (And.intro (eL_frz _) trivial))) (by kernel_rfl))⟩
 refine pwp_exit ?_
 refine srv 1 20 [(18, rf 1 0 1 x4)] [sl 0 a0, sl 0 x4] ?_
 refine opsP_imp (Imp.freezeB (v := 0) (cs := eL x4) (st' := ⟨20, [(18, A x4)], [sl 0 a0, none]⟩) 1 0 (pn hQ) (by kernel_rfl) (eL_frz _) (wholeC (whole_is (eL_len x4).symm) wholeC0) (HpRel.frz rfl (eL_frz _) (HpRel.key HpRel.nil)) (by kernel_rfl) rfl (p01 hQ)) ?_
 obtain ⟨v14, hv15, h⟩ := bindS h
 refine cF 19 (ok_slices_Clip_impl_Value_impl_Value_s3 hv15) ?_
 refine ve 1 20 [(2, A v14)] [sl 0 a0, none] ?_
 have h := si h
 subst h
 exact pwp_ret ⟨.inr rfl, A v14, _, 0, by kernel_rfl, (OutP.frz (by kernel_rfl)), by decide, by decide, by kernel_rfl⟩
def spec_ChangesOf_j2 (x4 : Int) (K7 : Int → (List T_impl_Change) → Option (List T_impl_Change)) (x9 : List T_impl_Change) : Option (List T_impl_Change) := K7 (w64 (x4 + 1)) x9
def spec_ChangesOf_j4 (x4 : Int) (K7 : Int → (List T_impl_Change) → Option (List T_impl_Change)) (v12 : (List T_impl_Value) × Bool) (x16 : List T_impl_Change) : Option (List T_impl_Change) := bif v12.2 then (app x16 ([(T_impl_Change.mk 0 v12.1 true)] : List T_impl_Change)).bind fun v18 => spec_ChangesOf_j2 x4 K7 v18 else spec_ChangesOf_j2 x4 K7 x16
def spec_ChangesOf_j3 (x4 : Int) (x5 : List T_impl_Change) (K7 : Int → (List T_impl_Change) → Option (List T_impl_Change)) (v10 : (List T_impl_Value) × Bool) (v12 : (List T_impl_Value) × Bool) (x14 : Bool) : Option (List T_impl_Change) := bif x14 then spec_ChangesOf_j2 x4 K7 x5 else bif v10.2 then (app x5 ([(T_impl_Change.mk 0 v10.1 false)] : List T_impl_Change)).bind fun v21 => spec_ChangesOf_j4 x4 K7 v12 v21 else spec_ChangesOf_j4 x4 K7 v12 x5
def spec_ChangesOf_l1 (a0 : List T_impl_Version) (a1 : Int) : Nat → Int → (List T_impl_Change) → Option (List T_impl_Change)
 | 0, _, _ => none
 | f6 + 1, x4, x5 => bif (decide (x4 < 5)) then (spec_SeenAt a0 x4 a1).bind fun v10 => (spec_SeenAt a0 x4 (w64 (a1 + 1))).bind fun v12 => bif (v10.2 == v12.2) then (spec_l3Same v10.1 v12.1).bind fun v23 => spec_ChangesOf_j3 x4 x5 (spec_ChangesOf_l1 a0 a1 f6) v10 v12 v23 else spec_ChangesOf_j3 x4 x5 (spec_ChangesOf_l1 a0 a1 f6) v10 v12 false else some x5
def spec_ChangesOf_j0 (a0 : List T_impl_Version) (a1 : Int) (x1 : Bool) : Option (List T_impl_Change) := bif x1 then some ([] : List T_impl_Change) else spec_ChangesOf_l1 a0 a1 FUEL 0 ([] : List T_impl_Change)
def spec_ChangesOf (a0 : List T_impl_Version) (a1 : Int) : Option (List T_impl_Change) := (spec_VersionsOk a0).bind fun v26 => bif (!v26) then spec_ChangesOf_j0 a0 a1 true else (spec_l1In a1 0 40).bind fun v28 => spec_ChangesOf_j0 a0 a1 (!v28)
theorem ok_spec_ChangesOf {a0 : List T_impl_Version} {a1 : Int} {y : List T_impl_Change} (h : spec_ChangesOf a0 a1 = some y) : OK Try.prog 38 [A a0, I a1] (O y) := by
 refine ow Try.func38 fun Γ hX => ?_
 unfold spec_ChangesOf at h
 refine srve 61 [(0, A a0), (1, I a1)] [] ?_
 refine srve 61 [(0, A a0), (1, I a1), (5, .arr 3 0 (eL ([] : List T_impl_Change)) true)] [] ?_
 refine pwp_seq ?_
 refine pwp_seq ?_
 refine pwp_join (σ := Bool) (fun x1 => (⟨61, [(0, A a0), (1, I a1), (5, .arr 3 0 (eL ([] : List T_impl_Change)) true), (19, B x1)], []⟩ : St)) (fun x1 => spec_ChangesOf_j0 a0 a1 x1 = some y) ?_ ?_
 refine rv 1 61 [(0, A a0), (1, I a1), (5, .arr 3 0 (eL ([] : List T_impl_Change)) true), (12, A a0)] [] ?_
 obtain ⟨v26, hv27, h⟩ := bindS h
 refine cF 13 (ok_spec_VersionsOk hv27) ?_
 refine v 2 61 [(0, A a0), (1, I a1), (5, .arr 3 0 (eL ([] : List T_impl_Change)) true), (15, B (!v26))] [] ?_
 rcases fk (!v26) with hc30 | hc30
 replace h := bT hc30 h
 rw [hc30]
 refine ve 4 61 [(0, A a0), (1, I a1), (5, .arr 3 0 (eL ([] : List T_impl_Change)) true), (19, B true)] [] ?_
 exact ⟨true, h, it [0, 1, 5, 19]⟩
 replace h := bF hc30 h
 rw [hc30]
 refine v 1 61 [(0, A a0), (1, I a1), (5, .arr 3 0 (eL ([] : List T_impl_Change)) true), (15, B false), (16, I a1)] [] ?_
 obtain ⟨v28, hv29, h⟩ := bindS h
 refine cF 17 (ok_spec_l1In hv29) ?_
 refine ve 2 61 [(0, A a0), (1, I a1), (5, .arr 3 0 (eL ([] : List T_impl_Change)) true), (19, B (!v28))] [] ?_
 exact ⟨(!v28), h, it [0, 1, 5, 19]⟩
 rintro x1 h
 unfold spec_ChangesOf_j0 at h
 refine pc h (fun h => ?_) (fun h => ?_)
 refine srve 61 [(4, .arr 3 0 (eL ([] : List T_impl_Change)) true)] [] ?_
 refine ip 61 [(4, .arr 3 0 (eL ([] : List T_impl_Change)) true)] [] ?_
 refine pwp_imp (Imp.thawS (st' := ⟨61, [(4, .ref 0 0 0 3 ([] : List T_impl_Change).length false)], [some ⟨0, eL ([] : List T_impl_Change)⟩]⟩) 4 [4] (by kernel_rfl)) ?_
 have h := si h
 subst h
 exact pwp_ret (rt (.ref 0 0 0 3 ([] : List T_impl_Change).length false) (OutP.list (v := 0) (by kernel_rfl)))
 refine pwp_skip ?_
 refine pwp_seq ?_
 refine srve 61 [(0, A a0), (1, I a1), (5, .arr 3 0 (eL ([] : List T_impl_Change)) true), (6, I 0)] [] ?_
 refine pwp_block ?_
 refine pwp_loop (ι := Nat × Int × (List T_impl_Change)) (fun (f6, x4, x5) => (⟨61, [(0, A a0), (1, I a1), (5, rf 0 0 3 x5), (6, I x4)], [sl 0 x5]⟩ : St)) (fun (f6, x4, x5) => spec_ChangesOf_l1 a0 a1 f6 x4 x5 = some y) Prod.fst (FUEL, 0, ([] : List T_impl_Change)) h (Imp.thawS 5 [0, 1, 5, 6] (by kernel_rfl)) ?_
 rintro ⟨f6, x4, x5⟩ h
 dsimp only at h ⊢
 rcases f6 with _ | f6
 cases h
 rw [spec_ChangesOf_l1] at h
 refine pwp_seq ?_
 refine srve 61 [(0, A a0), (1, I a1), (5, rf 0 0 3 x5), (6, I x4), (22, B (decide (x4 < 5)))] [sl 0 x5] ?_
 refine pc h (fun h => ?_) (fun h => ?_)
 refine pwp_skip ?_
 refine pwp_seq ?_
 refine pwp_join (σ := (List T_impl_Change)) (fun x9 => (⟨61, [(0, A a0), (1, I a1), (5, rf 0 0 3 x9), (6, I x4)], [sl 0 x9]⟩ : St)) (fun x9 => spec_ChangesOf_j2 x4 (spec_ChangesOf_l1 a0 a1 f6) x9 = some y) ?_ ?_
 refine pwp_block ?_
 refine srv 3 61 [(0, A a0), (1, I a1), (5, rf 0 0 3 x5), (6, I x4), (26, A a0), (27, I x4), (28, I a1)] [sl 0 x5] ?_
 obtain ⟨v10, hv11, h⟩ := bindS h
 refine opsP_callF τ 29 (ok_spec_SeenAt hv11) (FzTo.tup (FzToL.cons (FzTo.frz rfl) (FzToL.cons (FzTo.frz rfl) FzToL.nil))) rfl (by kernel_rfl) ?_
 refine ve 5 61 [(0, A a0), (1, I a1), (5, rf 0 0 3 x5), (6, I x4), (7, A v10.1), (8, B v10.2)] [sl 0 x5] ?_
 refine srv 4 61 [(0, A a0), (1, I a1), (5, rf 0 0 3 x5), (6, I x4), (7, A v10.1), (8, B v10.2), (33, A a0), (34, I x4), (36, I (w64 (a1 + 1)))] [sl 0 x5] ?_
 obtain ⟨v12, hv13, h⟩ := bindS h
 refine opsP_callF τ 37 (ok_spec_SeenAt hv13) (FzTo.tup (FzToL.cons (FzTo.frz rfl) (FzToL.cons (FzTo.frz rfl) FzToL.nil))) rfl (by kernel_rfl) ?_
 refine ve 5 61 [(0, A a0), (1, I a1), (5, rf 0 0 3 x5), (6, I x4), (7, A v10.1), (8, B v10.2), (9, A v12.1), (10, B v12.2)] [sl 0 x5] ?_
 refine pwp_seq ?_
 refine pwp_seq ?_
 refine pwp_join (σ := Bool) (fun x14 => (⟨61, [(0, A a0), (1, I a1), (5, rf 0 0 3 x5), (6, I x4), (7, A v10.1), (8, B v10.2), (9, A v12.1), (10, B v12.2), (47, B x14)], [sl 0 x5]⟩ : St)) (fun x14 => spec_ChangesOf_j3 x4 x5 (spec_ChangesOf_l1 a0 a1 f6) v10 v12 x14 = some y) ?_ ?_
 refine rv 4 61 [(0, A a0), (1, I a1), (5, rf 0 0 3 x5), (6, I x4), (7, A v10.1), (8, B v10.2), (9, A v12.1), (10, B v12.2), (43, B (v10.2 == v12.2))] [sl 0 x5] ?_
 rcases fk (v10.2 == v12.2) with hc25 | hc25
 replace h := bT hc25 h
 rw [hc25]
 refine v 2 61 [(0, A a0), (1, I a1), (5, rf 0 0 3 x5), (6, I x4), (7, A v10.1), (8, B v10.2), (9, A v12.1), (10, B v12.2), (43, B true), (44, A v10.1), (45, A v12.1)] [sl 0 x5] ?_
 obtain ⟨v23, hv24, h⟩ := bindS h
 refine cF 46 (ok_spec_l3Same hv24) ?_
 refine ve 1 61 [(0, A a0), (1, I a1), (5, rf 0 0 3 x5), (6, I x4), (7, A v10.1), (8, B v10.2), (9, A v12.1), (10, B v12.2), (44, A v10.1), (45, A v12.1), (46, B v23), (47, B v23)] [sl 0 x5] ?_
 exact ⟨v23, h, it [0, 1, 5, 6, 7, 8, 9, 10, 47]⟩
 replace h := bF hc25 h
 rw [hc25]
 refine ve 4 61 [(0, A a0), (1, I a1), (5, rf 0 0 3 x5), (6, I x4), (7, A v10.1), (8, B v10.2), (9, A v12.1), (10, B v12.2), (44, .lit undef), (45, .lit undef), (46, .lit undef), (47, B false)] [sl 0 x5] ?_
 exact ⟨false, h, it [0, 1, 5, 6, 7, 8, 9, 10, 47]⟩
 rintro x14 h
 unfold spec_ChangesOf_j3 at h
 refine pc h (fun h => ?_) (fun h => ?_)
 refine pwp_exit ?_
 exact ⟨x5, h, it [0, 1, 5, 6]⟩
 refine pwp_skip ?_
 refine pwp_seq ?_
 refine pwp_join (σ := (List T_impl_Change)) (fun x16 => (⟨61, [(0, A a0), (1, I a1), (5, rf 0 0 3 x16), (6, I x4), (9, A v12.1), (10, B v12.2)], [sl 0 x16]⟩ : St)) (fun x16 => spec_ChangesOf_j4 x4 (spec_ChangesOf_l1 a0 a1 f6) v12 x16 = some y) ?_ ?_
 refine srve 61 [(0, A a0), (1, I a1), (5, rf 0 0 3 x5), (6, I x4), (7, A v10.1), (9, A v12.1), (10, B v12.2), (48, B v10.2)] [sl 0 x5] ?_
 refine pc h (fun h => ?_) (fun h => ?_)
 refine rv 4 61 [(0, A a0), (1, I a1), (6, I x4), (9, A v12.1), (10, B v12.2), (49, rf 0 0 3 x5), (52, .arr 3 ([(T_impl_Change.mk 0 v10.1 false)] : List T_impl_Change).length (eL ([(T_impl_Change.mk 0 v10.1 false)] : List T_impl_Change)) true)] [sl 0 x5] ?_
 obtain ⟨v21, hv22, h⟩ := bindS h
 refine opsP_app τ_ok 53 0 0 (nx hX) hv22 (by kernel_rfl) ?_
 refine ve 1 61 [(0, A a0), (1, I a1), (5, rf 0 1 3 v21), (6, I x4), (9, A v12.1), (10, B v12.2)] [sl 1 v21] ?_
 exact ⟨v21, h, (it (st' := ⟨61, [(0, A a0), (1, I a1), (5, rf 0 1 3 v21), (6, I x4), (9, A v12.1), (10, B v12.2)], [sl 1 v21]⟩) [0, 1, 5, 6, 9, 10]).trans (Imp.reverS 0 1 (eL v21) [0, 1, 5, 6, 9, 10] (by kernel_rfl) (by exact (And.intro (eL_frz _) trivial)) (by kernel_rfl))⟩
 refine pwp_skip ?_
 exact ⟨x5, h, it [0, 1, 5, 6, 9, 10]⟩
 rintro x16 h
 unfold spec_ChangesOf_j4 at h
 refine srve 61 [(0, A a0), (1, I a1), (5, rf 0 0 3 x16), (6, I x4), (9, A v12.1), (54, B v12.2)] [sl 0 x16] ?_
 refine pc h (fun h => ?_) (fun h => ?_)
 refine rv 4 61 [(0, A a0), (1, I a1), (6, I x4), (55, rf 0 0 3 x16), (58, .arr 3 ([(T_impl_Change.mk 0 v12.1 true)] : List T_impl_Change).length (eL ([(T_impl_Change.mk 0 v12.1 true)] : List T_impl_Change)) true)] [sl 0 x16] ?_
 obtain ⟨v18, hv19, h⟩ := bindS h
 refine opsP_app τ_ok 59 0 0 (nx hX) hv19 (by kernel_rfl) ?_
 refine ve 1 61 [(0, A a0), (1, I a1), (5, rf 0 1 3 v18), (6, I x4)] [sl 1 v18] ?_
 exact ⟨v18, h, (it (st' := ⟨61, [(0, A a0), (1, I a1), (5, rf 0 1 3 v18), (6, I x4)], [sl 1 v18]⟩) [0, 1, 5, 6]).trans (Imp.reverS 0 1 (eL v18) [0, 1, 5, 6] (by kernel_rfl) (by exact (And.intro (eL_frz _) trivial)) (by kernel_rfl))⟩
 refine pwp_skip ?_
 exact ⟨x16, h, it [0, 1, 5, 6]⟩
 rintro x9 h
 unfold spec_ChangesOf_j2 at h
 refine rve 61 [(0, A a0), (1, I a1), (5, rf 0 0 3 x9), (6, I (w64 (x4 + 1)))] [sl 0 x9] ?_
 exact ⟨(f6, (w64 (x4 + 1)), x9), h, Nat.lt_succ_self _, it [0, 1, 5, 6]⟩
 refine pwp_exit ?_
 refine srve 61 [(4, rf 0 0 3 x5)] [sl 0 x5] ?_
 have h := si h
 subst h
 exact pwp_ret (rt (rf 0 0 3 x5) (OutP.list (v := 0) (by kernel_rfl)))
def impl_VersionsOk_j2 (x1 : Int) (K3 : Int → Option Bool) (x12 : Bool) : Option Bool := bif x12 then some false else K3 (w64 (x1 + 1))
def impl_VersionsOk_j1 (a0 : List T_impl_Version) (x1 : Int) (K3 : Int → Option Bool) (v5 : T_impl_Version) (x7 : Bool) : Option Bool := bif x7 then some false else bif (x1 == 0) then K3 (w64 (x1 + 1)) else (getI a0 (w64 (x1 - 1))).bind fun v10 => bif (decide (v10.fKey > v5.fKey)) then impl_VersionsOk_j2 x1 K3 true else bif (v10.fKey == v5.fKey) then bif (decide (v10.fBorn ≥ v5.fBorn)) then impl_VersionsOk_j2 x1 K3 true else bif (v10.fDied == 0) then impl_VersionsOk_j2 x1 K3 true else impl_VersionsOk_j2 x1 K3 (decide (v10.fDied > v5.fBorn)) else impl_VersionsOk_j2 x1 K3 false
def impl_VersionsOk_l0 (a0 : List T_impl_Version) : Nat → Int → Option Bool
 | 0, _ => none
 | f2 + 1, x1 => bif (decide (x1 < (a0.length : Int))) then (getI a0 x1).bind fun v5 => (impl_keyOk v5.fKey).bind fun v18 => bif (!v18) then impl_VersionsOk_j1 a0 x1 (impl_VersionsOk_l0 a0 f2) v5 true else (impl_between v5.fBorn 1 40).bind fun v20 => bif (!v20) then impl_VersionsOk_j1 a0 x1 (impl_VersionsOk_l0 a0 f2) v5 true else bif (!(v5.fDied == 0)) then (impl_between v5.fDied (w64 (v5.fBorn + 1)) 40).bind fun v22 => bif (!v22) then impl_VersionsOk_j1 a0 x1 (impl_VersionsOk_l0 a0 f2) v5 true else (impl_RowOk v5.fRow).bind fun v24 => impl_VersionsOk_j1 a0 x1 (impl_VersionsOk_l0 a0 f2) v5 (!v24) else (impl_RowOk v5.fRow).bind fun v27 => impl_VersionsOk_j1 a0 x1 (impl_VersionsOk_l0 a0 f2) v5 (!v27) else some (decide ((a0.length : Int) ≤ 60))
def impl_VersionsOk (a0 : List T_impl_Version) : Option Bool := impl_VersionsOk_l0 a0 FUEL 0
theorem ok_impl_VersionsOk {a0 : List T_impl_Version} {y : Bool} (h : impl_VersionsOk a0 = some y) : OK Try.prog 39 [A a0] (B y) := by
 refine ow Try.func39 fun Γ hX => ?_
 unfold impl_VersionsOk at h
 refine srveM [4, 5] 85 [(0, A a0)] [] ?_
 refine pwp_seq ?_
 refine srveM [4, 5] 85 [(0, A a0), (6, A a0), (7, I (a0.length : Int)), (8, I 0)] [] ?_
 refine pwp_block ?_
 refine pwp_loop (ι := Nat × Int) (fun (f2, x1) => (⟨85, [(0, A a0), (6, A a0), (7, I (a0.length : Int)), (8, I x1)], []⟩ : St)) (fun (f2, x1) => impl_VersionsOk_l0 a0 f2 x1 = some y) Prod.fst (FUEL, 0) h (it [0, 6, 7, 8]) ?_
 rintro ⟨f2, x1⟩ h
 dsimp only at h ⊢
 rcases f2 with _ | f2
 cases h
 rw [impl_VersionsOk_l0] at h
 refine srveM [4, 5] 85 [(0, A a0), (6, A a0), (7, I (a0.length : Int)), (8, I x1), (9, B (decide (x1 < (a0.length : Int))))] [] ?_
 refine pwp_seq ?_
 refine pc h (fun h => ?_) (fun h => ?_)
 refine pwp_skip ?_
 refine pwp_seq ?_
 refine pwp_block ?_
 refine srvM [4, 5] 1 85 [(0, A a0), (6, A a0), (7, I (a0.length : Int)), (8, I x1), (10, I x1)] [] ?_
 obtain ⟨v5, hv6, h⟩ := bindS h
 refine opsP_idx τ_ok 11 hv6 (by kernel_rfl) ?_
 refine veM [4, 5] 4 85 [(0, A a0), (3, I x1), (4, .ptr 0 0 0), (6, A a0), (7, I (a0.length : Int)), (8, I x1)] [sc 0 v5] ?_
 refine pwp_seq ?_
 refine pwp_seq ?_
 refine pwp_join (σ := Bool) (fun x7 => (⟨85, [(0, A a0), (3, I x1), (4, .ptr 0 0 0), (6, A a0), (7, I (a0.length : Int)), (8, I x1), (42, B x7)], [sc 0 v5]⟩ : St)) (fun x7 => impl_VersionsOk_j1 a0 x1 (impl_VersionsOk_l0 a0 f2) v5 x7 = some y) ?_ ?_
 refine rvM [4, 5] 2 85 [(0, A a0), (3, I x1), (4, .ptr 0 0 0), (6, A a0), (7, I (a0.length : Int)), (8, I x1), (14, I v5.fKey)] [sc 0 v5] ?_
 obtain ⟨v18, hv19, h⟩ := bindS h
 refine cF 15 (ok_impl_keyOk hv19) ?_
 refine vM [4, 5] 2 85 [(0, A a0), (3, I x1), (4, .ptr 0 0 0), (6, A a0), (7, I (a0.length : Int)), (8, I x1), (17, B (!v18))] [sc 0 v5] ?_
 rcases fk (!v18) with hc31 | hc31
 replace h := bT hc31 h
 rw [hc31]
 refine veM [4, 5] 25 85 [(0, A a0), (3, I x1), (4, .ptr 0 0 0), (6, A a0), (7, I (a0.length : Int)), (8, I x1), (18, .lit undef), (19, .lit undef), (20, .lit undef), (21, .lit undef), (24, .lit undef), (25, .lit undef), (26, .lit undef), (27, .lit undef), (28, .lit undef), (29, .lit undef), (30, .lit undef), (31, .lit undef), (32, .lit undef), (33, .lit undef), (34, .lit undef), (35, .lit undef), (38, .lit undef), (39, .lit undef), (40, .lit undef), (41, .lit undef), (42, B true)] [sc 0 v5] ?_
 exact ⟨true, h, it [0, 3, 4, 6, 7, 8, 42]⟩
 replace h := bF hc31 h
 rw [hc31]
 refine vM [4, 5] 2 85 [(0, A a0), (3, I x1), (4, .ptr 0 0 0), (6, A a0), (7, I (a0.length : Int)), (8, I x1), (17, B false), (18, .ptr 0 0 1), (19, I v5.fBorn)] [sc 0 v5] ?_
 obtain ⟨v20, hv21, h⟩ := bindS h
 refine cF 20 (ok_impl_between hv21) ?_
 refine vM [4, 5] 3 85 [(0, A a0), (3, I x1), (4, .ptr 0 0 0), (6, A a0), (7, I (a0.length : Int)), (8, I x1), (18, .ptr 0 0 1), (19, I v5.fBorn), (20, B v20), (21, B (!v20)), (23, B (!v20))] [sc 0 v5] ?_
 rcases fk (!v20) with hc30 | hc30
 replace h := bT hc30 h
 rw [hc30]
 refine veM [4, 5] 19 85 [(0, A a0), (3, I x1), (4, .ptr 0 0 0), (6, A a0), (7, I (a0.length : Int)), (8, I x1), (18, .ptr 0 0 1), (19, I v5.fBorn), (20, B v20), (21, B true), (24, .lit undef), (25, .lit undef), (26, .lit undef), (27, .lit undef), (28, .lit undef), (29, .lit undef), (30, .lit undef), (31, .lit undef), (32, .lit undef), (33, .lit undef), (34, .lit undef), (35, .lit undef), (38, .lit undef), (39, .lit undef), (40, .lit undef), (41, .lit undef), (42, B true)] [sc 0 v5] ?_
 exact ⟨true, h, it [0, 3, 4, 6, 7, 8, 42]⟩
 replace h := bF hc30 h
 rw [hc30]
 refine vM [4, 5] 4 85 [(0, A a0), (3, I x1), (4, .ptr 0 0 0), (6, A a0), (7, I (a0.length : Int)), (8, I x1), (18, .ptr 0 0 1), (19, I v5.fBorn), (20, B v20), (21, B false), (23, B false), (24, .ptr 0 0 2), (25, I v5.fDied), (26, B (!(v5.fDied == 0))), (27, B (!(v5.fDied == 0)))] [sc 0 v5] ?_
 rcases fk (!(v5.fDied == 0)) with hc29 | hc29
 replace h := bT hc29 h
 rw [hc29]
 refine vM [4, 5] 5 85 [(0, A a0), (3, I x1), (4, .ptr 0 0 0), (6, A a0), (7, I (a0.length : Int)), (8, I x1), (18, .ptr 0 0 1), (19, I v5.fBorn), (20, B v20), (21, B false), (23, B false), (24, .ptr 0 0 2), (25, I v5.fDied), (26, B true), (27, B true), (28, .ptr 0 0 2), (29, I v5.fDied), (30, .ptr 0 0 1), (31, I v5.fBorn), (32, I (w64 (v5.fBorn + 1)))] [sc 0 v5] ?_
 obtain ⟨v22, hv23, h⟩ := bindS h
 refine cF 33 (ok_impl_between hv23) ?_
 refine vM [4, 5] 4 85 [(0, A a0), (3, I x1), (4, .ptr 0 0 0), (6, A a0), (7, I (a0.length : Int)), (8, I x1), (18, .ptr 0 0 1), (19, I v5.fBorn), (20, B v20), (21, B false), (24, .ptr 0 0 2), (25, I v5.fDied), (26, B true), (27, B true), (28, .ptr 0 0 2), (29, I v5.fDied), (30, .ptr 0 0 1), (31, I v5.fBorn), (32, I (w64 (v5.fBorn + 1))), (33, B v22), (34, B (!v22)), (35, B (!v22)), (37, B (!v22))] [sc 0 v5] ?_
 rcases fk (!v22) with hc26 | hc26
 replace h := bT hc26 h
 rw [hc26]
 refine veM [4, 5] 5 85 [(0, A a0), (3, I x1), (4, .ptr 0 0 0), (6, A a0), (7, I (a0.length : Int)), (8, I x1), (18, .ptr 0 0 1), (19, I v5.fBorn), (20, B v20), (21, B false), (24, .ptr 0 0 2), (25, I v5.fDied), (26, B true), (27, B true), (28, .ptr 0 0 2), (29, I v5.fDied), (30, .ptr 0 0 1), (31, I v5.fBorn), (32, I (w64 (v5.fBorn + 1))), (33, B v22), (34, B true), (35, B true), (38, .lit undef), (39, .lit undef), (40, .lit undef), (41, .lit undef), (42, B true)] [sc 0 v5] ?_
 exact ⟨true, h, it [0, 3, 4, 6, 7, 8, 42]⟩
 replace h := bF hc26 h
 rw [hc26]
 refine vM [4, 5] 2 85 [(0, A a0), (3, I x1), (4, .ptr 0 0 0), (6, A a0), (7, I (a0.length : Int)), (8, I x1), (18, .ptr 0 0 1), (19, I v5.fBorn), (20, B v20), (21, B false), (24, .ptr 0 0 2), (25, I v5.fDied), (26, B true), (27, B true), (28, .ptr 0 0 2), (29, I v5.fDied), (30, .ptr 0 0 1), (31, I v5.fBorn), (32, I (w64 (v5.fBorn + 1))), (33, B v22), (34, B false), (35, B false), (37, B false), (38, .ptr 0 0 3), (39, A v5.fRow)] [sc 0 v5] ?_
 obtain ⟨v24, hv25, h⟩ := bindS h
 refine cF 40 (ok_impl_RowOk hv25) ?_
 refine veM [4, 5] 2 85 [(0, A a0), (3, I x1), (4, .ptr 0 0 0), (6, A a0), (7, I (a0.length : Int)), (8, I x1), (18, .ptr 0 0 1), (19, I v5.fBorn), (20, B v20), (21, B false), (24, .ptr 0 0 2), (25, I v5.fDied), (26, B true), (27, B true), (28, .ptr 0 0 2), (29, I v5.fDied), (30, .ptr 0 0 1), (31, I v5.fBorn), (32, I (w64 (v5.fBorn + 1))), (33, B v22), (34, B false), (35, B false), (38, .ptr 0 0 3), (39, A v5.fRow), (40, B v24), (41, B (!v24)), (42, B (!v24))] [sc 0 v5] ?_
 exact ⟨(!v24), h, it [0, 3, 4, 6, 7, 8, 42]⟩
 replace h := bF hc29 h
 rw [hc29]
 refine vM [4, 5] 12 85 [(0, A a0), (3, I x1), (4, .ptr 0 0 0), (6, A a0), (7, I (a0.length : Int)), (8, I x1), (18, .ptr 0 0 1), (19, I v5.fBorn), (20, B v20), (21, B false), (24, .ptr 0 0 2), (25, I v5.fDied), (26, B false), (27, B false), (28, .lit undef), (29, .lit undef), (30, .lit undef), (31, .lit undef), (32, .lit undef), (33, .lit undef), (34, .lit undef), (35, B false), (37, B false), (38, .ptr 0 0 3), (39, A v5.fRow)] [sc 0 v5] ?_
 obtain ⟨v27, hv28, h⟩ := bindS h
 refine cF 40 (ok_impl_RowOk hv28) ?_
 refine veM [4, 5] 2 85 [(0, A a0), (3, I x1), (4, .ptr 0 0 0), (6, A a0), (7, I (a0.length : Int)), (8, I x1), (18, .ptr 0 0 1), (19, I v5.fBorn), (20, B v20), (21, B false), (24, .ptr 0 0 2), (25, I v5.fDied), (26, B false), (27, B false), (28, .lit undef), (29, .lit undef), (30, .lit undef), (31, .lit undef), (32, .lit undef), (33, .lit undef), (34, .lit undef), (35, B false), (38, .ptr 0 0 3), (39, A v5.fRow), (40, B v27), (41, B (!v27)), (42, B (!v27))] [sc 0 v5] ?_
 exact ⟨(!v27), h, it [0, 3, 4, 6, 7, 8, 42]⟩
 rintro x7 h
 unfold impl_VersionsOk_j1 at h
 refine pc h (fun h => ?_) (fun h => ?_)
 refine srveM [4, 5] 85 [(2, B false)] [sc 0 v5] ?_
 cases h
 exact pwp_ret rz
 refine pwp_skip ?_
 refine pwp_seq ?_
 refine srveM [4, 5] 85 [(0, A a0), (3, I x1), (4, .ptr 0 0 0), (6, A a0), (7, I (a0.length : Int)), (8, I x1), (44, B (x1 == 0))] [sc 0 v5] ?_
 refine pc h (fun h => ?_) (fun h => ?_)
 refine pwp_exit ?_
 refine rveM [4, 5] 85 [(0, A a0), (6, A a0), (7, I (a0.length : Int)), (8, I (w64 (x1 + 1)))] [sc 0 v5] ?_
 exact ⟨(f2, (w64 (x1 + 1))), h, Nat.lt_succ_self _, (it (st' := ⟨85, [(0, A a0), (6, A a0), (7, I (a0.length : Int)), (8, I (w64 (x1 + 1)))], [sc 0 v5]⟩) [0, 6, 7, 8]).trans (Imp.truncS 0 (nx hX) (by kernel_rfl) (allBelow_mem (by exact (And.intro rfl (And.intro rfl (And.intro rfl (And.intro rfl trivial)))))) (by exact trivial) (by kernel_rfl))⟩
 refine pwp_skip ?_
 refine srvM [4, 5] 3 85 [(0, A a0), (4, .ptr 0 0 0), (6, A a0), (7, I (a0.length : Int)), (8, I x1), (45, A a0), (47, I (w64 (x1 - 1)))] [sc 0 v5] ?_
 obtain ⟨v10, hv11, h⟩ := bindS h
 refine opsP_idx τ_ok 48 hv11 (by kernel_rfl) ?_
 refine veM [4, 5] 3 85 [(0, A a0), (4, .ptr 0 0 0), (5, .ptr 1 0 0), (6, A a0), (7, I (a0.length : Int)), (8, I x1)] [sc 0 v5, sc 0 v10] ?_
 refine pwp_seq ?_
 refine pwp_join (σ := Bool) (fun x12 => (⟨85, [(0, A a0), (6, A a0), (7, I (a0.length : Int)), (8, I x1), (80, B x12)], [sc 0 v5, sc 0 v10]⟩ : St)) (fun x12 => impl_VersionsOk_j2 x1 (impl_VersionsOk_l0 a0 f2) x12 = some y) ?_ ?_
 refine rvM [4, 5] 6 85 [(0, A a0), (4, .ptr 0 0 0), (5, .ptr 1 0 0), (6, A a0), (7, I (a0.length : Int)), (8, I x1), (55, B (decide (v10.fKey > v5.fKey)))] [sc 0 v5, sc 0 v10] ?_
 rcases fk (decide (v10.fKey > v5.fKey)) with hc17 | hc17
 replace h := bT hc17 h
 rw [hc17]
 refine veM [4, 5] 25 85 [(0, A a0), (6, A a0), (7, I (a0.length : Int)), (8, I x1), (56, .lit undef), (57, .lit undef), (58, .lit undef), (59, .lit undef), (60, .lit undef), (61, .lit undef), (62, .lit undef), (63, .lit undef), (64, .lit undef), (65, .lit undef), (66, .lit undef), (67, .lit undef), (68, .lit undef), (69, .lit undef), (70, .lit undef), (71, .lit undef), (72, .lit undef), (73, .lit undef), (74, .lit undef), (75, .lit undef), (76, .lit undef), (77, .lit undef), (78, .lit undef), (79, .lit undef), (80, B true)] [sc 0 v5, sc 0 v10] ?_
 exact ⟨true, h, it [0, 6, 7, 8, 80]⟩
 replace h := bF hc17 h
 rw [hc17]
 refine vM [4, 5] 6 85 [(0, A a0), (4, .ptr 0 0 0), (5, .ptr 1 0 0), (6, A a0), (7, I (a0.length : Int)), (8, I x1), (55, B false), (56, .ptr 1 0 0), (57, I v10.fKey), (58, .ptr 0 0 0), (59, I v5.fKey), (60, B (v10.fKey == v5.fKey)), (61, B (v10.fKey == v5.fKey))] [sc 0 v5, sc 0 v10] ?_
 rcases fk (v10.fKey == v5.fKey) with hc16 | hc16
 replace h := bT hc16 h
 rw [hc16]
 refine vM [4, 5] 6 85 [(0, A a0), (4, .ptr 0 0 0), (5, .ptr 1 0 0), (6, A a0), (7, I (a0.length : Int)), (8, I x1), (55, B false), (56, .ptr 1 0 0), (57, I v10.fKey), (58, .ptr 0 0 0), (59, I v5.fKey), (60, B true), (61, B true), (62, .ptr 1 0 1), (63, I v10.fBorn), (64, .ptr 0 0 1), (65, I v5.fBorn), (66, B (decide (v10.fBorn ≥ v5.fBorn))), (67, B (decide (v10.fBorn ≥ v5.fBorn)))] [sc 0 v5, sc 0 v10] ?_
 rcases fk (decide (v10.fBorn ≥ v5.fBorn)) with hc15 | hc15
 replace h := bT hc15 h
 rw [hc15]
 refine veM [4, 5] 13 85 [(0, A a0), (6, A a0), (7, I (a0.length : Int)), (8, I x1), (56, .ptr 1 0 0), (57, I v10.fKey), (58, .ptr 0 0 0), (59, I v5.fKey), (60, B true), (61, B true), (62, .ptr 1 0 1), (63, I v10.fBorn), (64, .ptr 0 0 1), (65, I v5.fBorn), (66, B true), (67, B true), (68, .lit undef), (69, .lit undef), (70, .lit undef), (71, B true), (72, B true), (73, .lit undef), (74, .lit undef), (75, .lit undef), (76, .lit undef), (77, .lit undef), (78, B true), (79, B true), (80, B true)] [sc 0 v5, sc 0 v10] ?_
 exact ⟨true, h, it [0, 6, 7, 8, 80]⟩
 replace h := bF hc15 h
 rw [hc15]
 refine vM [4, 5] 5 85 [(0, A a0), (4, .ptr 0 0 0), (5, .ptr 1 0 0), (6, A a0), (7, I (a0.length : Int)), (8, I x1), (55, B false), (56, .ptr 1 0 0), (57, I v10.fKey), (58, .ptr 0 0 0), (59, I v5.fKey), (60, B true), (61, B true), (62, .ptr 1 0 1), (63, I v10.fBorn), (64, .ptr 0 0 1), (65, I v5.fBorn), (66, B false), (67, B false), (68, .ptr 1 0 2), (69, I v10.fDied), (70, B (v10.fDied == 0)), (71, B (v10.fDied == 0)), (72, B (v10.fDied == 0))] [sc 0 v5, sc 0 v10] ?_
 rcases fk (v10.fDied == 0) with hc14 | hc14
 replace h := bT hc14 h
 rw [hc14]
 refine veM [4, 5] 8 85 [(0, A a0), (6, A a0), (7, I (a0.length : Int)), (8, I x1), (56, .ptr 1 0 0), (57, I v10.fKey), (58, .ptr 0 0 0), (59, I v5.fKey), (60, B true), (61, B true), (62, .ptr 1 0 1), (63, I v10.fBorn), (64, .ptr 0 0 1), (65, I v5.fBorn), (66, B false), (67, B false), (68, .ptr 1 0 2), (69, I v10.fDied), (70, B true), (71, B true), (72, B true), (73, .lit undef), (74, .lit undef), (75, .lit undef), (76, .lit undef), (77, .lit undef), (78, B true), (79, B true), (80, B true)] [sc 0 v5, sc 0 v10] ?_
 exact ⟨true, h, it [0, 6, 7, 8, 80]⟩
 replace h := bF hc14 h
 rw [hc14]
 refine veM [4, 5] 8 85 [(0, A a0), (6, A a0), (7, I (a0.length : Int)), (8, I x1), (56, .ptr 1 0 0), (57, I v10.fKey), (58, .ptr 0 0 0), (59, I v5.fKey), (60, B true), (61, B true), (62, .ptr 1 0 1), (63, I v10.fBorn), (64, .ptr 0 0 1), (65, I v5.fBorn), (66, B false), (67, B false), (68, .ptr 1 0 2), (69, I v10.fDied), (70, B false), (71, B false), (72, B false), (73, .ptr 1 0 2), (74, I v10.fDied), (75, .ptr 0 0 1), (76, I v5.fBorn), (77, B (decide (v10.fDied > v5.fBorn))), (78, B (decide (v10.fDied > v5.fBorn))), (79, B (decide (v10.fDied > v5.fBorn))), (80, B (decide (v10.fDied > v5.fBorn)))] [sc 0 v5, sc 0 v10] ?_
 exact ⟨(decide (v10.fDied > v5.fBorn)), h, it [0, 6, 7, 8, 80]⟩
 replace h := bF hc16 h
 rw [hc16]
 refine veM [4, 5] 19 85 [(0, A a0), (6, A a0), (7, I (a0.length : Int)), (8, I x1), (56, .ptr 1 0 0), (57, I v10.fKey), (58, .ptr 0 0 0), (59, I v5.fKey), (60, B false), (61, B false), (62, .lit undef), (63, .lit undef), (64, .lit undef), (65, .lit undef), (66, .lit undef), (67, .lit undef), (68, .lit undef), (69, .lit undef), (70, .lit undef), (71, .lit undef), (72, .lit undef), (73, .lit undef), (74, .lit undef), (75, .lit undef), (76, .lit undef), (77, .lit undef), (78, .lit undef), (79, B false), (80, B false)] [sc 0 v5, sc 0 v10] ?_
 exact ⟨false, h, it [0, 6, 7, 8, 80]⟩
 rintro x12 h
 unfold impl_VersionsOk_j2 at h
 refine pc h (fun h => ?_) (fun h => ?_)
 refine srveM [4, 5] 85 [(2, B false)] [sc 0 v5, sc 0 v10] ?_
 cases h
 exact pwp_ret rz
 refine pwp_skip ?_
 refine rveM [4, 5] 85 [(0, A a0), (6, A a0), (7, I (a0.length : Int)), (8, I (w64 (x1 + 1)))] [sc 0 v5, sc 0 v10] ?_
 exact ⟨(f2, (w64 (x1 + 1))), h, Nat.lt_succ_self _, (it (st' := ⟨85, [(0, A a0), (6, A a0), (7, I (a0.length : Int)), (8, I (w64 (x1 + 1)))], [sc 0 v5, sc 0 v10]⟩) [0, 6, 7, 8]).trans (Imp.truncS 0 (nx hX) (by kernel_rfl) (allBelow_mem (by exact (And.intro rfl (And.intro rfl (And.intro rfl (And.intro rfl trivial)))))) (by exact trivial) (by kernel_rfl))⟩
 refine pwp_exit ?_
 refine srveM [4, 5] 85 [(2, B (decide ((a0.length : Int) ≤ 60)))] [] ?_
 cases h
 exact pwp_ret rz
def impl_RowsAt_l0 (a0 : List T_impl_Version) (a1 : Int) : Nat → Int → (List (List T_impl_Value)) → Option (List (List T_impl_Value))
 | 0, _, _ => none
 | f7 + 1, x5, x6 => bif (decide (x5 < 5)) then (impl_seen a0 x5 a1).bind fun v10 => bif v10.2 then (app x6 ([v10.1.fRow] : List (List T_impl_Value))).bind fun v13 => (impl_RowsAt_l0 a0 a1 f7) (w64 (x5 + 1)) v13 else (impl_RowsAt_l0 a0 a1 f7) (w64 (x5 + 1)) x6 else (impl_rowsCopy_L0 x6).bind fun v15 => some v15
def impl_RowsAt (a0 : List T_impl_Version) (a1 : Int) : Option (List (List T_impl_Value)) := (impl_VersionsOk a0).bind fun v1 => bif (!v1) then some ([] : List (List T_impl_Value)) else impl_RowsAt_l0 a0 a1 FUEL 0 ([] : List (List T_impl_Value))
theorem ok_impl_RowsAt {a0 : List T_impl_Version} {a1 : Int} {y : List (List T_impl_Value)} (h : impl_RowsAt a0 a1 = some y) : OK Try.prog 40 [A a0, I a1] (A y) := by
 refine ow Try.func40 fun Γ hX => ?_
 unfold impl_RowsAt at h
 refine srveM [7] 31 [(0, A a0), (1, I a1)] [] ?_
 refine pwp_seq ?_
 refine srvM [7] 1 31 [(0, A a0), (1, I a1), (9, A a0)] [] ?_
 obtain ⟨v1, hv2, h⟩ := bindS h
 refine cF 10 (ok_impl_VersionsOk hv2) ?_
 refine veM [7] 1 31 [(0, A a0), (1, I a1), (11, B (!v1))] [] ?_
 refine pc h (fun h => ?_) (fun h => ?_)
 refine srveM [7] 31 [(4, .arr 1 0 (eL ([] : List (List T_impl_Value))) true)] [] ?_
 refine ip 31 [(4, .arr 1 0 (eL ([] : List (List T_impl_Value))) true)] [] ?_
 refine pwp_imp (Imp.unfS (st' := ⟨31, [(4, A ([] : List (List T_impl_Value)))], []⟩) 4 [4] (by kernel_rfl)) ?_
 cases h
 exact pwp_ret rz
 refine pwp_skip ?_
 refine srveM [7] 31 [(0, A a0), (1, I a1), (5, .arr 1 0 (eL ([] : List (List T_impl_Value))) true)] [] ?_
 refine pwp_seq ?_
 refine srveM [7] 31 [(0, A a0), (1, I a1), (5, .arr 1 0 (eL ([] : List (List T_impl_Value))) true), (12, I 0)] [] ?_
 refine pwp_block ?_
 refine pwp_loop (ι := Nat × Int × (List (List T_impl_Value))) (fun (f7, x5, x6) => (⟨31, [(0, A a0), (1, I a1), (5, rf 0 0 1 x6), (12, I x5)], [sl 0 x6]⟩ : St)) (fun (f7, x5, x6) => impl_RowsAt_l0 a0 a1 f7 x5 x6 = some y) Prod.fst (FUEL, 0, ([] : List (List T_impl_Value))) h (Imp.thawS 5 [0, 1, 5, 12] (by kernel_rfl)) ?_
 rintro ⟨f7, x5, x6⟩ h
 dsimp only at h ⊢
 rcases f7 with _ | f7
 cases h
 rw [impl_RowsAt_l0] at h
 refine srveM [7] 31 [(0, A a0), (1, I a1), (5, rf 0 0 1 x6), (12, I x5), (13, B (decide (x5 < 5)))] [sl 0 x6] ?_
 refine pwp_seq ?_
 refine pc h (fun h => ?_) (fun h => ?_)
 refine pwp_skip ?_
 refine pwp_seq ?_
 refine pwp_block ?_
 refine srveM [7] 31 [(0, A a0), (1, I a1), (5, rf 0 0 1 x6), (6, I x5), (12, I x5)] [sl 0 x6] ?_
 refine srvM [7] 3 31 [(0, A a0), (1, I a1), (5, rf 0 0 1 x6), (12, I x5), (16, A a0), (17, I x5), (18, I a1)] [sl 0 x6] ?_
 obtain ⟨v10, hv11, h⟩ := bindS h
 refine opsP_callF τ 19 (ok_impl_seen hv11) (FzTo.tup (FzToL.cons (FzTo.frz rfl) (FzToL.cons (FzTo.frz rfl) FzToL.nil))) rfl (by kernel_rfl) ?_
 refine veM [7] 6 31 [(0, A a0), (1, I a1), (5, rf 0 0 1 x6), (7, .ptr 1 0 0), (8, B v10.2), (12, I x5)] [sl 0 x6, sc 0 v10.1] ?_
 refine srveM [7] 31 [(0, A a0), (1, I a1), (5, rf 0 0 1 x6), (7, .ptr 1 0 0), (12, I x5), (22, B v10.2)] [sl 0 x6, sc 0 v10.1] ?_
 refine pc h (fun h => ?_) (fun h => ?_)
 refine rvM [7] 4 31 [(0, A a0), (1, I a1), (12, I x5), (23, rf 0 0 1 x6), (26, .arr 1 ([v10.1.fRow] : List (List T_impl_Value)).length (eL ([v10.1.fRow] : List (List T_impl_Value))) true)] [sl 0 x6, sc 0 v10.1] ?_
 obtain ⟨v13, hv14, h⟩ := bindS h
 refine opsP_app τ_ok 27 0 0 (nx hX) hv14 (by kernel_rfl) ?_
 refine veM [7] 1 31 [(0, A a0), (1, I a1), (5, rf 0 1 1 v13), (12, I x5)] [sl 1 v13, sc 0 v10.1] ?_
 refine rveM [7] 31 [(0, A a0), (1, I a1), (5, rf 0 1 1 v13), (12, I (w64 (x5 + 1)))] [sl 1 v13, sc 0 v10.1] ?_
 exact ⟨(f7, (w64 (x5 + 1)), v13), h, Nat.lt_succ_self _, qt (it (st' := ⟨31, [(0, A a0), (1, I a1), (5, rf 0 1 1 v13), (12, I (w64 (x5 + 1)))], [sl 1 v13, sc 0 v10.1]⟩) [0, 1, 5, 12]) (qt (Imp.truncS (st' := ⟨31, [(0, A a0), (1, I a1), (5, rf 0 1 1 v13), (12, I (w64 (x5 + 1)))], [sl 1 v13]⟩) 1 (nx hX) (by kernel_rfl) (allBelow_mem (by exact (And.intro rfl (And.intro rfl (And.intro rfl (And.intro rfl trivial)))))) (by exact (And.intro (frz_below (eL_frz _)) trivial)) (by kernel_rfl)) (Imp.reverS 0 1 (eL v13) [0, 1, 5, 12] (by kernel_rfl) (by exact (And.intro (eL_frz _) trivial)) (by kernel_rfl)))⟩
 refine pwp_skip ?_
 refine rveM [7] 31 [(0, A a0), (1, I a1), (5, rf 0 0 1 x6), (12, I (w64 (x5 + 1)))] [sl 0 x6, sc 0 v10.1] ?_
 exact ⟨(f7, (w64 (x5 + 1)), x6), h, Nat.lt_succ_self _, (it (st' := ⟨31, [(0, A a0), (1, I a1), (5, rf 0 0 1 x6), (12, I (w64 (x5 + 1)))], [sl 0 x6, sc 0 v10.1]⟩) [0, 1, 5, 12]).trans (Imp.truncS 1 (nx hX) (by kernel_rfl) (allBelow_mem (by exact (And.intro rfl (And.intro rfl (And.intro rfl (And.intro rfl trivial)))))) (by exact (And.intro (frz_below (eL_frz _)) trivial)) (by kernel_rfl))⟩
 refine pwp_exit ?_
 refine srvM [7] 1 31 [(29, rf 0 0 1 x6)] [sl 0 x6] ?_
 obtain ⟨v15, hv16, h⟩ := bindS h
 refine opsP_E (dd := some 30) (x := A v15) (callS_E τ 30 0 0 (ok_impl_rowsCopy_L0 hv16) (FzTo.frz rfl) rfl rfl (by kernel_rfl)) ?_
 refine veM [7] 1 31 [(4, A v15)] [sl 0 x6] ?_
 cases h
 exact pwp_ret rz
def impl_allOk (a0 : List (List T_impl_Value)) : Option Bool := (slices_ContainsFunc_impl_Value_impl_Value_s3 a0 impl_allOk_1).bind fun v1 => some (!v1)
theorem ok_impl_allOk {a0 : List (List T_impl_Value)} {y : Bool} (h : impl_allOk a0 = some y) : OK Try.prog 47 [A a0] (B y) := by
 refine ow Try.func47 fun Γ hX => ?_
 unfold impl_allOk at h
 refine srve 6 [(0, A a0)] [] ?_
 refine srv 1 6 [(3, A a0)] [] ?_
 obtain ⟨v1, hv2, h⟩ := bindS h
 refine cF 4 (ok_slices_ContainsFunc_impl_Value_impl_Value_s3 (rfl) (fun _ w hw => ok_impl_allOk_1 hw) hv2) ?_
 refine ve 2 6 [(2, B (!v1))] [] ?_
 cases h
 exact pwp_ret rz
def impl_DeltaRows_1 (a0 : T_impl_Delta) : Option Bool := (impl_RowOk a0.fRow).bind fun v1 => bif (!v1) then some true else (impl_between a0.fMany (-100) 100).bind fun v3 => some (!v3)
theorem ok_impl_DeltaRows_1 {a0 : T_impl_Delta} {y : Bool} (h : impl_DeltaRows_1 a0 = some y) : OK Try.prog 52 [E a0] (B y) := by
 refine ow Try.func52 fun Γ hX => ?_
 unfold impl_DeltaRows_1 at h
 refine srve 13 [(1, pf a0 0)] [] ?_
 refine srv 2 13 [(1, pf a0 0), (4, A a0.fRow)] [] ?_
 obtain ⟨v1, hv2, h⟩ := bindS h
 refine cF 5 (ok_impl_RowOk hv2) ?_
 refine v 2 13 [(1, pf a0 0), (7, B (!v1))] [] ?_
 rcases fk (!v1) with hc5 | hc5
 replace h := bT hc5 h
 rw [hc5]
 refine ve 6 13 [(2, B true)] [] ?_
 cases h
 exact pwp_ret rz
 replace h := bF hc5 h
 rw [hc5]
 refine v 2 13 [(7, B false), (9, I a0.fMany)] [] ?_
 obtain ⟨v3, hv4, h⟩ := bindS h
 refine cF 10 (ok_impl_between hv4) ?_
 refine ve 3 13 [(2, B (!v3))] [] ?_
 cases h
 exact pwp_ret rz
def impl_RowOrder_j0 (a0 : List T_impl_Value) (a1 : List T_impl_Value) (x1 : Bool) : Option Int := bif x1 then some 0 else (impl_rowOrder a0 a1).bind fun v3 => some v3
def impl_RowOrder (a0 : List T_impl_Value) (a1 : List T_impl_Value) : Option Int := (impl_RowOk a0).bind fun v5 => bif (!v5) then impl_RowOrder_j0 a0 a1 true else (impl_RowOk a1).bind fun v7 => impl_RowOrder_j0 a0 a1 (!v7)
theorem ok_impl_RowOrder {a0 : List T_impl_Value} {a1 : List T_impl_Value} {y : Int} (h : impl_RowOrder a0 a1 = some y) : OK Try.prog 56 [A a0, A a1] (I y) := by
 refine ow Try.func56 fun Γ hX => ?_
 unfold impl_RowOrder at h
 refine srve 16 [(0, A a0), (1, A a1)] [] ?_
 refine pwp_seq ?_
 refine pwp_seq ?_
 refine pwp_join (σ := Bool) (fun x1 => (⟨16, [(0, A a0), (1, A a1), (12, B x1)], []⟩ : St)) (fun x1 => impl_RowOrder_j0 a0 a1 x1 = some y) ?_ ?_
 refine rv 1 16 [(0, A a0), (1, A a1), (5, A a0)] [] ?_
 obtain ⟨v5, hv6, h⟩ := bindS h
 refine cF 6 (ok_impl_RowOk hv6) ?_
 refine v 2 16 [(0, A a0), (1, A a1), (8, B (!v5))] [] ?_
 rcases fk (!v5) with hc9 | hc9
 replace h := bT hc9 h
 rw [hc9]
 refine ve 4 16 [(0, A a0), (1, A a1), (12, B true)] [] ?_
 exact ⟨true, h, it [0, 1, 12]⟩
 replace h := bF hc9 h
 rw [hc9]
 refine v 1 16 [(0, A a0), (1, A a1), (8, B false), (9, A a1)] [] ?_
 obtain ⟨v7, hv8, h⟩ := bindS h
 refine cF 10 (ok_impl_RowOk hv8) ?_
 refine ve 2 16 [(0, A a0), (1, A a1), (12, B (!v7))] [] ?_
 exact ⟨(!v7), h, it [0, 1, 12]⟩
 rintro x1 h
 unfold impl_RowOrder_j0 at h
 refine pc h (fun h => ?_) (fun h => ?_)
 refine srve 16 [(4, I 0)] [] ?_
 cases h
 exact pwp_ret rz
 refine pwp_skip ?_
 refine srv 2 16 [(13, A a0), (14, A a1)] [] ?_
 obtain ⟨v3, hv4, h⟩ := bindS h
 refine cF 15 (ok_impl_rowOrder hv4) ?_
 refine ve 1 16 [(4, I v3)] [] ?_
 cases h
 exact pwp_ret rz
def impl_RowsSorted_j2 (x2 : Int) (x3 : List (List T_impl_Value)) (K5 : Int → (List (List T_impl_Value)) → Option (List (List T_impl_Value))) (v7 : List T_impl_Value) (x10 : Int) (K12 : Int → Option (List (List T_impl_Value))) (x13 : Bool) : Option (List (List T_impl_Value)) := bif x13 then K12 (w64 (x10 - 1)) else (insR x3 x10 ([v7] : List (List T_impl_Value))).bind fun v15 => K5 (w64 (x2 + 1)) v15
def impl_RowsSorted_l1 (x2 : Int) (x3 : List (List T_impl_Value)) (K5 : Int → (List (List T_impl_Value)) → Option (List (List T_impl_Value))) (v7 : List T_impl_Value) : Nat → Int → Option (List (List T_impl_Value))
 | 0, _ => none
 | f11 + 1, x10 => bif (decide (x10 > 0)) then (getI x3 (w64 (x10 - 1))).bind fun v17 => (impl_RowOrder v17 v7).bind fun v19 => impl_RowsSorted_j2 x2 x3 K5 v7 x10 (impl_RowsSorted_l1 x2 x3 K5 v7 f11) (decide (v19 > 0)) else impl_RowsSorted_j2 x2 x3 K5 v7 x10 (impl_RowsSorted_l1 x2 x3 K5 v7 f11) false
def impl_RowsSorted_l0 (a0 : List (List T_impl_Value)) : Nat → Int → (List (List T_impl_Value)) → Option (List (List T_impl_Value))
 | 0, _, _ => none
 | f4 + 1, x2, x3 => bif (decide (x2 < (a0.length : Int))) then (getI a0 x2).bind fun v7 => impl_RowsSorted_l1 x2 x3 (impl_RowsSorted_l0 a0 f4) v7 FUEL (x3.length : Int) else (impl_rowsCopy_L0 x3).bind fun v22 => some v22
def impl_RowsSorted (a0 : List (List T_impl_Value)) : Option (List (List T_impl_Value)) := impl_RowsSorted_l0 a0 FUEL 0 ([] : List (List T_impl_Value))
theorem ok_impl_RowsSorted {a0 : List (List T_impl_Value)} {y : List (List T_impl_Value)} (h : impl_RowsSorted a0 = some y) : OK Try.prog 17 [A a0] (A y) := by
 refine ow Try.func17 fun Γ hX => ?_
 unfold impl_RowsSorted at h
 refine srve 37 [(0, A a0)] [] ?_
 refine srve 37 [(0, A a0), (3, .arr 1 0 (eL ([] : List (List T_impl_Value))) true)] [] ?_
 refine pwp_seq ?_
 refine srve 37 [(3, .arr 1 0 (eL ([] : List (List T_impl_Value))) true), (7, A a0), (8, I (a0.length : Int)), (9, I 0)] [] ?_
 refine pwp_block ?_
 refine pwp_loop (ι := Nat × Int × (List (List T_impl_Value))) (fun (f4, x2, x3) => (⟨37, [(3, rf 0 0 1 x3), (7, A a0), (8, I (a0.length : Int)), (9, I x2)], [sl 0 x3]⟩ : St)) (fun (f4, x2, x3) => impl_RowsSorted_l0 a0 f4 x2 x3 = some y) Prod.fst (FUEL, 0, ([] : List (List T_impl_Value))) h (Imp.thawS 3 [3, 7, 8, 9] (by kernel_rfl)) ?_
 rintro ⟨f4, x2, x3⟩ h
 dsimp only at h ⊢
 rcases f4 with _ | f4
 cases h
 rw [impl_RowsSorted_l0] at h
 refine srve 37 [(3, rf 0 0 1 x3), (7, A a0), (8, I (a0.length : Int)), (9, I x2), (10, B (decide (x2 < (a0.length : Int))))] [sl 0 x3] ?_
 refine pwp_seq ?_
 refine pc h (fun h => ?_) (fun h => ?_)
 refine pwp_skip ?_
 refine pwp_seq ?_
 refine pwp_block ?_
 refine pwp_seq ?_
 refine pwp_region ?_
 obtain ⟨v7, hv8, h⟩ := bindS h
 refine opsP_idx τ_ok 11 hv8 (by kernel_rfl) ?_
 refine ve 2 37 [(3, rf 0 0 1 x3), (5, A v7), (7, A a0), (8, I (a0.length : Int)), (9, I x2)] [sl 0 x3] ?_
 refine srve 37 [(3, rf 0 0 1 x3), (5, A v7), (6, I (x3.length : Int)), (7, A a0), (8, I (a0.length : Int)), (9, I x2)] [sl 0 x3] ?_
 refine pwp_seq ?_
 refine pwp_block ?_
 refine pwp_loop (ι := Nat × Int) (fun (f11, x10) => (⟨37, [(3, rf 0 0 1 x3), (5, A v7), (6, I x10), (7, A a0), (8, I (a0.length : Int)), (9, I x2)], [sl 0 x3]⟩ : St)) (fun (f11, x10) => impl_RowsSorted_l1 x2 x3 (impl_RowsSorted_l0 a0 f4) v7 f11 x10 = some y) Prod.fst (FUEL, (x3.length : Int)) h (it [3, 5, 6, 7, 8, 9]) ?_
 rintro ⟨f11, x10⟩ h
 dsimp only at h ⊢
 rcases f11 with _ | f11
 cases h
 rw [impl_RowsSorted_l1] at h
 refine pwp_seq ?_
 refine pwp_seq ?_
 refine pwp_join (σ := Bool) (fun x13 => (⟨37, [(3, rf 0 0 1 x3), (5, A v7), (6, I x10), (7, A a0), (8, I (a0.length : Int)), (9, I x2), (26, B x13)], [sl 0 x3]⟩ : St)) (fun x13 => impl_RowsSorted_j2 x2 x3 (impl_RowsSorted_l0 a0 f4) v7 x10 (impl_RowsSorted_l1 x2 x3 (impl_RowsSorted_l0 a0 f4) v7 f11) x13 = some y) ?_ ?_
 refine rv 3 37 [(3, rf 0 0 1 x3), (5, A v7), (6, I x10), (7, A a0), (8, I (a0.length : Int)), (9, I x2), (17, B (decide (x10 > 0)))] [sl 0 x3] ?_
 rcases fk (decide (x10 > 0)) with hc21 | hc21
 replace h := bT hc21 h
 rw [hc21]
 refine v 3 37 [(3, rf 0 0 1 x3), (5, A v7), (6, I x10), (7, A a0), (8, I (a0.length : Int)), (9, I x2), (17, B true), (18, rf 0 0 1 x3), (19, I x10), (20, I (w64 (x10 - 1)))] [sl 0 x3] ?_
 obtain ⟨v17, hv18, h⟩ := bindS h
 refine opsP_idr τ_ok 21 0 0 x3.length hv18 rfl (by kernel_rfl) ?_
 refine opsP_lde (r := A v17) τ_ok 22 29 0 hv18 (by kernel_rfl) (by kernel_rfl) ?_
 refine v 1 37 [(3, rf 0 0 1 x3), (5, A v7), (6, I x10), (7, A a0), (8, I (a0.length : Int)), (9, I x2), (17, B true), (18, rf 0 0 1 x3), (19, I x10), (20, I (w64 (x10 - 1))), (21, .ptr 0 0 ((w64 (x10 - 1)).toNat * 1)), (22, A v17), (23, A v7)] [sl 0 x3] ?_
 obtain ⟨v19, hv20, h⟩ := bindS h
 refine cF 24 (ok_impl_RowOrder hv20) ?_
 refine ve 2 37 [(3, rf 0 0 1 x3), (5, A v7), (6, I x10), (7, A a0), (8, I (a0.length : Int)), (9, I x2), (18, rf 0 0 1 x3), (19, I x10), (20, I (w64 (x10 - 1))), (21, .ptr 0 0 ((w64 (x10 - 1)).toNat * 1)), (22, A v17), (23, A v7), (24, I v19), (25, B (decide (v19 > 0))), (26, B (decide (v19 > 0)))] [sl 0 x3] ?_
 exact ⟨(decide (v19 > 0)), h, it [3, 5, 6, 7, 8, 9, 26]⟩
 replace h := bF hc21 h
 rw [hc21]
 refine ve 9 37 [(3, rf 0 0 1 x3), (5, A v7), (6, I x10), (7, A a0), (8, I (a0.length : Int)), (9, I x2), (18, .lit undef), (19, .lit undef), (20, .lit undef), (21, .lit undef), (22, .lit undef), (23, .lit undef), (24, .lit undef), (25, .lit undef), (26, B false)] [sl 0 x3] ?_
 exact ⟨false, h, it [3, 5, 6, 7, 8, 9, 26]⟩
 rintro x13 h
 unfold impl_RowsSorted_j2 at h
 refine pc h (fun h => ?_) (fun h => ?_)
 refine pwp_skip ?_
 refine pwp_block ?_
 refine rve 37 [(3, rf 0 0 1 x3), (5, A v7), (6, I (w64 (x10 - 1))), (7, A a0), (8, I (a0.length : Int)), (9, I x2)] [sl 0 x3] ?_
 exact ⟨(f11, (w64 (x10 - 1))), h, Nat.lt_succ_self _, it [3, 5, 6, 7, 8, 9]⟩
 refine pwp_exit ?_
 refine rv 3 37 [(7, A a0), (8, I (a0.length : Int)), (9, I x2), (29, rf 0 0 1 x3), (30, I x10), (31, A v7)] [sl 0 x3] ?_
 refine opsP_E (dd := some 32) (x := .ref 1 0 0 1 ([v7] : List (List T_impl_Value)).length false) (bsl_N (cells := eL ([v7] : List (List T_impl_Value))) τ_ok 32 1 (nx hX) (by kernel_rfl) (by kernel_rfl)) ?_
 obtain ⟨v15, hv16, h⟩ := bindS h
 refine opsP_callM (xs := [rf 0 0 1 x3, I x10, .ref 1 0 0 1 ([v7] : List (List T_impl_Value)).length false]) (x := rf 2 0 1 v15) (bs := [⟨0, eL v15⟩]) τ 33 [0, 1] (nx hX) (ok_insR hv16) (by kernel_rfl) (OutL.cons (OutP.list (v := 0) (by kernel_rfl)) (OutL.cons (OutP.frz rfl) (OutL.cons (OutP.list (v := 0) (by kernel_rfl)) (OutL.nil _)))) (by decide) (by kernel_rfl) ?_
 refine ve 1 37 [(3, rf 2 0 1 v15), (7, A a0), (8, I (a0.length : Int)), (9, I x2)] [none, none, sl 0 v15] ?_
 refine rve 37 [(3, rf 2 0 1 v15), (7, A a0), (8, I (a0.length : Int)), (9, I (w64 (x2 + 1)))] [none, none, sl 0 v15] ?_
 exact ⟨(f4, (w64 (x2 + 1)), v15), h, Nat.lt_succ_self _, qt (it (st' := ⟨37, [(3, rf 2 0 1 v15), (7, A a0), (8, I (a0.length : Int)), (9, I (w64 (x2 + 1)))], [none, none, sl 0 v15]⟩) [3, 7, 8, 9]) (qt (Imp.mvS (st' := ⟨37, [(3, rf 0 0 1 v15), (7, A a0), (8, I (a0.length : Int)), (9, I (w64 (x2 + 1)))], [sl 0 v15, none, none]⟩) 2 0 [3, 7, 8, 9] (nx hX) (v := 0) (cs := eL v15) (by kernel_rfl) (by kernel_rfl) (by exact (And.intro (eL_frz _) trivial)) (by kernel_rfl) (by kernel_rfl)) (Imp.truncS 1 (nx hX) (by kernel_rfl) (allBelow_mem (by exact (And.intro rfl (And.intro rfl (And.intro rfl (And.intro rfl trivial)))))) (by exact (And.intro (frz_below (eL_frz _)) trivial)) (by kernel_rfl)))⟩
 refine pwp_exit ?_
 refine srv 1 37 [(35, rf 0 0 1 x3)] [sl 0 x3] ?_
 obtain ⟨v22, hv23, h⟩ := bindS h
 refine opsP_E (dd := some 36) (x := A v22) (callS_E τ 36 0 0 (ok_impl_rowsCopy_L0 hv23) (FzTo.frz rfl) rfl rfl (by kernel_rfl)) ?_
 refine ve 1 37 [(2, A v22)] [sl 0 x3] ?_
 cases h
 exact pwp_ret rz
def impl_ChangesOf_j0 (a0 : List T_impl_Version) (a1 : Int) (x1 : Bool) : Option (List T_impl_Change) := bif x1 then some ([] : List T_impl_Change) else (impl_changesOf a0 a1).bind fun v3 => some v3
def impl_ChangesOf (a0 : List T_impl_Version) (a1 : Int) : Option (List T_impl_Change) := (impl_VersionsOk a0).bind fun v5 => bif (!v5) then impl_ChangesOf_j0 a0 a1 true else (impl_between a1 0 40).bind fun v7 => impl_ChangesOf_j0 a0 a1 (!v7)
theorem ok_impl_ChangesOf {a0 : List T_impl_Version} {a1 : Int} {y : List T_impl_Change} (h : impl_ChangesOf a0 a1 = some y) : OK Try.prog 37 [A a0, I a1] (A y) := by
 refine ow Try.func37 fun Γ hX => ?_
 unfold impl_ChangesOf at h
 refine srve 16 [(0, A a0), (1, I a1)] [] ?_
 refine pwp_seq ?_
 refine pwp_seq ?_
 refine pwp_join (σ := Bool) (fun x1 => (⟨16, [(0, A a0), (1, I a1), (12, B x1)], []⟩ : St)) (fun x1 => impl_ChangesOf_j0 a0 a1 x1 = some y) ?_ ?_
 refine rv 1 16 [(0, A a0), (1, I a1), (5, A a0)] [] ?_
 obtain ⟨v5, hv6, h⟩ := bindS h
 refine cF 6 (ok_impl_VersionsOk hv6) ?_
 refine v 2 16 [(0, A a0), (1, I a1), (8, B (!v5))] [] ?_
 rcases fk (!v5) with hc9 | hc9
 replace h := bT hc9 h
 rw [hc9]
 refine ve 4 16 [(0, A a0), (1, I a1), (12, B true)] [] ?_
 exact ⟨true, h, it [0, 1, 12]⟩
 replace h := bF hc9 h
 rw [hc9]
 refine v 1 16 [(0, A a0), (1, I a1), (8, B false), (9, I a1)] [] ?_
 obtain ⟨v7, hv8, h⟩ := bindS h
 refine cF 10 (ok_impl_between hv8) ?_
 refine ve 2 16 [(0, A a0), (1, I a1), (12, B (!v7))] [] ?_
 exact ⟨(!v7), h, it [0, 1, 12]⟩
 rintro x1 h
 unfold impl_ChangesOf_j0 at h
 refine pc h (fun h => ?_) (fun h => ?_)
 refine srve 16 [(4, .arr 3 0 (eL ([] : List T_impl_Change)) true)] [] ?_
 refine ip 16 [(4, .arr 3 0 (eL ([] : List T_impl_Change)) true)] [] ?_
 refine pwp_imp (Imp.unfS (st' := ⟨16, [(4, A ([] : List T_impl_Change))], []⟩) 4 [4] (by kernel_rfl)) ?_
 cases h
 exact pwp_ret rz
 refine pwp_skip ?_
 refine srv 2 16 [(13, A a0), (14, I a1)] [] ?_
 obtain ⟨v3, hv4, h⟩ := bindS h
 refine cF 15 (ok_impl_changesOf hv4) ?_
 refine ve 1 16 [(4, A v3)] [] ?_
 cases h
 exact pwp_ret rz
def impl_afterDeltas_l2 (x4 : Int) (K7 : Int → (List (List T_impl_Value)) → Option ((List (List T_impl_Value)) × Bool)) (v9 : T_impl_Delta) : Nat → Int → (List (List T_impl_Value)) → Option ((List (List T_impl_Value)) × Bool)
 | 0, _, _ => none
 | f23 + 1, x21, x22 => bif (decide (x21 < 0)) then (slices_IndexFunc_impl_Value_impl_Value_s3 x22 (fun z0 => impl_afterDeltas_1 z0 v9)).bind fun v26 => bif (decide (v26 < 0)) then some (([] : List (List T_impl_Value)), false) else (delR x22 v26 (w64 (v26 + 1))).bind fun v29 => (impl_afterDeltas_l2 x4 K7 v9 f23) (w64 (x21 + 1)) v29 else K7 (w64 (x4 + 1)) x22
def impl_afterDeltas_l1 (x4 : Int) (K7 : Int → (List (List T_impl_Value)) → Option ((List (List T_impl_Value)) × Bool)) (v9 : T_impl_Delta) : Nat → Int → (List (List T_impl_Value)) → Option ((List (List T_impl_Value)) × Bool)
 | 0, _, _ => none
 | f15 + 1, x13, x14 => bif (decide (x13 < v9.fMany)) then (app x14 ([v9.fRow] : List (List T_impl_Value))).bind fun v18 => (impl_afterDeltas_l1 x4 K7 v9 f15) (w64 (x13 + 1)) v18 else impl_afterDeltas_l2 x4 K7 v9 FUEL v9.fMany x14
def impl_afterDeltas_l0 (a1 : List T_impl_Delta) : Nat → Int → (List (List T_impl_Value)) → Option ((List (List T_impl_Value)) × Bool)
 | 0, _, _ => none
 | f6 + 1, x4, x5 => bif (decide (x4 < (a1.length : Int))) then (getI a1 x4).bind fun v9 => impl_afterDeltas_l1 x4 (impl_afterDeltas_l0 a1 f6) v9 FUEL 0 x5 else (impl_RowsSorted x5).bind fun v31 => some (v31, true)
def impl_afterDeltas (a0 : List (List T_impl_Value)) (a1 : List T_impl_Delta) : Option ((List (List T_impl_Value)) × Bool) := (slices_Clone_impl_Value_impl_Value_s3 a0).bind fun v1 => impl_afterDeltas_l0 a1 FUEL 0 v1
theorem ok_impl_afterDeltas {a0 : List (List T_impl_Value)} {a1 : List T_impl_Delta} {y : (List (List T_impl_Value)) × Bool} (h : impl_afterDeltas a0 a1 = some y) : OK Try.prog 55 [A a0, A a1] (.tup [A y.1, B y.2]) := by
 refine ow Try.func55 fun Γ hX => ?_
 unfold impl_afterDeltas at h
 refine srveM [8] 48 [(0, A a0), (1, A a1)] [] ?_
 refine srvM [8] 1 48 [(1, A a1), (11, A a0)] [] ?_
 obtain ⟨v1, hv2, h⟩ := bindS h
 refine opsP_callO τ 12 (ok_slices_Clone_impl_Value_impl_Value_s3 hv2) rfl (by kernel_rfl) ?_
 refine veM [8] 1 48 [(1, A a1), (6, rf 0 0 1 v1)] [sl 0 v1] ?_
 refine pwp_seq ?_
 refine srveM [8] 48 [(6, rf 0 0 1 v1), (13, A a1), (14, I (a1.length : Int)), (15, I 0)] [sl 0 v1] ?_
 refine pwp_block ?_
 refine pwp_loop (ι := Nat × Int × (List (List T_impl_Value))) (fun (f6, x4, x5) => (⟨48, [(6, rf 0 0 1 x5), (13, A a1), (14, I (a1.length : Int)), (15, I x4)], [sl 0 x5]⟩ : St)) (fun (f6, x4, x5) => impl_afterDeltas_l0 a1 f6 x4 x5 = some y) Prod.fst (FUEL, 0, v1) h (it [6, 13, 14, 15]) ?_
 rintro ⟨f6, x4, x5⟩ h
 dsimp only at h ⊢
 rcases f6 with _ | f6
 cases h
 rw [impl_afterDeltas_l0] at h
 refine srveM [8] 48 [(6, rf 0 0 1 x5), (13, A a1), (14, I (a1.length : Int)), (15, I x4), (16, B (decide (x4 < (a1.length : Int))))] [sl 0 x5] ?_
 refine pwp_seq ?_
 refine pc h (fun h => ?_) (fun h => ?_)
 refine pwp_skip ?_
 refine pwp_seq ?_
 refine pwp_block ?_
 refine pwp_seq ?_
 refine pwp_region ?_
 obtain ⟨v9, hv10, h⟩ := bindS h
 refine opsP_idx τ_ok 17 hv10 (by kernel_rfl) ?_
 refine veM [8] 3 48 [(6, rf 0 0 1 x5), (8, .ptr 1 0 0), (13, A a1), (14, I (a1.length : Int)), (15, I x4)] [sl 0 x5, sc 0 v9] ?_
 refine pwp_seq ?_
 refine srveM [8] 48 [(6, rf 0 0 1 x5), (8, .ptr 1 0 0), (13, A a1), (14, I (a1.length : Int)), (15, I x4), (20, I v9.fMany), (21, I 0)] [sl 0 x5, sc 0 v9] ?_
 refine pwp_block ?_
 refine pwp_loop (ι := Nat × Int × (List (List T_impl_Value))) (fun (f15, x13, x14) => (⟨48, [(6, rf 0 0 1 x14), (8, .ptr 1 0 0), (13, A a1), (14, I (a1.length : Int)), (15, I x4), (20, I v9.fMany), (21, I x13)], [sl 0 x14, sc 0 v9]⟩ : St)) (fun (f15, x13, x14) => impl_afterDeltas_l1 x4 (impl_afterDeltas_l0 a1 f6) v9 f15 x13 x14 = some y) Prod.fst (FUEL, 0, x5) h (it [6, 8, 13, 14, 15, 20, 21]) ?_
 rintro ⟨f15, x13, x14⟩ h
 dsimp only at h ⊢
 rcases f15 with _ | f15
 cases h
 rw [impl_afterDeltas_l1] at h
 refine srveM [8] 48 [(6, rf 0 0 1 x14), (8, .ptr 1 0 0), (13, A a1), (14, I (a1.length : Int)), (15, I x4), (20, I v9.fMany), (21, I x13), (22, B (decide (x13 < v9.fMany)))] [sl 0 x14, sc 0 v9] ?_
 refine pwp_seq ?_
 refine pc h (fun h => ?_) (fun h => ?_)
 refine pwp_skip ?_
 refine pwp_seq ?_
 refine pwp_block ?_
 refine rvM [8] 4 48 [(8, .ptr 1 0 0), (13, A a1), (14, I (a1.length : Int)), (15, I x4), (20, I v9.fMany), (21, I x13), (23, rf 0 0 1 x14), (26, .arr 1 ([v9.fRow] : List (List T_impl_Value)).length (eL ([v9.fRow] : List (List T_impl_Value))) true)] [sl 0 x14, sc 0 v9] ?_
 obtain ⟨v18, hv19, h⟩ := bindS h
 refine opsP_app τ_ok 27 0 0 (nx hX) hv19 (by kernel_rfl) ?_
 refine veM [8] 1 48 [(6, rf 0 1 1 v18), (8, .ptr 1 0 0), (13, A a1), (14, I (a1.length : Int)), (15, I x4), (20, I v9.fMany), (21, I x13)] [sl 1 v18, sc 0 v9] ?_
 refine rveM [8] 48 [(6, rf 0 1 1 v18), (8, .ptr 1 0 0), (13, A a1), (14, I (a1.length : Int)), (15, I x4), (20, I v9.fMany), (21, I (w64 (x13 + 1)))] [sl 1 v18, sc 0 v9] ?_
 exact ⟨(f15, (w64 (x13 + 1)), v18), h, Nat.lt_succ_self _, (it (st' := ⟨48, [(6, rf 0 1 1 v18), (8, .ptr 1 0 0), (13, A a1), (14, I (a1.length : Int)), (15, I x4), (20, I v9.fMany), (21, I (w64 (x13 + 1)))], [sl 1 v18, sc 0 v9]⟩) [6, 8, 13, 14, 15, 20, 21]).trans (Imp.reverS 0 1 (eL v18) [6, 8, 13, 14, 15, 20, 21] (by kernel_rfl) (by exact (And.intro (eL_frz _) (And.intro (rfl) trivial))) (by kernel_rfl))⟩
 refine pwp_exit ?_
 refine srveM [8] 48 [(6, rf 0 0 1 x14), (8, .ptr 1 0 0), (9, I v9.fMany), (13, A a1), (14, I (a1.length : Int)), (15, I x4)] [sl 0 x14, sc 0 v9] ?_
 refine pwp_block ?_
 refine ip 48 [(6, rf 0 0 1 x14), (8, .ptr 1 0 0), (9, I v9.fMany), (13, A a1), (14, I (a1.length : Int)), (15, I x4)] [sl 0 x14, sc 0 v9] ?_
 refine pwp_imp (Imp.freezeB (v := 0) (cs := Enc.cells v9) (st' := ⟨48, [(6, rf 0 0 1 x14), (8, pf v9 0), (9, I v9.fMany), (13, A a1), (14, I (a1.length : Int)), (15, I x4)], [sl 0 x14, none]⟩) 1 0 (nx hX) (by kernel_rfl) (Enc.frz _) (wholeC (whole_ne rfl) (wholeC (whole_noRef (by kernel_rfl)) (wholeC (whole_noRef (by kernel_rfl)) (wholeC (whole_noRef (by kernel_rfl)) (wholeC (whole_noRef (by kernel_rfl)) (wholeC (whole_noRef (by kernel_rfl)) wholeC0)))))) (HpRel.frz rfl (eL_frz _) (HpRel.key HpRel.nil)) (by kernel_rfl) rfl (nx hX)) ?_
 refine pwp_loop (ι := Nat × Int × (List (List T_impl_Value))) (fun (f23, x21, x22) => (⟨48, [(6, rf 0 0 1 x22), (8, pf v9 0), (9, I x21), (13, A a1), (14, I (a1.length : Int)), (15, I x4)], [sl 0 x22, none]⟩ : St)) (fun (f23, x21, x22) => impl_afterDeltas_l2 x4 (impl_afterDeltas_l0 a1 f6) v9 f23 x21 x22 = some y) Prod.fst (FUEL, v9.fMany, x14) h (it [6, 8, 9, 13, 14, 15]) ?_
 rintro ⟨f23, x21, x22⟩ h
 dsimp only at h ⊢
 rcases f23 with _ | f23
 cases h
 rw [impl_afterDeltas_l2] at h
 refine pwp_seq ?_
 refine srveM [8] 48 [(6, rf 0 0 1 x22), (8, pf v9 0), (9, I x21), (13, A a1), (14, I (a1.length : Int)), (15, I x4), (32, B (decide (x21 < 0)))] [sl 0 x22, none] ?_
 refine pc h (fun h => ?_) (fun h => ?_)
 refine pwp_skip ?_
 refine pwp_seq ?_
 refine pwp_block ?_
 refine srvM [8] 2 48 [(6, rf 0 0 1 x22), (8, pf v9 0), (9, I x21), (13, A a1), (14, I (a1.length : Int)), (15, I x4), (35, rf 0 0 1 x22), (36, .fn 114 [pf v9 0])] [sl 0 x22, none] ?_
 obtain ⟨v26, hv27, h⟩ := bindS h
 refine opsP_callV (xs := [rf 0 0 1 x22, .fn 114 [pf v9 0]]) τ 37 (ok_slices_IndexFunc_impl_Value_impl_Value_s3 (rfl) (fun _ w hw => ok_impl_afterDeltas_1 hw) hv27) (Blind.lit _) (FzTo.frz rfl) (by kernel_rfl) (ViewL.cons (View.whole (v := 0) x22 (by kernel_rfl) rfl) (ViewL.cons (View.frz rfl) (ViewL.nil _))) ?_
 refine veM [8] 1 48 [(6, rf 0 0 1 x22), (8, pf v9 0), (9, I x21), (10, I v26), (13, A a1), (14, I (a1.length : Int)), (15, I x4)] [sl 0 x22, none] ?_
 refine pwp_seq ?_
 refine srveM [8] 48 [(6, rf 0 0 1 x22), (8, pf v9 0), (9, I x21), (10, I v26), (13, A a1), (14, I (a1.length : Int)), (15, I x4), (39, B (decide (v26 < 0)))] [sl 0 x22, none] ?_
 refine pc h (fun h => ?_) (fun h => ?_)
 refine srveM [8] 48 [(4, .arr 1 0 (eL ([] : List (List T_impl_Value))) true), (5, B false)] [sl 0 x22, none] ?_
 refine ip 48 [(4, .arr 1 0 (eL ([] : List (List T_impl_Value))) true), (5, B false)] [sl 0 x22, none] ?_
 refine pwp_imp (Imp.unfS (st' := ⟨48, [(4, A ([] : List (List T_impl_Value))), (5, B false)], [sl 0 x22, none]⟩) 4 [4, 5] (by kernel_rfl)) ?_
 have h := si h
 subst h
 exact pwp_ret (rt (.tup [A ([] : List (List T_impl_Value)), B false]) (OutP.tup (OutL.cons (OutP.frz (by kernel_rfl)) (OutL.cons (OutP.frz (by kernel_rfl)) (OutL.nil _)))))
 refine pwp_skip ?_
 refine rvM [8] 4 48 [(8, pf v9 0), (9, I x21), (13, A a1), (14, I (a1.length : Int)), (15, I x4), (40, rf 0 0 1 x22), (41, I v26), (43, I (w64 (v26 + 1)))] [sl 0 x22, none] ?_
 obtain ⟨v29, hv30, h⟩ := bindS h
 refine opsP_callM (xs := [rf 0 0 1 x22, I v26, I (w64 (v26 + 1))]) (x := rf 2 0 1 v29) (bs := [⟨0, eL v29⟩]) τ 44 [0] (nx hX) (ok_delR hv30) (by kernel_rfl) (OutL.cons (OutP.list (v := 0) (by kernel_rfl)) (OutL.cons (OutP.frz rfl) (OutL.cons (OutP.frz rfl) (OutL.nil _)))) (by decide) (by kernel_rfl) ?_
 refine veM [8] 1 48 [(6, rf 2 0 1 v29), (8, pf v9 0), (9, I x21), (13, A a1), (14, I (a1.length : Int)), (15, I x4)] [none, none, sl 0 v29] ?_
 refine rveM [8] 48 [(6, rf 2 0 1 v29), (8, pf v9 0), (9, I (w64 (x21 + 1))), (13, A a1), (14, I (a1.length : Int)), (15, I x4)] [none, none, sl 0 v29] ?_
 exact ⟨(f23, (w64 (x21 + 1)), v29), h, Nat.lt_succ_self _, qt (it (st' := ⟨48, [(6, rf 2 0 1 v29), (8, pf v9 0), (9, I (w64 (x21 + 1))), (13, A a1), (14, I (a1.length : Int)), (15, I x4)], [none, none, sl 0 v29]⟩) [6, 8, 9, 13, 14, 15]) (qt (Imp.mvS (st' := ⟨48, [(6, rf 0 0 1 v29), (8, pf v9 0), (9, I (w64 (x21 + 1))), (13, A a1), (14, I (a1.length : Int)), (15, I x4)], [sl 0 v29, none, none]⟩) 2 0 [6, 8, 9, 13, 14, 15] (nx hX) (v := 0) (cs := eL v29) (by kernel_rfl) (by kernel_rfl) (by exact (And.intro (eL_frz _) trivial)) (by kernel_rfl) (by kernel_rfl)) (Imp.truncS 2 (nx hX) (by kernel_rfl) (allBelow_mem (by exact (And.intro rfl (And.intro rfl (And.intro rfl (And.intro rfl (And.intro rfl (And.intro rfl trivial)))))))) (by exact (And.intro (frz_below (eL_frz _)) trivial)) (by kernel_rfl)))⟩
 refine pwp_exit ?_
 refine rveM [8] 48 [(6, rf 0 0 1 x22), (13, A a1), (14, I (a1.length : Int)), (15, I (w64 (x4 + 1)))] [sl 0 x22, none] ?_
 exact ⟨(f6, (w64 (x4 + 1)), x22), h, Nat.lt_succ_self _, (it (st' := ⟨48, [(6, rf 0 0 1 x22), (13, A a1), (14, I (a1.length : Int)), (15, I (w64 (x4 + 1)))], [sl 0 x22, none]⟩) [6, 13, 14, 15]).trans (Imp.truncS 1 (nx hX) (by kernel_rfl) (allBelow_mem (by exact (And.intro rfl (And.intro rfl (And.intro rfl (And.intro rfl trivial)))))) (by exact (And.intro (frz_below (eL_frz _)) trivial)) (by kernel_rfl))⟩
 refine pwp_exit ?_
 refine srvM [8] 1 48 [(46, rf 0 0 1 x5)] [sl 0 x5] ?_
 refine opsP_imp (Imp.freezeB (v := 0) (cs := eL x5) (st' := ⟨48, [(46, A x5)], [none]⟩) 0 0 (nx hX) (by kernel_rfl) (eL_frz _) (wholeC (whole_is (eL_len x5).symm) wholeC0) (HpRel.key HpRel.nil) (by kernel_rfl) rfl (nx hX)) ?_
 obtain ⟨v31, hv32, h⟩ := bindS h
 refine cF 47 (ok_impl_RowsSorted hv32) ?_
 refine veM [8] 2 48 [(4, A v31), (5, B true)] [none] ?_
 have h := si h
 subst h
 exact pwp_ret (rt (.tup [A v31, B true]) (OutP.tup (OutL.cons (OutP.frz (by kernel_rfl)) (OutL.cons (OutP.frz (by kernel_rfl)) (OutL.nil _)))))
def spec_l13Written_R_L0_j2 (x4 : Int) (K7 : Bool → Int → (List T_impl_Version) → Option (List T_impl_Version)) (x11 : Bool) (x12 : List T_impl_Version) (x13 : T_impl_Version) : Option (List T_impl_Version) := (app x12 ([x13] : List T_impl_Version)).bind fun v14 => K7 x11 (w64 (x4 + 1)) v14
def spec_l13Written_R_L0_j3 (a2 : Int) (x4 : Int) (K7 : Bool → Int → (List T_impl_Version) → Option (List T_impl_Version)) (v9 : T_impl_Version) (x11 : Bool) (x12 : List T_impl_Version) (x16 : Bool) : Option (List T_impl_Version) := bif x16 then spec_l13Written_R_L0_j2 x4 K7 x11 x12 ({ v9 with fDied := a2 }) else spec_l13Written_R_L0_j2 x4 K7 x11 x12 v9
def spec_l13Written_R_L0_j1 (a1 : T_impl_Write) (a2 : Int) (x4 : Int) (K7 : Bool → Int → (List T_impl_Version) → Option (List T_impl_Version)) (v9 : T_impl_Version) (x11 : Bool) (x12 : List T_impl_Version) : Option (List T_impl_Version) := bif (v9.fKey == a1.fKey) then spec_l13Written_R_L0_j3 a2 x4 K7 v9 x11 x12 (v9.fDied == 0) else spec_l13Written_R_L0_j3 a2 x4 K7 v9 x11 x12 false
def spec_l13Written_R_L0_j4 (a1 : T_impl_Write) (a2 : Int) (x3 : Bool) (x4 : Int) (x5 : List T_impl_Version) (K7 : Bool → Int → (List T_impl_Version) → Option (List T_impl_Version)) (v9 : T_impl_Version) (x19 : Bool) : Option (List T_impl_Version) := bif x19 then (spec_l3Own a1.fRow).bind fun v21 => (app x5 ([(T_impl_Version.mk a1.fKey a2 0 v21)] : List T_impl_Version)).bind fun v23 => spec_l13Written_R_L0_j1 a1 a2 x4 K7 v9 true v23 else spec_l13Written_R_L0_j1 a1 a2 x4 K7 v9 x3 x5
def spec_l13Written_R_L0_l0 (a0 : List T_impl_Version) (a1 : T_impl_Write) (a2 : Int) : Nat → Bool → Int → (List T_impl_Version) → Option (List T_impl_Version)
 | 0, _, _, _ => none
 | f6 + 1, x3, x4, x5 => bif (decide (x4 < (a0.length : Int))) then (getI a0 x4).bind fun v9 => bif (decide (v9.fKey > a1.fKey)) then spec_l13Written_R_L0_j4 a1 a2 x3 x4 x5 (spec_l13Written_R_L0_l0 a0 a1 a2 f6) v9 (!x3) else spec_l13Written_R_L0_j4 a1 a2 x3 x4 x5 (spec_l13Written_R_L0_l0 a0 a1 a2 f6) v9 false else bif (!x3) then (spec_l3Own a1.fRow).bind fun v27 => (app x5 ([(T_impl_Version.mk a1.fKey a2 0 v27)] : List T_impl_Version)).bind fun v29 => some v29 else some x5
def spec_l13Written_R_L0 (a0 : List T_impl_Version) (a1 : T_impl_Write) (a2 : Int) : Option (List T_impl_Version) := spec_l13Written_R_L0_l0 a0 a1 a2 FUEL a1.fGone 0 ([] : List T_impl_Version)
end Go.D
