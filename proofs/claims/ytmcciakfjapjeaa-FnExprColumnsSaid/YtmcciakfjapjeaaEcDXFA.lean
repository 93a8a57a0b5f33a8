import Derived.Test.YtmcciakfjapjeaaEcDPrim
import Derived.Test.YtmcciakfjapjeaaEcDXT
import Derived.KernelRfl
set_option linter.unusedVariables false
set_option linter.unusedSimpArgs false
namespace Go.D
open Go.Proofs
def laws_sameInts_l0 (a0 : List Int) (a1 : List Int) : Nat → Int → Option Bool
 | 0, _ => none
 | f3 + 1, x2 => bif (decide (x2 < (a0.length : Int))) then (getI a0 x2).bind fun v6 => (getI a1 x2).bind fun v8 => bif (!(v6 == v8)) then some false else (laws_sameInts_l0 a0 a1 f3) (w64 (x2 + 1)) else some true
def laws_sameInts (a0 : List Int) (a1 : List Int) : Option Bool := bif (!((a0.length : Int) == (a1.length : Int))) then some false else laws_sameInts_l0 a0 a1 FUEL 0
theorem ok_laws_sameInts {a0 : List Int} {a1 : List Int} {y : Bool} (h : laws_sameInts a0 a1 = some y) : OK Try.prog 7 [A a0, A a1] (B y) := by
 refine ow Try.func7 fun Γ hX => ?_
 unfold laws_sameInts at h
 refine srve 26 [(0, A a0), (1, A a1)] [] ?_
 refine pwp_seq ?_
 refine srve 26 [(0, A a0), (1, A a1), (10, B (!((a0.length : Int) == (a1.length : Int))))] [] ?_
 refine pc h (fun h => ?_) (fun h => ?_)
 refine srve 26 [(4, B false)] [] ?_
 cases h
 exact pwp_ret rz
 refine pwp_skip ?_
 refine pwp_seq ?_
 refine srve 26 [(0, A a0), (1, A a1), (5, I 0)] [] ?_
 refine pwp_block ?_
 refine pwp_loop (ι := Nat × Int) (fun (f3, x2) => (⟨26, [(0, A a0), (1, A a1), (5, I x2)], []⟩ : St)) (fun (f3, x2) => laws_sameInts_l0 a0 a1 f3 x2 = some y) Prod.fst (FUEL, 0) h (it [0, 1, 5]) ?_
 rintro ⟨f3, x2⟩ h
 dsimp only at h ⊢
 rcases f3 with _ | f3
 cases h
 rw [laws_sameInts_l0] at h
 refine pwp_seq ?_
 refine srve 26 [(0, A a0), (1, A a1), (5, I x2), (14, B (decide (x2 < (a0.length : Int))))] [] ?_
 refine pc h (fun h => ?_) (fun h => ?_)
 refine pwp_skip ?_
 refine pwp_seq ?_
 refine pwp_block ?_
 refine pwp_seq ?_
 refine ip 26 [(0, A a0), (1, A a1), (5, I x2)] [] ?_
 refine pN 9 ?_
 refine qv [] trivial 2 26 [(18, I x2), (17, A a0), (0, A a0), (1, A a1), (5, I x2)] [] ?_
 obtain ⟨v6, hv7, h⟩ := bindS h
 refine qX (some 19) (pf v6 0) 26 [(19, pf v6 0), (0, A a0), (1, A a1), (5, I x2)] [] (fun Γ' hΓ => CoreE.of_y (idxV_sound τ_ok (by kernel_rfl) hv7)) trivial ?_
 refine qv [] trivial 3 26 [(22, I x2), (21, A a1), (20, I v6), (0, A a0), (1, A a1), (5, I x2)] [] ?_
 obtain ⟨v8, hv9, h⟩ := bindS h
 refine qX (some 23) (pf v8 0) 26 [(23, pf v8 0), (20, I v6), (0, A a0), (1, A a1), (5, I x2)] [] (fun Γ' hΓ => CoreE.of_y (idxV_sound τ_ok (by kernel_rfl) hv9)) trivial ?_
 refine qvn [] trivial 2 26 [(0, A a0), (1, A a1), (5, I x2), (25, B (!(v6 == v8)))] [] ?_
 refine pc h (fun h => ?_) (fun h => ?_)
 refine srve 26 [(4, B false)] [] ?_
 cases h
 exact pwp_ret rz
 refine pwp_skip ?_
 refine rve 26 [(0, A a0), (1, A a1), (5, I (w64 (x2 + 1)))] [] ?_
 exact ⟨(f3, (w64 (x2 + 1))), h, Nat.lt_succ_self _, it [0, 1, 5]⟩
 refine pwp_exit ?_
 refine srve 26 [(4, B true)] [] ?_
 cases h
 exact pwp_ret rz
def laws_hasInt_l0 (a0 : List Int) (a1 : Int) : Nat → Int → Option Bool
 | 0, _ => none
 | f2 + 1, x1 => bif (decide (x1 < (a0.length : Int))) then (getI a0 x1).bind fun v5 => bif (v5 == a1) then some true else (laws_hasInt_l0 a0 a1 f2) (w64 (x1 + 1)) else some false
def laws_hasInt (a0 : List Int) (a1 : Int) : Option Bool := laws_hasInt_l0 a0 a1 FUEL 0
theorem ok_laws_hasInt {a0 : List Int} {a1 : Int} {y : Bool} (h : laws_hasInt a0 a1 = some y) : OK Try.prog 9 [A a0, I a1] (B y) := by
 refine ow Try.func9 fun Γ hX => ?_
 unfold laws_hasInt at h
 refine srve 18 [(0, A a0), (1, I a1)] [] ?_
 refine pwp_seq ?_
 refine srve 18 [(0, A a0), (1, I a1), (5, I 0)] [] ?_
 refine pwp_block ?_
 refine pwp_loop (ι := Nat × Int) (fun (f2, x1) => (⟨18, [(0, A a0), (1, I a1), (5, I x1)], []⟩ : St)) (fun (f2, x1) => laws_hasInt_l0 a0 a1 f2 x1 = some y) Prod.fst (FUEL, 0) h (it [0, 1, 5]) ?_
 rintro ⟨f2, x1⟩ h
 dsimp only at h ⊢
 rcases f2 with _ | f2
 cases h
 rw [laws_hasInt_l0] at h
 refine pwp_seq ?_
 refine srve 18 [(0, A a0), (1, I a1), (5, I x1), (9, B (decide (x1 < (a0.length : Int))))] [] ?_
 refine pc h (fun h => ?_) (fun h => ?_)
 refine pwp_skip ?_
 refine pwp_seq ?_
 refine pwp_block ?_
 refine srv 2 18 [(0, A a0), (1, I a1), (5, I x1), (12, A a0), (13, I x1)] [] ?_
 obtain ⟨v5, hv6, h⟩ := bindS h
 refine opsP_idx τ_ok 14 hv6 (by kernel_rfl) ?_
 refine ve 3 18 [(0, A a0), (1, I a1), (5, I x1), (17, B (v5 == a1))] [] ?_
 refine pc h (fun h => ?_) (fun h => ?_)
 refine srve 18 [(4, B true)] [] ?_
 cases h
 exact pwp_ret rz
 refine pwp_skip ?_
 refine rve 18 [(0, A a0), (1, I a1), (5, I (w64 (x1 + 1)))] [] ?_
 exact ⟨(f2, (w64 (x1 + 1))), h, Nat.lt_succ_self _, it [0, 1, 5]⟩
 refine pwp_exit ?_
 refine srve 18 [(4, B false)] [] ?_
 cases h
 exact pwp_ret rz
def spec_l20Open_j0 (x1 : List UInt8) : Option T_spec_l20Rd := some (T_spec_l20Rd.mk x1 0)
def spec_l20Open (a0 : List UInt8) : Option T_spec_l20Rd := bif (decide ((a0.length : Int) > 2000)) then (slI a0 none (some 2000) none).bind fun v3 => spec_l20Open_j0 v3 else spec_l20Open_j0 a0
theorem ok_spec_l20Open {a0 : List UInt8} {y : T_spec_l20Rd} (h : spec_l20Open a0 = some y) : OK Try.prog 24 [A a0] (.obox (Enc.cells y) 0) := by
 refine ow Try.func24 fun Γ hX => ?_
 unfold spec_l20Open at h
 refine srveM [10] 11 [(0, A a0)] [] ?_
 refine pwp_seq ?_
 refine pwp_join (σ := (List UInt8)) (fun x1 => (⟨11, [(0, A x1)], []⟩ : St)) (fun x1 => spec_l20Open_j0 x1 = some y) ?_ ?_
 refine srveM [10] 11 [(0, A a0), (5, B (decide ((a0.length : Int) > 2000)))] [] ?_
 refine pc h (fun h => ?_) (fun h => ?_)
 refine rvM [10] 1 11 [(6, A a0)] [] ?_
 obtain ⟨v3, hv4, h⟩ := bindS h
 refine opsP_slc τ_ok 7 hv4 (by kernel_rfl) ?_
 refine veM [10] 1 11 [(0, A v3)] [] ?_
 exact ⟨v3, h, it [0]⟩
 refine pwp_skip ?_
 exact ⟨a0, h, it [0]⟩
 rintro x1 h
 unfold spec_l20Open_j0 at h
 refine srveM [10] 11 [(2, .ptr 0 0 0)] [some ⟨0, Enc.cells (T_spec_l20Rd.mk x1 0)⟩] ?_
 have h := si h
 subst h
 exact pwp_ret (rt (.ptr 0 0 0) (OutP.box (v := 0) (by kernel_rfl)))
def impl_Part_takes_j1 (x3 : Bool) : Option Int := bif x3 then some 1 else some 0
def impl_Part_takes_j0 (a0 : T_impl_Part) (x1 : Bool) : Option Int := bif x1 then some 2 else bif (a0.fKind == 7) then impl_Part_takes_j1 (a0.fKind == 7) else impl_Part_takes_j1 (a0.fKind == 8)
def impl_Part_takes (a0 : T_impl_Part) : Option Int := bif (a0.fKind == 3) then impl_Part_takes_j0 a0 (a0.fKind == 3) else bif (a0.fKind == 4) then impl_Part_takes_j0 a0 (a0.fKind == 4) else bif (a0.fKind == 5) then impl_Part_takes_j0 a0 (a0.fKind == 5) else impl_Part_takes_j0 a0 (a0.fKind == 6)
theorem ok_impl_Part_takes {a0 : T_impl_Part} {y : Int} (h : impl_Part_takes a0 = some y) : OK Try.prog 41 [E a0] (I y) := by
 refine ow Try.func41 fun Γ hX => ?_
 unfold impl_Part_takes at h
 refine srve 13 [(1, pf a0 0)] [] ?_
 refine pwp_seq ?_
 refine srve 13 [(4, I a0.fKind)] [] ?_
 refine pwp_block ?_
 refine pwp_seq ?_
 refine pwp_join (σ := Bool) (fun x1 => (⟨13, [(4, I a0.fKind), (5, B x1)], []⟩ : St)) (fun x1 => impl_Part_takes_j0 a0 x1 = some y) ?_ ?_
 refine srve 13 [(4, I a0.fKind), (5, B (a0.fKind == 3))] [] ?_
 refine pc h (fun h => ?_) (fun h => ?_)
 refine pwp_skip ?_
 exact ⟨(a0.fKind == 3), h, it [4, 5]⟩
 refine srve 13 [(4, I a0.fKind), (5, B (a0.fKind == 4))] [] ?_
 refine pc h (fun h => ?_) (fun h => ?_)
 refine pwp_skip ?_
 exact ⟨(a0.fKind == 4), h, it [4, 5]⟩
 refine srve 13 [(4, I a0.fKind), (5, B (a0.fKind == 5))] [] ?_
 refine pc h (fun h => ?_) (fun h => ?_)
 refine pwp_skip ?_
 exact ⟨(a0.fKind == 5), h, it [4, 5]⟩
 refine rve 13 [(4, I a0.fKind), (5, B (a0.fKind == 6))] [] ?_
 exact ⟨(a0.fKind == 6), h, it [4, 5]⟩
 rintro x1 h
 unfold impl_Part_takes_j0 at h
 refine pc h (fun h => ?_) (fun h => ?_)
 refine srve 13 [(2, I 2)] [] ?_
 cases h
 exact pwp_ret rz
 refine pwp_seq ?_
 refine pwp_join (σ := Bool) (fun x3 => (⟨13, [(10, B x3)], []⟩ : St)) (fun x3 => impl_Part_takes_j1 x3 = some y) ?_ ?_
 refine srve 13 [(4, I a0.fKind), (10, B (a0.fKind == 7))] [] ?_
 refine pc h (fun h => ?_) (fun h => ?_)
 refine pwp_skip ?_
 exact ⟨(a0.fKind == 7), h, it [10]⟩
 refine rve 13 [(10, B (a0.fKind == 8))] [] ?_
 exact ⟨(a0.fKind == 8), h, it [10]⟩
 rintro x3 h
 unfold impl_Part_takes_j1 at h
 refine pc h (fun h => ?_) (fun h => ?_)
 refine srve 13 [(2, I 1)] [] ?_
 cases h
 exact pwp_ret rz
 refine pwp_skip ?_
 refine srve 13 [(2, I 0)] [] ?_
 cases h
 exact pwp_ret rz
def spec_l20Rd_pick_j0 (a0 : T_spec_l20Rd) (a1 : Int) (x1 : Bool) : Option (Int × T_spec_l20Rd) := bif x1 then some (0, { a0 with fP := (w64 (a0.fP + 1)) }) else bif (decide ((w64 ((({ a0 with fP := (w64 (a0.fP + 1)) } : T_spec_l20Rd).fP) - 1)) < ((({ a0 with fP := (w64 (a0.fP + 1)) } : T_spec_l20Rd).fB).length : Int))) then (getI (({ a0 with fP := (w64 (a0.fP + 1)) } : T_spec_l20Rd).fB) (w64 ((({ a0 with fP := (w64 (a0.fP + 1)) } : T_spec_l20Rd).fP) - 1))).bind fun v4 => (remI (w64 (v4.toNat : Int)) a1).bind fun v6 => some (v6, { a0 with fP := (w64 (a0.fP + 1)) }) else (remI (w64 ((({ a0 with fP := (w64 (a0.fP + 1)) } : T_spec_l20Rd).fP) - 1)) ((({ a0 with fP := (w64 (a0.fP + 1)) } : T_spec_l20Rd).fB).length : Int)).bind fun v8 => (getI (({ a0 with fP := (w64 (a0.fP + 1)) } : T_spec_l20Rd).fB) v8).bind fun v10 => (remI (w64 ((w64 ((w64 ((({ a0 with fP := (w64 (a0.fP + 1)) } : T_spec_l20Rd).fP) - 1)) * 7)) + 3)) ((({ a0 with fP := (w64 (a0.fP + 1)) } : T_spec_l20Rd).fB).length : Int)).bind fun v12 => (getI (({ a0 with fP := (w64 (a0.fP + 1)) } : T_spec_l20Rd).fB) v12).bind fun v14 => (quoI (w64 ((({ a0 with fP := (w64 (a0.fP + 1)) } : T_spec_l20Rd).fP) - 1)) ((({ a0 with fP := (w64 (a0.fP + 1)) } : T_spec_l20Rd).fB).length : Int)).bind fun v16 => (remI (w64 ((BitVec.ofInt 64 (w64 ((w64 ((w64 ((w64 ((w64 (v10.toNat : Int)) * 131)) + (w64 ((w64 (v14.toNat : Int)) * 1117)))) + (w64 ((w64 ((({ a0 with fP := (w64 (a0.fP + 1)) } : T_spec_l20Rd).fP) - 1)) * 29)))) + (w64 (v16 * 53)))) ^^^ BitVec.ofInt 64 (w64 ((w64 ((w64 ((w64 ((w64 ((w64 (v10.toNat : Int)) * 131)) + (w64 ((w64 (v14.toNat : Int)) * 1117)))) + (w64 ((w64 ((({ a0 with fP := (w64 (a0.fP + 1)) } : T_spec_l20Rd).fP) - 1)) * 29)))) + (w64 (v16 * 53)))).tdiv 64))).toNat : Int)) a1).bind fun v18 => some (v18, { a0 with fP := (w64 (a0.fP + 1)) })
def spec_l20Rd_pick (a0 : T_spec_l20Rd) (a1 : Int) : Option (Int × T_spec_l20Rd) := bif (decide (a1 < 1)) then spec_l20Rd_pick_j0 a0 a1 true else spec_l20Rd_pick_j0 a0 a1 (((({ a0 with fP := (w64 (a0.fP + 1)) } : T_spec_l20Rd).fB).length : Int) == 0)
theorem ok_spec_l20Rd_pick {a0 : T_spec_l20Rd} {a1 : Int} {y : Int × T_spec_l20Rd} (h : spec_l20Rd_pick a0 a1 = some y) : OKb Try.prog 55 (Enc.cells a0) [I a1] (I y.1) (Enc.cells y.2) := by
 refine OKb_of_pwp τ_ok Try.func55 rfl (by kernel_rfl) rfl (Enc.frz _) (Enc.frz _) fun Γ hQ => ?_
 unfold spec_l20Rd_pick at h
 refine srve 99 [(0, .ptr 0 0 0), (1, I a1)] [sc 0 a0] ?_
 refine srve 99 [(0, .ptr 0 0 0), (1, I a1)] [some ⟨0, Enc.cells ({ a0 with fP := (w64 (a0.fP + 1)) })⟩] ?_
 refine pwp_seq ?_
 refine pwp_seq ?_
 refine pwp_join (σ := Bool) (fun x1 => (⟨99, [(0, .ptr 0 0 0), (1, I a1), (24, B x1)], [some ⟨0, Enc.cells ({ a0 with fP := (w64 (a0.fP + 1)) })⟩]⟩ : St)) (fun x1 => spec_l20Rd_pick_j0 a0 a1 x1 = some y) ?_ ?_
 refine rv 3 99 [(0, .ptr 0 0 0), (1, I a1), (17, B (decide (a1 < 1)))] [some ⟨0, Enc.cells ({ a0 with fP := (w64 (a0.fP + 1)) })⟩] ?_
 rcases fk (decide (a1 < 1)) with hc20 | hc20
 replace h := bT hc20 h
 rw [hc20]
 refine ve 7 99 [(0, .ptr 0 0 0), (1, I a1), (24, B true)] [some ⟨0, Enc.cells ({ a0 with fP := (w64 (a0.fP + 1)) })⟩] ?_
 exact ⟨true, h, it [0, 1, 24]⟩
 replace h := bF hc20 h
 rw [hc20]
 refine ve 7 99 [(0, .ptr 0 0 0), (1, I a1), (24, B (((({ a0 with fP := (w64 (a0.fP + 1)) } : T_spec_l20Rd).fB).length : Int) == 0))] [some ⟨0, Enc.cells ({ a0 with fP := (w64 (a0.fP + 1)) })⟩] ?_
 exact ⟨(((({ a0 with fP := (w64 (a0.fP + 1)) } : T_spec_l20Rd).fB).length : Int) == 0), h, it [0, 1, 24]⟩
 rintro x1 h
 unfold spec_l20Rd_pick_j0 at h
 refine pc h (fun h => ?_) (fun h => ?_)
 refine srve 99 [(4, I 0)] [some ⟨0, Enc.cells ({ a0 with fP := (w64 (a0.fP + 1)) })⟩] ?_
 have h := si h
 subst h
 exact pwp_ret ⟨.inr rfl, I 0, _, 0, by kernel_rfl, (OutP.frz (by kernel_rfl)), by decide, by decide, by kernel_rfl⟩
 refine pwp_skip ?_
 refine srve 99 [(0, .ptr 0 0 0), (1, I a1), (5, I (w64 ((({ a0 with fP := (w64 (a0.fP + 1)) } : T_spec_l20Rd).fP) - 1)))] [some ⟨0, Enc.cells ({ a0 with fP := (w64 (a0.fP + 1)) })⟩] ?_
 refine pwp_seq ?_
 refine srve 99 [(0, .ptr 0 0 0), (1, I a1), (5, I (w64 ((({ a0 with fP := (w64 (a0.fP + 1)) } : T_spec_l20Rd).fP) - 1))), (36, B (decide ((w64 ((({ a0 with fP := (w64 (a0.fP + 1)) } : T_spec_l20Rd).fP) - 1)) < ((({ a0 with fP := (w64 (a0.fP + 1)) } : T_spec_l20Rd).fB).length : Int))))] [some ⟨0, Enc.cells ({ a0 with fP := (w64 (a0.fP + 1)) })⟩] ?_
 refine pc h (fun h => ?_) (fun h => ?_)
 refine srv 5 99 [(1, I a1), (40, A (({ a0 with fP := (w64 (a0.fP + 1)) } : T_spec_l20Rd).fB)), (41, I (w64 ((({ a0 with fP := (w64 (a0.fP + 1)) } : T_spec_l20Rd).fP) - 1)))] [some ⟨0, Enc.cells ({ a0 with fP := (w64 (a0.fP + 1)) })⟩] ?_
 obtain ⟨v4, hv5, h⟩ := bindS h
 refine opsP_idx τ_ok 42 hv5 (by kernel_rfl) ?_
 refine v 3 99 [(44, I (w64 (v4.toNat : Int))), (45, I a1)] [some ⟨0, Enc.cells ({ a0 with fP := (w64 (a0.fP + 1)) })⟩] ?_
 obtain ⟨v6, hv7, h⟩ := bindS h
 refine opsP_div τ_ok (r := true) 46 hv7 (by kernel_rfl) ?_
 refine ve 1 99 [(4, I v6)] [some ⟨0, Enc.cells ({ a0 with fP := (w64 (a0.fP + 1)) })⟩] ?_
 have h := si h
 subst h
 exact pwp_ret ⟨.inr rfl, I v6, _, 0, by kernel_rfl, (OutP.frz (by kernel_rfl)), by decide, by decide, by kernel_rfl⟩
 refine pwp_skip ?_
 refine pwp_seq ?_
 refine ip 99 [(0, .ptr 0 0 0), (1, I a1), (5, I (w64 ((({ a0 with fP := (w64 (a0.fP + 1)) } : T_spec_l20Rd).fP) - 1)))] [some ⟨0, Enc.cells ({ a0 with fP := (w64 (a0.fP + 1)) })⟩] ?_
 refine pwp_any ([[0], [0], [0], [0], [], [0], [0], [0], [0], [], [], [], [], [], [], [0], [0], [0], [0], [], [], [], [0], [0], [0], [0], [], [], [], [], [], [], [], [], [], [], [], [0], [0], [0], [0], [], [], [], [], []]) ([[], [], [], [], [], [], [], [], [], [], [], [], [], [], [], [], [], [], [], [], [], [], [], [], [], [], [], [], [], [], [], [], [], [], [], [], [], [], [], [], [], [], [], [], [], []]) rfl (by kernel_rfl) ?_
 refine qv [0] (hB trivial) 4 99 [(50, A (({ a0 with fP := (w64 (a0.fP + 1)) } : T_spec_l20Rd).fB)), (0, .ptr 0 0 0), (1, I a1), (5, I (w64 ((({ a0 with fP := (w64 (a0.fP + 1)) } : T_spec_l20Rd).fP) - 1)))] [some ⟨0, Enc.cells ({ a0 with fP := (w64 (a0.fP + 1)) })⟩] ?_
 refine qv [] trivial 1 99 [(51, I (w64 ((({ a0 with fP := (w64 (a0.fP + 1)) } : T_spec_l20Rd).fP) - 1))), (50, A (({ a0 with fP := (w64 (a0.fP + 1)) } : T_spec_l20Rd).fB)), (0, .ptr 0 0 0), (1, I a1), (5, I (w64 ((({ a0 with fP := (w64 (a0.fP + 1)) } : T_spec_l20Rd).fP) - 1)))] [some ⟨0, Enc.cells ({ a0 with fP := (w64 (a0.fP + 1)) })⟩] ?_
 refine qv [0] (hB trivial) 4 99 [(55, A (({ a0 with fP := (w64 (a0.fP + 1)) } : T_spec_l20Rd).fB)), (51, I (w64 ((({ a0 with fP := (w64 (a0.fP + 1)) } : T_spec_l20Rd).fP) - 1))), (50, A (({ a0 with fP := (w64 (a0.fP + 1)) } : T_spec_l20Rd).fB)), (0, .ptr 0 0 0), (1, I a1), (5, I (w64 ((({ a0 with fP := (w64 (a0.fP + 1)) } : T_spec_l20Rd).fP) - 1)))] [some ⟨0, Enc.cells ({ a0 with fP := (w64 (a0.fP + 1)) })⟩] ?_
 refine qv [] trivial 1 99 [(56, I ((({ a0 with fP := (w64 (a0.fP + 1)) } : T_spec_l20Rd).fB).length : Int)), (51, I (w64 ((({ a0 with fP := (w64 (a0.fP + 1)) } : T_spec_l20Rd).fP) - 1))), (50, A (({ a0 with fP := (w64 (a0.fP + 1)) } : T_spec_l20Rd).fB)), (0, .ptr 0 0 0), (1, I a1), (5, I (w64 ((({ a0 with fP := (w64 (a0.fP + 1)) } : T_spec_l20Rd).fP) - 1)))] [some ⟨0, Enc.cells ({ a0 with fP := (w64 (a0.fP + 1)) })⟩] ?_
 obtain ⟨v8, hv9, h⟩ := bindS h
 refine qX (some 57) (I v8) 99 [(57, I v8), (50, A (({ a0 with fP := (w64 (a0.fP + 1)) } : T_spec_l20Rd).fB)), (0, .ptr 0 0 0), (1, I a1), (5, I (w64 ((({ a0 with fP := (w64 (a0.fP + 1)) } : T_spec_l20Rd).fP) - 1)))] [some ⟨0, Enc.cells ({ a0 with fP := (w64 (a0.fP + 1)) })⟩] (fun Γ' hΓ => CoreE.of_y (divV_sound (r := true) τ_ok (by kernel_rfl) hv9)) trivial ?_
 obtain ⟨v10, hv11, h⟩ := bindS h
 refine qX (some 58) (pf v10 0) 99 [(58, pf v10 0), (0, .ptr 0 0 0), (1, I a1), (5, I (w64 ((({ a0 with fP := (w64 (a0.fP + 1)) } : T_spec_l20Rd).fP) - 1)))] [some ⟨0, Enc.cells ({ a0 with fP := (w64 (a0.fP + 1)) })⟩] (fun Γ' hΓ => CoreE.of_y (idxV_sound τ_ok (by kernel_rfl) hv11)) trivial ?_
 refine qv [] trivial 3 99 [(61, I (w64 ((w64 (v10.toNat : Int)) * 131))), (0, .ptr 0 0 0), (1, I a1), (5, I (w64 ((({ a0 with fP := (w64 (a0.fP + 1)) } : T_spec_l20Rd).fP) - 1)))] [some ⟨0, Enc.cells ({ a0 with fP := (w64 (a0.fP + 1)) })⟩] ?_
 refine qv [0] (hB trivial) 4 99 [(65, A (({ a0 with fP := (w64 (a0.fP + 1)) } : T_spec_l20Rd).fB)), (61, I (w64 ((w64 (v10.toNat : Int)) * 131))), (0, .ptr 0 0 0), (1, I a1), (5, I (w64 ((({ a0 with fP := (w64 (a0.fP + 1)) } : T_spec_l20Rd).fP) - 1)))] [some ⟨0, Enc.cells ({ a0 with fP := (w64 (a0.fP + 1)) })⟩] ?_
 refine qv [] trivial 3 99 [(68, I (w64 ((w64 ((w64 ((({ a0 with fP := (w64 (a0.fP + 1)) } : T_spec_l20Rd).fP) - 1)) * 7)) + 3))), (65, A (({ a0 with fP := (w64 (a0.fP + 1)) } : T_spec_l20Rd).fB)), (61, I (w64 ((w64 (v10.toNat : Int)) * 131))), (0, .ptr 0 0 0), (1, I a1), (5, I (w64 ((({ a0 with fP := (w64 (a0.fP + 1)) } : T_spec_l20Rd).fP) - 1)))] [some ⟨0, Enc.cells ({ a0 with fP := (w64 (a0.fP + 1)) })⟩] ?_
 refine qv [0] (hB trivial) 4 99 [(72, A (({ a0 with fP := (w64 (a0.fP + 1)) } : T_spec_l20Rd).fB)), (68, I (w64 ((w64 ((w64 ((({ a0 with fP := (w64 (a0.fP + 1)) } : T_spec_l20Rd).fP) - 1)) * 7)) + 3))), (65, A (({ a0 with fP := (w64 (a0.fP + 1)) } : T_spec_l20Rd).fB)), (61, I (w64 ((w64 (v10.toNat : Int)) * 131))), (0, .ptr 0 0 0), (1, I a1), (5, I (w64 ((({ a0 with fP := (w64 (a0.fP + 1)) } : T_spec_l20Rd).fP) - 1)))] [some ⟨0, Enc.cells ({ a0 with fP := (w64 (a0.fP + 1)) })⟩] ?_
 refine qv [] trivial 1 99 [(73, I ((({ a0 with fP := (w64 (a0.fP + 1)) } : T_spec_l20Rd).fB).length : Int)), (68, I (w64 ((w64 ((w64 ((({ a0 with fP := (w64 (a0.fP + 1)) } : T_spec_l20Rd).fP) - 1)) * 7)) + 3))), (65, A (({ a0 with fP := (w64 (a0.fP + 1)) } : T_spec_l20Rd).fB)), (61, I (w64 ((w64 (v10.toNat : Int)) * 131))), (0, .ptr 0 0 0), (1, I a1), (5, I (w64 ((({ a0 with fP := (w64 (a0.fP + 1)) } : T_spec_l20Rd).fP) - 1)))] [some ⟨0, Enc.cells ({ a0 with fP := (w64 (a0.fP + 1)) })⟩] ?_
 obtain ⟨v12, hv13, h⟩ := bindS h
 refine qX (some 74) (I v12) 99 [(74, I v12), (65, A (({ a0 with fP := (w64 (a0.fP + 1)) } : T_spec_l20Rd).fB)), (61, I (w64 ((w64 (v10.toNat : Int)) * 131))), (0, .ptr 0 0 0), (1, I a1), (5, I (w64 ((({ a0 with fP := (w64 (a0.fP + 1)) } : T_spec_l20Rd).fP) - 1)))] [some ⟨0, Enc.cells ({ a0 with fP := (w64 (a0.fP + 1)) })⟩] (fun Γ' hΓ => CoreE.of_y (divV_sound (r := true) τ_ok (by kernel_rfl) hv13)) trivial ?_
 obtain ⟨v14, hv15, h⟩ := bindS h
 refine qX (some 75) (pf v14 0) 99 [(75, pf v14 0), (61, I (w64 ((w64 (v10.toNat : Int)) * 131))), (0, .ptr 0 0 0), (1, I a1), (5, I (w64 ((({ a0 with fP := (w64 (a0.fP + 1)) } : T_spec_l20Rd).fP) - 1)))] [some ⟨0, Enc.cells ({ a0 with fP := (w64 (a0.fP + 1)) })⟩] (fun Γ' hΓ => CoreE.of_y (idxV_sound τ_ok (by kernel_rfl) hv15)) trivial ?_
 refine qv [] trivial 8 99 [(83, I (w64 ((({ a0 with fP := (w64 (a0.fP + 1)) } : T_spec_l20Rd).fP) - 1))), (82, I (w64 ((w64 ((w64 ((w64 (v10.toNat : Int)) * 131)) + (w64 ((w64 (v14.toNat : Int)) * 1117)))) + (w64 ((w64 ((({ a0 with fP := (w64 (a0.fP + 1)) } : T_spec_l20Rd).fP) - 1)) * 29))))), (0, .ptr 0 0 0), (1, I a1)] [some ⟨0, Enc.cells ({ a0 with fP := (w64 (a0.fP + 1)) })⟩] ?_
 refine qv [0] (hB trivial) 4 99 [(87, A (({ a0 with fP := (w64 (a0.fP + 1)) } : T_spec_l20Rd).fB)), (83, I (w64 ((({ a0 with fP := (w64 (a0.fP + 1)) } : T_spec_l20Rd).fP) - 1))), (82, I (w64 ((w64 ((w64 ((w64 (v10.toNat : Int)) * 131)) + (w64 ((w64 (v14.toNat : Int)) * 1117)))) + (w64 ((w64 ((({ a0 with fP := (w64 (a0.fP + 1)) } : T_spec_l20Rd).fP) - 1)) * 29))))), (1, I a1)] [some ⟨0, Enc.cells ({ a0 with fP := (w64 (a0.fP + 1)) })⟩] ?_
 refine qv [] trivial 1 99 [(88, I ((({ a0 with fP := (w64 (a0.fP + 1)) } : T_spec_l20Rd).fB).length : Int)), (83, I (w64 ((({ a0 with fP := (w64 (a0.fP + 1)) } : T_spec_l20Rd).fP) - 1))), (82, I (w64 ((w64 ((w64 ((w64 (v10.toNat : Int)) * 131)) + (w64 ((w64 (v14.toNat : Int)) * 1117)))) + (w64 ((w64 ((({ a0 with fP := (w64 (a0.fP + 1)) } : T_spec_l20Rd).fP) - 1)) * 29))))), (1, I a1)] [some ⟨0, Enc.cells ({ a0 with fP := (w64 (a0.fP + 1)) })⟩] ?_
 obtain ⟨v16, hv17, h⟩ := bindS h
 refine qX (some 89) (I v16) 99 [(89, I v16), (82, I (w64 ((w64 ((w64 ((w64 (v10.toNat : Int)) * 131)) + (w64 ((w64 (v14.toNat : Int)) * 1117)))) + (w64 ((w64 ((({ a0 with fP := (w64 (a0.fP + 1)) } : T_spec_l20Rd).fP) - 1)) * 29))))), (1, I a1)] [some ⟨0, Enc.cells ({ a0 with fP := (w64 (a0.fP + 1)) })⟩] (fun Γ' hΓ => CoreE.of_y (divV_sound (r := false) τ_ok (by kernel_rfl) hv17)) trivial ?_
 refine qvn [] trivial 3 99 [(1, I a1), (6, I (w64 ((w64 ((w64 ((w64 ((w64 (v10.toNat : Int)) * 131)) + (w64 ((w64 (v14.toNat : Int)) * 1117)))) + (w64 ((w64 ((({ a0 with fP := (w64 (a0.fP + 1)) } : T_spec_l20Rd).fP) - 1)) * 29)))) + (w64 (v16 * 53)))))] [some ⟨0, Enc.cells ({ a0 with fP := (w64 (a0.fP + 1)) })⟩] ?_
 refine srve 99 [(1, I a1), (6, I (w64 ((BitVec.ofInt 64 (w64 ((w64 ((w64 ((w64 ((w64 (v10.toNat : Int)) * 131)) + (w64 ((w64 (v14.toNat : Int)) * 1117)))) + (w64 ((w64 ((({ a0 with fP := (w64 (a0.fP + 1)) } : T_spec_l20Rd).fP) - 1)) * 29)))) + (w64 (v16 * 53)))) ^^^ BitVec.ofInt 64 (w64 ((w64 ((w64 ((w64 ((w64 ((w64 (v10.toNat : Int)) * 131)) + (w64 ((w64 (v14.toNat : Int)) * 1117)))) + (w64 ((w64 ((({ a0 with fP := (w64 (a0.fP + 1)) } : T_spec_l20Rd).fP) - 1)) * 29)))) + (w64 (v16 * 53)))).tdiv 64))).toNat : Int)))] [some ⟨0, Enc.cells ({ a0 with fP := (w64 (a0.fP + 1)) })⟩] ?_
 refine srv 2 99 [(96, I (w64 ((BitVec.ofInt 64 (w64 ((w64 ((w64 ((w64 ((w64 (v10.toNat : Int)) * 131)) + (w64 ((w64 (v14.toNat : Int)) * 1117)))) + (w64 ((w64 ((({ a0 with fP := (w64 (a0.fP + 1)) } : T_spec_l20Rd).fP) - 1)) * 29)))) + (w64 (v16 * 53)))) ^^^ BitVec.ofInt 64 (w64 ((w64 ((w64 ((w64 ((w64 ((w64 (v10.toNat : Int)) * 131)) + (w64 ((w64 (v14.toNat : Int)) * 1117)))) + (w64 ((w64 ((({ a0 with fP := (w64 (a0.fP + 1)) } : T_spec_l20Rd).fP) - 1)) * 29)))) + (w64 (v16 * 53)))).tdiv 64))).toNat : Int))), (97, I a1)] [some ⟨0, Enc.cells ({ a0 with fP := (w64 (a0.fP + 1)) })⟩] ?_
 obtain ⟨v18, hv19, h⟩ := bindS h
 refine opsP_div τ_ok (r := true) 98 hv19 (by kernel_rfl) ?_
 refine ve 1 99 [(4, I v18)] [some ⟨0, Enc.cells ({ a0 with fP := (w64 (a0.fP + 1)) })⟩] ?_
 have h := si h
 subst h
 exact pwp_ret ⟨.inr rfl, I v18, _, 0, by kernel_rfl, (OutP.frz (by kernel_rfl)), by decide, by decide, by kernel_rfl⟩
def spec_l20Rd_odd (a0 : T_spec_l20Rd) (a1 : Int) : Option (Bool × T_spec_l20Rd) := bif (decide (a1 > 0)) then (spec_l20Rd_pick a0 a1).bind fun v1 => some ((v1.1 == (w64 (a1 - 1))), v1.2) else some (false, a0)
theorem ok_spec_l20Rd_odd {a0 : T_spec_l20Rd} {a1 : Int} {y : Bool × T_spec_l20Rd} (h : spec_l20Rd_odd a0 a1 = some y) : OKb Try.prog 56 (Enc.cells a0) [I a1] (B y.1) (Enc.cells y.2) := by
 refine OKb_of_pwp τ_ok Try.func56 rfl (by kernel_rfl) rfl (Enc.frz _) (Enc.frz _) fun Γ hQ => ?_
 unfold spec_l20Rd_odd at h
 refine srve 15 [(0, .ptr 0 0 0), (1, I a1)] [sc 0 a0] ?_
 refine srv 3 15 [(0, .ptr 0 0 0), (1, I a1), (7, B (decide (a1 > 0)))] [sc 0 a0] ?_
 rcases fk (decide (a1 > 0)) with hc3 | hc3
 replace h := bT hc3 h
 rw [hc3]
 refine v 2 15 [(1, I a1), (7, B true), (8, .ptr 0 0 0), (9, I a1)] [sc 0 a0] ?_
 obtain ⟨v1, hv2, h⟩ := bindS h
 refine cB 10 0 0 (ok_spec_l20Rd_pick hv2) ?_
 refine ve 5 15 [(4, B (v1.1 == (w64 (a1 - 1))))] [sc 0 v1.2] ?_
 have h := si h
 subst h
 exact pwp_ret ⟨.inr rfl, B (v1.1 == (w64 (a1 - 1))), _, 0, by kernel_rfl, (OutP.frz (by kernel_rfl)), by decide, by decide, by kernel_rfl⟩
 replace h := bF hc3 h
 rw [hc3]
 refine ve 8 15 [(4, B false)] [sc 0 a0] ?_
 have h := si h
 subst h
 exact pwp_ret ⟨.inr rfl, B false, _, 0, by kernel_rfl, (OutP.frz (by kernel_rfl)), by decide, by decide, by kernel_rfl⟩
def spec_l20Like_j0 (a1 : T_impl_Column) (x1 : Bool) (x2 : T_spec_l20Rd) : Option (T_impl_Value × T_spec_l20Rd) := bif x1 then some ((T_impl_Value.mk 0 0 (ByteArray.mk #[])), x2) else bif (a1.fKind == 1) then (spec_l20Rd_pick x2 4).bind fun v5 => some ((T_impl_Value.mk 1 v5.1 (ByteArray.mk #[])), v5.2) else bif (a1.fKind == 2) then (spec_l20Rd_pick x2 4).bind fun v8 => (getI ([(ByteArray.mk #[]), (ByteArray.mk #[97]), (ByteArray.mk #[98]), (ByteArray.mk #[97, 98])] : List ByteArray) v8.1).bind fun v10 => some ((T_impl_Value.mk 2 0 v10), v8.2) else (spec_l20Rd_pick x2 2).bind fun v12 => some ((T_impl_Value.mk 3 v12.1 (ByteArray.mk #[])), v12.2)
def spec_l20Like (a0 : T_spec_l20Rd) (a1 : T_impl_Column) : Option (T_impl_Value × T_spec_l20Rd) := bif a1.fEmpty then (spec_l20Rd_pick a0 5).bind fun v14 => spec_l20Like_j0 a1 (v14.1 == 0) v14.2 else spec_l20Like_j0 a1 false a0
theorem ok_spec_l20Like {a0 : T_spec_l20Rd} {a1 : T_impl_Column} {y : T_impl_Value × T_spec_l20Rd} (h : spec_l20Like a0 a1 = some y) : OKb Try.prog 57 (Enc.cells a0) [E a1] (E y.1) (Enc.cells y.2) := by
 refine OKb_of_pwp τ_ok Try.func57 rfl (by kernel_rfl) rfl (Enc.frz _) (Enc.frz _) fun Γ hQ => ?_
 unfold spec_l20Like at h
 refine srveM [4] 31 [(0, .ptr 0 0 0), (3, pf a1 0), (4, .ptr 1 0 0)] [sc 0 a0, some ⟨0, Enc.cells (T_impl_Value.mk 0 0 (ByteArray.mk #[]))⟩] ?_
 refine pwp_seq ?_
 refine pwp_seq ?_
 refine pwp_join (σ := Bool × T_spec_l20Rd) (fun (x1, x2) => (⟨31, [(0, .ptr 0 0 0), (3, pf a1 0), (4, .ptr 1 0 0), (11, B x1)], [sc 0 x2, some ⟨0, Enc.cells (T_impl_Value.mk 0 0 (ByteArray.mk #[]))⟩]⟩ : St)) (fun (x1, x2) => spec_l20Like_j0 a1 x1 x2 = some y) ?_ ?_
 refine rvM [4] 3 31 [(0, .ptr 0 0 0), (3, pf a1 0), (4, .ptr 1 0 0), (7, B a1.fEmpty)] [sc 0 a0, some ⟨0, Enc.cells (T_impl_Value.mk 0 0 (ByteArray.mk #[]))⟩] ?_
 rcases Bool.eq_false_or_eq_true a1.fEmpty with hc16 | hc16
 replace h := bT hc16 h
 rw [hc16]
 refine vM [4] 1 31 [(0, .ptr 0 0 0), (3, pf a1 0), (4, .ptr 1 0 0), (7, B true), (8, .ptr 0 0 0)] [sc 0 a0, some ⟨0, Enc.cells (T_impl_Value.mk 0 0 (ByteArray.mk #[]))⟩] ?_
 obtain ⟨v14, hv15, h⟩ := bindS h
 refine cB 9 0 0 (ok_spec_l20Rd_pick hv15) ?_
 refine veM [4] 2 31 [(0, .ptr 0 0 0), (3, pf a1 0), (4, .ptr 1 0 0), (11, B (v14.1 == 0))] [sc 0 v14.2, some ⟨0, Enc.cells (T_impl_Value.mk 0 0 (ByteArray.mk #[]))⟩] ?_
 exact ⟨((v14.1 == 0), v14.2), h, it [0, 3, 4, 11]⟩
 replace h := bF hc16 h
 rw [hc16]
 refine veM [4] 4 31 [(0, .ptr 0 0 0), (3, pf a1 0), (4, .ptr 1 0 0), (11, B false)] [sc 0 a0, some ⟨0, Enc.cells (T_impl_Value.mk 0 0 (ByteArray.mk #[]))⟩] ?_
 exact ⟨(false, a0), h, it [0, 3, 4, 11]⟩
 rintro ⟨x1, x2⟩ h
 dsimp only at h ⊢
 unfold spec_l20Like_j0 at h
 refine pc h (fun h => ?_) (fun h => ?_)
 refine srveM [4] 31 [(4, .ptr 1 0 0)] [sc 0 x2, some ⟨0, Enc.cells (T_impl_Value.mk 0 0 (ByteArray.mk #[]))⟩] ?_
 have h := si h
 subst h
 exact pwp_ret ⟨.inr rfl, E (T_impl_Value.mk 0 0 (ByteArray.mk #[])), _, 0, by kernel_rfl, (OutP.frz (by kernel_rfl)), by decide, by decide, by kernel_rfl⟩
 refine pwp_skip ?_
 refine pwp_seq ?_
 refine srveM [4] 31 [(0, .ptr 0 0 0), (4, .ptr 1 0 0), (14, I a1.fKind)] [sc 0 x2, some ⟨0, Enc.cells (T_impl_Value.mk 0 0 (ByteArray.mk #[]))⟩] ?_
 refine pwp_block ?_
 refine srveM [4] 31 [(0, .ptr 0 0 0), (4, .ptr 1 0 0), (14, I a1.fKind), (15, B (a1.fKind == 1))] [sc 0 x2, some ⟨0, Enc.cells (T_impl_Value.mk 0 0 (ByteArray.mk #[]))⟩] ?_
 refine pc h (fun h => ?_) (fun h => ?_)
 refine srvM [4] 1 31 [(4, .ptr 1 0 0), (17, .ptr 0 0 0)] [sc 0 x2, some ⟨0, Enc.cells (T_impl_Value.mk 0 0 (ByteArray.mk #[]))⟩] ?_
 obtain ⟨v5, hv6, h⟩ := bindS h
 refine cB 18 0 0 (ok_spec_l20Rd_pick hv6) ?_
 refine veM [4] 2 31 [(4, .ptr 1 0 0)] [sc 0 v5.2, some ⟨0, Enc.cells (T_impl_Value.mk 1 v5.1 (ByteArray.mk #[]))⟩] ?_
 have h := si h
 subst h
 exact pwp_ret ⟨.inr rfl, E (T_impl_Value.mk 1 v5.1 (ByteArray.mk #[])), _, 0, by kernel_rfl, (OutP.frz (by kernel_rfl)), by decide, by decide, by kernel_rfl⟩
 refine srveM [4] 31 [(0, .ptr 0 0 0), (4, .ptr 1 0 0), (20, B (a1.fKind == 2))] [sc 0 x2, some ⟨0, Enc.cells (T_impl_Value.mk 0 0 (ByteArray.mk #[]))⟩] ?_
 refine pc h (fun h => ?_) (fun h => ?_)
 refine srvM [4] 2 31 [(4, .ptr 1 0 0), (22, .arr 1 ([(ByteArray.mk #[]), (ByteArray.mk #[97]), (ByteArray.mk #[98]), (ByteArray.mk #[97, 98])] : List ByteArray).length (eL ([(ByteArray.mk #[]), (ByteArray.mk #[97]), (ByteArray.mk #[98]), (ByteArray.mk #[97, 98])] : List ByteArray)) true), (23, .ptr 0 0 0)] [sc 0 x2, some ⟨0, Enc.cells (T_impl_Value.mk 0 0 (ByteArray.mk #[]))⟩] ?_
 obtain ⟨v8, hv9, h⟩ := bindS h
 refine cB 24 0 0 (ok_spec_l20Rd_pick hv9) ?_
 obtain ⟨v10, hv11, h⟩ := bindS h
 refine opsP_idx τ_ok 25 hv11 (by kernel_rfl) ?_
 refine veM [4] 3 31 [(4, .ptr 1 0 0)] [sc 0 v8.2, some ⟨0, Enc.cells (T_impl_Value.mk 2 0 v10)⟩] ?_
 have h := si h
 subst h
 exact pwp_ret ⟨.inr rfl, E (T_impl_Value.mk 2 0 v10), _, 0, by kernel_rfl, (OutP.frz (by kernel_rfl)), by decide, by decide, by kernel_rfl⟩
 refine pwp_skip ?_
 refine srvM [4] 1 31 [(4, .ptr 1 0 0), (28, .ptr 0 0 0)] [sc 0 x2, some ⟨0, Enc.cells (T_impl_Value.mk 0 0 (ByteArray.mk #[]))⟩] ?_
 obtain ⟨v12, hv13, h⟩ := bindS h
 refine cB 29 0 0 (ok_spec_l20Rd_pick hv13) ?_
 refine veM [4] 2 31 [(4, .ptr 1 0 0)] [sc 0 v12.2, some ⟨0, Enc.cells (T_impl_Value.mk 3 v12.1 (ByteArray.mk #[]))⟩] ?_
 have h := si h
 subst h
 exact pwp_ret ⟨.inr rfl, E (T_impl_Value.mk 3 v12.1 (ByteArray.mk #[])), _, 0, by kernel_rfl, (OutP.frz (by kernel_rfl)), by decide, by decide, by kernel_rfl⟩
def spec_l20Value_j1 (x3 : T_spec_l20Rd) (x4 : T_impl_Value) : Option (T_impl_Value × T_spec_l20Rd) := some (x4, x3)
def spec_l20Value_j0 (a1 : Int) (x1 : T_spec_l20Rd) (x2 : T_impl_Value) : Option (T_impl_Value × T_spec_l20Rd) := (spec_l20Rd_odd x1 a1).bind fun v5 => bif v5.1 then (spec_l20Rd_pick v5.2 4).bind fun v8 => bif (v8.1 == 0) then spec_l20Value_j1 v8.2 ({ x2 with fN := 10000 }) else bif (v8.1 == 1) then (addS x2.fS (ByteArray.mk #[97, 98, 99, 100, 101, 102, 103])).bind fun v12 => spec_l20Value_j1 v8.2 ({ x2 with fS := v12 }) else bif (v8.1 == 2) then (spec_l20Rd_pick v8.2 7).bind fun v15 => spec_l20Value_j1 v15.2 ({ x2 with fKind := (w64 (v15.1 - 1)) }) else (addS x2.fS (ByteArray.mk #[65])).bind fun v17 => spec_l20Value_j1 v8.2 ({ x2 with fS := v17 }) else spec_l20Value_j1 v5.2 x2
def spec_l20Value_l4 (a1 : Int) : Nat → Int → T_spec_l20Rd → T_impl_Value → Option (T_impl_Value × T_spec_l20Rd)
 | 0, _, _, _ => none
 | f43 + 1, x40, x41, x42 => bif (decide (x40 > 0)) then (spec_l20Rd_pick x41 3).bind fun v46 => (addS x42.fS (ByteArray.mk (List.toArray ([(u8 (w64 (97 + v46.1)))] : List UInt8)))).bind fun v48 => (spec_l20Value_l4 a1 f43) (w64 (x40 - 1)) v46.2 ({ x42 with fS := v48 }) else spec_l20Value_j0 a1 x41 x42
def spec_l20Value_j3 (a1 : Int) (v19 : Int × T_spec_l20Rd) (x33 : Bool) : Option (T_impl_Value × T_spec_l20Rd) := bif x33 then (spec_l20Rd_pick v19.2 4).bind fun v35 => spec_l20Value_l4 a1 FUEL v35.1 v35.2 (T_impl_Value.mk 2 0 (ByteArray.mk #[])) else (spec_l20Rd_pick v19.2 2).bind fun v50 => spec_l20Value_j0 a1 v50.2 (T_impl_Value.mk 3 v50.1 (ByteArray.mk #[]))
def spec_l20Value_j2 (a1 : Int) (v19 : Int × T_spec_l20Rd) (x22 : Bool) : Option (T_impl_Value × T_spec_l20Rd) := bif x22 then (spec_l20Rd_pick v19.2 7).bind fun v24 => (spec_l20Rd_pick v24.2 8).bind fun v26 => bif (v26.1 == 0) then (spec_l20Rd_pick v26.2 5).bind fun v29 => (getI ([9999, -9999, 255, 256, -256] : List Int) v29.1).bind fun v31 => spec_l20Value_j0 a1 v29.2 (T_impl_Value.mk 1 v31 (ByteArray.mk #[])) else spec_l20Value_j0 a1 v26.2 (T_impl_Value.mk 1 (w64 (v24.1 - 3)) (ByteArray.mk #[])) else bif (v19.1 == 4) then spec_l20Value_j3 a1 v19 (v19.1 == 4) else spec_l20Value_j3 a1 v19 (v19.1 == 5)
def spec_l20Value (a0 : T_spec_l20Rd) (a1 : Int) : Option (T_impl_Value × T_spec_l20Rd) := (spec_l20Rd_pick a0 7).bind fun v19 => bif (v19.1 == 0) then spec_l20Value_j0 a1 v19.2 (T_impl_Value.mk 0 0 (ByteArray.mk #[])) else bif (v19.1 == 1) then spec_l20Value_j2 a1 v19 (v19.1 == 1) else bif (v19.1 == 2) then spec_l20Value_j2 a1 v19 (v19.1 == 2) else spec_l20Value_j2 a1 v19 (v19.1 == 3)
theorem ok_spec_l20Value {a0 : T_spec_l20Rd} {a1 : Int} {y : T_impl_Value × T_spec_l20Rd} (h : spec_l20Value a0 a1 = some y) : OKb Try.prog 58 (Enc.cells a0) [I a1] (E y.1) (Enc.cells y.2) := by
 refine OKb_of_pwp τ_ok Try.func58 rfl (by kernel_rfl) rfl (Enc.frz _) (Enc.frz _) fun Γ hQ => ?_
 unfold spec_l20Value at h
 refine srveM [4, 5] 77 [(0, .ptr 0 0 0), (1, I a1), (4, .ptr 1 0 0)] [sc 0 a0, some ⟨0, Enc.cells (T_impl_Value.mk 0 0 (ByteArray.mk #[]))⟩] ?_
 refine srveM [4, 5] 77 [(0, .ptr 0 0 0), (1, I a1), (4, .ptr 1 0 0), (5, .ptr 2 0 0)] [sc 0 a0, some ⟨0, Enc.cells (T_impl_Value.mk 0 0 (ByteArray.mk #[]))⟩, some ⟨0, Enc.cells (T_impl_Value.mk 0 0 (ByteArray.mk #[]))⟩] ?_
 refine pwp_seq ?_
 refine pwp_join (σ := T_spec_l20Rd × T_impl_Value) (fun (x1, x2) => (⟨77, [(0, .ptr 0 0 0), (1, I a1), (4, .ptr 1 0 0), (5, .ptr 2 0 0)], [sc 0 x1, some ⟨0, Enc.cells (T_impl_Value.mk 0 0 (ByteArray.mk #[]))⟩, sc 0 x2]⟩ : St)) (fun (x1, x2) => spec_l20Value_j0 a1 x1 x2 = some y) ?_ ?_
 refine srvM [4, 5] 1 77 [(0, .ptr 0 0 0), (1, I a1), (4, .ptr 1 0 0), (5, .ptr 2 0 0), (8, .ptr 0 0 0)] [sc 0 a0, some ⟨0, Enc.cells (T_impl_Value.mk 0 0 (ByteArray.mk #[]))⟩, some ⟨0, Enc.cells (T_impl_Value.mk 0 0 (ByteArray.mk #[]))⟩] ?_
 obtain ⟨v19, hv20, h⟩ := bindS h
 refine cB 9 0 0 (ok_spec_l20Rd_pick hv20) ?_
 refine veM [4, 5] 0 77 [(0, .ptr 0 0 0), (1, I a1), (4, .ptr 1 0 0), (5, .ptr 2 0 0), (9, I v19.1)] [sc 0 v19.2, some ⟨0, Enc.cells (T_impl_Value.mk 0 0 (ByteArray.mk #[]))⟩, some ⟨0, Enc.cells (T_impl_Value.mk 0 0 (ByteArray.mk #[]))⟩] ?_
 refine pwp_block ?_
 refine srveM [4, 5] 77 [(0, .ptr 0 0 0), (1, I a1), (4, .ptr 1 0 0), (5, .ptr 2 0 0), (9, I v19.1), (13, B (v19.1 == 0))] [sc 0 v19.2, some ⟨0, Enc.cells (T_impl_Value.mk 0 0 (ByteArray.mk #[]))⟩, some ⟨0, Enc.cells (T_impl_Value.mk 0 0 (ByteArray.mk #[]))⟩] ?_
 refine pc h (fun h => ?_) (fun h => ?_)
 refine pwp_skip ?_
 exact ⟨(v19.2, (T_impl_Value.mk 0 0 (ByteArray.mk #[]))), h, it [0, 1, 4, 5]⟩
 refine pwp_seq ?_
 refine pwp_join (σ := Bool) (fun x22 => (⟨77, [(0, .ptr 0 0 0), (1, I a1), (4, .ptr 1 0 0), (5, .ptr 2 0 0), (9, I v19.1), (15, B x22)], [sc 0 v19.2, some ⟨0, Enc.cells (T_impl_Value.mk 0 0 (ByteArray.mk #[]))⟩, some ⟨0, Enc.cells (T_impl_Value.mk 0 0 (ByteArray.mk #[]))⟩]⟩ : St)) (fun x22 => spec_l20Value_j2 a1 v19 x22 = some y) ?_ ?_
 refine srveM [4, 5] 77 [(0, .ptr 0 0 0), (1, I a1), (4, .ptr 1 0 0), (5, .ptr 2 0 0), (9, I v19.1), (15, B (v19.1 == 1))] [sc 0 v19.2, some ⟨0, Enc.cells (T_impl_Value.mk 0 0 (ByteArray.mk #[]))⟩, some ⟨0, Enc.cells (T_impl_Value.mk 0 0 (ByteArray.mk #[]))⟩] ?_
 refine pc h (fun h => ?_) (fun h => ?_)
 refine pwp_skip ?_
 exact ⟨(v19.1 == 1), h, it [0, 1, 4, 5, 9, 15]⟩
 refine srveM [4, 5] 77 [(0, .ptr 0 0 0), (1, I a1), (4, .ptr 1 0 0), (5, .ptr 2 0 0), (9, I v19.1), (15, B (v19.1 == 2))] [sc 0 v19.2, some ⟨0, Enc.cells (T_impl_Value.mk 0 0 (ByteArray.mk #[]))⟩, some ⟨0, Enc.cells (T_impl_Value.mk 0 0 (ByteArray.mk #[]))⟩] ?_
 refine pc h (fun h => ?_) (fun h => ?_)
 refine pwp_skip ?_
 exact ⟨(v19.1 == 2), h, it [0, 1, 4, 5, 9, 15]⟩
 refine rveM [4, 5] 77 [(0, .ptr 0 0 0), (1, I a1), (4, .ptr 1 0 0), (5, .ptr 2 0 0), (9, I v19.1), (15, B (v19.1 == 3))] [sc 0 v19.2, some ⟨0, Enc.cells (T_impl_Value.mk 0 0 (ByteArray.mk #[]))⟩, some ⟨0, Enc.cells (T_impl_Value.mk 0 0 (ByteArray.mk #[]))⟩] ?_
 exact ⟨(v19.1 == 3), h, it [0, 1, 4, 5, 9, 15]⟩
 rintro x22 h
 unfold spec_l20Value_j2 at h
 refine pc h (fun h => ?_) (fun h => ?_)
 refine srvM [4, 5] 1 77 [(0, .ptr 0 0 0), (1, I a1), (4, .ptr 1 0 0), (5, .ptr 2 0 0), (19, .ptr 0 0 0)] [sc 0 v19.2, some ⟨0, Enc.cells (T_impl_Value.mk 0 0 (ByteArray.mk #[]))⟩, some ⟨0, Enc.cells (T_impl_Value.mk 0 0 (ByteArray.mk #[]))⟩] ?_
 obtain ⟨v24, hv25, h⟩ := bindS h
 refine cB 20 0 0 (ok_spec_l20Rd_pick hv25) ?_
 refine veM [4, 5] 3 77 [(0, .ptr 0 0 0), (1, I a1), (4, .ptr 1 0 0), (5, .ptr 2 0 0)] [sc 0 v24.2, some ⟨0, Enc.cells (T_impl_Value.mk 0 0 (ByteArray.mk #[]))⟩, some ⟨0, Enc.cells (T_impl_Value.mk 1 (w64 (v24.1 - 3)) (ByteArray.mk #[]))⟩] ?_
 refine srvM [4, 5] 1 77 [(0, .ptr 0 0 0), (1, I a1), (4, .ptr 1 0 0), (5, .ptr 2 0 0), (23, .ptr 0 0 0)] [sc 0 v24.2, some ⟨0, Enc.cells (T_impl_Value.mk 0 0 (ByteArray.mk #[]))⟩, some ⟨0, Enc.cells (T_impl_Value.mk 1 (w64 (v24.1 - 3)) (ByteArray.mk #[]))⟩] ?_
 obtain ⟨v26, hv27, h⟩ := bindS h
 refine cB 24 0 0 (ok_spec_l20Rd_pick hv27) ?_
 refine veM [4, 5] 1 77 [(0, .ptr 0 0 0), (1, I a1), (4, .ptr 1 0 0), (5, .ptr 2 0 0), (25, B (v26.1 == 0))] [sc 0 v26.2, some ⟨0, Enc.cells (T_impl_Value.mk 0 0 (ByteArray.mk #[]))⟩, some ⟨0, Enc.cells (T_impl_Value.mk 1 (w64 (v24.1 - 3)) (ByteArray.mk #[]))⟩] ?_
 refine pc h (fun h => ?_) (fun h => ?_)
 refine rvM [4, 5] 2 77 [(0, .ptr 0 0 0), (1, I a1), (4, .ptr 1 0 0), (5, .ptr 2 0 0), (26, .arr 1 ([9999, -9999, 255, 256, -256] : List Int).length (eL ([9999, -9999, 255, 256, -256] : List Int)) true), (27, .ptr 0 0 0)] [sc 0 v26.2, some ⟨0, Enc.cells (T_impl_Value.mk 0 0 (ByteArray.mk #[]))⟩, some ⟨0, Enc.cells (T_impl_Value.mk 1 (w64 (v24.1 - 3)) (ByteArray.mk #[]))⟩] ?_
 obtain ⟨v29, hv30, h⟩ := bindS h
 refine cB 28 0 0 (ok_spec_l20Rd_pick hv30) ?_
 obtain ⟨v31, hv32, h⟩ := bindS h
 refine opsP_idx τ_ok 29 hv32 (by kernel_rfl) ?_
 refine veM [4, 5] 3 77 [(0, .ptr 0 0 0), (1, I a1), (4, .ptr 1 0 0), (5, .ptr 2 0 0)] [sc 0 v29.2, some ⟨0, Enc.cells (T_impl_Value.mk 0 0 (ByteArray.mk #[]))⟩, some ⟨0, Enc.cells (T_impl_Value.mk 1 v31 (ByteArray.mk #[]))⟩] ?_
 exact ⟨(v29.2, (T_impl_Value.mk 1 v31 (ByteArray.mk #[]))), h, it [0, 1, 4, 5]⟩
 refine pwp_skip ?_
 exact ⟨(v26.2, (T_impl_Value.mk 1 (w64 (v24.1 - 3)) (ByteArray.mk #[]))), h, it [0, 1, 4, 5]⟩
 refine pwp_seq ?_
 refine pwp_join (σ := Bool) (fun x33 => (⟨77, [(0, .ptr 0 0 0), (1, I a1), (4, .ptr 1 0 0), (5, .ptr 2 0 0), (32, B x33)], [sc 0 v19.2, some ⟨0, Enc.cells (T_impl_Value.mk 0 0 (ByteArray.mk #[]))⟩, some ⟨0, Enc.cells (T_impl_Value.mk 0 0 (ByteArray.mk #[]))⟩]⟩ : St)) (fun x33 => spec_l20Value_j3 a1 v19 x33 = some y) ?_ ?_
 refine srveM [4, 5] 77 [(0, .ptr 0 0 0), (1, I a1), (4, .ptr 1 0 0), (5, .ptr 2 0 0), (9, I v19.1), (32, B (v19.1 == 4))] [sc 0 v19.2, some ⟨0, Enc.cells (T_impl_Value.mk 0 0 (ByteArray.mk #[]))⟩, some ⟨0, Enc.cells (T_impl_Value.mk 0 0 (ByteArray.mk #[]))⟩] ?_
 refine pc h (fun h => ?_) (fun h => ?_)
 refine pwp_skip ?_
 exact ⟨(v19.1 == 4), h, it [0, 1, 4, 5, 32]⟩
 refine rveM [4, 5] 77 [(0, .ptr 0 0 0), (1, I a1), (4, .ptr 1 0 0), (5, .ptr 2 0 0), (32, B (v19.1 == 5))] [sc 0 v19.2, some ⟨0, Enc.cells (T_impl_Value.mk 0 0 (ByteArray.mk #[]))⟩, some ⟨0, Enc.cells (T_impl_Value.mk 0 0 (ByteArray.mk #[]))⟩] ?_
 exact ⟨(v19.1 == 5), h, it [0, 1, 4, 5, 32]⟩
 rintro x33 h
 unfold spec_l20Value_j3 at h
 refine pc h (fun h => ?_) (fun h => ?_)
 refine srveM [4, 5] 77 [(0, .ptr 0 0 0), (1, I a1), (4, .ptr 1 0 0), (5, .ptr 2 0 0)] [sc 0 v19.2, some ⟨0, Enc.cells (T_impl_Value.mk 0 0 (ByteArray.mk #[]))⟩, some ⟨0, Enc.cells (T_impl_Value.mk 2 0 (ByteArray.mk #[]))⟩] ?_
 refine srvM [4, 5] 1 77 [(0, .ptr 0 0 0), (1, I a1), (4, .ptr 1 0 0), (5, .ptr 2 0 0), (36, .ptr 0 0 0)] [sc 0 v19.2, some ⟨0, Enc.cells (T_impl_Value.mk 0 0 (ByteArray.mk #[]))⟩, some ⟨0, Enc.cells (T_impl_Value.mk 2 0 (ByteArray.mk #[]))⟩] ?_
 obtain ⟨v35, hv36, h⟩ := bindS h
 refine cB 37 0 0 (ok_spec_l20Rd_pick hv36) ?_
 refine veM [4, 5] 1 77 [(0, .ptr 0 0 0), (1, I a1), (4, .ptr 1 0 0), (5, .ptr 2 0 0), (6, I v35.1)] [sc 0 v35.2, some ⟨0, Enc.cells (T_impl_Value.mk 0 0 (ByteArray.mk #[]))⟩, some ⟨0, Enc.cells (T_impl_Value.mk 2 0 (ByteArray.mk #[]))⟩] ?_
 refine pwp_block ?_
 refine pwp_loop (ι := Nat × Int × T_spec_l20Rd × T_impl_Value) (fun (f43, x40, x41, x42) => (⟨77, [(0, .ptr 0 0 0), (1, I a1), (4, .ptr 1 0 0), (5, .ptr 2 0 0), (6, I x40)], [sc 0 x41, some ⟨0, Enc.cells (T_impl_Value.mk 0 0 (ByteArray.mk #[]))⟩, sc 0 x42]⟩ : St)) (fun (f43, x40, x41, x42) => spec_l20Value_l4 a1 f43 x40 x41 x42 = some y) Prod.fst (FUEL, v35.1, v35.2, (T_impl_Value.mk 2 0 (ByteArray.mk #[]))) h (it [0, 1, 4, 5, 6]) ?_
 rintro ⟨f43, x40, x41, x42⟩ h
 dsimp only at h ⊢
 rcases f43 with _ | f43
 cases h
 rw [spec_l20Value_l4] at h
 refine pwp_seq ?_
 refine srveM [4, 5] 77 [(0, .ptr 0 0 0), (1, I a1), (4, .ptr 1 0 0), (5, .ptr 2 0 0), (6, I x40), (39, B (decide (x40 > 0)))] [sc 0 x41, some ⟨0, Enc.cells (T_impl_Value.mk 0 0 (ByteArray.mk #[]))⟩, sc 0 x42] ?_
 refine pc h (fun h => ?_) (fun h => ?_)
 refine pwp_skip ?_
 refine pwp_seq ?_
 refine pwp_block ?_
 refine ip 77 [(0, .ptr 0 0 0), (1, I a1), (4, .ptr 1 0 0), (5, .ptr 2 0 0), (6, I x40)] [sc 0 x41, some ⟨0, Enc.cells (T_impl_Value.mk 0 0 (ByteArray.mk #[]))⟩, sc 0 x42] ?_
 refine pwp_any ([[2], [2], [0], [0], [], [], [], [], [], [2], [2]]) ([[], [], [], [0], [], [], [], [], [], [], [2]]) rfl (by kernel_rfl) ?_
 refine qvM [4, 5] [2] (hB trivial) 2 77 [(43, S x42.fS), (0, .ptr 0 0 0), (1, I a1), (4, .ptr 1 0 0), (5, .ptr 2 0 0), (6, I x40)] [sc 0 x41, some ⟨0, Enc.cells (T_impl_Value.mk 0 0 (ByteArray.mk #[]))⟩, sc 0 x42] ?_
 refine qvM [4, 5] [0] (hB trivial) 1 77 [(44, .ptr 0 0 0), (43, S x42.fS), (0, .ptr 0 0 0), (1, I a1), (4, .ptr 1 0 0), (5, .ptr 2 0 0), (6, I x40)] [sc 0 x41, some ⟨0, Enc.cells (T_impl_Value.mk 0 0 (ByteArray.mk #[]))⟩, sc 0 x42] ?_
 obtain ⟨v46, hv47, h⟩ := bindS h
 refine qX (some 45) (I v46.1) 77 [(45, I v46.1), (43, S x42.fS), (0, .ptr 0 0 0), (1, I a1), (4, .ptr 1 0 0), (5, .ptr 2 0 0), (6, I x40)] [sc 0 v46.2, some ⟨0, Enc.cells (T_impl_Value.mk 0 0 (ByteArray.mk #[]))⟩, sc 0 x42] (fun Γ' hΓ => callB_E τ 45 0 0 (ok_spec_l20Rd_pick hv47) (FzTo.frz rfl) rfl (by kernel_rfl)) (hB trivial) ?_
 refine qvM [4, 5] [] trivial 1 77 [(46, I (w64 (97 + v46.1))), (43, S x42.fS), (0, .ptr 0 0 0), (1, I a1), (4, .ptr 1 0 0), (5, .ptr 2 0 0), (6, I x40)] [sc 0 v46.2, some ⟨0, Enc.cells (T_impl_Value.mk 0 0 (ByteArray.mk #[]))⟩, sc 0 x42] ?_
 refine qX (some 47) (.lit (.int .u8 (u8 (w64 (97 + v46.1))).toNat)) 77 [(47, .lit (.int .u8 (u8 (w64 (97 + v46.1))).toNat)), (43, S x42.fS), (0, .ptr 0 0 0), (1, I a1), (4, .ptr 1 0 0), (5, .ptr 2 0 0), (6, I x40)] [sc 0 v46.2, some ⟨0, Enc.cells (T_impl_Value.mk 0 0 (ByteArray.mk #[]))⟩, sc 0 x42] (fun Γ' hΓ => CoreE.of_y (cv8V_sound (n := (w64 (97 + v46.1))) τ_ok (by kernel_rfl))) trivial ?_
 refine qvM [4, 5] [] trivial 1 77 [(48, .arr 1 ([(u8 (w64 (97 + v46.1)))] : List UInt8).length (eL ([(u8 (w64 (97 + v46.1)))] : List UInt8)) true), (43, S x42.fS), (0, .ptr 0 0 0), (1, I a1), (4, .ptr 1 0 0), (5, .ptr 2 0 0), (6, I x40)] [sc 0 v46.2, some ⟨0, Enc.cells (T_impl_Value.mk 0 0 (ByteArray.mk #[]))⟩, sc 0 x42] ?_
 refine qX (some 49) (S (ByteArray.mk (List.toArray ([(u8 (w64 (97 + v46.1)))] : List UInt8)))) 77 [(49, S (ByteArray.mk (List.toArray ([(u8 (w64 (97 + v46.1)))] : List UInt8)))), (43, S x42.fS), (0, .ptr 0 0 0), (1, I a1), (4, .ptr 1 0 0), (5, .ptr 2 0 0), (6, I x40)] [sc 0 v46.2, some ⟨0, Enc.cells (T_impl_Value.mk 0 0 (ByteArray.mk #[]))⟩, sc 0 x42] (fun Γ' hΓ => CoreE.of_y (cvsV_sound (l := ([(u8 (w64 (97 + v46.1)))] : List UInt8)) τ_ok (by kernel_rfl))) trivial ?_
 obtain ⟨v48, hv49, h⟩ := bindS h
 refine qX (some 50) (S v48) 77 [(50, S v48), (0, .ptr 0 0 0), (1, I a1), (4, .ptr 1 0 0), (5, .ptr 2 0 0), (6, I x40)] [sc 0 v46.2, some ⟨0, Enc.cells (T_impl_Value.mk 0 0 (ByteArray.mk #[]))⟩, sc 0 x42] (fun Γ' hΓ => CoreE.of_y (adsV_sound τ_ok (by kernel_rfl) hv49)) trivial ?_
 refine qvM [4, 5] [2] (hB trivial) 1 77 [(51, .ptr 2 0 2), (50, S v48), (0, .ptr 0 0 0), (1, I a1), (4, .ptr 1 0 0), (5, .ptr 2 0 0), (6, I x40)] [sc 0 v46.2, some ⟨0, Enc.cells (T_impl_Value.mk 0 0 (ByteArray.mk #[]))⟩, sc 0 x42] ?_
 refine qX (Hm' := [none, none, some ⟨0, Enc.cells ({ x42 with fS := v48 })⟩]) none (.any) 77 [(0, .ptr 0 0 0), (1, I a1), (4, .ptr 1 0 0), (5, .ptr 2 0 0), (6, I x40)] [sc 0 v46.2, some ⟨0, Enc.cells (T_impl_Value.mk 0 0 (ByteArray.mk #[]))⟩, some ⟨0, Enc.cells ({ x42 with fS := v48 })⟩] (fun Γ' hΓ => sto_E τ_ok 2 0 (by kernel_rfl)) (hB trivial) ?_
 refine qn 77 [(0, .ptr 0 0 0), (1, I a1), (4, .ptr 1 0 0), (5, .ptr 2 0 0), (6, I x40)] [sc 0 v46.2, some ⟨0, Enc.cells (T_impl_Value.mk 0 0 (ByteArray.mk #[]))⟩, some ⟨0, Enc.cells ({ x42 with fS := v48 })⟩] ?_
 refine rveM [4, 5] 77 [(0, .ptr 0 0 0), (1, I a1), (4, .ptr 1 0 0), (5, .ptr 2 0 0), (6, I (w64 (x40 - 1)))] [sc 0 v46.2, some ⟨0, Enc.cells (T_impl_Value.mk 0 0 (ByteArray.mk #[]))⟩, some ⟨0, Enc.cells ({ x42 with fS := v48 })⟩] ?_
 exact ⟨(f43, (w64 (x40 - 1)), v46.2, { x42 with fS := v48 }), h, Nat.lt_succ_self _, it [0, 1, 4, 5, 6]⟩
 refine pwp_exit ?_
 exact ⟨(x41, x42), h, it [0, 1, 4, 5]⟩
 refine rvM [4, 5] 1 77 [(0, .ptr 0 0 0), (1, I a1), (4, .ptr 1 0 0), (5, .ptr 2 0 0), (10, .ptr 0 0 0)] [sc 0 v19.2, some ⟨0, Enc.cells (T_impl_Value.mk 0 0 (ByteArray.mk #[]))⟩, some ⟨0, Enc.cells (T_impl_Value.mk 0 0 (ByteArray.mk #[]))⟩] ?_
 obtain ⟨v50, hv51, h⟩ := bindS h
 refine cB 11 0 0 (ok_spec_l20Rd_pick hv51) ?_
 refine veM [4, 5] 2 77 [(0, .ptr 0 0 0), (1, I a1), (4, .ptr 1 0 0), (5, .ptr 2 0 0)] [sc 0 v50.2, some ⟨0, Enc.cells (T_impl_Value.mk 0 0 (ByteArray.mk #[]))⟩, some ⟨0, Enc.cells (T_impl_Value.mk 3 v50.1 (ByteArray.mk #[]))⟩] ?_
 exact ⟨(v50.2, (T_impl_Value.mk 3 v50.1 (ByteArray.mk #[]))), h, it [0, 1, 4, 5]⟩
 rintro ⟨x1, x2⟩ h
 dsimp only at h ⊢
 unfold spec_l20Value_j0 at h
 refine pwp_seq ?_
 refine pwp_join (σ := T_spec_l20Rd × T_impl_Value) (fun (x3, x4) => (⟨77, [(4, .ptr 1 0 0), (5, .ptr 2 0 0)], [sc 0 x3, some ⟨0, Enc.cells (T_impl_Value.mk 0 0 (ByteArray.mk #[]))⟩, sc 0 x4]⟩ : St)) (fun (x3, x4) => spec_l20Value_j1 x3 x4 = some y) ?_ ?_
 refine srvM [4, 5] 2 77 [(0, .ptr 0 0 0), (4, .ptr 1 0 0), (5, .ptr 2 0 0), (52, .ptr 0 0 0), (53, I a1)] [sc 0 x1, some ⟨0, Enc.cells (T_impl_Value.mk 0 0 (ByteArray.mk #[]))⟩, sc 0 x2] ?_
 obtain ⟨v5, hv6, h⟩ := bindS h
 refine cB 54 0 0 (ok_spec_l20Rd_odd hv6) ?_
 refine veM [4, 5] 0 77 [(0, .ptr 0 0 0), (4, .ptr 1 0 0), (5, .ptr 2 0 0), (54, B v5.1)] [sc 0 v5.2, some ⟨0, Enc.cells (T_impl_Value.mk 0 0 (ByteArray.mk #[]))⟩, sc 0 x2] ?_
 refine pc h (fun h => ?_) (fun h => ?_)
 refine srvM [4, 5] 1 77 [(0, .ptr 0 0 0), (4, .ptr 1 0 0), (5, .ptr 2 0 0), (55, .ptr 0 0 0)] [sc 0 v5.2, some ⟨0, Enc.cells (T_impl_Value.mk 0 0 (ByteArray.mk #[]))⟩, sc 0 x2] ?_
 obtain ⟨v8, hv9, h⟩ := bindS h
 refine cB 56 0 0 (ok_spec_l20Rd_pick hv9) ?_
 refine veM [4, 5] 0 77 [(0, .ptr 0 0 0), (4, .ptr 1 0 0), (5, .ptr 2 0 0), (56, I v8.1)] [sc 0 v8.2, some ⟨0, Enc.cells (T_impl_Value.mk 0 0 (ByteArray.mk #[]))⟩, sc 0 x2] ?_
 refine pwp_block ?_
 refine srveM [4, 5] 77 [(0, .ptr 0 0 0), (4, .ptr 1 0 0), (5, .ptr 2 0 0), (56, I v8.1), (61, B (v8.1 == 0))] [sc 0 v8.2, some ⟨0, Enc.cells (T_impl_Value.mk 0 0 (ByteArray.mk #[]))⟩, sc 0 x2] ?_
 refine pc h (fun h => ?_) (fun h => ?_)
 refine rveM [4, 5] 77 [(4, .ptr 1 0 0), (5, .ptr 2 0 0)] [sc 0 v8.2, some ⟨0, Enc.cells (T_impl_Value.mk 0 0 (ByteArray.mk #[]))⟩, some ⟨0, Enc.cells ({ x2 with fN := 10000 })⟩] ?_
 exact ⟨(v8.2, { x2 with fN := 10000 }), h, it [4, 5]⟩
 refine srveM [4, 5] 77 [(0, .ptr 0 0 0), (4, .ptr 1 0 0), (5, .ptr 2 0 0), (56, I v8.1), (64, B (v8.1 == 1))] [sc 0 v8.2, some ⟨0, Enc.cells (T_impl_Value.mk 0 0 (ByteArray.mk #[]))⟩, sc 0 x2] ?_
 refine pc h (fun h => ?_) (fun h => ?_)
 refine rvM [4, 5] 2 77 [(4, .ptr 1 0 0), (5, .ptr 2 0 0), (67, S x2.fS)] [sc 0 v8.2, some ⟨0, Enc.cells (T_impl_Value.mk 0 0 (ByteArray.mk #[]))⟩, sc 0 x2] ?_
 obtain ⟨v12, hv13, h⟩ := bindS h
 refine opsP_ads τ_ok 68 hv13 (by kernel_rfl) ?_
 refine veM [4, 5] 2 77 [(4, .ptr 1 0 0), (5, .ptr 2 0 0)] [sc 0 v8.2, some ⟨0, Enc.cells (T_impl_Value.mk 0 0 (ByteArray.mk #[]))⟩, some ⟨0, Enc.cells ({ x2 with fS := v12 })⟩] ?_
 exact ⟨(v8.2, { x2 with fS := v12 }), h, it [4, 5]⟩
 refine srveM [4, 5] 77 [(0, .ptr 0 0 0), (4, .ptr 1 0 0), (5, .ptr 2 0 0), (70, B (v8.1 == 2))] [sc 0 v8.2, some ⟨0, Enc.cells (T_impl_Value.mk 0 0 (ByteArray.mk #[]))⟩, sc 0 x2] ?_
 refine pc h (fun h => ?_) (fun h => ?_)
 refine rvM [4, 5] 1 77 [(4, .ptr 1 0 0), (5, .ptr 2 0 0), (72, .ptr 0 0 0)] [sc 0 v8.2, some ⟨0, Enc.cells (T_impl_Value.mk 0 0 (ByteArray.mk #[]))⟩, sc 0 x2] ?_
 obtain ⟨v15, hv16, h⟩ := bindS h
 refine cB 73 0 0 (ok_spec_l20Rd_pick hv16) ?_
 refine veM [4, 5] 3 77 [(4, .ptr 1 0 0), (5, .ptr 2 0 0)] [sc 0 v15.2, some ⟨0, Enc.cells (T_impl_Value.mk 0 0 (ByteArray.mk #[]))⟩, some ⟨0, Enc.cells ({ x2 with fKind := (w64 (v15.1 - 1)) })⟩] ?_
 exact ⟨(v15.2, { x2 with fKind := (w64 (v15.1 - 1)) }), h, it [4, 5]⟩
 refine rvM [4, 5] 2 77 [(4, .ptr 1 0 0), (5, .ptr 2 0 0), (58, S x2.fS)] [sc 0 v8.2, some ⟨0, Enc.cells (T_impl_Value.mk 0 0 (ByteArray.mk #[]))⟩, sc 0 x2] ?_
 obtain ⟨v17, hv18, h⟩ := bindS h
 refine opsP_ads τ_ok 59 hv18 (by kernel_rfl) ?_
 refine veM [4, 5] 2 77 [(4, .ptr 1 0 0), (5, .ptr 2 0 0)] [sc 0 v8.2, some ⟨0, Enc.cells (T_impl_Value.mk 0 0 (ByteArray.mk #[]))⟩, some ⟨0, Enc.cells ({ x2 with fS := v17 })⟩] ?_
 exact ⟨(v8.2, { x2 with fS := v17 }), h, it [4, 5]⟩
 refine pwp_skip ?_
 exact ⟨(v5.2, x2), h, it [4, 5]⟩
 rintro ⟨x3, x4⟩ h
 dsimp only at h ⊢
 unfold spec_l20Value_j1 at h
 refine srveM [4, 5] 77 [(4, .ptr 1 0 0)] [sc 0 x3, sc 0 x4, sc 0 x4] ?_
 have h := si h
 subst h
 exact pwp_ret ⟨.inr rfl, E x4, _, 0, by kernel_rfl, (OutP.frz (by kernel_rfl)), by decide, by decide, by kernel_rfl⟩
def impl_between (a0 : Int) (a1 : Int) (a2 : Int) : Option Bool := bif (decide (a0 ≥ a1)) then some (decide (a0 ≤ a2)) else some false
theorem ok_impl_between {a0 : Int} {a1 : Int} {a2 : Int} {y : Bool} (h : impl_between a0 a1 a2 = some y) : OK Try.prog 62 [I a0, I a1, I a2] (B y) := by
 refine ow Try.func62 fun Γ hX => ?_
 unfold impl_between at h
 refine srve 15 [(0, I a0), (1, I a1), (2, I a2)] [] ?_
 refine srv 4 15 [(0, I a0), (2, I a2), (10, B (decide (a0 ≥ a1)))] [] ?_
 rcases fk (decide (a0 ≥ a1)) with hc1 | hc1
 replace h := bT hc1 h
 rw [hc1]
 refine ve 5 15 [(6, B (decide (a0 ≤ a2)))] [] ?_
 cases h
 exact pwp_ret rz
 replace h := bF hc1 h
 rw [hc1]
 refine ve 5 15 [(6, B false)] [] ?_
 cases h
 exact pwp_ret rz
def impl_Part_kind_1_1 (a0 : Int) (b0 : Int) : Option Bool := some (!(a0 == b0))
theorem ok_impl_Part_kind_1_1 {a0 : Int} {b0 : Int} {y : Bool} (h : impl_Part_kind_1_1 a0 b0 = some y) : OK Try.prog 65 [I a0, pf b0 0] (B y) := by
 refine ow Try.func65 fun Γ hX => ?_
 unfold impl_Part_kind_1_1 at h
 refine srve 7 [(0, I a0), (1, pf b0 0)] [] ?_
 refine srve 7 [(3, B (!(a0 == b0)))] [] ?_
 cases h
 exact pwp_ret rz
def slices_Clip_int_int (a0 : List Int) : Option (List Int) := (slI a0 none (some (a0.length : Int)) (some (a0.length : Int))).bind fun v1 => some v1
theorem ok_slices_Clip_int_int {a0 : List Int} {y : List Int} (h : slices_Clip_int_int a0 = some y) : OK Try.prog 68 [A a0] (A y) := by
 refine ow Try.func68 fun Γ hX => ?_
 unfold slices_Clip_int_int at h
 refine srve 9 [(0, A a0)] [] ?_
 refine srv 5 9 [(3, A a0), (5, I (a0.length : Int)), (7, I (a0.length : Int))] [] ?_
 obtain ⟨v1, hv2, h⟩ := bindS h
 refine opsP_slc τ_ok 8 hv2 (by kernel_rfl) ?_
 refine ve 1 9 [(2, A v1)] [] ?_
 cases h
 exact pwp_ret rz
def spec_l1In (a0 : Int) (a1 : Int) (a2 : Int) : Option Bool := bif (decide (a0 ≥ a1)) then some (decide (a0 ≤ a2)) else some false
theorem ok_spec_l1In {a0 : Int} {a1 : Int} {a2 : Int} {y : Bool} (h : spec_l1In a0 a1 a2 = some y) : OK Try.prog 69 [I a0, I a1, I a2] (B y) := by
 refine ow Try.func69 fun Γ hX => ?_
 unfold spec_l1In at h
 refine srve 15 [(0, I a0), (1, I a1), (2, I a2)] [] ?_
 refine srv 4 15 [(0, I a0), (2, I a2), (10, B (decide (a0 ≥ a1)))] [] ?_
 rcases fk (decide (a0 ≥ a1)) with hc1 | hc1
 replace h := bT hc1 h
 rw [hc1]
 refine ve 5 15 [(6, B (decide (a0 ≤ a2)))] [] ?_
 cases h
 exact pwp_ret rz
 replace h := bF hc1 h
 rw [hc1]
 refine ve 5 15 [(6, B false)] [] ?_
 cases h
 exact pwp_ret rz
def impl_ValueOf (a0 : Int) : Option T_impl_Value := (impl_between a0 0 1).bind fun v1 => bif (!v1) then some (T_impl_Value.mk 0 0 (ByteArray.mk #[])) else some (T_impl_Value.mk 3 a0 (ByteArray.mk #[]))
theorem ok_impl_ValueOf {a0 : Int} {y : T_impl_Value} (h : impl_ValueOf a0 = some y) : OK Try.prog 73 [I a0] (E y) := by
 refine ow Try.func73 fun Γ hX => ?_
 unfold impl_ValueOf at h
 refine srveM [2] 9 [(0, I a0), (2, .ptr 0 0 0)] [some ⟨0, Enc.cells (T_impl_Value.mk 0 0 (ByteArray.mk #[]))⟩] ?_
 refine pwp_seq ?_
 refine srvM [2] 1 9 [(0, I a0), (2, .ptr 0 0 0), (3, I a0)] [some ⟨0, Enc.cells (T_impl_Value.mk 0 0 (ByteArray.mk #[]))⟩] ?_
 obtain ⟨v1, hv2, h⟩ := bindS h
 refine cF 4 (ok_impl_between hv2) ?_
 refine veM [2] 1 9 [(0, I a0), (2, .ptr 0 0 0), (5, B (!v1))] [some ⟨0, Enc.cells (T_impl_Value.mk 0 0 (ByteArray.mk #[]))⟩] ?_
 refine pc h (fun h => ?_) (fun h => ?_)
 refine srveM [2] 9 [(2, .ptr 0 0 0)] [some ⟨0, Enc.cells (T_impl_Value.mk 0 0 (ByteArray.mk #[]))⟩] ?_
 cases h
 exact pwp_ret rz
 refine pwp_skip ?_
 refine srveM [2] 9 [(2, .ptr 0 0 0)] [some ⟨0, Enc.cells (T_impl_Value.mk 3 a0 (ByteArray.mk #[]))⟩] ?_
 cases h
 exact pwp_ret rz
def impl_NotOf (a0 : Int) : Option Int := bif (a0 == 0) then some 1 else bif (a0 == 1) then some 0 else bif (a0 == 2) then some 2 else some (-1)
theorem ok_impl_NotOf {a0 : Int} {y : Int} (h : impl_NotOf a0 = some y) : OK Try.prog 78 [I a0] (I y) := by
 refine ow Try.func78 fun Γ hX => ?_
 unfold impl_NotOf at h
 refine srve 10 [(0, I a0)] [] ?_
 refine pwp_seq ?_
 refine srve 10 [(3, I a0)] [] ?_
 refine pwp_block ?_
 refine srve 10 [(3, I a0), (4, B (a0 == 0))] [] ?_
 refine pc h (fun h => ?_) (fun h => ?_)
 refine srve 10 [(2, I 1)] [] ?_
 cases h
 exact pwp_ret rz
 refine srve 10 [(3, I a0), (6, B (a0 == 1))] [] ?_
 refine pc h (fun h => ?_) (fun h => ?_)
 refine srve 10 [(2, I 0)] [] ?_
 cases h
 exact pwp_ret rz
 refine srve 10 [(8, B (a0 == 2))] [] ?_
 refine pc h (fun h => ?_) (fun h => ?_)
 refine srve 10 [(2, I 2)] [] ?_
 cases h
 exact pwp_ret rz
 refine pwp_skip ?_
 refine srve 10 [(2, I (-1))] [] ?_
 cases h
 exact pwp_ret rz
def impl_truthIf (a0 : Bool) : Option Int := bif a0 then some 1 else some 0
theorem ok_impl_truthIf {a0 : Bool} {y : Int} (h : impl_truthIf a0 = some y) : OK Try.prog 79 [B a0] (I y) := by
 refine ow Try.func79 fun Γ hX => ?_
 unfold impl_truthIf at h
 refine srve 4 [(0, B a0)] [] ?_
 refine pwp_seq ?_
 refine srve 4 [(3, B a0)] [] ?_
 refine pc h (fun h => ?_) (fun h => ?_)
 refine srve 4 [(2, I 1)] [] ?_
 cases h
 exact pwp_ret rz
 refine pwp_skip ?_
 refine srve 4 [(2, I 0)] [] ?_
 cases h
 exact pwp_ret rz
def impl_letters_l0 (v1 : List UInt8) : Nat → Int → Option Bool
 | 0, _ => none
 | f4 + 1, x3 => bif (decide (x3 < (v1.length : Int))) then (getI v1 x3).bind fun v7 => (impl_between (w64 (v7.toNat : Int)) 97 122).bind fun v9 => bif (!v9) then some false else (impl_letters_l0 v1 f4) (w64 (x3 + 1)) else some true
def impl_letters (a0 : ByteArray) : Option Bool := (bytesOf a0).bind fun v1 => impl_letters_l0 v1 FUEL 0
theorem ok_impl_letters {a0 : ByteArray} {y : Bool} (h : impl_letters a0 = some y) : OK Try.prog 80 [S a0] (B y) := by
 refine ow Try.func80 fun Γ hX => ?_
 unfold impl_letters at h
 refine srve 17 [(0, S a0)] [] ?_
 refine pwp_seq ?_
 refine srv 1 17 [(5, S a0)] [] ?_
 obtain ⟨v1, hv2, h⟩ := bindS h
 refine opsP_cvb τ_ok 6 hv2 (by kernel_rfl) ?_
 refine ve 2 17 [(6, A v1), (7, I (v1.length : Int)), (8, I 0)] [] ?_
 refine pwp_block ?_
 refine pwp_loop (ι := Nat × Int) (fun (f4, x3) => (⟨17, [(6, A v1), (7, I (v1.length : Int)), (8, I x3)], []⟩ : St)) (fun (f4, x3) => impl_letters_l0 v1 f4 x3 = some y) Prod.fst (FUEL, 0) h (it [6, 7, 8]) ?_
 rintro ⟨f4, x3⟩ h
 dsimp only at h ⊢
 rcases f4 with _ | f4
 cases h
 rw [impl_letters_l0] at h
 refine srve 17 [(6, A v1), (7, I (v1.length : Int)), (8, I x3), (9, B (decide (x3 < (v1.length : Int))))] [] ?_
 refine pwp_seq ?_
 refine pc h (fun h => ?_) (fun h => ?_)
 refine pwp_skip ?_
 refine pwp_seq ?_
 refine pwp_block ?_
 refine pwp_seq ?_
 refine pwp_region ?_
 obtain ⟨v7, hv8, h⟩ := bindS h
 refine opsP_idx τ_ok 10 hv8 (by kernel_rfl) ?_
 refine ve 2 17 [(4, .lit (.int .u8 (v7).toNat)), (6, A v1), (7, I (v1.length : Int)), (8, I x3)] [] ?_
 refine srv 2 17 [(6, A v1), (7, I (v1.length : Int)), (8, I x3), (13, I (w64 (v7.toNat : Int)))] [] ?_
 obtain ⟨v9, hv10, h⟩ := bindS h
 refine cF 14 (ok_impl_between hv10) ?_
 refine ve 1 17 [(6, A v1), (7, I (v1.length : Int)), (8, I x3), (15, B (!v9))] [] ?_
 refine pc h (fun h => ?_) (fun h => ?_)
 refine srve 17 [(2, B false)] [] ?_
 cases h
 exact pwp_ret rz
 refine pwp_skip ?_
 refine rve 17 [(6, A v1), (7, I (v1.length : Int)), (8, I (w64 (x3 + 1)))] [] ?_
 exact ⟨(f4, (w64 (x3 + 1))), h, Nat.lt_succ_self _, it [6, 7, 8]⟩
 refine pwp_exit ?_
 refine srve 17 [(2, B true)] [] ?_
 cases h
 exact pwp_ret rz
def spec_l20Leaf_j2 (x3 : Int) (K6 : Int → T_spec_l20Rd → Option (T_impl_Part × T_spec_l20Rd)) (v9 : Int × T_spec_l20Rd) (x11 : Bool) (x12 : T_spec_l20Rd) : Option (T_impl_Part × T_spec_l20Rd) := bif x11 then some ((T_impl_Part.mk 2 v9.1 (T_impl_Value.mk 0 0 (ByteArray.mk #[]))), x12) else K6 (w64 (x3 + 1)) x12
def spec_l20Leaf_j1 (a1 : List T_impl_Column) (a2 : Int) (x3 : Int) (x4 : T_spec_l20Rd) (K6 : Int → T_spec_l20Rd → Option (T_impl_Part × T_spec_l20Rd)) (x7 : Bool) : Option (T_impl_Part × T_spec_l20Rd) := bif x7 then (spec_l20Rd_pick x4 (a1.length : Int)).bind fun v9 => (getI a1 v9.1).bind fun v14 => bif (v14.fKind == a2) then (spec_l20Rd_pick v9.2 3).bind fun v16 => spec_l20Leaf_j2 x3 K6 v9 (decide (v16.1 > 0)) v16.2 else spec_l20Leaf_j2 x3 K6 v9 false v9.2 else (spec_l20Like x4 (T_impl_Column.mk a2 false)).bind fun v19 => some ((T_impl_Part.mk 1 0 v19.1), v19.2)
def spec_l20Leaf_l0 (a1 : List T_impl_Column) (a2 : Int) : Nat → Int → T_spec_l20Rd → Option (T_impl_Part × T_spec_l20Rd)
 | 0, _, _ => none
 | f5 + 1, x3, x4 => bif (decide (x3 < 4)) then spec_l20Leaf_j1 a1 a2 x3 x4 (spec_l20Leaf_l0 a1 a2 f5) (decide ((a1.length : Int) > 0)) else spec_l20Leaf_j1 a1 a2 x3 x4 (spec_l20Leaf_l0 a1 a2 f5) false
def spec_l20Leaf (a0 : T_spec_l20Rd) (a1 : List T_impl_Column) (a2 : Int) : Option (T_impl_Part × T_spec_l20Rd) := spec_l20Leaf_l0 a1 a2 FUEL 0 a0
theorem ok_spec_l20Leaf {a0 : T_spec_l20Rd} {a1 : List T_impl_Column} {a2 : Int} {y : T_impl_Part × T_spec_l20Rd} (h : spec_l20Leaf a0 a1 a2 = some y) : OKb Try.prog 81 (Enc.cells a0) [A a1, I a2] (E y.1) (Enc.cells y.2) := by
 refine OKb_of_pwp τ_ok Try.func81 rfl (by kernel_rfl) rfl (Enc.frz _) (Enc.frz _) fun Γ hQ => ?_
 unfold spec_l20Leaf at h
 refine srveM [6] 41 [(0, .ptr 0 0 0), (1, A a1), (2, I a2), (6, .ptr 1 0 0)] [sc 0 a0, some ⟨0, Enc.cells (T_impl_Part.mk 0 0 (T_impl_Value.mk 0 0 (ByteArray.mk #[])))⟩] ?_
 refine pwp_seq ?_
 refine srveM [6] 41 [(0, .ptr 0 0 0), (1, A a1), (2, I a2), (6, .ptr 1 0 0), (7, I 0)] [sc 0 a0, some ⟨0, Enc.cells (T_impl_Part.mk 0 0 (T_impl_Value.mk 0 0 (ByteArray.mk #[])))⟩] ?_
 refine pwp_block ?_
 refine pwp_loop (ι := Nat × Int × T_spec_l20Rd) (fun (f5, x3, x4) => (⟨41, [(0, .ptr 0 0 0), (1, A a1), (2, I a2), (6, .ptr 1 0 0), (7, I x3)], [sc 0 x4, some ⟨0, Enc.cells (T_impl_Part.mk 0 0 (T_impl_Value.mk 0 0 (ByteArray.mk #[])))⟩]⟩ : St)) (fun (f5, x3, x4) => spec_l20Leaf_l0 a1 a2 f5 x3 x4 = some y) Prod.fst (FUEL, 0, a0) h (it [0, 1, 2, 6, 7]) ?_
 rintro ⟨f5, x3, x4⟩ h
 dsimp only at h ⊢
 rcases f5 with _ | f5
 cases h
 rw [spec_l20Leaf_l0] at h
 refine pwp_seq ?_
 refine pwp_seq ?_
 refine pwp_join (σ := Bool) (fun x7 => (⟨41, [(0, .ptr 0 0 0), (1, A a1), (2, I a2), (6, .ptr 1 0 0), (7, I x3), (15, B x7)], [sc 0 x4, some ⟨0, Enc.cells (T_impl_Part.mk 0 0 (T_impl_Value.mk 0 0 (ByteArray.mk #[])))⟩]⟩ : St)) (fun x7 => spec_l20Leaf_j1 a1 a2 x3 x4 (spec_l20Leaf_l0 a1 a2 f5) x7 = some y) ?_ ?_
 refine rvM [6] 3 41 [(0, .ptr 0 0 0), (1, A a1), (2, I a2), (6, .ptr 1 0 0), (7, I x3), (11, B (decide (x3 < 4)))] [sc 0 x4, some ⟨0, Enc.cells (T_impl_Part.mk 0 0 (T_impl_Value.mk 0 0 (ByteArray.mk #[])))⟩] ?_
 rcases fk (decide (x3 < 4)) with hc21 | hc21
 replace h := bT hc21 h
 rw [hc21]
 refine veM [6] 4 41 [(0, .ptr 0 0 0), (1, A a1), (2, I a2), (6, .ptr 1 0 0), (7, I x3), (12, A a1), (13, I (a1.length : Int)), (14, B (decide ((a1.length : Int) > 0))), (15, B (decide ((a1.length : Int) > 0)))] [sc 0 x4, some ⟨0, Enc.cells (T_impl_Part.mk 0 0 (T_impl_Value.mk 0 0 (ByteArray.mk #[])))⟩] ?_
 exact ⟨(decide ((a1.length : Int) > 0)), h, it [0, 1, 2, 6, 7, 15]⟩
 replace h := bF hc21 h
 rw [hc21]
 refine veM [6] 4 41 [(0, .ptr 0 0 0), (1, A a1), (2, I a2), (6, .ptr 1 0 0), (7, I x3), (12, .lit undef), (13, .lit undef), (14, .lit undef), (15, B false)] [sc 0 x4, some ⟨0, Enc.cells (T_impl_Part.mk 0 0 (T_impl_Value.mk 0 0 (ByteArray.mk #[])))⟩] ?_
 exact ⟨false, h, it [0, 1, 2, 6, 7, 15]⟩
 rintro x7 h
 unfold spec_l20Leaf_j1 at h
 refine pc h (fun h => ?_) (fun h => ?_)
 refine pwp_skip ?_
 refine pwp_seq ?_
 refine pwp_block ?_
 refine srvM [6] 3 41 [(0, .ptr 0 0 0), (1, A a1), (2, I a2), (6, .ptr 1 0 0), (7, I x3), (18, .ptr 0 0 0), (20, I (a1.length : Int))] [sc 0 x4, some ⟨0, Enc.cells (T_impl_Part.mk 0 0 (T_impl_Value.mk 0 0 (ByteArray.mk #[])))⟩] ?_
 obtain ⟨v9, hv10, h⟩ := bindS h
 refine cB 21 0 0 (ok_spec_l20Rd_pick hv10) ?_
 refine veM [6] 1 41 [(0, .ptr 0 0 0), (1, A a1), (2, I a2), (6, .ptr 1 0 0), (7, I x3), (8, I v9.1)] [sc 0 v9.2, some ⟨0, Enc.cells (T_impl_Part.mk 0 0 (T_impl_Value.mk 0 0 (ByteArray.mk #[])))⟩] ?_
 refine pwp_seq ?_
 refine pwp_join (σ := Bool × T_spec_l20Rd) (fun (x11, x12) => (⟨41, [(0, .ptr 0 0 0), (1, A a1), (2, I a2), (6, .ptr 1 0 0), (7, I x3), (8, I v9.1), (33, B x11)], [sc 0 x12, some ⟨0, Enc.cells (T_impl_Part.mk 0 0 (T_impl_Value.mk 0 0 (ByteArray.mk #[])))⟩]⟩ : St)) (fun (x11, x12) => spec_l20Leaf_j2 x3 (spec_l20Leaf_l0 a1 a2 f5) v9 x11 x12 = some y) ?_ ?_
 refine rvM [6] 2 41 [(0, .ptr 0 0 0), (1, A a1), (2, I a2), (6, .ptr 1 0 0), (7, I x3), (8, I v9.1), (22, A a1), (23, I v9.1)] [sc 0 v9.2, some ⟨0, Enc.cells (T_impl_Part.mk 0 0 (T_impl_Value.mk 0 0 (ByteArray.mk #[])))⟩] ?_
 obtain ⟨v14, hv15, h⟩ := bindS h
 refine opsP_idx τ_ok 24 hv15 (by kernel_rfl) ?_
 refine vM [6] 5 41 [(0, .ptr 0 0 0), (1, A a1), (2, I a2), (6, .ptr 1 0 0), (7, I x3), (8, I v9.1), (29, B (v14.fKind == a2))] [sc 0 v9.2, some ⟨0, Enc.cells (T_impl_Part.mk 0 0 (T_impl_Value.mk 0 0 (ByteArray.mk #[])))⟩] ?_
 rcases fk (v14.fKind == a2) with hc18 | hc18
 replace h := bT hc18 h
 rw [hc18]
 refine vM [6] 1 41 [(0, .ptr 0 0 0), (1, A a1), (2, I a2), (6, .ptr 1 0 0), (7, I x3), (8, I v9.1), (29, B true), (30, .ptr 0 0 0)] [sc 0 v9.2, some ⟨0, Enc.cells (T_impl_Part.mk 0 0 (T_impl_Value.mk 0 0 (ByteArray.mk #[])))⟩] ?_
 obtain ⟨v16, hv17, h⟩ := bindS h
 refine cB 31 0 0 (ok_spec_l20Rd_pick hv17) ?_
 refine veM [6] 2 41 [(0, .ptr 0 0 0), (1, A a1), (2, I a2), (6, .ptr 1 0 0), (7, I x3), (8, I v9.1), (30, .ptr 0 0 0), (31, I v16.1), (32, B (decide (v16.1 > 0))), (33, B (decide (v16.1 > 0)))] [sc 0 v16.2, some ⟨0, Enc.cells (T_impl_Part.mk 0 0 (T_impl_Value.mk 0 0 (ByteArray.mk #[])))⟩] ?_
 exact ⟨((decide (v16.1 > 0)), v16.2), h, it [0, 1, 2, 6, 7, 8, 33]⟩
 replace h := bF hc18 h
 rw [hc18]
 refine veM [6] 4 41 [(0, .ptr 0 0 0), (1, A a1), (2, I a2), (6, .ptr 1 0 0), (7, I x3), (8, I v9.1), (30, .lit undef), (31, .lit undef), (32, .lit undef), (33, B false)] [sc 0 v9.2, some ⟨0, Enc.cells (T_impl_Part.mk 0 0 (T_impl_Value.mk 0 0 (ByteArray.mk #[])))⟩] ?_
 exact ⟨(false, v9.2), h, it [0, 1, 2, 6, 7, 8, 33]⟩
 rintro ⟨x11, x12⟩ h
 dsimp only at h ⊢
 unfold spec_l20Leaf_j2 at h
 refine pc h (fun h => ?_) (fun h => ?_)
 refine srveM [6] 41 [(6, .ptr 1 0 0)] [sc 0 x12, some ⟨0, Enc.cells (T_impl_Part.mk 2 v9.1 (T_impl_Value.mk 0 0 (ByteArray.mk #[])))⟩] ?_
 have h := si h
 subst h
 exact pwp_ret ⟨.inr rfl, E (T_impl_Part.mk 2 v9.1 (T_impl_Value.mk 0 0 (ByteArray.mk #[]))), _, 0, by kernel_rfl, (OutP.frz (by kernel_rfl)), by decide, by decide, by kernel_rfl⟩
 refine pwp_skip ?_
 refine rveM [6] 41 [(0, .ptr 0 0 0), (1, A a1), (2, I a2), (6, .ptr 1 0 0), (7, I (w64 (x3 + 1)))] [sc 0 x12, some ⟨0, Enc.cells (T_impl_Part.mk 0 0 (T_impl_Value.mk 0 0 (ByteArray.mk #[])))⟩] ?_
 exact ⟨(f5, (w64 (x3 + 1)), x12), h, Nat.lt_succ_self _, it [0, 1, 2, 6, 7]⟩
 refine pwp_exit ?_
 refine srvM [6] 3 41 [(6, .ptr 1 0 0), (36, .ptr 0 0 0), (38, E (T_impl_Column.mk a2 false))] [sc 0 x4, some ⟨0, Enc.cells (T_impl_Part.mk 0 0 (T_impl_Value.mk 0 0 (ByteArray.mk #[])))⟩] ?_
 obtain ⟨v19, hv20, h⟩ := bindS h
 refine cB 39 0 0 (ok_spec_l20Like hv20) ?_
 refine veM [6] 2 41 [(6, .ptr 1 0 0)] [sc 0 v19.2, some ⟨0, Enc.cells (T_impl_Part.mk 1 0 v19.1)⟩] ?_
 have h := si h
 subst h
 exact pwp_ret ⟨.inr rfl, E (T_impl_Part.mk 1 0 v19.1), _, 0, by kernel_rfl, (OutP.frz (by kernel_rfl)), by decide, by decide, by kernel_rfl⟩
def slices_IndexFunc_impl_Column_impl_Column_l0 (a0 : List T_impl_Column) (a1 : T_impl_Column → Option Bool) : Nat → Int → Option Int
 | 0, _ => none
 | f2 + 1, x1 => bif (decide (x1 < (a0.length : Int))) then (getI a0 x1).bind fun v5 => (a1 v5).bind fun v7 => bif v7 then some x1 else (slices_IndexFunc_impl_Column_impl_Column_l0 a0 a1 f2) (w64 (x1 + 1)) else some (-1)
def slices_IndexFunc_impl_Column_impl_Column (a0 : List T_impl_Column) (a1 : T_impl_Column → Option Bool) : Option Int := slices_IndexFunc_impl_Column_impl_Column_l0 a0 a1 FUEL 0
theorem ok_slices_IndexFunc_impl_Column_impl_Column {a0 : List T_impl_Column} {g1 : FuncId} {c1 : List V} (hz1 : frzL c1 = true) {a1 : T_impl_Column → Option Bool} (hp1 : ∀ x0 y, a1 x0 = some y → OK Try.prog g1 ([E x0] ++ c1) (B y)) {y : Int} (h : slices_IndexFunc_impl_Column_impl_Column a0 a1 = some y) : OK Try.prog 82 [A a0, .fn g1 c1] (I y) := by
 refine ow Try.func82 fun Γ hX => ?_
 unfold slices_IndexFunc_impl_Column_impl_Column at h
 refine srve 19 [(0, A a0), (1, .fn g1 c1)] [] ?_
 refine pwp_seq ?_
 refine srve 19 [(0, A a0), (1, .fn g1 c1), (7, I (a0.length : Int)), (8, I 0)] [] ?_
 refine pwp_block ?_
 refine pwp_loop (ι := Nat × Int) (fun (f2, x1) => (⟨19, [(0, A a0), (1, .fn g1 c1), (7, I (a0.length : Int)), (8, I x1)], []⟩ : St)) (fun (f2, x1) => slices_IndexFunc_impl_Column_impl_Column_l0 a0 a1 f2 x1 = some y) Prod.fst (FUEL, 0) h (it [0, 1, 7, 8]) ?_
 rintro ⟨f2, x1⟩ h
 dsimp only at h ⊢
 rcases f2 with _ | f2
 cases h
 rw [slices_IndexFunc_impl_Column_impl_Column_l0] at h
 refine srve 19 [(0, A a0), (1, .fn g1 c1), (7, I (a0.length : Int)), (8, I x1), (9, B (decide (x1 < (a0.length : Int))))] [] ?_
 refine pwp_seq ?_
 refine pc h (fun h => ?_) (fun h => ?_)
 refine pwp_skip ?_
 refine pwp_seq ?_
 refine pwp_block ?_
 refine srve 19 [(0, A a0), (1, .fn g1 c1), (5, I x1), (7, I (a0.length : Int)), (8, I x1)] [] ?_
 refine srv 3 19 [(0, A a0), (1, .fn g1 c1), (5, I x1), (7, I (a0.length : Int)), (8, I x1), (11, .fn g1 c1), (12, A a0), (13, I x1)] [] ?_
 obtain ⟨v5, hv6, h⟩ := bindS h
 refine opsP_idx τ_ok 14 hv6 (by kernel_rfl) ?_
 refine v 1 19 [(0, A a0), (1, .fn g1 c1), (5, I x1), (7, I (a0.length : Int)), (8, I x1), (11, .fn g1 c1), (15, E v5)] [] ?_
 obtain ⟨v7, hv8, h⟩ := bindS h
 refine opsP_callF τ 16 (hp1 _ _ hv8) (FzTo.frz rfl) (frz_app (xs := [E v5]) rfl hz1) (by kernel_rfl) ?_
 refine ve 0 19 [(0, A a0), (1, .fn g1 c1), (5, I x1), (7, I (a0.length : Int)), (8, I x1), (16, B v7)] [] ?_
 refine pc h (fun h => ?_) (fun h => ?_)
 refine srve 19 [(4, I x1)] [] ?_
 cases h
 exact pwp_ret rz
 refine pwp_skip ?_
 refine rve 19 [(0, A a0), (1, .fn g1 c1), (7, I (a0.length : Int)), (8, I (w64 (x1 + 1)))] [] ?_
 exact ⟨(f2, (w64 (x1 + 1))), h, Nat.lt_succ_self _, it [0, 1, 7, 8]⟩
 refine pwp_exit ?_
 refine srve 19 [(4, I (-1))] [] ?_
 cases h
 exact pwp_ret rz
def slices_IndexFunc_int_int_l0 (a0 : List Int) (a1 : Int → Option Bool) : Nat → Int → Option Int
 | 0, _ => none
 | f2 + 1, x1 => bif (decide (x1 < (a0.length : Int))) then (getI a0 x1).bind fun v5 => (a1 v5).bind fun v7 => bif v7 then some x1 else (slices_IndexFunc_int_int_l0 a0 a1 f2) (w64 (x1 + 1)) else some (-1)
def slices_IndexFunc_int_int (a0 : List Int) (a1 : Int → Option Bool) : Option Int := slices_IndexFunc_int_int_l0 a0 a1 FUEL 0
theorem ok_slices_IndexFunc_int_int {a0 : List Int} {g1 : FuncId} {c1 : List V} (hz1 : frzL c1 = true) {a1 : Int → Option Bool} (hp1 : ∀ x0 y, a1 x0 = some y → OK Try.prog g1 ([I x0] ++ c1) (B y)) {y : Int} (h : slices_IndexFunc_int_int a0 a1 = some y) : OK Try.prog 83 [A a0, .fn g1 c1] (I y) := by
 refine ow Try.func83 fun Γ hX => ?_
 unfold slices_IndexFunc_int_int at h
 refine srve 19 [(0, A a0), (1, .fn g1 c1)] [] ?_
 refine pwp_seq ?_
 refine srve 19 [(0, A a0), (1, .fn g1 c1), (7, I (a0.length : Int)), (8, I 0)] [] ?_
 refine pwp_block ?_
 refine pwp_loop (ι := Nat × Int) (fun (f2, x1) => (⟨19, [(0, A a0), (1, .fn g1 c1), (7, I (a0.length : Int)), (8, I x1)], []⟩ : St)) (fun (f2, x1) => slices_IndexFunc_int_int_l0 a0 a1 f2 x1 = some y) Prod.fst (FUEL, 0) h (it [0, 1, 7, 8]) ?_
 rintro ⟨f2, x1⟩ h
 dsimp only at h ⊢
 rcases f2 with _ | f2
 cases h
 rw [slices_IndexFunc_int_int_l0] at h
 refine srve 19 [(0, A a0), (1, .fn g1 c1), (7, I (a0.length : Int)), (8, I x1), (9, B (decide (x1 < (a0.length : Int))))] [] ?_
 refine pwp_seq ?_
 refine pc h (fun h => ?_) (fun h => ?_)
 refine pwp_skip ?_
 refine pwp_seq ?_
 refine pwp_block ?_
 refine srve 19 [(0, A a0), (1, .fn g1 c1), (5, I x1), (7, I (a0.length : Int)), (8, I x1)] [] ?_
 refine srv 3 19 [(0, A a0), (1, .fn g1 c1), (5, I x1), (7, I (a0.length : Int)), (8, I x1), (11, .fn g1 c1), (12, A a0), (13, I x1)] [] ?_
 obtain ⟨v5, hv6, h⟩ := bindS h
 refine opsP_idx τ_ok 14 hv6 (by kernel_rfl) ?_
 refine v 1 19 [(0, A a0), (1, .fn g1 c1), (5, I x1), (7, I (a0.length : Int)), (8, I x1), (11, .fn g1 c1), (15, I v5)] [] ?_
 obtain ⟨v7, hv8, h⟩ := bindS h
 refine opsP_callF τ 16 (hp1 _ _ hv8) (FzTo.frz rfl) (frz_app (xs := [I v5]) rfl hz1) (by kernel_rfl) ?_
 refine ve 0 19 [(0, A a0), (1, .fn g1 c1), (5, I x1), (7, I (a0.length : Int)), (8, I x1), (16, B v7)] [] ?_
 refine pc h (fun h => ?_) (fun h => ?_)
 refine srve 19 [(4, I x1)] [] ?_
 cases h
 exact pwp_ret rz
 refine pwp_skip ?_
 refine rve 19 [(0, A a0), (1, .fn g1 c1), (7, I (a0.length : Int)), (8, I (w64 (x1 + 1)))] [] ?_
 exact ⟨(f2, (w64 (x1 + 1))), h, Nat.lt_succ_self _, it [0, 1, 7, 8]⟩
 refine pwp_exit ?_
 refine srve 19 [(4, I (-1))] [] ?_
 cases h
 exact pwp_ret rz
def spec_l1Text_j1 (x1 : Int) (K3 : Int → Option Bool) (x5 : Bool) : Option Bool := bif x5 then some false else K3 (w64 (x1 + 1))
def spec_l1Text_l0 (a0 : ByteArray) : Nat → Int → Option Bool
 | 0, _ => none
 | f2 + 1, x1 => bif (decide (x1 < (a0.size : Int))) then (getB a0 x1).bind fun v7 => bif (decide ((v7.toNat : Int) < 97)) then spec_l1Text_j1 x1 (spec_l1Text_l0 a0 f2) true else (getB a0 x1).bind fun v9 => spec_l1Text_j1 x1 (spec_l1Text_l0 a0 f2) (decide ((v9.toNat : Int) > 122)) else some (decide ((a0.size : Int) ≤ 6))
def spec_l1Text (a0 : ByteArray) : Option Bool := spec_l1Text_l0 a0 FUEL 0
theorem ok_spec_l1Text {a0 : ByteArray} {y : Bool} (h : spec_l1Text a0 = some y) : OK Try.prog 95 [S a0] (B y) := by
 refine ow Try.func95 fun Γ hX => ?_
 unfold spec_l1Text at h
 refine srve 23 [(0, S a0)] [] ?_
 refine pwp_seq ?_
 refine srve 23 [(0, S a0), (3, I 0)] [] ?_
 refine pwp_block ?_
 refine pwp_loop (ι := Nat × Int) (fun (f2, x1) => (⟨23, [(0, S a0), (3, I x1)], []⟩ : St)) (fun (f2, x1) => spec_l1Text_l0 a0 f2 x1 = some y) Prod.fst (FUEL, 0) h (it [0, 3]) ?_
 rintro ⟨f2, x1⟩ h
 dsimp only at h ⊢
 rcases f2 with _ | f2
 cases h
 rw [spec_l1Text_l0] at h
 refine pwp_seq ?_
 refine srve 23 [(0, S a0), (3, I x1), (7, B (decide (x1 < (a0.size : Int))))] [] ?_
 refine pc h (fun h => ?_) (fun h => ?_)
 refine pwp_skip ?_
 refine pwp_seq ?_
 refine pwp_block ?_
 refine pwp_seq ?_
 refine pwp_join (σ := Bool) (fun x5 => (⟨23, [(0, S a0), (3, I x1), (19, B x5)], []⟩ : St)) (fun x5 => spec_l1Text_j1 x1 (spec_l1Text_l0 a0 f2) x5 = some y) ?_ ?_
 refine rv 2 23 [(0, S a0), (3, I x1), (10, S a0), (11, I x1)] [] ?_
 obtain ⟨v7, hv8, h⟩ := bindS h
 refine opsP_byt τ_ok 12 hv8 (by kernel_rfl) ?_
 refine v 2 23 [(0, S a0), (3, I x1), (14, B (decide ((v7.toNat : Int) < 97)))] [] ?_
 rcases fk (decide ((v7.toNat : Int) < 97)) with hc11 | hc11
 replace h := bT hc11 h
 rw [hc11]
 refine ve 5 23 [(0, S a0), (3, I x1), (15, .lit undef), (16, .lit undef), (17, .lit undef), (18, .lit undef), (19, B true)] [] ?_
 exact ⟨true, h, it [0, 3, 19]⟩
 replace h := bF hc11 h
 rw [hc11]
 refine v 2 23 [(0, S a0), (3, I x1), (14, B false), (15, S a0), (16, I x1)] [] ?_
 obtain ⟨v9, hv10, h⟩ := bindS h
 refine opsP_byt τ_ok 17 hv10 (by kernel_rfl) ?_
 refine ve 2 23 [(0, S a0), (3, I x1), (15, S a0), (16, I x1), (17, .lit (.int .u8 (v9).toNat)), (18, B (decide ((v9.toNat : Int) > 122))), (19, B (decide ((v9.toNat : Int) > 122)))] [] ?_
 exact ⟨(decide ((v9.toNat : Int) > 122)), h, it [0, 3, 19]⟩
 rintro x5 h
 unfold spec_l1Text_j1 at h
 refine pc h (fun h => ?_) (fun h => ?_)
 refine srve 23 [(2, B false)] [] ?_
 cases h
 exact pwp_ret rz
 refine pwp_skip ?_
 refine rve 23 [(0, S a0), (3, I (w64 (x1 + 1)))] [] ?_
 exact ⟨(f2, (w64 (x1 + 1))), h, Nat.lt_succ_self _, it [0, 3]⟩
 refine pwp_exit ?_
 refine srve 23 [(2, B (decide ((a0.size : Int) ≤ 6)))] [] ?_
 cases h
 exact pwp_ret rz
def slices_IndexFunc_impl_Value_impl_Value_l0 (a0 : List T_impl_Value) (a1 : T_impl_Value → Option Bool) : Nat → Int → Option Int
 | 0, _ => none
 | f2 + 1, x1 => bif (decide (x1 < (a0.length : Int))) then (getI a0 x1).bind fun v5 => (a1 v5).bind fun v7 => bif v7 then some x1 else (slices_IndexFunc_impl_Value_impl_Value_l0 a0 a1 f2) (w64 (x1 + 1)) else some (-1)
def slices_IndexFunc_impl_Value_impl_Value (a0 : List T_impl_Value) (a1 : T_impl_Value → Option Bool) : Option Int := slices_IndexFunc_impl_Value_impl_Value_l0 a0 a1 FUEL 0
theorem ok_slices_IndexFunc_impl_Value_impl_Value {a0 : List T_impl_Value} {g1 : FuncId} {c1 : List V} (hz1 : frzL c1 = true) {a1 : T_impl_Value → Option Bool} (hp1 : ∀ x0 y, a1 x0 = some y → OK Try.prog g1 ([E x0] ++ c1) (B y)) {y : Int} (h : slices_IndexFunc_impl_Value_impl_Value a0 a1 = some y) : OK Try.prog 96 [A a0, .fn g1 c1] (I y) := by
 refine ow Try.func96 fun Γ hX => ?_
 unfold slices_IndexFunc_impl_Value_impl_Value at h
 refine srve 19 [(0, A a0), (1, .fn g1 c1)] [] ?_
 refine pwp_seq ?_
 refine srve 19 [(0, A a0), (1, .fn g1 c1), (7, I (a0.length : Int)), (8, I 0)] [] ?_
 refine pwp_block ?_
 refine pwp_loop (ι := Nat × Int) (fun (f2, x1) => (⟨19, [(0, A a0), (1, .fn g1 c1), (7, I (a0.length : Int)), (8, I x1)], []⟩ : St)) (fun (f2, x1) => slices_IndexFunc_impl_Value_impl_Value_l0 a0 a1 f2 x1 = some y) Prod.fst (FUEL, 0) h (it [0, 1, 7, 8]) ?_
 rintro ⟨f2, x1⟩ h
 dsimp only at h ⊢
 rcases f2 with _ | f2
 cases h
 rw [slices_IndexFunc_impl_Value_impl_Value_l0] at h
 refine srve 19 [(0, A a0), (1, .fn g1 c1), (7, I (a0.length : Int)), (8, I x1), (9, B (decide (x1 < (a0.length : Int))))] [] ?_
 refine pwp_seq ?_
 refine pc h (fun h => ?_) (fun h => ?_)
 refine pwp_skip ?_
 refine pwp_seq ?_
 refine pwp_block ?_
 refine srve 19 [(0, A a0), (1, .fn g1 c1), (5, I x1), (7, I (a0.length : Int)), (8, I x1)] [] ?_
 refine srv 3 19 [(0, A a0), (1, .fn g1 c1), (5, I x1), (7, I (a0.length : Int)), (8, I x1), (11, .fn g1 c1), (12, A a0), (13, I x1)] [] ?_
 obtain ⟨v5, hv6, h⟩ := bindS h
 refine opsP_idx τ_ok 14 hv6 (by kernel_rfl) ?_
 refine v 1 19 [(0, A a0), (1, .fn g1 c1), (5, I x1), (7, I (a0.length : Int)), (8, I x1), (11, .fn g1 c1), (15, E v5)] [] ?_
 obtain ⟨v7, hv8, h⟩ := bindS h
 refine opsP_callF τ 16 (hp1 _ _ hv8) (FzTo.frz rfl) (frz_app (xs := [E v5]) rfl hz1) (by kernel_rfl) ?_
 refine ve 0 19 [(0, A a0), (1, .fn g1 c1), (5, I x1), (7, I (a0.length : Int)), (8, I x1), (16, B v7)] [] ?_
 refine pc h (fun h => ?_) (fun h => ?_)
 refine srve 19 [(4, I x1)] [] ?_
 cases h
 exact pwp_ret rz
 refine pwp_skip ?_
 refine rve 19 [(0, A a0), (1, .fn g1 c1), (7, I (a0.length : Int)), (8, I (w64 (x1 + 1)))] [] ?_
 exact ⟨(f2, (w64 (x1 + 1))), h, Nat.lt_succ_self _, it [0, 1, 7, 8]⟩
 refine pwp_exit ?_
 refine srve 19 [(4, I (-1))] [] ?_
 cases h
 exact pwp_ret rz
def cmp_isNaN_int (a0 : Int) : Option Bool := some (!(a0 == a0))
theorem ok_cmp_isNaN_int {a0 : Int} {y : Bool} (h : cmp_isNaN_int a0 = some y) : OK Try.prog 104 [I a0] (B y) := by
 refine ow Try.func104 fun Γ hX => ?_
 unfold cmp_isNaN_int at h
 refine srve 6 [(0, I a0)] [] ?_
 refine srve 6 [(2, B (!(a0 == a0)))] [] ?_
 cases h
 exact pwp_ret rz
def cmp_Or_int_l0 (a0 : List Int) : Nat → Int → Option Int
 | 0, _ => none
 | f2 + 1, x1 => bif (decide (x1 < (a0.length : Int))) then (getI a0 x1).bind fun v5 => bif (!(v5 == 0)) then some v5 else (cmp_Or_int_l0 a0 f2) (w64 (x1 + 1)) else some 0
def cmp_Or_int (a0 : List Int) : Option Int := cmp_Or_int_l0 a0 FUEL 0
theorem ok_cmp_Or_int {a0 : List Int} {y : Int} (h : cmp_Or_int a0 = some y) : OK Try.prog 105 [A a0] (I y) := by
 refine ow Try.func105 fun Γ hX => ?_
 unfold cmp_Or_int at h
 refine srve 18 [(0, A a0)] [] ?_
 refine srve 18 [(0, A a0), (3, I 0)] [] ?_
 refine pwp_seq ?_
 refine srve 18 [(3, I 0), (6, A a0), (7, I (a0.length : Int)), (8, I 0)] [] ?_
 refine pwp_block ?_
 refine pwp_loop (ι := Nat × Int) (fun (f2, x1) => (⟨18, [(3, I 0), (6, A a0), (7, I (a0.length : Int)), (8, I x1)], []⟩ : St)) (fun (f2, x1) => cmp_Or_int_l0 a0 f2 x1 = some y) Prod.fst (FUEL, 0) h (it [3, 6, 7, 8]) ?_
 rintro ⟨f2, x1⟩ h
 dsimp only at h ⊢
 rcases f2 with _ | f2
 cases h
 rw [cmp_Or_int_l0] at h
 refine srve 18 [(3, I 0), (6, A a0), (7, I (a0.length : Int)), (8, I x1), (9, B (decide (x1 < (a0.length : Int))))] [] ?_
 refine pwp_seq ?_
 refine pc h (fun h => ?_) (fun h => ?_)
 refine pwp_skip ?_
 refine pwp_seq ?_
 refine pwp_block ?_
 refine pwp_seq ?_
 refine pwp_region ?_
 obtain ⟨v5, hv6, h⟩ := bindS h
 refine opsP_idx τ_ok 10 hv6 (by kernel_rfl) ?_
 refine ve 2 18 [(3, I 0), (5, I v5), (6, A a0), (7, I (a0.length : Int)), (8, I x1)] [] ?_
 refine srve 18 [(3, I 0), (5, I v5), (6, A a0), (7, I (a0.length : Int)), (8, I x1), (14, B (!(v5 == 0)))] [] ?_
 refine pc h (fun h => ?_) (fun h => ?_)
 refine srve 18 [(2, I v5)] [] ?_
 cases h
 exact pwp_ret rz
 refine pwp_skip ?_
 refine rve 18 [(3, I 0), (6, A a0), (7, I (a0.length : Int)), (8, I (w64 (x1 + 1)))] [] ?_
 exact ⟨(f2, (w64 (x1 + 1))), h, Nat.lt_succ_self _, it [3, 6, 7, 8]⟩
 refine pwp_exit ?_
 refine srve 18 [(2, I 0)] [] ?_
 cases h
 exact pwp_ret rz
def cmp_Compare_int (a0 : Int) (a1 : Int) : Option Int := (cmp_isNaN_int a0).bind fun v1 => (cmp_isNaN_int a1).bind fun v3 => bif v1 then bif v3 then some 0 else some (-1) else bif v3 then some 1 else bif (decide (a0 < a1)) then some (-1) else bif (decide (a0 > a1)) then some 1 else some 0
theorem ok_cmp_Compare_int {a0 : Int} {a1 : Int} {y : Int} (h : cmp_Compare_int a0 a1 = some y) : OK Try.prog 106 [I a0, I a1] (I y) := by
 refine ow Try.func106 fun Γ hX => ?_
 unfold cmp_Compare_int at h
 refine srve 20 [(0, I a0), (1, I a1)] [] ?_
 refine srv 1 20 [(0, I a0), (1, I a1), (7, I a0)] [] ?_
 obtain ⟨v1, hv2, h⟩ := bindS h
 refine cF 8 (ok_cmp_isNaN_int hv2) ?_
 refine ve 1 20 [(0, I a0), (1, I a1), (5, B v1)] [] ?_
 refine srv 1 20 [(0, I a0), (1, I a1), (5, B v1), (9, I a1)] [] ?_
 obtain ⟨v3, hv4, h⟩ := bindS h
 refine cF 10 (ok_cmp_isNaN_int hv4) ?_
 refine ve 1 20 [(0, I a0), (1, I a1), (5, B v1), (6, B v3)] [] ?_
 refine pwp_seq ?_
 refine srve 20 [(0, I a0), (1, I a1), (6, B v3), (11, B v1)] [] ?_
 refine pc h (fun h => ?_) (fun h => ?_)
 refine pwp_seq ?_
 refine srve 20 [(12, B v3)] [] ?_
 refine pc h (fun h => ?_) (fun h => ?_)
 refine srve 20 [(4, I 0)] [] ?_
 cases h
 exact pwp_ret rz
 refine pwp_skip ?_
 refine srve 20 [(4, I (-1))] [] ?_
 cases h
 exact pwp_ret rz
 refine pwp_skip ?_
 refine pwp_seq ?_
 refine srve 20 [(0, I a0), (1, I a1), (13, B v3)] [] ?_
 refine pc h (fun h => ?_) (fun h => ?_)
 refine srve 20 [(4, I 1)] [] ?_
 cases h
 exact pwp_ret rz
 refine pwp_skip ?_
 refine pwp_seq ?_
 refine srve 20 [(0, I a0), (1, I a1), (16, B (decide (a0 < a1)))] [] ?_
 refine pc h (fun h => ?_) (fun h => ?_)
 refine srve 20 [(4, I (-1))] [] ?_
 cases h
 exact pwp_ret rz
 refine pwp_skip ?_
 refine pwp_seq ?_
 refine srve 20 [(19, B (decide (a0 > a1)))] [] ?_
 refine pc h (fun h => ?_) (fun h => ?_)
 refine srve 20 [(4, I 1)] [] ?_
 cases h
 exact pwp_ret rz
 refine pwp_skip ?_
 refine srve 20 [(4, I 0)] [] ?_
 cases h
 exact pwp_ret rz
def impl_TruthOk (a0 : Int) : Option Bool := (impl_between a0 0 2).bind fun v1 => some v1
theorem ok_impl_TruthOk {a0 : Int} {y : Bool} (h : impl_TruthOk a0 = some y) : OK Try.prog 108 [I a0] (B y) := by
 refine ow Try.func108 fun Γ hX => ?_
 unfold impl_TruthOk at h
 refine srve 5 [(0, I a0)] [] ?_
 refine srv 1 5 [(3, I a0)] [] ?_
 obtain ⟨v1, hv2, h⟩ := bindS h
 refine cF 4 (ok_impl_between hv2) ?_
 refine ve 1 5 [(2, B v1)] [] ?_
 cases h
 exact pwp_ret rz
def cmp_isNaN_string (a0 : ByteArray) : Option Bool := some (!(a0.toList == a0.toList))
theorem ok_cmp_isNaN_string {a0 : ByteArray} {y : Bool} (h : cmp_isNaN_string a0 = some y) : OK Try.prog 110 [S a0] (B y) := by
 refine ow Try.func110 fun Γ hX => ?_
 unfold cmp_isNaN_string at h
 refine srve 6 [(0, S a0)] [] ?_
 refine srve 6 [(2, B (!(a0.toList == a0.toList)))] [] ?_
 cases h
 exact pwp_ret rz
def spec_l20Columns_l0 (a1 : Int) : Nat → Int → T_spec_l20Rd → (List T_impl_Column) → Option ((List T_impl_Column) × T_spec_l20Rd)
 | 0, _, _, _ => none
 | f8 + 1, x5, x6, x7 => bif (decide (x5 > 0)) then (spec_l20Rd_pick x6 4).bind fun v11 => (getI ([1, 1, 2, 3] : List Int) v11.1).bind fun v13 => (spec_l20Rd_pick v11.2 3).bind fun v15 => (app x7 ([(T_impl_Column.mk v13 (decide (v15.1 > 0)))] : List T_impl_Column)).bind fun v17 => (spec_l20Columns_l0 a1 f8) (w64 (x5 - 1)) v15.2 v17 else (spec_l20Rd_odd x6 a1).bind fun v19 => bif v19.1 then (spec_l20Rd_pick v19.2 6).bind fun v22 => (app x7 ([(T_impl_Column.mk (w64 (v22.1 - 1)) false), (T_impl_Column.mk 1 false), (T_impl_Column.mk 1 false)] : List T_impl_Column)).bind fun v24 => some (v24, v22.2) else some (x7, v19.2)
def spec_l20Columns (a0 : T_spec_l20Rd) (a1 : Int) : Option ((List T_impl_Column) × T_spec_l20Rd) := (spec_l20Rd_pick a0 3).bind fun v1 => spec_l20Columns_l0 a1 FUEL (w64 (1 + v1.1)) v1.2 ([] : List T_impl_Column)
theorem ok_spec_l20Columns {a0 : T_spec_l20Rd} {a1 : Int} {y : (List T_impl_Column) × T_spec_l20Rd} (h : spec_l20Columns a0 a1 = some y) : OKb Try.prog 37 (Enc.cells a0) [I a1] (O y.1) (Enc.cells y.2) := by
 refine OKb_of_pwp τ_ok Try.func37 rfl (by kernel_rfl) rfl (Enc.frz _) (Enc.frz _) fun Γ hQ => ?_
 unfold spec_l20Columns at h
 refine srve 40 [(0, .ptr 0 0 0), (1, I a1)] [sc 0 a0] ?_
 refine srve 40 [(0, .ptr 0 0 0), (1, I a1), (5, .arr 2 0 (eL ([] : List T_impl_Column)) true)] [sc 0 a0] ?_
 refine pwp_seq ?_
 refine srv 1 40 [(0, .ptr 0 0 0), (1, I a1), (5, .arr 2 0 (eL ([] : List T_impl_Column)) true), (8, .ptr 0 0 0)] [sc 0 a0] ?_
 obtain ⟨v1, hv2, h⟩ := bindS h
 refine cB 9 0 0 (ok_spec_l20Rd_pick hv2) ?_
 refine ve 2 40 [(0, .ptr 0 0 0), (1, I a1), (5, .arr 2 0 (eL ([] : List T_impl_Column)) true), (6, I (w64 (1 + v1.1)))] [sc 0 v1.2] ?_
 refine pwp_block ?_
 refine pwp_loop (ι := Nat × Int × T_spec_l20Rd × (List T_impl_Column)) (fun (f8, x5, x6, x7) => (⟨40, [(0, .ptr 0 0 0), (1, I a1), (5, rf 1 0 2 x7), (6, I x5)], [sc 0 x6, sl 0 x7]⟩ : St)) (fun (f8, x5, x6, x7) => spec_l20Columns_l0 a1 f8 x5 x6 x7 = some y) Prod.fst (FUEL, (w64 (1 + v1.1)), v1.2, ([] : List T_impl_Column)) h (Imp.thawS 5 [0, 1, 5, 6] (by kernel_rfl)) ?_
 rintro ⟨f8, x5, x6, x7⟩ h
 dsimp only at h ⊢
 rcases f8 with _ | f8
 cases h
 rw [spec_l20Columns_l0] at h
 refine pwp_seq ?_
 refine srve 40 [(0, .ptr 0 0 0), (1, I a1), (5, rf 1 0 2 x7), (6, I x5), (12, B (decide (x5 > 0)))] [sc 0 x6, sl 0 x7] ?_
 refine pc h (fun h => ?_) (fun h => ?_)
 refine pwp_skip ?_
 refine pwp_seq ?_
 refine pwp_block ?_
 refine ip 40 [(0, .ptr 0 0 0), (1, I a1), (5, rf 1 0 2 x7), (6, I x5)] [sc 0 x6, sl 0 x7] ?_
 refine pwp_any ([[1], [], [], [0], [], [], [], [0], [], [], [], [1], [1]]) ([[], [], [], [0], [], [], [], [0], [], [], [], [1], []]) rfl (by kernel_rfl) ?_
 refine qv [1] (hL trivial) 1 40 [(15, rf 1 0 2 x7), (0, .ptr 0 0 0), (1, I a1), (5, rf 1 0 2 x7), (6, I x5)] [sc 0 x6, sl 0 x7] ?_
 refine qv [] trivial 1 40 [(16, .arr 1 ([1, 1, 2, 3] : List Int).length (eL ([1, 1, 2, 3] : List Int)) true), (15, rf 1 0 2 x7), (0, .ptr 0 0 0), (1, I a1), (5, rf 1 0 2 x7), (6, I x5)] [sc 0 x6, sl 0 x7] ?_
 refine qA_mv (⟨40, [(17, .ptr 0 0 0), (16, .arr 1 ([1, 1, 2, 3] : List Int).length (eL ([1, 1, 2, 3] : List Int)) true), (15, rf 1 0 2 x7), (0, .ptr 0 0 0), (1, I a1), (5, rf 1 0 2 x7), (6, I x5)], [sc 0 x6, sl 0 x7]⟩) (by kernel_rfl) rfl ?_
 obtain ⟨v11, hv12, h⟩ := bindS h
 refine qX (some 18) (I v11.1) 40 [(18, I v11.1), (16, .arr 1 ([1, 1, 2, 3] : List Int).length (eL ([1, 1, 2, 3] : List Int)) true), (15, rf 1 0 2 x7), (0, .ptr 0 0 0), (1, I a1), (5, rf 1 0 2 x7), (6, I x5)] [sc 0 v11.2, sl 0 x7] (fun Γ' hΓ => callB_E τ 18 0 0 (ok_spec_l20Rd_pick hv12) (FzTo.frz rfl) rfl (by kernel_rfl)) (hB trivial) ?_
 obtain ⟨v13, hv14, h⟩ := bindS h
 refine qX (some 19) (pf v13 0) 40 [(19, pf v13 0), (15, rf 1 0 2 x7), (0, .ptr 0 0 0), (1, I a1), (5, rf 1 0 2 x7), (6, I x5)] [sc 0 v11.2, sl 0 x7] (fun Γ' hΓ => CoreE.of_y (idxV_sound τ_ok (by kernel_rfl) hv14)) trivial ?_
 refine qv [] trivial 1 40 [(20, I v13), (15, rf 1 0 2 x7), (0, .ptr 0 0 0), (1, I a1), (5, rf 1 0 2 x7), (6, I x5)] [sc 0 v11.2, sl 0 x7] ?_
 refine qA_mv (⟨40, [(21, .ptr 0 0 0), (20, I v13), (15, rf 1 0 2 x7), (0, .ptr 0 0 0), (1, I a1), (5, rf 1 0 2 x7), (6, I x5)], [sc 0 v11.2, sl 0 x7]⟩) (by kernel_rfl) rfl ?_
 obtain ⟨v15, hv16, h⟩ := bindS h
 refine qX (some 22) (I v15.1) 40 [(22, I v15.1), (20, I v13), (15, rf 1 0 2 x7), (0, .ptr 0 0 0), (1, I a1), (5, rf 1 0 2 x7), (6, I x5)] [sc 0 v15.2, sl 0 x7] (fun Γ' hΓ => callB_E τ 22 0 0 (ok_spec_l20Rd_pick hv16) (FzTo.frz rfl) rfl (by kernel_rfl)) (hB trivial) ?_
 refine qv [] trivial 3 40 [(25, .arr 2 ([(T_impl_Column.mk v13 (decide (v15.1 > 0)))] : List T_impl_Column).length (eL ([(T_impl_Column.mk v13 (decide (v15.1 > 0)))] : List T_impl_Column)) true), (15, rf 1 0 2 x7), (0, .ptr 0 0 0), (1, I a1), (5, rf 1 0 2 x7), (6, I x5)] [sc 0 v15.2, sl 0 x7] ?_
 obtain ⟨v17, hv18, h⟩ := bindS h
 refine qX (some 26) (rf 1 1 2 v17) 40 [(26, rf 1 1 2 v17), (0, .ptr 0 0 0), (1, I a1), (5, rf 1 0 2 x7), (6, I x5)] [sc 0 v15.2, sl 1 v17] (fun Γ' hΓ => app_Ew τ_ok 26 1 0 (by first | exact py hΓ hQ | exact pky hΓ hQ) hv18 (by kernel_rfl)) (hL trivial) ?_
 refine qvn [1] (hL trivial) 1 40 [(0, .ptr 0 0 0), (1, I a1), (5, rf 1 1 2 v17), (6, I x5)] [sc 0 v15.2, sl 1 v17] ?_
 refine rve 40 [(0, .ptr 0 0 0), (1, I a1), (5, rf 1 1 2 v17), (6, I (w64 (x5 - 1)))] [sc 0 v15.2, sl 1 v17] ?_
 exact ⟨(f8, (w64 (x5 - 1)), v15.2, v17), h, Nat.lt_succ_self _, (it (st' := ⟨40, [(0, .ptr 0 0 0), (1, I a1), (5, rf 1 1 2 v17), (6, I (w64 (x5 - 1)))], [sc 0 v15.2, sl 1 v17]⟩) [0, 1, 5, 6]).trans (Imp.reverS 1 1 (eL v17) [0, 1, 5, 6] (by kernel_rfl) (by exact (And.intro (rfl) (And.intro (eL_frz _) trivial))) (by kernel_rfl))⟩
 refine pwp_exit ?_
 refine pwp_seq ?_
 refine srv 2 40 [(0, .ptr 0 0 0), (5, rf 1 0 2 x7), (27, .ptr 0 0 0), (28, I a1)] [sc 0 x6, sl 0 x7] ?_
 obtain ⟨v19, hv20, h⟩ := bindS h
 refine cB 29 0 0 (ok_spec_l20Rd_odd hv20) ?_
 refine ve 0 40 [(0, .ptr 0 0 0), (5, rf 1 0 2 x7), (29, B v19.1)] [sc 0 v19.2, sl 0 x7] ?_
 refine pc h (fun h => ?_) (fun h => ?_)
 refine rv 2 40 [(30, rf 1 0 2 x7), (31, .ptr 0 0 0)] [sc 0 v19.2, sl 0 x7] ?_
 obtain ⟨v22, hv23, h⟩ := bindS h
 refine cB 32 0 0 (ok_spec_l20Rd_pick hv23) ?_
 refine v 5 40 [(30, rf 1 0 2 x7), (37, .arr 2 ([(T_impl_Column.mk (w64 (v22.1 - 1)) false), (T_impl_Column.mk 1 false), (T_impl_Column.mk 1 false)] : List T_impl_Column).length (eL ([(T_impl_Column.mk (w64 (v22.1 - 1)) false), (T_impl_Column.mk 1 false), (T_impl_Column.mk 1 false)] : List T_impl_Column)) true)] [sc 0 v22.2, sl 0 x7] ?_
 obtain ⟨v24, hv25, h⟩ := bindS h
 refine opsP_app τ_ok 38 1 0 (pn hQ) hv25 (by kernel_rfl) ?_
 refine ve 1 40 [(5, rf 1 1 2 v24)] [sc 0 v22.2, sl 1 v24] ?_
 refine srve 40 [(4, rf 1 1 2 v24)] [sc 0 v22.2, sl 1 v24] ?_
 have h := si h
 subst h
 exact pwp_ret ⟨.inr rfl, rf 1 1 2 v24, _, 0, by kernel_rfl, (OutP.list (v := 1) (by kernel_rfl)), by decide, by decide, by kernel_rfl⟩
 refine pwp_skip ?_
 refine srve 40 [(4, rf 1 0 2 x7)] [sc 0 v19.2, sl 0 x7] ?_
 have h := si h
 subst h
 exact pwp_ret ⟨.inr rfl, rf 1 0 2 x7, _, 0, by kernel_rfl, (OutP.list (v := 0) (by kernel_rfl)), by decide, by decide, by kernel_rfl⟩
def spec_l20Fit_l0 (a1 : List T_impl_Column) (a2 : Int) : Nat → Int → T_spec_l20Rd → (List T_impl_Value) → Option ((List T_impl_Value) × T_spec_l20Rd)
 | 0, _, _, _ => none
 | f6 + 1, x3, x4, x5 => bif (decide (x3 < (a1.length : Int))) then (getI a1 x3).bind fun v9 => (spec_l20Like x4 v9).bind fun v11 => (app x5 ([v11.1] : List T_impl_Value)).bind fun v13 => (spec_l20Fit_l0 a1 a2 f6) (w64 (x3 + 1)) v11.2 v13 else (spec_l20Rd_odd x4 a2).bind fun v15 => bif v15.1 then (spec_l20Rd_pick v15.2 3).bind fun v18 => bif (v18.1 == 0) then (app x5 ([(T_impl_Value.mk 0 0 (ByteArray.mk #[]))] : List T_impl_Value)).bind fun v21 => some (v21, v18.2) else bif (v18.1 == 1) then bif (decide ((x5.length : Int) > 0)) then (spec_l20Rd_pick v18.2 (x5.length : Int)).bind fun v25 => (spec_l20Value v25.2 3).bind fun v27 => (getI x5 v25.1).bind fun v29 => some ((x5.set v25.1.toNat v27.1), v27.2) else some (x5, v18.2) else (spec_l20Value v18.2 0).bind fun v31 => (spec_l20Value v31.2 0).bind fun v33 => (spec_l20Value v33.2 0).bind fun v35 => (app x5 ([v31.1, v33.1, v35.1] : List T_impl_Value)).bind fun v37 => some (v37, v35.2) else some (x5, v15.2)
def spec_l20Fit (a0 : T_spec_l20Rd) (a1 : List T_impl_Column) (a2 : Int) : Option ((List T_impl_Value) × T_spec_l20Rd) := spec_l20Fit_l0 a1 a2 FUEL 0 a0 ([] : List T_impl_Value)
theorem ok_spec_l20Fit {a0 : T_spec_l20Rd} {a1 : List T_impl_Column} {a2 : Int} {y : (List T_impl_Value) × T_spec_l20Rd} (h : spec_l20Fit a0 a1 a2 = some y) : OKb Try.prog 38 (Enc.cells a0) [A a1, I a2] (O y.1) (Enc.cells y.2) := by
 refine OKb_of_pwp τ_ok Try.func38 rfl (by kernel_rfl) rfl (Enc.frz _) (Enc.frz _) fun Γ hQ => ?_
 unfold spec_l20Fit at h
 refine srve 59 [(0, .ptr 0 0 0), (1, A a1), (2, I a2)] [sc 0 a0] ?_
 refine srve 59 [(0, .ptr 0 0 0), (1, A a1), (2, I a2), (7, .arr 3 0 (eL ([] : List T_impl_Value)) true)] [sc 0 a0] ?_
 refine pwp_seq ?_
 refine srve 59 [(0, .ptr 0 0 0), (1, A a1), (2, I a2), (7, .arr 3 0 (eL ([] : List T_impl_Value)) true), (8, I 0)] [sc 0 a0] ?_
 refine pwp_block ?_
 refine pwp_loop (ι := Nat × Int × T_spec_l20Rd × (List T_impl_Value)) (fun (f6, x3, x4, x5) => (⟨59, [(0, .ptr 0 0 0), (1, A a1), (2, I a2), (7, rf 1 0 3 x5), (8, I x3)], [sc 0 x4, sl 0 x5]⟩ : St)) (fun (f6, x3, x4, x5) => spec_l20Fit_l0 a1 a2 f6 x3 x4 x5 = some y) Prod.fst (FUEL, 0, a0, ([] : List T_impl_Value)) h (Imp.thawS 7 [0, 1, 2, 7, 8] (by kernel_rfl)) ?_
 rintro ⟨f6, x3, x4, x5⟩ h
 dsimp only at h ⊢
 rcases f6 with _ | f6
 cases h
 rw [spec_l20Fit_l0] at h
 refine pwp_seq ?_
 refine srve 59 [(0, .ptr 0 0 0), (1, A a1), (2, I a2), (7, rf 1 0 3 x5), (8, I x3), (13, B (decide (x3 < (a1.length : Int))))] [sc 0 x4, sl 0 x5] ?_
 refine pc h (fun h => ?_) (fun h => ?_)
 refine pwp_skip ?_
 refine pwp_seq ?_
 refine pwp_block ?_
 refine rv 4 59 [(0, .ptr 0 0 0), (1, A a1), (2, I a2), (8, I x3), (16, rf 1 0 3 x5), (17, .ptr 0 0 0), (18, A a1), (19, I x3)] [sc 0 x4, sl 0 x5] ?_
 obtain ⟨v9, hv10, h⟩ := bindS h
 refine opsP_idx τ_ok 20 hv10 (by kernel_rfl) ?_
 refine v 1 59 [(0, .ptr 0 0 0), (1, A a1), (2, I a2), (8, I x3), (16, rf 1 0 3 x5), (17, .ptr 0 0 0), (21, E v9)] [sc 0 x4, sl 0 x5] ?_
 obtain ⟨v11, hv12, h⟩ := bindS h
 refine cB 22 0 0 (ok_spec_l20Like hv12) ?_
 refine v 1 59 [(0, .ptr 0 0 0), (1, A a1), (2, I a2), (8, I x3), (16, rf 1 0 3 x5), (23, .arr 3 ([v11.1] : List T_impl_Value).length (eL ([v11.1] : List T_impl_Value)) true)] [sc 0 v11.2, sl 0 x5] ?_
 obtain ⟨v13, hv14, h⟩ := bindS h
 refine opsP_app τ_ok 24 1 0 (pn hQ) hv14 (by kernel_rfl) ?_
 refine ve 1 59 [(0, .ptr 0 0 0), (1, A a1), (2, I a2), (7, rf 1 1 3 v13), (8, I x3)] [sc 0 v11.2, sl 1 v13] ?_
 refine rve 59 [(0, .ptr 0 0 0), (1, A a1), (2, I a2), (7, rf 1 1 3 v13), (8, I (w64 (x3 + 1)))] [sc 0 v11.2, sl 1 v13] ?_
 exact ⟨(f6, (w64 (x3 + 1)), v11.2, v13), h, Nat.lt_succ_self _, (it (st' := ⟨59, [(0, .ptr 0 0 0), (1, A a1), (2, I a2), (7, rf 1 1 3 v13), (8, I (w64 (x3 + 1)))], [sc 0 v11.2, sl 1 v13]⟩) [0, 1, 2, 7, 8]).trans (Imp.reverS 1 1 (eL v13) [0, 1, 2, 7, 8] (by kernel_rfl) (by exact (And.intro (rfl) (And.intro (eL_frz _) trivial))) (by kernel_rfl))⟩
 refine pwp_exit ?_
 refine pwp_seq ?_
 refine srv 2 59 [(0, .ptr 0 0 0), (7, rf 1 0 3 x5), (25, .ptr 0 0 0), (26, I a2)] [sc 0 x4, sl 0 x5] ?_
 obtain ⟨v15, hv16, h⟩ := bindS h
 refine cB 27 0 0 (ok_spec_l20Rd_odd hv16) ?_
 refine ve 0 59 [(0, .ptr 0 0 0), (7, rf 1 0 3 x5), (27, B v15.1)] [sc 0 v15.2, sl 0 x5] ?_
 refine pc h (fun h => ?_) (fun h => ?_)
 refine srv 1 59 [(0, .ptr 0 0 0), (7, rf 1 0 3 x5), (28, .ptr 0 0 0)] [sc 0 v15.2, sl 0 x5] ?_
 obtain ⟨v18, hv19, h⟩ := bindS h
 refine cB 29 0 0 (ok_spec_l20Rd_pick hv19) ?_
 refine ve 0 59 [(0, .ptr 0 0 0), (7, rf 1 0 3 x5), (29, I v18.1)] [sc 0 v18.2, sl 0 x5] ?_
 refine pwp_block ?_
 refine srve 59 [(0, .ptr 0 0 0), (7, rf 1 0 3 x5), (29, I v18.1), (39, B (v18.1 == 0))] [sc 0 v18.2, sl 0 x5] ?_
 refine pc h (fun h => ?_) (fun h => ?_)
 refine rv 3 59 [(41, rf 1 0 3 x5), (43, .arr 3 ([(T_impl_Value.mk 0 0 (ByteArray.mk #[]))] : List T_impl_Value).length (eL ([(T_impl_Value.mk 0 0 (ByteArray.mk #[]))] : List T_impl_Value)) true)] [sc 0 v18.2, sl 0 x5] ?_
 obtain ⟨v21, hv22, h⟩ := bindS h
 refine opsP_app τ_ok 44 1 0 (pn hQ) hv22 (by kernel_rfl) ?_
 refine ve 1 59 [(7, rf 1 1 3 v21)] [sc 0 v18.2, sl 1 v21] ?_
 refine srve 59 [(6, rf 1 1 3 v21)] [sc 0 v18.2, sl 1 v21] ?_
 have h := si h
 subst h
 exact pwp_ret ⟨.inr rfl, rf 1 1 3 v21, _, 0, by kernel_rfl, (OutP.list (v := 1) (by kernel_rfl)), by decide, by decide, by kernel_rfl⟩
 refine srve 59 [(0, .ptr 0 0 0), (7, rf 1 0 3 x5), (45, B (v18.1 == 1))] [sc 0 v18.2, sl 0 x5] ?_
 refine pc h (fun h => ?_) (fun h => ?_)
 refine srve 59 [(0, .ptr 0 0 0), (7, rf 1 0 3 x5), (49, B (decide ((x5.length : Int) > 0)))] [sc 0 v18.2, sl 0 x5] ?_
 refine pc h (fun h => ?_) (fun h => ?_)
 refine rv 4 59 [(0, .ptr 0 0 0), (7, rf 1 0 3 x5), (50, rf 1 0 3 x5), (51, .ptr 0 0 0), (53, I (x5.length : Int))] [sc 0 v18.2, sl 0 x5] ?_
 obtain ⟨v25, hv26, h⟩ := bindS h
 refine cB 54 0 0 (ok_spec_l20Rd_pick hv26) ?_
 refine v 1 59 [(7, rf 1 0 3 x5), (50, rf 1 0 3 x5), (54, I v25.1), (55, .ptr 0 0 0)] [sc 0 v25.2, sl 0 x5] ?_
 obtain ⟨v27, hv28, h⟩ := bindS h
 refine cB 56 0 0 (ok_spec_l20Value hv28) ?_
 obtain ⟨v29, hv30, h⟩ := bindS h
 refine opsP_idr τ_ok 57 1 0 x5.length hv30 rfl (by kernel_rfl) ?_
 refine v 0 59 [(7, rf 1 0 3 x5), (56, E v27.1), (57, .ptr 1 0 (v25.1.toNat * 3))] [sc 0 v27.2, sl 0 x5] ?_
 refine opsP_ste (vs := [I v27.1.fKind, I v27.1.fN, S v27.1.fS]) τ_ok 34 1 0 0 v27.1 hv30 (by kernel_rfl) (by kernel_rfl) (by kernel_rfl) (renC (ren_ref (List.length_set ..).symm) (renC trivial (renC trivial renC0))) ?_
 refine ve 0 59 [(7, .ref 1 0 0 3 (x5.set v25.1.toNat v27.1).length false)] [sc 0 v27.2, some ⟨0, eL (x5.set v25.1.toNat v27.1)⟩] ?_
 refine srve 59 [(6, .ref 1 0 0 3 (x5.set v25.1.toNat v27.1).length false)] [sc 0 v27.2, some ⟨0, eL (x5.set v25.1.toNat v27.1)⟩] ?_
 have h := si h
 subst h
 exact pwp_ret ⟨.inr rfl, .ref 1 0 0 3 (x5.set v25.1.toNat v27.1).length false, _, 0, by kernel_rfl, (OutP.list (v := 0) (by kernel_rfl)), by decide, by decide, by kernel_rfl⟩
 refine pwp_skip ?_
 refine srve 59 [(6, rf 1 0 3 x5)] [sc 0 v18.2, sl 0 x5] ?_
 have h := si h
 subst h
 exact pwp_ret ⟨.inr rfl, rf 1 0 3 x5, _, 0, by kernel_rfl, (OutP.list (v := 0) (by kernel_rfl)), by decide, by decide, by kernel_rfl⟩
 refine rv 2 59 [(0, .ptr 0 0 0), (30, rf 1 0 3 x5), (31, .ptr 0 0 0)] [sc 0 v18.2, sl 0 x5] ?_
 obtain ⟨v31, hv32, h⟩ := bindS h
 refine cB 32 0 0 (ok_spec_l20Value hv32) ?_
 refine v 1 59 [(0, .ptr 0 0 0), (30, rf 1 0 3 x5), (32, E v31.1), (33, .ptr 0 0 0)] [sc 0 v31.2, sl 0 x5] ?_
 obtain ⟨v33, hv34, h⟩ := bindS h
 refine cB 34 0 0 (ok_spec_l20Value hv34) ?_
 refine v 1 59 [(30, rf 1 0 3 x5), (32, E v31.1), (34, E v33.1), (35, .ptr 0 0 0)] [sc 0 v33.2, sl 0 x5] ?_
 obtain ⟨v35, hv36, h⟩ := bindS h
 refine cB 36 0 0 (ok_spec_l20Value hv36) ?_
 refine v 1 59 [(30, rf 1 0 3 x5), (37, .arr 3 ([v31.1, v33.1, v35.1] : List T_impl_Value).length (eL ([v31.1, v33.1, v35.1] : List T_impl_Value)) true)] [sc 0 v35.2, sl 0 x5] ?_
 obtain ⟨v37, hv38, h⟩ := bindS h
 refine opsP_app τ_ok 38 1 0 (pn hQ) hv38 (by kernel_rfl) ?_
 refine ve 1 59 [(7, rf 1 1 3 v37)] [sc 0 v35.2, sl 1 v37] ?_
 refine srve 59 [(6, rf 1 1 3 v37)] [sc 0 v35.2, sl 1 v37] ?_
 have h := si h
 subst h
 exact pwp_ret ⟨.inr rfl, rf 1 1 3 v37, _, 0, by kernel_rfl, (OutP.list (v := 1) (by kernel_rfl)), by decide, by decide, by kernel_rfl⟩
 refine pwp_skip ?_
 refine srve 59 [(6, rf 1 0 3 x5)] [sc 0 v15.2, sl 0 x5] ?_
 have h := si h
 subst h
 exact pwp_ret ⟨.inr rfl, rf 1 0 3 x5, _, 0, by kernel_rfl, (OutP.list (v := 0) (by kernel_rfl)), by decide, by decide, by kernel_rfl⟩
def impl_clone_int (a0 : List Int) : Option (List Int) := bif ((a0.length : Int) == 0) then some ([] : List Int) else (app [] a0).bind fun v2 => (slices_Clip_int_int v2).bind fun v4 => some v4
theorem ok_impl_clone_int {a0 : List Int} {y : List Int} (h : impl_clone_int a0 = some y) : OK Try.prog 45 [A a0] (A y) := by
 refine ow Try.func45 fun Γ hX => ?_
 unfold impl_clone_int at h
 refine srve 9 [(0, A a0)] [] ?_
 refine pwp_seq ?_
 refine srve 9 [(0, A a0), (5, B ((a0.length : Int) == 0))] [] ?_
 refine pc h (fun h => ?_) (fun h => ?_)
 refine srve 9 [(2, .arr 1 0 (eL ([] : List Int)) true)] [] ?_
 refine ip 9 [(2, .arr 1 0 (eL ([] : List Int)) true)] [] ?_
 refine pwp_imp (Imp.unfS (st' := ⟨9, [(2, A ([] : List Int))], []⟩) 2 [2] (by kernel_rfl)) ?_
 cases h
 exact pwp_ret rz
 refine pwp_skip ?_
 refine srv 1 9 [(6, A a0)] [] ?_
 obtain ⟨v2, hv3, h⟩ := bindS h
 refine opsP_apn τ_ok 7 0 (nx hX) hv3 (by kernel_rfl) ?_
 refine v 0 9 [(7, rf 0 1 1 v2)] [sl 1 v2] ?_
 refine opsP_imp (Imp.freezeB (v := 1) (cs := eL v2) (st' := ⟨9, [(7, A v2)], [none]⟩) 0 1 (nx hX) (by kernel_rfl) (eL_frz _) (wholeC (whole_is (eL_len v2).symm) wholeC0) (HpRel.key HpRel.nil) (by kernel_rfl) rfl (nx hX)) ?_
 obtain ⟨v4, hv5, h⟩ := bindS h
 refine cF 8 (ok_slices_Clip_int_int hv5) ?_
 refine ve 1 9 [(2, A v4)] [none] ?_
 cases h
 exact pwp_ret rz
def spec_ColumnsOk_l0 (a0 : List T_impl_Column) : Nat → Int → Option Bool
 | 0, _ => none
 | f2 + 1, x1 => bif (decide (x1 < (a0.length : Int))) then (getI a0 x1).bind fun v5 => (spec_l1In v5.fKind 1 3).bind fun v7 => bif (!v7) then some false else (spec_ColumnsOk_l0 a0 f2) (w64 (x1 + 1)) else some (decide ((a0.length : Int) ≤ 4))
def spec_ColumnsOk (a0 : List T_impl_Column) : Option Bool := spec_ColumnsOk_l0 a0 FUEL 0
theorem ok_spec_ColumnsOk {a0 : List T_impl_Column} {y : Bool} (h : spec_ColumnsOk a0 = some y) : OK Try.prog 47 [A a0] (B y) := by
 refine ow Try.func47 fun Γ hX => ?_
 unfold spec_ColumnsOk at h
 refine srve 20 [(0, A a0)] [] ?_
 refine pwp_seq ?_
 refine srve 20 [(0, A a0), (3, I 0)] [] ?_
 refine pwp_block ?_
 refine pwp_loop (ι := Nat × Int) (fun (f2, x1) => (⟨20, [(0, A a0), (3, I x1)], []⟩ : St)) (fun (f2, x1) => spec_ColumnsOk_l0 a0 f2 x1 = some y) Prod.fst (FUEL, 0) h (it [0, 3]) ?_
 rintro ⟨f2, x1⟩ h
 dsimp only at h ⊢
 rcases f2 with _ | f2
 cases h
 rw [spec_ColumnsOk_l0] at h
 refine pwp_seq ?_
 refine srve 20 [(0, A a0), (3, I x1), (7, B (decide (x1 < (a0.length : Int))))] [] ?_
 refine pc h (fun h => ?_) (fun h => ?_)
 refine pwp_skip ?_
 refine pwp_seq ?_
 refine pwp_block ?_
 refine srv 2 20 [(0, A a0), (3, I x1), (10, A a0), (11, I x1)] [] ?_
 obtain ⟨v5, hv6, h⟩ := bindS h
 refine opsP_idx τ_ok 12 hv6 (by kernel_rfl) ?_
 refine v 2 20 [(0, A a0), (3, I x1), (14, I v5.fKind)] [] ?_
 obtain ⟨v7, hv8, h⟩ := bindS h
 refine cF 15 (ok_spec_l1In hv8) ?_
 refine ve 1 20 [(0, A a0), (3, I x1), (16, B (!v7))] [] ?_
 refine pc h (fun h => ?_) (fun h => ?_)
 refine srve 20 [(2, B false)] [] ?_
 cases h
 exact pwp_ret rz
 refine pwp_skip ?_
 refine rve 20 [(0, A a0), (3, I (w64 (x1 + 1)))] [] ?_
 exact ⟨(f2, (w64 (x1 + 1))), h, Nat.lt_succ_self _, it [0, 3]⟩
 refine pwp_exit ?_
 refine srve 20 [(2, B (decide ((a0.length : Int) ≤ 4)))] [] ?_
 cases h
 exact pwp_ret rz
def impl_Value_ok (a0 : T_impl_Value) : Option Bool := bif (a0.fKind == 0) then some (eq_T_impl_Value a0 (T_impl_Value.mk 0 0 (ByteArray.mk #[]))) else bif (a0.fKind == 1) then bif (a0.fS.toList == (ByteArray.mk #[]).toList) then (impl_between a0.fN (-9999) 9999).bind fun v3 => some v3 else some false else bif (a0.fKind == 2) then bif (a0.fN == 0) then bif (decide ((a0.fS.size : Int) ≤ 6)) then (impl_letters a0.fS).bind fun v7 => some v7 else some false else some false else bif (a0.fKind == 3) then bif (a0.fS.toList == (ByteArray.mk #[]).toList) then (impl_between a0.fN 0 1).bind fun v12 => some v12 else some false else some false
theorem ok_impl_Value_ok {a0 : T_impl_Value} {y : Bool} (h : impl_Value_ok a0 = some y) : OK Try.prog 51 [E a0] (B y) := by
 refine ow Try.func51 fun Γ hX => ?_
 unfold impl_Value_ok at h
 refine srve 46 [(1, pf a0 0)] [] ?_
 refine pwp_seq ?_
 refine srve 46 [(1, pf a0 0), (4, I a0.fKind)] [] ?_
 refine pwp_block ?_
 refine srve 46 [(1, pf a0 0), (4, I a0.fKind), (5, B (a0.fKind == 0))] [] ?_
 refine pc h (fun h => ?_) (fun h => ?_)
 refine srve 46 [(2, B (eq_T_impl_Value a0 (T_impl_Value.mk 0 0 (ByteArray.mk #[]))))] [] ?_
 cases h
 exact pwp_ret rz
 refine srve 46 [(1, pf a0 0), (4, I a0.fKind), (10, B (a0.fKind == 1))] [] ?_
 refine pc h (fun h => ?_) (fun h => ?_)
 refine srv 4 46 [(1, pf a0 0), (15, B (a0.fS.toList == (ByteArray.mk #[]).toList))] [] ?_
 rcases fk (a0.fS.toList == (ByteArray.mk #[]).toList) with hc5 | hc5
 replace h := bT hc5 h
 rw [hc5]
 refine v 2 46 [(15, B true), (17, I a0.fN)] [] ?_
 obtain ⟨v3, hv4, h⟩ := bindS h
 refine cF 18 (ok_impl_between hv4) ?_
 refine ve 2 46 [(2, B v3)] [] ?_
 cases h
 exact pwp_ret rz
 replace h := bF hc5 h
 rw [hc5]
 refine ve 5 46 [(2, B false)] [] ?_
 cases h
 exact pwp_ret rz
 refine srve 46 [(1, pf a0 0), (4, I a0.fKind), (20, B (a0.fKind == 2))] [] ?_
 refine pc h (fun h => ?_) (fun h => ?_)
 refine srv 4 46 [(1, pf a0 0), (25, B (a0.fN == 0))] [] ?_
 rcases fk (a0.fN == 0) with hc10 | hc10
 replace h := bT hc10 h
 rw [hc10]
 refine v 6 46 [(1, pf a0 0), (31, B (decide ((a0.fS.size : Int) ≤ 6)))] [] ?_
 rcases fk (decide ((a0.fS.size : Int) ≤ 6)) with hc9 | hc9
 replace h := bT hc9 h
 rw [hc9]
 refine v 2 46 [(31, B true), (33, S a0.fS)] [] ?_
 obtain ⟨v7, hv8, h⟩ := bindS h
 refine cF 34 (ok_impl_letters hv8) ?_
 refine ve 2 46 [(2, B v7)] [] ?_
 cases h
 exact pwp_ret rz
 replace h := bF hc9 h
 rw [hc9]
 refine ve 5 46 [(2, B false)] [] ?_
 cases h
 exact pwp_ret rz
 replace h := bF hc10 h
 rw [hc10]
 refine ve 11 46 [(2, B false)] [] ?_
 cases h
 exact pwp_ret rz
 refine srve 46 [(1, pf a0 0), (36, B (a0.fKind == 3))] [] ?_
 refine pc h (fun h => ?_) (fun h => ?_)
 refine srv 4 46 [(1, pf a0 0), (41, B (a0.fS.toList == (ByteArray.mk #[]).toList))] [] ?_
 rcases fk (a0.fS.toList == (ByteArray.mk #[]).toList) with hc14 | hc14
 replace h := bT hc14 h
 rw [hc14]
 refine v 2 46 [(41, B true), (43, I a0.fN)] [] ?_
 obtain ⟨v12, hv13, h⟩ := bindS h
 refine cF 44 (ok_impl_between hv13) ?_
 refine ve 2 46 [(2, B v12)] [] ?_
 cases h
 exact pwp_ret rz
 replace h := bF hc14 h
 rw [hc14]
 refine ve 5 46 [(2, B false)] [] ?_
 cases h
 exact pwp_ret rz
 refine pwp_skip ?_
 refine srve 46 [(2, B false)] [] ?_
 cases h
 exact pwp_ret rz
def spec_l20Expr_j0 (rec0 : T_spec_l20Rd → (List T_impl_Column) → Int → Int → Option ((List T_impl_Part) × T_spec_l20Rd)) (a1 : List T_impl_Column) (a2 : Int) (a3 : Int) (x1 : Bool) (x2 : T_spec_l20Rd) : Option ((List T_impl_Part) × T_spec_l20Rd) := bif x1 then (spec_l20Leaf x2 a1 a2).bind fun v4 => some (([v4.1] : List T_impl_Part), v4.2) else bif (a2 == 1) then (rec0 x2 a1 a2 (w64 (a3 - 1))).bind fun v7 => (spec_l20Leaf v7.2 a1 a2).bind fun v9 => (app v7.1 ([v9.1] : List T_impl_Part)).bind fun v11 => (app v11 ([(T_impl_Part.mk 3 0 (T_impl_Value.mk 0 0 (ByteArray.mk #[])))] : List T_impl_Part)).bind fun v13 => some (v13, v9.2) else bif (a2 == 2) then (spec_l20Leaf x2 a1 a2).bind fun v16 => some (([v16.1] : List T_impl_Part), v16.2) else (spec_l20Rd_pick x2 6).bind fun v18 => bif (v18.1 == 0) then (rec0 v18.2 a1 3 (w64 (a3 - 1))).bind fun v21 => (rec0 v21.2 a1 3 (w64 (a3 - 2))).bind fun v23 => (app v21.1 v23.1).bind fun v25 => (spec_l20Rd_pick v23.2 2).bind fun v27 => (app v25 ([(T_impl_Part.mk (w64 (5 + v27.1)) 0 (T_impl_Value.mk 0 0 (ByteArray.mk #[])))] : List T_impl_Part)).bind fun v29 => some (v29, v27.2) else bif (v18.1 == 1) then (rec0 v18.2 a1 3 (w64 (a3 - 1))).bind fun v32 => (app v32.1 ([(T_impl_Part.mk 7 0 (T_impl_Value.mk 0 0 (ByteArray.mk #[])))] : List T_impl_Part)).bind fun v34 => some (v34, v32.2) else bif (v18.1 == 2) then (spec_l20Rd_pick v18.2 3).bind fun v37 => (rec0 v37.2 a1 (w64 (1 + v37.1)) (w64 (a3 - 1))).bind fun v39 => (app v39.1 ([(T_impl_Part.mk 8 0 (T_impl_Value.mk 0 0 (ByteArray.mk #[])))] : List T_impl_Part)).bind fun v41 => some (v41, v39.2) else (spec_l20Rd_pick v18.2 3).bind fun v43 => (rec0 v43.2 a1 (w64 (1 + v43.1)) (w64 (a3 - 1))).bind fun v45 => (spec_l20Leaf v45.2 a1 (w64 (1 + v43.1))).bind fun v47 => (app v45.1 ([v47.1] : List T_impl_Part)).bind fun v49 => (spec_l20Rd_pick v47.2 4).bind fun v51 => (app v49 ([(T_impl_Part.mk 4 (w64 (1 + v51.1)) (T_impl_Value.mk 0 0 (ByteArray.mk #[])))] : List T_impl_Part)).bind fun v53 => some (v53, v51.2)
def spec_l20Expr_s (rec0 : T_spec_l20Rd → (List T_impl_Column) → Int → Int → Option ((List T_impl_Part) × T_spec_l20Rd)) (a0 : T_spec_l20Rd) (a1 : List T_impl_Column) (a2 : Int) (a3 : Int) : Option ((List T_impl_Part) × T_spec_l20Rd) := bif (decide (a3 < 1)) then spec_l20Expr_j0 rec0 a1 a2 a3 true a0 else (spec_l20Rd_pick a0 4).bind fun v55 => spec_l20Expr_j0 rec0 a1 a2 a3 (v55.1 == 0) v55.2
def spec_l20Expr_f : Nat → T_spec_l20Rd → (List T_impl_Column) → Int → Int → Option ((List T_impl_Part) × T_spec_l20Rd)
 | 0, _, _, _, _ => none
 | f + 1, a0, a1, a2, a3 => spec_l20Expr_s (spec_l20Expr_f f) a0 a1 a2 a3
def spec_l20Expr (a0 : T_spec_l20Rd) (a1 : List T_impl_Column) (a2 : Int) (a3 : Int) : Option ((List T_impl_Part) × T_spec_l20Rd) := spec_l20Expr_f FUEL a0 a1 a2 a3
theorem ok_spec_l20Expr_s {rec0 : T_spec_l20Rd → (List T_impl_Column) → Int → Int → Option ((List T_impl_Part) × T_spec_l20Rd)} (hrec : ∀ {a0 : T_spec_l20Rd} {a1 : List T_impl_Column} {a2 : Int} {a3 : Int} {y : (List T_impl_Part) × T_spec_l20Rd}, rec0 a0 a1 a2 a3 = some y → OKb Try.prog 59 (Enc.cells a0) [A a1, I a2, I a3] (O y.1) (Enc.cells y.2)) {a0 : T_spec_l20Rd} {a1 : List T_impl_Column} {a2 : Int} {a3 : Int} {y : (List T_impl_Part) × T_spec_l20Rd} (h : spec_l20Expr_s rec0 a0 a1 a2 a3 = some y) : OKb Try.prog 59 (Enc.cells a0) [A a1, I a2, I a3] (O y.1) (Enc.cells y.2) := by
 refine OKb_of_pwp τ_ok Try.func59 rfl (by kernel_rfl) rfl (Enc.frz _) (Enc.frz _) fun Γ hQ => ?_
 unfold spec_l20Expr_s at h
 refine srve 111 [(0, .ptr 0 0 0), (1, A a1), (2, I a2), (3, I a3)] [sc 0 a0] ?_
 refine pwp_seq ?_
 refine pwp_seq ?_
 refine pwp_join (σ := Bool × T_spec_l20Rd) (fun (x1, x2) => (⟨111, [(0, .ptr 0 0 0), (1, A a1), (2, I a2), (3, I a3), (16, B x1)], [sc 0 x2]⟩ : St)) (fun (x1, x2) => spec_l20Expr_j0 rec0 a1 a2 a3 x1 x2 = some y) ?_ ?_
 refine rv 3 111 [(0, .ptr 0 0 0), (1, A a1), (2, I a2), (3, I a3), (12, B (decide (a3 < 1)))] [sc 0 a0] ?_
 rcases fk (decide (a3 < 1)) with hc57 | hc57
 replace h := bT hc57 h
 rw [hc57]
 refine ve 4 111 [(0, .ptr 0 0 0), (1, A a1), (2, I a2), (3, I a3), (16, B true)] [sc 0 a0] ?_
 exact ⟨(true, a0), h, it [0, 1, 2, 3, 16]⟩
 replace h := bF hc57 h
 rw [hc57]
 refine v 1 111 [(0, .ptr 0 0 0), (1, A a1), (2, I a2), (3, I a3), (12, B false), (13, .ptr 0 0 0)] [sc 0 a0] ?_
 obtain ⟨v55, hv56, h⟩ := bindS h
 refine cB 14 0 0 (ok_spec_l20Rd_pick hv56) ?_
 refine ve 2 111 [(0, .ptr 0 0 0), (1, A a1), (2, I a2), (3, I a3), (16, B (v55.1 == 0))] [sc 0 v55.2] ?_
 exact ⟨((v55.1 == 0), v55.2), h, it [0, 1, 2, 3, 16]⟩
 rintro ⟨x1, x2⟩ h
 dsimp only at h ⊢
 unfold spec_l20Expr_j0 at h
 refine pc h (fun h => ?_) (fun h => ?_)
 refine srv 3 111 [(17, .ptr 0 0 0), (18, A a1), (19, I a2)] [sc 0 x2] ?_
 obtain ⟨v4, hv5, h⟩ := bindS h
 refine cB 20 0 0 (ok_spec_l20Leaf hv5) ?_
 refine opsP_E (dd := some 21) (x := .ref 1 0 0 5 ([v4.1] : List T_impl_Part).length false) (bsl_N (cells := eL ([v4.1] : List T_impl_Part)) τ_ok 21 1 (by first | exact pn hQ | exact pk hQ) (by kernel_rfl) (by kernel_rfl)) ?_
 refine ve 1 111 [(8, .ref 1 0 0 5 ([v4.1] : List T_impl_Part).length false)] [sc 0 v4.2, some ⟨0, eL ([v4.1] : List T_impl_Part)⟩] ?_
 have h := si h
 subst h
 exact pwp_ret ⟨.inr rfl, .ref 1 0 0 5 ([v4.1] : List T_impl_Part).length false, _, 0, by kernel_rfl, (OutP.list (v := 0) (by kernel_rfl)), by decide, by decide, by kernel_rfl⟩
 refine pwp_skip ?_
 refine pwp_seq ?_
 refine srve 111 [(0, .ptr 0 0 0), (1, A a1), (2, I a2), (3, I a3), (23, B (a2 == 1))] [sc 0 x2] ?_
 refine pc h (fun h => ?_) (fun h => ?_)
 refine srv 5 111 [(0, .ptr 0 0 0), (1, A a1), (2, I a2), (24, .ptr 0 0 0), (25, A a1), (26, I a2), (28, I (w64 (a3 - 1)))] [sc 0 x2] ?_
 obtain ⟨v7, hv8, h⟩ := bindS h
 refine opsP_E (dd := some 29) (x := rf 1 0 5 v7.1) (callBN_E τ 29 0 0 1 (by first | exact pn hQ | exact pk hQ) (by decide) (hrec hv8) rfl (by kernel_rfl) (by kernel_rfl)) ?_
 refine v 3 111 [(29, rf 1 0 5 v7.1), (30, .ptr 0 0 0), (31, A a1), (32, I a2)] [sc 0 v7.2, sl 0 v7.1] ?_
 obtain ⟨v9, hv10, h⟩ := bindS h
 refine cB 33 0 0 (ok_spec_l20Leaf hv10) ?_
 refine v 1 111 [(29, rf 1 0 5 v7.1), (34, .arr 5 ([v9.1] : List T_impl_Part).length (eL ([v9.1] : List T_impl_Part)) true)] [sc 0 v9.2, sl 0 v7.1] ?_
 obtain ⟨v11, hv12, h⟩ := bindS h
 refine opsP_app τ_ok 35 1 0 (pn hQ) hv12 (by kernel_rfl) ?_
 refine v 2 111 [(35, rf 1 1 5 v11), (37, .arr 5 ([(T_impl_Part.mk 3 0 (T_impl_Value.mk 0 0 (ByteArray.mk #[])))] : List T_impl_Part).length (eL ([(T_impl_Part.mk 3 0 (T_impl_Value.mk 0 0 (ByteArray.mk #[])))] : List T_impl_Part)) true)] [sc 0 v9.2, sl 1 v11] ?_
 obtain ⟨v13, hv14, h⟩ := bindS h
 refine opsP_app τ_ok 38 1 1 (pn hQ) hv14 (by kernel_rfl) ?_
 refine ve 1 111 [(8, rf 1 2 5 v13)] [sc 0 v9.2, sl 2 v13] ?_
 have h := si h
 subst h
 exact pwp_ret ⟨.inr rfl, rf 1 2 5 v13, _, 0, by kernel_rfl, (OutP.list (v := 2) (by kernel_rfl)), by decide, by decide, by kernel_rfl⟩
 refine pwp_skip ?_
 refine pwp_seq ?_
 refine srve 111 [(0, .ptr 0 0 0), (1, A a1), (2, I a2), (3, I a3), (40, B (a2 == 2))] [sc 0 x2] ?_
 refine pc h (fun h => ?_) (fun h => ?_)
 refine srv 3 111 [(41, .ptr 0 0 0), (42, A a1), (43, I a2)] [sc 0 x2] ?_
 obtain ⟨v16, hv17, h⟩ := bindS h
 refine cB 44 0 0 (ok_spec_l20Leaf hv17) ?_
 refine opsP_E (dd := some 45) (x := .ref 1 0 0 5 ([v16.1] : List T_impl_Part).length false) (bsl_N (cells := eL ([v16.1] : List T_impl_Part)) τ_ok 45 1 (by first | exact pn hQ | exact pk hQ) (by kernel_rfl) (by kernel_rfl)) ?_
 refine ve 1 111 [(8, .ref 1 0 0 5 ([v16.1] : List T_impl_Part).length false)] [sc 0 v16.2, some ⟨0, eL ([v16.1] : List T_impl_Part)⟩] ?_
 have h := si h
 subst h
 exact pwp_ret ⟨.inr rfl, .ref 1 0 0 5 ([v16.1] : List T_impl_Part).length false, _, 0, by kernel_rfl, (OutP.list (v := 0) (by kernel_rfl)), by decide, by decide, by kernel_rfl⟩
 refine pwp_skip ?_
 refine pwp_seq ?_
 refine srv 1 111 [(0, .ptr 0 0 0), (1, A a1), (3, I a3), (46, .ptr 0 0 0)] [sc 0 x2] ?_
 obtain ⟨v18, hv19, h⟩ := bindS h
 refine cB 47 0 0 (ok_spec_l20Rd_pick hv19) ?_
 refine ve 0 111 [(0, .ptr 0 0 0), (1, A a1), (3, I a3), (47, I v18.1)] [sc 0 v18.2] ?_
 refine pwp_block ?_
 refine srve 111 [(0, .ptr 0 0 0), (1, A a1), (3, I a3), (47, I v18.1), (48, B (v18.1 == 0))] [sc 0 v18.2] ?_
 refine pc h (fun h => ?_) (fun h => ?_)
 refine srv 4 111 [(0, .ptr 0 0 0), (1, A a1), (3, I a3), (50, .ptr 0 0 0), (51, A a1), (53, I (w64 (a3 - 1)))] [sc 0 v18.2] ?_
 obtain ⟨v21, hv22, h⟩ := bindS h
 refine opsP_E (dd := some 54) (x := rf 1 0 5 v21.1) (callBN_E τ 54 0 0 1 (by first | exact pn hQ | exact pk hQ) (by decide) (hrec hv22) rfl (by kernel_rfl) (by kernel_rfl)) ?_
 refine v 4 111 [(0, .ptr 0 0 0), (54, rf 1 0 5 v21.1), (55, .ptr 0 0 0), (56, A a1), (58, I (w64 (a3 - 2)))] [sc 0 v21.2, sl 0 v21.1] ?_
 obtain ⟨v23, hv24, h⟩ := bindS h
 refine cBo 59 0 0 (hrec hv24) ?_
 obtain ⟨v25, hv26, h⟩ := bindS h
 refine opsP_app τ_ok 60 1 0 (pn hQ) hv26 (by kernel_rfl) ?_
 refine v 1 111 [(60, rf 1 1 5 v25), (61, .ptr 0 0 0)] [sc 0 v23.2, sl 1 v25] ?_
 obtain ⟨v27, hv28, h⟩ := bindS h
 refine cB 62 0 0 (ok_spec_l20Rd_pick hv28) ?_
 refine v 3 111 [(60, rf 1 1 5 v25), (65, .arr 5 ([(T_impl_Part.mk (w64 (5 + v27.1)) 0 (T_impl_Value.mk 0 0 (ByteArray.mk #[])))] : List T_impl_Part).length (eL ([(T_impl_Part.mk (w64 (5 + v27.1)) 0 (T_impl_Value.mk 0 0 (ByteArray.mk #[])))] : List T_impl_Part)) true)] [sc 0 v27.2, sl 1 v25] ?_
 obtain ⟨v29, hv30, h⟩ := bindS h
 refine opsP_app τ_ok 66 1 1 (pn hQ) hv30 (by kernel_rfl) ?_
 refine ve 1 111 [(8, rf 1 2 5 v29)] [sc 0 v27.2, sl 2 v29] ?_
 have h := si h
 subst h
 exact pwp_ret ⟨.inr rfl, rf 1 2 5 v29, _, 0, by kernel_rfl, (OutP.list (v := 2) (by kernel_rfl)), by decide, by decide, by kernel_rfl⟩
 refine srve 111 [(0, .ptr 0 0 0), (1, A a1), (3, I a3), (47, I v18.1), (67, B (v18.1 == 1))] [sc 0 v18.2] ?_
 refine pc h (fun h => ?_) (fun h => ?_)
 refine srv 4 111 [(69, .ptr 0 0 0), (70, A a1), (72, I (w64 (a3 - 1)))] [sc 0 v18.2] ?_
 obtain ⟨v32, hv33, h⟩ := bindS h
 refine opsP_E (dd := some 73) (x := rf 1 0 5 v32.1) (callBN_E τ 73 0 0 1 (by first | exact pn hQ | exact pk hQ) (by decide) (hrec hv33) rfl (by kernel_rfl) (by kernel_rfl)) ?_
 refine v 2 111 [(73, rf 1 0 5 v32.1), (75, .arr 5 ([(T_impl_Part.mk 7 0 (T_impl_Value.mk 0 0 (ByteArray.mk #[])))] : List T_impl_Part).length (eL ([(T_impl_Part.mk 7 0 (T_impl_Value.mk 0 0 (ByteArray.mk #[])))] : List T_impl_Part)) true)] [sc 0 v32.2, sl 0 v32.1] ?_
 obtain ⟨v34, hv35, h⟩ := bindS h
 refine opsP_app τ_ok 76 1 0 (pn hQ) hv35 (by kernel_rfl) ?_
 refine ve 1 111 [(8, rf 1 1 5 v34)] [sc 0 v32.2, sl 1 v34] ?_
 have h := si h
 subst h
 exact pwp_ret ⟨.inr rfl, rf 1 1 5 v34, _, 0, by kernel_rfl, (OutP.list (v := 1) (by kernel_rfl)), by decide, by decide, by kernel_rfl⟩
 refine srve 111 [(0, .ptr 0 0 0), (1, A a1), (3, I a3), (77, B (v18.1 == 2))] [sc 0 v18.2] ?_
 refine pc h (fun h => ?_) (fun h => ?_)
 refine srv 3 111 [(3, I a3), (79, .ptr 0 0 0), (80, A a1), (81, .ptr 0 0 0)] [sc 0 v18.2] ?_
 obtain ⟨v37, hv38, h⟩ := bindS h
 refine cB 82 0 0 (ok_spec_l20Rd_pick hv38) ?_
 refine v 3 111 [(79, .ptr 0 0 0), (80, A a1), (83, I (w64 (1 + v37.1))), (85, I (w64 (a3 - 1)))] [sc 0 v37.2] ?_
 obtain ⟨v39, hv40, h⟩ := bindS h
 refine opsP_E (dd := some 86) (x := rf 1 0 5 v39.1) (callBN_E τ 86 0 0 1 (by first | exact pn hQ | exact pk hQ) (by decide) (hrec hv40) rfl (by kernel_rfl) (by kernel_rfl)) ?_
 refine v 2 111 [(86, rf 1 0 5 v39.1), (88, .arr 5 ([(T_impl_Part.mk 8 0 (T_impl_Value.mk 0 0 (ByteArray.mk #[])))] : List T_impl_Part).length (eL ([(T_impl_Part.mk 8 0 (T_impl_Value.mk 0 0 (ByteArray.mk #[])))] : List T_impl_Part)) true)] [sc 0 v39.2, sl 0 v39.1] ?_
 obtain ⟨v41, hv42, h⟩ := bindS h
 refine opsP_app τ_ok 89 1 0 (pn hQ) hv42 (by kernel_rfl) ?_
 refine ve 1 111 [(8, rf 1 1 5 v41)] [sc 0 v39.2, sl 1 v41] ?_
 have h := si h
 subst h
 exact pwp_ret ⟨.inr rfl, rf 1 1 5 v41, _, 0, by kernel_rfl, (OutP.list (v := 1) (by kernel_rfl)), by decide, by decide, by kernel_rfl⟩
 refine pwp_skip ?_
 refine srv 1 111 [(0, .ptr 0 0 0), (1, A a1), (3, I a3), (90, .ptr 0 0 0)] [sc 0 v18.2] ?_
 obtain ⟨v43, hv44, h⟩ := bindS h
 refine cB 91 0 0 (ok_spec_l20Rd_pick hv44) ?_
 refine ve 2 111 [(0, .ptr 0 0 0), (1, A a1), (3, I a3), (9, I (w64 (1 + v43.1)))] [sc 0 v43.2] ?_
 refine srv 5 111 [(0, .ptr 0 0 0), (1, A a1), (9, I (w64 (1 + v43.1))), (93, .ptr 0 0 0), (94, A a1), (95, I (w64 (1 + v43.1))), (97, I (w64 (a3 - 1)))] [sc 0 v43.2] ?_
 obtain ⟨v45, hv46, h⟩ := bindS h
 refine opsP_E (dd := some 98) (x := rf 1 0 5 v45.1) (callBN_E τ 98 0 0 1 (by first | exact pn hQ | exact pk hQ) (by decide) (hrec hv46) rfl (by kernel_rfl) (by kernel_rfl)) ?_
 refine v 3 111 [(0, .ptr 0 0 0), (98, rf 1 0 5 v45.1), (99, .ptr 0 0 0), (100, A a1), (101, I (w64 (1 + v43.1)))] [sc 0 v45.2, sl 0 v45.1] ?_
 obtain ⟨v47, hv48, h⟩ := bindS h
 refine cB 102 0 0 (ok_spec_l20Leaf hv48) ?_
 refine v 1 111 [(0, .ptr 0 0 0), (98, rf 1 0 5 v45.1), (103, .arr 5 ([v47.1] : List T_impl_Part).length (eL ([v47.1] : List T_impl_Part)) true)] [sc 0 v47.2, sl 0 v45.1] ?_
 obtain ⟨v49, hv50, h⟩ := bindS h
 refine opsP_app τ_ok 104 1 0 (pn hQ) hv50 (by kernel_rfl) ?_
 refine v 1 111 [(104, rf 1 1 5 v49), (105, .ptr 0 0 0)] [sc 0 v47.2, sl 1 v49] ?_
 obtain ⟨v51, hv52, h⟩ := bindS h
 refine cB 106 0 0 (ok_spec_l20Rd_pick hv52) ?_
 refine v 3 111 [(104, rf 1 1 5 v49), (109, .arr 5 ([(T_impl_Part.mk 4 (w64 (1 + v51.1)) (T_impl_Value.mk 0 0 (ByteArray.mk #[])))] : List T_impl_Part).length (eL ([(T_impl_Part.mk 4 (w64 (1 + v51.1)) (T_impl_Value.mk 0 0 (ByteArray.mk #[])))] : List T_impl_Part)) true)] [sc 0 v51.2, sl 1 v49] ?_
 obtain ⟨v53, hv54, h⟩ := bindS h
 refine opsP_app τ_ok 110 1 1 (pn hQ) hv54 (by kernel_rfl) ?_
 refine ve 1 111 [(8, rf 1 2 5 v53)] [sc 0 v51.2, sl 2 v53] ?_
 have h := si h
 subst h
 exact pwp_ret ⟨.inr rfl, rf 1 2 5 v53, _, 0, by kernel_rfl, (OutP.list (v := 2) (by kernel_rfl)), by decide, by decide, by kernel_rfl⟩
theorem ok_spec_l20Expr_f : ∀ (f : Nat) {a0 : T_spec_l20Rd} {a1 : List T_impl_Column} {a2 : Int} {a3 : Int} {y : (List T_impl_Part) × T_spec_l20Rd}, spec_l20Expr_f f a0 a1 a2 a3 = some y → OKb Try.prog 59 (Enc.cells a0) [A a1, I a2, I a3] (O y.1) (Enc.cells y.2)
 | 0, _, _, _, _, _, h => by cases h
 | f + 1, _, _, _, _, _, h => ok_spec_l20Expr_s (fun h => ok_spec_l20Expr_f f h) h
theorem ok_spec_l20Expr {a0 : T_spec_l20Rd} {a1 : List T_impl_Column} {a2 : Int} {a3 : Int} {y : (List T_impl_Part) × T_spec_l20Rd} (h : spec_l20Expr a0 a1 a2 a3 = some y) : OKb Try.prog 59 (Enc.cells a0) [A a1, I a2, I a3] (O y.1) (Enc.cells y.2) := ok_spec_l20Expr_f FUEL h
def slices_ContainsFunc_impl_Column_impl_Column (a0 : List T_impl_Column) (a1 : T_impl_Column → Option Bool) : Option Bool := (slices_IndexFunc_impl_Column_impl_Column a0 a1).bind fun v1 => some (decide (v1 ≥ 0))
theorem ok_slices_ContainsFunc_impl_Column_impl_Column {a0 : List T_impl_Column} {g1 : FuncId} {c1 : List V} (hz1 : frzL c1 = true) {a1 : T_impl_Column → Option Bool} (hp1 : ∀ x0 y, a1 x0 = some y → OK Try.prog g1 ([E x0] ++ c1) (B y)) {y : Bool} (h : slices_ContainsFunc_impl_Column_impl_Column a0 a1 = some y) : OK Try.prog 60 [A a0, .fn g1 c1] (B y) := by
 refine ow Try.func60 fun Γ hX => ?_
 unfold slices_ContainsFunc_impl_Column_impl_Column at h
 refine srve 9 [(0, A a0), (1, .fn g1 c1)] [] ?_
 refine srv 2 9 [(5, A a0), (6, .fn g1 c1)] [] ?_
 obtain ⟨v1, hv2, h⟩ := bindS h
 refine opsP_callF τ 7 (ok_slices_IndexFunc_impl_Column_impl_Column (hz1) (hp1) hv2) (FzTo.frz rfl) (by simp only [frzL, frz, hz1, Bool.and_true]) (by kernel_rfl) ?_
 refine ve 2 9 [(4, B (decide (v1 ≥ 0)))] [] ?_
 cases h
 exact pwp_ret rz
def impl_ColumnsOk_1 (a0 : T_impl_Column) : Option Bool := (impl_between a0.fKind 1 3).bind fun v1 => some (!v1)
theorem ok_impl_ColumnsOk_1 {a0 : T_impl_Column} {y : Bool} (h : impl_ColumnsOk_1 a0 = some y) : OK Try.prog 61 [E a0] (B y) := by
 refine ow Try.func61 fun Γ hX => ?_
 unfold impl_ColumnsOk_1 at h
 refine srve 7 [(1, pf a0 0)] [] ?_
 refine srv 2 7 [(4, I a0.fKind)] [] ?_
 obtain ⟨v1, hv2, h⟩ := bindS h
 refine cF 5 (ok_impl_between hv2) ?_
 refine ve 2 7 [(2, B (!v1))] [] ?_
 cases h
 exact pwp_ret rz
def slices_ContainsFunc_int_int (a0 : List Int) (a1 : Int → Option Bool) : Option Bool := (slices_IndexFunc_int_int a0 a1).bind fun v1 => some (decide (v1 ≥ 0))
theorem ok_slices_ContainsFunc_int_int {a0 : List Int} {g1 : FuncId} {c1 : List V} (hz1 : frzL c1 = true) {a1 : Int → Option Bool} (hp1 : ∀ x0 y, a1 x0 = some y → OK Try.prog g1 ([I x0] ++ c1) (B y)) {y : Bool} (h : slices_ContainsFunc_int_int a0 a1 = some y) : OK Try.prog 64 [A a0, .fn g1 c1] (B y) := by
 refine ow Try.func64 fun Γ hX => ?_
 unfold slices_ContainsFunc_int_int at h
 refine srve 9 [(0, A a0), (1, .fn g1 c1)] [] ?_
 refine srv 2 9 [(5, A a0), (6, .fn g1 c1)] [] ?_
 obtain ⟨v1, hv2, h⟩ := bindS h
 refine opsP_callF τ 7 (ok_slices_IndexFunc_int_int (hz1) (hp1) hv2) (FzTo.frz rfl) (by simp only [frzL, frz, hz1, Bool.and_true]) (by kernel_rfl) ?_
 refine ve 2 9 [(4, B (decide (v1 ≥ 0)))] [] ?_
 cases h
 exact pwp_ret rz
def spec_ValueOk (a0 : T_impl_Value) : Option Bool := bif (a0.fKind == 0) then bif (a0.fN == 0) then some (a0.fS.toList == (ByteArray.mk #[]).toList) else some false else bif (a0.fKind == 1) then (spec_l1In a0.fN (-9999) 9999).bind fun v4 => bif v4 then some (a0.fS.toList == (ByteArray.mk #[]).toList) else some false else bif (a0.fKind == 2) then bif (a0.fN == 0) then (spec_l1Text a0.fS).bind fun v8 => some v8 else some false else bif (a0.fKind == 3) then (spec_l1In a0.fN 0 1).bind fun v12 => bif v12 then some (a0.fS.toList == (ByteArray.mk #[]).toList) else some false else some false
theorem ok_spec_ValueOk {a0 : T_impl_Value} {y : Bool} (h : spec_ValueOk a0 = some y) : OK Try.prog 70 [E a0] (B y) := by
 refine ow Try.func70 fun Γ hX => ?_
 unfold spec_ValueOk at h
 refine srve 45 [(1, pf a0 0)] [] ?_
 refine pwp_seq ?_
 refine srve 45 [(1, pf a0 0), (4, I a0.fKind)] [] ?_
 refine pwp_block ?_
 refine srve 45 [(1, pf a0 0), (4, I a0.fKind), (5, B (a0.fKind == 0))] [] ?_
 refine pc h (fun h => ?_) (fun h => ?_)
 refine srv 4 45 [(1, pf a0 0), (10, B (a0.fN == 0))] [] ?_
 rcases fk (a0.fN == 0) with hc2 | hc2
 replace h := bT hc2 h
 rw [hc2]
 refine ve 5 45 [(2, B (a0.fS.toList == (ByteArray.mk #[]).toList))] [] ?_
 cases h
 exact pwp_ret rz
 replace h := bF hc2 h
 rw [hc2]
 refine ve 5 45 [(2, B false)] [] ?_
 cases h
 exact pwp_ret rz
 refine srve 45 [(1, pf a0 0), (4, I a0.fKind), (15, B (a0.fKind == 1))] [] ?_
 refine pc h (fun h => ?_) (fun h => ?_)
 refine srv 2 45 [(1, pf a0 0), (18, I a0.fN)] [] ?_
 obtain ⟨v4, hv5, h⟩ := bindS h
 refine cF 19 (ok_spec_l1In hv5) ?_
 refine v 1 45 [(1, pf a0 0), (20, B v4)] [] ?_
 rcases Bool.eq_false_or_eq_true v4 with hc6 | hc6
 replace h := bT hc6 h
 rw [hc6]
 refine ve 5 45 [(2, B (a0.fS.toList == (ByteArray.mk #[]).toList))] [] ?_
 cases h
 exact pwp_ret rz
 replace h := bF hc6 h
 rw [hc6]
 refine ve 5 45 [(2, B false)] [] ?_
 cases h
 exact pwp_ret rz
 refine srve 45 [(1, pf a0 0), (4, I a0.fKind), (25, B (a0.fKind == 2))] [] ?_
 refine pc h (fun h => ?_) (fun h => ?_)
 refine srv 4 45 [(1, pf a0 0), (30, B (a0.fN == 0))] [] ?_
 rcases fk (a0.fN == 0) with hc10 | hc10
 replace h := bT hc10 h
 rw [hc10]
 refine v 2 45 [(30, B true), (32, S a0.fS)] [] ?_
 obtain ⟨v8, hv9, h⟩ := bindS h
 refine cF 33 (ok_spec_l1Text hv9) ?_
 refine ve 2 45 [(2, B v8)] [] ?_
 cases h
 exact pwp_ret rz
 replace h := bF hc10 h
 rw [hc10]
 refine ve 5 45 [(2, B false)] [] ?_
 cases h
 exact pwp_ret rz
 refine srve 45 [(1, pf a0 0), (35, B (a0.fKind == 3))] [] ?_
 refine pc h (fun h => ?_) (fun h => ?_)
 refine srv 2 45 [(1, pf a0 0), (38, I a0.fN)] [] ?_
 obtain ⟨v12, hv13, h⟩ := bindS h
 refine cF 39 (ok_spec_l1In hv13) ?_
 refine v 1 45 [(1, pf a0 0), (40, B v12)] [] ?_
 rcases Bool.eq_false_or_eq_true v12 with hc14 | hc14
 replace h := bT hc14 h
 rw [hc14]
 refine ve 5 45 [(2, B (a0.fS.toList == (ByteArray.mk #[]).toList))] [] ?_
 cases h
 exact pwp_ret rz
 replace h := bF hc14 h
 rw [hc14]
 refine ve 5 45 [(2, B false)] [] ?_
 cases h
 exact pwp_ret rz
 refine pwp_skip ?_
 refine srve 45 [(2, B false)] [] ?_
 cases h
 exact pwp_ret rz
def slices_ContainsFunc_impl_Value_impl_Value (a0 : List T_impl_Value) (a1 : T_impl_Value → Option Bool) : Option Bool := (slices_IndexFunc_impl_Value_impl_Value a0 a1).bind fun v1 => some (decide (v1 ≥ 0))
theorem ok_slices_ContainsFunc_impl_Value_impl_Value {a0 : List T_impl_Value} {g1 : FuncId} {c1 : List V} (hz1 : frzL c1 = true) {a1 : T_impl_Value → Option Bool} (hp1 : ∀ x0 y, a1 x0 = some y → OK Try.prog g1 ([E x0] ++ c1) (B y)) {y : Bool} (h : slices_ContainsFunc_impl_Value_impl_Value a0 a1 = some y) : OK Try.prog 71 [A a0, .fn g1 c1] (B y) := by
 refine ow Try.func71 fun Γ hX => ?_
 unfold slices_ContainsFunc_impl_Value_impl_Value at h
 refine srve 9 [(0, A a0), (1, .fn g1 c1)] [] ?_
 refine srv 2 9 [(5, A a0), (6, .fn g1 c1)] [] ?_
 obtain ⟨v1, hv2, h⟩ := bindS h
 refine opsP_callF τ 7 (ok_slices_IndexFunc_impl_Value_impl_Value (hz1) (hp1) hv2) (FzTo.frz rfl) (by simp only [frzL, frz, hz1, Bool.and_true]) (by kernel_rfl) ?_
 refine ve 2 9 [(4, B (decide (v1 ≥ 0)))] [] ?_
 cases h
 exact pwp_ret rz
def impl_RowOk_1 (a0 : T_impl_Value) : Option Bool := (impl_Value_ok a0).bind fun v1 => some (!v1)
theorem ok_impl_RowOk_1 {a0 : T_impl_Value} {y : Bool} (h : impl_RowOk_1 a0 = some y) : OK Try.prog 72 [E a0] (B y) := by
 refine ow Try.func72 fun Γ hX => ?_
 unfold impl_RowOk_1 at h
 refine srve 6 [(1, pf a0 0)] [] ?_
 refine srv 1 6 [(3, E a0)] [] ?_
 obtain ⟨v1, hv2, h⟩ := bindS h
 refine cF 4 (ok_impl_Value_ok hv2) ?_
 refine ve 2 6 [(2, B (!v1))] [] ?_
 cases h
 exact pwp_ret rz
def impl_TruthOf (a0 : T_impl_Value) : Option Int := (impl_Value_ok a0).bind fun v1 => bif (!v1) then some (-1) else bif (a0.fKind == 0) then some 2 else bif (a0.fKind == 3) then some a0.fN else some (-1)
theorem ok_impl_TruthOf {a0 : T_impl_Value} {y : Int} (h : impl_TruthOf a0 = some y) : OK Try.prog 76 [E a0] (I y) := by
 refine ow Try.func76 fun Γ hX => ?_
 unfold impl_TruthOf at h
 refine srve 17 [(1, pf a0 0)] [] ?_
 refine pwp_seq ?_
 refine pwp_block ?_
 refine srv 1 17 [(1, pf a0 0), (4, E a0)] [] ?_
 obtain ⟨v1, hv2, h⟩ := bindS h
 refine cF 5 (ok_impl_Value_ok hv2) ?_
 refine ve 2 17 [(1, pf a0 0), (3, B (!v1))] [] ?_
 refine pc h (fun h => ?_) (fun h => ?_)
 refine srve 17 [(2, I (-1))] [] ?_
 cases h
 exact pwp_ret rz
 refine srve 17 [(1, pf a0 0), (7, B (a0.fKind == 0))] [] ?_
 refine pc h (fun h => ?_) (fun h => ?_)
 refine srve 17 [(2, I 2)] [] ?_
 cases h
 exact pwp_ret rz
 refine srve 17 [(1, pf a0 0), (11, B (a0.fKind == 3))] [] ?_
 refine pc h (fun h => ?_) (fun h => ?_)
 refine srve 17 [(2, I a0.fN)] [] ?_
 cases h
 exact pwp_ret rz
 refine pwp_skip ?_
 refine srve 17 [(2, I (-1))] [] ?_
 cases h
 exact pwp_ret rz
def impl_fold_j2 (a2 : Int) (x5 : Bool) : Option Int := bif x5 then some 2 else some (w64 (1 - a2))
def impl_fold_j1 (a0 : Int) (a1 : Int) (a2 : Int) (x3 : Bool) : Option Int := bif x3 then some a2 else bif (a0 == 2) then impl_fold_j2 a2 true else impl_fold_j2 a2 (a1 == 2)
def impl_fold_j0 (a0 : Int) (a1 : Int) (a2 : Int) (x1 : Bool) : Option Int := bif x1 then some (-1) else bif (a0 == a2) then impl_fold_j1 a0 a1 a2 true else impl_fold_j1 a0 a1 a2 (a1 == a2)
def impl_fold (a0 : Int) (a1 : Int) (a2 : Int) : Option Int := (impl_TruthOk a0).bind fun v9 => bif (!v9) then impl_fold_j0 a0 a1 a2 true else (impl_TruthOk a1).bind fun v11 => impl_fold_j0 a0 a1 a2 (!v11)
theorem ok_impl_fold {a0 : Int} {a1 : Int} {a2 : Int} {y : Int} (h : impl_fold a0 a1 a2 = some y) : OK Try.prog 98 [I a0, I a1, I a2] (I y) := by
 refine ow Try.func98 fun Γ hX => ?_
 unfold impl_fold at h
 refine srve 35 [(0, I a0), (1, I a1), (2, I a2)] [] ?_
 refine pwp_seq ?_
 refine pwp_block ?_
 refine pwp_seq ?_
 refine pwp_join (σ := Bool) (fun x1 => (⟨35, [(0, I a0), (1, I a1), (2, I a2), (7, B x1)], []⟩ : St)) (fun x1 => impl_fold_j0 a0 a1 a2 x1 = some y) ?_ ?_
 refine rv 1 35 [(0, I a0), (1, I a1), (2, I a2), (8, I a0)] [] ?_
 obtain ⟨v9, hv10, h⟩ := bindS h
 refine cF 9 (ok_impl_TruthOk hv10) ?_
 refine v 2 35 [(0, I a0), (1, I a1), (2, I a2), (11, B (!v9))] [] ?_
 rcases fk (!v9) with hc13 | hc13
 replace h := bT hc13 h
 rw [hc13]
 refine ve 5 35 [(0, I a0), (1, I a1), (2, I a2), (7, B true)] [] ?_
 exact ⟨true, h, it [0, 1, 2, 7]⟩
 replace h := bF hc13 h
 rw [hc13]
 refine v 1 35 [(0, I a0), (1, I a1), (2, I a2), (11, B false), (12, I a1)] [] ?_
 obtain ⟨v11, hv12, h⟩ := bindS h
 refine cF 13 (ok_impl_TruthOk hv12) ?_
 refine ve 3 35 [(0, I a0), (1, I a1), (2, I a2), (7, B (!v11))] [] ?_
 exact ⟨(!v11), h, it [0, 1, 2, 7]⟩
 rintro x1 h
 unfold impl_fold_j0 at h
 refine pc h (fun h => ?_) (fun h => ?_)
 refine srve 35 [(6, I (-1))] [] ?_
 cases h
 exact pwp_ret rz
 refine pwp_seq ?_
 refine pwp_join (σ := Bool) (fun x3 => (⟨35, [(0, I a0), (1, I a1), (2, I a2), (16, B x3)], []⟩ : St)) (fun x3 => impl_fold_j1 a0 a1 a2 x3 = some y) ?_ ?_
 refine rv 4 35 [(0, I a0), (1, I a1), (2, I a2), (20, B (a0 == a2))] [] ?_
 rcases fk (a0 == a2) with hc8 | hc8
 replace h := bT hc8 h
 rw [hc8]
 refine ve 5 35 [(0, I a0), (1, I a1), (2, I a2), (16, B true)] [] ?_
 exact ⟨true, h, it [0, 1, 2, 16]⟩
 replace h := bF hc8 h
 rw [hc8]
 refine ve 5 35 [(0, I a0), (1, I a1), (2, I a2), (16, B (a1 == a2))] [] ?_
 exact ⟨(a1 == a2), h, it [0, 1, 2, 16]⟩
 rintro x3 h
 unfold impl_fold_j1 at h
 refine pc h (fun h => ?_) (fun h => ?_)
 refine srve 35 [(6, I a2)] [] ?_
 cases h
 exact pwp_ret rz
 refine pwp_seq ?_
 refine pwp_join (σ := Bool) (fun x5 => (⟨35, [(2, I a2), (26, B x5)], []⟩ : St)) (fun x5 => impl_fold_j2 a2 x5 = some y) ?_ ?_
 refine rv 3 35 [(1, I a1), (2, I a2), (29, B (a0 == 2))] [] ?_
 rcases fk (a0 == 2) with hc7 | hc7
 replace h := bT hc7 h
 rw [hc7]
 refine ve 4 35 [(2, I a2), (26, B true)] [] ?_
 exact ⟨true, h, it [2, 26]⟩
 replace h := bF hc7 h
 rw [hc7]
 refine ve 4 35 [(2, I a2), (26, B (a1 == 2))] [] ?_
 exact ⟨(a1 == 2), h, it [2, 26]⟩
 rintro x5 h
 unfold impl_fold_j2 at h
 refine pc h (fun h => ?_) (fun h => ?_)
 refine srve 35 [(6, I 2)] [] ?_
 cases h
 exact pwp_ret rz
 refine pwp_skip ?_
 refine srve 35 [(6, I (w64 (1 - a2)))] [] ?_
 cases h
 exact pwp_ret rz
def cmp_Compare_string (a0 : ByteArray) (a1 : ByteArray) : Option Int := (cmp_isNaN_string a0).bind fun v1 => (cmp_isNaN_string a1).bind fun v3 => bif v1 then bif v3 then some 0 else some (-1) else bif v3 then some 1 else bif (Op.bytesLess a0.toList a1.toList) then some (-1) else bif (!Op.bytesLess a0.toList a1.toList && !(a0.toList == a1.toList)) then some 1 else some 0
theorem ok_cmp_Compare_string {a0 : ByteArray} {a1 : ByteArray} {y : Int} (h : cmp_Compare_string a0 a1 = some y) : OK Try.prog 107 [S a0, S a1] (I y) := by
 refine ow Try.func107 fun Γ hX => ?_
 unfold cmp_Compare_string at h
 refine srve 20 [(0, S a0), (1, S a1)] [] ?_
 refine srv 1 20 [(0, S a0), (1, S a1), (7, S a0)] [] ?_
 obtain ⟨v1, hv2, h⟩ := bindS h
 refine cF 8 (ok_cmp_isNaN_string hv2) ?_
 refine ve 1 20 [(0, S a0), (1, S a1), (5, B v1)] [] ?_
 refine srv 1 20 [(0, S a0), (1, S a1), (5, B v1), (9, S a1)] [] ?_
 obtain ⟨v3, hv4, h⟩ := bindS h
 refine cF 10 (ok_cmp_isNaN_string hv4) ?_
 refine ve 1 20 [(0, S a0), (1, S a1), (5, B v1), (6, B v3)] [] ?_
 refine pwp_seq ?_
 refine srve 20 [(0, S a0), (1, S a1), (6, B v3), (11, B v1)] [] ?_
 refine pc h (fun h => ?_) (fun h => ?_)
 refine pwp_seq ?_
 refine srve 20 [(12, B v3)] [] ?_
 refine pc h (fun h => ?_) (fun h => ?_)
 refine srve 20 [(4, I 0)] [] ?_
 cases h
 exact pwp_ret rz
 refine pwp_skip ?_
 refine srve 20 [(4, I (-1))] [] ?_
 cases h
 exact pwp_ret rz
 refine pwp_skip ?_
 refine pwp_seq ?_
 refine srve 20 [(0, S a0), (1, S a1), (13, B v3)] [] ?_
 refine pc h (fun h => ?_) (fun h => ?_)
 refine srve 20 [(4, I 1)] [] ?_
 cases h
 exact pwp_ret rz
 refine pwp_skip ?_
 refine pwp_seq ?_
 refine srve 20 [(0, S a0), (1, S a1), (16, B (Op.bytesLess a0.toList a1.toList))] [] ?_
 refine pc h (fun h => ?_) (fun h => ?_)
 refine srve 20 [(4, I (-1))] [] ?_
 cases h
 exact pwp_ret rz
 refine pwp_skip ?_
 refine pwp_seq ?_
 refine srve 20 [(19, B (!Op.bytesLess a0.toList a1.toList && !(a0.toList == a1.toList)))] [] ?_
 refine pc h (fun h => ?_) (fun h => ?_)
 refine srve 20 [(4, I 1)] [] ?_
 cases h
 exact pwp_ret rz
 refine pwp_skip ?_
 refine srve 20 [(4, I 0)] [] ?_
 cases h
 exact pwp_ret rz
def impl_exprColumns_l0 (a0 : List T_impl_Part) : Nat → Int → (List Int) → Option (List Int)
 | 0, _, _ => none
 | f4 + 1, x2, x3 => bif (decide (x2 < (a0.length : Int))) then (getI a0 x2).bind fun v7 => bif (v7.fKind == 2) then (app x3 ([v7.fN] : List Int)).bind fun v10 => (impl_exprColumns_l0 a0 f4) (w64 (x2 + 1)) v10 else (impl_exprColumns_l0 a0 f4) (w64 (x2 + 1)) x3 else (sortI x3).bind fun v12 => (compactI v12).bind fun v14 => (impl_clone_int v14).bind fun v16 => some v16
def impl_exprColumns (a0 : List T_impl_Part) : Option (List Int) := impl_exprColumns_l0 a0 FUEL 0 ([] : List Int)
theorem ok_impl_exprColumns {a0 : List T_impl_Part} {y : List Int} (h : impl_exprColumns a0 = some y) : OK Try.prog 26 [A a0] (A y) := by
 refine ow Try.func26 fun Γ hX => ?_
 unfold impl_exprColumns at h
 refine srveM [5] 26 [(0, A a0)] [] ?_
 refine srveM [5] 26 [(0, A a0), (3, .arr 1 0 (eL ([] : List Int)) true)] [] ?_
 refine pwp_seq ?_
 refine srveM [5] 26 [(3, .arr 1 0 (eL ([] : List Int)) true), (6, A a0), (7, I (a0.length : Int)), (8, I 0)] [] ?_
 refine pwp_block ?_
 refine pwp_loop (ι := Nat × Int × (List Int)) (fun (f4, x2, x3) => (⟨26, [(3, rf 0 0 1 x3), (6, A a0), (7, I (a0.length : Int)), (8, I x2)], [sl 0 x3]⟩ : St)) (fun (f4, x2, x3) => impl_exprColumns_l0 a0 f4 x2 x3 = some y) Prod.fst (FUEL, 0, ([] : List Int)) h (Imp.thawS 3 [3, 6, 7, 8] (by kernel_rfl)) ?_
 rintro ⟨f4, x2, x3⟩ h
 dsimp only at h ⊢
 rcases f4 with _ | f4
 cases h
 rw [impl_exprColumns_l0] at h
 refine srveM [5] 26 [(3, rf 0 0 1 x3), (6, A a0), (7, I (a0.length : Int)), (8, I x2), (9, B (decide (x2 < (a0.length : Int))))] [sl 0 x3] ?_
 refine pwp_seq ?_
 refine pc h (fun h => ?_) (fun h => ?_)
 refine pwp_skip ?_
 refine pwp_seq ?_
 refine pwp_block ?_
 refine pwp_seq ?_
 refine pwp_region ?_
 obtain ⟨v7, hv8, h⟩ := bindS h
 refine opsP_idx τ_ok 10 hv8 (by kernel_rfl) ?_
 refine veM [5] 3 26 [(3, rf 0 0 1 x3), (5, .ptr 1 0 0), (6, A a0), (7, I (a0.length : Int)), (8, I x2)] [sl 0 x3, sc 0 v7] ?_
 refine srveM [5] 26 [(3, rf 0 0 1 x3), (5, .ptr 1 0 0), (6, A a0), (7, I (a0.length : Int)), (8, I x2), (14, B (v7.fKind == 2))] [sl 0 x3, sc 0 v7] ?_
 refine pc h (fun h => ?_) (fun h => ?_)
 refine rvM [5] 4 26 [(6, A a0), (7, I (a0.length : Int)), (8, I x2), (15, rf 0 0 1 x3), (18, .arr 1 ([v7.fN] : List Int).length (eL ([v7.fN] : List Int)) true)] [sl 0 x3, sc 0 v7] ?_
 obtain ⟨v10, hv11, h⟩ := bindS h
 refine opsP_app τ_ok 19 0 0 (nx hX) hv11 (by kernel_rfl) ?_
 refine veM [5] 1 26 [(3, rf 0 1 1 v10), (6, A a0), (7, I (a0.length : Int)), (8, I x2)] [sl 1 v10, sc 0 v7] ?_
 refine rveM [5] 26 [(3, rf 0 1 1 v10), (6, A a0), (7, I (a0.length : Int)), (8, I (w64 (x2 + 1)))] [sl 1 v10, sc 0 v7] ?_
 exact ⟨(f4, (w64 (x2 + 1)), v10), h, Nat.lt_succ_self _, qt (it (st' := ⟨26, [(3, rf 0 1 1 v10), (6, A a0), (7, I (a0.length : Int)), (8, I (w64 (x2 + 1)))], [sl 1 v10, sc 0 v7]⟩) [3, 6, 7, 8]) (qt (Imp.truncS (st' := ⟨26, [(3, rf 0 1 1 v10), (6, A a0), (7, I (a0.length : Int)), (8, I (w64 (x2 + 1)))], [sl 1 v10]⟩) 1 (nx hX) (by kernel_rfl) (allBelow_mem (by exact (And.intro rfl (And.intro rfl (And.intro rfl (And.intro rfl trivial)))))) (by exact (And.intro (frz_below (eL_frz _)) trivial)) (by kernel_rfl)) (Imp.reverS 0 1 (eL v10) [3, 6, 7, 8] (by kernel_rfl) (by exact (And.intro (eL_frz _) trivial)) (by kernel_rfl)))⟩
 refine pwp_skip ?_
 refine rveM [5] 26 [(3, rf 0 0 1 x3), (6, A a0), (7, I (a0.length : Int)), (8, I (w64 (x2 + 1)))] [sl 0 x3, sc 0 v7] ?_
 exact ⟨(f4, (w64 (x2 + 1)), x3), h, Nat.lt_succ_self _, (it (st' := ⟨26, [(3, rf 0 0 1 x3), (6, A a0), (7, I (a0.length : Int)), (8, I (w64 (x2 + 1)))], [sl 0 x3, sc 0 v7]⟩) [3, 6, 7, 8]).trans (Imp.truncS 1 (nx hX) (by kernel_rfl) (allBelow_mem (by exact (And.intro rfl (And.intro rfl (And.intro rfl (And.intro rfl trivial)))))) (by exact (And.intro (frz_below (eL_frz _)) trivial)) (by kernel_rfl))⟩
 refine pwp_exit ?_
 refine srvM [5] 1 26 [(3, rf 0 0 1 x3), (21, rf 0 0 1 x3)] [sl 0 x3] ?_
 obtain ⟨v12, hv13, h⟩ := bindS h
 refine opsP_E (dd := some 22) (x := .tup []) (callS_E τ 22 0 0 (ok_sortI hv13) (FzTo.tup FzToL.nil) rfl rfl (by kernel_rfl)) ?_
 refine io 26 [(3, rf 0 0 1 x3), (21, rf 0 0 1 x3), (22, .tup [])] [sl 0 v12] ?_
 refine opsP_ren (st' := ⟨26, [(3, rf 0 0 1 v12), (21, rf 0 0 1 v12), (22, .tup [])], [sl 0 v12]⟩) 0 v12.length (renC (ren_ref (len_sortI hv13).symm) (renC (ren_ref (len_sortI hv13).symm) (renC trivial renC0))) (by kernel_rfl) ?_
 refine veM [5] 0 26 [(3, rf 0 0 1 v12)] [sl 0 v12] ?_
 refine srvM [5] 1 26 [(23, rf 0 0 1 v12)] [sl 0 v12] ?_
 obtain ⟨v14, hv15, h⟩ := bindS h
 refine opsP_callM (xs := [rf 0 0 1 v12]) (x := rf 1 0 1 v14) (bs := [⟨0, eL v14⟩]) τ 24 [0] (nx hX) (ok_compactI hv15) (by kernel_rfl) (OutL.cons (OutP.list (v := 0) (by kernel_rfl)) (OutL.nil _)) (by decide) (by kernel_rfl) ?_
 refine vM [5] 0 26 [(24, rf 1 0 1 v14)] [none, sl 0 v14] ?_
 refine opsP_imp (Imp.freezeB (v := 0) (cs := eL v14) (st' := ⟨26, [(24, A v14)], [none, none]⟩) 1 0 (nx hX) (by kernel_rfl) (eL_frz _) (wholeC (whole_is (eL_len v14).symm) wholeC0) (HpRel.none rfl (HpRel.key HpRel.nil)) (by kernel_rfl) rfl (nx hX)) ?_
 obtain ⟨v16, hv17, h⟩ := bindS h
 refine cF 25 (ok_impl_clone_int hv17) ?_
 refine veM [5] 1 26 [(2, A v16)] [none, none] ?_
 cases h
 exact pwp_ret rz
def impl_ValueOk (a0 : T_impl_Value) : Option Bool := (impl_Value_ok a0).bind fun v1 => some v1
theorem ok_impl_ValueOk {a0 : T_impl_Value} {y : Bool} (h : impl_ValueOk a0 = some y) : OK Try.prog 30 [E a0] (B y) := by
 refine ow Try.func30 fun Γ hX => ?_
 unfold impl_ValueOk at h
 refine srve 5 [(1, pf a0 0)] [] ?_
 refine srv 1 5 [(3, E a0)] [] ?_
 obtain ⟨v1, hv2, h⟩ := bindS h
 refine cF 4 (ok_impl_Value_ok hv2) ?_
 refine ve 1 5 [(2, B v1)] [] ?_
 cases h
 exact pwp_ret rz
def spec_l20Wild (a0 : T_spec_l20Rd) (a1 : List T_impl_Column) (a2 : Int) : Option ((List T_impl_Part) × T_spec_l20Rd) := (spec_l20Rd_pick a0 4).bind fun v1 => (getI ([3, 3, 1, 2] : List Int) v1.1).bind fun v3 => (spec_l20Expr v1.2 a1 v3 3).bind fun v5 => (spec_l20Rd_odd v5.2 a2).bind fun v7 => bif v7.1 then (spec_l20Rd_pick v7.2 3).bind fun v10 => bif (v10.1 == 0) then (spec_l20Rd_pick v10.2 (v5.1.length : Int)).bind fun v13 => (slI v5.1 none (some v13.1) none).bind fun v15 => some (v15, v13.2) else bif (v10.1 == 1) then (spec_l20Rd_pick v10.2 (v5.1.length : Int)).bind fun v18 => (spec_l20Rd_pick v18.2 10).bind fun v20 => (spec_l20Rd_pick v20.2 5).bind fun v22 => (getI v5.1 v18.1).bind fun v24 => some ((v5.1.set v18.1.toNat (T_impl_Part.mk v20.1 v22.1 (T_impl_Value.mk 0 0 (ByteArray.mk #[])))), v22.2) else (spec_l20Value v10.2 2).bind fun v26 => (app v5.1 ([(T_impl_Part.mk 1 0 v26.1)] : List T_impl_Part)).bind fun v28 => some (v28, v26.2) else some (v5.1, v7.2)
theorem ok_spec_l20Wild {a0 : T_spec_l20Rd} {a1 : List T_impl_Column} {a2 : Int} {y : (List T_impl_Part) × T_spec_l20Rd} (h : spec_l20Wild a0 a1 a2 = some y) : OKb Try.prog 39 (Enc.cells a0) [A a1, I a2] (O y.1) (Enc.cells y.2) := by
 refine OKb_of_pwp τ_ok Try.func39 rfl (by kernel_rfl) rfl (Enc.frz _) (Enc.frz _) fun Γ hQ => ?_
 unfold spec_l20Wild at h
 refine srve 49 [(0, .ptr 0 0 0), (1, A a1), (2, I a2)] [sc 0 a0] ?_
 refine srv 4 49 [(0, .ptr 0 0 0), (2, I a2), (8, .ptr 0 0 0), (9, A a1), (10, .arr 1 ([3, 3, 1, 2] : List Int).length (eL ([3, 3, 1, 2] : List Int)) true), (11, .ptr 0 0 0)] [sc 0 a0] ?_
 obtain ⟨v1, hv2, h⟩ := bindS h
 refine cB 12 0 0 (ok_spec_l20Rd_pick hv2) ?_
 obtain ⟨v3, hv4, h⟩ := bindS h
 refine opsP_idx τ_ok 13 hv4 (by kernel_rfl) ?_
 refine v 1 49 [(0, .ptr 0 0 0), (2, I a2), (8, .ptr 0 0 0), (9, A a1), (14, I v3)] [sc 0 v1.2] ?_
 obtain ⟨v5, hv6, h⟩ := bindS h
 refine opsP_E (dd := some 15) (x := rf 1 0 5 v5.1) (callBN_E τ 15 0 0 1 (by first | exact pn hQ | exact pk hQ) (by decide) (ok_spec_l20Expr hv6) rfl (by kernel_rfl) (by kernel_rfl)) ?_
 refine ve 1 49 [(0, .ptr 0 0 0), (2, I a2), (7, rf 1 0 5 v5.1)] [sc 0 v5.2, sl 0 v5.1] ?_
 refine pwp_seq ?_
 refine srv 2 49 [(0, .ptr 0 0 0), (7, rf 1 0 5 v5.1), (16, .ptr 0 0 0), (17, I a2)] [sc 0 v5.2, sl 0 v5.1] ?_
 obtain ⟨v7, hv8, h⟩ := bindS h
 refine cB 18 0 0 (ok_spec_l20Rd_odd hv8) ?_
 refine ve 0 49 [(0, .ptr 0 0 0), (7, rf 1 0 5 v5.1), (18, B v7.1)] [sc 0 v7.2, sl 0 v5.1] ?_
 refine pc h (fun h => ?_) (fun h => ?_)
 refine srv 1 49 [(0, .ptr 0 0 0), (7, rf 1 0 5 v5.1), (19, .ptr 0 0 0)] [sc 0 v7.2, sl 0 v5.1] ?_
 obtain ⟨v10, hv11, h⟩ := bindS h
 refine cB 20 0 0 (ok_spec_l20Rd_pick hv11) ?_
 refine ve 0 49 [(0, .ptr 0 0 0), (7, rf 1 0 5 v5.1), (20, I v10.1)] [sc 0 v10.2, sl 0 v5.1] ?_
 refine pwp_block ?_
 refine srve 49 [(0, .ptr 0 0 0), (7, rf 1 0 5 v5.1), (20, I v10.1), (27, B (v10.1 == 0))] [sc 0 v10.2, sl 0 v5.1] ?_
 refine pc h (fun h => ?_) (fun h => ?_)
 refine rv 4 49 [(29, rf 1 0 5 v5.1), (30, .ptr 0 0 0), (32, I (v5.1.length : Int))] [sc 0 v10.2, sl 0 v5.1] ?_
 obtain ⟨v13, hv14, h⟩ := bindS h
 refine cB 33 0 0 (ok_spec_l20Rd_pick hv14) ?_
 obtain ⟨v15, hv16, h⟩ := bindS h
 refine opsP_slr τ_ok 34 1 0 v5.1.length hv16 rfl (by kernel_rfl) ?_
 refine ve 1 49 [(7, rf 1 0 5 v15)] [sc 0 v13.2, sl 0 v5.1] ?_
 refine srve 49 [(6, rf 1 0 5 v15)] [sc 0 v13.2, sl 0 v5.1] ?_
 refine ip 49 [(6, rf 1 0 5 v15)] [sc 0 v13.2, sl 0 v5.1] ?_
 refine pwp_imp (Imp.cut (st' := ⟨49, [(6, rf 1 0 5 v15)], [sc 0 v13.2, sl 0 v15]⟩) 1 0 v5.1 v15 (by kernel_rfl) (slI_view hv16) (by kernel_rfl)) ?_
 have h := si h
 subst h
 exact pwp_ret ⟨.inr rfl, rf 1 0 5 v15, _, 0, by kernel_rfl, (OutP.list (v := 0) (by kernel_rfl)), by decide, by decide, by kernel_rfl⟩
 refine srve 49 [(0, .ptr 0 0 0), (7, rf 1 0 5 v5.1), (35, B (v10.1 == 1))] [sc 0 v10.2, sl 0 v5.1] ?_
 refine pc h (fun h => ?_) (fun h => ?_)
 refine rv 4 49 [(0, .ptr 0 0 0), (7, rf 1 0 5 v5.1), (37, rf 1 0 5 v5.1), (38, .ptr 0 0 0), (40, I (v5.1.length : Int))] [sc 0 v10.2, sl 0 v5.1] ?_
 obtain ⟨v18, hv19, h⟩ := bindS h
 refine cB 41 0 0 (ok_spec_l20Rd_pick hv19) ?_
 refine v 1 49 [(0, .ptr 0 0 0), (7, rf 1 0 5 v5.1), (37, rf 1 0 5 v5.1), (41, I v18.1), (42, .ptr 0 0 0)] [sc 0 v18.2, sl 0 v5.1] ?_
 obtain ⟨v20, hv21, h⟩ := bindS h
 refine cB 43 0 0 (ok_spec_l20Rd_pick hv21) ?_
 refine v 1 49 [(7, rf 1 0 5 v5.1), (37, rf 1 0 5 v5.1), (41, I v18.1), (43, I v20.1), (44, .ptr 0 0 0)] [sc 0 v20.2, sl 0 v5.1] ?_
 obtain ⟨v22, hv23, h⟩ := bindS h
 refine cB 45 0 0 (ok_spec_l20Rd_pick hv23) ?_
 refine v 1 49 [(7, rf 1 0 5 v5.1), (37, rf 1 0 5 v5.1), (41, I v18.1), (46, E (T_impl_Part.mk v20.1 v22.1 (T_impl_Value.mk 0 0 (ByteArray.mk #[]))))] [sc 0 v22.2, sl 0 v5.1] ?_
 obtain ⟨v24, hv25, h⟩ := bindS h
 refine opsP_idr τ_ok 47 1 0 v5.1.length hv25 rfl (by kernel_rfl) ?_
 refine v 0 49 [(7, rf 1 0 5 v5.1), (46, E (T_impl_Part.mk v20.1 v22.1 (T_impl_Value.mk 0 0 (ByteArray.mk #[])))), (47, .ptr 1 0 (v18.1.toNat * 5))] [sc 0 v22.2, sl 0 v5.1] ?_
 refine opsP_ste (vs := [I v20.1, I v22.1, I 0, I 0, S (ByteArray.mk #[])]) τ_ok 58 1 0 0 (T_impl_Part.mk v20.1 v22.1 (T_impl_Value.mk 0 0 (ByteArray.mk #[]))) hv25 (by kernel_rfl) (by kernel_rfl) (by kernel_rfl) (renC (ren_ref (List.length_set ..).symm) (renC trivial (renC trivial renC0))) ?_
 refine ve 0 49 [(7, .ref 1 0 0 5 (v5.1.set v18.1.toNat (T_impl_Part.mk v20.1 v22.1 (T_impl_Value.mk 0 0 (ByteArray.mk #[])))).length false)] [sc 0 v22.2, some ⟨0, eL (v5.1.set v18.1.toNat (T_impl_Part.mk v20.1 v22.1 (T_impl_Value.mk 0 0 (ByteArray.mk #[]))))⟩] ?_
 refine srve 49 [(6, .ref 1 0 0 5 (v5.1.set v18.1.toNat (T_impl_Part.mk v20.1 v22.1 (T_impl_Value.mk 0 0 (ByteArray.mk #[])))).length false)] [sc 0 v22.2, some ⟨0, eL (v5.1.set v18.1.toNat (T_impl_Part.mk v20.1 v22.1 (T_impl_Value.mk 0 0 (ByteArray.mk #[]))))⟩] ?_
 have h := si h
 subst h
 exact pwp_ret ⟨.inr rfl, .ref 1 0 0 5 (v5.1.set v18.1.toNat (T_impl_Part.mk v20.1 v22.1 (T_impl_Value.mk 0 0 (ByteArray.mk #[])))).length false, _, 0, by kernel_rfl, (OutP.list (v := 0) (by kernel_rfl)), by decide, by decide, by kernel_rfl⟩
 refine rv 2 49 [(21, rf 1 0 5 v5.1), (22, .ptr 0 0 0)] [sc 0 v10.2, sl 0 v5.1] ?_
 obtain ⟨v26, hv27, h⟩ := bindS h
 refine cB 23 0 0 (ok_spec_l20Value hv27) ?_
 refine v 2 49 [(21, rf 1 0 5 v5.1), (25, .arr 5 ([(T_impl_Part.mk 1 0 v26.1)] : List T_impl_Part).length (eL ([(T_impl_Part.mk 1 0 v26.1)] : List T_impl_Part)) true)] [sc 0 v26.2, sl 0 v5.1] ?_
 obtain ⟨v28, hv29, h⟩ := bindS h
 refine opsP_app τ_ok 26 1 0 (pn hQ) hv29 (by kernel_rfl) ?_
 refine ve 1 49 [(7, rf 1 1 5 v28)] [sc 0 v26.2, sl 1 v28] ?_
 refine srve 49 [(6, rf 1 1 5 v28)] [sc 0 v26.2, sl 1 v28] ?_
 have h := si h
 subst h
 exact pwp_ret ⟨.inr rfl, rf 1 1 5 v28, _, 0, by kernel_rfl, (OutP.list (v := 1) (by kernel_rfl)), by decide, by decide, by kernel_rfl⟩
 refine pwp_skip ?_
 refine srve 49 [(6, rf 1 0 5 v5.1)] [sc 0 v7.2, sl 0 v5.1] ?_
 have h := si h
 subst h
 exact pwp_ret ⟨.inr rfl, rf 1 0 5 v5.1, _, 0, by kernel_rfl, (OutP.list (v := 0) (by kernel_rfl)), by decide, by decide, by kernel_rfl⟩
def impl_ColumnsOk (a0 : List T_impl_Column) : Option Bool := bif (decide ((a0.length : Int) ≤ 4)) then (slices_ContainsFunc_impl_Column_impl_Column a0 impl_ColumnsOk_1).bind fun v1 => some (!v1) else some false
theorem ok_impl_ColumnsOk {a0 : List T_impl_Column} {y : Bool} (h : impl_ColumnsOk a0 = some y) : OK Try.prog 40 [A a0] (B y) := by
 refine ow Try.func40 fun Γ hX => ?_
 unfold impl_ColumnsOk at h
 refine srve 11 [(0, A a0)] [] ?_
 refine srv 4 11 [(0, A a0), (6, B (decide ((a0.length : Int) ≤ 4)))] [] ?_
 rcases fk (decide ((a0.length : Int) ≤ 4)) with hc3 | hc3
 replace h := bT hc3 h
 rw [hc3]
 refine v 1 11 [(6, B true), (7, A a0)] [] ?_
 obtain ⟨v1, hv2, h⟩ := bindS h
 refine cF 8 (ok_slices_ContainsFunc_impl_Column_impl_Column (rfl) (fun _ w hw => ok_impl_ColumnsOk_1 hw) hv2) ?_
 refine ve 3 11 [(2, B (!v1))] [] ?_
 cases h
 exact pwp_ret rz
 replace h := bF hc3 h
 rw [hc3]
 refine ve 5 11 [(2, B false)] [] ?_
 cases h
 exact pwp_ret rz
def impl_Part_tells_j0 (a0 : T_impl_Part) (x14 : Bool) : Option Bool := bif x14 then bif (a0.fN == 0) then some (eq_T_impl_Value a0.fV (T_impl_Value.mk 0 0 (ByteArray.mk #[]))) else some false else some false
def impl_Part_tells (a0 : T_impl_Part) (a1 : List T_impl_Column) : Option Bool := bif (a0.fKind == 1) then bif (a0.fN == 0) then (impl_Value_ok a0.fV).bind fun v2 => bif v2 then some (!(a0.fV.fKind == 0)) else some false else some false else bif (a0.fKind == 2) then (impl_between a0.fN 0 (w64 ((a1.length : Int) - 1))).bind fun v7 => bif v7 then some (eq_T_impl_Value a0.fV (T_impl_Value.mk 0 0 (ByteArray.mk #[]))) else some false else bif (a0.fKind == 4) then (impl_between a0.fN 1 4).bind fun v11 => bif v11 then some (eq_T_impl_Value a0.fV (T_impl_Value.mk 0 0 (ByteArray.mk #[]))) else some false else bif (a0.fKind == 3) then impl_Part_tells_j0 a0 (a0.fKind == 3) else bif (a0.fKind == 5) then impl_Part_tells_j0 a0 (a0.fKind == 5) else bif (a0.fKind == 6) then impl_Part_tells_j0 a0 (a0.fKind == 6) else bif (a0.fKind == 7) then impl_Part_tells_j0 a0 (a0.fKind == 7) else impl_Part_tells_j0 a0 (a0.fKind == 8)
theorem ok_impl_Part_tells {a0 : T_impl_Part} {a1 : List T_impl_Column} {y : Bool} (h : impl_Part_tells a0 a1 = some y) : OK Try.prog 42 [E a0, A a1] (B y) := by
 refine ow Try.func42 fun Γ hX => ?_
 unfold impl_Part_tells at h
 refine srve 63 [(1, A a1), (2, pf a0 0)] [] ?_
 refine pwp_seq ?_
 refine srve 63 [(1, A a1), (2, pf a0 0), (6, I a0.fKind)] [] ?_
 refine pwp_block ?_
 refine srve 63 [(1, A a1), (2, pf a0 0), (6, I a0.fKind), (7, B (a0.fKind == 1))] [] ?_
 refine pc h (fun h => ?_) (fun h => ?_)
 refine srv 4 63 [(2, pf a0 0), (12, B (a0.fN == 0))] [] ?_
 rcases fk (a0.fN == 0) with hc5 | hc5
 replace h := bT hc5 h
 rw [hc5]
 refine v 2 63 [(2, pf a0 0), (12, B true), (14, E a0.fV)] [] ?_
 obtain ⟨v2, hv3, h⟩ := bindS h
 refine cF 15 (ok_impl_Value_ok hv3) ?_
 refine v 2 63 [(2, pf a0 0), (17, B v2)] [] ?_
 rcases Bool.eq_false_or_eq_true v2 with hc4 | hc4
 replace h := bT hc4 h
 rw [hc4]
 refine ve 6 63 [(4, B (!(a0.fV.fKind == 0)))] [] ?_
 cases h
 exact pwp_ret rz
 replace h := bF hc4 h
 rw [hc4]
 refine ve 6 63 [(4, B false)] [] ?_
 cases h
 exact pwp_ret rz
 replace h := bF hc5 h
 rw [hc5]
 refine ve 11 63 [(4, B false)] [] ?_
 cases h
 exact pwp_ret rz
 refine srve 63 [(1, A a1), (2, pf a0 0), (6, I a0.fKind), (23, B (a0.fKind == 2))] [] ?_
 refine pc h (fun h => ?_) (fun h => ?_)
 refine srv 5 63 [(2, pf a0 0), (26, I a0.fN), (29, I (w64 ((a1.length : Int) - 1)))] [] ?_
 obtain ⟨v7, hv8, h⟩ := bindS h
 refine cF 30 (ok_impl_between hv8) ?_
 refine v 1 63 [(2, pf a0 0), (31, B v7)] [] ?_
 rcases Bool.eq_false_or_eq_true v7 with hc9 | hc9
 replace h := bT hc9 h
 rw [hc9]
 refine ve 6 63 [(4, B (eq_T_impl_Value a0.fV (T_impl_Value.mk 0 0 (ByteArray.mk #[]))))] [] ?_
 cases h
 exact pwp_ret rz
 replace h := bF hc9 h
 rw [hc9]
 refine ve 6 63 [(4, B false)] [] ?_
 cases h
 exact pwp_ret rz
 refine srve 63 [(2, pf a0 0), (6, I a0.fKind), (37, B (a0.fKind == 4))] [] ?_
 refine pc h (fun h => ?_) (fun h => ?_)
 refine srv 2 63 [(2, pf a0 0), (40, I a0.fN)] [] ?_
 obtain ⟨v11, hv12, h⟩ := bindS h
 refine cF 41 (ok_impl_between hv12) ?_
 refine v 1 63 [(2, pf a0 0), (42, B v11)] [] ?_
 rcases Bool.eq_false_or_eq_true v11 with hc13 | hc13
 replace h := bT hc13 h
 rw [hc13]
 refine ve 6 63 [(4, B (eq_T_impl_Value a0.fV (T_impl_Value.mk 0 0 (ByteArray.mk #[]))))] [] ?_
 cases h
 exact pwp_ret rz
 replace h := bF hc13 h
 rw [hc13]
 refine ve 6 63 [(4, B false)] [] ?_
 cases h
 exact pwp_ret rz
 refine pwp_seq ?_
 refine pwp_join (σ := Bool) (fun x14 => (⟨63, [(2, pf a0 0), (48, B x14)], []⟩ : St)) (fun x14 => impl_Part_tells_j0 a0 x14 = some y) ?_ ?_
 refine srve 63 [(2, pf a0 0), (6, I a0.fKind), (48, B (a0.fKind == 3))] [] ?_
 refine pc h (fun h => ?_) (fun h => ?_)
 refine pwp_skip ?_
 exact ⟨(a0.fKind == 3), h, it [2, 48]⟩
 refine srve 63 [(2, pf a0 0), (6, I a0.fKind), (48, B (a0.fKind == 5))] [] ?_
 refine pc h (fun h => ?_) (fun h => ?_)
 refine pwp_skip ?_
 exact ⟨(a0.fKind == 5), h, it [2, 48]⟩
 refine srve 63 [(2, pf a0 0), (6, I a0.fKind), (48, B (a0.fKind == 6))] [] ?_
 refine pc h (fun h => ?_) (fun h => ?_)
 refine pwp_skip ?_
 exact ⟨(a0.fKind == 6), h, it [2, 48]⟩
 refine srve 63 [(2, pf a0 0), (6, I a0.fKind), (48, B (a0.fKind == 7))] [] ?_
 refine pc h (fun h => ?_) (fun h => ?_)
 refine pwp_skip ?_
 exact ⟨(a0.fKind == 7), h, it [2, 48]⟩
 refine rve 63 [(2, pf a0 0), (48, B (a0.fKind == 8))] [] ?_
 exact ⟨(a0.fKind == 8), h, it [2, 48]⟩
 rintro x14 h
 unfold impl_Part_tells_j0 at h
 refine pc h (fun h => ?_) (fun h => ?_)
 refine srv 4 63 [(2, pf a0 0), (57, B (a0.fN == 0))] [] ?_
 rcases fk (a0.fN == 0) with hc16 | hc16
 replace h := bT hc16 h
 rw [hc16]
 refine ve 6 63 [(4, B (eq_T_impl_Value a0.fV (T_impl_Value.mk 0 0 (ByteArray.mk #[]))))] [] ?_
 cases h
 exact pwp_ret rz
 replace h := bF hc16 h
 rw [hc16]
 refine ve 6 63 [(4, B false)] [] ?_
 cases h
 exact pwp_ret rz
 refine pwp_skip ?_
 refine srve 63 [(4, B false)] [] ?_
 cases h
 exact pwp_ret rz
def spec_l4Step_j1 (a1 : List Int) (a2 : T_impl_Part) (x4 : Bool) : Option ((List Int) × Bool) := bif x4 then some (a1, false) else (app a1 ([a2.fV.fKind] : List Int)).bind fun v6 => some (v6, true)
def spec_l4Step_j2 (a1 : List Int) (x20 : Bool) : Option ((List Int) × Bool) := (slI a1 none (some (maxL (w64 ((a1.length : Int) - 2)) [0])) none).bind fun v21 => (appT a1 ([1] : List Int) v21.length).bind fun v23 => some (v23, x20)
def spec_l4Step_j3 (a1 : List Int) (x32 : Bool) : Option ((List Int) × Bool) := (slI a1 none (some (maxL (w64 ((a1.length : Int) - 2)) [0])) none).bind fun v33 => (appT a1 ([3] : List Int) v33.length).bind fun v35 => some (v35, x32)
def spec_l4Step_j5 (a1 : List Int) (x47 : Bool) : Option ((List Int) × Bool) := (slI a1 none (some (maxL (w64 ((a1.length : Int) - 2)) [0])) none).bind fun v48 => (appT a1 ([3] : List Int) v48.length).bind fun v50 => some (v50, x47)
def spec_l4Step_j4 (a1 : List Int) (a2 : T_impl_Part) (x45 : Bool) : Option ((List Int) × Bool) := bif x45 then bif (decide ((a1.length : Int) > 1)) then (getI a1 (w64 ((a1.length : Int) - 1))).bind fun v52 => bif (v52 == 3) then (getI a1 (w64 ((a1.length : Int) - 2))).bind fun v54 => spec_l4Step_j5 a1 (v54 == 3) else spec_l4Step_j5 a1 false else spec_l4Step_j5 a1 false else bif (a2.fKind == 7) then bif (decide ((a1.length : Int) > 0)) then (getI a1 (w64 ((a1.length : Int) - 1))).bind fun v59 => some (a1, (v59 == 3)) else some (a1, false) else bif (a2.fKind == 8) then (slI a1 none (some (maxL (w64 ((a1.length : Int) - 1)) [0])) none).bind fun v63 => (appT a1 ([3] : List Int) v63.length).bind fun v65 => some (v65, (decide ((a1.length : Int) > 0))) else some (a1, false)
def spec_l4Step_j0 (a0 : List T_impl_Column) (a1 : List Int) (a2 : T_impl_Part) (x1 : Bool) : Option ((List Int) × Bool) := bif x1 then some (a1, false) else bif (a2.fKind == 1) then (spec_ValueOk a2.fV).bind fun v8 => bif (!v8) then spec_l4Step_j1 a1 a2 true else spec_l4Step_j1 a1 a2 (a2.fV.fKind == 0) else bif (a2.fKind == 2) then (spec_l1In a2.fN 0 (w64 ((a0.length : Int) - 1))).bind fun v12 => bif (!v12) then some (a1, false) else (getI a0 a2.fN).bind fun v15 => (app a1 ([v15.fKind] : List Int)).bind fun v17 => some (v17, true) else bif (a2.fKind == 3) then bif (decide ((a1.length : Int) > 1)) then (getI a1 (w64 ((a1.length : Int) - 1))).bind fun v25 => bif (v25 == 1) then (getI a1 (w64 ((a1.length : Int) - 2))).bind fun v27 => spec_l4Step_j2 a1 (v27 == 1) else spec_l4Step_j2 a1 false else spec_l4Step_j2 a1 false else bif (a2.fKind == 4) then bif (decide ((a1.length : Int) > 1)) then (getI a1 (w64 ((a1.length : Int) - 1))).bind fun v37 => (getI a1 (w64 ((a1.length : Int) - 2))).bind fun v39 => bif (v37 == v39) then (spec_l1In a2.fN 1 4).bind fun v41 => spec_l4Step_j3 a1 v41 else spec_l4Step_j3 a1 false else spec_l4Step_j3 a1 false else bif (a2.fKind == 5) then spec_l4Step_j4 a1 a2 (a2.fKind == 5) else spec_l4Step_j4 a1 a2 (a2.fKind == 6)
def spec_l4Step (a0 : List T_impl_Column) (a1 : List Int) (a2 : T_impl_Part) : Option ((List Int) × Bool) := bif (!(a2.fKind == 1)) then bif (!(eq_T_impl_Value a2.fV (T_impl_Value.mk 0 0 (ByteArray.mk #[])))) then spec_l4Step_j0 a0 a1 a2 true else bif (!(a2.fKind == 2)) then bif (!(a2.fKind == 4)) then spec_l4Step_j0 a0 a1 a2 (!(a2.fN == 0)) else spec_l4Step_j0 a0 a1 a2 false else spec_l4Step_j0 a0 a1 a2 false else bif (!(a2.fKind == 2)) then bif (!(a2.fKind == 4)) then spec_l4Step_j0 a0 a1 a2 (!(a2.fN == 0)) else spec_l4Step_j0 a0 a1 a2 false else spec_l4Step_j0 a0 a1 a2 false
theorem ok_spec_l4Step {a0 : List T_impl_Column} {a1 : List Int} {a2 : T_impl_Part} {y : (List Int) × Bool} (h : spec_l4Step a0 a1 a2 = some y) : OKm Try.prog 48 [A a0, O a1, E a2] (.tup [O y.1, B y.2]) := by
 refine OKm_of_pwp (sl := [A a0, rf 0 0 1 a1, E a2]) (bs := [⟨0, eL a1⟩]) τ_ok Try.func48 rfl (by kernel_rfl) rfl (by kernel_rfl) fun Γ hX => ?_
 refine pwp_imp (Imp.to (st' := ⟨191, [(0, A a0), (1, rf 0 0 1 a1), (2, E a2)], [sl 0 a1]⟩) [0, 1, 2] (by kernel_rfl)) ?_
 unfold spec_l4Step at h
 refine srve 191 [(0, A a0), (1, rf 0 0 1 a1), (5, pf a2 0)] [sl 0 a1] ?_
 refine srve 191 [(0, A a0), (1, rf 0 0 1 a1), (5, pf a2 0), (8, I (a1.length : Int))] [sl 0 a1] ?_
 refine pwp_seq ?_
 refine pwp_seq ?_
 refine pwp_join (σ := Bool) (fun x1 => (⟨191, [(0, A a0), (1, rf 0 0 1 a1), (5, pf a2 0), (8, I (a1.length : Int)), (37, B x1)], [sl 0 a1]⟩ : St)) (fun x1 => spec_l4Step_j0 a0 a1 a2 x1 = some y) ?_ ?_
 refine rv 4 191 [(0, A a0), (1, rf 0 0 1 a1), (5, pf a2 0), (8, I (a1.length : Int)), (17, B (!(a2.fKind == 1)))] [sl 0 a1] ?_
 rcases fk (!(a2.fKind == 1)) with hc73 | hc73
 replace h := bT hc73 h
 rw [hc73]
 refine v 6 191 [(0, A a0), (1, rf 0 0 1 a1), (5, pf a2 0), (8, I (a1.length : Int)), (23, B (!(eq_T_impl_Value a2.fV (T_impl_Value.mk 0 0 (ByteArray.mk #[])))))] [sl 0 a1] ?_
 rcases fk (!(eq_T_impl_Value a2.fV (T_impl_Value.mk 0 0 (ByteArray.mk #[])))) with hc70 | hc70
 replace h := bT hc70 h
 rw [hc70]
 refine ve 14 191 [(0, A a0), (1, rf 0 0 1 a1), (5, pf a2 0), (8, I (a1.length : Int)), (37, B true)] [sl 0 a1] ?_
 exact ⟨true, h, it [0, 1, 5, 8, 37]⟩
 replace h := bF hc70 h
 rw [hc70]
 refine v 4 191 [(0, A a0), (1, rf 0 0 1 a1), (5, pf a2 0), (8, I (a1.length : Int)), (23, B false), (27, B (!(a2.fKind == 2)))] [sl 0 a1] ?_
 rcases fk (!(a2.fKind == 2)) with hc69 | hc69
 replace h := bT hc69 h
 rw [hc69]
 refine v 5 191 [(0, A a0), (1, rf 0 0 1 a1), (5, pf a2 0), (8, I (a1.length : Int)), (23, B false), (32, B (!(a2.fKind == 4)))] [sl 0 a1] ?_
 rcases fk (!(a2.fKind == 4)) with hc68 | hc68
 replace h := bT hc68 h
 rw [hc68]
 refine ve 5 191 [(0, A a0), (1, rf 0 0 1 a1), (5, pf a2 0), (8, I (a1.length : Int)), (37, B (!(a2.fN == 0)))] [sl 0 a1] ?_
 exact ⟨(!(a2.fN == 0)), h, it [0, 1, 5, 8, 37]⟩
 replace h := bF hc68 h
 rw [hc68]
 refine ve 5 191 [(0, A a0), (1, rf 0 0 1 a1), (5, pf a2 0), (8, I (a1.length : Int)), (37, B false)] [sl 0 a1] ?_
 exact ⟨false, h, it [0, 1, 5, 8, 37]⟩
 replace h := bF hc69 h
 rw [hc69]
 refine ve 10 191 [(0, A a0), (1, rf 0 0 1 a1), (5, pf a2 0), (8, I (a1.length : Int)), (37, B false)] [sl 0 a1] ?_
 exact ⟨false, h, it [0, 1, 5, 8, 37]⟩
 replace h := bF hc73 h
 rw [hc73]
 refine v 10 191 [(0, A a0), (1, rf 0 0 1 a1), (5, pf a2 0), (8, I (a1.length : Int)), (23, B false), (27, B (!(a2.fKind == 2)))] [sl 0 a1] ?_
 rcases fk (!(a2.fKind == 2)) with hc72 | hc72
 replace h := bT hc72 h
 rw [hc72]
 refine v 5 191 [(0, A a0), (1, rf 0 0 1 a1), (5, pf a2 0), (8, I (a1.length : Int)), (23, B false), (32, B (!(a2.fKind == 4)))] [sl 0 a1] ?_
 rcases fk (!(a2.fKind == 4)) with hc71 | hc71
 replace h := bT hc71 h
 rw [hc71]
 refine ve 5 191 [(0, A a0), (1, rf 0 0 1 a1), (5, pf a2 0), (8, I (a1.length : Int)), (37, B (!(a2.fN == 0)))] [sl 0 a1] ?_
 exact ⟨(!(a2.fN == 0)), h, it [0, 1, 5, 8, 37]⟩
 replace h := bF hc71 h
 rw [hc71]
 refine ve 5 191 [(0, A a0), (1, rf 0 0 1 a1), (5, pf a2 0), (8, I (a1.length : Int)), (37, B false)] [sl 0 a1] ?_
 exact ⟨false, h, it [0, 1, 5, 8, 37]⟩
 replace h := bF hc72 h
 rw [hc72]
 refine ve 10 191 [(0, A a0), (1, rf 0 0 1 a1), (5, pf a2 0), (8, I (a1.length : Int)), (37, B false)] [sl 0 a1] ?_
 exact ⟨false, h, it [0, 1, 5, 8, 37]⟩
 rintro x1 h
 unfold spec_l4Step_j0 at h
 refine pc h (fun h => ?_) (fun h => ?_)
 refine srve 191 [(6, rf 0 0 1 a1), (7, B false)] [sl 0 a1] ?_
 have h := si h
 subst h
 exact pwp_ret (rt (.tup [rf 0 0 1 a1, B false]) (OutP.tup (OutL.cons (OutP.list (v := 0) (by kernel_rfl)) (OutL.cons (OutP.frz (by kernel_rfl)) (OutL.nil _)))))
 refine pwp_skip ?_
 refine pwp_seq ?_
 refine srve 191 [(0, A a0), (1, rf 0 0 1 a1), (5, pf a2 0), (8, I (a1.length : Int)), (40, I a2.fKind)] [sl 0 a1] ?_
 refine pwp_block ?_
 refine srve 191 [(0, A a0), (1, rf 0 0 1 a1), (5, pf a2 0), (8, I (a1.length : Int)), (40, I a2.fKind), (41, B (a2.fKind == 1))] [sl 0 a1] ?_
 refine pc h (fun h => ?_) (fun h => ?_)
 refine pwp_seq ?_
 refine pwp_seq ?_
 refine pwp_join (σ := Bool) (fun x4 => (⟨191, [(1, rf 0 0 1 a1), (5, pf a2 0), (52, B x4)], [sl 0 a1]⟩ : St)) (fun x4 => spec_l4Step_j1 a1 a2 x4 = some y) ?_ ?_
 refine rv 2 191 [(1, rf 0 0 1 a1), (5, pf a2 0), (44, E a2.fV)] [sl 0 a1] ?_
 obtain ⟨v8, hv9, h⟩ := bindS h
 refine cF 45 (ok_spec_ValueOk hv9) ?_
 refine v 2 191 [(1, rf 0 0 1 a1), (5, pf a2 0), (47, B (!v8))] [sl 0 a1] ?_
 rcases fk (!v8) with hc10 | hc10
 replace h := bT hc10 h
 rw [hc10]
 refine ve 5 191 [(1, rf 0 0 1 a1), (5, pf a2 0), (52, B true)] [sl 0 a1] ?_
 exact ⟨true, h, it [1, 5, 52]⟩
 replace h := bF hc10 h
 rw [hc10]
 refine ve 5 191 [(1, rf 0 0 1 a1), (5, pf a2 0), (52, B (a2.fV.fKind == 0))] [sl 0 a1] ?_
 exact ⟨(a2.fV.fKind == 0), h, it [1, 5, 52]⟩
 rintro x4 h
 unfold spec_l4Step_j1 at h
 refine pc h (fun h => ?_) (fun h => ?_)
 refine srve 191 [(6, rf 0 0 1 a1), (7, B false)] [sl 0 a1] ?_
 have h := si h
 subst h
 exact pwp_ret (rt (.tup [rf 0 0 1 a1, B false]) (OutP.tup (OutL.cons (OutP.list (v := 0) (by kernel_rfl)) (OutL.cons (OutP.frz (by kernel_rfl)) (OutL.nil _)))))
 refine pwp_skip ?_
 refine srv 5 191 [(54, rf 0 0 1 a1), (58, .arr 1 ([a2.fV.fKind] : List Int).length (eL ([a2.fV.fKind] : List Int)) true)] [sl 0 a1] ?_
 obtain ⟨v6, hv7, h⟩ := bindS h
 refine opsP_app τ_ok 59 0 0 (nx hX) hv7 (by kernel_rfl) ?_
 refine ve 2 191 [(6, rf 0 1 1 v6), (7, B true)] [sl 1 v6] ?_
 have h := si h
 subst h
 exact pwp_ret (rt (.tup [rf 0 1 1 v6, B true]) (OutP.tup (OutL.cons (OutP.list (v := 1) (by kernel_rfl)) (OutL.cons (OutP.frz (by kernel_rfl)) (OutL.nil _)))))
 refine srve 191 [(0, A a0), (1, rf 0 0 1 a1), (5, pf a2 0), (8, I (a1.length : Int)), (40, I a2.fKind), (60, B (a2.fKind == 2))] [sl 0 a1] ?_
 refine pc h (fun h => ?_) (fun h => ?_)
 refine pwp_seq ?_
 refine srv 5 191 [(0, A a0), (1, rf 0 0 1 a1), (5, pf a2 0), (63, I a2.fN), (66, I (w64 ((a0.length : Int) - 1)))] [sl 0 a1] ?_
 obtain ⟨v12, hv13, h⟩ := bindS h
 refine cF 67 (ok_spec_l1In hv13) ?_
 refine ve 1 191 [(0, A a0), (1, rf 0 0 1 a1), (5, pf a2 0), (68, B (!v12))] [sl 0 a1] ?_
 refine pc h (fun h => ?_) (fun h => ?_)
 refine srve 191 [(6, rf 0 0 1 a1), (7, B false)] [sl 0 a1] ?_
 have h := si h
 subst h
 exact pwp_ret (rt (.tup [rf 0 0 1 a1, B false]) (OutP.tup (OutL.cons (OutP.list (v := 0) (by kernel_rfl)) (OutL.cons (OutP.frz (by kernel_rfl)) (OutL.nil _)))))
 refine pwp_skip ?_
 refine srv 4 191 [(70, rf 0 0 1 a1), (71, A a0), (73, I a2.fN)] [sl 0 a1] ?_
 obtain ⟨v15, hv16, h⟩ := bindS h
 refine opsP_idx τ_ok 74 hv16 (by kernel_rfl) ?_
 refine v 3 191 [(70, rf 0 0 1 a1), (77, .arr 1 ([v15.fKind] : List Int).length (eL ([v15.fKind] : List Int)) true)] [sl 0 a1] ?_
 obtain ⟨v17, hv18, h⟩ := bindS h
 refine opsP_app τ_ok 78 0 0 (nx hX) hv18 (by kernel_rfl) ?_
 refine ve 2 191 [(6, rf 0 1 1 v17), (7, B true)] [sl 1 v17] ?_
 have h := si h
 subst h
 exact pwp_ret (rt (.tup [rf 0 1 1 v17, B true]) (OutP.tup (OutL.cons (OutP.list (v := 1) (by kernel_rfl)) (OutL.cons (OutP.frz (by kernel_rfl)) (OutL.nil _)))))
 refine srve 191 [(1, rf 0 0 1 a1), (5, pf a2 0), (8, I (a1.length : Int)), (40, I a2.fKind), (79, B (a2.fKind == 3))] [sl 0 a1] ?_
 refine pc h (fun h => ?_) (fun h => ?_)
 refine pwp_seq ?_
 refine pwp_join (σ := Bool) (fun x20 => (⟨191, [(1, rf 0 0 1 a1), (8, I (a1.length : Int)), (9, B x20)], [sl 0 a1]⟩ : St)) (fun x20 => spec_l4Step_j2 a1 x20 = some y) ?_ ?_
 refine rv 3 191 [(1, rf 0 0 1 a1), (8, I (a1.length : Int)), (83, B (decide ((a1.length : Int) > 1)))] [sl 0 a1] ?_
 rcases fk (decide ((a1.length : Int) > 1)) with hc30 | hc30
 replace h := bT hc30 h
 rw [hc30]
 refine v 3 191 [(1, rf 0 0 1 a1), (8, I (a1.length : Int)), (83, B true), (84, rf 0 0 1 a1), (86, I (w64 ((a1.length : Int) - 1)))] [sl 0 a1] ?_
 obtain ⟨v25, hv26, h⟩ := bindS h
 refine opsP_idr τ_ok 87 0 0 a1.length hv26 rfl (by kernel_rfl) ?_
 refine opsP_lde (r := I v25) τ_ok 88 3 0 hv26 (by kernel_rfl) (by kernel_rfl) ?_
 refine v 3 191 [(1, rf 0 0 1 a1), (8, I (a1.length : Int)), (91, B (v25 == 1))] [sl 0 a1] ?_
 rcases fk (v25 == 1) with hc29 | hc29
 replace h := bT hc29 h
 rw [hc29]
 refine v 3 191 [(1, rf 0 0 1 a1), (8, I (a1.length : Int)), (91, B true), (92, rf 0 0 1 a1), (94, I (w64 ((a1.length : Int) - 2)))] [sl 0 a1] ?_
 obtain ⟨v27, hv28, h⟩ := bindS h
 refine opsP_idr τ_ok 95 0 0 a1.length hv28 rfl (by kernel_rfl) ?_
 refine opsP_lde (r := I v27) τ_ok 96 3 0 hv28 (by kernel_rfl) (by kernel_rfl) ?_
 refine ve 3 191 [(1, rf 0 0 1 a1), (8, I (a1.length : Int)), (9, B (v27 == 1))] [sl 0 a1] ?_
 exact ⟨(v27 == 1), h, it [1, 8, 9]⟩
 replace h := bF hc29 h
 rw [hc29]
 refine ve 8 191 [(1, rf 0 0 1 a1), (8, I (a1.length : Int)), (9, B false)] [sl 0 a1] ?_
 exact ⟨false, h, it [1, 8, 9]⟩
 replace h := bF hc30 h
 rw [hc30]
 refine ve 16 191 [(1, rf 0 0 1 a1), (8, I (a1.length : Int)), (9, B false)] [sl 0 a1] ?_
 exact ⟨false, h, it [1, 8, 9]⟩
 rintro x20 h
 unfold spec_l4Step_j2 at h
 refine srv 3 191 [(9, B x20), (99, rf 0 0 1 a1), (101, I (w64 ((a1.length : Int) - 2)))] [sl 0 a1] ?_
 refine opsP_E (dd := some 102) (x := I (maxL (w64 ((a1.length : Int) - 2)) [0])) (CoreE.of_y (mxmV_sound (τ := τ) (m := true) (a := (w64 ((a1.length : Int) - 2))) (l := [0]) (by kernel_rfl))) ?_
 obtain ⟨v21, hv22, h⟩ := bindS h
 refine opsP_slr τ_ok 103 0 0 a1.length hv22 rfl (by kernel_rfl) ?_
 refine v 1 191 [(9, B x20), (103, rf 0 0 1 v21), (104, .arr 1 ([1] : List Int).length (eL ([1] : List Int)) true)] [sl 0 a1] ?_
 obtain ⟨v23, hv24, h⟩ := bindS h
 refine opsP_apt τ_ok 105 0 0 v21.length (nx hX) hv24 (slI_le hv22) (by kernel_rfl) ?_
 refine ve 3 191 [(6, rf 0 1 1 v23), (7, B x20)] [sl 1 v23] ?_
 have h := si h
 subst h
 exact pwp_ret (rt (.tup [rf 0 1 1 v23, B x20]) (OutP.tup (OutL.cons (OutP.list (v := 1) (by kernel_rfl)) (OutL.cons (OutP.frz (by kernel_rfl)) (OutL.nil _)))))
 refine srve 191 [(1, rf 0 0 1 a1), (5, pf a2 0), (8, I (a1.length : Int)), (40, I a2.fKind), (107, B (a2.fKind == 4))] [sl 0 a1] ?_
 refine pc h (fun h => ?_) (fun h => ?_)
 refine pwp_seq ?_
 refine pwp_join (σ := Bool) (fun x32 => (⟨191, [(1, rf 0 0 1 a1), (8, I (a1.length : Int)), (10, B x32)], [sl 0 a1]⟩ : St)) (fun x32 => spec_l4Step_j3 a1 x32 = some y) ?_ ?_
 refine ip 191 [(1, rf 0 0 1 a1), (5, pf a2 0), (8, I (a1.length : Int))] [sl 0 a1] ?_
 refine pwp_any ([[], [], [], [0], [], [], [0], [0], [0], [], [], [0], [0], [], [], [], [], [], [], [], []]) ([[], [], [], [], [], [], [], [], [], [], [], [], [], [], [], [], [], [], [], [], []]) rfl (by kernel_rfl) ?_
 refine qv [] trivial 3 191 [(111, B (decide ((a1.length : Int) > 1))), (1, rf 0 0 1 a1), (5, pf a2 0), (8, I (a1.length : Int))] [sl 0 a1] ?_
 rcases fk (decide ((a1.length : Int) > 1)) with hc44 | hc44
 replace h := bT hc44 h
 rw [hc44]
 refine qv [0] (hL trivial) 1 191 [(112, rf 0 0 1 a1), (111, B true), (1, rf 0 0 1 a1), (5, pf a2 0), (8, I (a1.length : Int))] [sl 0 a1] ?_
 refine qv [] trivial 2 191 [(114, I (w64 ((a1.length : Int) - 1))), (112, rf 0 0 1 a1), (111, B true), (1, rf 0 0 1 a1), (5, pf a2 0), (8, I (a1.length : Int))] [sl 0 a1] ?_
 obtain ⟨v37, hv38, h⟩ := bindS h
 refine qX (some 115) (.ptr 0 0 ((w64 ((a1.length : Int) - 1)).toNat * 1)) 191 [(115, .ptr 0 0 ((w64 ((a1.length : Int) - 1)).toNat * 1)), (111, B true), (1, rf 0 0 1 a1), (5, pf a2 0), (8, I (a1.length : Int))] [sl 0 a1] (fun Γ' hΓ => CoreE.of_y (idrV_sound (n := a1.length) τ_ok (by kernel_rfl) hv38 rfl)) (hL trivial) ?_
 refine qX (some 116) (I v37) 191 [(116, I v37), (111, B true), (1, rf 0 0 1 a1), (5, pf a2 0), (8, I (a1.length : Int))] [sl 0 a1] (fun Γ' hΓ => CoreE.of_y (ldeV_sound (t := 3) (o' := 0) (r := I v37) τ_ok hv38 (by kernel_rfl) (by kernel_rfl))) (hL trivial) ?_
 refine qv [0] (hL trivial) 1 191 [(117, rf 0 0 1 a1), (116, I v37), (111, B true), (1, rf 0 0 1 a1), (5, pf a2 0), (8, I (a1.length : Int))] [sl 0 a1] ?_
 refine qv [] trivial 2 191 [(119, I (w64 ((a1.length : Int) - 2))), (117, rf 0 0 1 a1), (116, I v37), (111, B true), (1, rf 0 0 1 a1), (5, pf a2 0), (8, I (a1.length : Int))] [sl 0 a1] ?_
 obtain ⟨v39, hv40, h⟩ := bindS h
 refine qX (some 120) (.ptr 0 0 ((w64 ((a1.length : Int) - 2)).toNat * 1)) 191 [(120, .ptr 0 0 ((w64 ((a1.length : Int) - 2)).toNat * 1)), (116, I v37), (111, B true), (1, rf 0 0 1 a1), (5, pf a2 0), (8, I (a1.length : Int))] [sl 0 a1] (fun Γ' hΓ => CoreE.of_y (idrV_sound (n := a1.length) τ_ok (by kernel_rfl) hv40 rfl)) (hL trivial) ?_
 refine qX (some 121) (I v39) 191 [(121, I v39), (116, I v37), (111, B true), (1, rf 0 0 1 a1), (5, pf a2 0), (8, I (a1.length : Int))] [sl 0 a1] (fun Γ' hΓ => CoreE.of_y (ldeV_sound (t := 3) (o' := 0) (r := I v39) τ_ok hv40 (by kernel_rfl) (by kernel_rfl))) (hL trivial) ?_
 refine qv [] trivial 3 191 [(124, B (v37 == v39)), (1, rf 0 0 1 a1), (5, pf a2 0), (8, I (a1.length : Int))] [sl 0 a1] ?_
 rcases fk (v37 == v39) with hc43 | hc43
 replace h := bT hc43 h
 rw [hc43]
 refine qv [] trivial 2 191 [(126, I a2.fN), (124, B true), (1, rf 0 0 1 a1), (8, I (a1.length : Int))] [sl 0 a1] ?_
 obtain ⟨v41, hv42, h⟩ := bindS h
 refine qX (some 127) (B v41) 191 [(127, B v41), (124, B true), (1, rf 0 0 1 a1), (8, I (a1.length : Int))] [sl 0 a1] (fun Γ' hΓ => CoreE.of_g (callV_sound (τ := τ) (by kernel_rfl) rfl (ok_spec_l1In hv42) (FzTo.frz rfl))) trivial ?_
 refine qvn [] trivial 2 191 [(1, rf 0 0 1 a1), (8, I (a1.length : Int)), (10, B v41)] [sl 0 a1] ?_
 exact ⟨v41, h, it [1, 8, 10]⟩
 replace h := bF hc43 h
 rw [hc43]
 refine qvn [] trivial 5 191 [(1, rf 0 0 1 a1), (8, I (a1.length : Int)), (10, B false)] [sl 0 a1] ?_
 exact ⟨false, h, it [1, 8, 10]⟩
 replace h := bF hc44 h
 rw [hc44]
 refine qv [0] (hL trivial) 1 191 [(112, .lit undef), (111, B false), (1, rf 0 0 1 a1), (5, pf a2 0), (8, I (a1.length : Int))] [sl 0 a1] ?_
 refine qv [] trivial 2 191 [(114, .lit undef), (112, .lit undef), (111, B false), (1, rf 0 0 1 a1), (5, pf a2 0), (8, I (a1.length : Int))] [sl 0 a1] ?_
 refine qv [0] (hL trivial) 3 191 [(117, .lit undef), (116, .lit undef), (111, B false), (1, rf 0 0 1 a1), (5, pf a2 0), (8, I (a1.length : Int))] [sl 0 a1] ?_
 refine qv [] trivial 2 191 [(119, .lit undef), (117, .lit undef), (116, .lit undef), (111, B false), (1, rf 0 0 1 a1), (5, pf a2 0), (8, I (a1.length : Int))] [sl 0 a1] ?_
 refine qv [0] (hL trivial) 2 191 [(121, .lit undef), (116, .lit undef), (111, B false), (1, rf 0 0 1 a1), (5, pf a2 0), (8, I (a1.length : Int))] [sl 0 a1] ?_
 refine qv [] trivial 8 191 [(10, B false), (1, rf 0 0 1 a1), (8, I (a1.length : Int))] [sl 0 a1] ?_
 refine qn 191 [(1, rf 0 0 1 a1), (8, I (a1.length : Int)), (10, B false)] [sl 0 a1] ?_
 exact ⟨false, h, it [1, 8, 10]⟩
 rintro x32 h
 unfold spec_l4Step_j3 at h
 refine srv 3 191 [(10, B x32), (129, rf 0 0 1 a1), (131, I (w64 ((a1.length : Int) - 2)))] [sl 0 a1] ?_
 refine opsP_E (dd := some 132) (x := I (maxL (w64 ((a1.length : Int) - 2)) [0])) (CoreE.of_y (mxmV_sound (τ := τ) (m := true) (a := (w64 ((a1.length : Int) - 2))) (l := [0]) (by kernel_rfl))) ?_
 obtain ⟨v33, hv34, h⟩ := bindS h
 refine opsP_slr τ_ok 133 0 0 a1.length hv34 rfl (by kernel_rfl) ?_
 refine v 1 191 [(10, B x32), (133, rf 0 0 1 v33), (134, .arr 1 ([3] : List Int).length (eL ([3] : List Int)) true)] [sl 0 a1] ?_
 obtain ⟨v35, hv36, h⟩ := bindS h
 refine opsP_apt τ_ok 135 0 0 v33.length (nx hX) hv36 (slI_le hv34) (by kernel_rfl) ?_
 refine ve 3 191 [(6, rf 0 1 1 v35), (7, B x32)] [sl 1 v35] ?_
 have h := si h
 subst h
 exact pwp_ret (rt (.tup [rf 0 1 1 v35, B x32]) (OutP.tup (OutL.cons (OutP.list (v := 1) (by kernel_rfl)) (OutL.cons (OutP.frz (by kernel_rfl)) (OutL.nil _)))))
 refine pwp_seq ?_
 refine pwp_join (σ := Bool) (fun x45 => (⟨191, [(1, rf 0 0 1 a1), (8, I (a1.length : Int)), (40, I a2.fKind), (137, B x45)], [sl 0 a1]⟩ : St)) (fun x45 => spec_l4Step_j4 a1 a2 x45 = some y) ?_ ?_
 refine srve 191 [(1, rf 0 0 1 a1), (8, I (a1.length : Int)), (40, I a2.fKind), (137, B (a2.fKind == 5))] [sl 0 a1] ?_
 refine pc h (fun h => ?_) (fun h => ?_)
 refine pwp_skip ?_
 exact ⟨(a2.fKind == 5), h, it [1, 8, 40, 137]⟩
 refine rve 191 [(1, rf 0 0 1 a1), (8, I (a1.length : Int)), (40, I a2.fKind), (137, B (a2.fKind == 6))] [sl 0 a1] ?_
 exact ⟨(a2.fKind == 6), h, it [1, 8, 40, 137]⟩
 rintro x45 h
 unfold spec_l4Step_j4 at h
 refine pc h (fun h => ?_) (fun h => ?_)
 refine pwp_seq ?_
 refine pwp_join (σ := Bool) (fun x47 => (⟨191, [(1, rf 0 0 1 a1), (8, I (a1.length : Int)), (11, B x47)], [sl 0 a1]⟩ : St)) (fun x47 => spec_l4Step_j5 a1 x47 = some y) ?_ ?_
 refine rv 3 191 [(1, rf 0 0 1 a1), (8, I (a1.length : Int)), (142, B (decide ((a1.length : Int) > 1)))] [sl 0 a1] ?_
 rcases fk (decide ((a1.length : Int) > 1)) with hc57 | hc57
 replace h := bT hc57 h
 rw [hc57]
 refine v 3 191 [(1, rf 0 0 1 a1), (8, I (a1.length : Int)), (142, B true), (143, rf 0 0 1 a1), (145, I (w64 ((a1.length : Int) - 1)))] [sl 0 a1] ?_
 obtain ⟨v52, hv53, h⟩ := bindS h
 refine opsP_idr τ_ok 146 0 0 a1.length hv53 rfl (by kernel_rfl) ?_
 refine opsP_lde (r := I v52) τ_ok 147 3 0 hv53 (by kernel_rfl) (by kernel_rfl) ?_
 refine v 3 191 [(1, rf 0 0 1 a1), (8, I (a1.length : Int)), (150, B (v52 == 3))] [sl 0 a1] ?_
 rcases fk (v52 == 3) with hc56 | hc56
 replace h := bT hc56 h
 rw [hc56]
 refine v 3 191 [(1, rf 0 0 1 a1), (8, I (a1.length : Int)), (150, B true), (151, rf 0 0 1 a1), (153, I (w64 ((a1.length : Int) - 2)))] [sl 0 a1] ?_
 obtain ⟨v54, hv55, h⟩ := bindS h
 refine opsP_idr τ_ok 154 0 0 a1.length hv55 rfl (by kernel_rfl) ?_
 refine opsP_lde (r := I v54) τ_ok 155 3 0 hv55 (by kernel_rfl) (by kernel_rfl) ?_
 refine ve 3 191 [(1, rf 0 0 1 a1), (8, I (a1.length : Int)), (11, B (v54 == 3))] [sl 0 a1] ?_
 exact ⟨(v54 == 3), h, it [1, 8, 11]⟩
 replace h := bF hc56 h
 rw [hc56]
 refine ve 8 191 [(1, rf 0 0 1 a1), (8, I (a1.length : Int)), (11, B false)] [sl 0 a1] ?_
 exact ⟨false, h, it [1, 8, 11]⟩
 replace h := bF hc57 h
 rw [hc57]
 refine ve 16 191 [(1, rf 0 0 1 a1), (8, I (a1.length : Int)), (11, B false)] [sl 0 a1] ?_
 exact ⟨false, h, it [1, 8, 11]⟩
 rintro x47 h
 unfold spec_l4Step_j5 at h
 refine srv 3 191 [(11, B x47), (158, rf 0 0 1 a1), (160, I (w64 ((a1.length : Int) - 2)))] [sl 0 a1] ?_
 refine opsP_E (dd := some 161) (x := I (maxL (w64 ((a1.length : Int) - 2)) [0])) (CoreE.of_y (mxmV_sound (τ := τ) (m := true) (a := (w64 ((a1.length : Int) - 2))) (l := [0]) (by kernel_rfl))) ?_
 obtain ⟨v48, hv49, h⟩ := bindS h
 refine opsP_slr τ_ok 162 0 0 a1.length hv49 rfl (by kernel_rfl) ?_
 refine v 1 191 [(11, B x47), (162, rf 0 0 1 v48), (163, .arr 1 ([3] : List Int).length (eL ([3] : List Int)) true)] [sl 0 a1] ?_
 obtain ⟨v50, hv51, h⟩ := bindS h
 refine opsP_apt τ_ok 164 0 0 v48.length (nx hX) hv51 (slI_le hv49) (by kernel_rfl) ?_
 refine ve 3 191 [(6, rf 0 1 1 v50), (7, B x47)] [sl 1 v50] ?_
 have h := si h
 subst h
 exact pwp_ret (rt (.tup [rf 0 1 1 v50, B x47]) (OutP.tup (OutL.cons (OutP.list (v := 1) (by kernel_rfl)) (OutL.cons (OutP.frz (by kernel_rfl)) (OutL.nil _)))))
 refine srve 191 [(1, rf 0 0 1 a1), (8, I (a1.length : Int)), (40, I a2.fKind), (166, B (a2.fKind == 7))] [sl 0 a1] ?_
 refine pc h (fun h => ?_) (fun h => ?_)
 refine pwp_seq ?_
 refine ip 191 [(1, rf 0 0 1 a1), (8, I (a1.length : Int))] [sl 0 a1] ?_
 refine pwp_any ([[0], [], [], [], [0], [], [], [0], [0], [], [], [0], []]) ([[], [], [], [], [], [], [], [], [], [], [], [], []]) rfl (by kernel_rfl) ?_
 refine qv [0] (hL trivial) 1 191 [(168, rf 0 0 1 a1), (1, rf 0 0 1 a1), (8, I (a1.length : Int))] [sl 0 a1] ?_
 refine qv [] trivial 3 191 [(171, B (decide ((a1.length : Int) > 0))), (168, rf 0 0 1 a1), (1, rf 0 0 1 a1), (8, I (a1.length : Int))] [sl 0 a1] ?_
 rcases fk (decide ((a1.length : Int) > 0)) with hc61 | hc61
 replace h := bT hc61 h
 rw [hc61]
 refine qv [0] (hL trivial) 1 191 [(172, rf 0 0 1 a1), (171, B true), (168, rf 0 0 1 a1), (8, I (a1.length : Int))] [sl 0 a1] ?_
 refine qv [] trivial 2 191 [(174, I (w64 ((a1.length : Int) - 1))), (172, rf 0 0 1 a1), (171, B true), (168, rf 0 0 1 a1)] [sl 0 a1] ?_
 obtain ⟨v59, hv60, h⟩ := bindS h
 refine qX (some 175) (.ptr 0 0 ((w64 ((a1.length : Int) - 1)).toNat * 1)) 191 [(175, .ptr 0 0 ((w64 ((a1.length : Int) - 1)).toNat * 1)), (171, B true), (168, rf 0 0 1 a1)] [sl 0 a1] (fun Γ' hΓ => CoreE.of_y (idrV_sound (n := a1.length) τ_ok (by kernel_rfl) hv60 rfl)) (hL trivial) ?_
 refine qX (some 176) (I v59) 191 [(176, I v59), (171, B true), (168, rf 0 0 1 a1)] [sl 0 a1] (fun Γ' hΓ => CoreE.of_y (ldeV_sound (t := 3) (o' := 0) (r := I v59) τ_ok hv60 (by kernel_rfl) (by kernel_rfl))) (hL trivial) ?_
 refine qv [] trivial 2 191 [(178, B (v59 == 3)), (168, rf 0 0 1 a1)] [sl 0 a1] ?_
 refine qv [0] (hL trivial) 1 191 [(6, rf 0 0 1 a1), (178, B (v59 == 3))] [sl 0 a1] ?_
 refine qv [] trivial 1 191 [(7, B (v59 == 3)), (6, rf 0 0 1 a1)] [sl 0 a1] ?_
 refine qn 191 [(6, rf 0 0 1 a1), (7, B (v59 == 3))] [sl 0 a1] ?_
 have h := si h
 subst h
 exact pwp_ret (rt (.tup [rf 0 0 1 a1, B (v59 == 3)]) (OutP.tup (OutL.cons (OutP.list (v := 0) (by kernel_rfl)) (OutL.cons (OutP.frz (by kernel_rfl)) (OutL.nil _)))))
 replace h := bF hc61 h
 rw [hc61]
 refine qv [0] (hL trivial) 1 191 [(172, .lit undef), (171, B false), (168, rf 0 0 1 a1), (8, I (a1.length : Int))] [sl 0 a1] ?_
 refine qv [] trivial 2 191 [(174, .lit undef), (172, .lit undef), (171, B false), (168, rf 0 0 1 a1)] [sl 0 a1] ?_
 refine qv [0] (hL trivial) 2 191 [(176, .lit undef), (171, B false), (168, rf 0 0 1 a1)] [sl 0 a1] ?_
 refine qv [] trivial 2 191 [(178, B false), (168, rf 0 0 1 a1)] [sl 0 a1] ?_
 refine qv [0] (hL trivial) 1 191 [(6, rf 0 0 1 a1), (178, B false)] [sl 0 a1] ?_
 refine qv [] trivial 1 191 [(7, B false), (6, rf 0 0 1 a1)] [sl 0 a1] ?_
 refine qn 191 [(6, rf 0 0 1 a1), (7, B false)] [sl 0 a1] ?_
 have h := si h
 subst h
 exact pwp_ret (rt (.tup [rf 0 0 1 a1, B false]) (OutP.tup (OutL.cons (OutP.list (v := 0) (by kernel_rfl)) (OutL.cons (OutP.frz (by kernel_rfl)) (OutL.nil _)))))
 refine srve 191 [(1, rf 0 0 1 a1), (8, I (a1.length : Int)), (179, B (a2.fKind == 8))] [sl 0 a1] ?_
 refine pc h (fun h => ?_) (fun h => ?_)
 refine srv 3 191 [(8, I (a1.length : Int)), (181, rf 0 0 1 a1), (183, I (w64 ((a1.length : Int) - 1)))] [sl 0 a1] ?_
 refine opsP_E (dd := some 184) (x := I (maxL (w64 ((a1.length : Int) - 1)) [0])) (CoreE.of_y (mxmV_sound (τ := τ) (m := true) (a := (w64 ((a1.length : Int) - 1))) (l := [0]) (by kernel_rfl))) ?_
 obtain ⟨v63, hv64, h⟩ := bindS h
 refine opsP_slr τ_ok 185 0 0 a1.length hv64 rfl (by kernel_rfl) ?_
 refine v 1 191 [(8, I (a1.length : Int)), (185, rf 0 0 1 v63), (186, .arr 1 ([3] : List Int).length (eL ([3] : List Int)) true)] [sl 0 a1] ?_
 obtain ⟨v65, hv66, h⟩ := bindS h
 refine opsP_apt τ_ok 187 0 0 v63.length (nx hX) hv66 (slI_le hv64) (by kernel_rfl) ?_
 refine ve 4 191 [(6, rf 0 1 1 v65), (7, B (decide ((a1.length : Int) > 0)))] [sl 1 v65] ?_
 have h := si h
 subst h
 exact pwp_ret (rt (.tup [rf 0 1 1 v65, B (decide ((a1.length : Int) > 0))]) (OutP.tup (OutL.cons (OutP.list (v := 1) (by kernel_rfl)) (OutL.cons (OutP.frz (by kernel_rfl)) (OutL.nil _)))))
 refine pwp_skip ?_
 refine srve 191 [(6, rf 0 0 1 a1), (7, B false)] [sl 0 a1] ?_
 have h := si h
 subst h
 exact pwp_ret (rt (.tup [rf 0 0 1 a1, B false]) (OutP.tup (OutL.cons (OutP.list (v := 0) (by kernel_rfl)) (OutL.cons (OutP.frz (by kernel_rfl)) (OutL.nil _)))))
def impl_RowOk (a0 : List T_impl_Value) : Option Bool := bif (decide ((a0.length : Int) ≤ 4)) then (slices_ContainsFunc_impl_Value_impl_Value a0 impl_RowOk_1).bind fun v1 => some (!v1) else some false
theorem ok_impl_RowOk {a0 : List T_impl_Value} {y : Bool} (h : impl_RowOk a0 = some y) : OK Try.prog 49 [A a0] (B y) := by
 refine ow Try.func49 fun Γ hX => ?_
 unfold impl_RowOk at h
 refine srve 11 [(0, A a0)] [] ?_
 refine srv 4 11 [(0, A a0), (6, B (decide ((a0.length : Int) ≤ 4)))] [] ?_
 rcases fk (decide ((a0.length : Int) ≤ 4)) with hc3 | hc3
 replace h := bT hc3 h
 rw [hc3]
 refine v 1 11 [(6, B true), (7, A a0)] [] ?_
 obtain ⟨v1, hv2, h⟩ := bindS h
 refine cF 8 (ok_slices_ContainsFunc_impl_Value_impl_Value (rfl) (fun _ w hw => ok_impl_RowOk_1 hw) hv2) ?_
 refine ve 3 11 [(2, B (!v1))] [] ?_
 cases h
 exact pwp_ret rz
 replace h := bF hc3 h
 rw [hc3]
 refine ve 5 11 [(2, B false)] [] ?_
 cases h
 exact pwp_ret rz
def impl_Part_kind_1 (a0 : Int) (b0 : List Int) : Option Bool := (slices_ContainsFunc_int_int b0 (fun z0 => impl_Part_kind_1_1 z0 a0)).bind fun v1 => some (!v1)
theorem ok_impl_Part_kind_1 {a0 : Int} {b0 : List Int} {y : Bool} (h : impl_Part_kind_1 a0 b0 = some y) : OK Try.prog 63 [I a0, pf b0 0] (B y) := by
 refine ow Try.func63 fun Γ hX => ?_
 unfold impl_Part_kind_1 at h
 refine srve 8 [(1, pf b0 0), (2, pf a0 0)] [] ?_
 refine srv 2 8 [(4, A b0), (5, .fn 65 [pf a0 0])] [] ?_
 obtain ⟨v1, hv2, h⟩ := bindS h
 refine cF 6 (ok_slices_ContainsFunc_int_int (rfl) (fun _ w hw => ok_impl_Part_kind_1_1 hw) hv2) ?_
 refine ve 2 8 [(3, B (!v1))] [] ?_
 cases h
 exact pwp_ret rz
def impl_AndOf (a0 : Int) (a1 : Int) : Option Int := (impl_fold a0 a1 0).bind fun v1 => some v1
theorem ok_impl_AndOf {a0 : Int} {a1 : Int} {y : Int} (h : impl_AndOf a0 a1 = some y) : OK Try.prog 75 [I a0, I a1] (I y) := by
 refine ow Try.func75 fun Γ hX => ?_
 unfold impl_AndOf at h
 refine srve 8 [(0, I a0), (1, I a1)] [] ?_
 refine srv 2 8 [(5, I a0), (6, I a1)] [] ?_
 obtain ⟨v1, hv2, h⟩ := bindS h
 refine cF 7 (ok_impl_fold hv2) ?_
 refine ve 1 8 [(4, I v1)] [] ?_
 cases h
 exact pwp_ret rz
def impl_OrOf (a0 : Int) (a1 : Int) : Option Int := (impl_fold a0 a1 1).bind fun v1 => some v1
theorem ok_impl_OrOf {a0 : Int} {a1 : Int} {y : Int} (h : impl_OrOf a0 a1 = some y) : OK Try.prog 77 [I a0, I a1] (I y) := by
 refine ow Try.func77 fun Γ hX => ?_
 unfold impl_OrOf at h
 refine srve 8 [(0, I a0), (1, I a1)] [] ?_
 refine srv 2 8 [(5, I a0), (6, I a1)] [] ?_
 obtain ⟨v1, hv2, h⟩ := bindS h
 refine cF 7 (ok_impl_fold hv2) ?_
 refine ve 1 8 [(4, I v1)] [] ?_
 cases h
 exact pwp_ret rz
def impl_Value_order (a0 : T_impl_Value) (a1 : T_impl_Value) : Option Int := (cmp_Compare_int a0.fKind a1.fKind).bind fun v1 => (cmp_Compare_int a0.fN a1.fN).bind fun v3 => (cmp_Compare_string a0.fS a1.fS).bind fun v5 => (cmp_Or_int ([v1, v3, v5])).bind fun v7 => some v7
theorem ok_impl_Value_order {a0 : T_impl_Value} {a1 : T_impl_Value} {y : Int} (h : impl_Value_order a0 a1 = some y) : OK Try.prog 97 [E a0, E a1] (I y) := by
 refine ow Try.func97 fun Γ hX => ?_
 unfold impl_Value_order at h
 refine srve 22 [(2, pf a0 0), (3, pf a1 0)] [] ?_
 refine pwp_seq ?_
 refine ip 22 [(2, pf a0 0), (3, pf a1 0)] [] ?_
 refine pN 18 ?_
 refine qv [] trivial 4 22 [(8, I a1.fKind), (6, I a0.fKind), (2, pf a0 0), (3, pf a1 0)] [] ?_
 obtain ⟨v1, hv2, h⟩ := bindS h
 refine qX (some 9) (I v1) 22 [(9, I v1), (2, pf a0 0), (3, pf a1 0)] [] (fun Γ' hΓ => CoreE.of_g (callV_sound (τ := τ) (by kernel_rfl) rfl (ok_cmp_Compare_int hv2) (FzTo.frz rfl))) trivial ?_
 refine qv [] trivial 4 22 [(13, I a1.fN), (11, I a0.fN), (9, I v1), (2, pf a0 0), (3, pf a1 0)] [] ?_
 obtain ⟨v3, hv4, h⟩ := bindS h
 refine qX (some 14) (I v3) 22 [(14, I v3), (9, I v1), (2, pf a0 0), (3, pf a1 0)] [] (fun Γ' hΓ => CoreE.of_g (callV_sound (τ := τ) (by kernel_rfl) rfl (ok_cmp_Compare_int hv4) (FzTo.frz rfl))) trivial ?_
 refine qv [] trivial 4 22 [(18, S a1.fS), (16, S a0.fS), (14, I v3), (9, I v1)] [] ?_
 obtain ⟨v5, hv6, h⟩ := bindS h
 refine qX (some 19) (I v5) 22 [(19, I v5), (14, I v3), (9, I v1)] [] (fun Γ' hΓ => CoreE.of_g (callV_sound (τ := τ) (by kernel_rfl) rfl (ok_cmp_Compare_string hv6) (FzTo.frz rfl))) trivial ?_
 refine qv [] trivial 1 22 [(20, .arr 1 ([v1, v3, v5] : List Int).length (eL ([v1, v3, v5] : List Int)) true)] [] ?_
 obtain ⟨v7, hv8, h⟩ := bindS h
 refine qX (some 21) (I v7) 22 [(21, I v7)] [] (fun Γ' hΓ => CoreE.of_g (callV_sound (τ := τ) (by kernel_rfl) rfl (ok_cmp_Or_int hv8) (FzTo.frz rfl))) trivial ?_
 refine qvn [] trivial 1 22 [(4, I v7)] [] ?_
 cases h
 exact pwp_ret rz
def laws_alive  : Option Bool := (impl_ValueOk (T_impl_Value.mk 1 3 (ByteArray.mk #[]))).bind fun v1 => bif v1 then (impl_ValueOk (T_impl_Value.mk 9 0 (ByteArray.mk #[]))).bind fun v3 => some (!v3) else some false
theorem ok_laws_alive  {y : Bool} (h : laws_alive  = some y) : OK Try.prog 11 [] (B y) := by
 refine ow Try.func11 fun Γ hX => ?_
 unfold laws_alive at h
 refine srve 8 [] [] ?_
 refine srv 1 8 [(1, E (T_impl_Value.mk 1 3 (ByteArray.mk #[])))] [] ?_
 obtain ⟨v1, hv2, h⟩ := bindS h
 refine cF 2 (ok_impl_ValueOk hv2) ?_
 refine v 1 8 [(3, B v1)] [] ?_
 rcases Bool.eq_false_or_eq_true v1 with hc5 | hc5
 replace h := bT hc5 h
 rw [hc5]
 refine v 1 8 [(3, B true), (4, E (T_impl_Value.mk 9 0 (ByteArray.mk #[])))] [] ?_
 obtain ⟨v3, hv4, h⟩ := bindS h
 refine cF 5 (ok_impl_ValueOk hv4) ?_
 refine ve 3 8 [(0, B (!v3))] [] ?_
 cases h
 exact pwp_ret rz
 replace h := bF hc5 h
 rw [hc5]
 refine ve 5 8 [(0, B false)] [] ?_
 cases h
 exact pwp_ret rz
def spec_l20Asked (a0 : T_spec_l20Rd) (a1 : Int) : Option (((List T_impl_Column) × (List T_impl_Value) × (List T_impl_Part)) × T_spec_l20Rd) := (spec_l20Columns a0 (w64 (3 * a1))).bind fun v1 => (spec_l20Fit v1.2 v1.1 (w64 (3 * a1))).bind fun v3 => (spec_l20Wild v3.2 v1.1 a1).bind fun v5 => some ((v1.1, v3.1, v5.1), v5.2)
theorem ok_spec_l20Asked {a0 : T_spec_l20Rd} {a1 : Int} {y : ((List T_impl_Column) × (List T_impl_Value) × (List T_impl_Part)) × T_spec_l20Rd} (h : spec_l20Asked a0 a1 = some y) : OKb Try.prog 23 (Enc.cells a0) [I a1] (.tup [A y.1.1, A y.1.2.1, A y.1.2.2]) (Enc.cells y.2) := by
 refine OKb_of_pwp τ_ok Try.func23 rfl (by kernel_rfl) rfl (Enc.frz _) (Enc.frz _) fun Γ hQ => ?_
 unfold spec_l20Asked at h
 refine srve 22 [(0, .ptr 0 0 0), (1, I a1)] [sc 0 a0] ?_
 refine srv 3 22 [(0, .ptr 0 0 0), (1, I a1), (8, .ptr 0 0 0), (10, I (w64 (3 * a1)))] [sc 0 a0] ?_
 obtain ⟨v1, hv2, h⟩ := bindS h
 refine cBo 11 0 0 (ok_spec_l20Columns hv2) ?_
 refine ve 1 22 [(0, .ptr 0 0 0), (1, I a1), (7, A v1.1)] [sc 0 v1.2] ?_
 refine srv 5 22 [(0, .ptr 0 0 0), (1, I a1), (7, A v1.1), (12, A v1.1), (13, .ptr 0 0 0), (14, A v1.1), (16, I (w64 (3 * a1)))] [sc 0 v1.2] ?_
 obtain ⟨v3, hv4, h⟩ := bindS h
 refine cBo 17 0 0 (ok_spec_l20Fit hv4) ?_
 refine v 3 22 [(12, A v1.1), (17, A v3.1), (18, .ptr 0 0 0), (19, A v1.1), (20, I a1)] [sc 0 v3.2] ?_
 obtain ⟨v5, hv6, h⟩ := bindS h
 refine cBo 21 0 0 (ok_spec_l20Wild hv6) ?_
 refine ve 3 22 [(4, A v1.1), (5, A v3.1), (6, A v5.1)] [sc 0 v5.2] ?_
 have h := si h
 subst h
 exact pwp_ret ⟨.inr rfl, .tup [A v1.1, A v3.1, A v5.1], _, 0, by kernel_rfl, (OutP.tup (OutL.cons (OutP.frz (by kernel_rfl)) (OutL.cons (OutP.frz (by kernel_rfl)) (OutL.cons (OutP.frz (by kernel_rfl)) (OutL.nil _))))), by decide, by decide, by kernel_rfl⟩
def spec_ExprKind_j3 (x6 : List Int) (x15 : Bool) : Option Int := bif x15 then some (-1) else (getI x6 (0 : Int)).bind fun v17 => some v17
def spec_ExprKind_j2 (a0 : List T_impl_Column) (a1 : List T_impl_Part) (x4 : Bool) (x5 : Int) (x6 : List Int) (K8 : Bool → Int → (List Int) → Option Int) (x9 : Bool) : Option Int := bif x9 then (getI a1 x5).bind fun v11 => (spec_l4Step a0 x6 v11).bind fun v13 => K8 v13.2 (w64 (x5 + 1)) v13.1 else bif (!x4) then spec_ExprKind_j3 x6 true else spec_ExprKind_j3 x6 (!((x6.length : Int) == 1))
def spec_ExprKind_l1 (a0 : List T_impl_Column) (a1 : List T_impl_Part) : Nat → Bool → Int → (List Int) → Option Int
 | 0, _, _, _ => none
 | f7 + 1, x4, x5, x6 => bif (decide (x5 < (a1.length : Int))) then spec_ExprKind_j2 a0 a1 x4 x5 x6 (spec_ExprKind_l1 a0 a1 f7) x4 else spec_ExprKind_j2 a0 a1 x4 x5 x6 (spec_ExprKind_l1 a0 a1 f7) false
def spec_ExprKind_j0 (a0 : List T_impl_Column) (a1 : List T_impl_Part) (x1 : Bool) : Option Int := bif x1 then some (-1) else spec_ExprKind_l1 a0 a1 FUEL true 0 ([] : List Int)
def spec_ExprKind (a0 : List T_impl_Column) (a1 : List T_impl_Part) : Option Int := (spec_ColumnsOk a0).bind fun v21 => bif (!v21) then spec_ExprKind_j0 a0 a1 true else spec_ExprKind_j0 a0 a1 (decide ((a1.length : Int) > 12))
theorem ok_spec_ExprKind {a0 : List T_impl_Column} {a1 : List T_impl_Part} {y : Int} (h : spec_ExprKind a0 a1 = some y) : OK Try.prog 27 [A a0, A a1] (I y) := by
 refine ow Try.func27 fun Γ hX => ?_
 unfold spec_ExprKind at h
 refine srve 46 [(0, A a0), (1, A a1)] [] ?_
 refine pwp_seq ?_
 refine pwp_seq ?_
 refine pwp_join (σ := Bool) (fun x1 => (⟨46, [(0, A a0), (1, A a1), (15, B x1)], []⟩ : St)) (fun x1 => spec_ExprKind_j0 a0 a1 x1 = some y) ?_ ?_
 refine rv 1 46 [(0, A a0), (1, A a1), (8, A a0)] [] ?_
 obtain ⟨v21, hv22, h⟩ := bindS h
 refine cF 9 (ok_spec_ColumnsOk hv22) ?_
 refine v 2 46 [(0, A a0), (1, A a1), (11, B (!v21))] [] ?_
 rcases fk (!v21) with hc23 | hc23
 replace h := bT hc23 h
 rw [hc23]
 refine ve 4 46 [(0, A a0), (1, A a1), (15, B true)] [] ?_
 exact ⟨true, h, it [0, 1, 15]⟩
 replace h := bF hc23 h
 rw [hc23]
 refine ve 4 46 [(0, A a0), (1, A a1), (15, B (decide ((a1.length : Int) > 12)))] [] ?_
 exact ⟨(decide ((a1.length : Int) > 12)), h, it [0, 1, 15]⟩
 rintro x1 h
 unfold spec_ExprKind_j0 at h
 refine pc h (fun h => ?_) (fun h => ?_)
 refine srve 46 [(4, I (-1))] [] ?_
 cases h
 exact pwp_ret rz
 refine pwp_skip ?_
 refine srve 46 [(0, A a0), (1, A a1), (5, .arr 1 0 (eL ([] : List Int)) true)] [] ?_
 refine srve 46 [(0, A a0), (1, A a1), (5, .arr 1 0 (eL ([] : List Int)) true), (6, B true)] [] ?_
 refine pwp_seq ?_
 refine srve 46 [(0, A a0), (1, A a1), (5, .arr 1 0 (eL ([] : List Int)) true), (6, B true), (7, I 0)] [] ?_
 refine pwp_block ?_
 refine pwp_loop (ι := Nat × Bool × Int × (List Int)) (fun (f7, x4, x5, x6) => (⟨46, [(0, A a0), (1, A a1), (5, rf 0 0 1 x6), (6, B x4), (7, I x5)], [sl 0 x6]⟩ : St)) (fun (f7, x4, x5, x6) => spec_ExprKind_l1 a0 a1 f7 x4 x5 x6 = some y) Prod.fst (FUEL, true, 0, ([] : List Int)) h (Imp.thawS 5 [0, 1, 5, 6, 7] (by kernel_rfl)) ?_
 rintro ⟨f7, x4, x5, x6⟩ h
 dsimp only at h ⊢
 rcases f7 with _ | f7
 cases h
 rw [spec_ExprKind_l1] at h
 refine pwp_seq ?_
 refine pwp_seq ?_
 refine pwp_join (σ := Bool) (fun x9 => (⟨46, [(0, A a0), (1, A a1), (5, rf 0 0 1 x6), (6, B x4), (7, I x5), (23, B x9)], [sl 0 x6]⟩ : St)) (fun x9 => spec_ExprKind_j2 a0 a1 x4 x5 x6 (spec_ExprKind_l1 a0 a1 f7) x9 = some y) ?_ ?_
 refine rv 5 46 [(0, A a0), (1, A a1), (5, rf 0 0 1 x6), (6, B x4), (7, I x5), (21, B (decide (x5 < (a1.length : Int))))] [sl 0 x6] ?_
 rcases fk (decide (x5 < (a1.length : Int))) with hc20 | hc20
 replace h := bT hc20 h
 rw [hc20]
 refine ve 2 46 [(0, A a0), (1, A a1), (5, rf 0 0 1 x6), (6, B x4), (7, I x5), (22, B x4), (23, B x4)] [sl 0 x6] ?_
 exact ⟨x4, h, it [0, 1, 5, 6, 7, 23]⟩
 replace h := bF hc20 h
 rw [hc20]
 refine ve 2 46 [(0, A a0), (1, A a1), (5, rf 0 0 1 x6), (6, B x4), (7, I x5), (22, .lit undef), (23, B false)] [sl 0 x6] ?_
 exact ⟨false, h, it [0, 1, 5, 6, 7, 23]⟩
 rintro x9 h
 unfold spec_ExprKind_j2 at h
 refine pc h (fun h => ?_) (fun h => ?_)
 refine pwp_skip ?_
 refine pwp_seq ?_
 refine pwp_block ?_
 refine rv 4 46 [(0, A a0), (1, A a1), (7, I x5), (27, A a0), (28, rf 0 0 1 x6), (29, A a1), (30, I x5)] [sl 0 x6] ?_
 obtain ⟨v11, hv12, h⟩ := bindS h
 refine opsP_idx τ_ok 31 hv12 (by kernel_rfl) ?_
 refine v 1 46 [(0, A a0), (1, A a1), (7, I x5), (27, A a0), (28, rf 0 0 1 x6), (32, E v11)] [sl 0 x6] ?_
 obtain ⟨v13, hv14, h⟩ := bindS h
 refine opsP_callM (xs := [A a0, rf 0 0 1 x6, E v11]) (x := .tup [rf 1 0 1 v13.1, B v13.2]) (bs := [⟨0, eL v13.1⟩]) τ 33 [0] (nx hX) (ok_spec_l4Step hv14) (by kernel_rfl) (OutL.cons (OutP.frz rfl) (OutL.cons (OutP.list (v := 0) (by kernel_rfl)) (OutL.cons (OutP.frz rfl) (OutL.nil _)))) (by decide) (by kernel_rfl) ?_
 refine ve 5 46 [(0, A a0), (1, A a1), (5, rf 1 0 1 v13.1), (6, B v13.2), (7, I x5)] [none, sl 0 v13.1] ?_
 refine rve 46 [(0, A a0), (1, A a1), (5, rf 1 0 1 v13.1), (6, B v13.2), (7, I (w64 (x5 + 1)))] [none, sl 0 v13.1] ?_
 exact ⟨(f7, v13.2, (w64 (x5 + 1)), v13.1), h, Nat.lt_succ_self _, qt (it (st' := ⟨46, [(0, A a0), (1, A a1), (5, rf 1 0 1 v13.1), (6, B v13.2), (7, I (w64 (x5 + 1)))], [none, sl 0 v13.1]⟩) [0, 1, 5, 6, 7]) (qt (Imp.mvS (st' := ⟨46, [(0, A a0), (1, A a1), (5, rf 0 0 1 v13.1), (6, B v13.2), (7, I (w64 (x5 + 1)))], [sl 0 v13.1, none]⟩) 1 0 [0, 1, 5, 6, 7] (nx hX) (v := 0) (cs := eL v13.1) (by kernel_rfl) (by kernel_rfl) (by exact (And.intro (eL_frz _) trivial)) (by kernel_rfl) (by kernel_rfl)) (Imp.truncS 1 (nx hX) (by kernel_rfl) (allBelow_mem (by exact (And.intro rfl (And.intro rfl (And.intro rfl (And.intro rfl (And.intro rfl trivial))))))) (by exact (And.intro (frz_below (eL_frz _)) trivial)) (by kernel_rfl)))⟩
 refine pwp_exit ?_
 refine pwp_seq ?_
 refine pwp_seq ?_
 refine pwp_join (σ := Bool) (fun x15 => (⟨46, [(5, rf 0 0 1 x6), (42, B x15)], [sl 0 x6]⟩ : St)) (fun x15 => spec_ExprKind_j3 x6 x15 = some y) ?_ ?_
 refine rv 3 46 [(5, rf 0 0 1 x6), (38, B (!x4))] [sl 0 x6] ?_
 rcases fk (!x4) with hc19 | hc19
 replace h := bT hc19 h
 rw [hc19]
 refine ve 4 46 [(5, rf 0 0 1 x6), (42, B true)] [sl 0 x6] ?_
 exact ⟨true, h, it [5, 42]⟩
 replace h := bF hc19 h
 rw [hc19]
 refine ve 4 46 [(5, rf 0 0 1 x6), (42, B (!((x6.length : Int) == 1)))] [sl 0 x6] ?_
 exact ⟨(!((x6.length : Int) == 1)), h, it [5, 42]⟩
 rintro x15 h
 unfold spec_ExprKind_j3 at h
 refine pc h (fun h => ?_) (fun h => ?_)
 refine srve 46 [(4, I (-1))] [sl 0 x6] ?_
 cases h
 exact pwp_ret rz
 refine pwp_skip ?_
 refine srv 1 46 [(43, rf 0 0 1 x6)] [sl 0 x6] ?_
 obtain ⟨v17, hv18, h⟩ := bindS h
 refine opsP_idr τ_ok 44 0 0 x6.length hv18 rfl (by kernel_rfl) ?_
 refine opsP_lde (r := I v17) τ_ok 45 3 0 hv18 (by kernel_rfl) (by kernel_rfl) ?_
 refine ve 1 46 [(4, I v17)] [sl 0 x6] ?_
 cases h
 exact pwp_ret rz
def impl_RowFits_j2 (x3 : Int) (K5 : Int → Option Bool) (x9 : Bool) : Option Bool := bif x9 then some false else K5 (w64 (x3 + 1))
def impl_RowFits_l1 (a0 : List T_impl_Column) (a1 : List T_impl_Value) : Nat → Int → Option Bool
 | 0, _ => none
 | f4 + 1, x3 => bif (decide (x3 < (a1.length : Int))) then (getI a1 x3).bind fun v7 => (getI a0 x3).bind fun v11 => bif (!(v7.fKind == v11.fKind)) then bif (!(v7.fKind == 0)) then impl_RowFits_j2 x3 (impl_RowFits_l1 a0 a1 f4) true else (getI a0 x3).bind fun v13 => impl_RowFits_j2 x3 (impl_RowFits_l1 a0 a1 f4) (!v13.fEmpty) else impl_RowFits_j2 x3 (impl_RowFits_l1 a0 a1 f4) false else some true
def impl_RowFits_j0 (a0 : List T_impl_Column) (a1 : List T_impl_Value) (x1 : Bool) : Option Bool := bif x1 then some false else impl_RowFits_l1 a0 a1 FUEL 0
def impl_RowFits (a0 : List T_impl_Column) (a1 : List T_impl_Value) : Option Bool := (impl_ColumnsOk a0).bind fun v17 => bif (!v17) then impl_RowFits_j0 a0 a1 true else (impl_RowOk a1).bind fun v19 => bif (!v19) then impl_RowFits_j0 a0 a1 true else impl_RowFits_j0 a0 a1 (!((a1.length : Int) == (a0.length : Int)))
theorem ok_impl_RowFits {a0 : List T_impl_Column} {a1 : List T_impl_Value} {y : Bool} (h : impl_RowFits a0 a1 = some y) : OK Try.prog 28 [A a0, A a1] (B y) := by
 refine ow Try.func28 fun Γ hX => ?_
 unfold impl_RowFits at h
 refine srveM [6] 51 [(0, A a0), (1, A a1)] [] ?_
 refine pwp_seq ?_
 refine pwp_seq ?_
 refine pwp_join (σ := Bool) (fun x1 => (⟨51, [(0, A a0), (1, A a1), (21, B x1)], []⟩ : St)) (fun x1 => impl_RowFits_j0 a0 a1 x1 = some y) ?_ ?_
 refine rvM [6] 1 51 [(0, A a0), (1, A a1), (7, A a0)] [] ?_
 obtain ⟨v17, hv18, h⟩ := bindS h
 refine cF 8 (ok_impl_ColumnsOk hv18) ?_
 refine vM [6] 2 51 [(0, A a0), (1, A a1), (10, B (!v17))] [] ?_
 rcases fk (!v17) with hc22 | hc22
 replace h := bT hc22 h
 rw [hc22]
 refine veM [6] 11 51 [(0, A a0), (1, A a1), (21, B true)] [] ?_
 exact ⟨true, h, it [0, 1, 21]⟩
 replace h := bF hc22 h
 rw [hc22]
 refine vM [6] 1 51 [(0, A a0), (1, A a1), (10, B false), (11, A a1)] [] ?_
 obtain ⟨v19, hv20, h⟩ := bindS h
 refine cF 12 (ok_impl_RowOk hv20) ?_
 refine vM [6] 3 51 [(0, A a0), (1, A a1), (15, B (!v19))] [] ?_
 rcases fk (!v19) with hc21 | hc21
 replace h := bT hc21 h
 rw [hc21]
 refine veM [6] 6 51 [(0, A a0), (1, A a1), (21, B true)] [] ?_
 exact ⟨true, h, it [0, 1, 21]⟩
 replace h := bF hc21 h
 rw [hc21]
 refine veM [6] 6 51 [(0, A a0), (1, A a1), (21, B (!((a1.length : Int) == (a0.length : Int))))] [] ?_
 exact ⟨(!((a1.length : Int) == (a0.length : Int))), h, it [0, 1, 21]⟩
 rintro x1 h
 unfold impl_RowFits_j0 at h
 refine pc h (fun h => ?_) (fun h => ?_)
 refine srveM [6] 51 [(4, B false)] [] ?_
 cases h
 exact pwp_ret rz
 refine pwp_skip ?_
 refine pwp_seq ?_
 refine srveM [6] 51 [(0, A a0), (22, A a1), (23, I (a1.length : Int)), (24, I 0)] [] ?_
 refine pwp_block ?_
 refine pwp_loop (ι := Nat × Int) (fun (f4, x3) => (⟨51, [(0, A a0), (22, A a1), (23, I (a1.length : Int)), (24, I x3)], []⟩ : St)) (fun (f4, x3) => impl_RowFits_l1 a0 a1 f4 x3 = some y) Prod.fst (FUEL, 0) h (it [0, 22, 23, 24]) ?_
 rintro ⟨f4, x3⟩ h
 dsimp only at h ⊢
 rcases f4 with _ | f4
 cases h
 rw [impl_RowFits_l1] at h
 refine srveM [6] 51 [(0, A a0), (22, A a1), (23, I (a1.length : Int)), (24, I x3), (25, B (decide (x3 < (a1.length : Int))))] [] ?_
 refine pwp_seq ?_
 refine pc h (fun h => ?_) (fun h => ?_)
 refine pwp_skip ?_
 refine pwp_seq ?_
 refine pwp_block ?_
 refine srvM [6] 1 51 [(0, A a0), (22, A a1), (23, I (a1.length : Int)), (24, I x3), (26, I x3)] [] ?_
 obtain ⟨v7, hv8, h⟩ := bindS h
 refine opsP_idx τ_ok 27 hv8 (by kernel_rfl) ?_
 refine veM [6] 4 51 [(0, A a0), (5, I x3), (6, .ptr 0 0 0), (22, A a1), (23, I (a1.length : Int)), (24, I x3)] [sc 0 v7] ?_
 refine pwp_seq ?_
 refine pwp_join (σ := Bool) (fun x9 => (⟨51, [(0, A a0), (22, A a1), (23, I (a1.length : Int)), (24, I x3), (49, B x9)], [sc 0 v7]⟩ : St)) (fun x9 => impl_RowFits_j2 x3 (impl_RowFits_l1 a0 a1 f4) x9 = some y) ?_ ?_
 refine ip 51 [(0, A a0), (5, I x3), (6, .ptr 0 0 0), (22, A a1), (23, I (a1.length : Int)), (24, I x3)] [sc 0 v7] ?_
 refine pwp_any ([[0], [0], [], [], [], [], [], [], [], [0], [0], [], [], [], [], [], [], [], [], [], []]) ([[], [], [], [], [], [], [], [], [], [], [], [], [], [], [], [], [], [], [], [], []]) rfl (by kernel_rfl) ?_
 refine qvM [6] [0] (hB trivial) 2 51 [(30, I v7.fKind), (0, A a0), (5, I x3), (6, .ptr 0 0 0), (22, A a1), (23, I (a1.length : Int)), (24, I x3)] [sc 0 v7] ?_
 refine qvM [6] [] trivial 2 51 [(32, I x3), (31, A a0), (30, I v7.fKind), (0, A a0), (5, I x3), (6, .ptr 0 0 0), (22, A a1), (23, I (a1.length : Int)), (24, I x3)] [sc 0 v7] ?_
 obtain ⟨v11, hv12, h⟩ := bindS h
 refine qX (some 33) (pf v11 0) 51 [(33, pf v11 0), (30, I v7.fKind), (0, A a0), (5, I x3), (6, .ptr 0 0 0), (22, A a1), (23, I (a1.length : Int)), (24, I x3)] [sc 0 v7] (fun Γ' hΓ => CoreE.of_y (idxV_sound τ_ok (by kernel_rfl) hv12)) trivial ?_
 refine qvM [6] [] trivial 4 51 [(37, B (!(v7.fKind == v11.fKind))), (0, A a0), (5, I x3), (6, .ptr 0 0 0), (22, A a1), (23, I (a1.length : Int)), (24, I x3)] [sc 0 v7] ?_
 rcases fk (!(v7.fKind == v11.fKind)) with hc16 | hc16
 replace h := bT hc16 h
 rw [hc16]
 refine qvM [6] [0] (hB trivial) 2 51 [(39, I v7.fKind), (38, .ptr 0 0 0), (37, B true), (0, A a0), (5, I x3), (22, A a1), (23, I (a1.length : Int)), (24, I x3)] [sc 0 v7] ?_
 refine qvM [6] [] trivial 2 51 [(41, B (!(v7.fKind == 0))), (40, B (!(v7.fKind == 0))), (39, I v7.fKind), (38, .ptr 0 0 0), (37, B true), (0, A a0), (5, I x3), (22, A a1), (23, I (a1.length : Int)), (24, I x3)] [sc 0 v7] ?_
 rcases fk (!(v7.fKind == 0)) with hc15 | hc15
 replace h := bT hc15 h
 rw [hc15]
 refine qvnM [6] [] trivial 8 51 [(0, A a0), (22, A a1), (23, I (a1.length : Int)), (24, I x3), (38, .ptr 0 0 0), (39, I v7.fKind), (40, B true), (41, B true), (42, .lit undef), (43, .lit undef), (44, .lit undef), (45, .lit undef), (46, .lit undef), (47, .lit undef), (48, B true), (49, B true)] [sc 0 v7] ?_
 exact ⟨true, h, it [0, 22, 23, 24, 49]⟩
 replace h := bF hc15 h
 rw [hc15]
 refine qvM [6] [] trivial 2 51 [(43, I x3), (42, A a0), (41, B false), (40, B false), (39, I v7.fKind), (38, .ptr 0 0 0), (37, B true), (0, A a0), (22, A a1), (23, I (a1.length : Int)), (24, I x3)] [sc 0 v7] ?_
 obtain ⟨v13, hv14, h⟩ := bindS h
 refine qX (some 44) (pf v13 0) 51 [(44, pf v13 0), (43, I x3), (42, A a0), (41, B false), (40, B false), (39, I v7.fKind), (38, .ptr 0 0 0), (37, B true), (0, A a0), (22, A a1), (23, I (a1.length : Int)), (24, I x3)] [sc 0 v7] (fun Γ' hΓ => CoreE.of_y (idxV_sound τ_ok (by kernel_rfl) hv14)) trivial ?_
 refine qvnM [6] [] trivial 5 51 [(0, A a0), (22, A a1), (23, I (a1.length : Int)), (24, I x3), (38, .ptr 0 0 0), (39, I v7.fKind), (40, B false), (41, B false), (42, A a0), (43, I x3), (44, pf v13 0), (45, pf v13 1), (46, B v13.fEmpty), (47, B (!v13.fEmpty)), (48, B (!v13.fEmpty)), (49, B (!v13.fEmpty))] [sc 0 v7] ?_
 exact ⟨(!v13.fEmpty), h, it [0, 22, 23, 24, 49]⟩
 replace h := bF hc16 h
 rw [hc16]
 refine qvM [6] [0] (hB trivial) 2 51 [(39, .lit undef), (38, .lit undef), (37, B false), (0, A a0), (5, I x3), (22, A a1), (23, I (a1.length : Int)), (24, I x3)] [sc 0 v7] ?_
 refine qvM [6] [] trivial 10 51 [(49, B false), (48, .lit undef), (47, .lit undef), (46, .lit undef), (45, .lit undef), (44, .lit undef), (43, .lit undef), (42, .lit undef), (41, .lit undef), (40, .lit undef), (39, .lit undef), (38, .lit undef), (0, A a0), (22, A a1), (23, I (a1.length : Int)), (24, I x3)] [sc 0 v7] ?_
 refine qn 51 [(0, A a0), (22, A a1), (23, I (a1.length : Int)), (24, I x3), (38, .lit undef), (39, .lit undef), (40, .lit undef), (41, .lit undef), (42, .lit undef), (43, .lit undef), (44, .lit undef), (45, .lit undef), (46, .lit undef), (47, .lit undef), (48, .lit undef), (49, B false)] [sc 0 v7] ?_
 exact ⟨false, h, it [0, 22, 23, 24, 49]⟩
 rintro x9 h
 unfold impl_RowFits_j2 at h
 refine pc h (fun h => ?_) (fun h => ?_)
 refine srveM [6] 51 [(4, B false)] [sc 0 v7] ?_
 cases h
 exact pwp_ret rz
 refine pwp_skip ?_
 refine rveM [6] 51 [(0, A a0), (22, A a1), (23, I (a1.length : Int)), (24, I (w64 (x3 + 1)))] [sc 0 v7] ?_
 exact ⟨(f4, (w64 (x3 + 1))), h, Nat.lt_succ_self _, (it (st' := ⟨51, [(0, A a0), (22, A a1), (23, I (a1.length : Int)), (24, I (w64 (x3 + 1)))], [sc 0 v7]⟩) [0, 22, 23, 24]).trans (Imp.truncS 0 (nx hX) (by kernel_rfl) (allBelow_mem (by exact (And.intro rfl (And.intro rfl (And.intro rfl (And.intro rfl trivial)))))) (by exact trivial) (by kernel_rfl))⟩
 refine pwp_exit ?_
 refine srveM [6] 51 [(4, B true)] [] ?_
 cases h
 exact pwp_ret rz
def impl_Part_kind (a0 : T_impl_Part) (a1 : List T_impl_Column) (a2 : List Int) : Option (Int × Bool) := bif (a0.fKind == 1) then some (a0.fV.fKind, true) else bif (a0.fKind == 2) then (getI a1 a0.fN).bind fun v3 => some (v3.fKind, true) else bif (a0.fKind == 3) then (impl_Part_kind_1 1 a2).bind fun v6 => some (1, v6) else bif (a0.fKind == 4) then (getI a2 0).bind fun v9 => (getI a2 1).bind fun v11 => some (3, (v9 == v11)) else bif (a0.fKind == 8) then some (3, true) else (impl_Part_kind_1 3 a2).bind fun v14 => some (3, v14)
theorem ok_impl_Part_kind {a0 : T_impl_Part} {a1 : List T_impl_Column} {a2 : List Int} {y : Int × Bool} (h : impl_Part_kind a0 a1 a2 = some y) : OK Try.prog 43 [E a0, A a1, A a2] (.tup [I y.1, B y.2]) := by
 refine ow Try.func43 fun Γ hX => ?_
 unfold impl_Part_kind at h
 refine srve 42 [(1, A a1), (3, pf a0 0), (5, pf a2 0)] [] ?_
 refine srve 42 [(1, A a1), (3, pf a0 0), (5, pf a2 0), (8, .fn 63 [pf a2 0])] [] ?_
 refine pwp_seq ?_
 refine srve 42 [(1, A a1), (3, pf a0 0), (5, pf a2 0), (8, .fn 63 [pf a2 0]), (11, I a0.fKind)] [] ?_
 refine pwp_block ?_
 refine srve 42 [(1, A a1), (3, pf a0 0), (5, pf a2 0), (8, .fn 63 [pf a2 0]), (11, I a0.fKind), (12, B (a0.fKind == 1))] [] ?_
 refine pc h (fun h => ?_) (fun h => ?_)
 refine srve 42 [(6, I a0.fV.fKind), (7, B true)] [] ?_
 have h := si h
 subst h
 exact pwp_ret (rt (.tup [I a0.fV.fKind, B true]) (OutP.tup (OutL.cons (OutP.frz (by kernel_rfl)) (OutL.cons (OutP.frz (by kernel_rfl)) (OutL.nil _)))))
 refine srve 42 [(1, A a1), (3, pf a0 0), (5, pf a2 0), (8, .fn 63 [pf a2 0]), (11, I a0.fKind), (17, B (a0.fKind == 2))] [] ?_
 refine pc h (fun h => ?_) (fun h => ?_)
 refine srv 3 42 [(19, A a1), (21, I a0.fN)] [] ?_
 obtain ⟨v3, hv4, h⟩ := bindS h
 refine opsP_idx τ_ok 22 hv4 (by kernel_rfl) ?_
 refine ve 4 42 [(6, I v3.fKind), (7, B true)] [] ?_
 have h := si h
 subst h
 exact pwp_ret (rt (.tup [I v3.fKind, B true]) (OutP.tup (OutL.cons (OutP.frz (by kernel_rfl)) (OutL.cons (OutP.frz (by kernel_rfl)) (OutL.nil _)))))
 refine srve 42 [(5, pf a2 0), (8, .fn 63 [pf a2 0]), (11, I a0.fKind), (25, B (a0.fKind == 3))] [] ?_
 refine pc h (fun h => ?_) (fun h => ?_)
 refine srv 1 42 [(27, .fn 63 [pf a2 0])] [] ?_
 obtain ⟨v6, hv7, h⟩ := bindS h
 refine cF 28 (ok_impl_Part_kind_1 hv7) ?_
 refine ve 2 42 [(6, I 1), (7, B v6)] [] ?_
 have h := si h
 subst h
 exact pwp_ret (rt (.tup [I 1, B v6]) (OutP.tup (OutL.cons (OutP.frz (by kernel_rfl)) (OutL.cons (OutP.frz (by kernel_rfl)) (OutL.nil _)))))
 refine srve 42 [(5, pf a2 0), (8, .fn 63 [pf a2 0]), (11, I a0.fKind), (29, B (a0.fKind == 4))] [] ?_
 refine pc h (fun h => ?_) (fun h => ?_)
 refine pwp_seq ?_
 refine ip 42 [(5, pf a2 0)] [] ?_
 refine pN 9 ?_
 refine qv [] trivial 1 42 [(31, A a2), (5, pf a2 0)] [] ?_
 obtain ⟨v9, hv10, h⟩ := bindS h
 refine qX (some 32) (pf v9 0) 42 [(32, pf v9 0), (5, pf a2 0)] [] (fun Γ' hΓ => CoreE.of_y (idxV_sound τ_ok (by kernel_rfl) hv10)) trivial ?_
 refine qv [] trivial 2 42 [(34, A a2), (33, I v9)] [] ?_
 obtain ⟨v11, hv12, h⟩ := bindS h
 refine qX (some 35) (pf v11 0) 42 [(35, pf v11 0), (33, I v9)] [] (fun Γ' hΓ => CoreE.of_y (idxV_sound τ_ok (by kernel_rfl) hv12)) trivial ?_
 refine qvn [] trivial 4 42 [(6, I 3), (7, B (v9 == v11))] [] ?_
 have h := si h
 subst h
 exact pwp_ret (rt (.tup [I 3, B (v9 == v11)]) (OutP.tup (OutL.cons (OutP.frz (by kernel_rfl)) (OutL.cons (OutP.frz (by kernel_rfl)) (OutL.nil _)))))
 refine srve 42 [(8, .fn 63 [pf a2 0]), (38, B (a0.fKind == 8))] [] ?_
 refine pc h (fun h => ?_) (fun h => ?_)
 refine srve 42 [(6, I 3), (7, B true)] [] ?_
 have h := si h
 subst h
 exact pwp_ret (rt (.tup [I 3, B true]) (OutP.tup (OutL.cons (OutP.frz (by kernel_rfl)) (OutL.cons (OutP.frz (by kernel_rfl)) (OutL.nil _)))))
 refine pwp_skip ?_
 refine srv 1 42 [(40, .fn 63 [pf a2 0])] [] ?_
 obtain ⟨v14, hv15, h⟩ := bindS h
 refine cF 41 (ok_impl_Part_kind_1 hv15) ?_
 refine ve 2 42 [(6, I 3), (7, B v14)] [] ?_
 have h := si h
 subst h
 exact pwp_ret (rt (.tup [I 3, B v14]) (OutP.tup (OutL.cons (OutP.frz (by kernel_rfl)) (OutL.cons (OutP.frz (by kernel_rfl)) (OutL.nil _)))))
def impl_Compare_j1 (a0 : Int) (a1 : T_impl_Value) (a2 : T_impl_Value) (x3 : Bool) : Option Int := bif x3 then some 2 else bif (!(a1.fKind == a2.fKind)) then some (-1) else (impl_Value_order a1 a2).bind fun v6 => bif (a0 == 1) then bif (v6 == 0) then (impl_truthIf true).bind fun v8 => some v8 else bif (a0 == 2) then bif (!(v6 == 0)) then (impl_truthIf true).bind fun v10 => some v10 else bif (a0 == 3) then bif (decide (v6 < 0)) then (impl_truthIf true).bind fun v12 => some v12 else bif (a0 == 4) then (impl_truthIf (decide (v6 ≤ 0))).bind fun v14 => some v14 else (impl_truthIf false).bind fun v16 => some v16 else bif (a0 == 4) then (impl_truthIf (decide (v6 ≤ 0))).bind fun v20 => some v20 else (impl_truthIf false).bind fun v22 => some v22 else bif (a0 == 3) then bif (decide (v6 < 0)) then (impl_truthIf true).bind fun v27 => some v27 else bif (a0 == 4) then (impl_truthIf (decide (v6 ≤ 0))).bind fun v29 => some v29 else (impl_truthIf false).bind fun v31 => some v31 else bif (a0 == 4) then (impl_truthIf (decide (v6 ≤ 0))).bind fun v35 => some v35 else (impl_truthIf false).bind fun v37 => some v37 else bif (a0 == 2) then bif (!(v6 == 0)) then (impl_truthIf true).bind fun v43 => some v43 else bif (a0 == 3) then bif (decide (v6 < 0)) then (impl_truthIf true).bind fun v45 => some v45 else bif (a0 == 4) then (impl_truthIf (decide (v6 ≤ 0))).bind fun v47 => some v47 else (impl_truthIf false).bind fun v49 => some v49 else bif (a0 == 4) then (impl_truthIf (decide (v6 ≤ 0))).bind fun v53 => some v53 else (impl_truthIf false).bind fun v55 => some v55 else bif (a0 == 3) then bif (decide (v6 < 0)) then (impl_truthIf true).bind fun v60 => some v60 else bif (a0 == 4) then (impl_truthIf (decide (v6 ≤ 0))).bind fun v62 => some v62 else (impl_truthIf false).bind fun v64 => some v64 else bif (a0 == 4) then (impl_truthIf (decide (v6 ≤ 0))).bind fun v68 => some v68 else (impl_truthIf false).bind fun v70 => some v70
def impl_Compare_j0 (a0 : Int) (a1 : T_impl_Value) (a2 : T_impl_Value) (x1 : Bool) : Option Int := bif x1 then some (-1) else bif (a1.fKind == 0) then impl_Compare_j1 a0 a1 a2 true else impl_Compare_j1 a0 a1 a2 (a2.fKind == 0)
def impl_Compare (a0 : Int) (a1 : T_impl_Value) (a2 : T_impl_Value) : Option Int := (impl_between a0 1 4).bind fun v77 => bif (!v77) then impl_Compare_j0 a0 a1 a2 true else (impl_Value_ok a1).bind fun v79 => bif (!v79) then impl_Compare_j0 a0 a1 a2 true else (impl_Value_ok a2).bind fun v81 => impl_Compare_j0 a0 a1 a2 (!v81)
theorem ok_impl_Compare {a0 : Int} {a1 : T_impl_Value} {a2 : T_impl_Value} {y : Int} (h : impl_Compare a0 a1 a2 = some y) : OK Try.prog 74 [I a0, E a1, E a2] (I y) := by
 refine ow Try.func74 fun Γ hX => ?_
 unfold impl_Compare at h
 refine srve 71 [(0, I a0), (4, pf a1 0), (5, pf a2 0)] [] ?_
 refine pwp_seq ?_
 refine pwp_block ?_
 refine pwp_seq ?_
 refine pwp_join (σ := Bool) (fun x1 => (⟨71, [(0, I a0), (4, pf a1 0), (5, pf a2 0), (8, B x1)], []⟩ : St)) (fun x1 => impl_Compare_j0 a0 a1 a2 x1 = some y) ?_ ?_
 refine rv 1 71 [(0, I a0), (4, pf a1 0), (5, pf a2 0), (9, I a0)] [] ?_
 obtain ⟨v77, hv78, h⟩ := bindS h
 refine cF 10 (ok_impl_between hv78) ?_
 refine v 2 71 [(0, I a0), (4, pf a1 0), (5, pf a2 0), (12, B (!v77))] [] ?_
 rcases fk (!v77) with hc84 | hc84
 replace h := bT hc84 h
 rw [hc84]
 refine ve 10 71 [(0, I a0), (4, pf a1 0), (5, pf a2 0), (8, B true)] [] ?_
 exact ⟨true, h, it [0, 4, 5, 8]⟩
 replace h := bF hc84 h
 rw [hc84]
 refine v 1 71 [(0, I a0), (4, pf a1 0), (5, pf a2 0), (12, B false), (13, E a1)] [] ?_
 obtain ⟨v79, hv80, h⟩ := bindS h
 refine cF 14 (ok_impl_Value_ok hv80) ?_
 refine v 3 71 [(0, I a0), (4, pf a1 0), (5, pf a2 0), (17, B (!v79))] [] ?_
 rcases fk (!v79) with hc83 | hc83
 replace h := bT hc83 h
 rw [hc83]
 refine ve 5 71 [(0, I a0), (4, pf a1 0), (5, pf a2 0), (8, B true)] [] ?_
 exact ⟨true, h, it [0, 4, 5, 8]⟩
 replace h := bF hc83 h
 rw [hc83]
 refine v 1 71 [(0, I a0), (4, pf a1 0), (5, pf a2 0), (17, B false), (18, E a2)] [] ?_
 obtain ⟨v81, hv82, h⟩ := bindS h
 refine cF 19 (ok_impl_Value_ok hv82) ?_
 refine ve 3 71 [(0, I a0), (4, pf a1 0), (5, pf a2 0), (8, B (!v81))] [] ?_
 exact ⟨(!v81), h, it [0, 4, 5, 8]⟩
 rintro x1 h
 unfold impl_Compare_j0 at h
 refine pc h (fun h => ?_) (fun h => ?_)
 refine srve 71 [(6, I (-1))] [] ?_
 cases h
 exact pwp_ret rz
 refine pwp_seq ?_
 refine pwp_join (σ := Bool) (fun x3 => (⟨71, [(0, I a0), (4, pf a1 0), (5, pf a2 0), (22, B x3)], []⟩ : St)) (fun x3 => impl_Compare_j1 a0 a1 a2 x3 = some y) ?_ ?_
 refine rv 4 71 [(0, I a0), (4, pf a1 0), (5, pf a2 0), (26, B (a1.fKind == 0))] [] ?_
 rcases fk (a1.fKind == 0) with hc76 | hc76
 replace h := bT hc76 h
 rw [hc76]
 refine ve 5 71 [(0, I a0), (4, pf a1 0), (5, pf a2 0), (22, B true)] [] ?_
 exact ⟨true, h, it [0, 4, 5, 22]⟩
 replace h := bF hc76 h
 rw [hc76]
 refine ve 5 71 [(0, I a0), (4, pf a1 0), (5, pf a2 0), (22, B (a2.fKind == 0))] [] ?_
 exact ⟨(a2.fKind == 0), h, it [0, 4, 5, 22]⟩
 rintro x3 h
 unfold impl_Compare_j1 at h
 refine pc h (fun h => ?_) (fun h => ?_)
 refine srve 71 [(6, I 2)] [] ?_
 cases h
 exact pwp_ret rz
 refine srve 71 [(0, I a0), (4, pf a1 0), (5, pf a2 0), (31, B (!(a1.fKind == a2.fKind)))] [] ?_
 refine pc h (fun h => ?_) (fun h => ?_)
 refine srve 71 [(6, I (-1))] [] ?_
 cases h
 exact pwp_ret rz
 refine pwp_skip ?_
 refine srv 2 71 [(0, I a0), (37, E a1), (38, E a2)] [] ?_
 obtain ⟨v6, hv7, h⟩ := bindS h
 refine cF 39 (ok_impl_Value_order hv7) ?_
 refine ve 1 71 [(0, I a0), (7, I v6)] [] ?_
 refine srv 3 71 [(0, I a0), (7, I v6), (42, B (a0 == 1))] [] ?_
 rcases fk (a0 == 1) with hc75 | hc75
 replace h := bT hc75 h
 rw [hc75]
 refine v 4 71 [(0, I a0), (7, I v6), (46, B (v6 == 0))] [] ?_
 rcases fk (v6 == 0) with hc42 | hc42
 replace h := bT hc42 h
 rw [hc42]
 refine v 23 71 [(69, B true)] [] ?_
 obtain ⟨v8, hv9, h⟩ := bindS h
 refine cF 70 (ok_impl_truthIf hv9) ?_
 refine ve 1 71 [(6, I v8)] [] ?_
 cases h
 exact pwp_ret rz
 replace h := bF hc42 h
 rw [hc42]
 refine v 3 71 [(0, I a0), (7, I v6), (46, B false), (49, B (a0 == 2))] [] ?_
 rcases fk (a0 == 2) with hc41 | hc41
 replace h := bT hc41 h
 rw [hc41]
 refine v 5 71 [(0, I a0), (7, I v6), (54, B (!(v6 == 0)))] [] ?_
 rcases fk (!(v6 == 0)) with hc26 | hc26
 replace h := bT hc26 h
 rw [hc26]
 refine v 15 71 [(69, B true)] [] ?_
 obtain ⟨v10, hv11, h⟩ := bindS h
 refine cF 70 (ok_impl_truthIf hv11) ?_
 refine ve 1 71 [(6, I v10)] [] ?_
 cases h
 exact pwp_ret rz
 replace h := bF hc26 h
 rw [hc26]
 refine v 3 71 [(0, I a0), (7, I v6), (54, B false), (57, B (a0 == 3))] [] ?_
 rcases fk (a0 == 3) with hc25 | hc25
 replace h := bT hc25 h
 rw [hc25]
 refine v 5 71 [(0, I a0), (7, I v6), (62, B (decide (v6 < 0)))] [] ?_
 rcases fk (decide (v6 < 0)) with hc19 | hc19
 replace h := bT hc19 h
 rw [hc19]
 refine v 7 71 [(69, B true)] [] ?_
 obtain ⟨v12, hv13, h⟩ := bindS h
 refine cF 70 (ok_impl_truthIf hv13) ?_
 refine ve 1 71 [(6, I v12)] [] ?_
 cases h
 exact pwp_ret rz
 replace h := bF hc19 h
 rw [hc19]
 refine v 3 71 [(7, I v6), (62, B false), (65, B (a0 == 4))] [] ?_
 rcases fk (a0 == 4) with hc18 | hc18
 replace h := bT hc18 h
 rw [hc18]
 refine v 4 71 [(69, B (decide (v6 ≤ 0)))] [] ?_
 obtain ⟨v14, hv15, h⟩ := bindS h
 refine cF 70 (ok_impl_truthIf hv15) ?_
 refine ve 1 71 [(6, I v14)] [] ?_
 cases h
 exact pwp_ret rz
 replace h := bF hc18 h
 rw [hc18]
 refine v 4 71 [(69, B false)] [] ?_
 obtain ⟨v16, hv17, h⟩ := bindS h
 refine cF 70 (ok_impl_truthIf hv17) ?_
 refine ve 1 71 [(6, I v16)] [] ?_
 cases h
 exact pwp_ret rz
 replace h := bF hc25 h
 rw [hc25]
 refine v 8 71 [(7, I v6), (62, B false), (65, B (a0 == 4))] [] ?_
 rcases fk (a0 == 4) with hc24 | hc24
 replace h := bT hc24 h
 rw [hc24]
 refine v 4 71 [(69, B (decide (v6 ≤ 0)))] [] ?_
 obtain ⟨v20, hv21, h⟩ := bindS h
 refine cF 70 (ok_impl_truthIf hv21) ?_
 refine ve 1 71 [(6, I v20)] [] ?_
 cases h
 exact pwp_ret rz
 replace h := bF hc24 h
 rw [hc24]
 refine v 4 71 [(69, B false)] [] ?_
 obtain ⟨v22, hv23, h⟩ := bindS h
 refine cF 70 (ok_impl_truthIf hv23) ?_
 refine ve 1 71 [(6, I v22)] [] ?_
 cases h
 exact pwp_ret rz
 replace h := bF hc41 h
 rw [hc41]
 refine v 8 71 [(0, I a0), (7, I v6), (54, B false), (57, B (a0 == 3))] [] ?_
 rcases fk (a0 == 3) with hc40 | hc40
 replace h := bT hc40 h
 rw [hc40]
 refine v 5 71 [(0, I a0), (7, I v6), (62, B (decide (v6 < 0)))] [] ?_
 rcases fk (decide (v6 < 0)) with hc34 | hc34
 replace h := bT hc34 h
 rw [hc34]
 refine v 7 71 [(69, B true)] [] ?_
 obtain ⟨v27, hv28, h⟩ := bindS h
 refine cF 70 (ok_impl_truthIf hv28) ?_
 refine ve 1 71 [(6, I v27)] [] ?_
 cases h
 exact pwp_ret rz
 replace h := bF hc34 h
 rw [hc34]
 refine v 3 71 [(7, I v6), (62, B false), (65, B (a0 == 4))] [] ?_
 rcases fk (a0 == 4) with hc33 | hc33
 replace h := bT hc33 h
 rw [hc33]
 refine v 4 71 [(69, B (decide (v6 ≤ 0)))] [] ?_
 obtain ⟨v29, hv30, h⟩ := bindS h
 refine cF 70 (ok_impl_truthIf hv30) ?_
 refine ve 1 71 [(6, I v29)] [] ?_
 cases h
 exact pwp_ret rz
 replace h := bF hc33 h
 rw [hc33]
 refine v 4 71 [(69, B false)] [] ?_
 obtain ⟨v31, hv32, h⟩ := bindS h
 refine cF 70 (ok_impl_truthIf hv32) ?_
 refine ve 1 71 [(6, I v31)] [] ?_
 cases h
 exact pwp_ret rz
 replace h := bF hc40 h
 rw [hc40]
 refine v 8 71 [(7, I v6), (62, B false), (65, B (a0 == 4))] [] ?_
 rcases fk (a0 == 4) with hc39 | hc39
 replace h := bT hc39 h
 rw [hc39]
 refine v 4 71 [(69, B (decide (v6 ≤ 0)))] [] ?_
 obtain ⟨v35, hv36, h⟩ := bindS h
 refine cF 70 (ok_impl_truthIf hv36) ?_
 refine ve 1 71 [(6, I v35)] [] ?_
 cases h
 exact pwp_ret rz
 replace h := bF hc39 h
 rw [hc39]
 refine v 4 71 [(69, B false)] [] ?_
 obtain ⟨v37, hv38, h⟩ := bindS h
 refine cF 70 (ok_impl_truthIf hv38) ?_
 refine ve 1 71 [(6, I v37)] [] ?_
 cases h
 exact pwp_ret rz
 replace h := bF hc75 h
 rw [hc75]
 refine v 7 71 [(0, I a0), (7, I v6), (46, B false), (49, B (a0 == 2))] [] ?_
 rcases fk (a0 == 2) with hc74 | hc74
 replace h := bT hc74 h
 rw [hc74]
 refine v 5 71 [(0, I a0), (7, I v6), (54, B (!(v6 == 0)))] [] ?_
 rcases fk (!(v6 == 0)) with hc59 | hc59
 replace h := bT hc59 h
 rw [hc59]
 refine v 15 71 [(69, B true)] [] ?_
 obtain ⟨v43, hv44, h⟩ := bindS h
 refine cF 70 (ok_impl_truthIf hv44) ?_
 refine ve 1 71 [(6, I v43)] [] ?_
 cases h
 exact pwp_ret rz
 replace h := bF hc59 h
 rw [hc59]
 refine v 3 71 [(0, I a0), (7, I v6), (54, B false), (57, B (a0 == 3))] [] ?_
 rcases fk (a0 == 3) with hc58 | hc58
 replace h := bT hc58 h
 rw [hc58]
 refine v 5 71 [(0, I a0), (7, I v6), (62, B (decide (v6 < 0)))] [] ?_
 rcases fk (decide (v6 < 0)) with hc52 | hc52
 replace h := bT hc52 h
 rw [hc52]
 refine v 7 71 [(69, B true)] [] ?_
 obtain ⟨v45, hv46, h⟩ := bindS h
 refine cF 70 (ok_impl_truthIf hv46) ?_
 refine ve 1 71 [(6, I v45)] [] ?_
 cases h
 exact pwp_ret rz
 replace h := bF hc52 h
 rw [hc52]
 refine v 3 71 [(7, I v6), (62, B false), (65, B (a0 == 4))] [] ?_
 rcases fk (a0 == 4) with hc51 | hc51
 replace h := bT hc51 h
 rw [hc51]
 refine v 4 71 [(69, B (decide (v6 ≤ 0)))] [] ?_
 obtain ⟨v47, hv48, h⟩ := bindS h
 refine cF 70 (ok_impl_truthIf hv48) ?_
 refine ve 1 71 [(6, I v47)] [] ?_
 cases h
 exact pwp_ret rz
 replace h := bF hc51 h
 rw [hc51]
 refine v 4 71 [(69, B false)] [] ?_
 obtain ⟨v49, hv50, h⟩ := bindS h
 refine cF 70 (ok_impl_truthIf hv50) ?_
 refine ve 1 71 [(6, I v49)] [] ?_
 cases h
 exact pwp_ret rz
 replace h := bF hc58 h
 rw [hc58]
 refine v 8 71 [(7, I v6), (62, B false), (65, B (a0 == 4))] [] ?_
 rcases fk (a0 == 4) with hc57 | hc57
 replace h := bT hc57 h
 rw [hc57]
 refine v 4 71 [(69, B (decide (v6 ≤ 0)))] [] ?_
 obtain ⟨v53, hv54, h⟩ := bindS h
 refine cF 70 (ok_impl_truthIf hv54) ?_
 refine ve 1 71 [(6, I v53)] [] ?_
 cases h
 exact pwp_ret rz
 replace h := bF hc57 h
 rw [hc57]
 refine v 4 71 [(69, B false)] [] ?_
 obtain ⟨v55, hv56, h⟩ := bindS h
 refine cF 70 (ok_impl_truthIf hv56) ?_
 refine ve 1 71 [(6, I v55)] [] ?_
 cases h
 exact pwp_ret rz
 replace h := bF hc74 h
 rw [hc74]
 refine v 8 71 [(0, I a0), (7, I v6), (54, B false), (57, B (a0 == 3))] [] ?_
 rcases fk (a0 == 3) with hc73 | hc73
 replace h := bT hc73 h
 rw [hc73]
 refine v 5 71 [(0, I a0), (7, I v6), (62, B (decide (v6 < 0)))] [] ?_
 rcases fk (decide (v6 < 0)) with hc67 | hc67
 replace h := bT hc67 h
 rw [hc67]
 refine v 7 71 [(69, B true)] [] ?_
 obtain ⟨v60, hv61, h⟩ := bindS h
 refine cF 70 (ok_impl_truthIf hv61) ?_
 refine ve 1 71 [(6, I v60)] [] ?_
 cases h
 exact pwp_ret rz
 replace h := bF hc67 h
 rw [hc67]
 refine v 3 71 [(7, I v6), (62, B false), (65, B (a0 == 4))] [] ?_
 rcases fk (a0 == 4) with hc66 | hc66
 replace h := bT hc66 h
 rw [hc66]
 refine v 4 71 [(69, B (decide (v6 ≤ 0)))] [] ?_
 obtain ⟨v62, hv63, h⟩ := bindS h
 refine cF 70 (ok_impl_truthIf hv63) ?_
 refine ve 1 71 [(6, I v62)] [] ?_
 cases h
 exact pwp_ret rz
 replace h := bF hc66 h
 rw [hc66]
 refine v 4 71 [(69, B false)] [] ?_
 obtain ⟨v64, hv65, h⟩ := bindS h
 refine cF 70 (ok_impl_truthIf hv65) ?_
 refine ve 1 71 [(6, I v64)] [] ?_
 cases h
 exact pwp_ret rz
 replace h := bF hc73 h
 rw [hc73]
 refine v 8 71 [(7, I v6), (62, B false), (65, B (a0 == 4))] [] ?_
 rcases fk (a0 == 4) with hc72 | hc72
 replace h := bT hc72 h
 rw [hc72]
 refine v 4 71 [(69, B (decide (v6 ≤ 0)))] [] ?_
 obtain ⟨v68, hv69, h⟩ := bindS h
 refine cF 70 (ok_impl_truthIf hv69) ?_
 refine ve 1 71 [(6, I v68)] [] ?_
 cases h
 exact pwp_ret rz
 replace h := bF hc72 h
 rw [hc72]
 refine v 4 71 [(69, B false)] [] ?_
 obtain ⟨v70, hv71, h⟩ := bindS h
 refine cF 70 (ok_impl_truthIf hv71) ?_
 refine ve 1 71 [(6, I v70)] [] ?_
 cases h
 exact pwp_ret rz
def spec_DrawExprColumns (a0 : List UInt8) : Option ((List T_impl_Column) × (List T_impl_Part)) := (spec_l20Open a0).bind fun v1 => (spec_l20Asked v1 9).bind fun v3 => some (v3.1.1, v3.1.2.2)
theorem ok_spec_DrawExprColumns {a0 : List UInt8} {y : (List T_impl_Column) × (List T_impl_Part)} (h : spec_DrawExprColumns a0 = some y) : OK Try.prog 5 [A a0] (.tup [A y.1, A y.2]) := by
 refine ow Try.func5 fun Γ hX => ?_
 unfold spec_DrawExprColumns at h
 refine srve 16 [(0, A a0)] [] ?_
 refine srv 1 16 [(8, A a0)] [] ?_
 obtain ⟨v1, hv2, h⟩ := bindS h
 refine opsP_callO τ 9 (ok_spec_l20Open hv2) rfl (by kernel_rfl) ?_
 obtain ⟨v3, hv4, h⟩ := bindS h
 refine opsP_callB τ 10 0 0 (ok_spec_l20Asked hv4) (FzTo.tup (FzToL.cons (FzTo.frz rfl) (FzToL.cons (FzTo.frz rfl) (FzToL.cons (FzTo.frz rfl) FzToL.nil)))) rfl (by kernel_rfl) ?_
 refine ve 7 16 [(4, A v3.1.1), (6, A v3.1.2.2)] [sc 0 v3.2] ?_
 refine srve 16 [(2, A v3.1.1), (3, A v3.1.2.2)] [sc 0 v3.2] ?_
 have h := si h
 subst h
 exact pwp_ret (rt (.tup [A v3.1.1, A v3.1.2.2]) (OutP.tup (OutL.cons (OutP.frz (by kernel_rfl)) (OutL.cons (OutP.frz (by kernel_rfl)) (OutL.nil _)))))
def spec_ExprColumns_j2 (x2 : Int) (K5 : Int → (List Int) → Option (List Int)) (x8 : List Int) : Option (List Int) := K5 (w64 (x2 + 1)) x8
def spec_ExprColumns_j4 (x11 : Int) (K13 : Bool → Int → Option (List Int)) (x15 : Bool) : Option (List Int) := K13 x15 (w64 (x11 + 1))
def spec_ExprColumns_l3 (a1 : List T_impl_Part) (x2 : Int) (x3 : List Int) (K5 : Int → (List Int) → Option (List Int)) : Nat → Bool → Int → Option (List Int)
 | 0, _, _ => none
 | f12 + 1, x10, x11 => bif (decide (x11 < (a1.length : Int))) then bif x10 then spec_ExprColumns_j4 x11 (spec_ExprColumns_l3 a1 x2 x3 K5 f12) true else (getI a1 x11).bind fun v16 => bif (v16.fKind == 2) then (getI a1 x11).bind fun v18 => spec_ExprColumns_j4 x11 (spec_ExprColumns_l3 a1 x2 x3 K5 f12) (v18.fN == x2) else spec_ExprColumns_j4 x11 (spec_ExprColumns_l3 a1 x2 x3 K5 f12) false else bif x10 then (app x3 ([x2] : List Int)).bind fun v23 => spec_ExprColumns_j2 x2 K5 v23 else spec_ExprColumns_j2 x2 K5 x3
def spec_ExprColumns_j1 (a1 : List T_impl_Part) (x2 : Int) (x3 : List Int) (K5 : Int → (List Int) → Option (List Int)) (x6 : Bool) : Option (List Int) := bif x6 then spec_ExprColumns_l3 a1 x2 x3 K5 FUEL false 0 else some x3
def spec_ExprColumns_l0 (a0 : List T_impl_Column) (a1 : List T_impl_Part) : Nat → Int → (List Int) → Option (List Int)
 | 0, _, _ => none
 | f4 + 1, x2, x3 => bif (decide (x2 < (a0.length : Int))) then (spec_ExprKind a0 a1).bind fun v25 => spec_ExprColumns_j1 a1 x2 x3 (spec_ExprColumns_l0 a0 a1 f4) (decide (v25 ≥ 0)) else spec_ExprColumns_j1 a1 x2 x3 (spec_ExprColumns_l0 a0 a1 f4) false
def spec_ExprColumns (a0 : List T_impl_Column) (a1 : List T_impl_Part) : Option (List Int) := spec_ExprColumns_l0 a0 a1 FUEL 0 ([] : List Int)
theorem ok_spec_ExprColumns {a0 : List T_impl_Column} {a1 : List T_impl_Part} {y : List Int} (h : spec_ExprColumns a0 a1 = some y) : OK Try.prog 8 [A a0, A a1] (O y) := by
 refine ow Try.func8 fun Γ hX => ?_
 unfold spec_ExprColumns at h
 refine srve 52 [(0, A a0), (1, A a1)] [] ?_
 refine srve 52 [(0, A a0), (1, A a1), (5, .arr 1 0 (eL ([] : List Int)) true)] [] ?_
 refine pwp_seq ?_
 refine srve 52 [(0, A a0), (1, A a1), (5, .arr 1 0 (eL ([] : List Int)) true), (6, I 0)] [] ?_
 refine pwp_block ?_
 refine pwp_loop (ι := Nat × Int × (List Int)) (fun (f4, x2, x3) => (⟨52, [(0, A a0), (1, A a1), (5, rf 0 0 1 x3), (6, I x2)], [sl 0 x3]⟩ : St)) (fun (f4, x2, x3) => spec_ExprColumns_l0 a0 a1 f4 x2 x3 = some y) Prod.fst (FUEL, 0, ([] : List Int)) h (Imp.thawS 5 [0, 1, 5, 6] (by kernel_rfl)) ?_
 rintro ⟨f4, x2, x3⟩ h
 dsimp only at h ⊢
 rcases f4 with _ | f4
 cases h
 rw [spec_ExprColumns_l0] at h
 refine pwp_seq ?_
 refine pwp_seq ?_
 refine pwp_join (σ := Bool) (fun x6 => (⟨52, [(0, A a0), (1, A a1), (5, rf 0 0 1 x3), (6, I x2), (19, B x6)], [sl 0 x3]⟩ : St)) (fun x6 => spec_ExprColumns_j1 a1 x2 x3 (spec_ExprColumns_l0 a0 a1 f4) x6 = some y) ?_ ?_
 refine rv 5 52 [(0, A a0), (1, A a1), (5, rf 0 0 1 x3), (6, I x2), (14, B (decide (x2 < (a0.length : Int))))] [sl 0 x3] ?_
 rcases fk (decide (x2 < (a0.length : Int))) with hc27 | hc27
 replace h := bT hc27 h
 rw [hc27]
 refine v 2 52 [(0, A a0), (1, A a1), (5, rf 0 0 1 x3), (6, I x2), (14, B true), (15, A a0), (16, A a1)] [sl 0 x3] ?_
 obtain ⟨v25, hv26, h⟩ := bindS h
 refine cF 17 (ok_spec_ExprKind hv26) ?_
 refine ve 2 52 [(0, A a0), (1, A a1), (5, rf 0 0 1 x3), (6, I x2), (15, A a0), (16, A a1), (17, I v25), (18, B (decide (v25 ≥ 0))), (19, B (decide (v25 ≥ 0)))] [sl 0 x3] ?_
 exact ⟨(decide (v25 ≥ 0)), h, it [0, 1, 5, 6, 19]⟩
 replace h := bF hc27 h
 rw [hc27]
 refine ve 5 52 [(0, A a0), (1, A a1), (5, rf 0 0 1 x3), (6, I x2), (15, .lit undef), (16, .lit undef), (17, .lit undef), (18, .lit undef), (19, B false)] [sl 0 x3] ?_
 exact ⟨false, h, it [0, 1, 5, 6, 19]⟩
 rintro x6 h
 unfold spec_ExprColumns_j1 at h
 refine pc h (fun h => ?_) (fun h => ?_)
 refine pwp_skip ?_
 refine pwp_seq ?_
 refine pwp_join (σ := (List Int)) (fun x8 => (⟨52, [(0, A a0), (1, A a1), (5, rf 0 0 1 x8), (6, I x2)], [sl 0 x8]⟩ : St)) (fun x8 => spec_ExprColumns_j2 x2 (spec_ExprColumns_l0 a0 a1 f4) x8 = some y) ?_ ?_
 refine pwp_block ?_
 refine srve 52 [(0, A a0), (1, A a1), (5, rf 0 0 1 x3), (6, I x2), (7, B false)] [sl 0 x3] ?_
 refine pwp_seq ?_
 refine srve 52 [(0, A a0), (1, A a1), (5, rf 0 0 1 x3), (6, I x2), (7, B false), (8, I 0)] [sl 0 x3] ?_
 refine pwp_block ?_
 refine pwp_loop (ι := Nat × Bool × Int) (fun (f12, x10, x11) => (⟨52, [(0, A a0), (1, A a1), (5, rf 0 0 1 x3), (6, I x2), (7, B x10), (8, I x11)], [sl 0 x3]⟩ : St)) (fun (f12, x10, x11) => spec_ExprColumns_l3 a1 x2 x3 (spec_ExprColumns_l0 a0 a1 f4) f12 x10 x11 = some y) Prod.fst (FUEL, false, 0) h (it [0, 1, 5, 6, 7, 8]) ?_
 rintro ⟨f12, x10, x11⟩ h
 dsimp only at h ⊢
 rcases f12 with _ | f12
 cases h
 rw [spec_ExprColumns_l3] at h
 refine pwp_seq ?_
 refine srve 52 [(0, A a0), (1, A a1), (5, rf 0 0 1 x3), (6, I x2), (7, B x10), (8, I x11), (25, B (decide (x11 < (a1.length : Int))))] [sl 0 x3] ?_
 refine pc h (fun h => ?_) (fun h => ?_)
 refine pwp_skip ?_
 refine pwp_seq ?_
 refine pwp_join (σ := Bool) (fun x15 => (⟨52, [(0, A a0), (1, A a1), (5, rf 0 0 1 x3), (6, I x2), (7, B x15), (8, I x11)], [sl 0 x3]⟩ : St)) (fun x15 => spec_ExprColumns_j4 x11 (spec_ExprColumns_l3 a1 x2 x3 (spec_ExprColumns_l0 a0 a1 f4) f12) x15 = some y) ?_ ?_
 refine pwp_block ?_
 refine rv 2 52 [(0, A a0), (1, A a1), (5, rf 0 0 1 x3), (6, I x2), (8, I x11), (29, B x10)] [sl 0 x3] ?_
 rcases Bool.eq_false_or_eq_true x10 with hc21 | hc21
 replace h := bT hc21 h
 rw [hc21]
 refine ve 17 52 [(0, A a0), (1, A a1), (5, rf 0 0 1 x3), (6, I x2), (7, B true), (8, I x11), (30, .lit undef), (31, .lit undef), (32, .lit undef), (33, .lit undef), (34, .lit undef), (35, .lit undef), (36, .lit undef), (37, .lit undef), (38, .lit undef), (39, .lit undef), (40, .lit undef), (41, .lit undef), (42, .lit undef), (43, .lit undef), (44, .lit undef)] [sl 0 x3] ?_
 exact ⟨true, h, it [0, 1, 5, 6, 7, 8]⟩
 replace h := bF hc21 h
 rw [hc21]
 refine v 2 52 [(0, A a0), (1, A a1), (5, rf 0 0 1 x3), (6, I x2), (8, I x11), (29, B false), (30, A a1), (31, I x11)] [sl 0 x3] ?_
 obtain ⟨v16, hv17, h⟩ := bindS h
 refine opsP_idx τ_ok 32 hv17 (by kernel_rfl) ?_
 refine v 4 52 [(0, A a0), (1, A a1), (5, rf 0 0 1 x3), (6, I x2), (8, I x11), (29, B false), (30, A a1), (31, I x11), (32, pf v16 0), (33, pf v16 0), (34, I v16.fKind), (35, B (v16.fKind == 2)), (36, B (v16.fKind == 2))] [sl 0 x3] ?_
 rcases fk (v16.fKind == 2) with hc20 | hc20
 replace h := bT hc20 h
 rw [hc20]
 refine v 2 52 [(0, A a0), (1, A a1), (5, rf 0 0 1 x3), (6, I x2), (8, I x11), (29, B false), (30, A a1), (31, I x11), (32, pf v16 0), (33, pf v16 0), (34, I v16.fKind), (35, B true), (36, B true), (37, A a1), (38, I x11)] [sl 0 x3] ?_
 obtain ⟨v18, hv19, h⟩ := bindS h
 refine opsP_idx τ_ok 39 hv19 (by kernel_rfl) ?_
 refine ve 7 52 [(0, A a0), (1, A a1), (5, rf 0 0 1 x3), (6, I x2), (7, B (v18.fN == x2)), (8, I x11), (30, A a1), (31, I x11), (32, pf v16 0), (33, pf v16 0), (34, I v16.fKind), (35, B true), (36, B true), (37, A a1), (38, I x11), (39, pf v18 0), (40, pf v18 1), (41, I v18.fN), (42, I x2), (43, B (v18.fN == x2)), (44, B (v18.fN == x2))] [sl 0 x3] ?_
 exact ⟨(v18.fN == x2), h, it [0, 1, 5, 6, 7, 8]⟩
 replace h := bF hc20 h
 rw [hc20]
 refine ve 10 52 [(0, A a0), (1, A a1), (5, rf 0 0 1 x3), (6, I x2), (7, B false), (8, I x11), (30, A a1), (31, I x11), (32, pf v16 0), (33, pf v16 0), (34, I v16.fKind), (35, B false), (36, B false), (37, .lit undef), (38, .lit undef), (39, .lit undef), (40, .lit undef), (41, .lit undef), (42, .lit undef), (43, .lit undef), (44, B false)] [sl 0 x3] ?_
 exact ⟨false, h, it [0, 1, 5, 6, 7, 8]⟩
 rintro x15 h
 unfold spec_ExprColumns_j4 at h
 refine rve 52 [(0, A a0), (1, A a1), (5, rf 0 0 1 x3), (6, I x2), (7, B x15), (8, I (w64 (x11 + 1)))] [sl 0 x3] ?_
 exact ⟨(f12, x15, (w64 (x11 + 1))), h, Nat.lt_succ_self _, it [0, 1, 5, 6, 7, 8]⟩
 refine pwp_exit ?_
 refine srve 52 [(0, A a0), (1, A a1), (5, rf 0 0 1 x3), (6, I x2), (46, B x10)] [sl 0 x3] ?_
 refine pc h (fun h => ?_) (fun h => ?_)
 refine rv 3 52 [(0, A a0), (1, A a1), (6, I x2), (47, rf 0 0 1 x3), (49, .arr 1 ([x2] : List Int).length (eL ([x2] : List Int)) true)] [sl 0 x3] ?_
 obtain ⟨v23, hv24, h⟩ := bindS h
 refine opsP_app τ_ok 50 0 0 (nx hX) hv24 (by kernel_rfl) ?_
 refine ve 1 52 [(0, A a0), (1, A a1), (5, rf 0 1 1 v23), (6, I x2)] [sl 1 v23] ?_
 exact ⟨v23, h, (it (st' := ⟨52, [(0, A a0), (1, A a1), (5, rf 0 1 1 v23), (6, I x2)], [sl 1 v23]⟩) [0, 1, 5, 6]).trans (Imp.reverS 0 1 (eL v23) [0, 1, 5, 6] (by kernel_rfl) (by exact (And.intro (eL_frz _) trivial)) (by kernel_rfl))⟩
 refine pwp_skip ?_
 exact ⟨x3, h, it [0, 1, 5, 6]⟩
 rintro x8 h
 unfold spec_ExprColumns_j2 at h
 refine rve 52 [(0, A a0), (1, A a1), (5, rf 0 0 1 x8), (6, I (w64 (x2 + 1)))] [sl 0 x8] ?_
 exact ⟨(f4, (w64 (x2 + 1)), x8), h, Nat.lt_succ_self _, it [0, 1, 5, 6]⟩
 refine pwp_exit ?_
 refine srve 52 [(4, rf 0 0 1 x3)] [sl 0 x3] ?_
 have h := si h
 subst h
 exact pwp_ret (rt (rf 0 0 1 x3) (OutP.list (v := 0) (by kernel_rfl)))
def impl_ExprKind_j2 (a0 : List T_impl_Column) (x4 : Int) (x5 : List Int) (K7 : Int → (List Int) → Option Int) (v9 : T_impl_Part) (v11 : Int) (x13 : Bool) : Option Int := bif x13 then some (-1) else (slI x5 (some (w64 ((x5.length : Int) - v11))) none none).bind fun v15 => (impl_Part_kind v9 a0 v15).bind fun v17 => bif (!v17.2) then some (-1) else (slI x5 none (some (w64 ((x5.length : Int) - v11))) none).bind fun v20 => (appT x5 ([v17.1] : List Int) v20.length).bind fun v22 => K7 (w64 (x4 + 1)) v22
def impl_ExprKind_l1 (a0 : List T_impl_Column) (a1 : List T_impl_Part) : Nat → Int → (List Int) → Option Int
 | 0, _, _ => none
 | f6 + 1, x4, x5 => bif (decide (x4 < (a1.length : Int))) then (getI a1 x4).bind fun v9 => (impl_Part_takes v9).bind fun v11 => (impl_Part_tells v9 a0).bind fun v24 => bif (!v24) then impl_ExprKind_j2 a0 x4 x5 (impl_ExprKind_l1 a0 a1 f6) v9 v11 true else impl_ExprKind_j2 a0 x4 x5 (impl_ExprKind_l1 a0 a1 f6) v9 v11 (decide ((x5.length : Int) < v11)) else bif (!((x5.length : Int) == 1)) then some (-1) else (getI x5 (0 : Int)).bind fun v28 => some v28
def impl_ExprKind_j0 (a0 : List T_impl_Column) (a1 : List T_impl_Part) (x1 : Bool) : Option Int := bif x1 then some (-1) else impl_ExprKind_l1 a0 a1 FUEL 0 ([] : List Int)
def impl_ExprKind (a0 : List T_impl_Column) (a1 : List T_impl_Part) : Option Int := (impl_ColumnsOk a0).bind fun v30 => bif (!v30) then impl_ExprKind_j0 a0 a1 true else impl_ExprKind_j0 a0 a1 (decide ((a1.length : Int) > 12))
theorem ok_impl_ExprKind {a0 : List T_impl_Column} {a1 : List T_impl_Part} {y : Int} (h : impl_ExprKind a0 a1 = some y) : OK Try.prog 25 [A a0, A a1] (I y) := by
 refine ow Try.func25 fun Γ hX => ?_
 unfold impl_ExprKind at h
 refine srveM [7] 67 [(0, A a0), (1, A a1)] [] ?_
 refine pwp_seq ?_
 refine pwp_seq ?_
 refine pwp_join (σ := Bool) (fun x1 => (⟨67, [(0, A a0), (1, A a1), (18, B x1)], []⟩ : St)) (fun x1 => impl_ExprKind_j0 a0 a1 x1 = some y) ?_ ?_
 refine rvM [7] 1 67 [(0, A a0), (1, A a1), (11, A a0)] [] ?_
 obtain ⟨v30, hv31, h⟩ := bindS h
 refine cF 12 (ok_impl_ColumnsOk hv31) ?_
 refine vM [7] 2 67 [(0, A a0), (1, A a1), (14, B (!v30))] [] ?_
 rcases fk (!v30) with hc32 | hc32
 replace h := bT hc32 h
 rw [hc32]
 refine veM [7] 4 67 [(0, A a0), (1, A a1), (18, B true)] [] ?_
 exact ⟨true, h, it [0, 1, 18]⟩
 replace h := bF hc32 h
 rw [hc32]
 refine veM [7] 4 67 [(0, A a0), (1, A a1), (18, B (decide ((a1.length : Int) > 12)))] [] ?_
 exact ⟨(decide ((a1.length : Int) > 12)), h, it [0, 1, 18]⟩
 rintro x1 h
 unfold impl_ExprKind_j0 at h
 refine pc h (fun h => ?_) (fun h => ?_)
 refine srveM [7] 67 [(4, I (-1))] [] ?_
 cases h
 exact pwp_ret rz
 refine pwp_skip ?_
 refine srveM [7] 67 [(0, A a0), (1, A a1), (5, .arr 1 0 (eL ([] : List Int)) true)] [] ?_
 refine pwp_seq ?_
 refine srveM [7] 67 [(0, A a0), (5, .arr 1 0 (eL ([] : List Int)) true), (19, A a1), (20, I (a1.length : Int)), (21, I 0)] [] ?_
 refine pwp_block ?_
 refine pwp_loop (ι := Nat × Int × (List Int)) (fun (f6, x4, x5) => (⟨67, [(0, A a0), (5, rf 0 0 1 x5), (19, A a1), (20, I (a1.length : Int)), (21, I x4)], [sl 0 x5]⟩ : St)) (fun (f6, x4, x5) => impl_ExprKind_l1 a0 a1 f6 x4 x5 = some y) Prod.fst (FUEL, 0, ([] : List Int)) h (Imp.thawS 5 [0, 5, 19, 20, 21] (by kernel_rfl)) ?_
 rintro ⟨f6, x4, x5⟩ h
 dsimp only at h ⊢
 rcases f6 with _ | f6
 cases h
 rw [impl_ExprKind_l1] at h
 refine srveM [7] 67 [(0, A a0), (5, rf 0 0 1 x5), (19, A a1), (20, I (a1.length : Int)), (21, I x4), (22, B (decide (x4 < (a1.length : Int))))] [sl 0 x5] ?_
 refine pwp_seq ?_
 refine pc h (fun h => ?_) (fun h => ?_)
 refine pwp_skip ?_
 refine pwp_seq ?_
 refine pwp_block ?_
 refine pwp_seq ?_
 refine pwp_region ?_
 obtain ⟨v9, hv10, h⟩ := bindS h
 refine opsP_idx τ_ok 23 hv10 (by kernel_rfl) ?_
 refine veM [7] 3 67 [(0, A a0), (5, rf 0 0 1 x5), (7, .ptr 1 0 0), (19, A a1), (20, I (a1.length : Int)), (21, I x4)] [sl 0 x5, sc 0 v9] ?_
 refine srvM [7] 1 67 [(0, A a0), (5, rf 0 0 1 x5), (7, .ptr 1 0 0), (19, A a1), (20, I (a1.length : Int)), (21, I x4), (25, E v9)] [sl 0 x5, sc 0 v9] ?_
 obtain ⟨v11, hv12, h⟩ := bindS h
 refine cF 26 (ok_impl_Part_takes hv12) ?_
 refine veM [7] 1 67 [(0, A a0), (5, rf 0 0 1 x5), (7, .ptr 1 0 0), (8, I v11), (19, A a1), (20, I (a1.length : Int)), (21, I x4)] [sl 0 x5, sc 0 v9] ?_
 refine pwp_seq ?_
 refine pwp_seq ?_
 refine pwp_join (σ := Bool) (fun x13 => (⟨67, [(0, A a0), (5, rf 0 0 1 x5), (7, .ptr 1 0 0), (8, I v11), (19, A a1), (20, I (a1.length : Int)), (21, I x4), (36, B x13)], [sl 0 x5, sc 0 v9]⟩ : St)) (fun x13 => impl_ExprKind_j2 a0 x4 x5 (impl_ExprKind_l1 a0 a1 f6) v9 v11 x13 = some y) ?_ ?_
 refine rvM [7] 2 67 [(0, A a0), (5, rf 0 0 1 x5), (7, .ptr 1 0 0), (8, I v11), (19, A a1), (20, I (a1.length : Int)), (21, I x4), (27, E v9), (28, A a0)] [sl 0 x5, sc 0 v9] ?_
 obtain ⟨v24, hv25, h⟩ := bindS h
 refine cF 29 (ok_impl_Part_tells hv25) ?_
 refine vM [7] 2 67 [(0, A a0), (5, rf 0 0 1 x5), (7, .ptr 1 0 0), (8, I v11), (19, A a1), (20, I (a1.length : Int)), (21, I x4), (31, B (!v24))] [sl 0 x5, sc 0 v9] ?_
 rcases fk (!v24) with hc26 | hc26
 replace h := bT hc26 h
 rw [hc26]
 refine veM [7] 5 67 [(0, A a0), (5, rf 0 0 1 x5), (7, .ptr 1 0 0), (8, I v11), (19, A a1), (20, I (a1.length : Int)), (21, I x4), (32, .lit undef), (33, .lit undef), (34, .lit undef), (35, .lit undef), (36, B true)] [sl 0 x5, sc 0 v9] ?_
 exact ⟨true, h, it [0, 5, 7, 8, 19, 20, 21, 36]⟩
 replace h := bF hc26 h
 rw [hc26]
 refine veM [7] 5 67 [(0, A a0), (5, rf 0 0 1 x5), (7, .ptr 1 0 0), (8, I v11), (19, A a1), (20, I (a1.length : Int)), (21, I x4), (32, rf 0 0 1 x5), (33, I (x5.length : Int)), (34, I v11), (35, B (decide ((x5.length : Int) < v11))), (36, B (decide ((x5.length : Int) < v11)))] [sl 0 x5, sc 0 v9] ?_
 exact ⟨(decide ((x5.length : Int) < v11)), h, it [0, 5, 7, 8, 19, 20, 21, 36]⟩
 rintro x13 h
 unfold impl_ExprKind_j2 at h
 refine pc h (fun h => ?_) (fun h => ?_)
 refine srveM [7] 67 [(4, I (-1))] [sl 0 x5, sc 0 v9] ?_
 cases h
 exact pwp_ret rz
 refine pwp_skip ?_
 refine pwp_seq ?_
 refine ip 67 [(0, A a0), (5, rf 0 0 1 x5), (7, .ptr 1 0 0), (8, I v11), (19, A a1), (20, I (a1.length : Int)), (21, I x4)] [sl 0 x5, sc 0 v9] ?_
 refine pwp_any ([[1], [], [0], [0], [0], [], [], [0], [0], [], [], [], [], []]) ([[], [], [], [], [], [], [], [], [], [], [], [], [], []]) rfl (by kernel_rfl) ?_
 refine qvM [7] [1] (hB trivial) 1 67 [(38, E v9), (0, A a0), (5, rf 0 0 1 x5), (8, I v11), (19, A a1), (20, I (a1.length : Int)), (21, I x4)] [sl 0 x5, sc 0 v9] ?_
 refine qvM [7] [] trivial 1 67 [(39, A a0), (38, E v9), (0, A a0), (5, rf 0 0 1 x5), (8, I v11), (19, A a1), (20, I (a1.length : Int)), (21, I x4)] [sl 0 x5, sc 0 v9] ?_
 refine qvM [7] [0] (hL trivial) 3 67 [(42, I (x5.length : Int)), (40, rf 0 0 1 x5), (39, A a0), (38, E v9), (0, A a0), (5, rf 0 0 1 x5), (8, I v11), (19, A a1), (20, I (a1.length : Int)), (21, I x4)] [sl 0 x5, sc 0 v9] ?_
 refine qvM [7] [] trivial 2 67 [(44, I (w64 ((x5.length : Int) - v11))), (40, rf 0 0 1 x5), (39, A a0), (38, E v9), (0, A a0), (5, rf 0 0 1 x5), (8, I v11), (19, A a1), (20, I (a1.length : Int)), (21, I x4)] [sl 0 x5, sc 0 v9] ?_
 obtain ⟨v15, hv16, h⟩ := bindS h
 refine qX (some 45) (.ref 0 0 ((w64 ((x5.length : Int) - v11)).toNat * 1) 1 v15.length false) 67 [(45, .ref 0 0 ((w64 ((x5.length : Int) - v11)).toNat * 1) 1 v15.length false), (39, A a0), (38, E v9), (0, A a0), (5, rf 0 0 1 x5), (8, I v11), (19, A a1), (20, I (a1.length : Int)), (21, I x4)] [sl 0 x5, sc 0 v9] (fun Γ' hΓ => CoreE.of_y (slrV_sound (n := x5.length) τ_ok (by kernel_rfl) rfl hv16)) (hL trivial) ?_
 obtain ⟨v17, hv18, h⟩ := bindS h
 refine qX (some 46) (.tup [I v17.1, B v17.2]) 67 [(46, .tup [I v17.1, B v17.2]), (0, A a0), (5, rf 0 0 1 x5), (8, I v11), (19, A a1), (20, I (a1.length : Int)), (21, I x4)] [sl 0 x5, sc 0 v9] (fun Γ' hΓ => CoreE.of_g (callVV_sound (xs := [E v9, A a0, .ref 0 0 ((w64 ((x5.length : Int) - v11)).toNat * 1) 1 v15.length false]) (τ := τ) (by kernel_rfl) (ViewL.cons (View.frz rfl) (ViewL.cons (View.frz rfl) (ViewL.cons (View.ref (v := 0) (lo := (w64 ((x5.length : Int) - v11)).toNat) x5 v15 (by kernel_rfl) (slI_view hv16) rfl) (ViewL.nil _)))) (ok_impl_Part_kind hv18) (Blind.tup (BlindL.cons (Blind.lit _) (BlindL.cons (Blind.lit _) BlindL.nil))) (FzTo.tup (FzToL.cons (FzTo.frz rfl) (FzToL.cons (FzTo.frz rfl) FzToL.nil))))) (hL trivial) ?_
 refine qvnM [7] [] trivial 5 67 [(0, A a0), (5, rf 0 0 1 x5), (8, I v11), (9, I v17.1), (10, B v17.2), (19, A a1), (20, I (a1.length : Int)), (21, I x4)] [sl 0 x5, sc 0 v9] ?_
 refine pwp_seq ?_
 refine srveM [7] 67 [(0, A a0), (5, rf 0 0 1 x5), (8, I v11), (9, I v17.1), (19, A a1), (20, I (a1.length : Int)), (21, I x4), (50, B (!v17.2))] [sl 0 x5, sc 0 v9] ?_
 refine pc h (fun h => ?_) (fun h => ?_)
 refine srveM [7] 67 [(4, I (-1))] [sl 0 x5, sc 0 v9] ?_
 cases h
 exact pwp_ret rz
 refine pwp_skip ?_
 refine rvM [7] 5 67 [(0, A a0), (9, I v17.1), (19, A a1), (20, I (a1.length : Int)), (21, I x4), (51, rf 0 0 1 x5), (55, I (w64 ((x5.length : Int) - v11)))] [sl 0 x5, sc 0 v9] ?_
 obtain ⟨v20, hv21, h⟩ := bindS h
 refine opsP_slr τ_ok 56 0 0 x5.length hv21 rfl (by kernel_rfl) ?_
 refine vM [7] 2 67 [(0, A a0), (19, A a1), (20, I (a1.length : Int)), (21, I x4), (56, rf 0 0 1 v20), (58, .arr 1 ([v17.1] : List Int).length (eL ([v17.1] : List Int)) true)] [sl 0 x5, sc 0 v9] ?_
 obtain ⟨v22, hv23, h⟩ := bindS h
 refine opsP_apt τ_ok 59 0 0 v20.length (nx hX) hv23 (slI_le hv21) (by kernel_rfl) ?_
 refine veM [7] 1 67 [(0, A a0), (5, rf 0 1 1 v22), (19, A a1), (20, I (a1.length : Int)), (21, I x4)] [sl 1 v22, sc 0 v9] ?_
 refine rveM [7] 67 [(0, A a0), (5, rf 0 1 1 v22), (19, A a1), (20, I (a1.length : Int)), (21, I (w64 (x4 + 1)))] [sl 1 v22, sc 0 v9] ?_
 exact ⟨(f6, (w64 (x4 + 1)), v22), h, Nat.lt_succ_self _, qt (it (st' := ⟨67, [(0, A a0), (5, rf 0 1 1 v22), (19, A a1), (20, I (a1.length : Int)), (21, I (w64 (x4 + 1)))], [sl 1 v22, sc 0 v9]⟩) [0, 5, 19, 20, 21]) (qt (Imp.truncS (st' := ⟨67, [(0, A a0), (5, rf 0 1 1 v22), (19, A a1), (20, I (a1.length : Int)), (21, I (w64 (x4 + 1)))], [sl 1 v22]⟩) 1 (nx hX) (by kernel_rfl) (allBelow_mem (by exact (And.intro rfl (And.intro rfl (And.intro rfl (And.intro rfl (And.intro rfl trivial))))))) (by exact (And.intro (frz_below (eL_frz _)) trivial)) (by kernel_rfl)) (Imp.reverS 0 1 (eL v22) [0, 5, 19, 20, 21] (by kernel_rfl) (by exact (And.intro (eL_frz _) trivial)) (by kernel_rfl)))⟩
 refine pwp_exit ?_
 refine pwp_seq ?_
 refine srveM [7] 67 [(5, rf 0 0 1 x5), (63, B (!((x5.length : Int) == 1)))] [sl 0 x5] ?_
 refine pc h (fun h => ?_) (fun h => ?_)
 refine srveM [7] 67 [(4, I (-1))] [sl 0 x5] ?_
 cases h
 exact pwp_ret rz
 refine pwp_skip ?_
 refine srvM [7] 1 67 [(64, rf 0 0 1 x5)] [sl 0 x5] ?_
 obtain ⟨v28, hv29, h⟩ := bindS h
 refine opsP_idr τ_ok 65 0 0 x5.length hv29 rfl (by kernel_rfl) ?_
 refine opsP_lde (r := I v28) τ_ok 66 3 0 hv29 (by kernel_rfl) (by kernel_rfl) ?_
 refine veM [7] 1 67 [(4, I v28)] [sl 0 x5] ?_
 cases h
 exact pwp_ret rz
def impl_Part_value_j0 (v6 : T_impl_Value) (v8 : T_impl_Value) (x10 : Bool) : Option T_impl_Value := bif x10 then some (T_impl_Value.mk 0 0 (ByteArray.mk #[])) else some (T_impl_Value.mk 1 (w64 (v6.fN + v8.fN)) (ByteArray.mk #[]))
def impl_Part_value (a0 : T_impl_Part) (a1 : List T_impl_Value) (a2 : List T_impl_Value) : Option T_impl_Value := bif (a0.fKind == 1) then some a0.fV else bif (a0.fKind == 2) then (getI a1 a0.fN).bind fun v3 => some v3 else bif (a0.fKind == 3) then (getI a2 0).bind fun v6 => (getI a2 1).bind fun v8 => (getI a2 0).bind fun v12 => bif (v12.fKind == 0) then impl_Part_value_j0 v6 v8 true else (getI a2 1).bind fun v14 => bif (v14.fKind == 0) then impl_Part_value_j0 v6 v8 true else (impl_Value_ok (T_impl_Value.mk 1 (w64 (v6.fN + v8.fN)) (ByteArray.mk #[]))).bind fun v16 => impl_Part_value_j0 v6 v8 (!v16) else bif (a0.fKind == 4) then (getI a2 0).bind fun v21 => (getI a2 1).bind fun v23 => (impl_Compare a0.fN v21 v23).bind fun v25 => (impl_ValueOf v25).bind fun v27 => some v27 else bif (a0.fKind == 5) then (getI a2 0).bind fun v30 => (impl_TruthOf v30).bind fun v32 => (getI a2 1).bind fun v34 => (impl_TruthOf v34).bind fun v36 => (impl_AndOf v32 v36).bind fun v38 => (impl_ValueOf v38).bind fun v40 => some v40 else bif (a0.fKind == 6) then (getI a2 0).bind fun v43 => (impl_TruthOf v43).bind fun v45 => (getI a2 1).bind fun v47 => (impl_TruthOf v47).bind fun v49 => (impl_OrOf v45 v49).bind fun v51 => (impl_ValueOf v51).bind fun v53 => some v53 else bif (a0.fKind == 7) then (getI a2 0).bind fun v56 => (impl_TruthOf v56).bind fun v58 => (impl_NotOf v58).bind fun v60 => (impl_ValueOf v60).bind fun v62 => some v62 else (getI a2 0).bind fun v64 => (impl_truthIf (v64.fKind == 0)).bind fun v66 => (impl_ValueOf v66).bind fun v68 => some v68
theorem ok_impl_Part_value {a0 : T_impl_Part} {a1 : List T_impl_Value} {a2 : List T_impl_Value} {y : T_impl_Value} (h : impl_Part_value a0 a1 a2 = some y) : OK Try.prog 50 [E a0, A a1, A a2] (E y) := by
 refine ow Try.func50 fun Γ hX => ?_
 unfold impl_Part_value at h
 refine srveM [6, 7] 103 [(1, A a1), (2, A a2), (3, pf a0 0), (6, .ptr 0 0 0)] [some ⟨0, Enc.cells (T_impl_Value.mk 0 0 (ByteArray.mk #[]))⟩] ?_
 refine pwp_seq ?_
 refine srveM [6, 7] 103 [(1, A a1), (2, A a2), (3, pf a0 0), (6, .ptr 0 0 0), (9, I a0.fKind)] [some ⟨0, Enc.cells (T_impl_Value.mk 0 0 (ByteArray.mk #[]))⟩] ?_
 refine pwp_block ?_
 refine srveM [6, 7] 103 [(1, A a1), (2, A a2), (3, pf a0 0), (6, .ptr 0 0 0), (9, I a0.fKind), (10, B (a0.fKind == 1))] [some ⟨0, Enc.cells (T_impl_Value.mk 0 0 (ByteArray.mk #[]))⟩] ?_
 refine pc h (fun h => ?_) (fun h => ?_)
 refine srveM [6, 7] 103 [(6, .ptr 0 0 0)] [sc 0 a0.fV] ?_
 cases h
 exact pwp_ret rz
 refine srveM [6, 7] 103 [(1, A a1), (2, A a2), (3, pf a0 0), (6, .ptr 0 0 0), (9, I a0.fKind), (14, B (a0.fKind == 2))] [some ⟨0, Enc.cells (T_impl_Value.mk 0 0 (ByteArray.mk #[]))⟩] ?_
 refine pc h (fun h => ?_) (fun h => ?_)
 refine srvM [6, 7] 3 103 [(6, .ptr 0 0 0), (16, A a1), (18, I a0.fN)] [some ⟨0, Enc.cells (T_impl_Value.mk 0 0 (ByteArray.mk #[]))⟩] ?_
 obtain ⟨v3, hv4, h⟩ := bindS h
 refine opsP_idx τ_ok 19 hv4 (by kernel_rfl) ?_
 refine veM [6, 7] 2 103 [(6, .ptr 0 0 0)] [sc 0 v3] ?_
 cases h
 exact pwp_ret rz
 refine srveM [6, 7] 103 [(2, A a2), (3, pf a0 0), (6, .ptr 0 0 0), (9, I a0.fKind), (21, B (a0.fKind == 3))] [some ⟨0, Enc.cells (T_impl_Value.mk 0 0 (ByteArray.mk #[]))⟩] ?_
 refine pc h (fun h => ?_) (fun h => ?_)
 refine pwp_seq ?_
 refine ip 103 [(2, A a2), (6, .ptr 0 0 0)] [some ⟨0, Enc.cells (T_impl_Value.mk 0 0 (ByteArray.mk #[]))⟩] ?_
 refine pwp_imp (Imp.ghosts 1 (st' := ⟨103, [(2, A a2), (6, .ptr 0 0 0)], [some ⟨0, Enc.cells (T_impl_Value.mk 0 0 (ByteArray.mk #[]))⟩, some ⟨0, []⟩]⟩) (by kernel_rfl)) ?_
 refine pwp_any ([[], [], [], [], [], [], [], [], [], [], [1], [1]]) ([[], [], [], [], [], [], [], [], [], [], [1], [1]]) rfl (by kernel_rfl) ?_
 refine qvM [6, 7] [] trivial 1 103 [(23, A a2), (2, A a2), (6, .ptr 0 0 0)] [some ⟨0, Enc.cells (T_impl_Value.mk 0 0 (ByteArray.mk #[]))⟩, some ⟨0, []⟩] ?_
 obtain ⟨v6, hv7, h⟩ := bindS h
 refine qX (some 24) (pf v6 0) 103 [(24, pf v6 0), (2, A a2), (6, .ptr 0 0 0)] [some ⟨0, Enc.cells (T_impl_Value.mk 0 0 (ByteArray.mk #[]))⟩, some ⟨0, []⟩] (fun Γ' hΓ => CoreE.of_y (idxV_sound τ_ok (by kernel_rfl) hv7)) trivial ?_
 refine qvM [6, 7] [] trivial 3 103 [(27, A a2), (26, I v6.fN), (2, A a2), (6, .ptr 0 0 0)] [some ⟨0, Enc.cells (T_impl_Value.mk 0 0 (ByteArray.mk #[]))⟩, some ⟨0, []⟩] ?_
 obtain ⟨v8, hv9, h⟩ := bindS h
 refine qX (some 28) (pf v8 0) 103 [(28, pf v8 0), (26, I v6.fN), (2, A a2), (6, .ptr 0 0 0)] [some ⟨0, Enc.cells (T_impl_Value.mk 0 0 (ByteArray.mk #[]))⟩, some ⟨0, []⟩] (fun Γ' hΓ => CoreE.of_y (idxV_sound τ_ok (by kernel_rfl) hv9)) trivial ?_
 refine qvM [6, 7] [] trivial 4 103 [(32, E (T_impl_Value.mk 1 (w64 (v6.fN + v8.fN)) (ByteArray.mk #[]))), (2, A a2), (6, .ptr 0 0 0)] [some ⟨0, Enc.cells (T_impl_Value.mk 0 0 (ByteArray.mk #[]))⟩, some ⟨0, []⟩] ?_
 refine qX (Hm' := [none, some ⟨1, Enc.cells (T_impl_Value.mk 0 0 (ByteArray.mk #[]))⟩]) (some 7) (.ptr 1 1 0) 103 [(7, .ptr 1 1 0), (32, E (T_impl_Value.mk 1 (w64 (v6.fN + v8.fN)) (ByteArray.mk #[]))), (2, A a2), (6, .ptr 0 0 0)] [some ⟨0, Enc.cells (T_impl_Value.mk 0 0 (ByteArray.mk #[]))⟩, some ⟨1, Enc.cells (T_impl_Value.mk 0 0 (ByteArray.mk #[]))⟩] (fun Γ' hΓ => alc_E (blk := ⟨0, []⟩) τ_ok [6, 7] 7 1 0 (ny hΓ hX) (by kernel_rfl) (by kernel_rfl)) (hB trivial) ?_
 refine qX (Hm' := [none, some ⟨1, Enc.cells (T_impl_Value.mk 1 (w64 (v6.fN + v8.fN)) (ByteArray.mk #[]))⟩]) none (.any) 103 [(7, .ptr 1 1 0), (2, A a2), (6, .ptr 0 0 0)] [some ⟨0, Enc.cells (T_impl_Value.mk 0 0 (ByteArray.mk #[]))⟩, some ⟨1, Enc.cells (T_impl_Value.mk 1 (w64 (v6.fN + v8.fN)) (ByteArray.mk #[]))⟩] (fun Γ' hΓ => sto_E τ_ok 1 1 (by kernel_rfl)) (hB trivial) ?_
 refine qn 103 [(2, A a2), (6, .ptr 0 0 0), (7, .ptr 1 1 0)] [some ⟨0, Enc.cells (T_impl_Value.mk 0 0 (ByteArray.mk #[]))⟩, some ⟨1, Enc.cells (T_impl_Value.mk 1 (w64 (v6.fN + v8.fN)) (ByteArray.mk #[]))⟩] ?_
 refine pwp_seq ?_
 refine pwp_seq ?_
 refine pwp_join (σ := Bool) (fun x10 => (⟨103, [(6, .ptr 0 0 0), (7, .ptr 1 1 0), (49, B x10)], [some ⟨0, Enc.cells (T_impl_Value.mk 0 0 (ByteArray.mk #[]))⟩, some ⟨1, Enc.cells (T_impl_Value.mk 1 (w64 (v6.fN + v8.fN)) (ByteArray.mk #[]))⟩]⟩ : St)) (fun x10 => impl_Part_value_j0 v6 v8 x10 = some y) ?_ ?_
 refine rvM [6, 7] 1 103 [(2, A a2), (6, .ptr 0 0 0), (7, .ptr 1 1 0), (33, A a2)] [some ⟨0, Enc.cells (T_impl_Value.mk 0 0 (ByteArray.mk #[]))⟩, some ⟨1, Enc.cells (T_impl_Value.mk 1 (w64 (v6.fN + v8.fN)) (ByteArray.mk #[]))⟩] ?_
 obtain ⟨v12, hv13, h⟩ := bindS h
 refine opsP_idx τ_ok 34 hv13 (by kernel_rfl) ?_
 refine vM [6, 7] 4 103 [(2, A a2), (6, .ptr 0 0 0), (7, .ptr 1 1 0), (38, B (v12.fKind == 0))] [some ⟨0, Enc.cells (T_impl_Value.mk 0 0 (ByteArray.mk #[]))⟩, some ⟨1, Enc.cells (T_impl_Value.mk 1 (w64 (v6.fN + v8.fN)) (ByteArray.mk #[]))⟩] ?_
 rcases fk (v12.fKind == 0) with hc19 | hc19
 replace h := bT hc19 h
 rw [hc19]
 refine veM [6, 7] 11 103 [(6, .ptr 0 0 0), (7, .ptr 1 1 0), (49, B true)] [some ⟨0, Enc.cells (T_impl_Value.mk 0 0 (ByteArray.mk #[]))⟩, some ⟨1, Enc.cells (T_impl_Value.mk 1 (w64 (v6.fN + v8.fN)) (ByteArray.mk #[]))⟩] ?_
 exact ⟨true, h, it [6, 7, 49]⟩
 replace h := bF hc19 h
 rw [hc19]
 refine vM [6, 7] 1 103 [(6, .ptr 0 0 0), (7, .ptr 1 1 0), (38, B false), (39, A a2)] [some ⟨0, Enc.cells (T_impl_Value.mk 0 0 (ByteArray.mk #[]))⟩, some ⟨1, Enc.cells (T_impl_Value.mk 1 (w64 (v6.fN + v8.fN)) (ByteArray.mk #[]))⟩] ?_
 obtain ⟨v14, hv15, h⟩ := bindS h
 refine opsP_idx τ_ok 40 hv15 (by kernel_rfl) ?_
 refine vM [6, 7] 5 103 [(6, .ptr 0 0 0), (7, .ptr 1 1 0), (45, B (v14.fKind == 0))] [some ⟨0, Enc.cells (T_impl_Value.mk 0 0 (ByteArray.mk #[]))⟩, some ⟨1, Enc.cells (T_impl_Value.mk 1 (w64 (v6.fN + v8.fN)) (ByteArray.mk #[]))⟩] ?_
 rcases fk (v14.fKind == 0) with hc18 | hc18
 replace h := bT hc18 h
 rw [hc18]
 refine veM [6, 7] 4 103 [(6, .ptr 0 0 0), (7, .ptr 1 1 0), (49, B true)] [some ⟨0, Enc.cells (T_impl_Value.mk 0 0 (ByteArray.mk #[]))⟩, some ⟨1, Enc.cells (T_impl_Value.mk 1 (w64 (v6.fN + v8.fN)) (ByteArray.mk #[]))⟩] ?_
 exact ⟨true, h, it [6, 7, 49]⟩
 replace h := bF hc18 h
 rw [hc18]
 refine vM [6, 7] 1 103 [(6, .ptr 0 0 0), (7, .ptr 1 1 0), (45, B false), (46, E (T_impl_Value.mk 1 (w64 (v6.fN + v8.fN)) (ByteArray.mk #[])))] [some ⟨0, Enc.cells (T_impl_Value.mk 0 0 (ByteArray.mk #[]))⟩, some ⟨1, Enc.cells (T_impl_Value.mk 1 (w64 (v6.fN + v8.fN)) (ByteArray.mk #[]))⟩] ?_
 obtain ⟨v16, hv17, h⟩ := bindS h
 refine cF 47 (ok_impl_Value_ok hv17) ?_
 refine veM [6, 7] 2 103 [(6, .ptr 0 0 0), (7, .ptr 1 1 0), (49, B (!v16))] [some ⟨0, Enc.cells (T_impl_Value.mk 0 0 (ByteArray.mk #[]))⟩, some ⟨1, Enc.cells (T_impl_Value.mk 1 (w64 (v6.fN + v8.fN)) (ByteArray.mk #[]))⟩] ?_
 exact ⟨(!v16), h, it [6, 7, 49]⟩
 rintro x10 h
 unfold impl_Part_value_j0 at h
 refine pc h (fun h => ?_) (fun h => ?_)
 refine srveM [6, 7] 103 [(6, .ptr 0 0 0)] [some ⟨0, Enc.cells (T_impl_Value.mk 0 0 (ByteArray.mk #[]))⟩, some ⟨1, Enc.cells (T_impl_Value.mk 1 (w64 (v6.fN + v8.fN)) (ByteArray.mk #[]))⟩] ?_
 cases h
 exact pwp_ret rz
 refine pwp_skip ?_
 refine srveM [6, 7] 103 [(6, .ptr 0 0 0)] [some ⟨0, Enc.cells (T_impl_Value.mk 1 (w64 (v6.fN + v8.fN)) (ByteArray.mk #[]))⟩, some ⟨1, Enc.cells (T_impl_Value.mk 1 (w64 (v6.fN + v8.fN)) (ByteArray.mk #[]))⟩] ?_
 cases h
 exact pwp_ret rz
 refine srveM [6, 7] 103 [(2, A a2), (3, pf a0 0), (6, .ptr 0 0 0), (9, I a0.fKind), (52, B (a0.fKind == 4))] [some ⟨0, Enc.cells (T_impl_Value.mk 0 0 (ByteArray.mk #[]))⟩] ?_
 refine pc h (fun h => ?_) (fun h => ?_)
 refine pwp_seq ?_
 refine ip 103 [(2, A a2), (3, pf a0 0), (6, .ptr 0 0 0)] [some ⟨0, Enc.cells (T_impl_Value.mk 0 0 (ByteArray.mk #[]))⟩] ?_
 refine pwp_any ([[], [], [], [], [], [], [], [], [], [], [0]]) ([[], [], [], [], [], [], [], [], [], [], [0]]) rfl (by kernel_rfl) ?_
 refine qvM [6, 7] [] trivial 3 103 [(56, A a2), (55, I a0.fN), (2, A a2), (6, .ptr 0 0 0)] [some ⟨0, Enc.cells (T_impl_Value.mk 0 0 (ByteArray.mk #[]))⟩] ?_
 obtain ⟨v21, hv22, h⟩ := bindS h
 refine qX (some 57) (pf v21 0) 103 [(57, pf v21 0), (55, I a0.fN), (2, A a2), (6, .ptr 0 0 0)] [some ⟨0, Enc.cells (T_impl_Value.mk 0 0 (ByteArray.mk #[]))⟩] (fun Γ' hΓ => CoreE.of_y (idxV_sound τ_ok (by kernel_rfl) hv22)) trivial ?_
 refine qvM [6, 7] [] trivial 2 103 [(59, A a2), (58, E v21), (55, I a0.fN), (6, .ptr 0 0 0)] [some ⟨0, Enc.cells (T_impl_Value.mk 0 0 (ByteArray.mk #[]))⟩] ?_
 obtain ⟨v23, hv24, h⟩ := bindS h
 refine qX (some 60) (pf v23 0) 103 [(60, pf v23 0), (58, E v21), (55, I a0.fN), (6, .ptr 0 0 0)] [some ⟨0, Enc.cells (T_impl_Value.mk 0 0 (ByteArray.mk #[]))⟩] (fun Γ' hΓ => CoreE.of_y (idxV_sound τ_ok (by kernel_rfl) hv24)) trivial ?_
 refine qvM [6, 7] [] trivial 1 103 [(61, E v23), (58, E v21), (55, I a0.fN), (6, .ptr 0 0 0)] [some ⟨0, Enc.cells (T_impl_Value.mk 0 0 (ByteArray.mk #[]))⟩] ?_
 obtain ⟨v25, hv26, h⟩ := bindS h
 refine qX (some 62) (I v25) 103 [(62, I v25), (6, .ptr 0 0 0)] [some ⟨0, Enc.cells (T_impl_Value.mk 0 0 (ByteArray.mk #[]))⟩] (fun Γ' hΓ => CoreE.of_g (callV_sound (τ := τ) (by kernel_rfl) rfl (ok_impl_Compare hv26) (FzTo.frz rfl))) trivial ?_
 obtain ⟨v27, hv28, h⟩ := bindS h
 refine qX (some 63) (E v27) 103 [(63, E v27), (6, .ptr 0 0 0)] [some ⟨0, Enc.cells (T_impl_Value.mk 0 0 (ByteArray.mk #[]))⟩] (fun Γ' hΓ => CoreE.of_g (callV_sound (τ := τ) (by kernel_rfl) rfl (ok_impl_ValueOf hv28) (FzTo.frz rfl))) trivial ?_
 refine qX (Hm' := [sc 0 v27]) none (.any) 103 [(6, .ptr 0 0 0)] [sc 0 v27] (fun Γ' hΓ => sto_E τ_ok 0 0 (by kernel_rfl)) (hB trivial) ?_
 refine qn 103 [(6, .ptr 0 0 0)] [sc 0 v27] ?_
 cases h
 exact pwp_ret rz
 refine srveM [6, 7] 103 [(2, A a2), (6, .ptr 0 0 0), (9, I a0.fKind), (64, B (a0.fKind == 5))] [some ⟨0, Enc.cells (T_impl_Value.mk 0 0 (ByteArray.mk #[]))⟩] ?_
 refine pc h (fun h => ?_) (fun h => ?_)
 refine pwp_seq ?_
 refine ip 103 [(2, A a2), (6, .ptr 0 0 0)] [some ⟨0, Enc.cells (T_impl_Value.mk 0 0 (ByteArray.mk #[]))⟩] ?_
 refine pwp_any ([[], [], [], [], [], [], [], [], [], [], [0]]) ([[], [], [], [], [], [], [], [], [], [], [0]]) rfl (by kernel_rfl) ?_
 refine qvM [6, 7] [] trivial 1 103 [(66, A a2), (2, A a2), (6, .ptr 0 0 0)] [some ⟨0, Enc.cells (T_impl_Value.mk 0 0 (ByteArray.mk #[]))⟩] ?_
 obtain ⟨v30, hv31, h⟩ := bindS h
 refine qX (some 67) (pf v30 0) 103 [(67, pf v30 0), (2, A a2), (6, .ptr 0 0 0)] [some ⟨0, Enc.cells (T_impl_Value.mk 0 0 (ByteArray.mk #[]))⟩] (fun Γ' hΓ => CoreE.of_y (idxV_sound τ_ok (by kernel_rfl) hv31)) trivial ?_
 refine qvM [6, 7] [] trivial 1 103 [(68, E v30), (2, A a2), (6, .ptr 0 0 0)] [some ⟨0, Enc.cells (T_impl_Value.mk 0 0 (ByteArray.mk #[]))⟩] ?_
 obtain ⟨v32, hv33, h⟩ := bindS h
 refine qX (some 69) (I v32) 103 [(69, I v32), (2, A a2), (6, .ptr 0 0 0)] [some ⟨0, Enc.cells (T_impl_Value.mk 0 0 (ByteArray.mk #[]))⟩] (fun Γ' hΓ => CoreE.of_g (callV_sound (τ := τ) (by kernel_rfl) rfl (ok_impl_TruthOf hv33) (FzTo.frz rfl))) trivial ?_
 refine qvM [6, 7] [] trivial 1 103 [(70, A a2), (69, I v32), (6, .ptr 0 0 0)] [some ⟨0, Enc.cells (T_impl_Value.mk 0 0 (ByteArray.mk #[]))⟩] ?_
 obtain ⟨v34, hv35, h⟩ := bindS h
 refine qX (some 71) (pf v34 0) 103 [(71, pf v34 0), (69, I v32), (6, .ptr 0 0 0)] [some ⟨0, Enc.cells (T_impl_Value.mk 0 0 (ByteArray.mk #[]))⟩] (fun Γ' hΓ => CoreE.of_y (idxV_sound τ_ok (by kernel_rfl) hv35)) trivial ?_
 refine qvM [6, 7] [] trivial 1 103 [(72, E v34), (69, I v32), (6, .ptr 0 0 0)] [some ⟨0, Enc.cells (T_impl_Value.mk 0 0 (ByteArray.mk #[]))⟩] ?_
 obtain ⟨v36, hv37, h⟩ := bindS h
 refine qX (some 73) (I v36) 103 [(73, I v36), (69, I v32), (6, .ptr 0 0 0)] [some ⟨0, Enc.cells (T_impl_Value.mk 0 0 (ByteArray.mk #[]))⟩] (fun Γ' hΓ => CoreE.of_g (callV_sound (τ := τ) (by kernel_rfl) rfl (ok_impl_TruthOf hv37) (FzTo.frz rfl))) trivial ?_
 obtain ⟨v38, hv39, h⟩ := bindS h
 refine qX (some 74) (I v38) 103 [(74, I v38), (6, .ptr 0 0 0)] [some ⟨0, Enc.cells (T_impl_Value.mk 0 0 (ByteArray.mk #[]))⟩] (fun Γ' hΓ => CoreE.of_g (callV_sound (τ := τ) (by kernel_rfl) rfl (ok_impl_AndOf hv39) (FzTo.frz rfl))) trivial ?_
 obtain ⟨v40, hv41, h⟩ := bindS h
 refine qX (some 75) (E v40) 103 [(75, E v40), (6, .ptr 0 0 0)] [some ⟨0, Enc.cells (T_impl_Value.mk 0 0 (ByteArray.mk #[]))⟩] (fun Γ' hΓ => CoreE.of_g (callV_sound (τ := τ) (by kernel_rfl) rfl (ok_impl_ValueOf hv41) (FzTo.frz rfl))) trivial ?_
 refine qX (Hm' := [sc 0 v40]) none (.any) 103 [(6, .ptr 0 0 0)] [sc 0 v40] (fun Γ' hΓ => sto_E τ_ok 0 0 (by kernel_rfl)) (hB trivial) ?_
 refine qn 103 [(6, .ptr 0 0 0)] [sc 0 v40] ?_
 cases h
 exact pwp_ret rz
 refine srveM [6, 7] 103 [(2, A a2), (6, .ptr 0 0 0), (9, I a0.fKind), (76, B (a0.fKind == 6))] [some ⟨0, Enc.cells (T_impl_Value.mk 0 0 (ByteArray.mk #[]))⟩] ?_
 refine pc h (fun h => ?_) (fun h => ?_)
 refine pwp_seq ?_
 refine ip 103 [(2, A a2), (6, .ptr 0 0 0)] [some ⟨0, Enc.cells (T_impl_Value.mk 0 0 (ByteArray.mk #[]))⟩] ?_
 refine pwp_any ([[], [], [], [], [], [], [], [], [], [], [0]]) ([[], [], [], [], [], [], [], [], [], [], [0]]) rfl (by kernel_rfl) ?_
 refine qvM [6, 7] [] trivial 1 103 [(78, A a2), (2, A a2), (6, .ptr 0 0 0)] [some ⟨0, Enc.cells (T_impl_Value.mk 0 0 (ByteArray.mk #[]))⟩] ?_
 obtain ⟨v43, hv44, h⟩ := bindS h
 refine qX (some 79) (pf v43 0) 103 [(79, pf v43 0), (2, A a2), (6, .ptr 0 0 0)] [some ⟨0, Enc.cells (T_impl_Value.mk 0 0 (ByteArray.mk #[]))⟩] (fun Γ' hΓ => CoreE.of_y (idxV_sound τ_ok (by kernel_rfl) hv44)) trivial ?_
 refine qvM [6, 7] [] trivial 1 103 [(80, E v43), (2, A a2), (6, .ptr 0 0 0)] [some ⟨0, Enc.cells (T_impl_Value.mk 0 0 (ByteArray.mk #[]))⟩] ?_
 obtain ⟨v45, hv46, h⟩ := bindS h
 refine qX (some 81) (I v45) 103 [(81, I v45), (2, A a2), (6, .ptr 0 0 0)] [some ⟨0, Enc.cells (T_impl_Value.mk 0 0 (ByteArray.mk #[]))⟩] (fun Γ' hΓ => CoreE.of_g (callV_sound (τ := τ) (by kernel_rfl) rfl (ok_impl_TruthOf hv46) (FzTo.frz rfl))) trivial ?_
 refine qvM [6, 7] [] trivial 1 103 [(82, A a2), (81, I v45), (6, .ptr 0 0 0)] [some ⟨0, Enc.cells (T_impl_Value.mk 0 0 (ByteArray.mk #[]))⟩] ?_
 obtain ⟨v47, hv48, h⟩ := bindS h
 refine qX (some 83) (pf v47 0) 103 [(83, pf v47 0), (81, I v45), (6, .ptr 0 0 0)] [some ⟨0, Enc.cells (T_impl_Value.mk 0 0 (ByteArray.mk #[]))⟩] (fun Γ' hΓ => CoreE.of_y (idxV_sound τ_ok (by kernel_rfl) hv48)) trivial ?_
 refine qvM [6, 7] [] trivial 1 103 [(84, E v47), (81, I v45), (6, .ptr 0 0 0)] [some ⟨0, Enc.cells (T_impl_Value.mk 0 0 (ByteArray.mk #[]))⟩] ?_
 obtain ⟨v49, hv50, h⟩ := bindS h
 refine qX (some 85) (I v49) 103 [(85, I v49), (81, I v45), (6, .ptr 0 0 0)] [some ⟨0, Enc.cells (T_impl_Value.mk 0 0 (ByteArray.mk #[]))⟩] (fun Γ' hΓ => CoreE.of_g (callV_sound (τ := τ) (by kernel_rfl) rfl (ok_impl_TruthOf hv50) (FzTo.frz rfl))) trivial ?_
 obtain ⟨v51, hv52, h⟩ := bindS h
 refine qX (some 86) (I v51) 103 [(86, I v51), (6, .ptr 0 0 0)] [some ⟨0, Enc.cells (T_impl_Value.mk 0 0 (ByteArray.mk #[]))⟩] (fun Γ' hΓ => CoreE.of_g (callV_sound (τ := τ) (by kernel_rfl) rfl (ok_impl_OrOf hv52) (FzTo.frz rfl))) trivial ?_
 obtain ⟨v53, hv54, h⟩ := bindS h
 refine qX (some 87) (E v53) 103 [(87, E v53), (6, .ptr 0 0 0)] [some ⟨0, Enc.cells (T_impl_Value.mk 0 0 (ByteArray.mk #[]))⟩] (fun Γ' hΓ => CoreE.of_g (callV_sound (τ := τ) (by kernel_rfl) rfl (ok_impl_ValueOf hv54) (FzTo.frz rfl))) trivial ?_
 refine qX (Hm' := [sc 0 v53]) none (.any) 103 [(6, .ptr 0 0 0)] [sc 0 v53] (fun Γ' hΓ => sto_E τ_ok 0 0 (by kernel_rfl)) (hB trivial) ?_
 refine qn 103 [(6, .ptr 0 0 0)] [sc 0 v53] ?_
 cases h
 exact pwp_ret rz
 refine srveM [6, 7] 103 [(2, A a2), (6, .ptr 0 0 0), (88, B (a0.fKind == 7))] [some ⟨0, Enc.cells (T_impl_Value.mk 0 0 (ByteArray.mk #[]))⟩] ?_
 refine pc h (fun h => ?_) (fun h => ?_)
 refine srvM [6, 7] 1 103 [(6, .ptr 0 0 0), (90, A a2)] [some ⟨0, Enc.cells (T_impl_Value.mk 0 0 (ByteArray.mk #[]))⟩] ?_
 obtain ⟨v56, hv57, h⟩ := bindS h
 refine opsP_idx τ_ok 91 hv57 (by kernel_rfl) ?_
 refine vM [6, 7] 1 103 [(6, .ptr 0 0 0), (92, E v56)] [some ⟨0, Enc.cells (T_impl_Value.mk 0 0 (ByteArray.mk #[]))⟩] ?_
 obtain ⟨v58, hv59, h⟩ := bindS h
 refine cF 93 (ok_impl_TruthOf hv59) ?_
 obtain ⟨v60, hv61, h⟩ := bindS h
 refine cF 94 (ok_impl_NotOf hv61) ?_
 obtain ⟨v62, hv63, h⟩ := bindS h
 refine cF 95 (ok_impl_ValueOf hv63) ?_
 refine veM [6, 7] 1 103 [(6, .ptr 0 0 0)] [sc 0 v62] ?_
 cases h
 exact pwp_ret rz
 refine pwp_skip ?_
 refine srvM [6, 7] 1 103 [(6, .ptr 0 0 0), (96, A a2)] [some ⟨0, Enc.cells (T_impl_Value.mk 0 0 (ByteArray.mk #[]))⟩] ?_
 obtain ⟨v64, hv65, h⟩ := bindS h
 refine opsP_idx τ_ok 97 hv65 (by kernel_rfl) ?_
 refine vM [6, 7] 3 103 [(6, .ptr 0 0 0), (100, B (v64.fKind == 0))] [some ⟨0, Enc.cells (T_impl_Value.mk 0 0 (ByteArray.mk #[]))⟩] ?_
 obtain ⟨v66, hv67, h⟩ := bindS h
 refine cF 101 (ok_impl_truthIf hv67) ?_
 obtain ⟨v68, hv69, h⟩ := bindS h
 refine cF 102 (ok_impl_ValueOf hv69) ?_
 refine veM [6, 7] 1 103 [(6, .ptr 0 0 0)] [sc 0 v68] ?_
 cases h
 exact pwp_ret rz
def impl_ExprColumns (a0 : List T_impl_Column) (a1 : List T_impl_Part) : Option (List Int) := (impl_ExprKind a0 a1).bind fun v1 => bif (decide (v1 < 0)) then some ([] : List Int) else (impl_exprColumns a1).bind fun v4 => some v4
theorem ok_impl_ExprColumns {a0 : List T_impl_Column} {a1 : List T_impl_Part} {y : List Int} (h : impl_ExprColumns a0 a1 = some y) : OK Try.prog 6 [A a0, A a1] (A y) := by
 refine ow Try.func6 fun Γ hX => ?_
 unfold impl_ExprColumns at h
 refine srve 11 [(0, A a0), (1, A a1)] [] ?_
 refine pwp_seq ?_
 refine srv 2 11 [(1, A a1), (5, A a0), (6, A a1)] [] ?_
 obtain ⟨v1, hv2, h⟩ := bindS h
 refine cF 7 (ok_impl_ExprKind hv2) ?_
 refine ve 1 11 [(1, A a1), (8, B (decide (v1 < 0)))] [] ?_
 refine pc h (fun h => ?_) (fun h => ?_)
 refine srve 11 [(4, .arr 1 0 (eL ([] : List Int)) true)] [] ?_
 refine ip 11 [(4, .arr 1 0 (eL ([] : List Int)) true)] [] ?_
 refine pwp_imp (Imp.unfS (st' := ⟨11, [(4, A ([] : List Int))], []⟩) 4 [4] (by kernel_rfl)) ?_
 cases h
 exact pwp_ret rz
 refine pwp_skip ?_
 refine srv 1 11 [(9, A a1)] [] ?_
 obtain ⟨v4, hv5, h⟩ := bindS h
 refine cF 10 (ok_impl_exprColumns hv5) ?_
 refine ve 1 11 [(4, A v4)] [] ?_
 cases h
 exact pwp_ret rz
def impl_exprValue_l0 (a0 : List T_impl_Value) (a1 : List T_impl_Part) : Nat → Int → (List T_impl_Value) → Option T_impl_Value
 | 0, _, _ => none
 | f5 + 1, x3, x4 => bif (decide (x3 < (a1.length : Int))) then (getI a1 x3).bind fun v8 => (impl_Part_takes v8).bind fun v10 => (slI x4 (some (w64 ((x4.length : Int) - v10))) none none).bind fun v12 => (impl_Part_value v8 a0 v12).bind fun v14 => (slI x4 none (some (w64 ((x4.length : Int) - v10))) none).bind fun v16 => (appT x4 ([v14] : List T_impl_Value) v16.length).bind fun v18 => (impl_exprValue_l0 a0 a1 f5) (w64 (x3 + 1)) v18 else (getI x4 (0 : Int)).bind fun v20 => some v20
def impl_exprValue (a0 : List T_impl_Value) (a1 : List T_impl_Part) : Option T_impl_Value := impl_exprValue_l0 a0 a1 FUEL 0 ([] : List T_impl_Value)
theorem ok_impl_exprValue {a0 : List T_impl_Value} {a1 : List T_impl_Part} {y : T_impl_Value} (h : impl_exprValue a0 a1 = some y) : OK Try.prog 29 [A a0, A a1] (E y) := by
 refine ow Try.func29 fun Γ hX => ?_
 unfold impl_exprValue at h
 refine srveM [4, 7, 9] 37 [(0, A a0), (1, A a1), (4, .ptr 0 0 0)] [some ⟨0, Enc.cells (T_impl_Value.mk 0 0 (ByteArray.mk #[]))⟩] ?_
 refine srveM [4, 7, 9] 37 [(0, A a0), (1, A a1), (4, .ptr 0 0 0), (5, .arr 3 0 (eL ([] : List T_impl_Value)) true)] [some ⟨0, Enc.cells (T_impl_Value.mk 0 0 (ByteArray.mk #[]))⟩] ?_
 refine pwp_seq ?_
 refine srveM [4, 7, 9] 37 [(0, A a0), (4, .ptr 0 0 0), (5, .arr 3 0 (eL ([] : List T_impl_Value)) true), (10, A a1), (11, I (a1.length : Int)), (12, I 0)] [some ⟨0, Enc.cells (T_impl_Value.mk 0 0 (ByteArray.mk #[]))⟩] ?_
 refine pwp_block ?_
 refine pwp_loop (ι := Nat × Int × (List T_impl_Value)) (fun (f5, x3, x4) => (⟨37, [(0, A a0), (4, .ptr 0 0 0), (5, rf 1 0 3 x4), (10, A a1), (11, I (a1.length : Int)), (12, I x3)], [some ⟨0, Enc.cells (T_impl_Value.mk 0 0 (ByteArray.mk #[]))⟩, sl 0 x4]⟩ : St)) (fun (f5, x3, x4) => impl_exprValue_l0 a0 a1 f5 x3 x4 = some y) Prod.fst (FUEL, 0, ([] : List T_impl_Value)) h (Imp.thawS 5 [0, 4, 5, 10, 11, 12] (by kernel_rfl)) ?_
 rintro ⟨f5, x3, x4⟩ h
 dsimp only at h ⊢
 rcases f5 with _ | f5
 cases h
 rw [impl_exprValue_l0] at h
 refine srveM [4, 7, 9] 37 [(0, A a0), (4, .ptr 0 0 0), (5, rf 1 0 3 x4), (10, A a1), (11, I (a1.length : Int)), (12, I x3), (13, B (decide (x3 < (a1.length : Int))))] [some ⟨0, Enc.cells (T_impl_Value.mk 0 0 (ByteArray.mk #[]))⟩, sl 0 x4] ?_
 refine pwp_seq ?_
 refine pc h (fun h => ?_) (fun h => ?_)
 refine pwp_skip ?_
 refine pwp_seq ?_
 refine pwp_block ?_
 refine pwp_seq ?_
 refine pwp_region ?_
 obtain ⟨v8, hv9, h⟩ := bindS h
 refine opsP_idx τ_ok 14 hv9 (by kernel_rfl) ?_
 refine veM [4, 7, 9] 3 37 [(0, A a0), (4, .ptr 0 0 0), (5, rf 1 0 3 x4), (7, .ptr 2 0 0), (10, A a1), (11, I (a1.length : Int)), (12, I x3)] [some ⟨0, Enc.cells (T_impl_Value.mk 0 0 (ByteArray.mk #[]))⟩, sl 0 x4, sc 0 v8] ?_
 refine srvM [4, 7, 9] 3 37 [(0, A a0), (4, .ptr 0 0 0), (5, rf 1 0 3 x4), (7, .ptr 2 0 0), (10, A a1), (11, I (a1.length : Int)), (12, I x3), (17, I (x4.length : Int)), (18, E v8)] [some ⟨0, Enc.cells (T_impl_Value.mk 0 0 (ByteArray.mk #[]))⟩, sl 0 x4, sc 0 v8] ?_
 obtain ⟨v10, hv11, h⟩ := bindS h
 refine cF 19 (ok_impl_Part_takes hv11) ?_
 refine veM [4, 7, 9] 2 37 [(0, A a0), (4, .ptr 0 0 0), (5, rf 1 0 3 x4), (7, .ptr 2 0 0), (8, I (w64 ((x4.length : Int) - v10))), (10, A a1), (11, I (a1.length : Int)), (12, I x3)] [some ⟨0, Enc.cells (T_impl_Value.mk 0 0 (ByteArray.mk #[]))⟩, sl 0 x4, sc 0 v8] ?_
 refine pwp_seq ?_
 refine ip 37 [(0, A a0), (4, .ptr 0 0 0), (5, rf 1 0 3 x4), (7, .ptr 2 0 0), (8, I (w64 ((x4.length : Int) - v10))), (10, A a1), (11, I (a1.length : Int)), (12, I x3)] [some ⟨0, Enc.cells (T_impl_Value.mk 0 0 (ByteArray.mk #[]))⟩, sl 0 x4, sc 0 v8] ?_
 refine pwp_imp (Imp.ghosts 1 (st' := ⟨37, [(0, A a0), (4, .ptr 0 0 0), (5, rf 1 0 3 x4), (7, .ptr 2 0 0), (8, I (w64 ((x4.length : Int) - v10))), (10, A a1), (11, I (a1.length : Int)), (12, I x3)], [some ⟨0, Enc.cells (T_impl_Value.mk 0 0 (ByteArray.mk #[]))⟩, sl 0 x4, sc 0 v8, some ⟨0, []⟩]⟩) (by kernel_rfl)) ?_
 refine pwp_any ([[2], [], [1], [], [1], [1], [3], [3]]) ([[], [], [], [], [], [], [3], [3]]) rfl (by kernel_rfl) ?_
 refine qvM [4, 7, 9] [2] (hB trivial) 1 37 [(21, E v8), (0, A a0), (4, .ptr 0 0 0), (5, rf 1 0 3 x4), (8, I (w64 ((x4.length : Int) - v10))), (10, A a1), (11, I (a1.length : Int)), (12, I x3)] [some ⟨0, Enc.cells (T_impl_Value.mk 0 0 (ByteArray.mk #[]))⟩, sl 0 x4, sc 0 v8, some ⟨0, []⟩] ?_
 refine qvM [4, 7, 9] [] trivial 1 37 [(22, A a0), (21, E v8), (0, A a0), (4, .ptr 0 0 0), (5, rf 1 0 3 x4), (8, I (w64 ((x4.length : Int) - v10))), (10, A a1), (11, I (a1.length : Int)), (12, I x3)] [some ⟨0, Enc.cells (T_impl_Value.mk 0 0 (ByteArray.mk #[]))⟩, sl 0 x4, sc 0 v8, some ⟨0, []⟩] ?_
 refine qvM [4, 7, 9] [1] (hL trivial) 1 37 [(23, rf 1 0 3 x4), (22, A a0), (21, E v8), (0, A a0), (4, .ptr 0 0 0), (5, rf 1 0 3 x4), (8, I (w64 ((x4.length : Int) - v10))), (10, A a1), (11, I (a1.length : Int)), (12, I x3)] [some ⟨0, Enc.cells (T_impl_Value.mk 0 0 (ByteArray.mk #[]))⟩, sl 0 x4, sc 0 v8, some ⟨0, []⟩] ?_
 refine qvM [4, 7, 9] [] trivial 1 37 [(24, I (w64 ((x4.length : Int) - v10))), (23, rf 1 0 3 x4), (22, A a0), (21, E v8), (0, A a0), (4, .ptr 0 0 0), (5, rf 1 0 3 x4), (8, I (w64 ((x4.length : Int) - v10))), (10, A a1), (11, I (a1.length : Int)), (12, I x3)] [some ⟨0, Enc.cells (T_impl_Value.mk 0 0 (ByteArray.mk #[]))⟩, sl 0 x4, sc 0 v8, some ⟨0, []⟩] ?_
 obtain ⟨v12, hv13, h⟩ := bindS h
 refine qX (some 25) (.ref 1 0 ((w64 ((x4.length : Int) - v10)).toNat * 3) 3 v12.length false) 37 [(25, .ref 1 0 ((w64 ((x4.length : Int) - v10)).toNat * 3) 3 v12.length false), (22, A a0), (21, E v8), (0, A a0), (4, .ptr 0 0 0), (5, rf 1 0 3 x4), (8, I (w64 ((x4.length : Int) - v10))), (10, A a1), (11, I (a1.length : Int)), (12, I x3)] [some ⟨0, Enc.cells (T_impl_Value.mk 0 0 (ByteArray.mk #[]))⟩, sl 0 x4, sc 0 v8, some ⟨0, []⟩] (fun Γ' hΓ => CoreE.of_y (slrV_sound (n := x4.length) τ_ok (by kernel_rfl) rfl hv13)) (hL trivial) ?_
 obtain ⟨v14, hv15, h⟩ := bindS h
 refine qX (some 26) (E v14) 37 [(26, E v14), (0, A a0), (4, .ptr 0 0 0), (5, rf 1 0 3 x4), (8, I (w64 ((x4.length : Int) - v10))), (10, A a1), (11, I (a1.length : Int)), (12, I x3)] [some ⟨0, Enc.cells (T_impl_Value.mk 0 0 (ByteArray.mk #[]))⟩, sl 0 x4, sc 0 v8, some ⟨0, []⟩] (fun Γ' hΓ => CoreE.of_g (callVV_sound (xs := [E v8, A a0, .ref 1 0 ((w64 ((x4.length : Int) - v10)).toNat * 3) 3 v12.length false]) (τ := τ) (by kernel_rfl) (ViewL.cons (View.frz rfl) (ViewL.cons (View.frz rfl) (ViewL.cons (View.ref (v := 0) (lo := (w64 ((x4.length : Int) - v10)).toNat) x4 v12 (by kernel_rfl) (slI_view hv13) rfl) (ViewL.nil _)))) (ok_impl_Part_value hv15) (Blind.E _ rfl rfl) (FzTo.frz rfl))) (hL trivial) ?_
 refine qX (Hm' := [none, none, none, some ⟨1, Enc.cells (T_impl_Value.mk 0 0 (ByteArray.mk #[]))⟩]) (some 9) (.ptr 3 1 0) 37 [(9, .ptr 3 1 0), (26, E v14), (0, A a0), (4, .ptr 0 0 0), (5, rf 1 0 3 x4), (8, I (w64 ((x4.length : Int) - v10))), (10, A a1), (11, I (a1.length : Int)), (12, I x3)] [some ⟨0, Enc.cells (T_impl_Value.mk 0 0 (ByteArray.mk #[]))⟩, sl 0 x4, sc 0 v8, some ⟨1, Enc.cells (T_impl_Value.mk 0 0 (ByteArray.mk #[]))⟩] (fun Γ' hΓ => alc_E (blk := ⟨0, []⟩) τ_ok [4, 7, 9] 9 3 0 (ny hΓ hX) (by kernel_rfl) (by kernel_rfl)) (hB trivial) ?_
 refine qX (Hm' := [none, none, none, sc 1 v14]) none (.any) 37 [(9, .ptr 3 1 0), (0, A a0), (4, .ptr 0 0 0), (5, rf 1 0 3 x4), (8, I (w64 ((x4.length : Int) - v10))), (10, A a1), (11, I (a1.length : Int)), (12, I x3)] [some ⟨0, Enc.cells (T_impl_Value.mk 0 0 (ByteArray.mk #[]))⟩, sl 0 x4, sc 0 v8, sc 1 v14] (fun Γ' hΓ => sto_E τ_ok 3 1 (by kernel_rfl)) (hB trivial) ?_
 refine qn 37 [(0, A a0), (4, .ptr 0 0 0), (5, rf 1 0 3 x4), (8, I (w64 ((x4.length : Int) - v10))), (9, .ptr 3 1 0), (10, A a1), (11, I (a1.length : Int)), (12, I x3)] [some ⟨0, Enc.cells (T_impl_Value.mk 0 0 (ByteArray.mk #[]))⟩, sl 0 x4, sc 0 v8, sc 1 v14] ?_
 refine ip 37 [(0, A a0), (4, .ptr 0 0 0), (5, rf 1 0 3 x4), (8, I (w64 ((x4.length : Int) - v10))), (9, .ptr 3 1 0), (10, A a1), (11, I (a1.length : Int)), (12, I x3)] [some ⟨0, Enc.cells (T_impl_Value.mk 0 0 (ByteArray.mk #[]))⟩, sl 0 x4, sc 0 v8, sc 1 v14] ?_
 refine pwp_any ([[1], [], [1], [3], [], [1], [1]]) ([[], [], [], [], [], [1], []]) rfl (by kernel_rfl) ?_
 refine qvM [4, 7, 9] [1] (hL trivial) 1 37 [(27, rf 1 0 3 x4), (0, A a0), (4, .ptr 0 0 0), (5, rf 1 0 3 x4), (8, I (w64 ((x4.length : Int) - v10))), (9, .ptr 3 1 0), (10, A a1), (11, I (a1.length : Int)), (12, I x3)] [some ⟨0, Enc.cells (T_impl_Value.mk 0 0 (ByteArray.mk #[]))⟩, sl 0 x4, sc 0 v8, sc 1 v14] ?_
 refine qvM [4, 7, 9] [] trivial 1 37 [(28, I (w64 ((x4.length : Int) - v10))), (27, rf 1 0 3 x4), (0, A a0), (4, .ptr 0 0 0), (5, rf 1 0 3 x4), (9, .ptr 3 1 0), (10, A a1), (11, I (a1.length : Int)), (12, I x3)] [some ⟨0, Enc.cells (T_impl_Value.mk 0 0 (ByteArray.mk #[]))⟩, sl 0 x4, sc 0 v8, sc 1 v14] ?_
 obtain ⟨v16, hv17, h⟩ := bindS h
 refine qX (some 29) (rf 1 0 3 v16) 37 [(29, rf 1 0 3 v16), (0, A a0), (4, .ptr 0 0 0), (5, rf 1 0 3 x4), (9, .ptr 3 1 0), (10, A a1), (11, I (a1.length : Int)), (12, I x3)] [some ⟨0, Enc.cells (T_impl_Value.mk 0 0 (ByteArray.mk #[]))⟩, sl 0 x4, sc 0 v8, sc 1 v14] (fun Γ' hΓ => CoreE.of_y (slrV_sound (n := x4.length) τ_ok (by kernel_rfl) rfl hv17)) (hL trivial) ?_
 refine qvM [4, 7, 9] [3] (hB trivial) 1 37 [(30, E v14), (29, rf 1 0 3 v16), (0, A a0), (4, .ptr 0 0 0), (5, rf 1 0 3 x4), (10, A a1), (11, I (a1.length : Int)), (12, I x3)] [some ⟨0, Enc.cells (T_impl_Value.mk 0 0 (ByteArray.mk #[]))⟩, sl 0 x4, sc 0 v8, sc 1 v14] ?_
 refine qvM [4, 7, 9] [] trivial 1 37 [(31, .arr 3 ([v14] : List T_impl_Value).length (eL ([v14] : List T_impl_Value)) true), (29, rf 1 0 3 v16), (0, A a0), (4, .ptr 0 0 0), (5, rf 1 0 3 x4), (10, A a1), (11, I (a1.length : Int)), (12, I x3)] [some ⟨0, Enc.cells (T_impl_Value.mk 0 0 (ByteArray.mk #[]))⟩, sl 0 x4, sc 0 v8, sc 1 v14] ?_
 obtain ⟨v18, hv19, h⟩ := bindS h
 refine qX (some 32) (rf 1 1 3 v18) 37 [(32, rf 1 1 3 v18), (0, A a0), (4, .ptr 0 0 0), (5, rf 1 0 3 x4), (10, A a1), (11, I (a1.length : Int)), (12, I x3)] [some ⟨0, Enc.cells (T_impl_Value.mk 0 0 (ByteArray.mk #[]))⟩, sl 1 v18, sc 0 v8, sc 1 v14] (fun Γ' hΓ => app_E τ_ok 32 1 0 v16.length (ny hΓ hX) hv19 (slI_le hv17) (by kernel_rfl)) (hL trivial) ?_
 refine qvnM [4, 7, 9] [1] (hL trivial) 1 37 [(0, A a0), (4, .ptr 0 0 0), (5, rf 1 1 3 v18), (10, A a1), (11, I (a1.length : Int)), (12, I x3)] [some ⟨0, Enc.cells (T_impl_Value.mk 0 0 (ByteArray.mk #[]))⟩, sl 1 v18, sc 0 v8, sc 1 v14] ?_
 refine rveM [4, 7, 9] 37 [(0, A a0), (4, .ptr 0 0 0), (5, rf 1 1 3 v18), (10, A a1), (11, I (a1.length : Int)), (12, I (w64 (x3 + 1)))] [some ⟨0, Enc.cells (T_impl_Value.mk 0 0 (ByteArray.mk #[]))⟩, sl 1 v18, sc 0 v8, sc 1 v14] ?_
 exact ⟨(f5, (w64 (x3 + 1)), v18), h, Nat.lt_succ_self _, qt (it (st' := ⟨37, [(0, A a0), (4, .ptr 0 0 0), (5, rf 1 1 3 v18), (10, A a1), (11, I (a1.length : Int)), (12, I (w64 (x3 + 1)))], [some ⟨0, Enc.cells (T_impl_Value.mk 0 0 (ByteArray.mk #[]))⟩, sl 1 v18, sc 0 v8, sc 1 v14]⟩) [0, 4, 5, 10, 11, 12]) (qt (Imp.truncS (st' := ⟨37, [(0, A a0), (4, .ptr 0 0 0), (5, rf 1 1 3 v18), (10, A a1), (11, I (a1.length : Int)), (12, I (w64 (x3 + 1)))], [some ⟨0, Enc.cells (T_impl_Value.mk 0 0 (ByteArray.mk #[]))⟩, sl 1 v18]⟩) 2 (nx hX) (by kernel_rfl) (allBelow_mem (by exact (And.intro rfl (And.intro rfl (And.intro rfl (And.intro rfl (And.intro rfl (And.intro rfl trivial)))))))) (by exact (And.intro (rfl) (And.intro (frz_below (eL_frz _)) trivial))) (by kernel_rfl)) (Imp.reverS 1 1 (eL v18) [0, 4, 5, 10, 11, 12] (by kernel_rfl) (by exact (And.intro (rfl) (And.intro (eL_frz _) trivial))) (by kernel_rfl)))⟩
 refine pwp_exit ?_
 refine srvM [4, 7, 9] 1 37 [(4, .ptr 0 0 0), (34, rf 1 0 3 x4)] [some ⟨0, Enc.cells (T_impl_Value.mk 0 0 (ByteArray.mk #[]))⟩, sl 0 x4] ?_
 obtain ⟨v20, hv21, h⟩ := bindS h
 refine opsP_idr τ_ok 35 1 0 x4.length hv21 rfl (by kernel_rfl) ?_
 refine opsP_lde (r := E v20) τ_ok 36 34 0 hv21 (by kernel_rfl) (by kernel_rfl) ?_
 refine veM [4, 7, 9] 1 37 [(4, .ptr 0 0 0)] [sc 0 v20, sl 0 x4] ?_
 cases h
 exact pwp_ret rz
def impl_ExprValue_j0 (a1 : List T_impl_Value) (a2 : List T_impl_Part) (x1 : Bool) : Option T_impl_Value := bif x1 then some (T_impl_Value.mk 0 0 (ByteArray.mk #[])) else (impl_exprValue a1 a2).bind fun v3 => some v3
def impl_ExprValue (a0 : List T_impl_Column) (a1 : List T_impl_Value) (a2 : List T_impl_Part) : Option T_impl_Value := (impl_ExprKind a0 a2).bind fun v5 => bif (decide (v5 < 0)) then impl_ExprValue_j0 a1 a2 true else (impl_RowFits a0 a1).bind fun v7 => impl_ExprValue_j0 a1 a2 (!v7)
end Go.D
