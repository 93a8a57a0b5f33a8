import Derived.Test.YtgddjdemlelffaatlaDPrimD
import Derived.Test.YtgddjdemlelffaatlaDXT
import Derived.KernelRfl
set_option linter.unusedVariables false
set_option linter.unusedSimpArgs false
namespace Go.D
open Go.Proofs
def impl_between (a0 : Int) (a1 : Int) (a2 : Int) : Option Bool := bif (decide (a0 ≥ a1)) then some (decide (a0 ≤ a2)) else some false
theorem ok_impl_between {a0 : Int} {a1 : Int} {a2 : Int} {y : Bool} (h : impl_between a0 a1 a2 = some y) : OK Try.prog 54 [I a0, I a1, I a2] (B y) := by
 refine ow Try.func54 fun Γ hX => ?_
 unfold impl_between at h
 refine srve 15 [(0, I a0), (1, I a1), (2, I a2)] [] ?_
 refine srv 4 15 [(0, I a0), (2, I a2), (10, B (decide (a0 ≥ a1)))] [] ?_
 rcases fk (decide (a0 ≥ a1)) with hc1 | hc1
 replace h := bT hc1 h
 rw [hc1]
 refine ve 5 15 [(6, B (decide (a0 ≤ a2)))] [] ?_
 cases h
 exact pwp_ret rz
 replace h := bF hc1 h
 rw [hc1]
 refine ve 5 15 [(6, B false)] [] ?_
 cases h
 exact pwp_ret rz
def spec_l3Own (a0 : List T_impl_Value) : Option (List T_impl_Value) := (app ([] : List T_impl_Value) a0).bind fun v1 => some v1
theorem ok_spec_l3Own {a0 : List T_impl_Value} {y : List T_impl_Value} (h : spec_l3Own a0 = some y) : OK Try.prog 61 [A a0] (O y) := by
 refine ow Try.func61 fun Γ hX => ?_
 unfold spec_l3Own at h
 refine srve 6 [(0, A a0)] [] ?_
 refine srv 2 6 [(3, .arr 3 0 (eL ([] : List T_impl_Value)) true), (4, A a0)] [] ?_
 refine opsP_thaw 3 3 (by kernel_rfl) ?_
 obtain ⟨v1, hv2, h⟩ := bindS h
 refine opsP_app τ_ok 5 0 0 (nx hX) hv2 (by kernel_rfl) ?_
 refine ve 1 6 [(2, rf 0 1 3 v1)] [sl 1 v1] ?_
 have h := si h
 subst h
 exact pwp_ret (rt (rf 0 1 3 v1) (OutP.list (v := 1) (by kernel_rfl)))
def spec_l1In (a0 : Int) (a1 : Int) (a2 : Int) : Option Bool := bif (decide (a0 ≥ a1)) then some (decide (a0 ≤ a2)) else some false
theorem ok_spec_l1In {a0 : Int} {a1 : Int} {a2 : Int} {y : Bool} (h : spec_l1In a0 a1 a2 = some y) : OK Try.prog 62 [I a0, I a1, I a2] (B y) := by
 refine ow Try.func62 fun Γ hX => ?_
 unfold spec_l1In at h
 refine srve 15 [(0, I a0), (1, I a1), (2, I a2)] [] ?_
 refine srv 4 15 [(0, I a0), (2, I a2), (10, B (decide (a0 ≥ a1)))] [] ?_
 rcases fk (decide (a0 ≥ a1)) with hc1 | hc1
 replace h := bT hc1 h
 rw [hc1]
 refine ve 5 15 [(6, B (decide (a0 ≤ a2)))] [] ?_
 cases h
 exact pwp_ret rz
 replace h := bF hc1 h
 rw [hc1]
 refine ve 5 15 [(6, B false)] [] ?_
 cases h
 exact pwp_ret rz
def spec_l32Copy_l0 (a0 : List T_impl_Tally) : Nat → Int → (List T_impl_Tally) → Option (List T_impl_Tally)
 | 0, _, _ => none
 | f4 + 1, x2, x3 => bif (decide (x2 < (a0.length : Int))) then (getI a0 x2).bind fun v7 => (spec_l3Own v7.fKey).bind fun v9 => (app x3 ([{ v7 with fKey := v9 }] : List T_impl_Tally)).bind fun v11 => (spec_l32Copy_l0 a0 f4) (w64 (x2 + 1)) v11 else some x3
def spec_l32Copy (a0 : List T_impl_Tally) : Option (List T_impl_Tally) := spec_l32Copy_l0 a0 FUEL 0 ([] : List T_impl_Tally)
theorem ok_spec_l32Copy {a0 : List T_impl_Tally} {y : List T_impl_Tally} (h : spec_l32Copy a0 = some y) : OK Try.prog 78 [A a0] (O y) := by
 refine ow Try.func78 fun Γ hX => ?_
 unfold spec_l32Copy at h
 refine srveM [5] 26 [(0, A a0)] [] ?_
 refine srveM [5] 26 [(0, A a0), (3, .arr 4 0 (eL ([] : List T_impl_Tally)) true)] [] ?_
 refine pwp_seq ?_
 refine srveM [5] 26 [(0, A a0), (3, .arr 4 0 (eL ([] : List T_impl_Tally)) true), (4, I 0)] [] ?_
 refine pwp_block ?_
 refine pwp_loop (ι := Nat × Int × (List T_impl_Tally)) (fun (f4, x2, x3) => (⟨26, [(0, A a0), (3, rf 0 0 4 x3), (4, I x2)], [sl 0 x3]⟩ : St)) (fun (f4, x2, x3) => spec_l32Copy_l0 a0 f4 x2 x3 = some y) Prod.fst (FUEL, 0, ([] : List T_impl_Tally)) h (Imp.thawS 3 [0, 3, 4] (by kernel_rfl)) ?_
 rintro ⟨f4, x2, x3⟩ h
 dsimp only at h ⊢
 rcases f4 with _ | f4
 cases h
 rw [spec_l32Copy_l0] at h
 refine pwp_seq ?_
 refine srveM [5] 26 [(0, A a0), (3, rf 0 0 4 x3), (4, I x2), (10, B (decide (x2 < (a0.length : Int))))] [sl 0 x3] ?_
 refine pc h (fun h => ?_) (fun h => ?_)
 refine pwp_skip ?_
 refine pwp_seq ?_
 refine pwp_block ?_
 refine srvM [5] 2 26 [(0, A a0), (3, rf 0 0 4 x3), (4, I x2), (13, A a0), (14, I x2)] [sl 0 x3] ?_
 obtain ⟨v7, hv8, h⟩ := bindS h
 refine opsP_idx τ_ok 15 hv8 (by kernel_rfl) ?_
 refine veM [5] 3 26 [(0, A a0), (3, rf 0 0 4 x3), (4, I x2), (5, .ptr 1 0 0)] [sl 0 x3, sc 0 v7] ?_
 refine srvM [5] 2 26 [(0, A a0), (3, rf 0 0 4 x3), (4, I x2), (5, .ptr 1 0 0), (18, A v7.fKey)] [sl 0 x3, sc 0 v7] ?_
 obtain ⟨v9, hv10, h⟩ := bindS h
 refine cFo 19 (ok_spec_l3Own hv10) ?_
 refine veM [5] 2 26 [(0, A a0), (3, rf 0 0 4 x3), (4, I x2), (5, .ptr 1 0 0)] [sl 0 x3, some ⟨0, Enc.cells ({ v7 with fKey := v9 })⟩] ?_
 refine rvM [5] 3 26 [(0, A a0), (4, I x2), (21, rf 0 0 4 x3), (23, .arr 4 ([{ v7 with fKey := v9 }] : List T_impl_Tally).length (eL ([{ v7 with fKey := v9 }] : List T_impl_Tally)) true)] [sl 0 x3, some ⟨0, Enc.cells ({ v7 with fKey := v9 })⟩] ?_
 obtain ⟨v11, hv12, h⟩ := bindS h
 refine opsP_app τ_ok 24 0 0 (nx hX) hv12 (by kernel_rfl) ?_
 refine veM [5] 1 26 [(0, A a0), (3, rf 0 1 4 v11), (4, I x2)] [sl 1 v11, some ⟨0, Enc.cells ({ v7 with fKey := v9 })⟩] ?_
 refine rveM [5] 26 [(0, A a0), (3, rf 0 1 4 v11), (4, I (w64 (x2 + 1)))] [sl 1 v11, some ⟨0, Enc.cells ({ v7 with fKey := v9 })⟩] ?_
 exact ⟨(f4, (w64 (x2 + 1)), v11), h, Nat.lt_succ_self _, qt (it (st' := ⟨26, [(0, A a0), (3, rf 0 1 4 v11), (4, I (w64 (x2 + 1)))], [sl 1 v11, some ⟨0, Enc.cells ({ v7 with fKey := v9 })⟩]⟩) [0, 3, 4]) (qt (Imp.truncS (st' := ⟨26, [(0, A a0), (3, rf 0 1 4 v11), (4, I (w64 (x2 + 1)))], [sl 1 v11]⟩) 1 (nx hX) (by kernel_rfl) (allBelow_mem (by exact (And.intro rfl (And.intro rfl (And.intro rfl trivial))))) (by exact (And.intro (frz_below (eL_frz _)) trivial)) (by kernel_rfl)) (Imp.reverS 0 1 (eL v11) [0, 3, 4] (by kernel_rfl) (by exact (And.intro (eL_frz _) trivial)) (by kernel_rfl)))⟩
 refine pwp_exit ?_
 refine srveM [5] 26 [(2, rf 0 0 4 x3)] [sl 0 x3] ?_
 have h := si h
 subst h
 exact pwp_ret (rt (rf 0 0 4 x3) (OutP.list (v := 0) (by kernel_rfl)))
def slices_BinarySearchFunc_impl_Tally_impl_Tally_impl_Value_s2_l0 (a0 : List T_impl_Tally) (a1 : List T_impl_Value) (a2 : T_impl_Tally → (List T_impl_Value) → Option Int) : Nat → Int → Int → Option (Int × Bool)
 | 0, _, _ => none
 | f3 + 1, x1, x2 => bif (decide (x1 < x2)) then (getI a0 (w64 (shrU (u64 (w64 (x1 + x2))) 1))).bind fun v6 => (a2 v6 a1).bind fun v8 => bif (decide (v8 < 0)) then (slices_BinarySearchFunc_impl_Tally_impl_Tally_impl_Value_s2_l0 a0 a1 a2 f3) (w64 ((w64 (shrU (u64 (w64 (x1 + x2))) 1)) + 1)) x2 else (slices_BinarySearchFunc_impl_Tally_impl_Tally_impl_Value_s2_l0 a0 a1 a2 f3) x1 (w64 (shrU (u64 (w64 (x1 + x2))) 1)) else bif (decide (x1 < (a0.length : Int))) then (getI a0 x1).bind fun v11 => (a2 v11 a1).bind fun v13 => some (x1, (v13 == 0)) else some (x1, false)
def slices_BinarySearchFunc_impl_Tally_impl_Tally_impl_Value_s2 (a0 : List T_impl_Tally) (a1 : List T_impl_Value) (a2 : T_impl_Tally → (List T_impl_Value) → Option Int) : Option (Int × Bool) := slices_BinarySearchFunc_impl_Tally_impl_Tally_impl_Value_s2_l0 a0 a1 a2 FUEL 0 (a0.length : Int)
theorem ok_slices_BinarySearchFunc_impl_Tally_impl_Tally_impl_Value_s2 {a0 : List T_impl_Tally} {a1 : List T_impl_Value} {g2 : FuncId} {c2 : List V} (hz2 : frzL c2 = true) {a2 : T_impl_Tally → (List T_impl_Value) → Option Int} (hp2 : ∀ x0 x1 y, a2 x0 x1 = some y → OK Try.prog g2 ([E x0, A x1] ++ c2) (I y)) {y : Int × Bool} (h : slices_BinarySearchFunc_impl_Tally_impl_Tally_impl_Value_s2 a0 a1 a2 = some y) : OK Try.prog 122 [A a0, A a1, .fn g2 c2] (.tup [I y.1, B y.2]) := by
 refine ow Try.func122 fun Γ hX => ?_
 unfold slices_BinarySearchFunc_impl_Tally_impl_Tally_impl_Value_s2 at h
 refine srve 49 [(0, A a0), (1, A a1), (2, .fn g2 c2)] [] ?_
 refine srve 49 [(0, A a0), (1, A a1), (2, .fn g2 c2), (8, I (a0.length : Int))] [] ?_
 refine srve 49 [(0, A a0), (1, A a1), (2, .fn g2 c2), (8, I (a0.length : Int)), (9, I 0), (10, I (a0.length : Int))] [] ?_
 refine pwp_seq ?_
 refine pwp_block ?_
 refine pwp_loop (ι := Nat × Int × Int) (fun (f3, x1, x2) => (⟨49, [(0, A a0), (1, A a1), (2, .fn g2 c2), (8, I (a0.length : Int)), (9, I x1), (10, I x2)], []⟩ : St)) (fun (f3, x1, x2) => slices_BinarySearchFunc_impl_Tally_impl_Tally_impl_Value_s2_l0 a0 a1 a2 f3 x1 x2 = some y) Prod.fst (FUEL, 0, (a0.length : Int)) h (it [0, 1, 2, 8, 9, 10]) ?_
 rintro ⟨f3, x1, x2⟩ h
 dsimp only at h ⊢
 rcases f3 with _ | f3
 cases h
 rw [slices_BinarySearchFunc_impl_Tally_impl_Tally_impl_Value_s2_l0] at h
 refine pwp_seq ?_
 refine srve 49 [(0, A a0), (1, A a1), (2, .fn g2 c2), (8, I (a0.length : Int)), (9, I x1), (10, I x2), (17, B (decide (x1 < x2)))] [] ?_
 refine pc h (fun h => ?_) (fun h => ?_)
 refine pwp_skip ?_
 refine pwp_block ?_
 refine srve 49 [(0, A a0), (1, A a1), (2, .fn g2 c2), (8, I (a0.length : Int)), (9, I x1), (10, I x2), (11, I (w64 (shrU (u64 (w64 (x1 + x2))) 1)))] [] ?_
 refine srv 3 49 [(0, A a0), (1, A a1), (2, .fn g2 c2), (8, I (a0.length : Int)), (9, I x1), (10, I x2), (11, I (w64 (shrU (u64 (w64 (x1 + x2))) 1))), (24, .fn g2 c2), (25, A a0), (26, I (w64 (shrU (u64 (w64 (x1 + x2))) 1)))] [] ?_
 obtain ⟨v6, hv7, h⟩ := bindS h
 refine opsP_idx τ_ok 27 hv7 (by kernel_rfl) ?_
 refine v 2 49 [(0, A a0), (1, A a1), (2, .fn g2 c2), (8, I (a0.length : Int)), (9, I x1), (10, I x2), (11, I (w64 (shrU (u64 (w64 (x1 + x2))) 1))), (24, .fn g2 c2), (28, E v6), (29, A a1)] [] ?_
 obtain ⟨v8, hv9, h⟩ := bindS h
 refine opsP_callF τ 30 (hp2 _ _ _ hv9) (FzTo.frz rfl) (frz_app (xs := [E v6, A a1]) rfl hz2) (by kernel_rfl) ?_
 refine ve 1 49 [(0, A a0), (1, A a1), (2, .fn g2 c2), (8, I (a0.length : Int)), (9, I x1), (10, I x2), (11, I (w64 (shrU (u64 (w64 (x1 + x2))) 1))), (31, B (decide (v8 < 0)))] [] ?_
 refine pc h (fun h => ?_) (fun h => ?_)
 refine rve 49 [(0, A a0), (1, A a1), (2, .fn g2 c2), (8, I (a0.length : Int)), (9, I (w64 ((w64 (shrU (u64 (w64 (x1 + x2))) 1)) + 1))), (10, I x2)] [] ?_
 exact ⟨(f3, (w64 ((w64 (shrU (u64 (w64 (x1 + x2))) 1)) + 1)), x2), h, Nat.lt_succ_self _, it [0, 1, 2, 8, 9, 10]⟩
 refine rve 49 [(0, A a0), (1, A a1), (2, .fn g2 c2), (8, I (a0.length : Int)), (9, I x1), (10, I (w64 (shrU (u64 (w64 (x1 + x2))) 1)))] [] ?_
 exact ⟨(f3, x1, (w64 (shrU (u64 (w64 (x1 + x2))) 1))), h, Nat.lt_succ_self _, it [0, 1, 2, 8, 9, 10]⟩
 refine pwp_exit ?_
 refine srv 5 49 [(0, A a0), (1, A a1), (2, .fn g2 c2), (9, I x1), (35, I x1), (39, B (decide (x1 < (a0.length : Int))))] [] ?_
 rcases fk (decide (x1 < (a0.length : Int))) with hc15 | hc15
 replace h := bT hc15 h
 rw [hc15]
 refine v 3 49 [(1, A a1), (35, I x1), (39, B true), (40, .fn g2 c2), (41, A a0), (42, I x1)] [] ?_
 obtain ⟨v11, hv12, h⟩ := bindS h
 refine opsP_idx τ_ok 43 hv12 (by kernel_rfl) ?_
 refine v 2 49 [(35, I x1), (39, B true), (40, .fn g2 c2), (44, E v11), (45, A a1)] [] ?_
 obtain ⟨v13, hv14, h⟩ := bindS h
 refine opsP_callF τ 46 (hp2 _ _ _ hv14) (FzTo.frz rfl) (frz_app (xs := [E v11, A a1]) rfl hz2) (by kernel_rfl) ?_
 refine ve 4 49 [(6, I x1), (7, B (v13 == 0))] [] ?_
 have h := si h
 subst h
 exact pwp_ret (rt (.tup [I x1, B (v13 == 0)]) (OutP.tup (OutL.cons (OutP.frz (by kernel_rfl)) (OutL.cons (OutP.frz (by kernel_rfl)) (OutL.nil _)))))
 replace h := bF hc15 h
 rw [hc15]
 refine ve 11 49 [(6, I x1), (7, B false)] [] ?_
 have h := si h
 subst h
 exact pwp_ret (rt (.tup [I x1, B false]) (OutP.tup (OutL.cons (OutP.frz (by kernel_rfl)) (OutL.cons (OutP.frz (by kernel_rfl)) (OutL.nil _)))))
def laws_markText_l0 : Nat → Int → ByteArray → Option ByteArray
 | 0, _, _ => none
 | f4 + 1, x2, x3 => bif (decide (x2 > 0)) then (addS (ByteArray.mk (List.toArray ([(u8 (w64 (48 + (x2.tmod 10))))] : List UInt8))) x3).bind fun v7 => (laws_markText_l0 f4) (w64 (x2.tdiv 10)) v7 else (addS (ByteArray.mk #[109]) x3).bind fun v9 => some v9
def laws_markText (a0 : Int) : Option ByteArray := bif (decide (a0 ≤ 0)) then some (ByteArray.mk #[109, 48]) else laws_markText_l0 FUEL a0 (ByteArray.mk #[])
theorem ok_laws_markText {a0 : Int} {y : ByteArray} (h : laws_markText a0 = some y) : OK Try.prog 131 [I a0] (S y) := by
 refine ow Try.func131 fun Γ hX => ?_
 unfold laws_markText at h
 refine srve 20 [(0, I a0)] [] ?_
 refine pwp_seq ?_
 refine srve 20 [(0, I a0), (5, B (decide (a0 ≤ 0)))] [] ?_
 refine pc h (fun h => ?_) (fun h => ?_)
 refine srve 20 [(2, S (ByteArray.mk #[109, 48]))] [] ?_
 cases h
 exact pwp_ret rz
 refine pwp_skip ?_
 refine srve 20 [(0, I a0), (3, S (ByteArray.mk #[]))] [] ?_
 refine pwp_seq ?_
 refine pwp_block ?_
 refine pwp_loop (ι := Nat × Int × ByteArray) (fun (f4, x2, x3) => (⟨20, [(0, I x2), (3, S x3)], []⟩ : St)) (fun (f4, x2, x3) => laws_markText_l0 f4 x2 x3 = some y) Prod.fst (FUEL, a0, (ByteArray.mk #[])) h (it [0, 3]) ?_
 rintro ⟨f4, x2, x3⟩ h
 dsimp only at h ⊢
 rcases f4 with _ | f4
 cases h
 rw [laws_markText_l0] at h
 refine pwp_seq ?_
 refine srve 20 [(0, I x2), (3, S x3), (7, B (decide (x2 > 0)))] [] ?_
 refine pc h (fun h => ?_) (fun h => ?_)
 refine pwp_skip ?_
 refine pwp_block ?_
 refine srv 3 20 [(0, I x2), (3, S x3), (10, I (w64 (48 + (x2.tmod 10))))] [] ?_
 refine opsP_cv8 τ_ok 11 (w64 (48 + (x2.tmod 10))) (by kernel_rfl) ?_
 refine v 1 20 [(0, I x2), (3, S x3), (12, .arr 1 ([(u8 (w64 (48 + (x2.tmod 10))))] : List UInt8).length (eL ([(u8 (w64 (48 + (x2.tmod 10))))] : List UInt8)) true)] [] ?_
 refine opsP_cvs τ_ok 13 ([(u8 (w64 (48 + (x2.tmod 10))))] : List UInt8) (by kernel_rfl) ?_
 refine v 1 20 [(0, I x2), (13, S (ByteArray.mk (List.toArray ([(u8 (w64 (48 + (x2.tmod 10))))] : List UInt8)))), (14, S x3)] [] ?_
 obtain ⟨v7, hv8, h⟩ := bindS h
 refine opsP_ads τ_ok 15 hv8 (by kernel_rfl) ?_
 refine ve 1 20 [(0, I x2), (3, S v7)] [] ?_
 refine rve 20 [(0, I (w64 (x2.tdiv 10))), (3, S v7)] [] ?_
 exact ⟨(f4, (w64 (x2.tdiv 10)), v7), h, Nat.lt_succ_self _, it [0, 3]⟩
 refine pwp_exit ?_
 refine srv 1 20 [(18, S x3)] [] ?_
 obtain ⟨v9, hv10, h⟩ := bindS h
 refine opsP_ads τ_ok 19 hv10 (by kernel_rfl) ?_
 refine ve 1 20 [(2, S v9)] [] ?_
 cases h
 exact pwp_ret rz
def cmp_Or_int_l0 (a0 : List Int) : Nat → Int → Option Int
 | 0, _ => none
 | f2 + 1, x1 => bif (decide (x1 < (a0.length : Int))) then (getI a0 x1).bind fun v5 => bif (!(v5 == 0)) then some v5 else (cmp_Or_int_l0 a0 f2) (w64 (x1 + 1)) else some 0
def cmp_Or_int (a0 : List Int) : Option Int := cmp_Or_int_l0 a0 FUEL 0
theorem ok_cmp_Or_int {a0 : List Int} {y : Int} (h : cmp_Or_int a0 = some y) : OK Try.prog 150 [A a0] (I y) := by
 refine ow Try.func150 fun Γ hX => ?_
 unfold cmp_Or_int at h
 refine srve 18 [(0, A a0)] [] ?_
 refine srve 18 [(0, A a0), (3, I 0)] [] ?_
 refine pwp_seq ?_
 refine srve 18 [(3, I 0), (6, A a0), (7, I (a0.length : Int)), (8, I 0)] [] ?_
 refine pwp_block ?_
 refine pwp_loop (ι := Nat × Int) (fun (f2, x1) => (⟨18, [(3, I 0), (6, A a0), (7, I (a0.length : Int)), (8, I x1)], []⟩ : St)) (fun (f2, x1) => cmp_Or_int_l0 a0 f2 x1 = some y) Prod.fst (FUEL, 0) h (it [3, 6, 7, 8]) ?_
 rintro ⟨f2, x1⟩ h
 dsimp only at h ⊢
 rcases f2 with _ | f2
 cases h
 rw [cmp_Or_int_l0] at h
 refine srve 18 [(3, I 0), (6, A a0), (7, I (a0.length : Int)), (8, I x1), (9, B (decide (x1 < (a0.length : Int))))] [] ?_
 refine pwp_seq ?_
 refine pc h (fun h => ?_) (fun h => ?_)
 refine pwp_skip ?_
 refine pwp_seq ?_
 refine pwp_block ?_
 refine pwp_seq ?_
 refine pwp_region ?_
 obtain ⟨v5, hv6, h⟩ := bindS h
 refine opsP_idx τ_ok 10 hv6 (by kernel_rfl) ?_
 refine ve 2 18 [(3, I 0), (5, I v5), (6, A a0), (7, I (a0.length : Int)), (8, I x1)] [] ?_
 refine srve 18 [(3, I 0), (5, I v5), (6, A a0), (7, I (a0.length : Int)), (8, I x1), (14, B (!(v5 == 0)))] [] ?_
 refine pc h (fun h => ?_) (fun h => ?_)
 refine srve 18 [(2, I v5)] [] ?_
 cases h
 exact pwp_ret rz
 refine pwp_skip ?_
 refine rve 18 [(3, I 0), (6, A a0), (7, I (a0.length : Int)), (8, I (w64 (x1 + 1)))] [] ?_
 exact ⟨(f2, (w64 (x1 + 1))), h, Nat.lt_succ_self _, it [3, 6, 7, 8]⟩
 refine pwp_exit ?_
 refine srve 18 [(2, I 0)] [] ?_
 cases h
 exact pwp_ret rz
def slices_CompareFunc_impl_Value_impl_Value_impl_Value_impl_Value_s2_l0 (a0 : List T_impl_Value) (a1 : List T_impl_Value) (a2 : T_impl_Value → T_impl_Value → Option Int) : Nat → Int → Option Int
 | 0, _ => none
 | f2 + 1, x1 => bif (decide (x1 < (a0.length : Int))) then (getI a0 x1).bind fun v5 => bif (decide (x1 ≥ (a1.length : Int))) then some 1 else (getI a1 x1).bind fun v8 => (a2 v5 v8).bind fun v10 => bif (!(v10 == 0)) then some v10 else (slices_CompareFunc_impl_Value_impl_Value_impl_Value_impl_Value_s2_l0 a0 a1 a2 f2) (w64 (x1 + 1)) else bif (decide ((a0.length : Int) < (a1.length : Int))) then some (-1) else some 0
def slices_CompareFunc_impl_Value_impl_Value_impl_Value_impl_Value_s2 (a0 : List T_impl_Value) (a1 : List T_impl_Value) (a2 : T_impl_Value → T_impl_Value → Option Int) : Option Int := slices_CompareFunc_impl_Value_impl_Value_impl_Value_impl_Value_s2_l0 a0 a1 a2 FUEL 0
theorem ok_slices_CompareFunc_impl_Value_impl_Value_impl_Value_impl_Value_s2 {a0 : List T_impl_Value} {a1 : List T_impl_Value} {g2 : FuncId} {c2 : List V} (hz2 : frzL c2 = true) {a2 : T_impl_Value → T_impl_Value → Option Int} (hp2 : ∀ x0 x1 y, a2 x0 x1 = some y → OK Try.prog g2 ([E x0, E x1] ++ c2) (I y)) {y : Int} (h : slices_CompareFunc_impl_Value_impl_Value_impl_Value_impl_Value_s2 a0 a1 a2 = some y) : OK Try.prog 151 [A a0, A a1, .fn g2 c2] (I y) := by
 refine ow Try.func151 fun Γ hX => ?_
 unfold slices_CompareFunc_impl_Value_impl_Value_impl_Value_impl_Value_s2 at h
 refine srveM [8, 9] 39 [(0, A a0), (1, A a1), (2, .fn g2 c2)] [] ?_
 refine pwp_seq ?_
 refine srveM [8, 9] 39 [(0, A a0), (1, A a1), (2, .fn g2 c2), (11, A a0), (12, I (a0.length : Int)), (13, I 0)] [] ?_
 refine pwp_block ?_
 refine pwp_loop (ι := Nat × Int) (fun (f2, x1) => (⟨39, [(0, A a0), (1, A a1), (2, .fn g2 c2), (11, A a0), (12, I (a0.length : Int)), (13, I x1)], []⟩ : St)) (fun (f2, x1) => slices_CompareFunc_impl_Value_impl_Value_impl_Value_impl_Value_s2_l0 a0 a1 a2 f2 x1 = some y) Prod.fst (FUEL, 0) h (it [0, 1, 2, 11, 12, 13]) ?_
 rintro ⟨f2, x1⟩ h
 dsimp only at h ⊢
 rcases f2 with _ | f2
 cases h
 rw [slices_CompareFunc_impl_Value_impl_Value_impl_Value_impl_Value_s2_l0] at h
 refine srveM [8, 9] 39 [(0, A a0), (1, A a1), (2, .fn g2 c2), (11, A a0), (12, I (a0.length : Int)), (13, I x1), (14, B (decide (x1 < (a0.length : Int))))] [] ?_
 refine pwp_seq ?_
 refine pc h (fun h => ?_) (fun h => ?_)
 refine pwp_skip ?_
 refine pwp_seq ?_
 refine pwp_block ?_
 refine srvM [8, 9] 1 39 [(0, A a0), (1, A a1), (2, .fn g2 c2), (11, A a0), (12, I (a0.length : Int)), (13, I x1), (15, I x1)] [] ?_
 obtain ⟨v5, hv6, h⟩ := bindS h
 refine opsP_idx τ_ok 16 hv6 (by kernel_rfl) ?_
 refine veM [8, 9] 4 39 [(0, A a0), (1, A a1), (2, .fn g2 c2), (7, I x1), (8, .ptr 0 0 0), (11, A a0), (12, I (a0.length : Int)), (13, I x1)] [sc 0 v5] ?_
 refine pwp_seq ?_
 refine srveM [8, 9] 39 [(0, A a0), (1, A a1), (2, .fn g2 c2), (7, I x1), (8, .ptr 0 0 0), (11, A a0), (12, I (a0.length : Int)), (13, I x1), (21, B (decide (x1 ≥ (a1.length : Int))))] [sc 0 v5] ?_
 refine pc h (fun h => ?_) (fun h => ?_)
 refine srveM [8, 9] 39 [(6, I 1)] [sc 0 v5] ?_
 cases h
 exact pwp_ret rz
 refine pwp_skip ?_
 refine srvM [8, 9] 2 39 [(0, A a0), (1, A a1), (2, .fn g2 c2), (8, .ptr 0 0 0), (11, A a0), (12, I (a0.length : Int)), (13, I x1), (22, A a1), (23, I x1)] [sc 0 v5] ?_
 obtain ⟨v8, hv9, h⟩ := bindS h
 refine opsP_idx τ_ok 24 hv9 (by kernel_rfl) ?_
 refine veM [8, 9] 3 39 [(0, A a0), (1, A a1), (2, .fn g2 c2), (8, .ptr 0 0 0), (9, .ptr 1 0 0), (11, A a0), (12, I (a0.length : Int)), (13, I x1)] [sc 0 v5, sc 0 v8] ?_
 refine srvM [8, 9] 3 39 [(0, A a0), (1, A a1), (2, .fn g2 c2), (11, A a0), (12, I (a0.length : Int)), (13, I x1), (26, .fn g2 c2), (27, E v5), (28, E v8)] [sc 0 v5, sc 0 v8] ?_
 obtain ⟨v10, hv11, h⟩ := bindS h
 refine opsP_callF τ 29 (hp2 _ _ _ hv11) (FzTo.frz rfl) (frz_app (xs := [E v5, E v8]) rfl hz2) (by kernel_rfl) ?_
 refine veM [8, 9] 1 39 [(0, A a0), (1, A a1), (2, .fn g2 c2), (10, I v10), (11, A a0), (12, I (a0.length : Int)), (13, I x1)] [sc 0 v5, sc 0 v8] ?_
 refine srveM [8, 9] 39 [(0, A a0), (1, A a1), (2, .fn g2 c2), (10, I v10), (11, A a0), (12, I (a0.length : Int)), (13, I x1), (31, B (!(v10 == 0)))] [sc 0 v5, sc 0 v8] ?_
 refine pc h (fun h => ?_) (fun h => ?_)
 refine srveM [8, 9] 39 [(6, I v10)] [sc 0 v5, sc 0 v8] ?_
 cases h
 exact pwp_ret rz
 refine pwp_skip ?_
 refine rveM [8, 9] 39 [(0, A a0), (1, A a1), (2, .fn g2 c2), (11, A a0), (12, I (a0.length : Int)), (13, I (w64 (x1 + 1)))] [sc 0 v5, sc 0 v8] ?_
 exact ⟨(f2, (w64 (x1 + 1))), h, Nat.lt_succ_self _, (it (st' := ⟨39, [(0, A a0), (1, A a1), (2, .fn g2 c2), (11, A a0), (12, I (a0.length : Int)), (13, I (w64 (x1 + 1)))], [sc 0 v5, sc 0 v8]⟩) [0, 1, 2, 11, 12, 13]).trans (Imp.truncS 0 (nx hX) (by kernel_rfl) (allBelow_mem (by exact (And.intro rfl (And.intro rfl (And.intro (below_frz (show frz (.fn g2 c2) = true from hz2)) (And.intro rfl (And.intro rfl (And.intro rfl trivial)))))))) (by exact trivial) (by kernel_rfl))⟩
 refine pwp_exit ?_
 refine pwp_seq ?_
 refine srveM [8, 9] 39 [(38, B (decide ((a0.length : Int) < (a1.length : Int))))] [] ?_
 refine pc h (fun h => ?_) (fun h => ?_)
 refine srveM [8, 9] 39 [(6, I (-1))] [] ?_
 cases h
 exact pwp_ret rz
 refine pwp_skip ?_
 refine srveM [8, 9] 39 [(6, I 0)] [] ?_
 cases h
 exact pwp_ret rz
def spec_l1Text_j1 (x1 : Int) (K3 : Int → Option Bool) (x5 : Bool) : Option Bool := bif x5 then some false else K3 (w64 (x1 + 1))
def spec_l1Text_l0 (a0 : ByteArray) : Nat → Int → Option Bool
 | 0, _ => none
 | f2 + 1, x1 => bif (decide (x1 < (a0.size : Int))) then (getB a0 x1).bind fun v7 => bif (decide ((v7.toNat : Int) < 97)) then spec_l1Text_j1 x1 (spec_l1Text_l0 a0 f2) true else (getB a0 x1).bind fun v9 => spec_l1Text_j1 x1 (spec_l1Text_l0 a0 f2) (decide ((v9.toNat : Int) > 122)) else some (decide ((a0.size : Int) ≤ 6))
def spec_l1Text (a0 : ByteArray) : Option Bool := spec_l1Text_l0 a0 FUEL 0
theorem ok_spec_l1Text {a0 : ByteArray} {y : Bool} (h : spec_l1Text a0 = some y) : OK Try.prog 154 [S a0] (B y) := by
 refine ow Try.func154 fun Γ hX => ?_
 unfold spec_l1Text at h
 refine srve 23 [(0, S a0)] [] ?_
 refine pwp_seq ?_
 refine srve 23 [(0, S a0), (3, I 0)] [] ?_
 refine pwp_block ?_
 refine pwp_loop (ι := Nat × Int) (fun (f2, x1) => (⟨23, [(0, S a0), (3, I x1)], []⟩ : St)) (fun (f2, x1) => spec_l1Text_l0 a0 f2 x1 = some y) Prod.fst (FUEL, 0) h (it [0, 3]) ?_
 rintro ⟨f2, x1⟩ h
 dsimp only at h ⊢
 rcases f2 with _ | f2
 cases h
 rw [spec_l1Text_l0] at h
 refine pwp_seq ?_
 refine srve 23 [(0, S a0), (3, I x1), (7, B (decide (x1 < (a0.size : Int))))] [] ?_
 refine pc h (fun h => ?_) (fun h => ?_)
 refine pwp_skip ?_
 refine pwp_seq ?_
 refine pwp_block ?_
 refine pwp_seq ?_
 refine pwp_join (σ := Bool) (fun x5 => (⟨23, [(0, S a0), (3, I x1), (19, B x5)], []⟩ : St)) (fun x5 => spec_l1Text_j1 x1 (spec_l1Text_l0 a0 f2) x5 = some y) ?_ ?_
 refine rv 2 23 [(0, S a0), (3, I x1), (10, S a0), (11, I x1)] [] ?_
 obtain ⟨v7, hv8, h⟩ := bindS h
 refine opsP_byt τ_ok 12 hv8 (by kernel_rfl) ?_
 refine v 2 23 [(0, S a0), (3, I x1), (14, B (decide ((v7.toNat : Int) < 97)))] [] ?_
 rcases fk (decide ((v7.toNat : Int) < 97)) with hc11 | hc11
 replace h := bT hc11 h
 rw [hc11]
 refine ve 5 23 [(0, S a0), (3, I x1), (15, .lit undef), (16, .lit undef), (17, .lit undef), (18, .lit undef), (19, B true)] [] ?_
 exact ⟨true, h, it [0, 3, 19]⟩
 replace h := bF hc11 h
 rw [hc11]
 refine v 2 23 [(0, S a0), (3, I x1), (14, B false), (15, S a0), (16, I x1)] [] ?_
 obtain ⟨v9, hv10, h⟩ := bindS h
 refine opsP_byt τ_ok 17 hv10 (by kernel_rfl) ?_
 refine ve 2 23 [(0, S a0), (3, I x1), (15, S a0), (16, I x1), (17, .lit (.int .u8 (v9).toNat)), (18, B (decide ((v9.toNat : Int) > 122))), (19, B (decide ((v9.toNat : Int) > 122)))] [] ?_
 exact ⟨(decide ((v9.toNat : Int) > 122)), h, it [0, 3, 19]⟩
 rintro x5 h
 unfold spec_l1Text_j1 at h
 refine pc h (fun h => ?_) (fun h => ?_)
 refine srve 23 [(2, B false)] [] ?_
 cases h
 exact pwp_ret rz
 refine pwp_skip ?_
 refine rve 23 [(0, S a0), (3, I (w64 (x1 + 1)))] [] ?_
 exact ⟨(f2, (w64 (x1 + 1))), h, Nat.lt_succ_self _, it [0, 3]⟩
 refine pwp_exit ?_
 refine srve 23 [(2, B (decide ((a0.size : Int) ≤ 6)))] [] ?_
 cases h
 exact pwp_ret rz
def slices_IndexFunc_impl_Value_impl_Value_l0 (a0 : List T_impl_Value) (a1 : T_impl_Value → Option Bool) : Nat → Int → Option Int
 | 0, _ => none
 | f2 + 1, x1 => bif (decide (x1 < (a0.length : Int))) then (getI a0 x1).bind fun v5 => (a1 v5).bind fun v7 => bif v7 then some x1 else (slices_IndexFunc_impl_Value_impl_Value_l0 a0 a1 f2) (w64 (x1 + 1)) else some (-1)
def slices_IndexFunc_impl_Value_impl_Value (a0 : List T_impl_Value) (a1 : T_impl_Value → Option Bool) : Option Int := slices_IndexFunc_impl_Value_impl_Value_l0 a0 a1 FUEL 0
theorem ok_slices_IndexFunc_impl_Value_impl_Value {a0 : List T_impl_Value} {g1 : FuncId} {c1 : List V} (hz1 : frzL c1 = true) {a1 : T_impl_Value → Option Bool} (hp1 : ∀ x0 y, a1 x0 = some y → OK Try.prog g1 ([E x0] ++ c1) (B y)) {y : Int} (h : slices_IndexFunc_impl_Value_impl_Value a0 a1 = some y) : OK Try.prog 155 [A a0, .fn g1 c1] (I y) := by
 refine ow Try.func155 fun Γ hX => ?_
 unfold slices_IndexFunc_impl_Value_impl_Value at h
 refine srve 19 [(0, A a0), (1, .fn g1 c1)] [] ?_
 refine pwp_seq ?_
 refine srve 19 [(0, A a0), (1, .fn g1 c1), (7, I (a0.length : Int)), (8, I 0)] [] ?_
 refine pwp_block ?_
 refine pwp_loop (ι := Nat × Int) (fun (f2, x1) => (⟨19, [(0, A a0), (1, .fn g1 c1), (7, I (a0.length : Int)), (8, I x1)], []⟩ : St)) (fun (f2, x1) => slices_IndexFunc_impl_Value_impl_Value_l0 a0 a1 f2 x1 = some y) Prod.fst (FUEL, 0) h (it [0, 1, 7, 8]) ?_
 rintro ⟨f2, x1⟩ h
 dsimp only at h ⊢
 rcases f2 with _ | f2
 cases h
 rw [slices_IndexFunc_impl_Value_impl_Value_l0] at h
 refine srve 19 [(0, A a0), (1, .fn g1 c1), (7, I (a0.length : Int)), (8, I x1), (9, B (decide (x1 < (a0.length : Int))))] [] ?_
 refine pwp_seq ?_
 refine pc h (fun h => ?_) (fun h => ?_)
 refine pwp_skip ?_
 refine pwp_seq ?_
 refine pwp_block ?_
 refine srve 19 [(0, A a0), (1, .fn g1 c1), (5, I x1), (7, I (a0.length : Int)), (8, I x1)] [] ?_
 refine srv 3 19 [(0, A a0), (1, .fn g1 c1), (5, I x1), (7, I (a0.length : Int)), (8, I x1), (11, .fn g1 c1), (12, A a0), (13, I x1)] [] ?_
 obtain ⟨v5, hv6, h⟩ := bindS h
 refine opsP_idx τ_ok 14 hv6 (by kernel_rfl) ?_
 refine v 1 19 [(0, A a0), (1, .fn g1 c1), (5, I x1), (7, I (a0.length : Int)), (8, I x1), (11, .fn g1 c1), (15, E v5)] [] ?_
 obtain ⟨v7, hv8, h⟩ := bindS h
 refine opsP_callF τ 16 (hp1 _ _ hv8) (FzTo.frz rfl) (frz_app (xs := [E v5]) rfl hz1) (by kernel_rfl) ?_
 refine ve 0 19 [(0, A a0), (1, .fn g1 c1), (5, I x1), (7, I (a0.length : Int)), (8, I x1), (16, B v7)] [] ?_
 refine pc h (fun h => ?_) (fun h => ?_)
 refine srve 19 [(4, I x1)] [] ?_
 cases h
 exact pwp_ret rz
 refine pwp_skip ?_
 refine rve 19 [(0, A a0), (1, .fn g1 c1), (7, I (a0.length : Int)), (8, I (w64 (x1 + 1)))] [] ?_
 exact ⟨(f2, (w64 (x1 + 1))), h, Nat.lt_succ_self _, it [0, 1, 7, 8]⟩
 refine pwp_exit ?_
 refine srve 19 [(4, I (-1))] [] ?_
 cases h
 exact pwp_ret rz
def impl_letters_l0 (v1 : List UInt8) : Nat → Int → Option Bool
 | 0, _ => none
 | f4 + 1, x3 => bif (decide (x3 < (v1.length : Int))) then (getI v1 x3).bind fun v7 => (impl_between (w64 (v7.toNat : Int)) 97 122).bind fun v9 => bif (!v9) then some false else (impl_letters_l0 v1 f4) (w64 (x3 + 1)) else some true
def impl_letters (a0 : ByteArray) : Option Bool := (bytesOf a0).bind fun v1 => impl_letters_l0 v1 FUEL 0
theorem ok_impl_letters {a0 : ByteArray} {y : Bool} (h : impl_letters a0 = some y) : OK Try.prog 156 [S a0] (B y) := by
 refine ow Try.func156 fun Γ hX => ?_
 unfold impl_letters at h
 refine srve 17 [(0, S a0)] [] ?_
 refine pwp_seq ?_
 refine srv 1 17 [(5, S a0)] [] ?_
 obtain ⟨v1, hv2, h⟩ := bindS h
 refine opsP_cvb τ_ok 6 hv2 (by kernel_rfl) ?_
 refine ve 2 17 [(6, A v1), (7, I (v1.length : Int)), (8, I 0)] [] ?_
 refine pwp_block ?_
 refine pwp_loop (ι := Nat × Int) (fun (f4, x3) => (⟨17, [(6, A v1), (7, I (v1.length : Int)), (8, I x3)], []⟩ : St)) (fun (f4, x3) => impl_letters_l0 v1 f4 x3 = some y) Prod.fst (FUEL, 0) h (it [6, 7, 8]) ?_
 rintro ⟨f4, x3⟩ h
 dsimp only at h ⊢
 rcases f4 with _ | f4
 cases h
 rw [impl_letters_l0] at h
 refine srve 17 [(6, A v1), (7, I (v1.length : Int)), (8, I x3), (9, B (decide (x3 < (v1.length : Int))))] [] ?_
 refine pwp_seq ?_
 refine pc h (fun h => ?_) (fun h => ?_)
 refine pwp_skip ?_
 refine pwp_seq ?_
 refine pwp_block ?_
 refine pwp_seq ?_
 refine pwp_region ?_
 obtain ⟨v7, hv8, h⟩ := bindS h
 refine opsP_idx τ_ok 10 hv8 (by kernel_rfl) ?_
 refine ve 2 17 [(4, .lit (.int .u8 (v7).toNat)), (6, A v1), (7, I (v1.length : Int)), (8, I x3)] [] ?_
 refine srv 2 17 [(6, A v1), (7, I (v1.length : Int)), (8, I x3), (13, I (w64 (v7.toNat : Int)))] [] ?_
 obtain ⟨v9, hv10, h⟩ := bindS h
 refine cF 14 (ok_impl_between hv10) ?_
 refine ve 1 17 [(6, A v1), (7, I (v1.length : Int)), (8, I x3), (15, B (!v9))] [] ?_
 refine pc h (fun h => ?_) (fun h => ?_)
 refine srve 17 [(2, B false)] [] ?_
 cases h
 exact pwp_ret rz
 refine pwp_skip ?_
 refine rve 17 [(6, A v1), (7, I (v1.length : Int)), (8, I (w64 (x3 + 1)))] [] ?_
 exact ⟨(f4, (w64 (x3 + 1))), h, Nat.lt_succ_self _, it [6, 7, 8]⟩
 refine pwp_exit ?_
 refine srve 17 [(2, B true)] [] ?_
 cases h
 exact pwp_ret rz
def slices_Clip_impl_Value_impl_Value (a0 : List T_impl_Value) : Option (List T_impl_Value) := (slI a0 none (some (a0.length : Int)) (some (a0.length : Int))).bind fun v1 => some v1
theorem ok_slices_Clip_impl_Value_impl_Value {a0 : List T_impl_Value} {y : List T_impl_Value} (h : slices_Clip_impl_Value_impl_Value a0 = some y) : OK Try.prog 158 [A a0] (A y) := by
 refine ow Try.func158 fun Γ hX => ?_
 unfold slices_Clip_impl_Value_impl_Value at h
 refine srve 9 [(0, A a0)] [] ?_
 refine srv 5 9 [(3, A a0), (5, I (a0.length : Int)), (7, I (a0.length : Int))] [] ?_
 obtain ⟨v1, hv2, h⟩ := bindS h
 refine opsP_slc τ_ok 8 hv2 (by kernel_rfl) ?_
 refine ve 1 9 [(2, A v1)] [] ?_
 cases h
 exact pwp_ret rz
def spec_l1Less (a0 : Int) (a1 : Int) : Option Int := bif (decide (a0 < a1)) then some 1 else some 0
theorem ok_spec_l1Less {a0 : Int} {a1 : Int} {y : Int} (h : spec_l1Less a0 a1 = some y) : OK Try.prog 160 [I a0, I a1] (I y) := by
 refine ow Try.func160 fun Γ hX => ?_
 unfold spec_l1Less at h
 refine srve 8 [(0, I a0), (1, I a1)] [] ?_
 refine pwp_seq ?_
 refine srve 8 [(7, B (decide (a0 < a1)))] [] ?_
 refine pc h (fun h => ?_) (fun h => ?_)
 refine srve 8 [(4, I 1)] [] ?_
 cases h
 exact pwp_ret rz
 refine pwp_skip ?_
 refine srve 8 [(4, I 0)] [] ?_
 cases h
 exact pwp_ret rz
def laws_szValue (a0 : T_laws_Value) (a1 : Int) : Option Int := bif (decide ((w64 (a1 - (a0.fS.size : Int))) < 0)) then some (-1) else some (w64 (a1 - (a0.fS.size : Int)))
theorem ok_laws_szValue {a0 : T_laws_Value} {a1 : Int} {y : Int} (h : laws_szValue a0 a1 = some y) : OK Try.prog 163 [E a0, I a1] (I y) := by
 refine ow Try.func163 fun Γ hX => ?_
 unfold laws_szValue at h
 refine srve 13 [(1, I a1), (2, pf a0 0)] [] ?_
 refine srve 13 [(1, I (w64 (a1 - (a0.fS.size : Int))))] [] ?_
 refine pwp_seq ?_
 refine srve 13 [(1, I (w64 (a1 - (a0.fS.size : Int)))), (11, B (decide ((w64 (a1 - (a0.fS.size : Int))) < 0)))] [] ?_
 refine pc h (fun h => ?_) (fun h => ?_)
 refine srve 13 [(4, I (-1))] [] ?_
 cases h
 exact pwp_ret rz
 refine pwp_skip ?_
 refine srve 13 [(4, I (w64 (a1 - (a0.fS.size : Int))))] [] ?_
 cases h
 exact pwp_ret rz
def laws_toValue (a0 : T_laws_Value) : Option T_impl_Value := some (T_impl_Value.mk a0.fKind a0.fN a0.fS)
theorem ok_laws_toValue {a0 : T_laws_Value} {y : T_impl_Value} (h : laws_toValue a0 = some y) : OK Try.prog 164 [E a0] (E y) := by
 refine ow Try.func164 fun Γ hX => ?_
 unfold laws_toValue at h
 refine srveM [2, 3] 14 [(1, pf a0 0), (2, .ptr 0 0 0)] [some ⟨0, Enc.cells (T_impl_Value.mk 0 0 (ByteArray.mk #[]))⟩] ?_
 refine srveM [2, 3] 14 [(1, pf a0 0), (2, .ptr 0 0 0), (3, .ptr 1 0 0)] [some ⟨0, Enc.cells (T_impl_Value.mk 0 0 (ByteArray.mk #[]))⟩, some ⟨0, Enc.cells (T_impl_Value.mk 0 0 (ByteArray.mk #[]))⟩] ?_
 refine srveM [2, 3] 14 [(1, pf a0 0), (2, .ptr 0 0 0), (3, .ptr 1 0 0)] [some ⟨0, Enc.cells (T_impl_Value.mk 0 0 (ByteArray.mk #[]))⟩, some ⟨0, Enc.cells (T_impl_Value.mk a0.fKind 0 (ByteArray.mk #[]))⟩] ?_
 refine srveM [2, 3] 14 [(1, pf a0 0), (2, .ptr 0 0 0), (3, .ptr 1 0 0)] [some ⟨0, Enc.cells (T_impl_Value.mk 0 0 (ByteArray.mk #[]))⟩, some ⟨0, Enc.cells (T_impl_Value.mk a0.fKind a0.fN (ByteArray.mk #[]))⟩] ?_
 refine srveM [2, 3] 14 [(2, .ptr 0 0 0), (3, .ptr 1 0 0)] [some ⟨0, Enc.cells (T_impl_Value.mk 0 0 (ByteArray.mk #[]))⟩, some ⟨0, Enc.cells (T_impl_Value.mk a0.fKind a0.fN a0.fS)⟩] ?_
 refine srveM [2, 3] 14 [(2, .ptr 0 0 0)] [some ⟨0, Enc.cells (T_impl_Value.mk a0.fKind a0.fN a0.fS)⟩, some ⟨0, Enc.cells (T_impl_Value.mk a0.fKind a0.fN a0.fS)⟩] ?_
 cases h
 exact pwp_ret rz
def laws_eqValue (a0 : T_impl_Value) (a1 : T_impl_Value) : Option Bool := bif (!(a0.fKind == a1.fKind)) then some false else bif (!(a0.fN == a1.fN)) then some false else bif (!(a0.fS.toList == a1.fS.toList)) then some false else some true
theorem ok_laws_eqValue {a0 : T_impl_Value} {a1 : T_impl_Value} {y : Bool} (h : laws_eqValue a0 a1 = some y) : OK Try.prog 165 [E a0, E a1] (B y) := by
 refine ow Try.func165 fun Γ hX => ?_
 unfold laws_eqValue at h
 refine srve 20 [(2, pf a0 0), (3, pf a1 0)] [] ?_
 refine pwp_seq ?_
 refine srve 20 [(2, pf a0 0), (3, pf a1 0), (9, B (!(a0.fKind == a1.fKind)))] [] ?_
 refine pc h (fun h => ?_) (fun h => ?_)
 refine srve 20 [(4, B false)] [] ?_
 cases h
 exact pwp_ret rz
 refine pwp_skip ?_
 refine pwp_seq ?_
 refine srve 20 [(2, pf a0 0), (3, pf a1 0), (14, B (!(a0.fN == a1.fN)))] [] ?_
 refine pc h (fun h => ?_) (fun h => ?_)
 refine srve 20 [(4, B false)] [] ?_
 cases h
 exact pwp_ret rz
 refine pwp_skip ?_
 refine pwp_seq ?_
 refine srve 20 [(19, B (!(a0.fS.toList == a1.fS.toList)))] [] ?_
 refine pc h (fun h => ?_) (fun h => ?_)
 refine srve 20 [(4, B false)] [] ?_
 cases h
 exact pwp_ret rz
 refine pwp_skip ?_
 refine srve 20 [(4, B true)] [] ?_
 cases h
 exact pwp_ret rz
def cmp_isNaN_int (a0 : Int) : Option Bool := some (!(a0 == a0))
theorem ok_cmp_isNaN_int {a0 : Int} {y : Bool} (h : cmp_isNaN_int a0 = some y) : OK Try.prog 190 [I a0] (B y) := by
 refine ow Try.func190 fun Γ hX => ?_
 unfold cmp_isNaN_int at h
 refine srve 6 [(0, I a0)] [] ?_
 refine srve 6 [(2, B (!(a0 == a0)))] [] ?_
 cases h
 exact pwp_ret rz
def spec_l1Cmp (a0 : ByteArray) (a1 : ByteArray) : Option Int := bif (Op.bytesLess a0.toList a1.toList) then some (-1) else bif (!Op.bytesLess a0.toList a1.toList && !(a0.toList == a1.toList)) then some 1 else some 0
theorem ok_spec_l1Cmp {a0 : ByteArray} {a1 : ByteArray} {y : Int} (h : spec_l1Cmp a0 a1 = some y) : OK Try.prog 192 [S a0, S a1] (I y) := by
 refine ow Try.func192 fun Γ hX => ?_
 unfold spec_l1Cmp at h
 refine srve 11 [(0, S a0), (1, S a1)] [] ?_
 refine pwp_seq ?_
 refine srve 11 [(0, S a0), (1, S a1), (7, B (Op.bytesLess a0.toList a1.toList))] [] ?_
 refine pc h (fun h => ?_) (fun h => ?_)
 refine srve 11 [(4, I (-1))] [] ?_
 cases h
 exact pwp_ret rz
 refine pwp_skip ?_
 refine pwp_seq ?_
 refine srve 11 [(10, B (!Op.bytesLess a0.toList a1.toList && !(a0.toList == a1.toList)))] [] ?_
 refine pc h (fun h => ?_) (fun h => ?_)
 refine srve 11 [(4, I 1)] [] ?_
 cases h
 exact pwp_ret rz
 refine pwp_skip ?_
 refine srve 11 [(4, I 0)] [] ?_
 cases h
 exact pwp_ret rz
def cmp_isNaN_string (a0 : ByteArray) : Option Bool := some (!(a0.toList == a0.toList))
theorem ok_cmp_isNaN_string {a0 : ByteArray} {y : Bool} (h : cmp_isNaN_string a0 = some y) : OK Try.prog 200 [S a0] (B y) := by
 refine ow Try.func200 fun Γ hX => ?_
 unfold cmp_isNaN_string at h
 refine srve 6 [(0, S a0)] [] ?_
 refine srve 6 [(2, B (!(a0.toList == a0.toList)))] [] ?_
 cases h
 exact pwp_ret rz
def laws_markValueS_l0 : Nat → Int → Int → (List T_impl_Value) → Option (Int × List T_impl_Value)
 | 0, _, _, _ => none
 | f5 + 1, x2, x3, x4 => bif (decide (x3 < (x4.length : Int))) then (getI x4 x3).bind fun v8 => (getI (x4.set x3.toNat ({ v8 with fKind := x2 } : T_impl_Value)) x3).bind fun v10 => (laws_markText (w64 ((w64 (x2 + 1)) + 1))).bind fun v12 => (getI ((x4.set x3.toNat ({ v8 with fKind := x2 } : T_impl_Value)).set x3.toNat ({ v10 with fN := (w64 (x2 + 1)) } : T_impl_Value)) x3).bind fun v14 => (laws_markValueS_l0 f5) (w64 ((w64 ((w64 (x2 + 1)) + 1)) + 1)) (w64 (x3 + 1)) (((x4.set x3.toNat ({ v8 with fKind := x2 } : T_impl_Value)).set x3.toNat ({ v10 with fN := (w64 (x2 + 1)) } : T_impl_Value)).set x3.toNat ({ v14 with fS := v12 } : T_impl_Value)) else some (x2, x4)
def laws_markValueS (a0 : List T_impl_Value) (a1 : Int) : Option (Int × List T_impl_Value) := laws_markValueS_l0 FUEL a1 0 a0
theorem len_laws_markValueS_l0 : ∀ (f5 : Nat) (x2 : Int) (x3 : Int) (x4 : List T_impl_Value) (y : Int × List T_impl_Value), laws_markValueS_l0 f5 x2 x3 x4 = some y → y.2.length = x4.length
 | 0, _, _, _, _, h => by cases h
 | f5 + 1, x2, x3, x4, y, h => by
  rw [laws_markValueS_l0] at h
  rcases condS h with h | h
  ·obtain ⟨_, _, h⟩ := bindS h
   obtain ⟨_, _, h⟩ := bindS h
   obtain ⟨_, _, h⟩ := bindS h
   obtain ⟨_, _, h⟩ := bindS h
   have h2 := len_laws_markValueS_l0 f5 _ _ _ _ h
   simp only [List.length_set] at h2
   exact h2
  ·cases h; rfl
theorem len_laws_markValueS {a0 : List T_impl_Value} {a1 : Int} {y : Int × List T_impl_Value} (h : laws_markValueS a0 a1 = some y) : y.2.length = a0.length := by
 unfold laws_markValueS at h
 exact len_laws_markValueS_l0 _ _ _ _ _ h
theorem ok_laws_markValueS {a0 : List T_impl_Value} {a1 : Int} {y : Int × List T_impl_Value} (h : laws_markValueS a0 a1 = some y) : OKd Try.prog 83 3 a0.length (eL a0) [I a1] (.int .i64 y.1) (eL y.2) := by
 refine OKd_of_pwp τ_ok Try.func83 rfl (by kernel_rfl) rfl (O_oc _) (O_oc _) (BlindL.lits (eL_lit DFlat.lit _)) (BlindL.lits (eL_lit DFlat.lit _)) rfl (fun hl => by rw [eL_len, len_laws_markValueS h, ← eL_len]; exact hl) fun Γ hQ => ?_
 refine pwp_imp (Imp.to (st' := ⟨35, [(0, rf 0 0 3 a0), (1, I a1)], [sl 0 a0]⟩) [0, 1] (by kernel_rfl)) ?_
 unfold laws_markValueS at h
 refine srve 35 [(0, rf 0 0 3 a0), (1, I a1)] [sl 0 a0] ?_
 refine pwp_seq ?_
 refine srve 35 [(0, rf 0 0 3 a0), (1, I a1), (5, I 0)] [sl 0 a0] ?_
 refine pwp_block ?_
 refine pwp_loop (ι := Nat × Int × Int × (List T_impl_Value)) (fun (f5, x2, x3, x4) => (⟨35, [(0, rf 0 0 3 x4), (1, I x2), (5, I x3)], [sl 0 x4]⟩ : St)) (fun (f5, x2, x3, x4) => laws_markValueS_l0 f5 x2 x3 x4 = some y) Prod.fst (FUEL, a1, 0, a0) h (it [0, 1, 5]) ?_
 rintro ⟨f5, x2, x3, x4⟩ h
 dsimp only at h ⊢
 rcases f5 with _ | f5
 cases h
 rw [laws_markValueS_l0] at h
 refine pwp_seq ?_
 refine srve 35 [(0, rf 0 0 3 x4), (1, I x2), (5, I x3), (9, B (decide (x3 < (x4.length : Int))))] [sl 0 x4] ?_
 refine pc h (fun h => ?_) (fun h => ?_)
 refine pwp_skip ?_
 refine pwp_seq ?_
 refine pwp_block ?_
 refine srv 3 35 [(0, rf 0 0 3 x4), (1, I x2), (5, I x3), (12, rf 0 0 3 x4), (13, I x3), (14, I x2)] [sl 0 x4] ?_
 obtain ⟨v8, hv9, h⟩ := bindS h
 refine opsP_idr τ_ok 15 0 0 x4.length hv9 rfl (by kernel_rfl) ?_
 refine v 1 35 [(0, rf 0 0 3 x4), (1, I x2), (5, I x3), (14, I x2), (16, .ptr 0 0 (x3.toNat * 3))] [sl 0 x4] ?_
 refine opsP_ste (vs := [I x2]) τ_ok 3 0 0 0 ({ v8 with fKind := x2 } : T_impl_Value) hv9 (by kernel_rfl) (by kernel_rfl) (by kernel_rfl) (renC (ren_ref (List.length_set ..).symm) (renC trivial (renC trivial (renC trivial (renC trivial renC0))))) ?_
 refine ve 0 35 [(0, .ref 0 0 0 3 (x4.set x3.toNat ({ v8 with fKind := x2 } : T_impl_Value)).length false), (1, I x2), (5, I x3)] [some ⟨0, eL (x4.set x3.toNat ({ v8 with fKind := x2 } : T_impl_Value))⟩] ?_
 refine srve 35 [(0, .ref 0 0 0 3 (x4.set x3.toNat ({ v8 with fKind := x2 } : T_impl_Value)).length false), (1, I (w64 (x2 + 1))), (5, I x3)] [some ⟨0, eL (x4.set x3.toNat ({ v8 with fKind := x2 } : T_impl_Value))⟩] ?_
 refine srv 3 35 [(0, .ref 0 0 0 3 (x4.set x3.toNat ({ v8 with fKind := x2 } : T_impl_Value)).length false), (1, I (w64 (x2 + 1))), (5, I x3), (19, .ref 0 0 0 3 (x4.set x3.toNat ({ v8 with fKind := x2 } : T_impl_Value)).length false), (20, I x3), (21, I (w64 (x2 + 1)))] [some ⟨0, eL (x4.set x3.toNat ({ v8 with fKind := x2 } : T_impl_Value))⟩] ?_
 obtain ⟨v10, hv11, h⟩ := bindS h
 refine opsP_idr τ_ok 22 0 0 (x4.set x3.toNat ({ v8 with fKind := x2 } : T_impl_Value)).length hv11 rfl (by kernel_rfl) ?_
 refine v 1 35 [(0, .ref 0 0 0 3 (x4.set x3.toNat ({ v8 with fKind := x2 } : T_impl_Value)).length false), (1, I (w64 (x2 + 1))), (5, I x3), (21, I (w64 (x2 + 1))), (23, .ptr 0 0 (x3.toNat * 3 + 1))] [some ⟨0, eL (x4.set x3.toNat ({ v8 with fKind := x2 } : T_impl_Value))⟩] ?_
 refine opsP_ste (vs := [I (w64 (x2 + 1))]) τ_ok 3 0 0 1 ({ v10 with fN := (w64 (x2 + 1)) } : T_impl_Value) hv11 (by kernel_rfl) (by kernel_rfl) (by kernel_rfl) (renC (ren_ref (List.length_set ..).symm) (renC trivial (renC trivial (renC trivial (renC trivial renC0))))) ?_
 refine ve 0 35 [(0, .ref 0 0 0 3 ((x4.set x3.toNat ({ v8 with fKind := x2 } : T_impl_Value)).set x3.toNat ({ v10 with fN := (w64 (x2 + 1)) } : T_impl_Value)).length false), (1, I (w64 (x2 + 1))), (5, I x3)] [some ⟨0, eL ((x4.set x3.toNat ({ v8 with fKind := x2 } : T_impl_Value)).set x3.toNat ({ v10 with fN := (w64 (x2 + 1)) } : T_impl_Value))⟩] ?_
 refine srve 35 [(0, .ref 0 0 0 3 ((x4.set x3.toNat ({ v8 with fKind := x2 } : T_impl_Value)).set x3.toNat ({ v10 with fN := (w64 (x2 + 1)) } : T_impl_Value)).length false), (1, I (w64 ((w64 (x2 + 1)) + 1))), (5, I x3)] [some ⟨0, eL ((x4.set x3.toNat ({ v8 with fKind := x2 } : T_impl_Value)).set x3.toNat ({ v10 with fN := (w64 (x2 + 1)) } : T_impl_Value))⟩] ?_
 refine srv 3 35 [(0, .ref 0 0 0 3 ((x4.set x3.toNat ({ v8 with fKind := x2 } : T_impl_Value)).set x3.toNat ({ v10 with fN := (w64 (x2 + 1)) } : T_impl_Value)).length false), (1, I (w64 ((w64 (x2 + 1)) + 1))), (5, I x3), (26, .ref 0 0 0 3 ((x4.set x3.toNat ({ v8 with fKind := x2 } : T_impl_Value)).set x3.toNat ({ v10 with fN := (w64 (x2 + 1)) } : T_impl_Value)).length false), (27, I x3), (28, I (w64 ((w64 (x2 + 1)) + 1)))] [some ⟨0, eL ((x4.set x3.toNat ({ v8 with fKind := x2 } : T_impl_Value)).set x3.toNat ({ v10 with fN := (w64 (x2 + 1)) } : T_impl_Value))⟩] ?_
 obtain ⟨v12, hv13, h⟩ := bindS h
 refine cF 29 (ok_laws_markText hv13) ?_
 obtain ⟨v14, hv15, h⟩ := bindS h
 refine opsP_idr τ_ok 30 0 0 ((x4.set x3.toNat ({ v8 with fKind := x2 } : T_impl_Value)).set x3.toNat ({ v10 with fN := (w64 (x2 + 1)) } : T_impl_Value)).length hv15 rfl (by kernel_rfl) ?_
 refine v 1 35 [(0, .ref 0 0 0 3 ((x4.set x3.toNat ({ v8 with fKind := x2 } : T_impl_Value)).set x3.toNat ({ v10 with fN := (w64 (x2 + 1)) } : T_impl_Value)).length false), (1, I (w64 ((w64 (x2 + 1)) + 1))), (5, I x3), (29, S v12), (31, .ptr 0 0 (x3.toNat * 3 + 2))] [some ⟨0, eL ((x4.set x3.toNat ({ v8 with fKind := x2 } : T_impl_Value)).set x3.toNat ({ v10 with fN := (w64 (x2 + 1)) } : T_impl_Value))⟩] ?_
 refine opsP_ste (vs := [S v12]) τ_ok 9 0 0 2 ({ v14 with fS := v12 } : T_impl_Value) hv15 (by kernel_rfl) (by kernel_rfl) (by kernel_rfl) (renC (ren_ref (List.length_set ..).symm) (renC trivial (renC trivial (renC trivial (renC trivial renC0))))) ?_
 refine ve 0 35 [(0, .ref 0 0 0 3 (((x4.set x3.toNat ({ v8 with fKind := x2 } : T_impl_Value)).set x3.toNat ({ v10 with fN := (w64 (x2 + 1)) } : T_impl_Value)).set x3.toNat ({ v14 with fS := v12 } : T_impl_Value)).length false), (1, I (w64 ((w64 (x2 + 1)) + 1))), (5, I x3)] [some ⟨0, eL (((x4.set x3.toNat ({ v8 with fKind := x2 } : T_impl_Value)).set x3.toNat ({ v10 with fN := (w64 (x2 + 1)) } : T_impl_Value)).set x3.toNat ({ v14 with fS := v12 } : T_impl_Value))⟩] ?_
 refine rve 35 [(0, .ref 0 0 0 3 (((x4.set x3.toNat ({ v8 with fKind := x2 } : T_impl_Value)).set x3.toNat ({ v10 with fN := (w64 (x2 + 1)) } : T_impl_Value)).set x3.toNat ({ v14 with fS := v12 } : T_impl_Value)).length false), (1, I (w64 ((w64 ((w64 (x2 + 1)) + 1)) + 1))), (5, I x3)] [some ⟨0, eL (((x4.set x3.toNat ({ v8 with fKind := x2 } : T_impl_Value)).set x3.toNat ({ v10 with fN := (w64 (x2 + 1)) } : T_impl_Value)).set x3.toNat ({ v14 with fS := v12 } : T_impl_Value))⟩] ?_
 refine rve 35 [(0, .ref 0 0 0 3 (((x4.set x3.toNat ({ v8 with fKind := x2 } : T_impl_Value)).set x3.toNat ({ v10 with fN := (w64 (x2 + 1)) } : T_impl_Value)).set x3.toNat ({ v14 with fS := v12 } : T_impl_Value)).length false), (1, I (w64 ((w64 ((w64 (x2 + 1)) + 1)) + 1))), (5, I (w64 (x3 + 1)))] [some ⟨0, eL (((x4.set x3.toNat ({ v8 with fKind := x2 } : T_impl_Value)).set x3.toNat ({ v10 with fN := (w64 (x2 + 1)) } : T_impl_Value)).set x3.toNat ({ v14 with fS := v12 } : T_impl_Value))⟩] ?_
 exact ⟨(f5, (w64 ((w64 ((w64 (x2 + 1)) + 1)) + 1)), (w64 (x3 + 1)), (((x4.set x3.toNat ({ v8 with fKind := x2 } : T_impl_Value)).set x3.toNat ({ v10 with fN := (w64 (x2 + 1)) } : T_impl_Value)).set x3.toNat ({ v14 with fS := v12 } : T_impl_Value))), h, Nat.lt_succ_self _, it [0, 1, 5]⟩
 refine pwp_exit ?_
 refine srve 35 [(4, I x2)] [sl 0 x4] ?_
 have h := si h
 subst h
 exact pwp_ret ⟨.inr rfl, 0, by kernel_rfl, by kernel_rfl⟩
def laws_heldValueS_l0 (a0 : List T_impl_Value) : Nat → Int → Int → Option Int
 | 0, _, _ => none
 | f3 + 1, x1, x2 => bif (decide (x2 < (a0.length : Int))) then (getI a0 x2).bind fun v6 => bif (!(v6.fKind == x1)) then some (-1) else (getI a0 x2).bind fun v9 => bif (!(v9.fN == (w64 (x1 + 1)))) then some (-1) else (getI a0 x2).bind fun v12 => (laws_markText (w64 ((w64 (x1 + 1)) + 1))).bind fun v14 => bif (!(v12.fS.toList == v14.toList)) then some (-1) else (laws_heldValueS_l0 a0 f3) (w64 ((w64 ((w64 (x1 + 1)) + 1)) + 1)) (w64 (x2 + 1)) else some x1
def laws_heldValueS (a0 : List T_impl_Value) (a1 : Int) : Option Int := laws_heldValueS_l0 a0 FUEL a1 0
theorem ok_laws_heldValueS {a0 : List T_impl_Value} {a1 : Int} {y : Int} (h : laws_heldValueS a0 a1 = some y) : OK Try.prog 84 [A a0, I a1] (I y) := by
 refine ow Try.func84 fun Γ hX => ?_
 unfold laws_heldValueS at h
 refine srve 41 [(0, A a0), (1, I a1)] [] ?_
 refine pwp_seq ?_
 refine srve 41 [(0, A a0), (1, I a1), (5, I 0)] [] ?_
 refine pwp_block ?_
 refine pwp_loop (ι := Nat × Int × Int) (fun (f3, x1, x2) => (⟨41, [(0, A a0), (1, I x1), (5, I x2)], []⟩ : St)) (fun (f3, x1, x2) => laws_heldValueS_l0 a0 f3 x1 x2 = some y) Prod.fst (FUEL, a1, 0) h (it [0, 1, 5]) ?_
 rintro ⟨f3, x1, x2⟩ h
 dsimp only at h ⊢
 rcases f3 with _ | f3
 cases h
 rw [laws_heldValueS_l0] at h
 refine pwp_seq ?_
 refine srve 41 [(0, A a0), (1, I x1), (5, I x2), (9, B (decide (x2 < (a0.length : Int))))] [] ?_
 refine pc h (fun h => ?_) (fun h => ?_)
 refine pwp_skip ?_
 refine pwp_seq ?_
 refine pwp_block ?_
 refine pwp_seq ?_
 refine srv 2 41 [(0, A a0), (1, I x1), (5, I x2), (12, A a0), (13, I x2)] [] ?_
 obtain ⟨v6, hv7, h⟩ := bindS h
 refine opsP_idx τ_ok 14 hv7 (by kernel_rfl) ?_
 refine ve 4 41 [(0, A a0), (1, I x1), (5, I x2), (18, B (!(v6.fKind == x1)))] [] ?_
 refine pc h (fun h => ?_) (fun h => ?_)
 refine srve 41 [(4, I (-1))] [] ?_
 cases h
 exact pwp_ret rz
 refine pwp_skip ?_
 refine srve 41 [(0, A a0), (1, I (w64 (x1 + 1))), (5, I x2)] [] ?_
 refine pwp_seq ?_
 refine srv 2 41 [(0, A a0), (1, I (w64 (x1 + 1))), (5, I x2), (21, A a0), (22, I x2)] [] ?_
 obtain ⟨v9, hv10, h⟩ := bindS h
 refine opsP_idx τ_ok 23 hv10 (by kernel_rfl) ?_
 refine ve 4 41 [(0, A a0), (1, I (w64 (x1 + 1))), (5, I x2), (27, B (!(v9.fN == (w64 (x1 + 1)))))] [] ?_
 refine pc h (fun h => ?_) (fun h => ?_)
 refine srve 41 [(4, I (-1))] [] ?_
 cases h
 exact pwp_ret rz
 refine pwp_skip ?_
 refine srve 41 [(0, A a0), (1, I (w64 ((w64 (x1 + 1)) + 1))), (5, I x2)] [] ?_
 refine pwp_seq ?_
 refine pwp_seq ?_
 refine ip 41 [(0, A a0), (1, I (w64 ((w64 (x1 + 1)) + 1))), (5, I x2)] [] ?_
 refine pN 8 ?_
 refine qv [] trivial 2 41 [(31, I x2), (30, A a0), (0, A a0), (1, I (w64 ((w64 (x1 + 1)) + 1))), (5, I x2)] [] ?_
 obtain ⟨v12, hv13, h⟩ := bindS h
 refine qX (some 32) (pf v12 0) 41 [(32, pf v12 0), (0, A a0), (1, I (w64 ((w64 (x1 + 1)) + 1))), (5, I x2)] [] (fun Γ' hΓ => CoreE.of_y (idxV_sound τ_ok (by kernel_rfl) hv13)) trivial ?_
 refine qv [] trivial 3 41 [(35, I (w64 ((w64 (x1 + 1)) + 1))), (34, S v12.fS), (0, A a0), (1, I (w64 ((w64 (x1 + 1)) + 1))), (5, I x2)] [] ?_
 obtain ⟨v14, hv15, h⟩ := bindS h
 refine qX (some 36) (S v14) 41 [(36, S v14), (34, S v12.fS), (0, A a0), (1, I (w64 ((w64 (x1 + 1)) + 1))), (5, I x2)] [] (fun Γ' hΓ => CoreE.of_g (callV_sound (τ := τ) (by kernel_rfl) rfl (ok_laws_markText hv15) (FzTo.frz rfl))) trivial ?_
 refine qvn [] trivial 1 41 [(0, A a0), (1, I (w64 ((w64 (x1 + 1)) + 1))), (5, I x2), (37, B (!(v12.fS.toList == v14.toList)))] [] ?_
 refine pc h (fun h => ?_) (fun h => ?_)
 refine srve 41 [(4, I (-1))] [] ?_
 cases h
 exact pwp_ret rz
 refine pwp_skip ?_
 refine rve 41 [(0, A a0), (1, I (w64 ((w64 ((w64 (x1 + 1)) + 1)) + 1))), (5, I x2)] [] ?_
 refine rve 41 [(0, A a0), (1, I (w64 ((w64 ((w64 (x1 + 1)) + 1)) + 1))), (5, I (w64 (x2 + 1)))] [] ?_
 exact ⟨(f3, (w64 ((w64 ((w64 (x1 + 1)) + 1)) + 1)), (w64 (x2 + 1))), h, Nat.lt_succ_self _, it [0, 1, 5]⟩
 refine pwp_exit ?_
 refine srve 41 [(4, I x1)] [] ?_
 cases h
 exact pwp_ret rz
def spec_ValueOk (a0 : T_impl_Value) : Option Bool := bif (a0.fKind == 0) then bif (a0.fN == 0) then some (a0.fS.toList == (ByteArray.mk #[]).toList) else some false else bif (a0.fKind == 1) then (spec_l1In a0.fN (-9999) 9999).bind fun v4 => bif v4 then some (a0.fS.toList == (ByteArray.mk #[]).toList) else some false else bif (a0.fKind == 2) then bif (a0.fN == 0) then (spec_l1Text a0.fS).bind fun v8 => some v8 else some false else bif (a0.fKind == 3) then (spec_l1In a0.fN 0 1).bind fun v12 => bif v12 then some (a0.fS.toList == (ByteArray.mk #[]).toList) else some false else some false
theorem ok_spec_ValueOk {a0 : T_impl_Value} {y : Bool} (h : spec_ValueOk a0 = some y) : OK Try.prog 106 [E a0] (B y) := by
 refine ow Try.func106 fun Γ hX => ?_
 unfold spec_ValueOk at h
 refine srve 45 [(1, pf a0 0)] [] ?_
 refine pwp_seq ?_
 refine srve 45 [(1, pf a0 0), (4, I a0.fKind)] [] ?_
 refine pwp_block ?_
 refine srve 45 [(1, pf a0 0), (4, I a0.fKind), (5, B (a0.fKind == 0))] [] ?_
 refine pc h (fun h => ?_) (fun h => ?_)
 refine srv 4 45 [(1, pf a0 0), (10, B (a0.fN == 0))] [] ?_
 rcases fk (a0.fN == 0) with hc2 | hc2
 replace h := bT hc2 h
 rw [hc2]
 refine ve 5 45 [(2, B (a0.fS.toList == (ByteArray.mk #[]).toList))] [] ?_
 cases h
 exact pwp_ret rz
 replace h := bF hc2 h
 rw [hc2]
 refine ve 5 45 [(2, B false)] [] ?_
 cases h
 exact pwp_ret rz
 refine srve 45 [(1, pf a0 0), (4, I a0.fKind), (15, B (a0.fKind == 1))] [] ?_
 refine pc h (fun h => ?_) (fun h => ?_)
 refine srv 2 45 [(1, pf a0 0), (18, I a0.fN)] [] ?_
 obtain ⟨v4, hv5, h⟩ := bindS h
 refine cF 19 (ok_spec_l1In hv5) ?_
 refine v 1 45 [(1, pf a0 0), (20, B v4)] [] ?_
 rcases Bool.eq_false_or_eq_true v4 with hc6 | hc6
 replace h := bT hc6 h
 rw [hc6]
 refine ve 5 45 [(2, B (a0.fS.toList == (ByteArray.mk #[]).toList))] [] ?_
 cases h
 exact pwp_ret rz
 replace h := bF hc6 h
 rw [hc6]
 refine ve 5 45 [(2, B false)] [] ?_
 cases h
 exact pwp_ret rz
 refine srve 45 [(1, pf a0 0), (4, I a0.fKind), (25, B (a0.fKind == 2))] [] ?_
 refine pc h (fun h => ?_) (fun h => ?_)
 refine srv 4 45 [(1, pf a0 0), (30, B (a0.fN == 0))] [] ?_
 rcases fk (a0.fN == 0) with hc10 | hc10
 replace h := bT hc10 h
 rw [hc10]
 refine v 2 45 [(30, B true), (32, S a0.fS)] [] ?_
 obtain ⟨v8, hv9, h⟩ := bindS h
 refine cF 33 (ok_spec_l1Text hv9) ?_
 refine ve 2 45 [(2, B v8)] [] ?_
 cases h
 exact pwp_ret rz
 replace h := bF hc10 h
 rw [hc10]
 refine ve 5 45 [(2, B false)] [] ?_
 cases h
 exact pwp_ret rz
 refine srve 45 [(1, pf a0 0), (35, B (a0.fKind == 3))] [] ?_
 refine pc h (fun h => ?_) (fun h => ?_)
 refine srv 2 45 [(1, pf a0 0), (38, I a0.fN)] [] ?_
 obtain ⟨v12, hv13, h⟩ := bindS h
 refine cF 39 (ok_spec_l1In hv13) ?_
 refine v 1 45 [(1, pf a0 0), (40, B v12)] [] ?_
 rcases Bool.eq_false_or_eq_true v12 with hc14 | hc14
 replace h := bT hc14 h
 rw [hc14]
 refine ve 5 45 [(2, B (a0.fS.toList == (ByteArray.mk #[]).toList))] [] ?_
 cases h
 exact pwp_ret rz
 replace h := bF hc14 h
 rw [hc14]
 refine ve 5 45 [(2, B false)] [] ?_
 cases h
 exact pwp_ret rz
 refine pwp_skip ?_
 refine srve 45 [(2, B false)] [] ?_
 cases h
 exact pwp_ret rz
def slices_ContainsFunc_impl_Value_impl_Value (a0 : List T_impl_Value) (a1 : T_impl_Value → Option Bool) : Option Bool := (slices_IndexFunc_impl_Value_impl_Value a0 a1).bind fun v1 => some (decide (v1 ≥ 0))
theorem ok_slices_ContainsFunc_impl_Value_impl_Value {a0 : List T_impl_Value} {g1 : FuncId} {c1 : List V} (hz1 : frzL c1 = true) {a1 : T_impl_Value → Option Bool} (hp1 : ∀ x0 y, a1 x0 = some y → OK Try.prog g1 ([E x0] ++ c1) (B y)) {y : Bool} (h : slices_ContainsFunc_impl_Value_impl_Value a0 a1 = some y) : OK Try.prog 109 [A a0, .fn g1 c1] (B y) := by
 refine ow Try.func109 fun Γ hX => ?_
 unfold slices_ContainsFunc_impl_Value_impl_Value at h
 refine srve 9 [(0, A a0), (1, .fn g1 c1)] [] ?_
 refine srv 2 9 [(5, A a0), (6, .fn g1 c1)] [] ?_
 obtain ⟨v1, hv2, h⟩ := bindS h
 refine opsP_callF τ 7 (ok_slices_IndexFunc_impl_Value_impl_Value (hz1) (hp1) hv2) (FzTo.frz rfl) (by simp only [frzL, frz, hz1, Bool.and_true]) (by kernel_rfl) ?_
 refine ve 2 9 [(4, B (decide (v1 ≥ 0)))] [] ?_
 cases h
 exact pwp_ret rz
def impl_Value_ok (a0 : T_impl_Value) : Option Bool := bif (a0.fKind == 0) then some (eq_T_impl_Value a0 (T_impl_Value.mk 0 0 (ByteArray.mk #[]))) else bif (a0.fKind == 1) then bif (a0.fS.toList == (ByteArray.mk #[]).toList) then (impl_between a0.fN (-9999) 9999).bind fun v3 => some v3 else some false else bif (a0.fKind == 2) then bif (a0.fN == 0) then bif (decide ((a0.fS.size : Int) ≤ 6)) then (impl_letters a0.fS).bind fun v7 => some v7 else some false else some false else bif (a0.fKind == 3) then bif (a0.fS.toList == (ByteArray.mk #[]).toList) then (impl_between a0.fN 0 1).bind fun v12 => some v12 else some false else some false
theorem ok_impl_Value_ok {a0 : T_impl_Value} {y : Bool} (h : impl_Value_ok a0 = some y) : OK Try.prog 111 [E a0] (B y) := by
 refine ow Try.func111 fun Γ hX => ?_
 unfold impl_Value_ok at h
 refine srve 46 [(1, pf a0 0)] [] ?_
 refine pwp_seq ?_
 refine srve 46 [(1, pf a0 0), (4, I a0.fKind)] [] ?_
 refine pwp_block ?_
 refine srve 46 [(1, pf a0 0), (4, I a0.fKind), (5, B (a0.fKind == 0))] [] ?_
 refine pc h (fun h => ?_) (fun h => ?_)
 refine srve 46 [(2, B (eq_T_impl_Value a0 (T_impl_Value.mk 0 0 (ByteArray.mk #[]))))] [] ?_
 cases h
 exact pwp_ret rz
 refine srve 46 [(1, pf a0 0), (4, I a0.fKind), (10, B (a0.fKind == 1))] [] ?_
 refine pc h (fun h => ?_) (fun h => ?_)
 refine srv 4 46 [(1, pf a0 0), (15, B (a0.fS.toList == (ByteArray.mk #[]).toList))] [] ?_
 rcases fk (a0.fS.toList == (ByteArray.mk #[]).toList) with hc5 | hc5
 replace h := bT hc5 h
 rw [hc5]
 refine v 2 46 [(15, B true), (17, I a0.fN)] [] ?_
 obtain ⟨v3, hv4, h⟩ := bindS h
 refine cF 18 (ok_impl_between hv4) ?_
 refine ve 2 46 [(2, B v3)] [] ?_
 cases h
 exact pwp_ret rz
 replace h := bF hc5 h
 rw [hc5]
 refine ve 5 46 [(2, B false)] [] ?_
 cases h
 exact pwp_ret rz
 refine srve 46 [(1, pf a0 0), (4, I a0.fKind), (20, B (a0.fKind == 2))] [] ?_
 refine pc h (fun h => ?_) (fun h => ?_)
 refine srv 4 46 [(1, pf a0 0), (25, B (a0.fN == 0))] [] ?_
 rcases fk (a0.fN == 0) with hc10 | hc10
 replace h := bT hc10 h
 rw [hc10]
 refine v 6 46 [(1, pf a0 0), (31, B (decide ((a0.fS.size : Int) ≤ 6)))] [] ?_
 rcases fk (decide ((a0.fS.size : Int) ≤ 6)) with hc9 | hc9
 replace h := bT hc9 h
 rw [hc9]
 refine v 2 46 [(31, B true), (33, S a0.fS)] [] ?_
 obtain ⟨v7, hv8, h⟩ := bindS h
 refine cF 34 (ok_impl_letters hv8) ?_
 refine ve 2 46 [(2, B v7)] [] ?_
 cases h
 exact pwp_ret rz
 replace h := bF hc9 h
 rw [hc9]
 refine ve 5 46 [(2, B false)] [] ?_
 cases h
 exact pwp_ret rz
 replace h := bF hc10 h
 rw [hc10]
 refine ve 11 46 [(2, B false)] [] ?_
 cases h
 exact pwp_ret rz
 refine srve 46 [(1, pf a0 0), (36, B (a0.fKind == 3))] [] ?_
 refine pc h (fun h => ?_) (fun h => ?_)
 refine srv 4 46 [(1, pf a0 0), (41, B (a0.fS.toList == (ByteArray.mk #[]).toList))] [] ?_
 rcases fk (a0.fS.toList == (ByteArray.mk #[]).toList) with hc14 | hc14
 replace h := bT hc14 h
 rw [hc14]
 refine v 2 46 [(41, B true), (43, I a0.fN)] [] ?_
 obtain ⟨v12, hv13, h⟩ := bindS h
 refine cF 44 (ok_impl_between hv13) ?_
 refine ve 2 46 [(2, B v12)] [] ?_
 cases h
 exact pwp_ret rz
 replace h := bF hc14 h
 rw [hc14]
 refine ve 5 46 [(2, B false)] [] ?_
 cases h
 exact pwp_ret rz
 refine pwp_skip ?_
 refine srve 46 [(2, B false)] [] ?_
 cases h
 exact pwp_ret rz
def impl_clone_impl_Value (a0 : List T_impl_Value) : Option (List T_impl_Value) := bif ((a0.length : Int) == 0) then some ([] : List T_impl_Value) else (app [] a0).bind fun v2 => (slices_Clip_impl_Value_impl_Value v2).bind fun v4 => some v4
theorem ok_impl_clone_impl_Value {a0 : List T_impl_Value} {y : List T_impl_Value} (h : impl_clone_impl_Value a0 = some y) : OK Try.prog 119 [A a0] (A y) := by
 refine ow Try.func119 fun Γ hX => ?_
 unfold impl_clone_impl_Value at h
 refine srve 9 [(0, A a0)] [] ?_
 refine pwp_seq ?_
 refine srve 9 [(0, A a0), (5, B ((a0.length : Int) == 0))] [] ?_
 refine pc h (fun h => ?_) (fun h => ?_)
 refine srve 9 [(2, .arr 3 0 (eL ([] : List T_impl_Value)) true)] [] ?_
 refine ip 9 [(2, .arr 3 0 (eL ([] : List T_impl_Value)) true)] [] ?_
 refine pwp_imp (Imp.unfS (st' := ⟨9, [(2, A ([] : List T_impl_Value))], []⟩) 2 [2] (by kernel_rfl)) ?_
 cases h
 exact pwp_ret rz
 refine pwp_skip ?_
 refine srv 1 9 [(6, A a0)] [] ?_
 obtain ⟨v2, hv3, h⟩ := bindS h
 refine opsP_apn τ_ok 7 0 (nx hX) hv3 (by kernel_rfl) ?_
 refine v 0 9 [(7, rf 0 1 3 v2)] [sl 1 v2] ?_
 refine opsP_imp (Imp.freezeB (v := 1) (cs := eL v2) (st' := ⟨9, [(7, A v2)], [none]⟩) 0 1 (nx hX) (by kernel_rfl) (eL_frz _) (wholeC (whole_is (eL_len v2).symm) wholeC0) (HpRel.key HpRel.nil) (by kernel_rfl) rfl (nx hX)) ?_
 obtain ⟨v4, hv5, h⟩ := bindS h
 refine cF 8 (ok_slices_Clip_impl_Value_impl_Value hv5) ?_
 refine ve 1 9 [(2, A v4)] [none] ?_
 cases h
 exact pwp_ret rz
def laws_szValueS_l0 (a0 : List T_laws_Value) : Nat → Int → Int → Option Int
 | 0, _, _ => none
 | f4 + 1, x2, x3 => bif (decide (x3 < (a0.length : Int))) then (getI a0 x3).bind fun v7 => (laws_szValue v7 x2).bind fun v9 => bif (decide (v9 < 0)) then some (-1) else (laws_szValueS_l0 a0 f4) v9 (w64 (x3 + 1)) else some x2
def laws_szValueS (a0 : List T_laws_Value) (a1 : Int) : Option Int := bif (decide ((w64 (a1 - (a0.length : Int))) < 0)) then some (-1) else laws_szValueS_l0 a0 FUEL (w64 (a1 - (a0.length : Int))) 0
theorem ok_laws_szValueS {a0 : List T_laws_Value} {a1 : Int} {y : Int} (h : laws_szValueS a0 a1 = some y) : OK Try.prog 128 [A a0, I a1] (I y) := by
 refine ow Try.func128 fun Γ hX => ?_
 unfold laws_szValueS at h
 refine srve 27 [(0, A a0), (1, I a1)] [] ?_
 refine srve 27 [(0, A a0), (1, I (w64 (a1 - (a0.length : Int))))] [] ?_
 refine pwp_seq ?_
 refine srve 27 [(0, A a0), (1, I (w64 (a1 - (a0.length : Int)))), (11, B (decide ((w64 (a1 - (a0.length : Int))) < 0)))] [] ?_
 refine pc h (fun h => ?_) (fun h => ?_)
 refine srve 27 [(4, I (-1))] [] ?_
 cases h
 exact pwp_ret rz
 refine pwp_skip ?_
 refine pwp_seq ?_
 refine srve 27 [(0, A a0), (1, I (w64 (a1 - (a0.length : Int)))), (5, I 0)] [] ?_
 refine pwp_block ?_
 refine pwp_loop (ι := Nat × Int × Int) (fun (f4, x2, x3) => (⟨27, [(0, A a0), (1, I x2), (5, I x3)], []⟩ : St)) (fun (f4, x2, x3) => laws_szValueS_l0 a0 f4 x2 x3 = some y) Prod.fst (FUEL, (w64 (a1 - (a0.length : Int))), 0) h (it [0, 1, 5]) ?_
 rintro ⟨f4, x2, x3⟩ h
 dsimp only at h ⊢
 rcases f4 with _ | f4
 cases h
 rw [laws_szValueS_l0] at h
 refine pwp_seq ?_
 refine srve 27 [(0, A a0), (1, I x2), (5, I x3), (15, B (decide (x3 < (a0.length : Int))))] [] ?_
 refine pc h (fun h => ?_) (fun h => ?_)
 refine pwp_skip ?_
 refine pwp_seq ?_
 refine pwp_block ?_
 refine srv 2 27 [(0, A a0), (1, I x2), (5, I x3), (18, A a0), (19, I x3)] [] ?_
 obtain ⟨v7, hv8, h⟩ := bindS h
 refine opsP_idx τ_ok 20 hv8 (by kernel_rfl) ?_
 refine v 2 27 [(0, A a0), (5, I x3), (21, E v7), (22, I x2)] [] ?_
 obtain ⟨v9, hv10, h⟩ := bindS h
 refine cF 23 (ok_laws_szValue hv10) ?_
 refine ve 1 27 [(0, A a0), (1, I v9), (5, I x3)] [] ?_
 refine srve 27 [(0, A a0), (1, I v9), (5, I x3), (25, B (decide (v9 < 0)))] [] ?_
 refine pc h (fun h => ?_) (fun h => ?_)
 refine srve 27 [(4, I (-1))] [] ?_
 cases h
 exact pwp_ret rz
 refine pwp_skip ?_
 refine rve 27 [(0, A a0), (1, I v9), (5, I (w64 (x3 + 1)))] [] ?_
 exact ⟨(f4, v9, (w64 (x3 + 1))), h, Nat.lt_succ_self _, it [0, 1, 5]⟩
 refine pwp_exit ?_
 refine srve 27 [(4, I x2)] [] ?_
 cases h
 exact pwp_ret rz
def laws_toValueS_l0 (a0 : List T_laws_Value) : Nat → Int → (List T_impl_Value) → Option (List T_impl_Value)
 | 0, _, _ => none
 | f6 + 1, x4, x5 => bif (decide (x4 < (a0.length : Int))) then (getI a0 x4).bind fun v9 => (laws_toValue v9).bind fun v11 => (getI x5 x4).bind fun v13 => (laws_toValueS_l0 a0 f6) (w64 (x4 + 1)) (x5.set x4.toNat v11) else some x5
def laws_toValueS (a0 : List T_laws_Value) : Option (List T_impl_Value) := (mkI (a0.length : Int) (T_impl_Value.mk 0 0 (ByteArray.mk #[]))).bind fun v1 => laws_toValueS_l0 a0 FUEL 0 v1
theorem ok_laws_toValueS {a0 : List T_laws_Value} {y : List T_impl_Value} (h : laws_toValueS a0 = some y) : OK Try.prog 129 [A a0] (O y) := by
 refine ow Try.func129 fun Γ hX => ?_
 unfold laws_toValueS at h
 refine srve 23 [(0, A a0)] [] ?_
 refine srv 2 23 [(0, A a0), (6, I (a0.length : Int))] [] ?_
 obtain ⟨v1, hv2, h⟩ := bindS h
 refine opsP_mk τ_ok 7 0 _ hv2 (by kernel_rfl) (by kernel_rfl) ?_
 refine ve 1 23 [(0, A a0), (3, rf 0 0 3 v1)] [sl 0 v1] ?_
 refine pwp_seq ?_
 refine srve 23 [(0, A a0), (3, rf 0 0 3 v1), (4, I 0)] [sl 0 v1] ?_
 refine pwp_block ?_
 refine pwp_loop (ι := Nat × Int × (List T_impl_Value)) (fun (f6, x4, x5) => (⟨23, [(0, A a0), (3, rf 0 0 3 x5), (4, I x4)], [sl 0 x5]⟩ : St)) (fun (f6, x4, x5) => laws_toValueS_l0 a0 f6 x4 x5 = some y) Prod.fst (FUEL, 0, v1) h (it [0, 3, 4]) ?_
 rintro ⟨f6, x4, x5⟩ h
 dsimp only at h ⊢
 rcases f6 with _ | f6
 cases h
 rw [laws_toValueS_l0] at h
 refine pwp_seq ?_
 refine srve 23 [(0, A a0), (3, rf 0 0 3 x5), (4, I x4), (11, B (decide (x4 < (a0.length : Int))))] [sl 0 x5] ?_
 refine pc h (fun h => ?_) (fun h => ?_)
 refine pwp_skip ?_
 refine pwp_seq ?_
 refine pwp_block ?_
 refine rv 4 23 [(0, A a0), (3, rf 0 0 3 x5), (4, I x4), (14, rf 0 0 3 x5), (15, I x4), (16, A a0), (17, I x4)] [sl 0 x5] ?_
 obtain ⟨v9, hv10, h⟩ := bindS h
 refine opsP_idx τ_ok 18 hv10 (by kernel_rfl) ?_
 refine v 1 23 [(0, A a0), (3, rf 0 0 3 x5), (4, I x4), (14, rf 0 0 3 x5), (15, I x4), (19, E v9)] [sl 0 x5] ?_
 obtain ⟨v11, hv12, h⟩ := bindS h
 refine cF 20 (ok_laws_toValue hv12) ?_
 obtain ⟨v13, hv14, h⟩ := bindS h
 refine opsP_idr τ_ok 21 0 0 x5.length hv14 rfl (by kernel_rfl) ?_
 refine v 0 23 [(0, A a0), (3, rf 0 0 3 x5), (4, I x4), (20, E v11), (21, .ptr 0 0 (x4.toNat * 3))] [sl 0 x5] ?_
 refine opsP_ste (vs := [I v11.fKind, I v11.fN, S v11.fS]) τ_ok 84 0 0 0 v11 hv14 (by kernel_rfl) (by kernel_rfl) (by kernel_rfl) (renC trivial (renC (ren_ref (List.length_set ..).symm) (renC trivial (renC trivial (renC trivial renC0))))) ?_
 refine ve 0 23 [(0, A a0), (3, .ref 0 0 0 3 (x5.set x4.toNat v11).length false), (4, I x4)] [some ⟨0, eL (x5.set x4.toNat v11)⟩] ?_
 refine rve 23 [(0, A a0), (3, .ref 0 0 0 3 (x5.set x4.toNat v11).length false), (4, I (w64 (x4 + 1)))] [some ⟨0, eL (x5.set x4.toNat v11)⟩] ?_
 exact ⟨(f6, (w64 (x4 + 1)), (x5.set x4.toNat v11)), h, Nat.lt_succ_self _, it [0, 3, 4]⟩
 refine pwp_exit ?_
 refine srve 23 [(2, rf 0 0 3 x5)] [sl 0 x5] ?_
 have h := si h
 subst h
 exact pwp_ret (rt (rf 0 0 3 x5) (OutP.list (v := 0) (by kernel_rfl)))
def laws_eqValueS_l0 (a0 : List T_impl_Value) (a1 : List T_impl_Value) : Nat → Int → Option Bool
 | 0, _ => none
 | f3 + 1, x2 => bif (decide (x2 < (a0.length : Int))) then (getI a0 x2).bind fun v6 => (getI a1 x2).bind fun v8 => (laws_eqValue v6 v8).bind fun v10 => bif (!v10) then some false else (laws_eqValueS_l0 a0 a1 f3) (w64 (x2 + 1)) else some true
def laws_eqValueS (a0 : List T_impl_Value) (a1 : List T_impl_Value) : Option Bool := bif (!((a0.length : Int) == (a1.length : Int))) then some false else laws_eqValueS_l0 a0 a1 FUEL 0
theorem ok_laws_eqValueS {a0 : List T_impl_Value} {a1 : List T_impl_Value} {y : Bool} (h : laws_eqValueS a0 a1 = some y) : OK Try.prog 130 [A a0, A a1] (B y) := by
 refine ow Try.func130 fun Γ hX => ?_
 unfold laws_eqValueS at h
 refine srve 27 [(0, A a0), (1, A a1)] [] ?_
 refine pwp_seq ?_
 refine srve 27 [(0, A a0), (1, A a1), (10, B (!((a0.length : Int) == (a1.length : Int))))] [] ?_
 refine pc h (fun h => ?_) (fun h => ?_)
 refine srve 27 [(4, B false)] [] ?_
 cases h
 exact pwp_ret rz
 refine pwp_skip ?_
 refine pwp_seq ?_
 refine srve 27 [(0, A a0), (1, A a1), (5, I 0)] [] ?_
 refine pwp_block ?_
 refine pwp_loop (ι := Nat × Int) (fun (f3, x2) => (⟨27, [(0, A a0), (1, A a1), (5, I x2)], []⟩ : St)) (fun (f3, x2) => laws_eqValueS_l0 a0 a1 f3 x2 = some y) Prod.fst (FUEL, 0) h (it [0, 1, 5]) ?_
 rintro ⟨f3, x2⟩ h
 dsimp only at h ⊢
 rcases f3 with _ | f3
 cases h
 rw [laws_eqValueS_l0] at h
 refine pwp_seq ?_
 refine srve 27 [(0, A a0), (1, A a1), (5, I x2), (14, B (decide (x2 < (a0.length : Int))))] [] ?_
 refine pc h (fun h => ?_) (fun h => ?_)
 refine pwp_skip ?_
 refine pwp_seq ?_
 refine pwp_block ?_
 refine pwp_seq ?_
 refine ip 27 [(0, A a0), (1, A a1), (5, I x2)] [] ?_
 refine pN 10 ?_
 refine qv [] trivial 2 27 [(18, I x2), (17, A a0), (0, A a0), (1, A a1), (5, I x2)] [] ?_
 obtain ⟨v6, hv7, h⟩ := bindS h
 refine qX (some 19) (pf v6 0) 27 [(19, pf v6 0), (0, A a0), (1, A a1), (5, I x2)] [] (fun Γ' hΓ => CoreE.of_y (idxV_sound τ_ok (by kernel_rfl) hv7)) trivial ?_
 refine qv [] trivial 3 27 [(22, I x2), (21, A a1), (20, E v6), (0, A a0), (1, A a1), (5, I x2)] [] ?_
 obtain ⟨v8, hv9, h⟩ := bindS h
 refine qX (some 23) (pf v8 0) 27 [(23, pf v8 0), (20, E v6), (0, A a0), (1, A a1), (5, I x2)] [] (fun Γ' hΓ => CoreE.of_y (idxV_sound τ_ok (by kernel_rfl) hv9)) trivial ?_
 refine qv [] trivial 1 27 [(24, E v8), (20, E v6), (0, A a0), (1, A a1), (5, I x2)] [] ?_
 obtain ⟨v10, hv11, h⟩ := bindS h
 refine qX (some 25) (B v10) 27 [(25, B v10), (0, A a0), (1, A a1), (5, I x2)] [] (fun Γ' hΓ => CoreE.of_g (callV_sound (τ := τ) (by kernel_rfl) rfl (ok_laws_eqValue hv11) (FzTo.frz rfl))) trivial ?_
 refine qvn [] trivial 1 27 [(0, A a0), (1, A a1), (5, I x2), (26, B (!v10))] [] ?_
 refine pc h (fun h => ?_) (fun h => ?_)
 refine srve 27 [(4, B false)] [] ?_
 cases h
 exact pwp_ret rz
 refine pwp_skip ?_
 refine rve 27 [(0, A a0), (1, A a1), (5, I (w64 (x2 + 1)))] [] ?_
 exact ⟨(f3, (w64 (x2 + 1))), h, Nat.lt_succ_self _, it [0, 1, 5]⟩
 refine pwp_exit ?_
 refine srve 27 [(4, B true)] [] ?_
 cases h
 exact pwp_ret rz
def cmp_Compare_int (a0 : Int) (a1 : Int) : Option Int := (cmp_isNaN_int a0).bind fun v1 => (cmp_isNaN_int a1).bind fun v3 => bif v1 then bif v3 then some 0 else some (-1) else bif v3 then some 1 else bif (decide (a0 < a1)) then some (-1) else bif (decide (a0 > a1)) then some 1 else some 0
theorem ok_cmp_Compare_int {a0 : Int} {a1 : Int} {y : Int} (h : cmp_Compare_int a0 a1 = some y) : OK Try.prog 153 [I a0, I a1] (I y) := by
 refine ow Try.func153 fun Γ hX => ?_
 unfold cmp_Compare_int at h
 refine srve 20 [(0, I a0), (1, I a1)] [] ?_
 refine srv 1 20 [(0, I a0), (1, I a1), (7, I a0)] [] ?_
 obtain ⟨v1, hv2, h⟩ := bindS h
 refine cF 8 (ok_cmp_isNaN_int hv2) ?_
 refine ve 1 20 [(0, I a0), (1, I a1), (5, B v1)] [] ?_
 refine srv 1 20 [(0, I a0), (1, I a1), (5, B v1), (9, I a1)] [] ?_
 obtain ⟨v3, hv4, h⟩ := bindS h
 refine cF 10 (ok_cmp_isNaN_int hv4) ?_
 refine ve 1 20 [(0, I a0), (1, I a1), (5, B v1), (6, B v3)] [] ?_
 refine pwp_seq ?_
 refine srve 20 [(0, I a0), (1, I a1), (6, B v3), (11, B v1)] [] ?_
 refine pc h (fun h => ?_) (fun h => ?_)
 refine pwp_seq ?_
 refine srve 20 [(12, B v3)] [] ?_
 refine pc h (fun h => ?_) (fun h => ?_)
 refine srve 20 [(4, I 0)] [] ?_
 cases h
 exact pwp_ret rz
 refine pwp_skip ?_
 refine srve 20 [(4, I (-1))] [] ?_
 cases h
 exact pwp_ret rz
 refine pwp_skip ?_
 refine pwp_seq ?_
 refine srve 20 [(0, I a0), (1, I a1), (13, B v3)] [] ?_
 refine pc h (fun h => ?_) (fun h => ?_)
 refine srve 20 [(4, I 1)] [] ?_
 cases h
 exact pwp_ret rz
 refine pwp_skip ?_
 refine pwp_seq ?_
 refine srve 20 [(0, I a0), (1, I a1), (16, B (decide (a0 < a1)))] [] ?_
 refine pc h (fun h => ?_) (fun h => ?_)
 refine srve 20 [(4, I (-1))] [] ?_
 cases h
 exact pwp_ret rz
 refine pwp_skip ?_
 refine pwp_seq ?_
 refine srve 20 [(19, B (decide (a0 > a1)))] [] ?_
 refine pc h (fun h => ?_) (fun h => ?_)
 refine srve 20 [(4, I 1)] [] ?_
 cases h
 exact pwp_ret rz
 refine pwp_skip ?_
 refine srve 20 [(4, I 0)] [] ?_
 cases h
 exact pwp_ret rz
def spec_ValueOrder_j0 (a0 : T_impl_Value) (a1 : T_impl_Value) (x1 : Bool) : Option Int := bif x1 then some 0 else bif (!(a0.fKind == a1.fKind)) then (spec_l1Less a1.fKind a0.fKind).bind fun v4 => some (w64 ((w64 (2 * v4)) - 1)) else bif (!(a0.fN == a1.fN)) then (spec_l1Less a1.fN a0.fN).bind fun v7 => some (w64 ((w64 (2 * v7)) - 1)) else (spec_l1Cmp a0.fS a1.fS).bind fun v9 => some v9
def spec_ValueOrder (a0 : T_impl_Value) (a1 : T_impl_Value) : Option Int := (spec_ValueOk a0).bind fun v11 => bif (!v11) then spec_ValueOrder_j0 a0 a1 true else (spec_ValueOk a1).bind fun v13 => spec_ValueOrder_j0 a0 a1 (!v13)
theorem ok_spec_ValueOrder {a0 : T_impl_Value} {a1 : T_impl_Value} {y : Int} (h : spec_ValueOrder a0 a1 = some y) : OK Try.prog 159 [E a0, E a1] (I y) := by
 refine ow Try.func159 fun Γ hX => ?_
 unfold spec_ValueOrder at h
 refine srve 44 [(2, pf a0 0), (3, pf a1 0)] [] ?_
 refine pwp_seq ?_
 refine pwp_seq ?_
 refine pwp_join (σ := Bool) (fun x1 => (⟨44, [(2, pf a0 0), (3, pf a1 0), (12, B x1)], []⟩ : St)) (fun x1 => spec_ValueOrder_j0 a0 a1 x1 = some y) ?_ ?_
 refine rv 1 44 [(2, pf a0 0), (3, pf a1 0), (5, E a0)] [] ?_
 obtain ⟨v11, hv12, h⟩ := bindS h
 refine cF 6 (ok_spec_ValueOk hv12) ?_
 refine v 2 44 [(2, pf a0 0), (3, pf a1 0), (8, B (!v11))] [] ?_
 rcases fk (!v11) with hc15 | hc15
 replace h := bT hc15 h
 rw [hc15]
 refine ve 4 44 [(2, pf a0 0), (3, pf a1 0), (12, B true)] [] ?_
 exact ⟨true, h, it [2, 3, 12]⟩
 replace h := bF hc15 h
 rw [hc15]
 refine v 1 44 [(2, pf a0 0), (3, pf a1 0), (8, B false), (9, E a1)] [] ?_
 obtain ⟨v13, hv14, h⟩ := bindS h
 refine cF 10 (ok_spec_ValueOk hv14) ?_
 refine ve 2 44 [(2, pf a0 0), (3, pf a1 0), (12, B (!v13))] [] ?_
 exact ⟨(!v13), h, it [2, 3, 12]⟩
 rintro x1 h
 unfold spec_ValueOrder_j0 at h
 refine pc h (fun h => ?_) (fun h => ?_)
 refine srve 44 [(4, I 0)] [] ?_
 cases h
 exact pwp_ret rz
 refine pwp_skip ?_
 refine pwp_seq ?_
 refine pwp_block ?_
 refine srve 44 [(2, pf a0 0), (3, pf a1 0), (13, B (!(a0.fKind == a1.fKind)))] [] ?_
 refine pc h (fun h => ?_) (fun h => ?_)
 refine srv 4 44 [(20, I a1.fKind), (22, I a0.fKind)] [] ?_
 obtain ⟨v4, hv5, h⟩ := bindS h
 refine cF 23 (ok_spec_l1Less hv5) ?_
 refine ve 3 44 [(4, I (w64 ((w64 (2 * v4)) - 1)))] [] ?_
 cases h
 exact pwp_ret rz
 refine srve 44 [(2, pf a0 0), (3, pf a1 0), (26, B (!(a0.fN == a1.fN)))] [] ?_
 refine pc h (fun h => ?_) (fun h => ?_)
 refine srv 4 44 [(33, I a1.fN), (35, I a0.fN)] [] ?_
 obtain ⟨v7, hv8, h⟩ := bindS h
 refine cF 36 (ok_spec_l1Less hv8) ?_
 refine ve 3 44 [(4, I (w64 ((w64 (2 * v7)) - 1)))] [] ?_
 cases h
 exact pwp_ret rz
 refine pwp_skip ?_
 refine srv 4 44 [(40, S a0.fS), (42, S a1.fS)] [] ?_
 obtain ⟨v9, hv10, h⟩ := bindS h
 refine cF 43 (ok_spec_l1Cmp hv10) ?_
 refine ve 1 44 [(4, I v9)] [] ?_
 cases h
 exact pwp_ret rz
def cmp_Compare_string (a0 : ByteArray) (a1 : ByteArray) : Option Int := (cmp_isNaN_string a0).bind fun v1 => (cmp_isNaN_string a1).bind fun v3 => bif v1 then bif v3 then some 0 else some (-1) else bif v3 then some 1 else bif (Op.bytesLess a0.toList a1.toList) then some (-1) else bif (!Op.bytesLess a0.toList a1.toList && !(a0.toList == a1.toList)) then some 1 else some 0
theorem ok_cmp_Compare_string {a0 : ByteArray} {a1 : ByteArray} {y : Int} (h : cmp_Compare_string a0 a1 = some y) : OK Try.prog 189 [S a0, S a1] (I y) := by
 refine ow Try.func189 fun Γ hX => ?_
 unfold cmp_Compare_string at h
 refine srve 20 [(0, S a0), (1, S a1)] [] ?_
 refine srv 1 20 [(0, S a0), (1, S a1), (7, S a0)] [] ?_
 obtain ⟨v1, hv2, h⟩ := bindS h
 refine cF 8 (ok_cmp_isNaN_string hv2) ?_
 refine ve 1 20 [(0, S a0), (1, S a1), (5, B v1)] [] ?_
 refine srv 1 20 [(0, S a0), (1, S a1), (5, B v1), (9, S a1)] [] ?_
 obtain ⟨v3, hv4, h⟩ := bindS h
 refine cF 10 (ok_cmp_isNaN_string hv4) ?_
 refine ve 1 20 [(0, S a0), (1, S a1), (5, B v1), (6, B v3)] [] ?_
 refine pwp_seq ?_
 refine srve 20 [(0, S a0), (1, S a1), (6, B v3), (11, B v1)] [] ?_
 refine pc h (fun h => ?_) (fun h => ?_)
 refine pwp_seq ?_
 refine srve 20 [(12, B v3)] [] ?_
 refine pc h (fun h => ?_) (fun h => ?_)
 refine srve 20 [(4, I 0)] [] ?_
 cases h
 exact pwp_ret rz
 refine pwp_skip ?_
 refine srve 20 [(4, I (-1))] [] ?_
 cases h
 exact pwp_ret rz
 refine pwp_skip ?_
 refine pwp_seq ?_
 refine srve 20 [(0, S a0), (1, S a1), (13, B v3)] [] ?_
 refine pc h (fun h => ?_) (fun h => ?_)
 refine srve 20 [(4, I 1)] [] ?_
 cases h
 exact pwp_ret rz
 refine pwp_skip ?_
 refine pwp_seq ?_
 refine srve 20 [(0, S a0), (1, S a1), (16, B (Op.bytesLess a0.toList a1.toList))] [] ?_
 refine pc h (fun h => ?_) (fun h => ?_)
 refine srve 20 [(4, I (-1))] [] ?_
 cases h
 exact pwp_ret rz
 refine pwp_skip ?_
 refine pwp_seq ?_
 refine srve 20 [(19, B (!Op.bytesLess a0.toList a1.toList && !(a0.toList == a1.toList)))] [] ?_
 refine pc h (fun h => ?_) (fun h => ?_)
 refine srve 20 [(4, I 1)] [] ?_
 cases h
 exact pwp_ret rz
 refine pwp_skip ?_
 refine srve 20 [(4, I 0)] [] ?_
 cases h
 exact pwp_ret rz
def laws_markTallyS_l0 : Nat → Int → Int → (List T_impl_Tally) → Option (Int × List T_impl_Tally)
 | 0, _, _, _ => none
 | f5 + 1, x2, x3, x4 => bif (decide (x3 < (x4.length : Int))) then (getI x4 x3).bind fun v8 => (laws_markValueS v8.fKey x2).bind fun v10 => (getI (x4.set x3.toNat ({ v8 with fKey := v10.2 } : T_impl_Tally)) x3).bind fun v12 => (getI ((x4.set x3.toNat ({ v8 with fKey := v10.2 } : T_impl_Tally)).set x3.toNat ({ v12 with fRows := v10.1 } : T_impl_Tally)) x3).bind fun v14 => (getI (((x4.set x3.toNat ({ v8 with fKey := v10.2 } : T_impl_Tally)).set x3.toNat ({ v12 with fRows := v10.1 } : T_impl_Tally)).set x3.toNat ({ v14 with fMany := (w64 (v10.1 + 1)) } : T_impl_Tally)) x3).bind fun v16 => (laws_markTallyS_l0 f5) (w64 ((w64 ((w64 (v10.1 + 1)) + 1)) + 1)) (w64 (x3 + 1)) ((((x4.set x3.toNat ({ v8 with fKey := v10.2 } : T_impl_Tally)).set x3.toNat ({ v12 with fRows := v10.1 } : T_impl_Tally)).set x3.toNat ({ v14 with fMany := (w64 (v10.1 + 1)) } : T_impl_Tally)).set x3.toNat ({ v16 with fSum := (w64 ((w64 (v10.1 + 1)) + 1)) } : T_impl_Tally)) else some (x2, x4)
def laws_markTallyS (a0 : List T_impl_Tally) (a1 : Int) : Option (Int × List T_impl_Tally) := laws_markTallyS_l0 FUEL a1 0 a0
theorem len_laws_markTallyS_l0 : ∀ (f5 : Nat) (x2 : Int) (x3 : Int) (x4 : List T_impl_Tally) (y : Int × List T_impl_Tally), laws_markTallyS_l0 f5 x2 x3 x4 = some y → y.2.length = x4.length
 | 0, _, _, _, _, h => by cases h
 | f5 + 1, x2, x3, x4, y, h => by
  rw [laws_markTallyS_l0] at h
  rcases condS h with h | h
  ·obtain ⟨_, _, h⟩ := bindS h
   obtain ⟨_, _, h⟩ := bindS h
   obtain ⟨_, _, h⟩ := bindS h
   obtain ⟨_, _, h⟩ := bindS h
   obtain ⟨_, _, h⟩ := bindS h
   have h2 := len_laws_markTallyS_l0 f5 _ _ _ _ h
   simp only [List.length_set] at h2
   exact h2
  ·cases h; rfl
theorem len_laws_markTallyS {a0 : List T_impl_Tally} {a1 : Int} {y : Int × List T_impl_Tally} (h : laws_markTallyS a0 a1 = some y) : y.2.length = a0.length := by
 unfold laws_markTallyS at h
 exact len_laws_markTallyS_l0 _ _ _ _ _ h
theorem ok_laws_markTallyS {a0 : List T_impl_Tally} {a1 : Int} {y : Int × List T_impl_Tally} (h : laws_markTallyS a0 a1 = some y) : OKd Try.prog 33 4 a0.length (dL a0) [I a1] (.int .i64 y.1) (dL y.2) := by
 refine OKd_of_pwp τ_ok Try.func33 rfl (by kernel_rfl) rfl (dL_oc _) (dL_oc _) (dL_bl _) (dL_bl _) rfl (fun hl => by rw [dL_len, len_laws_markTallyS h, ← dL_len]; exact hl) fun Γ hQ => ?_
 refine pwp_imp (Imp.to (st' := ⟨41, [(0, rf 0 0 4 a0), (1, I a1)], [some ⟨0, dL a0⟩]⟩) [0, 1] (by kernel_rfl)) ?_
 unfold laws_markTallyS at h
 refine srve 41 [(0, rf 0 0 4 a0), (1, I a1)] [some ⟨0, dL a0⟩] ?_
 refine pwp_seq ?_
 refine srve 41 [(0, rf 0 0 4 a0), (1, I a1), (5, I 0)] [some ⟨0, dL a0⟩] ?_
 refine pwp_block ?_
 refine pwp_loop (ι := Nat × Int × Int × (List T_impl_Tally)) (fun (f5, x2, x3, x4) => (⟨41, [(0, rf 0 0 4 x4), (1, I x2), (5, I x3)], [some ⟨0, dL x4⟩]⟩ : St)) (fun (f5, x2, x3, x4) => laws_markTallyS_l0 f5 x2 x3 x4 = some y) Prod.fst (FUEL, a1, 0, a0) h (it [0, 1, 5]) ?_
 rintro ⟨f5, x2, x3, x4⟩ h
 dsimp only at h ⊢
 rcases f5 with _ | f5
 cases h
 rw [laws_markTallyS_l0] at h
 refine pwp_seq ?_
 refine srve 41 [(0, rf 0 0 4 x4), (1, I x2), (5, I x3), (9, B (decide (x3 < (x4.length : Int))))] [some ⟨0, dL x4⟩] ?_
 refine pc h (fun h => ?_) (fun h => ?_)
 refine pwp_skip ?_
 refine pwp_seq ?_
 refine pwp_block ?_
 refine srv 2 41 [(0, rf 0 0 4 x4), (1, I x2), (5, I x3), (12, rf 0 0 4 x4), (13, I x3)] [some ⟨0, dL x4⟩] ?_
 obtain ⟨v8, hv9, h⟩ := bindS h
 refine opsP_idr τ_ok 14 0 0 x4.length hv9 rfl (by kernel_rfl) ?_
 refine v 1 41 [(0, rf 0 0 4 x4), (1, I x2), (5, I x3), (15, .ptr 0 0 (x3.toNat * 4))] [some ⟨0, dL x4⟩] ?_
 refine io 41 [(0, rf 0 0 4 x4), (1, I x2), (5, I x3), (15, .ptr 0 0 (x3.toNat * 4))] [some ⟨0, dL x4⟩] ?_
 refine opsP_imp (Imp.ghosts 1 (st' := ⟨41, [(0, rf 0 0 4 x4), (1, I x2), (5, I x3), (15, .ptr 0 0 (x3.toNat * 4))], [some ⟨0, dL x4⟩, some ⟨0, []⟩]⟩) (by kernel_rfl)) ?_
 refine opsP_E (dd := some 16) (x := rf 1 1 3 v8.fKey) (CoreE.pre (H1 := [some ⟨0, setL (dL x4) (x3.toNat * 4 + 0) [rf 1 1 3 v8.fKey]⟩, sl 1 v8.fKey]) (HStep.openL (cs0 := []) (xs := x4) (s := 3) (n := v8.fKey.length) (f := false) (cs := eL v8.fKey) 0 0 1 0 0 hv9 (by kernel_rfl) (by kernel_rfl) (by kernel_rfl) (by kernel_rfl) (by decide) (by first | exact pn hQ | exact pk hQ) (by kernel_rfl)) (ldo_E (xs := x4) τ_ok 16 29 0 hv9 (by kernel_rfl) (by kernel_rfl) (by kernel_rfl))) ?_
 refine v 1 41 [(0, rf 0 0 4 x4), (5, I x3), (16, rf 1 1 3 v8.fKey), (17, I x2)] [some ⟨0, setL (dL x4) (x3.toNat * 4 + 0) [rf 1 1 3 v8.fKey]⟩, sl 1 v8.fKey] ?_
 obtain ⟨v10, hv11, h⟩ := bindS h
 refine opsP_E (dd := some 18) (x := I v10.1) ((callD_E τ 18 1 1 (ok_laws_markValueS hv11) (by kernel_rfl)).then (H2 := [some ⟨0, dL (x4.set x3.toNat ({ v8 with fKey := v10.2 } : T_impl_Tally))⟩, some ⟨2, []⟩]) (HStep.nestL (xs := x4) (vs := [rf 1 1 3 v8.fKey]) 0 0 0 ({ v8 with fKey := v10.2 } : T_impl_Tally) hv9 (by kernel_rfl) (OutL.cons (OutP.listn (v := 1) (xs := v10.2) (len_laws_markValueS hv11) (by kernel_rfl)) (OutL.nil _)) (by decide) (by decide) (by first | exact pn hQ | exact pk hQ) (by kernel_rfl) (by kernel_rfl) (by kernel_rfl) (by kernel_rfl))) ?_
 refine io 41 [(0, rf 0 0 4 x4), (5, I x3), (17, I x2), (18, I v10.1)] [some ⟨0, dL (x4.set x3.toNat ({ v8 with fKey := v10.2 } : T_impl_Tally))⟩, some ⟨2, []⟩] ?_
 refine opsP_ren (st' := ⟨41, [(0, .ref 0 0 0 4 (x4.set x3.toNat ({ v8 with fKey := v10.2 } : T_impl_Tally)).length false), (5, I x3), (17, I x2), (18, I v10.1)], [some ⟨0, dL (x4.set x3.toNat ({ v8 with fKey := v10.2 } : T_impl_Tally))⟩, some ⟨2, []⟩]⟩) 0 (x4.set x3.toNat ({ v8 with fKey := v10.2 } : T_impl_Tally)).length (renC (ren_ref (List.length_set ..).symm) (renC trivial (renC trivial (renC trivial renC0)))) (by kernel_rfl) ?_
 refine ve 1 41 [(0, .ref 0 0 0 4 (x4.set x3.toNat ({ v8 with fKey := v10.2 } : T_impl_Tally)).length false), (1, I v10.1), (5, I x3)] [some ⟨0, dL (x4.set x3.toNat ({ v8 with fKey := v10.2 } : T_impl_Tally))⟩, some ⟨2, []⟩] ?_
 refine srv 3 41 [(0, .ref 0 0 0 4 (x4.set x3.toNat ({ v8 with fKey := v10.2 } : T_impl_Tally)).length false), (1, I v10.1), (5, I x3), (19, .ref 0 0 0 4 (x4.set x3.toNat ({ v8 with fKey := v10.2 } : T_impl_Tally)).length false), (20, I x3), (21, I v10.1)] [some ⟨0, dL (x4.set x3.toNat ({ v8 with fKey := v10.2 } : T_impl_Tally))⟩, some ⟨2, []⟩] ?_
 obtain ⟨v12, hv13, h⟩ := bindS h
 refine opsP_idr τ_ok 22 0 0 (x4.set x3.toNat ({ v8 with fKey := v10.2 } : T_impl_Tally)).length hv13 rfl (by kernel_rfl) ?_
 refine v 1 41 [(0, .ref 0 0 0 4 (x4.set x3.toNat ({ v8 with fKey := v10.2 } : T_impl_Tally)).length false), (1, I v10.1), (5, I x3), (21, I v10.1), (23, .ptr 0 0 (x3.toNat * 4 + 1))] [some ⟨0, dL (x4.set x3.toNat ({ v8 with fKey := v10.2 } : T_impl_Tally))⟩, some ⟨2, []⟩] ?_
 refine opsP_E (dd := none) (x := .any) (stdl_E (xs := (x4.set x3.toNat ({ v8 with fKey := v10.2 } : T_impl_Tally))) (vs := [I v10.1]) τ_ok 3 0 0 1 ({ v12 with fRows := v10.1 } : T_impl_Tally) hv13 (by kernel_rfl) (by kernel_rfl) (by kernel_rfl)) ?_
 refine io 41 [(0, .ref 0 0 0 4 (x4.set x3.toNat ({ v8 with fKey := v10.2 } : T_impl_Tally)).length false), (1, I v10.1), (5, I x3), (21, I v10.1)] [some ⟨0, dL ((x4.set x3.toNat ({ v8 with fKey := v10.2 } : T_impl_Tally)).set x3.toNat ({ v12 with fRows := v10.1 } : T_impl_Tally))⟩, some ⟨2, []⟩] ?_
 refine opsP_ren (st' := ⟨41, [(0, .ref 0 0 0 4 ((x4.set x3.toNat ({ v8 with fKey := v10.2 } : T_impl_Tally)).set x3.toNat ({ v12 with fRows := v10.1 } : T_impl_Tally)).length false), (1, I v10.1), (5, I x3), (21, I v10.1)], [some ⟨0, dL ((x4.set x3.toNat ({ v8 with fKey := v10.2 } : T_impl_Tally)).set x3.toNat ({ v12 with fRows := v10.1 } : T_impl_Tally))⟩, some ⟨2, []⟩]⟩) 0 ((x4.set x3.toNat ({ v8 with fKey := v10.2 } : T_impl_Tally)).set x3.toNat ({ v12 with fRows := v10.1 } : T_impl_Tally)).length (renC (ren_ref (List.length_set ..).symm) (renC trivial (renC trivial (renC trivial renC0)))) (by kernel_rfl) ?_
 refine ve 0 41 [(0, .ref 0 0 0 4 ((x4.set x3.toNat ({ v8 with fKey := v10.2 } : T_impl_Tally)).set x3.toNat ({ v12 with fRows := v10.1 } : T_impl_Tally)).length false), (1, I v10.1), (5, I x3)] [some ⟨0, dL ((x4.set x3.toNat ({ v8 with fKey := v10.2 } : T_impl_Tally)).set x3.toNat ({ v12 with fRows := v10.1 } : T_impl_Tally))⟩, some ⟨2, []⟩] ?_
 refine srve 41 [(0, .ref 0 0 0 4 ((x4.set x3.toNat ({ v8 with fKey := v10.2 } : T_impl_Tally)).set x3.toNat ({ v12 with fRows := v10.1 } : T_impl_Tally)).length false), (1, I (w64 (v10.1 + 1))), (5, I x3)] [some ⟨0, dL ((x4.set x3.toNat ({ v8 with fKey := v10.2 } : T_impl_Tally)).set x3.toNat ({ v12 with fRows := v10.1 } : T_impl_Tally))⟩, some ⟨2, []⟩] ?_
 refine srv 3 41 [(0, .ref 0 0 0 4 ((x4.set x3.toNat ({ v8 with fKey := v10.2 } : T_impl_Tally)).set x3.toNat ({ v12 with fRows := v10.1 } : T_impl_Tally)).length false), (1, I (w64 (v10.1 + 1))), (5, I x3), (26, .ref 0 0 0 4 ((x4.set x3.toNat ({ v8 with fKey := v10.2 } : T_impl_Tally)).set x3.toNat ({ v12 with fRows := v10.1 } : T_impl_Tally)).length false), (27, I x3), (28, I (w64 (v10.1 + 1)))] [some ⟨0, dL ((x4.set x3.toNat ({ v8 with fKey := v10.2 } : T_impl_Tally)).set x3.toNat ({ v12 with fRows := v10.1 } : T_impl_Tally))⟩, some ⟨2, []⟩] ?_
 obtain ⟨v14, hv15, h⟩ := bindS h
 refine opsP_idr τ_ok 29 0 0 ((x4.set x3.toNat ({ v8 with fKey := v10.2 } : T_impl_Tally)).set x3.toNat ({ v12 with fRows := v10.1 } : T_impl_Tally)).length hv15 rfl (by kernel_rfl) ?_
 refine v 1 41 [(0, .ref 0 0 0 4 ((x4.set x3.toNat ({ v8 with fKey := v10.2 } : T_impl_Tally)).set x3.toNat ({ v12 with fRows := v10.1 } : T_impl_Tally)).length false), (1, I (w64 (v10.1 + 1))), (5, I x3), (28, I (w64 (v10.1 + 1))), (30, .ptr 0 0 (x3.toNat * 4 + 2))] [some ⟨0, dL ((x4.set x3.toNat ({ v8 with fKey := v10.2 } : T_impl_Tally)).set x3.toNat ({ v12 with fRows := v10.1 } : T_impl_Tally))⟩, some ⟨2, []⟩] ?_
 refine opsP_E (dd := none) (x := .any) (stdl_E (xs := ((x4.set x3.toNat ({ v8 with fKey := v10.2 } : T_impl_Tally)).set x3.toNat ({ v12 with fRows := v10.1 } : T_impl_Tally))) (vs := [I (w64 (v10.1 + 1))]) τ_ok 3 0 0 2 ({ v14 with fMany := (w64 (v10.1 + 1)) } : T_impl_Tally) hv15 (by kernel_rfl) (by kernel_rfl) (by kernel_rfl)) ?_
 refine io 41 [(0, .ref 0 0 0 4 ((x4.set x3.toNat ({ v8 with fKey := v10.2 } : T_impl_Tally)).set x3.toNat ({ v12 with fRows := v10.1 } : T_impl_Tally)).length false), (1, I (w64 (v10.1 + 1))), (5, I x3), (28, I (w64 (v10.1 + 1)))] [some ⟨0, dL (((x4.set x3.toNat ({ v8 with fKey := v10.2 } : T_impl_Tally)).set x3.toNat ({ v12 with fRows := v10.1 } : T_impl_Tally)).set x3.toNat ({ v14 with fMany := (w64 (v10.1 + 1)) } : T_impl_Tally))⟩, some ⟨2, []⟩] ?_
 refine opsP_ren (st' := ⟨41, [(0, .ref 0 0 0 4 (((x4.set x3.toNat ({ v8 with fKey := v10.2 } : T_impl_Tally)).set x3.toNat ({ v12 with fRows := v10.1 } : T_impl_Tally)).set x3.toNat ({ v14 with fMany := (w64 (v10.1 + 1)) } : T_impl_Tally)).length false), (1, I (w64 (v10.1 + 1))), (5, I x3), (28, I (w64 (v10.1 + 1)))], [some ⟨0, dL (((x4.set x3.toNat ({ v8 with fKey := v10.2 } : T_impl_Tally)).set x3.toNat ({ v12 with fRows := v10.1 } : T_impl_Tally)).set x3.toNat ({ v14 with fMany := (w64 (v10.1 + 1)) } : T_impl_Tally))⟩, some ⟨2, []⟩]⟩) 0 (((x4.set x3.toNat ({ v8 with fKey := v10.2 } : T_impl_Tally)).set x3.toNat ({ v12 with fRows := v10.1 } : T_impl_Tally)).set x3.toNat ({ v14 with fMany := (w64 (v10.1 + 1)) } : T_impl_Tally)).length (renC (ren_ref (List.length_set ..).symm) (renC trivial (renC trivial (renC trivial renC0)))) (by kernel_rfl) ?_
 refine ve 0 41 [(0, .ref 0 0 0 4 (((x4.set x3.toNat ({ v8 with fKey := v10.2 } : T_impl_Tally)).set x3.toNat ({ v12 with fRows := v10.1 } : T_impl_Tally)).set x3.toNat ({ v14 with fMany := (w64 (v10.1 + 1)) } : T_impl_Tally)).length false), (1, I (w64 (v10.1 + 1))), (5, I x3)] [some ⟨0, dL (((x4.set x3.toNat ({ v8 with fKey := v10.2 } : T_impl_Tally)).set x3.toNat ({ v12 with fRows := v10.1 } : T_impl_Tally)).set x3.toNat ({ v14 with fMany := (w64 (v10.1 + 1)) } : T_impl_Tally))⟩, some ⟨2, []⟩] ?_
 refine srve 41 [(0, .ref 0 0 0 4 (((x4.set x3.toNat ({ v8 with fKey := v10.2 } : T_impl_Tally)).set x3.toNat ({ v12 with fRows := v10.1 } : T_impl_Tally)).set x3.toNat ({ v14 with fMany := (w64 (v10.1 + 1)) } : T_impl_Tally)).length false), (1, I (w64 ((w64 (v10.1 + 1)) + 1))), (5, I x3)] [some ⟨0, dL (((x4.set x3.toNat ({ v8 with fKey := v10.2 } : T_impl_Tally)).set x3.toNat ({ v12 with fRows := v10.1 } : T_impl_Tally)).set x3.toNat ({ v14 with fMany := (w64 (v10.1 + 1)) } : T_impl_Tally))⟩, some ⟨2, []⟩] ?_
 refine srv 3 41 [(0, .ref 0 0 0 4 (((x4.set x3.toNat ({ v8 with fKey := v10.2 } : T_impl_Tally)).set x3.toNat ({ v12 with fRows := v10.1 } : T_impl_Tally)).set x3.toNat ({ v14 with fMany := (w64 (v10.1 + 1)) } : T_impl_Tally)).length false), (1, I (w64 ((w64 (v10.1 + 1)) + 1))), (5, I x3), (33, .ref 0 0 0 4 (((x4.set x3.toNat ({ v8 with fKey := v10.2 } : T_impl_Tally)).set x3.toNat ({ v12 with fRows := v10.1 } : T_impl_Tally)).set x3.toNat ({ v14 with fMany := (w64 (v10.1 + 1)) } : T_impl_Tally)).length false), (34, I x3), (35, I (w64 ((w64 (v10.1 + 1)) + 1)))] [some ⟨0, dL (((x4.set x3.toNat ({ v8 with fKey := v10.2 } : T_impl_Tally)).set x3.toNat ({ v12 with fRows := v10.1 } : T_impl_Tally)).set x3.toNat ({ v14 with fMany := (w64 (v10.1 + 1)) } : T_impl_Tally))⟩, some ⟨2, []⟩] ?_
 obtain ⟨v16, hv17, h⟩ := bindS h
 refine opsP_idr τ_ok 36 0 0 (((x4.set x3.toNat ({ v8 with fKey := v10.2 } : T_impl_Tally)).set x3.toNat ({ v12 with fRows := v10.1 } : T_impl_Tally)).set x3.toNat ({ v14 with fMany := (w64 (v10.1 + 1)) } : T_impl_Tally)).length hv17 rfl (by kernel_rfl) ?_
 refine v 1 41 [(0, .ref 0 0 0 4 (((x4.set x3.toNat ({ v8 with fKey := v10.2 } : T_impl_Tally)).set x3.toNat ({ v12 with fRows := v10.1 } : T_impl_Tally)).set x3.toNat ({ v14 with fMany := (w64 (v10.1 + 1)) } : T_impl_Tally)).length false), (1, I (w64 ((w64 (v10.1 + 1)) + 1))), (5, I x3), (35, I (w64 ((w64 (v10.1 + 1)) + 1))), (37, .ptr 0 0 (x3.toNat * 4 + 3))] [some ⟨0, dL (((x4.set x3.toNat ({ v8 with fKey := v10.2 } : T_impl_Tally)).set x3.toNat ({ v12 with fRows := v10.1 } : T_impl_Tally)).set x3.toNat ({ v14 with fMany := (w64 (v10.1 + 1)) } : T_impl_Tally))⟩, some ⟨2, []⟩] ?_
 refine opsP_E (dd := none) (x := .any) (stdl_E (xs := (((x4.set x3.toNat ({ v8 with fKey := v10.2 } : T_impl_Tally)).set x3.toNat ({ v12 with fRows := v10.1 } : T_impl_Tally)).set x3.toNat ({ v14 with fMany := (w64 (v10.1 + 1)) } : T_impl_Tally))) (vs := [I (w64 ((w64 (v10.1 + 1)) + 1))]) τ_ok 3 0 0 3 ({ v16 with fSum := (w64 ((w64 (v10.1 + 1)) + 1)) } : T_impl_Tally) hv17 (by kernel_rfl) (by kernel_rfl) (by kernel_rfl)) ?_
 refine io 41 [(0, .ref 0 0 0 4 (((x4.set x3.toNat ({ v8 with fKey := v10.2 } : T_impl_Tally)).set x3.toNat ({ v12 with fRows := v10.1 } : T_impl_Tally)).set x3.toNat ({ v14 with fMany := (w64 (v10.1 + 1)) } : T_impl_Tally)).length false), (1, I (w64 ((w64 (v10.1 + 1)) + 1))), (5, I x3), (35, I (w64 ((w64 (v10.1 + 1)) + 1)))] [some ⟨0, dL ((((x4.set x3.toNat ({ v8 with fKey := v10.2 } : T_impl_Tally)).set x3.toNat ({ v12 with fRows := v10.1 } : T_impl_Tally)).set x3.toNat ({ v14 with fMany := (w64 (v10.1 + 1)) } : T_impl_Tally)).set x3.toNat ({ v16 with fSum := (w64 ((w64 (v10.1 + 1)) + 1)) } : T_impl_Tally))⟩, some ⟨2, []⟩] ?_
 refine opsP_ren (st' := ⟨41, [(0, .ref 0 0 0 4 ((((x4.set x3.toNat ({ v8 with fKey := v10.2 } : T_impl_Tally)).set x3.toNat ({ v12 with fRows := v10.1 } : T_impl_Tally)).set x3.toNat ({ v14 with fMany := (w64 (v10.1 + 1)) } : T_impl_Tally)).set x3.toNat ({ v16 with fSum := (w64 ((w64 (v10.1 + 1)) + 1)) } : T_impl_Tally)).length false), (1, I (w64 ((w64 (v10.1 + 1)) + 1))), (5, I x3), (35, I (w64 ((w64 (v10.1 + 1)) + 1)))], [some ⟨0, dL ((((x4.set x3.toNat ({ v8 with fKey := v10.2 } : T_impl_Tally)).set x3.toNat ({ v12 with fRows := v10.1 } : T_impl_Tally)).set x3.toNat ({ v14 with fMany := (w64 (v10.1 + 1)) } : T_impl_Tally)).set x3.toNat ({ v16 with fSum := (w64 ((w64 (v10.1 + 1)) + 1)) } : T_impl_Tally))⟩, some ⟨2, []⟩]⟩) 0 ((((x4.set x3.toNat ({ v8 with fKey := v10.2 } : T_impl_Tally)).set x3.toNat ({ v12 with fRows := v10.1 } : T_impl_Tally)).set x3.toNat ({ v14 with fMany := (w64 (v10.1 + 1)) } : T_impl_Tally)).set x3.toNat ({ v16 with fSum := (w64 ((w64 (v10.1 + 1)) + 1)) } : T_impl_Tally)).length (renC (ren_ref (List.length_set ..).symm) (renC trivial (renC trivial (renC trivial renC0)))) (by kernel_rfl) ?_
 refine ve 0 41 [(0, .ref 0 0 0 4 ((((x4.set x3.toNat ({ v8 with fKey := v10.2 } : T_impl_Tally)).set x3.toNat ({ v12 with fRows := v10.1 } : T_impl_Tally)).set x3.toNat ({ v14 with fMany := (w64 (v10.1 + 1)) } : T_impl_Tally)).set x3.toNat ({ v16 with fSum := (w64 ((w64 (v10.1 + 1)) + 1)) } : T_impl_Tally)).length false), (1, I (w64 ((w64 (v10.1 + 1)) + 1))), (5, I x3)] [some ⟨0, dL ((((x4.set x3.toNat ({ v8 with fKey := v10.2 } : T_impl_Tally)).set x3.toNat ({ v12 with fRows := v10.1 } : T_impl_Tally)).set x3.toNat ({ v14 with fMany := (w64 (v10.1 + 1)) } : T_impl_Tally)).set x3.toNat ({ v16 with fSum := (w64 ((w64 (v10.1 + 1)) + 1)) } : T_impl_Tally))⟩, some ⟨2, []⟩] ?_
 refine rve 41 [(0, .ref 0 0 0 4 ((((x4.set x3.toNat ({ v8 with fKey := v10.2 } : T_impl_Tally)).set x3.toNat ({ v12 with fRows := v10.1 } : T_impl_Tally)).set x3.toNat ({ v14 with fMany := (w64 (v10.1 + 1)) } : T_impl_Tally)).set x3.toNat ({ v16 with fSum := (w64 ((w64 (v10.1 + 1)) + 1)) } : T_impl_Tally)).length false), (1, I (w64 ((w64 ((w64 (v10.1 + 1)) + 1)) + 1))), (5, I x3)] [some ⟨0, dL ((((x4.set x3.toNat ({ v8 with fKey := v10.2 } : T_impl_Tally)).set x3.toNat ({ v12 with fRows := v10.1 } : T_impl_Tally)).set x3.toNat ({ v14 with fMany := (w64 (v10.1 + 1)) } : T_impl_Tally)).set x3.toNat ({ v16 with fSum := (w64 ((w64 (v10.1 + 1)) + 1)) } : T_impl_Tally))⟩, some ⟨2, []⟩] ?_
 refine rve 41 [(0, .ref 0 0 0 4 ((((x4.set x3.toNat ({ v8 with fKey := v10.2 } : T_impl_Tally)).set x3.toNat ({ v12 with fRows := v10.1 } : T_impl_Tally)).set x3.toNat ({ v14 with fMany := (w64 (v10.1 + 1)) } : T_impl_Tally)).set x3.toNat ({ v16 with fSum := (w64 ((w64 (v10.1 + 1)) + 1)) } : T_impl_Tally)).length false), (1, I (w64 ((w64 ((w64 (v10.1 + 1)) + 1)) + 1))), (5, I (w64 (x3 + 1)))] [some ⟨0, dL ((((x4.set x3.toNat ({ v8 with fKey := v10.2 } : T_impl_Tally)).set x3.toNat ({ v12 with fRows := v10.1 } : T_impl_Tally)).set x3.toNat ({ v14 with fMany := (w64 (v10.1 + 1)) } : T_impl_Tally)).set x3.toNat ({ v16 with fSum := (w64 ((w64 (v10.1 + 1)) + 1)) } : T_impl_Tally))⟩, some ⟨2, []⟩] ?_
 exact ⟨(f5, (w64 ((w64 ((w64 (v10.1 + 1)) + 1)) + 1)), (w64 (x3 + 1)), ((((x4.set x3.toNat ({ v8 with fKey := v10.2 } : T_impl_Tally)).set x3.toNat ({ v12 with fRows := v10.1 } : T_impl_Tally)).set x3.toNat ({ v14 with fMany := (w64 (v10.1 + 1)) } : T_impl_Tally)).set x3.toNat ({ v16 with fSum := (w64 ((w64 (v10.1 + 1)) + 1)) } : T_impl_Tally))), h, Nat.lt_succ_self _, (it (st' := ⟨41, [(0, .ref 0 0 0 4 ((((x4.set x3.toNat ({ v8 with fKey := v10.2 } : T_impl_Tally)).set x3.toNat ({ v12 with fRows := v10.1 } : T_impl_Tally)).set x3.toNat ({ v14 with fMany := (w64 (v10.1 + 1)) } : T_impl_Tally)).set x3.toNat ({ v16 with fSum := (w64 ((w64 (v10.1 + 1)) + 1)) } : T_impl_Tally)).length false), (1, I (w64 ((w64 ((w64 (v10.1 + 1)) + 1)) + 1))), (5, I (w64 (x3 + 1)))], [some ⟨0, dL ((((x4.set x3.toNat ({ v8 with fKey := v10.2 } : T_impl_Tally)).set x3.toNat ({ v12 with fRows := v10.1 } : T_impl_Tally)).set x3.toNat ({ v14 with fMany := (w64 (v10.1 + 1)) } : T_impl_Tally)).set x3.toNat ({ v16 with fSum := (w64 ((w64 (v10.1 + 1)) + 1)) } : T_impl_Tally))⟩, some ⟨2, []⟩]⟩) [0, 1, 5]).trans (Imp.truncS 1 (pl hQ) (by kernel_rfl) (allBelow_mem (by exact (And.intro rfl (And.intro rfl (And.intro rfl trivial))))) (by exact (And.intro (dL_below _ _) trivial)) (by kernel_rfl))⟩
 refine pwp_exit ?_
 refine srve 41 [(4, I x2)] [some ⟨0, dL x4⟩] ?_
 have h := si h
 subst h
 exact pwp_ret ⟨.inr rfl, 0, by kernel_rfl, by kernel_rfl⟩
def laws_markDeltaS_l0 : Nat → Int → Int → (List T_impl_Delta) → Option (Int × List T_impl_Delta)
 | 0, _, _, _ => none
 | f5 + 1, x2, x3, x4 => bif (decide (x3 < (x4.length : Int))) then (getI x4 x3).bind fun v8 => (laws_markValueS v8.fRow x2).bind fun v10 => (getI (x4.set x3.toNat ({ v8 with fRow := v10.2 } : T_impl_Delta)) x3).bind fun v12 => (laws_markDeltaS_l0 f5) (w64 (v10.1 + 1)) (w64 (x3 + 1)) ((x4.set x3.toNat ({ v8 with fRow := v10.2 } : T_impl_Delta)).set x3.toNat ({ v12 with fMany := v10.1 } : T_impl_Delta)) else some (x2, x4)
def laws_markDeltaS (a0 : List T_impl_Delta) (a1 : Int) : Option (Int × List T_impl_Delta) := laws_markDeltaS_l0 FUEL a1 0 a0
theorem len_laws_markDeltaS_l0 : ∀ (f5 : Nat) (x2 : Int) (x3 : Int) (x4 : List T_impl_Delta) (y : Int × List T_impl_Delta), laws_markDeltaS_l0 f5 x2 x3 x4 = some y → y.2.length = x4.length
 | 0, _, _, _, _, h => by cases h
 | f5 + 1, x2, x3, x4, y, h => by
  rw [laws_markDeltaS_l0] at h
  rcases condS h with h | h
  ·obtain ⟨_, _, h⟩ := bindS h
   obtain ⟨_, _, h⟩ := bindS h
   obtain ⟨_, _, h⟩ := bindS h
   have h2 := len_laws_markDeltaS_l0 f5 _ _ _ _ h
   simp only [List.length_set] at h2
   exact h2
  ·cases h; rfl
theorem len_laws_markDeltaS {a0 : List T_impl_Delta} {a1 : Int} {y : Int × List T_impl_Delta} (h : laws_markDeltaS a0 a1 = some y) : y.2.length = a0.length := by
 unfold laws_markDeltaS at h
 exact len_laws_markDeltaS_l0 _ _ _ _ _ h
theorem ok_laws_markDeltaS {a0 : List T_impl_Delta} {a1 : Int} {y : Int × List T_impl_Delta} (h : laws_markDeltaS a0 a1 = some y) : OKd Try.prog 34 2 a0.length (dL a0) [I a1] (.int .i64 y.1) (dL y.2) := by
 refine OKd_of_pwp τ_ok Try.func34 rfl (by kernel_rfl) rfl (dL_oc _) (dL_oc _) (dL_bl _) (dL_bl _) rfl (fun hl => by rw [dL_len, len_laws_markDeltaS h, ← dL_len]; exact hl) fun Γ hQ => ?_
 refine pwp_imp (Imp.to (st' := ⟨27, [(0, rf 0 0 2 a0), (1, I a1)], [some ⟨0, dL a0⟩]⟩) [0, 1] (by kernel_rfl)) ?_
 unfold laws_markDeltaS at h
 refine srve 27 [(0, rf 0 0 2 a0), (1, I a1)] [some ⟨0, dL a0⟩] ?_
 refine pwp_seq ?_
 refine srve 27 [(0, rf 0 0 2 a0), (1, I a1), (5, I 0)] [some ⟨0, dL a0⟩] ?_
 refine pwp_block ?_
 refine pwp_loop (ι := Nat × Int × Int × (List T_impl_Delta)) (fun (f5, x2, x3, x4) => (⟨27, [(0, rf 0 0 2 x4), (1, I x2), (5, I x3)], [some ⟨0, dL x4⟩]⟩ : St)) (fun (f5, x2, x3, x4) => laws_markDeltaS_l0 f5 x2 x3 x4 = some y) Prod.fst (FUEL, a1, 0, a0) h (it [0, 1, 5]) ?_
 rintro ⟨f5, x2, x3, x4⟩ h
 dsimp only at h ⊢
 rcases f5 with _ | f5
 cases h
 rw [laws_markDeltaS_l0] at h
 refine pwp_seq ?_
 refine srve 27 [(0, rf 0 0 2 x4), (1, I x2), (5, I x3), (9, B (decide (x3 < (x4.length : Int))))] [some ⟨0, dL x4⟩] ?_
 refine pc h (fun h => ?_) (fun h => ?_)
 refine pwp_skip ?_
 refine pwp_seq ?_
 refine pwp_block ?_
 refine srv 2 27 [(0, rf 0 0 2 x4), (1, I x2), (5, I x3), (12, rf 0 0 2 x4), (13, I x3)] [some ⟨0, dL x4⟩] ?_
 obtain ⟨v8, hv9, h⟩ := bindS h
 refine opsP_idr τ_ok 14 0 0 x4.length hv9 rfl (by kernel_rfl) ?_
 refine v 1 27 [(0, rf 0 0 2 x4), (1, I x2), (5, I x3), (15, .ptr 0 0 (x3.toNat * 2))] [some ⟨0, dL x4⟩] ?_
 refine io 27 [(0, rf 0 0 2 x4), (1, I x2), (5, I x3), (15, .ptr 0 0 (x3.toNat * 2))] [some ⟨0, dL x4⟩] ?_
 refine opsP_imp (Imp.ghosts 1 (st' := ⟨27, [(0, rf 0 0 2 x4), (1, I x2), (5, I x3), (15, .ptr 0 0 (x3.toNat * 2))], [some ⟨0, dL x4⟩, some ⟨0, []⟩]⟩) (by kernel_rfl)) ?_
 refine opsP_E (dd := some 16) (x := rf 1 1 3 v8.fRow) (CoreE.pre (H1 := [some ⟨0, setL (dL x4) (x3.toNat * 2 + 0) [rf 1 1 3 v8.fRow]⟩, sl 1 v8.fRow]) (HStep.openL (cs0 := []) (xs := x4) (s := 3) (n := v8.fRow.length) (f := false) (cs := eL v8.fRow) 0 0 1 0 0 hv9 (by kernel_rfl) (by kernel_rfl) (by kernel_rfl) (by kernel_rfl) (by decide) (by first | exact pn hQ | exact pk hQ) (by kernel_rfl)) (ldo_E (xs := x4) τ_ok 16 29 0 hv9 (by kernel_rfl) (by kernel_rfl) (by kernel_rfl))) ?_
 refine v 1 27 [(0, rf 0 0 2 x4), (5, I x3), (16, rf 1 1 3 v8.fRow), (17, I x2)] [some ⟨0, setL (dL x4) (x3.toNat * 2 + 0) [rf 1 1 3 v8.fRow]⟩, sl 1 v8.fRow] ?_
 obtain ⟨v10, hv11, h⟩ := bindS h
 refine opsP_E (dd := some 18) (x := I v10.1) ((callD_E τ 18 1 1 (ok_laws_markValueS hv11) (by kernel_rfl)).then (H2 := [some ⟨0, dL (x4.set x3.toNat ({ v8 with fRow := v10.2 } : T_impl_Delta))⟩, some ⟨2, []⟩]) (HStep.nestL (xs := x4) (vs := [rf 1 1 3 v8.fRow]) 0 0 0 ({ v8 with fRow := v10.2 } : T_impl_Delta) hv9 (by kernel_rfl) (OutL.cons (OutP.listn (v := 1) (xs := v10.2) (len_laws_markValueS hv11) (by kernel_rfl)) (OutL.nil _)) (by decide) (by decide) (by first | exact pn hQ | exact pk hQ) (by kernel_rfl) (by kernel_rfl) (by kernel_rfl) (by kernel_rfl))) ?_
 refine io 27 [(0, rf 0 0 2 x4), (5, I x3), (17, I x2), (18, I v10.1)] [some ⟨0, dL (x4.set x3.toNat ({ v8 with fRow := v10.2 } : T_impl_Delta))⟩, some ⟨2, []⟩] ?_
 refine opsP_ren (st' := ⟨27, [(0, .ref 0 0 0 2 (x4.set x3.toNat ({ v8 with fRow := v10.2 } : T_impl_Delta)).length false), (5, I x3), (17, I x2), (18, I v10.1)], [some ⟨0, dL (x4.set x3.toNat ({ v8 with fRow := v10.2 } : T_impl_Delta))⟩, some ⟨2, []⟩]⟩) 0 (x4.set x3.toNat ({ v8 with fRow := v10.2 } : T_impl_Delta)).length (renC (ren_ref (List.length_set ..).symm) (renC trivial (renC trivial (renC trivial renC0)))) (by kernel_rfl) ?_
 refine ve 1 27 [(0, .ref 0 0 0 2 (x4.set x3.toNat ({ v8 with fRow := v10.2 } : T_impl_Delta)).length false), (1, I v10.1), (5, I x3)] [some ⟨0, dL (x4.set x3.toNat ({ v8 with fRow := v10.2 } : T_impl_Delta))⟩, some ⟨2, []⟩] ?_
 refine srv 3 27 [(0, .ref 0 0 0 2 (x4.set x3.toNat ({ v8 with fRow := v10.2 } : T_impl_Delta)).length false), (1, I v10.1), (5, I x3), (19, .ref 0 0 0 2 (x4.set x3.toNat ({ v8 with fRow := v10.2 } : T_impl_Delta)).length false), (20, I x3), (21, I v10.1)] [some ⟨0, dL (x4.set x3.toNat ({ v8 with fRow := v10.2 } : T_impl_Delta))⟩, some ⟨2, []⟩] ?_
 obtain ⟨v12, hv13, h⟩ := bindS h
 refine opsP_idr τ_ok 22 0 0 (x4.set x3.toNat ({ v8 with fRow := v10.2 } : T_impl_Delta)).length hv13 rfl (by kernel_rfl) ?_
 refine v 1 27 [(0, .ref 0 0 0 2 (x4.set x3.toNat ({ v8 with fRow := v10.2 } : T_impl_Delta)).length false), (1, I v10.1), (5, I x3), (21, I v10.1), (23, .ptr 0 0 (x3.toNat * 2 + 1))] [some ⟨0, dL (x4.set x3.toNat ({ v8 with fRow := v10.2 } : T_impl_Delta))⟩, some ⟨2, []⟩] ?_
 refine opsP_E (dd := none) (x := .any) (stdl_E (xs := (x4.set x3.toNat ({ v8 with fRow := v10.2 } : T_impl_Delta))) (vs := [I v10.1]) τ_ok 3 0 0 1 ({ v12 with fMany := v10.1 } : T_impl_Delta) hv13 (by kernel_rfl) (by kernel_rfl) (by kernel_rfl)) ?_
 refine io 27 [(0, .ref 0 0 0 2 (x4.set x3.toNat ({ v8 with fRow := v10.2 } : T_impl_Delta)).length false), (1, I v10.1), (5, I x3), (21, I v10.1)] [some ⟨0, dL ((x4.set x3.toNat ({ v8 with fRow := v10.2 } : T_impl_Delta)).set x3.toNat ({ v12 with fMany := v10.1 } : T_impl_Delta))⟩, some ⟨2, []⟩] ?_
 refine opsP_ren (st' := ⟨27, [(0, .ref 0 0 0 2 ((x4.set x3.toNat ({ v8 with fRow := v10.2 } : T_impl_Delta)).set x3.toNat ({ v12 with fMany := v10.1 } : T_impl_Delta)).length false), (1, I v10.1), (5, I x3), (21, I v10.1)], [some ⟨0, dL ((x4.set x3.toNat ({ v8 with fRow := v10.2 } : T_impl_Delta)).set x3.toNat ({ v12 with fMany := v10.1 } : T_impl_Delta))⟩, some ⟨2, []⟩]⟩) 0 ((x4.set x3.toNat ({ v8 with fRow := v10.2 } : T_impl_Delta)).set x3.toNat ({ v12 with fMany := v10.1 } : T_impl_Delta)).length (renC (ren_ref (List.length_set ..).symm) (renC trivial (renC trivial (renC trivial renC0)))) (by kernel_rfl) ?_
 refine ve 0 27 [(0, .ref 0 0 0 2 ((x4.set x3.toNat ({ v8 with fRow := v10.2 } : T_impl_Delta)).set x3.toNat ({ v12 with fMany := v10.1 } : T_impl_Delta)).length false), (1, I v10.1), (5, I x3)] [some ⟨0, dL ((x4.set x3.toNat ({ v8 with fRow := v10.2 } : T_impl_Delta)).set x3.toNat ({ v12 with fMany := v10.1 } : T_impl_Delta))⟩, some ⟨2, []⟩] ?_
 refine rve 27 [(0, .ref 0 0 0 2 ((x4.set x3.toNat ({ v8 with fRow := v10.2 } : T_impl_Delta)).set x3.toNat ({ v12 with fMany := v10.1 } : T_impl_Delta)).length false), (1, I (w64 (v10.1 + 1))), (5, I x3)] [some ⟨0, dL ((x4.set x3.toNat ({ v8 with fRow := v10.2 } : T_impl_Delta)).set x3.toNat ({ v12 with fMany := v10.1 } : T_impl_Delta))⟩, some ⟨2, []⟩] ?_
 refine rve 27 [(0, .ref 0 0 0 2 ((x4.set x3.toNat ({ v8 with fRow := v10.2 } : T_impl_Delta)).set x3.toNat ({ v12 with fMany := v10.1 } : T_impl_Delta)).length false), (1, I (w64 (v10.1 + 1))), (5, I (w64 (x3 + 1)))] [some ⟨0, dL ((x4.set x3.toNat ({ v8 with fRow := v10.2 } : T_impl_Delta)).set x3.toNat ({ v12 with fMany := v10.1 } : T_impl_Delta))⟩, some ⟨2, []⟩] ?_
 exact ⟨(f5, (w64 (v10.1 + 1)), (w64 (x3 + 1)), ((x4.set x3.toNat ({ v8 with fRow := v10.2 } : T_impl_Delta)).set x3.toNat ({ v12 with fMany := v10.1 } : T_impl_Delta))), h, Nat.lt_succ_self _, (it (st' := ⟨27, [(0, .ref 0 0 0 2 ((x4.set x3.toNat ({ v8 with fRow := v10.2 } : T_impl_Delta)).set x3.toNat ({ v12 with fMany := v10.1 } : T_impl_Delta)).length false), (1, I (w64 (v10.1 + 1))), (5, I (w64 (x3 + 1)))], [some ⟨0, dL ((x4.set x3.toNat ({ v8 with fRow := v10.2 } : T_impl_Delta)).set x3.toNat ({ v12 with fMany := v10.1 } : T_impl_Delta))⟩, some ⟨2, []⟩]⟩) [0, 1, 5]).trans (Imp.truncS 1 (pl hQ) (by kernel_rfl) (allBelow_mem (by exact (And.intro rfl (And.intro rfl (And.intro rfl trivial))))) (by exact (And.intro (dL_below _ _) trivial)) (by kernel_rfl))⟩
 refine pwp_exit ?_
 refine srve 27 [(4, I x2)] [some ⟨0, dL x4⟩] ?_
 have h := si h
 subst h
 exact pwp_ret ⟨.inr rfl, 0, by kernel_rfl, by kernel_rfl⟩
def laws_heldTallyS_l0 (a0 : List T_impl_Tally) : Nat → Int → Int → Option Int
 | 0, _, _ => none
 | f3 + 1, x1, x2 => bif (decide (x2 < (a0.length : Int))) then (getI a0 x2).bind fun v6 => (laws_heldValueS v6.fKey x1).bind fun v8 => bif (decide (v8 < 0)) then some (-1) else (getI a0 x2).bind fun v11 => bif (!(v11.fRows == v8)) then some (-1) else (getI a0 x2).bind fun v14 => bif (!(v14.fMany == (w64 (v8 + 1)))) then some (-1) else (getI a0 x2).bind fun v17 => bif (!(v17.fSum == (w64 ((w64 (v8 + 1)) + 1)))) then some (-1) else (laws_heldTallyS_l0 a0 f3) (w64 ((w64 ((w64 (v8 + 1)) + 1)) + 1)) (w64 (x2 + 1)) else some x1
def laws_heldTallyS (a0 : List T_impl_Tally) (a1 : Int) : Option Int := laws_heldTallyS_l0 a0 FUEL a1 0
theorem ok_laws_heldTallyS {a0 : List T_impl_Tally} {a1 : Int} {y : Int} (h : laws_heldTallyS a0 a1 = some y) : OK Try.prog 35 [A a0, I a1] (I y) := by
 refine ow Try.func35 fun Γ hX => ?_
 unfold laws_heldTallyS at h
 refine srve 49 [(0, A a0), (1, I a1)] [] ?_
 refine pwp_seq ?_
 refine srve 49 [(0, A a0), (1, I a1), (5, I 0)] [] ?_
 refine pwp_block ?_
 refine pwp_loop (ι := Nat × Int × Int) (fun (f3, x1, x2) => (⟨49, [(0, A a0), (1, I x1), (5, I x2)], []⟩ : St)) (fun (f3, x1, x2) => laws_heldTallyS_l0 a0 f3 x1 x2 = some y) Prod.fst (FUEL, a1, 0) h (it [0, 1, 5]) ?_
 rintro ⟨f3, x1, x2⟩ h
 dsimp only at h ⊢
 rcases f3 with _ | f3
 cases h
 rw [laws_heldTallyS_l0] at h
 refine pwp_seq ?_
 refine srve 49 [(0, A a0), (1, I x1), (5, I x2), (9, B (decide (x2 < (a0.length : Int))))] [] ?_
 refine pc h (fun h => ?_) (fun h => ?_)
 refine pwp_skip ?_
 refine pwp_seq ?_
 refine pwp_block ?_
 refine srv 2 49 [(0, A a0), (1, I x1), (5, I x2), (12, A a0), (13, I x2)] [] ?_
 obtain ⟨v6, hv7, h⟩ := bindS h
 refine opsP_idx τ_ok 14 hv7 (by kernel_rfl) ?_
 refine v 3 49 [(0, A a0), (5, I x2), (16, A v6.fKey), (17, I x1)] [] ?_
 obtain ⟨v8, hv9, h⟩ := bindS h
 refine cF 18 (ok_laws_heldValueS hv9) ?_
 refine ve 1 49 [(0, A a0), (1, I v8), (5, I x2)] [] ?_
 refine pwp_seq ?_
 refine srve 49 [(0, A a0), (1, I v8), (5, I x2), (20, B (decide (v8 < 0)))] [] ?_
 refine pc h (fun h => ?_) (fun h => ?_)
 refine srve 49 [(4, I (-1))] [] ?_
 cases h
 exact pwp_ret rz
 refine pwp_skip ?_
 refine pwp_seq ?_
 refine srv 2 49 [(0, A a0), (1, I v8), (5, I x2), (21, A a0), (22, I x2)] [] ?_
 obtain ⟨v11, hv12, h⟩ := bindS h
 refine opsP_idx τ_ok 23 hv12 (by kernel_rfl) ?_
 refine ve 4 49 [(0, A a0), (1, I v8), (5, I x2), (27, B (!(v11.fRows == v8)))] [] ?_
 refine pc h (fun h => ?_) (fun h => ?_)
 refine srve 49 [(4, I (-1))] [] ?_
 cases h
 exact pwp_ret rz
 refine pwp_skip ?_
 refine srve 49 [(0, A a0), (1, I (w64 (v8 + 1))), (5, I x2)] [] ?_
 refine pwp_seq ?_
 refine srv 2 49 [(0, A a0), (1, I (w64 (v8 + 1))), (5, I x2), (30, A a0), (31, I x2)] [] ?_
 obtain ⟨v14, hv15, h⟩ := bindS h
 refine opsP_idx τ_ok 32 hv15 (by kernel_rfl) ?_
 refine ve 4 49 [(0, A a0), (1, I (w64 (v8 + 1))), (5, I x2), (36, B (!(v14.fMany == (w64 (v8 + 1)))))] [] ?_
 refine pc h (fun h => ?_) (fun h => ?_)
 refine srve 49 [(4, I (-1))] [] ?_
 cases h
 exact pwp_ret rz
 refine pwp_skip ?_
 refine srve 49 [(0, A a0), (1, I (w64 ((w64 (v8 + 1)) + 1))), (5, I x2)] [] ?_
 refine pwp_seq ?_
 refine srv 2 49 [(0, A a0), (1, I (w64 ((w64 (v8 + 1)) + 1))), (5, I x2), (39, A a0), (40, I x2)] [] ?_
 obtain ⟨v17, hv18, h⟩ := bindS h
 refine opsP_idx τ_ok 41 hv18 (by kernel_rfl) ?_
 refine ve 4 49 [(0, A a0), (1, I (w64 ((w64 (v8 + 1)) + 1))), (5, I x2), (45, B (!(v17.fSum == (w64 ((w64 (v8 + 1)) + 1)))))] [] ?_
 refine pc h (fun h => ?_) (fun h => ?_)
 refine srve 49 [(4, I (-1))] [] ?_
 cases h
 exact pwp_ret rz
 refine pwp_skip ?_
 refine rve 49 [(0, A a0), (1, I (w64 ((w64 ((w64 (v8 + 1)) + 1)) + 1))), (5, I x2)] [] ?_
 refine rve 49 [(0, A a0), (1, I (w64 ((w64 ((w64 (v8 + 1)) + 1)) + 1))), (5, I (w64 (x2 + 1)))] [] ?_
 exact ⟨(f3, (w64 ((w64 ((w64 (v8 + 1)) + 1)) + 1)), (w64 (x2 + 1))), h, Nat.lt_succ_self _, it [0, 1, 5]⟩
 refine pwp_exit ?_
 refine srve 49 [(4, I x1)] [] ?_
 cases h
 exact pwp_ret rz
def spec_RowOk_l0 (a0 : List T_impl_Value) : Nat → Int → Option Bool
 | 0, _ => none
 | f2 + 1, x1 => bif (decide (x1 < (a0.length : Int))) then (getI a0 x1).bind fun v5 => (spec_ValueOk v5).bind fun v7 => bif (!v7) then some false else (spec_RowOk_l0 a0 f2) (w64 (x1 + 1)) else some (decide ((a0.length : Int) ≤ 4))
def spec_RowOk (a0 : List T_impl_Value) : Option Bool := spec_RowOk_l0 a0 FUEL 0
theorem ok_spec_RowOk {a0 : List T_impl_Value} {y : Bool} (h : spec_RowOk a0 = some y) : OK Try.prog 49 [A a0] (B y) := by
 refine ow Try.func49 fun Γ hX => ?_
 unfold spec_RowOk at h
 refine srve 19 [(0, A a0)] [] ?_
 refine pwp_seq ?_
 refine srve 19 [(0, A a0), (3, I 0)] [] ?_
 refine pwp_block ?_
 refine pwp_loop (ι := Nat × Int) (fun (f2, x1) => (⟨19, [(0, A a0), (3, I x1)], []⟩ : St)) (fun (f2, x1) => spec_RowOk_l0 a0 f2 x1 = some y) Prod.fst (FUEL, 0) h (it [0, 3]) ?_
 rintro ⟨f2, x1⟩ h
 dsimp only at h ⊢
 rcases f2 with _ | f2
 cases h
 rw [spec_RowOk_l0] at h
 refine pwp_seq ?_
 refine srve 19 [(0, A a0), (3, I x1), (7, B (decide (x1 < (a0.length : Int))))] [] ?_
 refine pc h (fun h => ?_) (fun h => ?_)
 refine pwp_skip ?_
 refine pwp_seq ?_
 refine pwp_block ?_
 refine srv 2 19 [(0, A a0), (3, I x1), (10, A a0), (11, I x1)] [] ?_
 obtain ⟨v5, hv6, h⟩ := bindS h
 refine opsP_idx τ_ok 12 hv6 (by kernel_rfl) ?_
 refine v 1 19 [(0, A a0), (3, I x1), (13, E v5)] [] ?_
 obtain ⟨v7, hv8, h⟩ := bindS h
 refine cF 14 (ok_spec_ValueOk hv8) ?_
 refine ve 1 19 [(0, A a0), (3, I x1), (15, B (!v7))] [] ?_
 refine pc h (fun h => ?_) (fun h => ?_)
 refine srve 19 [(2, B false)] [] ?_
 cases h
 exact pwp_ret rz
 refine pwp_skip ?_
 refine rve 19 [(0, A a0), (3, I (w64 (x1 + 1)))] [] ?_
 exact ⟨(f2, (w64 (x1 + 1))), h, Nat.lt_succ_self _, it [0, 3]⟩
 refine pwp_exit ?_
 refine srve 19 [(2, B (decide ((a0.length : Int) ≤ 4)))] [] ?_
 cases h
 exact pwp_ret rz
def spec_l32Row (a0 : List T_impl_Value) : Option Bool := (spec_RowOk a0).bind fun v1 => bif v1 then bif ((a0.length : Int) == 2) then (getI a0 1).bind fun v3 => bif (v3.fKind == 1) then some true else (getI a0 1).bind fun v5 => some (v5.fKind == 0) else some false else some false
theorem ok_spec_l32Row {a0 : List T_impl_Value} {y : Bool} (h : spec_l32Row a0 = some y) : OK Try.prog 72 [A a0] (B y) := by
 refine ow Try.func72 fun Γ hX => ?_
 unfold spec_l32Row at h
 refine srve 24 [(0, A a0)] [] ?_
 refine srv 1 24 [(0, A a0), (3, A a0)] [] ?_
 obtain ⟨v1, hv2, h⟩ := bindS h
 refine cF 4 (ok_spec_RowOk hv2) ?_
 refine v 1 24 [(0, A a0), (5, B v1)] [] ?_
 rcases Bool.eq_false_or_eq_true v1 with hc9 | hc9
 replace h := bT hc9 h
 rw [hc9]
 refine v 5 24 [(0, A a0), (10, B ((a0.length : Int) == 2))] [] ?_
 rcases fk ((a0.length : Int) == 2) with hc8 | hc8
 replace h := bT hc8 h
 rw [hc8]
 refine v 1 24 [(0, A a0), (10, B true), (11, A a0)] [] ?_
 obtain ⟨v3, hv4, h⟩ := bindS h
 refine opsP_idx τ_ok 12 hv4 (by kernel_rfl) ?_
 refine v 4 24 [(0, A a0), (10, B true), (16, B (v3.fKind == 1))] [] ?_
 rcases fk (v3.fKind == 1) with hc7 | hc7
 replace h := bT hc7 h
 rw [hc7]
 refine ve 8 24 [(2, B true)] [] ?_
 cases h
 exact pwp_ret rz
 replace h := bF hc7 h
 rw [hc7]
 refine v 1 24 [(10, B true), (16, B false), (17, A a0)] [] ?_
 obtain ⟨v5, hv6, h⟩ := bindS h
 refine opsP_idx τ_ok 18 hv6 (by kernel_rfl) ?_
 refine ve 6 24 [(2, B (v5.fKind == 0))] [] ?_
 cases h
 exact pwp_ret rz
 replace h := bF hc8 h
 rw [hc8]
 refine ve 14 24 [(2, B false)] [] ?_
 cases h
 exact pwp_ret rz
 replace h := bF hc9 h
 rw [hc9]
 refine ve 19 24 [(2, B false)] [] ?_
 cases h
 exact pwp_ret rz
def laws_szTally (a0 : T_laws_Tally) (a1 : Int) : Option Int := (laws_szValueS a0.fKey a1).bind fun v1 => bif (decide (v1 < 0)) then some (-1) else some v1
theorem ok_laws_szTally {a0 : T_laws_Tally} {a1 : Int} {y : Int} (h : laws_szTally a0 a1 = some y) : OK Try.prog 75 [E a0, I a1] (I y) := by
 refine ow Try.func75 fun Γ hX => ?_
 unfold laws_szTally at h
 refine srve 12 [(1, I a1), (2, pf a0 0)] [] ?_
 refine srv 3 12 [(6, A a0.fKey), (7, I a1)] [] ?_
 obtain ⟨v1, hv2, h⟩ := bindS h
 refine cF 8 (ok_laws_szValueS hv2) ?_
 refine ve 1 12 [(1, I v1)] [] ?_
 refine pwp_seq ?_
 refine srve 12 [(1, I v1), (10, B (decide (v1 < 0)))] [] ?_
 refine pc h (fun h => ?_) (fun h => ?_)
 refine srve 12 [(4, I (-1))] [] ?_
 cases h
 exact pwp_ret rz
 refine pwp_skip ?_
 refine srve 12 [(4, I v1)] [] ?_
 cases h
 exact pwp_ret rz
def laws_szDelta (a0 : T_laws_Delta) (a1 : Int) : Option Int := (laws_szValueS a0.fRow a1).bind fun v1 => bif (decide (v1 < 0)) then some (-1) else some v1
theorem ok_laws_szDelta {a0 : T_laws_Delta} {a1 : Int} {y : Int} (h : laws_szDelta a0 a1 = some y) : OK Try.prog 76 [E a0, I a1] (I y) := by
 refine ow Try.func76 fun Γ hX => ?_
 unfold laws_szDelta at h
 refine srve 12 [(1, I a1), (2, pf a0 0)] [] ?_
 refine srv 3 12 [(6, A a0.fRow), (7, I a1)] [] ?_
 obtain ⟨v1, hv2, h⟩ := bindS h
 refine cF 8 (ok_laws_szValueS hv2) ?_
 refine ve 1 12 [(1, I v1)] [] ?_
 refine pwp_seq ?_
 refine srve 12 [(1, I v1), (10, B (decide (v1 < 0)))] [] ?_
 refine pc h (fun h => ?_) (fun h => ?_)
 refine srve 12 [(4, I (-1))] [] ?_
 cases h
 exact pwp_ret rz
 refine pwp_skip ?_
 refine srve 12 [(4, I v1)] [] ?_
 cases h
 exact pwp_ret rz
def laws_eqTally (a0 : T_impl_Tally) (a1 : T_impl_Tally) : Option Bool := (laws_eqValueS a0.fKey a1.fKey).bind fun v1 => bif (!v1) then some false else bif (!(a0.fRows == a1.fRows)) then some false else bif (!(a0.fMany == a1.fMany)) then some false else bif (!(a0.fSum == a1.fSum)) then some false else some true
theorem ok_laws_eqTally {a0 : T_impl_Tally} {a1 : T_impl_Tally} {y : Bool} (h : laws_eqTally a0 a1 = some y) : OK Try.prog 81 [E a0, E a1] (B y) := by
 refine ow Try.func81 fun Γ hX => ?_
 unfold laws_eqTally at h
 refine srve 26 [(2, pf a0 0), (3, pf a1 0)] [] ?_
 refine pwp_seq ?_
 refine srv 4 26 [(2, pf a0 0), (3, pf a1 0), (6, A a0.fKey), (8, A a1.fKey)] [] ?_
 obtain ⟨v1, hv2, h⟩ := bindS h
 refine cF 9 (ok_laws_eqValueS hv2) ?_
 refine ve 1 26 [(2, pf a0 0), (3, pf a1 0), (10, B (!v1))] [] ?_
 refine pc h (fun h => ?_) (fun h => ?_)
 refine srve 26 [(4, B false)] [] ?_
 cases h
 exact pwp_ret rz
 refine pwp_skip ?_
 refine pwp_seq ?_
 refine srve 26 [(2, pf a0 0), (3, pf a1 0), (15, B (!(a0.fRows == a1.fRows)))] [] ?_
 refine pc h (fun h => ?_) (fun h => ?_)
 refine srve 26 [(4, B false)] [] ?_
 cases h
 exact pwp_ret rz
 refine pwp_skip ?_
 refine pwp_seq ?_
 refine srve 26 [(2, pf a0 0), (3, pf a1 0), (20, B (!(a0.fMany == a1.fMany)))] [] ?_
 refine pc h (fun h => ?_) (fun h => ?_)
 refine srve 26 [(4, B false)] [] ?_
 cases h
 exact pwp_ret rz
 refine pwp_skip ?_
 refine pwp_seq ?_
 refine srve 26 [(25, B (!(a0.fSum == a1.fSum)))] [] ?_
 refine pc h (fun h => ?_) (fun h => ?_)
 refine srve 26 [(4, B false)] [] ?_
 cases h
 exact pwp_ret rz
 refine pwp_skip ?_
 refine srve 26 [(4, B true)] [] ?_
 cases h
 exact pwp_ret rz
def laws_eqDelta (a0 : T_impl_Delta) (a1 : T_impl_Delta) : Option Bool := (laws_eqValueS a0.fRow a1.fRow).bind fun v1 => bif (!v1) then some false else bif (!(a0.fMany == a1.fMany)) then some false else some true
theorem ok_laws_eqDelta {a0 : T_impl_Delta} {a1 : T_impl_Delta} {y : Bool} (h : laws_eqDelta a0 a1 = some y) : OK Try.prog 82 [E a0, E a1] (B y) := by
 refine ow Try.func82 fun Γ hX => ?_
 unfold laws_eqDelta at h
 refine srve 16 [(2, pf a0 0), (3, pf a1 0)] [] ?_
 refine pwp_seq ?_
 refine srv 4 16 [(2, pf a0 0), (3, pf a1 0), (6, A a0.fRow), (8, A a1.fRow)] [] ?_
 obtain ⟨v1, hv2, h⟩ := bindS h
 refine cF 9 (ok_laws_eqValueS hv2) ?_
 refine ve 1 16 [(2, pf a0 0), (3, pf a1 0), (10, B (!v1))] [] ?_
 refine pc h (fun h => ?_) (fun h => ?_)
 refine srve 16 [(4, B false)] [] ?_
 cases h
 exact pwp_ret rz
 refine pwp_skip ?_
 refine pwp_seq ?_
 refine srve 16 [(15, B (!(a0.fMany == a1.fMany)))] [] ?_
 refine pc h (fun h => ?_) (fun h => ?_)
 refine srve 16 [(4, B false)] [] ?_
 cases h
 exact pwp_ret rz
 refine pwp_skip ?_
 refine srve 16 [(4, B true)] [] ?_
 cases h
 exact pwp_ret rz
def impl_RowOk_1 (a0 : T_impl_Value) : Option Bool := (impl_Value_ok a0).bind fun v1 => some (!v1)
theorem ok_impl_RowOk_1 {a0 : T_impl_Value} {y : Bool} (h : impl_RowOk_1 a0 = some y) : OK Try.prog 110 [E a0] (B y) := by
 refine ow Try.func110 fun Γ hX => ?_
 unfold impl_RowOk_1 at h
 refine srve 6 [(1, pf a0 0)] [] ?_
 refine srv 1 6 [(3, E a0)] [] ?_
 obtain ⟨v1, hv2, h⟩ := bindS h
 refine cF 4 (ok_impl_Value_ok hv2) ?_
 refine ve 2 6 [(2, B (!v1))] [] ?_
 cases h
 exact pwp_ret rz
def spec_RowOrder_j2 (a0 : List T_impl_Value) (a1 : List T_impl_Value) (x3 : Int) (K5 : Int → Option Int) (x6 : Bool) : Option Int := bif x6 then (getI a0 x3).bind fun v8 => (getI a1 x3).bind fun v10 => (spec_ValueOrder v8 v10).bind fun v12 => bif (!(v12 == 0)) then some v12 else K5 (w64 (x3 + 1)) else (spec_l1Less (a1.length : Int) (a0.length : Int)).bind fun v15 => (spec_l1Less (a0.length : Int) (a1.length : Int)).bind fun v17 => some (w64 (v15 - v17))
def spec_RowOrder_l1 (a0 : List T_impl_Value) (a1 : List T_impl_Value) : Nat → Int → Option Int
 | 0, _ => none
 | f4 + 1, x3 => bif (decide (x3 < (a0.length : Int))) then spec_RowOrder_j2 a0 a1 x3 (spec_RowOrder_l1 a0 a1 f4) (decide (x3 < (a1.length : Int))) else spec_RowOrder_j2 a0 a1 x3 (spec_RowOrder_l1 a0 a1 f4) false
def spec_RowOrder_j0 (a0 : List T_impl_Value) (a1 : List T_impl_Value) (x1 : Bool) : Option Int := bif x1 then some 0 else spec_RowOrder_l1 a0 a1 FUEL 0
def spec_RowOrder (a0 : List T_impl_Value) (a1 : List T_impl_Value) : Option Int := (spec_RowOk a0).bind fun v20 => bif (!v20) then spec_RowOrder_j0 a0 a1 true else (spec_RowOk a1).bind fun v22 => spec_RowOrder_j0 a0 a1 (!v22)
theorem ok_spec_RowOrder {a0 : List T_impl_Value} {a1 : List T_impl_Value} {y : Int} (h : spec_RowOrder a0 a1 = some y) : OK Try.prog 121 [A a0, A a1] (I y) := by
 refine ow Try.func121 fun Γ hX => ?_
 unfold spec_RowOrder at h
 refine srve 50 [(0, A a0), (1, A a1)] [] ?_
 refine pwp_seq ?_
 refine pwp_seq ?_
 refine pwp_join (σ := Bool) (fun x1 => (⟨50, [(0, A a0), (1, A a1), (14, B x1)], []⟩ : St)) (fun x1 => spec_RowOrder_j0 a0 a1 x1 = some y) ?_ ?_
 refine rv 1 50 [(0, A a0), (1, A a1), (7, A a0)] [] ?_
 obtain ⟨v20, hv21, h⟩ := bindS h
 refine cF 8 (ok_spec_RowOk hv21) ?_
 refine v 2 50 [(0, A a0), (1, A a1), (10, B (!v20))] [] ?_
 rcases fk (!v20) with hc24 | hc24
 replace h := bT hc24 h
 rw [hc24]
 refine ve 4 50 [(0, A a0), (1, A a1), (14, B true)] [] ?_
 exact ⟨true, h, it [0, 1, 14]⟩
 replace h := bF hc24 h
 rw [hc24]
 refine v 1 50 [(0, A a0), (1, A a1), (10, B false), (11, A a1)] [] ?_
 obtain ⟨v22, hv23, h⟩ := bindS h
 refine cF 12 (ok_spec_RowOk hv23) ?_
 refine ve 2 50 [(0, A a0), (1, A a1), (14, B (!v22))] [] ?_
 exact ⟨(!v22), h, it [0, 1, 14]⟩
 rintro x1 h
 unfold spec_RowOrder_j0 at h
 refine pc h (fun h => ?_) (fun h => ?_)
 refine srve 50 [(4, I 0)] [] ?_
 cases h
 exact pwp_ret rz
 refine pwp_skip ?_
 refine pwp_seq ?_
 refine srve 50 [(0, A a0), (1, A a1), (5, I 0)] [] ?_
 refine pwp_block ?_
 refine pwp_loop (ι := Nat × Int) (fun (f4, x3) => (⟨50, [(0, A a0), (1, A a1), (5, I x3)], []⟩ : St)) (fun (f4, x3) => spec_RowOrder_l1 a0 a1 f4 x3 = some y) Prod.fst (FUEL, 0) h (it [0, 1, 5]) ?_
 rintro ⟨f4, x3⟩ h
 dsimp only at h ⊢
 rcases f4 with _ | f4
 cases h
 rw [spec_RowOrder_l1] at h
 refine pwp_seq ?_
 refine pwp_seq ?_
 refine pwp_join (σ := Bool) (fun x6 => (⟨50, [(0, A a0), (1, A a1), (5, I x3), (24, B x6)], []⟩ : St)) (fun x6 => spec_RowOrder_j2 a0 a1 x3 (spec_RowOrder_l1 a0 a1 f4) x6 = some y) ?_ ?_
 refine rv 5 50 [(0, A a0), (1, A a1), (5, I x3), (19, B (decide (x3 < (a0.length : Int))))] [] ?_
 rcases fk (decide (x3 < (a0.length : Int))) with hc19 | hc19
 replace h := bT hc19 h
 rw [hc19]
 refine ve 5 50 [(0, A a0), (1, A a1), (5, I x3), (20, I x3), (21, A a1), (22, I (a1.length : Int)), (23, B (decide (x3 < (a1.length : Int)))), (24, B (decide (x3 < (a1.length : Int))))] [] ?_
 exact ⟨(decide (x3 < (a1.length : Int))), h, it [0, 1, 5, 24]⟩
 replace h := bF hc19 h
 rw [hc19]
 refine ve 5 50 [(0, A a0), (1, A a1), (5, I x3), (20, .lit undef), (21, .lit undef), (22, .lit undef), (23, .lit undef), (24, B false)] [] ?_
 exact ⟨false, h, it [0, 1, 5, 24]⟩
 rintro x6 h
 unfold spec_RowOrder_j2 at h
 refine pc h (fun h => ?_) (fun h => ?_)
 refine pwp_skip ?_
 refine pwp_seq ?_
 refine pwp_block ?_
 refine pwp_seq ?_
 refine ip 50 [(0, A a0), (1, A a1), (5, I x3)] [] ?_
 refine pN 10 ?_
 refine qv [] trivial 2 50 [(28, I x3), (27, A a0), (0, A a0), (1, A a1), (5, I x3)] [] ?_
 obtain ⟨v8, hv9, h⟩ := bindS h
 refine qX (some 29) (pf v8 0) 50 [(29, pf v8 0), (0, A a0), (1, A a1), (5, I x3)] [] (fun Γ' hΓ => CoreE.of_y (idxV_sound τ_ok (by kernel_rfl) hv9)) trivial ?_
 refine qv [] trivial 3 50 [(32, I x3), (31, A a1), (30, E v8), (0, A a0), (1, A a1), (5, I x3)] [] ?_
 obtain ⟨v10, hv11, h⟩ := bindS h
 refine qX (some 33) (pf v10 0) 50 [(33, pf v10 0), (30, E v8), (0, A a0), (1, A a1), (5, I x3)] [] (fun Γ' hΓ => CoreE.of_y (idxV_sound τ_ok (by kernel_rfl) hv11)) trivial ?_
 refine qv [] trivial 1 50 [(34, E v10), (30, E v8), (0, A a0), (1, A a1), (5, I x3)] [] ?_
 obtain ⟨v12, hv13, h⟩ := bindS h
 refine qX (some 35) (I v12) 50 [(35, I v12), (0, A a0), (1, A a1), (5, I x3)] [] (fun Γ' hΓ => CoreE.of_g (callV_sound (τ := τ) (by kernel_rfl) rfl (ok_spec_ValueOrder hv13) (FzTo.frz rfl))) trivial ?_
 refine qvn [] trivial 1 50 [(0, A a0), (1, A a1), (5, I x3), (6, I v12)] [] ?_
 refine srve 50 [(0, A a0), (1, A a1), (5, I x3), (6, I v12), (37, B (!(v12 == 0)))] [] ?_
 refine pc h (fun h => ?_) (fun h => ?_)
 refine srve 50 [(4, I v12)] [] ?_
 cases h
 exact pwp_ret rz
 refine pwp_skip ?_
 refine rve 50 [(0, A a0), (1, A a1), (5, I (w64 (x3 + 1)))] [] ?_
 exact ⟨(f4, (w64 (x3 + 1))), h, Nat.lt_succ_self _, it [0, 1, 5]⟩
 refine pwp_exit ?_
 refine srv 4 50 [(0, A a0), (1, A a1), (40, I (a1.length : Int)), (42, I (a0.length : Int))] [] ?_
 obtain ⟨v15, hv16, h⟩ := bindS h
 refine cF 43 (ok_spec_l1Less hv16) ?_
 refine v 4 50 [(43, I v15), (45, I (a0.length : Int)), (47, I (a1.length : Int))] [] ?_
 obtain ⟨v17, hv18, h⟩ := bindS h
 refine cF 48 (ok_spec_l1Less hv18) ?_
 refine ve 2 50 [(4, I (w64 (v15 - v17)))] [] ?_
 cases h
 exact pwp_ret rz
def impl_Value_order (a0 : T_impl_Value) (a1 : T_impl_Value) : Option Int := (cmp_Compare_int a0.fKind a1.fKind).bind fun v1 => (cmp_Compare_int a0.fN a1.fN).bind fun v3 => (cmp_Compare_string a0.fS a1.fS).bind fun v5 => (cmp_Or_int ([v1, v3, v5])).bind fun v7 => some v7
theorem ok_impl_Value_order {a0 : T_impl_Value} {a1 : T_impl_Value} {y : Int} (h : impl_Value_order a0 a1 = some y) : OK Try.prog 152 [E a0, E a1] (I y) := by
 refine ow Try.func152 fun Γ hX => ?_
 unfold impl_Value_order at h
 refine srve 22 [(2, pf a0 0), (3, pf a1 0)] [] ?_
 refine pwp_seq ?_
 refine ip 22 [(2, pf a0 0), (3, pf a1 0)] [] ?_
 refine pN 18 ?_
 refine qv [] trivial 4 22 [(8, I a1.fKind), (6, I a0.fKind), (2, pf a0 0), (3, pf a1 0)] [] ?_
 obtain ⟨v1, hv2, h⟩ := bindS h
 refine qX (some 9) (I v1) 22 [(9, I v1), (2, pf a0 0), (3, pf a1 0)] [] (fun Γ' hΓ => CoreE.of_g (callV_sound (τ := τ) (by kernel_rfl) rfl (ok_cmp_Compare_int hv2) (FzTo.frz rfl))) trivial ?_
 refine qv [] trivial 4 22 [(13, I a1.fN), (11, I a0.fN), (9, I v1), (2, pf a0 0), (3, pf a1 0)] [] ?_
 obtain ⟨v3, hv4, h⟩ := bindS h
 refine qX (some 14) (I v3) 22 [(14, I v3), (9, I v1), (2, pf a0 0), (3, pf a1 0)] [] (fun Γ' hΓ => CoreE.of_g (callV_sound (τ := τ) (by kernel_rfl) rfl (ok_cmp_Compare_int hv4) (FzTo.frz rfl))) trivial ?_
 refine qv [] trivial 4 22 [(18, S a1.fS), (16, S a0.fS), (14, I v3), (9, I v1)] [] ?_
 obtain ⟨v5, hv6, h⟩ := bindS h
 refine qX (some 19) (I v5) 22 [(19, I v5), (14, I v3), (9, I v1)] [] (fun Γ' hΓ => CoreE.of_g (callV_sound (τ := τ) (by kernel_rfl) rfl (ok_cmp_Compare_string hv6) (FzTo.frz rfl))) trivial ?_
 refine qv [] trivial 1 22 [(20, .arr 1 ([v1, v3, v5] : List Int).length (eL ([v1, v3, v5] : List Int)) true)] [] ?_
 obtain ⟨v7, hv8, h⟩ := bindS h
 refine qX (some 21) (I v7) 22 [(21, I v7)] [] (fun Γ' hΓ => CoreE.of_g (callV_sound (τ := τ) (by kernel_rfl) rfl (ok_cmp_Or_int hv8) (FzTo.frz rfl))) trivial ?_
 refine qvn [] trivial 1 22 [(4, I v7)] [] ?_
 cases h
 exact pwp_ret rz
def laws_szTallyS_l0 (a0 : List T_laws_Tally) : Nat → Int → Int → Option Int
 | 0, _, _ => none
 | f4 + 1, x2, x3 => bif (decide (x3 < (a0.length : Int))) then (getI a0 x3).bind fun v7 => (laws_szTally v7 x2).bind fun v9 => bif (decide (v9 < 0)) then some (-1) else (laws_szTallyS_l0 a0 f4) v9 (w64 (x3 + 1)) else some x2
def laws_szTallyS (a0 : List T_laws_Tally) (a1 : Int) : Option Int := bif (decide ((w64 (a1 - (a0.length : Int))) < 0)) then some (-1) else laws_szTallyS_l0 a0 FUEL (w64 (a1 - (a0.length : Int))) 0
theorem ok_laws_szTallyS {a0 : List T_laws_Tally} {a1 : Int} {y : Int} (h : laws_szTallyS a0 a1 = some y) : OK Try.prog 26 [A a0, I a1] (I y) := by
 refine ow Try.func26 fun Γ hX => ?_
 unfold laws_szTallyS at h
 refine srve 27 [(0, A a0), (1, I a1)] [] ?_
 refine srve 27 [(0, A a0), (1, I (w64 (a1 - (a0.length : Int))))] [] ?_
 refine pwp_seq ?_
 refine srve 27 [(0, A a0), (1, I (w64 (a1 - (a0.length : Int)))), (11, B (decide ((w64 (a1 - (a0.length : Int))) < 0)))] [] ?_
 refine pc h (fun h => ?_) (fun h => ?_)
 refine srve 27 [(4, I (-1))] [] ?_
 cases h
 exact pwp_ret rz
 refine pwp_skip ?_
 refine pwp_seq ?_
 refine srve 27 [(0, A a0), (1, I (w64 (a1 - (a0.length : Int)))), (5, I 0)] [] ?_
 refine pwp_block ?_
 refine pwp_loop (ι := Nat × Int × Int) (fun (f4, x2, x3) => (⟨27, [(0, A a0), (1, I x2), (5, I x3)], []⟩ : St)) (fun (f4, x2, x3) => laws_szTallyS_l0 a0 f4 x2 x3 = some y) Prod.fst (FUEL, (w64 (a1 - (a0.length : Int))), 0) h (it [0, 1, 5]) ?_
 rintro ⟨f4, x2, x3⟩ h
 dsimp only at h ⊢
 rcases f4 with _ | f4
 cases h
 rw [laws_szTallyS_l0] at h
 refine pwp_seq ?_
 refine srve 27 [(0, A a0), (1, I x2), (5, I x3), (15, B (decide (x3 < (a0.length : Int))))] [] ?_
 refine pc h (fun h => ?_) (fun h => ?_)
 refine pwp_skip ?_
 refine pwp_seq ?_
 refine pwp_block ?_
 refine srv 2 27 [(0, A a0), (1, I x2), (5, I x3), (18, A a0), (19, I x3)] [] ?_
 obtain ⟨v7, hv8, h⟩ := bindS h
 refine opsP_idx τ_ok 20 hv8 (by kernel_rfl) ?_
 refine v 2 27 [(0, A a0), (5, I x3), (21, E v7), (22, I x2)] [] ?_
 obtain ⟨v9, hv10, h⟩ := bindS h
 refine cF 23 (ok_laws_szTally hv10) ?_
 refine ve 1 27 [(0, A a0), (1, I v9), (5, I x3)] [] ?_
 refine srve 27 [(0, A a0), (1, I v9), (5, I x3), (25, B (decide (v9 < 0)))] [] ?_
 refine pc h (fun h => ?_) (fun h => ?_)
 refine srve 27 [(4, I (-1))] [] ?_
 cases h
 exact pwp_ret rz
 refine pwp_skip ?_
 refine rve 27 [(0, A a0), (1, I v9), (5, I (w64 (x3 + 1)))] [] ?_
 exact ⟨(f4, v9, (w64 (x3 + 1))), h, Nat.lt_succ_self _, it [0, 1, 5]⟩
 refine pwp_exit ?_
 refine srve 27 [(4, I x2)] [] ?_
 cases h
 exact pwp_ret rz
def laws_szDeltaS_l0 (a0 : List T_laws_Delta) : Nat → Int → Int → Option Int
 | 0, _, _ => none
 | f4 + 1, x2, x3 => bif (decide (x3 < (a0.length : Int))) then (getI a0 x3).bind fun v7 => (laws_szDelta v7 x2).bind fun v9 => bif (decide (v9 < 0)) then some (-1) else (laws_szDeltaS_l0 a0 f4) v9 (w64 (x3 + 1)) else some x2
def laws_szDeltaS (a0 : List T_laws_Delta) (a1 : Int) : Option Int := bif (decide ((w64 (a1 - (a0.length : Int))) < 0)) then some (-1) else laws_szDeltaS_l0 a0 FUEL (w64 (a1 - (a0.length : Int))) 0
theorem ok_laws_szDeltaS {a0 : List T_laws_Delta} {a1 : Int} {y : Int} (h : laws_szDeltaS a0 a1 = some y) : OK Try.prog 27 [A a0, I a1] (I y) := by
 refine ow Try.func27 fun Γ hX => ?_
 unfold laws_szDeltaS at h
 refine srve 27 [(0, A a0), (1, I a1)] [] ?_
 refine srve 27 [(0, A a0), (1, I (w64 (a1 - (a0.length : Int))))] [] ?_
 refine pwp_seq ?_
 refine srve 27 [(0, A a0), (1, I (w64 (a1 - (a0.length : Int)))), (11, B (decide ((w64 (a1 - (a0.length : Int))) < 0)))] [] ?_
 refine pc h (fun h => ?_) (fun h => ?_)
 refine srve 27 [(4, I (-1))] [] ?_
 cases h
 exact pwp_ret rz
 refine pwp_skip ?_
 refine pwp_seq ?_
 refine srve 27 [(0, A a0), (1, I (w64 (a1 - (a0.length : Int)))), (5, I 0)] [] ?_
 refine pwp_block ?_
 refine pwp_loop (ι := Nat × Int × Int) (fun (f4, x2, x3) => (⟨27, [(0, A a0), (1, I x2), (5, I x3)], []⟩ : St)) (fun (f4, x2, x3) => laws_szDeltaS_l0 a0 f4 x2 x3 = some y) Prod.fst (FUEL, (w64 (a1 - (a0.length : Int))), 0) h (it [0, 1, 5]) ?_
 rintro ⟨f4, x2, x3⟩ h
 dsimp only at h ⊢
 rcases f4 with _ | f4
 cases h
 rw [laws_szDeltaS_l0] at h
 refine pwp_seq ?_
 refine srve 27 [(0, A a0), (1, I x2), (5, I x3), (15, B (decide (x3 < (a0.length : Int))))] [] ?_
 refine pc h (fun h => ?_) (fun h => ?_)
 refine pwp_skip ?_
 refine pwp_seq ?_
 refine pwp_block ?_
 refine srv 2 27 [(0, A a0), (1, I x2), (5, I x3), (18, A a0), (19, I x3)] [] ?_
 obtain ⟨v7, hv8, h⟩ := bindS h
 refine opsP_idx τ_ok 20 hv8 (by kernel_rfl) ?_
 refine v 2 27 [(0, A a0), (5, I x3), (21, E v7), (22, I x2)] [] ?_
 obtain ⟨v9, hv10, h⟩ := bindS h
 refine cF 23 (ok_laws_szDelta hv10) ?_
 refine ve 1 27 [(0, A a0), (1, I v9), (5, I x3)] [] ?_
 refine srve 27 [(0, A a0), (1, I v9), (5, I x3), (25, B (decide (v9 < 0)))] [] ?_
 refine pc h (fun h => ?_) (fun h => ?_)
 refine srve 27 [(4, I (-1))] [] ?_
 cases h
 exact pwp_ret rz
 refine pwp_skip ?_
 refine rve 27 [(0, A a0), (1, I v9), (5, I (w64 (x3 + 1)))] [] ?_
 exact ⟨(f4, v9, (w64 (x3 + 1))), h, Nat.lt_succ_self _, it [0, 1, 5]⟩
 refine pwp_exit ?_
 refine srve 27 [(4, I x2)] [] ?_
 cases h
 exact pwp_ret rz
def laws_eqTallyS_l0 (a0 : List T_impl_Tally) (a1 : List T_impl_Tally) : Nat → Int → Option Bool
 | 0, _ => none
 | f3 + 1, x2 => bif (decide (x2 < (a0.length : Int))) then (getI a0 x2).bind fun v6 => (getI a1 x2).bind fun v8 => (laws_eqTally v6 v8).bind fun v10 => bif (!v10) then some false else (laws_eqTallyS_l0 a0 a1 f3) (w64 (x2 + 1)) else some true
def laws_eqTallyS (a0 : List T_impl_Tally) (a1 : List T_impl_Tally) : Option Bool := bif (!((a0.length : Int) == (a1.length : Int))) then some false else laws_eqTallyS_l0 a0 a1 FUEL 0
theorem ok_laws_eqTallyS {a0 : List T_impl_Tally} {a1 : List T_impl_Tally} {y : Bool} (h : laws_eqTallyS a0 a1 = some y) : OK Try.prog 31 [A a0, A a1] (B y) := by
 refine ow Try.func31 fun Γ hX => ?_
 unfold laws_eqTallyS at h
 refine srve 27 [(0, A a0), (1, A a1)] [] ?_
 refine pwp_seq ?_
 refine srve 27 [(0, A a0), (1, A a1), (10, B (!((a0.length : Int) == (a1.length : Int))))] [] ?_
 refine pc h (fun h => ?_) (fun h => ?_)
 refine srve 27 [(4, B false)] [] ?_
 cases h
 exact pwp_ret rz
 refine pwp_skip ?_
 refine pwp_seq ?_
 refine srve 27 [(0, A a0), (1, A a1), (5, I 0)] [] ?_
 refine pwp_block ?_
 refine pwp_loop (ι := Nat × Int) (fun (f3, x2) => (⟨27, [(0, A a0), (1, A a1), (5, I x2)], []⟩ : St)) (fun (f3, x2) => laws_eqTallyS_l0 a0 a1 f3 x2 = some y) Prod.fst (FUEL, 0) h (it [0, 1, 5]) ?_
 rintro ⟨f3, x2⟩ h
 dsimp only at h ⊢
 rcases f3 with _ | f3
 cases h
 rw [laws_eqTallyS_l0] at h
 refine pwp_seq ?_
 refine srve 27 [(0, A a0), (1, A a1), (5, I x2), (14, B (decide (x2 < (a0.length : Int))))] [] ?_
 refine pc h (fun h => ?_) (fun h => ?_)
 refine pwp_skip ?_
 refine pwp_seq ?_
 refine pwp_block ?_
 refine pwp_seq ?_
 refine ip 27 [(0, A a0), (1, A a1), (5, I x2)] [] ?_
 refine pN 10 ?_
 refine qv [] trivial 2 27 [(18, I x2), (17, A a0), (0, A a0), (1, A a1), (5, I x2)] [] ?_
 obtain ⟨v6, hv7, h⟩ := bindS h
 refine qX (some 19) (pf v6 0) 27 [(19, pf v6 0), (0, A a0), (1, A a1), (5, I x2)] [] (fun Γ' hΓ => CoreE.of_y (idxV_sound τ_ok (by kernel_rfl) hv7)) trivial ?_
 refine qv [] trivial 3 27 [(22, I x2), (21, A a1), (20, E v6), (0, A a0), (1, A a1), (5, I x2)] [] ?_
 obtain ⟨v8, hv9, h⟩ := bindS h
 refine qX (some 23) (pf v8 0) 27 [(23, pf v8 0), (20, E v6), (0, A a0), (1, A a1), (5, I x2)] [] (fun Γ' hΓ => CoreE.of_y (idxV_sound τ_ok (by kernel_rfl) hv9)) trivial ?_
 refine qv [] trivial 1 27 [(24, E v8), (20, E v6), (0, A a0), (1, A a1), (5, I x2)] [] ?_
 obtain ⟨v10, hv11, h⟩ := bindS h
 refine qX (some 25) (B v10) 27 [(25, B v10), (0, A a0), (1, A a1), (5, I x2)] [] (fun Γ' hΓ => CoreE.of_g (callV_sound (τ := τ) (by kernel_rfl) rfl (ok_laws_eqTally hv11) (FzTo.frz rfl))) trivial ?_
 refine qvn [] trivial 1 27 [(0, A a0), (1, A a1), (5, I x2), (26, B (!v10))] [] ?_
 refine pc h (fun h => ?_) (fun h => ?_)
 refine srve 27 [(4, B false)] [] ?_
 cases h
 exact pwp_ret rz
 refine pwp_skip ?_
 refine rve 27 [(0, A a0), (1, A a1), (5, I (w64 (x2 + 1)))] [] ?_
 exact ⟨(f3, (w64 (x2 + 1))), h, Nat.lt_succ_self _, it [0, 1, 5]⟩
 refine pwp_exit ?_
 refine srve 27 [(4, B true)] [] ?_
 cases h
 exact pwp_ret rz
def laws_eqDeltaS_l0 (a0 : List T_impl_Delta) (a1 : List T_impl_Delta) : Nat → Int → Option Bool
 | 0, _ => none
 | f3 + 1, x2 => bif (decide (x2 < (a0.length : Int))) then (getI a0 x2).bind fun v6 => (getI a1 x2).bind fun v8 => (laws_eqDelta v6 v8).bind fun v10 => bif (!v10) then some false else (laws_eqDeltaS_l0 a0 a1 f3) (w64 (x2 + 1)) else some true
def laws_eqDeltaS (a0 : List T_impl_Delta) (a1 : List T_impl_Delta) : Option Bool := bif (!((a0.length : Int) == (a1.length : Int))) then some false else laws_eqDeltaS_l0 a0 a1 FUEL 0
theorem ok_laws_eqDeltaS {a0 : List T_impl_Delta} {a1 : List T_impl_Delta} {y : Bool} (h : laws_eqDeltaS a0 a1 = some y) : OK Try.prog 32 [A a0, A a1] (B y) := by
 refine ow Try.func32 fun Γ hX => ?_
 unfold laws_eqDeltaS at h
 refine srve 27 [(0, A a0), (1, A a1)] [] ?_
 refine pwp_seq ?_
 refine srve 27 [(0, A a0), (1, A a1), (10, B (!((a0.length : Int) == (a1.length : Int))))] [] ?_
 refine pc h (fun h => ?_) (fun h => ?_)
 refine srve 27 [(4, B false)] [] ?_
 cases h
 exact pwp_ret rz
 refine pwp_skip ?_
 refine pwp_seq ?_
 refine srve 27 [(0, A a0), (1, A a1), (5, I 0)] [] ?_
 refine pwp_block ?_
 refine pwp_loop (ι := Nat × Int) (fun (f3, x2) => (⟨27, [(0, A a0), (1, A a1), (5, I x2)], []⟩ : St)) (fun (f3, x2) => laws_eqDeltaS_l0 a0 a1 f3 x2 = some y) Prod.fst (FUEL, 0) h (it [0, 1, 5]) ?_
 rintro ⟨f3, x2⟩ h
 dsimp only at h ⊢
 rcases f3 with _ | f3
 cases h
 rw [laws_eqDeltaS_l0] at h
 refine pwp_seq ?_
 refine srve 27 [(0, A a0), (1, A a1), (5, I x2), (14, B (decide (x2 < (a0.length : Int))))] [] ?_
 refine pc h (fun h => ?_) (fun h => ?_)
 refine pwp_skip ?_
 refine pwp_seq ?_
 refine pwp_block ?_
 refine pwp_seq ?_
 refine ip 27 [(0, A a0), (1, A a1), (5, I x2)] [] ?_
 refine pN 10 ?_
 refine qv [] trivial 2 27 [(18, I x2), (17, A a0), (0, A a0), (1, A a1), (5, I x2)] [] ?_
 obtain ⟨v6, hv7, h⟩ := bindS h
 refine qX (some 19) (pf v6 0) 27 [(19, pf v6 0), (0, A a0), (1, A a1), (5, I x2)] [] (fun Γ' hΓ => CoreE.of_y (idxV_sound τ_ok (by kernel_rfl) hv7)) trivial ?_
 refine qv [] trivial 3 27 [(22, I x2), (21, A a1), (20, E v6), (0, A a0), (1, A a1), (5, I x2)] [] ?_
 obtain ⟨v8, hv9, h⟩ := bindS h
 refine qX (some 23) (pf v8 0) 27 [(23, pf v8 0), (20, E v6), (0, A a0), (1, A a1), (5, I x2)] [] (fun Γ' hΓ => CoreE.of_y (idxV_sound τ_ok (by kernel_rfl) hv9)) trivial ?_
 refine qv [] trivial 1 27 [(24, E v8), (20, E v6), (0, A a0), (1, A a1), (5, I x2)] [] ?_
 obtain ⟨v10, hv11, h⟩ := bindS h
 refine qX (some 25) (B v10) 27 [(25, B v10), (0, A a0), (1, A a1), (5, I x2)] [] (fun Γ' hΓ => CoreE.of_g (callV_sound (τ := τ) (by kernel_rfl) rfl (ok_laws_eqDelta hv11) (FzTo.frz rfl))) trivial ?_
 refine qvn [] trivial 1 27 [(0, A a0), (1, A a1), (5, I x2), (26, B (!v10))] [] ?_
 refine pc h (fun h => ?_) (fun h => ?_)
 refine srve 27 [(4, B false)] [] ?_
 cases h
 exact pwp_ret rz
 refine pwp_skip ?_
 refine rve 27 [(0, A a0), (1, A a1), (5, I (w64 (x2 + 1)))] [] ?_
 exact ⟨(f3, (w64 (x2 + 1))), h, Nat.lt_succ_self _, it [0, 1, 5]⟩
 refine pwp_exit ?_
 refine srve 27 [(4, B true)] [] ?_
 cases h
 exact pwp_ret rz
def impl_RowOk (a0 : List T_impl_Value) : Option Bool := bif (decide ((a0.length : Int) ≤ 4)) then (slices_ContainsFunc_impl_Value_impl_Value a0 impl_RowOk_1).bind fun v1 => some (!v1) else some false
theorem ok_impl_RowOk {a0 : List T_impl_Value} {y : Bool} (h : impl_RowOk a0 = some y) : OK Try.prog 53 [A a0] (B y) := by
 refine ow Try.func53 fun Γ hX => ?_
 unfold impl_RowOk at h
 refine srve 11 [(0, A a0)] [] ?_
 refine srv 4 11 [(0, A a0), (6, B (decide ((a0.length : Int) ≤ 4)))] [] ?_
 rcases fk (decide ((a0.length : Int) ≤ 4)) with hc3 | hc3
 replace h := bT hc3 h
 rw [hc3]
 refine v 1 11 [(6, B true), (7, A a0)] [] ?_
 obtain ⟨v1, hv2, h⟩ := bindS h
 refine cF 8 (ok_slices_ContainsFunc_impl_Value_impl_Value (rfl) (fun _ w hw => ok_impl_RowOk_1 hw) hv2) ?_
 refine ve 3 11 [(2, B (!v1))] [] ?_
 cases h
 exact pwp_ret rz
 replace h := bF hc3 h
 rw [hc3]
 refine ve 5 11 [(2, B false)] [] ?_
 cases h
 exact pwp_ret rz
def impl_counted (a0 : List T_impl_Value) : Option Bool := bif ((a0.length : Int) == 2) then (impl_RowOk a0).bind fun v1 => bif v1 then (getI a0 1).bind fun v3 => bif (v3.fKind == 1) then some true else (getI a0 1).bind fun v5 => some (v5.fKind == 0) else some false else some false
theorem ok_impl_counted {a0 : List T_impl_Value} {y : Bool} (h : impl_counted a0 = some y) : OK Try.prog 69 [A a0] (B y) := by
 refine ow Try.func69 fun Γ hX => ?_
 unfold impl_counted at h
 refine srve 24 [(0, A a0)] [] ?_
 refine srv 4 24 [(0, A a0), (6, B ((a0.length : Int) == 2))] [] ?_
 rcases fk ((a0.length : Int) == 2) with hc9 | hc9
 replace h := bT hc9 h
 rw [hc9]
 refine v 1 24 [(0, A a0), (6, B true), (7, A a0)] [] ?_
 obtain ⟨v1, hv2, h⟩ := bindS h
 refine cF 8 (ok_impl_RowOk hv2) ?_
 refine v 2 24 [(0, A a0), (10, B v1)] [] ?_
 rcases Bool.eq_false_or_eq_true v1 with hc8 | hc8
 replace h := bT hc8 h
 rw [hc8]
 refine v 1 24 [(0, A a0), (10, B true), (11, A a0)] [] ?_
 obtain ⟨v3, hv4, h⟩ := bindS h
 refine opsP_idx τ_ok 12 hv4 (by kernel_rfl) ?_
 refine v 4 24 [(0, A a0), (10, B true), (16, B (v3.fKind == 1))] [] ?_
 rcases fk (v3.fKind == 1) with hc7 | hc7
 replace h := bT hc7 h
 rw [hc7]
 refine ve 8 24 [(2, B true)] [] ?_
 cases h
 exact pwp_ret rz
 replace h := bF hc7 h
 rw [hc7]
 refine v 1 24 [(10, B true), (16, B false), (17, A a0)] [] ?_
 obtain ⟨v5, hv6, h⟩ := bindS h
 refine opsP_idx τ_ok 18 hv6 (by kernel_rfl) ?_
 refine ve 6 24 [(2, B (v5.fKind == 0))] [] ?_
 cases h
 exact pwp_ret rz
 replace h := bF hc8 h
 rw [hc8]
 refine ve 14 24 [(2, B false)] [] ?_
 cases h
 exact pwp_ret rz
 replace h := bF hc9 h
 rw [hc9]
 refine ve 18 24 [(2, B false)] [] ?_
 cases h
 exact pwp_ret rz
def spec_l32Turn_j2 (x5 : Int) (K8 : Bool → Int → (List T_impl_Tally) → Option (List T_impl_Tally)) (x10 : Bool) (x11 : List T_impl_Tally) (x12 : T_impl_Tally) : Option (List T_impl_Tally) := K8 x10 (w64 (x5 + 1)) x11
def spec_l32Turn_j5 (x5 : Int) (K8 : Bool → Int → (List T_impl_Tally) → Option (List T_impl_Tally)) (x18 : List T_impl_Tally) (x19 : Bool) (x20 : T_impl_Tally) (x21 : Bool) : Option (List T_impl_Tally) := bif x21 then (app x18 ([x20] : List T_impl_Tally)).bind fun v23 => spec_l32Turn_j2 x5 K8 x19 v23 x20 else spec_l32Turn_j2 x5 K8 x19 x18 x20
def spec_l32Turn_j4 (x5 : Int) (K8 : Bool → Int → (List T_impl_Tally) → Option (List T_impl_Tally)) (x18 : List T_impl_Tally) (x19 : Bool) (x20 : T_impl_Tally) : Option (List T_impl_Tally) := bif (!(x20.fRows == 0)) then spec_l32Turn_j5 x5 K8 x18 x19 x20 true else bif (!(x20.fMany == 0)) then spec_l32Turn_j5 x5 K8 x18 x19 x20 true else spec_l32Turn_j5 x5 K8 x18 x19 x20 (!(x20.fSum == 0))
def spec_l32Turn_j3 (x1 : T_impl_Tally) (x5 : Int) (K8 : Bool → Int → (List T_impl_Tally) → Option (List T_impl_Tally)) (v13 : T_impl_Tally) (v15 : Int) (x17 : Bool) (x18 : List T_impl_Tally) : Option (List T_impl_Tally) := bif (v15 == 0) then spec_l32Turn_j4 x5 K8 x18 true ({ (({ (({ v13 with fRows := (w64 (v13.fRows + x1.fRows)) }) : T_impl_Tally) with fMany := (w64 ((({ v13 with fRows := (w64 (v13.fRows + x1.fRows)) } : T_impl_Tally).fMany) + x1.fMany)) }) : T_impl_Tally) with fSum := (w64 ((({ (({ v13 with fRows := (w64 (v13.fRows + x1.fRows)) }) : T_impl_Tally) with fMany := (w64 ((({ v13 with fRows := (w64 (v13.fRows + x1.fRows)) } : T_impl_Tally).fMany) + x1.fMany)) } : T_impl_Tally).fSum) + x1.fSum)) }) else spec_l32Turn_j4 x5 K8 x18 x17 v13
def spec_l32Turn_j6 (x1 : T_impl_Tally) (x4 : Bool) (x5 : Int) (x6 : List T_impl_Tally) (K8 : Bool → Int → (List T_impl_Tally) → Option (List T_impl_Tally)) (v13 : T_impl_Tally) (v15 : Int) (x28 : Bool) : Option (List T_impl_Tally) := bif x28 then (app x6 ([x1] : List T_impl_Tally)).bind fun v30 => spec_l32Turn_j3 x1 x5 K8 v13 v15 true v30 else spec_l32Turn_j3 x1 x5 K8 v13 v15 x4 x6
def spec_l32Turn_l1 (a0 : List T_impl_Tally) (x1 : T_impl_Tally) : Nat → Bool → Int → (List T_impl_Tally) → Option (List T_impl_Tally)
 | 0, _, _, _ => none
 | f7 + 1, x4, x5, x6 => bif (decide (x5 < (a0.length : Int))) then (getI a0 x5).bind fun v13 => (spec_RowOrder v13.fKey x1.fKey).bind fun v15 => bif (decide (v15 > 0)) then spec_l32Turn_j6 x1 x4 x5 x6 (spec_l32Turn_l1 a0 x1 f7) v13 v15 (!x4) else spec_l32Turn_j6 x1 x4 x5 x6 (spec_l32Turn_l1 a0 x1 f7) v13 v15 false else bif (!x4) then (app x6 ([x1] : List T_impl_Tally)).bind fun v34 => some v34 else some x6
def spec_l32Turn_j0 (a0 : List T_impl_Tally) (x1 : T_impl_Tally) : Option (List T_impl_Tally) := spec_l32Turn_l1 a0 x1 FUEL false 0 ([] : List T_impl_Tally)
def spec_l32Turn (a0 : List T_impl_Tally) (a1 : T_impl_Value) (a2 : T_impl_Value) (a3 : Int) : Option (List T_impl_Tally) := bif (a2.fKind == 1) then spec_l32Turn_j0 a0 (T_impl_Tally.mk ([a1]) a3 a3 (w64 (a3 * a2.fN))) else spec_l32Turn_j0 a0 (T_impl_Tally.mk ([a1]) a3 0 0)
theorem ok_spec_l32Turn {a0 : List T_impl_Tally} {a1 : T_impl_Value} {a2 : T_impl_Value} {a3 : Int} {y : List T_impl_Tally} (h : spec_l32Turn a0 a1 a2 a3 = some y) : OK Try.prog 73 [A a0, E a1, E a2, I a3] (O y) := by
 refine ow Try.func73 fun Γ hX => ?_
 unfold spec_l32Turn at h
 refine srveM [9, 13] 99 [(0, A a0), (3, I a3), (5, pf a1 0), (6, pf a2 0)] [] ?_
 refine srveM [9, 13] 99 [(0, A a0), (3, I a3), (6, pf a2 0), (9, .ptr 0 0 0)] [some ⟨0, Enc.cells (T_impl_Tally.mk ([a1]) a3 0 0)⟩] ?_
 refine pwp_seq ?_
 refine pwp_join (σ := T_impl_Tally) (fun x1 => (⟨99, [(0, A a0), (9, .ptr 0 0 0)], [sc 0 x1]⟩ : St)) (fun x1 => spec_l32Turn_j0 a0 x1 = some y) ?_ ?_
 refine srveM [9, 13] 99 [(0, A a0), (3, I a3), (6, pf a2 0), (9, .ptr 0 0 0), (21, B (a2.fKind == 1))] [some ⟨0, Enc.cells (T_impl_Tally.mk ([a1]) a3 0 0)⟩] ?_
 refine pc h (fun h => ?_) (fun h => ?_)
 refine srveM [9, 13] 99 [(0, A a0), (3, I a3), (6, pf a2 0), (9, .ptr 0 0 0)] [some ⟨0, Enc.cells (T_impl_Tally.mk ([a1]) a3 a3 0)⟩] ?_
 refine rveM [9, 13] 99 [(0, A a0), (9, .ptr 0 0 0)] [some ⟨0, Enc.cells (T_impl_Tally.mk ([a1]) a3 a3 (w64 (a3 * a2.fN)))⟩] ?_
 exact ⟨(T_impl_Tally.mk ([a1]) a3 a3 (w64 (a3 * a2.fN))), h, it [0, 9]⟩
 refine pwp_skip ?_
 exact ⟨(T_impl_Tally.mk ([a1]) a3 0 0), h, it [0, 9]⟩
 rintro x1 h
 unfold spec_l32Turn_j0 at h
 refine srveM [9, 13] 99 [(0, A a0), (9, .ptr 0 0 0), (10, .arr 4 0 (eL ([] : List T_impl_Tally)) true)] [sc 0 x1] ?_
 refine srveM [9, 13] 99 [(0, A a0), (9, .ptr 0 0 0), (10, .arr 4 0 (eL ([] : List T_impl_Tally)) true), (11, B false)] [sc 0 x1] ?_
 refine pwp_seq ?_
 refine srveM [9, 13] 99 [(0, A a0), (9, .ptr 0 0 0), (10, .arr 4 0 (eL ([] : List T_impl_Tally)) true), (11, B false), (12, I 0)] [sc 0 x1] ?_
 refine pwp_block ?_
 refine pwp_loop (ι := Nat × Bool × Int × (List T_impl_Tally)) (fun (f7, x4, x5, x6) => (⟨99, [(0, A a0), (9, .ptr 0 0 0), (10, rf 1 0 4 x6), (11, B x4), (12, I x5)], [sc 0 x1, sl 0 x6]⟩ : St)) (fun (f7, x4, x5, x6) => spec_l32Turn_l1 a0 x1 f7 x4 x5 x6 = some y) Prod.fst (FUEL, false, 0, ([] : List T_impl_Tally)) h (Imp.thawS 10 [0, 9, 10, 11, 12] (by kernel_rfl)) ?_
 rintro ⟨f7, x4, x5, x6⟩ h
 dsimp only at h ⊢
 rcases f7 with _ | f7
 cases h
 rw [spec_l32Turn_l1] at h
 refine pwp_seq ?_
 refine srveM [9, 13] 99 [(0, A a0), (9, .ptr 0 0 0), (10, rf 1 0 4 x6), (11, B x4), (12, I x5), (33, B (decide (x5 < (a0.length : Int))))] [sc 0 x1, sl 0 x6] ?_
 refine pc h (fun h => ?_) (fun h => ?_)
 refine pwp_skip ?_
 refine pwp_seq ?_
 refine pwp_join (σ := Bool × (List T_impl_Tally) × T_impl_Tally) (fun (x10, x11, x12) => (⟨99, [(0, A a0), (9, .ptr 0 0 0), (10, rf 1 0 4 x11), (11, B x10), (12, I x5)], [sc 0 x1, sl 0 x11, sc 0 x12]⟩ : St)) (fun (x10, x11, x12) => spec_l32Turn_j2 x5 (spec_l32Turn_l1 a0 x1 f7) x10 x11 x12 = some y) ?_ ?_
 refine pwp_block ?_
 refine srvM [9, 13] 2 99 [(0, A a0), (9, .ptr 0 0 0), (10, rf 1 0 4 x6), (11, B x4), (12, I x5), (36, A a0), (37, I x5)] [sc 0 x1, sl 0 x6] ?_
 obtain ⟨v13, hv14, h⟩ := bindS h
 refine opsP_idx τ_ok 38 hv14 (by kernel_rfl) ?_
 refine veM [9, 13] 3 99 [(0, A a0), (9, .ptr 0 0 0), (10, rf 1 0 4 x6), (11, B x4), (12, I x5), (13, .ptr 2 0 0)] [sc 0 x1, sl 0 x6, sc 0 v13] ?_
 refine srvM [9, 13] 4 99 [(0, A a0), (9, .ptr 0 0 0), (10, rf 1 0 4 x6), (11, B x4), (12, I x5), (13, .ptr 2 0 0), (41, A v13.fKey), (43, A x1.fKey)] [sc 0 x1, sl 0 x6, sc 0 v13] ?_
 obtain ⟨v15, hv16, h⟩ := bindS h
 refine cF 44 (ok_spec_RowOrder hv16) ?_
 refine veM [9, 13] 1 99 [(0, A a0), (9, .ptr 0 0 0), (10, rf 1 0 4 x6), (11, B x4), (12, I x5), (13, .ptr 2 0 0), (14, I v15)] [sc 0 x1, sl 0 x6, sc 0 v13] ?_
 refine pwp_seq ?_
 refine pwp_join (σ := Bool × (List T_impl_Tally)) (fun (x17, x18) => (⟨99, [(0, A a0), (9, .ptr 0 0 0), (10, rf 1 0 4 x18), (11, B x17), (12, I x5), (13, .ptr 2 0 0), (14, I v15)], [sc 0 x1, sl 0 x18, sc 0 v13]⟩ : St)) (fun (x17, x18) => spec_l32Turn_j3 x1 x5 (spec_l32Turn_l1 a0 x1 f7) v13 v15 x17 x18 = some y) ?_ ?_
 refine pwp_seq ?_
 refine pwp_join (σ := Bool) (fun x28 => (⟨99, [(0, A a0), (9, .ptr 0 0 0), (10, rf 1 0 4 x6), (11, B x4), (12, I x5), (13, .ptr 2 0 0), (14, I v15), (50, B x28)], [sc 0 x1, sl 0 x6, sc 0 v13]⟩ : St)) (fun x28 => spec_l32Turn_j6 x1 x4 x5 x6 (spec_l32Turn_l1 a0 x1 f7) v13 v15 x28 = some y) ?_ ?_
 refine rvM [9, 13] 3 99 [(0, A a0), (9, .ptr 0 0 0), (10, rf 1 0 4 x6), (11, B x4), (12, I x5), (13, .ptr 2 0 0), (14, I v15), (47, B (decide (v15 > 0)))] [sc 0 x1, sl 0 x6, sc 0 v13] ?_
 rcases fk (decide (v15 > 0)) with hc32 | hc32
 replace h := bT hc32 h
 rw [hc32]
 refine veM [9, 13] 3 99 [(0, A a0), (9, .ptr 0 0 0), (10, rf 1 0 4 x6), (11, B x4), (12, I x5), (13, .ptr 2 0 0), (14, I v15), (48, B x4), (49, B (!x4)), (50, B (!x4))] [sc 0 x1, sl 0 x6, sc 0 v13] ?_
 exact ⟨(!x4), h, it [0, 9, 10, 11, 12, 13, 14, 50]⟩
 replace h := bF hc32 h
 rw [hc32]
 refine veM [9, 13] 3 99 [(0, A a0), (9, .ptr 0 0 0), (10, rf 1 0 4 x6), (11, B x4), (12, I x5), (13, .ptr 2 0 0), (14, I v15), (48, .lit undef), (49, .lit undef), (50, B false)] [sc 0 x1, sl 0 x6, sc 0 v13] ?_
 exact ⟨false, h, it [0, 9, 10, 11, 12, 13, 14, 50]⟩
 rintro x28 h
 unfold spec_l32Turn_j6 at h
 refine pc h (fun h => ?_) (fun h => ?_)
 refine srvM [9, 13] 3 99 [(0, A a0), (9, .ptr 0 0 0), (12, I x5), (13, .ptr 2 0 0), (14, I v15), (51, rf 1 0 4 x6), (53, .arr 4 ([x1] : List T_impl_Tally).length (eL ([x1] : List T_impl_Tally)) true)] [sc 0 x1, sl 0 x6, sc 0 v13] ?_
 obtain ⟨v30, hv31, h⟩ := bindS h
 refine opsP_app τ_ok 54 1 0 (nx hX) hv31 (by kernel_rfl) ?_
 refine veM [9, 13] 1 99 [(0, A a0), (9, .ptr 0 0 0), (10, rf 1 1 4 v30), (12, I x5), (13, .ptr 2 0 0), (14, I v15)] [sc 0 x1, sl 1 v30, sc 0 v13] ?_
 refine rveM [9, 13] 99 [(0, A a0), (9, .ptr 0 0 0), (10, rf 1 1 4 v30), (11, B true), (12, I x5), (13, .ptr 2 0 0), (14, I v15)] [sc 0 x1, sl 1 v30, sc 0 v13] ?_
 exact ⟨(true, v30), h, (it (st' := ⟨99, [(0, A a0), (9, .ptr 0 0 0), (10, rf 1 1 4 v30), (11, B true), (12, I x5), (13, .ptr 2 0 0), (14, I v15)], [sc 0 x1, sl 1 v30, sc 0 v13]⟩) [0, 9, 10, 11, 12, 13, 14]).trans (Imp.reverS 1 1 (eL v30) [0, 9, 10, 11, 12, 13, 14] (by kernel_rfl) (by exact (And.intro (rfl) (And.intro (eL_frz _) (And.intro (rfl) trivial)))) (by kernel_rfl))⟩
 refine pwp_skip ?_
 exact ⟨(x4, x6), h, it [0, 9, 10, 11, 12, 13, 14]⟩
 rintro ⟨x17, x18⟩ h
 dsimp only at h ⊢
 unfold spec_l32Turn_j3 at h
 refine pwp_seq ?_
 refine pwp_join (σ := Bool × T_impl_Tally) (fun (x19, x20) => (⟨99, [(0, A a0), (9, .ptr 0 0 0), (10, rf 1 0 4 x18), (11, B x19), (12, I x5), (13, .ptr 2 0 0)], [sc 0 x1, sl 0 x18, sc 0 x20]⟩ : St)) (fun (x19, x20) => spec_l32Turn_j4 x5 (spec_l32Turn_l1 a0 x1 f7) x18 x19 x20 = some y) ?_ ?_
 refine srveM [9, 13] 99 [(0, A a0), (9, .ptr 0 0 0), (10, rf 1 0 4 x18), (11, B x17), (12, I x5), (13, .ptr 2 0 0), (56, B (v15 == 0))] [sc 0 x1, sl 0 x18, sc 0 v13] ?_
 refine pc h (fun h => ?_) (fun h => ?_)
 refine srveM [9, 13] 99 [(0, A a0), (9, .ptr 0 0 0), (10, rf 1 0 4 x18), (12, I x5), (13, .ptr 2 0 0)] [sc 0 x1, sl 0 x18, some ⟨0, Enc.cells ({ v13 with fRows := (w64 (v13.fRows + x1.fRows)) })⟩] ?_
 refine srveM [9, 13] 99 [(0, A a0), (9, .ptr 0 0 0), (10, rf 1 0 4 x18), (12, I x5), (13, .ptr 2 0 0)] [sc 0 x1, sl 0 x18, some ⟨0, Enc.cells ({ (({ v13 with fRows := (w64 (v13.fRows + x1.fRows)) }) : T_impl_Tally) with fMany := (w64 ((({ v13 with fRows := (w64 (v13.fRows + x1.fRows)) } : T_impl_Tally).fMany) + x1.fMany)) })⟩] ?_
 refine srveM [9, 13] 99 [(0, A a0), (9, .ptr 0 0 0), (10, rf 1 0 4 x18), (12, I x5), (13, .ptr 2 0 0)] [sc 0 x1, sl 0 x18, some ⟨0, Enc.cells ({ (({ (({ v13 with fRows := (w64 (v13.fRows + x1.fRows)) }) : T_impl_Tally) with fMany := (w64 ((({ v13 with fRows := (w64 (v13.fRows + x1.fRows)) } : T_impl_Tally).fMany) + x1.fMany)) }) : T_impl_Tally) with fSum := (w64 ((({ (({ v13 with fRows := (w64 (v13.fRows + x1.fRows)) }) : T_impl_Tally) with fMany := (w64 ((({ v13 with fRows := (w64 (v13.fRows + x1.fRows)) } : T_impl_Tally).fMany) + x1.fMany)) } : T_impl_Tally).fSum) + x1.fSum)) })⟩] ?_
 refine rveM [9, 13] 99 [(0, A a0), (9, .ptr 0 0 0), (10, rf 1 0 4 x18), (11, B true), (12, I x5), (13, .ptr 2 0 0)] [sc 0 x1, sl 0 x18, some ⟨0, Enc.cells ({ (({ (({ v13 with fRows := (w64 (v13.fRows + x1.fRows)) }) : T_impl_Tally) with fMany := (w64 ((({ v13 with fRows := (w64 (v13.fRows + x1.fRows)) } : T_impl_Tally).fMany) + x1.fMany)) }) : T_impl_Tally) with fSum := (w64 ((({ (({ v13 with fRows := (w64 (v13.fRows + x1.fRows)) }) : T_impl_Tally) with fMany := (w64 ((({ v13 with fRows := (w64 (v13.fRows + x1.fRows)) } : T_impl_Tally).fMany) + x1.fMany)) } : T_impl_Tally).fSum) + x1.fSum)) })⟩] ?_
 exact ⟨(true, { (({ (({ v13 with fRows := (w64 (v13.fRows + x1.fRows)) }) : T_impl_Tally) with fMany := (w64 ((({ v13 with fRows := (w64 (v13.fRows + x1.fRows)) } : T_impl_Tally).fMany) + x1.fMany)) }) : T_impl_Tally) with fSum := (w64 ((({ (({ v13 with fRows := (w64 (v13.fRows + x1.fRows)) }) : T_impl_Tally) with fMany := (w64 ((({ v13 with fRows := (w64 (v13.fRows + x1.fRows)) } : T_impl_Tally).fMany) + x1.fMany)) } : T_impl_Tally).fSum) + x1.fSum)) }), h, it [0, 9, 10, 11, 12, 13]⟩
 refine pwp_skip ?_
 exact ⟨(x17, v13), h, it [0, 9, 10, 11, 12, 13]⟩
 rintro ⟨x19, x20⟩ h
 dsimp only at h ⊢
 unfold spec_l32Turn_j4 at h
 refine pwp_seq ?_
 refine pwp_join (σ := Bool) (fun x21 => (⟨99, [(0, A a0), (9, .ptr 0 0 0), (10, rf 1 0 4 x18), (11, B x19), (12, I x5), (13, .ptr 2 0 0), (87, B x21)], [sc 0 x1, sl 0 x18, sc 0 x20]⟩ : St)) (fun x21 => spec_l32Turn_j5 x5 (spec_l32Turn_l1 a0 x1 f7) x18 x19 x20 x21 = some y) ?_ ?_
 refine rvM [9, 13] 4 99 [(0, A a0), (9, .ptr 0 0 0), (10, rf 1 0 4 x18), (11, B x19), (12, I x5), (13, .ptr 2 0 0), (78, B (!(x20.fRows == 0)))] [sc 0 x1, sl 0 x18, sc 0 x20] ?_
 rcases fk (!(x20.fRows == 0)) with hc26 | hc26
 replace h := bT hc26 h
 rw [hc26]
 refine veM [9, 13] 9 99 [(0, A a0), (9, .ptr 0 0 0), (10, rf 1 0 4 x18), (11, B x19), (12, I x5), (13, .ptr 2 0 0), (79, .lit undef), (80, .lit undef), (81, .lit undef), (84, .lit undef), (85, .lit undef), (86, .lit undef), (87, B true)] [sc 0 x1, sl 0 x18, sc 0 x20] ?_
 exact ⟨true, h, it [0, 9, 10, 11, 12, 13, 87]⟩
 replace h := bF hc26 h
 rw [hc26]
 refine vM [9, 13] 5 99 [(0, A a0), (9, .ptr 0 0 0), (10, rf 1 0 4 x18), (11, B x19), (12, I x5), (13, .ptr 2 0 0), (79, .ptr 2 0 2), (80, I x20.fMany), (81, B (!(x20.fMany == 0))), (83, B (!(x20.fMany == 0)))] [sc 0 x1, sl 0 x18, sc 0 x20] ?_
 rcases fk (!(x20.fMany == 0)) with hc25 | hc25
 replace h := bT hc25 h
 rw [hc25]
 refine veM [9, 13] 4 99 [(0, A a0), (9, .ptr 0 0 0), (10, rf 1 0 4 x18), (11, B x19), (12, I x5), (13, .ptr 2 0 0), (79, .ptr 2 0 2), (80, I x20.fMany), (81, B true), (84, .lit undef), (85, .lit undef), (86, .lit undef), (87, B true)] [sc 0 x1, sl 0 x18, sc 0 x20] ?_
 exact ⟨true, h, it [0, 9, 10, 11, 12, 13, 87]⟩
 replace h := bF hc25 h
 rw [hc25]
 refine veM [9, 13] 4 99 [(0, A a0), (9, .ptr 0 0 0), (10, rf 1 0 4 x18), (11, B x19), (12, I x5), (13, .ptr 2 0 0), (79, .ptr 2 0 2), (80, I x20.fMany), (81, B false), (84, .ptr 2 0 3), (85, I x20.fSum), (86, B (!(x20.fSum == 0))), (87, B (!(x20.fSum == 0)))] [sc 0 x1, sl 0 x18, sc 0 x20] ?_
 exact ⟨(!(x20.fSum == 0)), h, it [0, 9, 10, 11, 12, 13, 87]⟩
 rintro x21 h
 unfold spec_l32Turn_j5 at h
 refine pc h (fun h => ?_) (fun h => ?_)
 refine rvM [9, 13] 3 99 [(0, A a0), (9, .ptr 0 0 0), (11, B x19), (12, I x5), (88, rf 1 0 4 x18), (90, .arr 4 ([x20] : List T_impl_Tally).length (eL ([x20] : List T_impl_Tally)) true)] [sc 0 x1, sl 0 x18, sc 0 x20] ?_
 obtain ⟨v23, hv24, h⟩ := bindS h
 refine opsP_app τ_ok 91 1 0 (nx hX) hv24 (by kernel_rfl) ?_
 refine veM [9, 13] 1 99 [(0, A a0), (9, .ptr 0 0 0), (10, rf 1 1 4 v23), (11, B x19), (12, I x5)] [sc 0 x1, sl 1 v23, sc 0 x20] ?_
 exact ⟨(x19, v23, x20), h, (it (st' := ⟨99, [(0, A a0), (9, .ptr 0 0 0), (10, rf 1 1 4 v23), (11, B x19), (12, I x5)], [sc 0 x1, sl 1 v23, sc 0 x20]⟩) [0, 9, 10, 11, 12]).trans (Imp.reverS 1 1 (eL v23) [0, 9, 10, 11, 12] (by kernel_rfl) (by exact (And.intro (rfl) (And.intro (eL_frz _) (And.intro (rfl) trivial)))) (by kernel_rfl))⟩
 refine pwp_skip ?_
 exact ⟨(x19, x18, x20), h, it [0, 9, 10, 11, 12]⟩
 rintro ⟨x10, x11, x12⟩ h
 dsimp only at h ⊢
 unfold spec_l32Turn_j2 at h
 refine rveM [9, 13] 99 [(0, A a0), (9, .ptr 0 0 0), (10, rf 1 0 4 x11), (11, B x10), (12, I (w64 (x5 + 1)))] [sc 0 x1, sl 0 x11, sc 0 x12] ?_
 exact ⟨(f7, x10, (w64 (x5 + 1)), x11), h, Nat.lt_succ_self _, (it (st' := ⟨99, [(0, A a0), (9, .ptr 0 0 0), (10, rf 1 0 4 x11), (11, B x10), (12, I (w64 (x5 + 1)))], [sc 0 x1, sl 0 x11, sc 0 x12]⟩) [0, 9, 10, 11, 12]).trans (Imp.truncS 2 (nx hX) (by kernel_rfl) (allBelow_mem (by exact (And.intro rfl (And.intro rfl (And.intro rfl (And.intro rfl (And.intro rfl trivial))))))) (by exact (And.intro (rfl) (And.intro (frz_below (eL_frz _)) trivial))) (by kernel_rfl))⟩
 refine pwp_exit ?_
 refine pwp_seq ?_
 refine srveM [9, 13] 99 [(9, .ptr 0 0 0), (10, rf 1 0 4 x6), (93, B (!x4))] [sc 0 x1, sl 0 x6] ?_
 refine pc h (fun h => ?_) (fun h => ?_)
 refine rvM [9, 13] 3 99 [(94, rf 1 0 4 x6), (96, .arr 4 ([x1] : List T_impl_Tally).length (eL ([x1] : List T_impl_Tally)) true)] [sc 0 x1, sl 0 x6] ?_
 obtain ⟨v34, hv35, h⟩ := bindS h
 refine opsP_app τ_ok 97 1 0 (nx hX) hv35 (by kernel_rfl) ?_
 refine veM [9, 13] 1 99 [(10, rf 1 1 4 v34)] [sc 0 x1, sl 1 v34] ?_
 refine srveM [9, 13] 99 [(8, rf 1 1 4 v34)] [sc 0 x1, sl 1 v34] ?_
 have h := si h
 subst h
 exact pwp_ret (rt (rf 1 1 4 v34) (OutP.list (v := 1) (by kernel_rfl)))
 refine pwp_skip ?_
 refine srveM [9, 13] 99 [(8, rf 1 0 4 x6)] [sc 0 x1, sl 0 x6] ?_
 have h := si h
 subst h
 exact pwp_ret (rt (rf 1 0 4 x6) (OutP.list (v := 0) (by kernel_rfl)))
def spec_TalliesOk_j1 (x1 : Int) (K3 : Int → Option Bool) (x7 : Bool) : Option Bool := bif x7 then some false else K3 (w64 (x1 + 1))
def spec_TalliesOk_l0 (a0 : List T_impl_Tally) : Nat → Int → Option Bool
 | 0, _ => none
 | f2 + 1, x1 => bif (decide (x1 < (a0.length : Int))) then (getI a0 x1).bind fun v5 => (spec_RowOk v5.fKey).bind fun v9 => bif (!v9) then spec_TalliesOk_j1 x1 (spec_TalliesOk_l0 a0 f2) true else bif (!((v5.fKey.length : Int) == 1)) then spec_TalliesOk_j1 x1 (spec_TalliesOk_l0 a0 f2) true else (spec_l1In v5.fRows 1 100).bind fun v11 => bif (!v11) then spec_TalliesOk_j1 x1 (spec_TalliesOk_l0 a0 f2) true else (spec_l1In v5.fMany 0 v5.fRows).bind fun v13 => bif (!v13) then spec_TalliesOk_j1 x1 (spec_TalliesOk_l0 a0 f2) true else (spec_l1In v5.fSum (w64 ((-9999) * v5.fMany)) (w64 (9999 * v5.fMany))).bind fun v15 => bif (!v15) then spec_TalliesOk_j1 x1 (spec_TalliesOk_l0 a0 f2) true else bif (decide (x1 > 0)) then (getI a0 (w64 (x1 - 1))).bind fun v17 => (spec_RowOrder v17.fKey v5.fKey).bind fun v19 => spec_TalliesOk_j1 x1 (spec_TalliesOk_l0 a0 f2) (decide (v19 ≥ 0)) else spec_TalliesOk_j1 x1 (spec_TalliesOk_l0 a0 f2) false else some true
def spec_TalliesOk (a0 : List T_impl_Tally) : Option Bool := spec_TalliesOk_l0 a0 FUEL 0
theorem ok_spec_TalliesOk {a0 : List T_impl_Tally} {y : Bool} (h : spec_TalliesOk a0 = some y) : OK Try.prog 77 [A a0] (B y) := by
 refine ow Try.func77 fun Γ hX => ?_
 unfold spec_TalliesOk at h
 refine srveM [4] 67 [(0, A a0)] [] ?_
 refine pwp_seq ?_
 refine srveM [4] 67 [(0, A a0), (3, I 0)] [] ?_
 refine pwp_block ?_
 refine pwp_loop (ι := Nat × Int) (fun (f2, x1) => (⟨67, [(0, A a0), (3, I x1)], []⟩ : St)) (fun (f2, x1) => spec_TalliesOk_l0 a0 f2 x1 = some y) Prod.fst (FUEL, 0) h (it [0, 3]) ?_
 rintro ⟨f2, x1⟩ h
 dsimp only at h ⊢
 rcases f2 with _ | f2
 cases h
 rw [spec_TalliesOk_l0] at h
 refine pwp_seq ?_
 refine srveM [4] 67 [(0, A a0), (3, I x1), (8, B (decide (x1 < (a0.length : Int))))] [] ?_
 refine pc h (fun h => ?_) (fun h => ?_)
 refine pwp_skip ?_
 refine pwp_seq ?_
 refine pwp_block ?_
 refine srvM [4] 2 67 [(0, A a0), (3, I x1), (11, A a0), (12, I x1)] [] ?_
 obtain ⟨v5, hv6, h⟩ := bindS h
 refine opsP_idx τ_ok 13 hv6 (by kernel_rfl) ?_
 refine veM [4] 3 67 [(0, A a0), (3, I x1), (4, .ptr 0 0 0)] [sc 0 v5] ?_
 refine pwp_seq ?_
 refine pwp_join (σ := Bool) (fun x7 => (⟨67, [(0, A a0), (3, I x1), (66, B x7)], [sc 0 v5]⟩ : St)) (fun x7 => spec_TalliesOk_j1 x1 (spec_TalliesOk_l0 a0 f2) x7 = some y) ?_ ?_
 refine ip 67 [(0, A a0), (3, I x1), (4, .ptr 0 0 0)] [sc 0 v5] ?_
 refine pwp_any ([[0], [0], [], [], [], [0], [0], [], [], [], [], [0], [0], [], [], [], [], [0], [0], [0], [0], [], [], [], [], [0], [0], [0], [0], [], [0], [0], [], [], [], [], [], [], [], [], [], [], [], [], [], [], [0], [0], [], [], [], []]) ([[], [], [], [], [], [], [], [], [], [], [], [], [], [], [], [], [], [], [], [], [], [], [], [], [], [], [], [], [], [], [], [], [], [], [], [], [], [], [], [], [], [], [], [], [], [], [], [], [], [], [], []]) rfl (by kernel_rfl) ?_
 refine qvM [4] [0] (hB trivial) 2 67 [(16, A v5.fKey), (0, A a0), (3, I x1), (4, .ptr 0 0 0)] [sc 0 v5] ?_
 obtain ⟨v9, hv10, h⟩ := bindS h
 refine qX (some 17) (B v9) 67 [(17, B v9), (0, A a0), (3, I x1), (4, .ptr 0 0 0)] [sc 0 v5] (fun Γ' hΓ => CoreE.of_g (callV_sound (τ := τ) (by kernel_rfl) rfl (ok_spec_RowOk hv10) (FzTo.frz rfl))) trivial ?_
 refine qvM [4] [] trivial 2 67 [(19, B (!v9)), (0, A a0), (3, I x1), (4, .ptr 0 0 0)] [sc 0 v5] ?_
 rcases fk (!v9) with hc26 | hc26
 replace h := bT hc26 h
 rw [hc26]
 refine qvM [4] [0] (hB trivial) 2 67 [(21, .lit undef), (20, .lit undef), (19, B true), (0, A a0), (3, I x1), (4, .ptr 0 0 0)] [sc 0 v5] ?_
 refine qvM [4] [] trivial 4 67 [(25, B true), (23, .lit undef), (22, .lit undef), (21, .lit undef), (20, .lit undef), (0, A a0), (3, I x1), (4, .ptr 0 0 0)] [sc 0 v5] ?_
 refine qvM [4] [0] (hB trivial) 2 67 [(27, .lit undef), (26, .lit undef), (25, B true), (23, .lit undef), (22, .lit undef), (21, .lit undef), (20, .lit undef), (0, A a0), (3, I x1), (4, .ptr 0 0 0)] [sc 0 v5] ?_
 refine qvM [4] [] trivial 4 67 [(31, B true), (29, .lit undef), (28, .lit undef), (27, .lit undef), (26, .lit undef), (23, .lit undef), (22, .lit undef), (21, .lit undef), (20, .lit undef), (0, A a0), (3, I x1), (4, .ptr 0 0 0)] [sc 0 v5] ?_
 refine qvM [4] [0] (hB trivial) 4 67 [(35, .lit undef), (34, .lit undef), (33, .lit undef), (32, .lit undef), (31, B true), (29, .lit undef), (28, .lit undef), (27, .lit undef), (26, .lit undef), (23, .lit undef), (22, .lit undef), (21, .lit undef), (20, .lit undef), (0, A a0), (3, I x1), (4, .ptr 0 0 0)] [sc 0 v5] ?_
 refine qvM [4] [] trivial 4 67 [(39, B true), (37, .lit undef), (36, .lit undef), (35, .lit undef), (34, .lit undef), (33, .lit undef), (32, .lit undef), (29, .lit undef), (28, .lit undef), (27, .lit undef), (26, .lit undef), (23, .lit undef), (22, .lit undef), (21, .lit undef), (20, .lit undef), (0, A a0), (3, I x1), (4, .ptr 0 0 0)] [sc 0 v5] ?_
 refine qvM [4] [0] (hB trivial) 4 67 [(43, .lit undef), (42, .lit undef), (41, .lit undef), (40, .lit undef), (39, B true), (37, .lit undef), (36, .lit undef), (35, .lit undef), (34, .lit undef), (33, .lit undef), (32, .lit undef), (29, .lit undef), (28, .lit undef), (27, .lit undef), (26, .lit undef), (23, .lit undef), (22, .lit undef), (21, .lit undef), (20, .lit undef), (0, A a0), (3, I x1), (4, .ptr 0 0 0)] [sc 0 v5] ?_
 refine qvM [4] [] trivial 1 67 [(44, .lit undef), (43, .lit undef), (42, .lit undef), (41, .lit undef), (40, .lit undef), (39, B true), (37, .lit undef), (36, .lit undef), (35, .lit undef), (34, .lit undef), (33, .lit undef), (32, .lit undef), (29, .lit undef), (28, .lit undef), (27, .lit undef), (26, .lit undef), (23, .lit undef), (22, .lit undef), (21, .lit undef), (20, .lit undef), (0, A a0), (3, I x1), (4, .ptr 0 0 0)] [sc 0 v5] ?_
 refine qvM [4] [0] (hB trivial) 2 67 [(46, .lit undef), (45, .lit undef), (44, .lit undef), (43, .lit undef), (42, .lit undef), (41, .lit undef), (40, .lit undef), (39, B true), (37, .lit undef), (36, .lit undef), (35, .lit undef), (34, .lit undef), (33, .lit undef), (32, .lit undef), (29, .lit undef), (28, .lit undef), (27, .lit undef), (26, .lit undef), (23, .lit undef), (22, .lit undef), (21, .lit undef), (20, .lit undef), (0, A a0), (3, I x1), (4, .ptr 0 0 0)] [sc 0 v5] ?_
 refine qvM [4] [] trivial 14 67 [(60, .lit undef), (59, .lit undef), (58, .lit undef), (57, .lit undef), (56, .lit undef), (55, .lit undef), (54, .lit undef), (53, .lit undef), (52, .lit undef), (51, B true), (49, .lit undef), (48, .lit undef), (47, .lit undef), (46, .lit undef), (45, .lit undef), (44, .lit undef), (43, .lit undef), (42, .lit undef), (41, .lit undef), (40, .lit undef), (37, .lit undef), (36, .lit undef), (35, .lit undef), (34, .lit undef), (33, .lit undef), (32, .lit undef), (29, .lit undef), (28, .lit undef), (27, .lit undef), (26, .lit undef), (23, .lit undef), (22, .lit undef), (21, .lit undef), (20, .lit undef), (0, A a0), (3, I x1), (4, .ptr 0 0 0)] [sc 0 v5] ?_
 refine qvM [4] [0] (hB trivial) 2 67 [(62, .lit undef), (61, .lit undef), (60, .lit undef), (59, .lit undef), (58, .lit undef), (57, .lit undef), (56, .lit undef), (55, .lit undef), (54, .lit undef), (53, .lit undef), (52, .lit undef), (51, B true), (49, .lit undef), (48, .lit undef), (47, .lit undef), (46, .lit undef), (45, .lit undef), (44, .lit undef), (43, .lit undef), (42, .lit undef), (41, .lit undef), (40, .lit undef), (37, .lit undef), (36, .lit undef), (35, .lit undef), (34, .lit undef), (33, .lit undef), (32, .lit undef), (29, .lit undef), (28, .lit undef), (27, .lit undef), (26, .lit undef), (23, .lit undef), (22, .lit undef), (21, .lit undef), (20, .lit undef), (0, A a0), (3, I x1)] [sc 0 v5] ?_
 refine qvM [4] [] trivial 4 67 [(66, B true), (65, .lit undef), (64, .lit undef), (63, .lit undef), (62, .lit undef), (61, .lit undef), (60, .lit undef), (59, .lit undef), (58, .lit undef), (57, .lit undef), (56, .lit undef), (55, .lit undef), (54, .lit undef), (53, .lit undef), (52, .lit undef), (49, .lit undef), (48, .lit undef), (47, .lit undef), (46, .lit undef), (45, .lit undef), (44, .lit undef), (43, .lit undef), (42, .lit undef), (41, .lit undef), (40, .lit undef), (37, .lit undef), (36, .lit undef), (35, .lit undef), (34, .lit undef), (33, .lit undef), (32, .lit undef), (29, .lit undef), (28, .lit undef), (27, .lit undef), (26, .lit undef), (23, .lit undef), (22, .lit undef), (21, .lit undef), (20, .lit undef), (0, A a0), (3, I x1)] [sc 0 v5] ?_
 refine qn 67 [(0, A a0), (3, I x1), (20, .lit undef), (21, .lit undef), (22, .lit undef), (23, .lit undef), (26, .lit undef), (27, .lit undef), (28, .lit undef), (29, .lit undef), (32, .lit undef), (33, .lit undef), (34, .lit undef), (35, .lit undef), (36, .lit undef), (37, .lit undef), (40, .lit undef), (41, .lit undef), (42, .lit undef), (43, .lit undef), (44, .lit undef), (45, .lit undef), (46, .lit undef), (47, .lit undef), (48, .lit undef), (49, .lit undef), (52, .lit undef), (53, .lit undef), (54, .lit undef), (55, .lit undef), (56, .lit undef), (57, .lit undef), (58, .lit undef), (59, .lit undef), (60, .lit undef), (61, .lit undef), (62, .lit undef), (63, .lit undef), (64, .lit undef), (65, .lit undef), (66, B true)] [sc 0 v5] ?_
 exact ⟨true, h, it [0, 3, 66]⟩
 replace h := bF hc26 h
 rw [hc26]
 refine qvM [4] [0] (hB trivial) 2 67 [(21, A v5.fKey), (20, .ptr 0 0 0), (19, B false), (0, A a0), (3, I x1), (4, .ptr 0 0 0)] [sc 0 v5] ?_
 refine qvM [4] [] trivial 4 67 [(25, B (!((v5.fKey.length : Int) == 1))), (23, B (!((v5.fKey.length : Int) == 1))), (22, I (v5.fKey.length : Int)), (21, A v5.fKey), (20, .ptr 0 0 0), (0, A a0), (3, I x1), (4, .ptr 0 0 0)] [sc 0 v5] ?_
 rcases fk (!((v5.fKey.length : Int) == 1)) with hc25 | hc25
 replace h := bT hc25 h
 rw [hc25]
 refine qvM [4] [0] (hB trivial) 2 67 [(27, .lit undef), (26, .lit undef), (25, B true), (23, B true), (22, I (v5.fKey.length : Int)), (21, A v5.fKey), (20, .ptr 0 0 0), (0, A a0), (3, I x1), (4, .ptr 0 0 0)] [sc 0 v5] ?_
 refine qvM [4] [] trivial 4 67 [(31, B true), (29, .lit undef), (28, .lit undef), (27, .lit undef), (26, .lit undef), (23, B true), (22, I (v5.fKey.length : Int)), (21, A v5.fKey), (20, .ptr 0 0 0), (0, A a0), (3, I x1), (4, .ptr 0 0 0)] [sc 0 v5] ?_
 refine qvM [4] [0] (hB trivial) 4 67 [(35, .lit undef), (34, .lit undef), (33, .lit undef), (32, .lit undef), (31, B true), (29, .lit undef), (28, .lit undef), (27, .lit undef), (26, .lit undef), (23, B true), (22, I (v5.fKey.length : Int)), (21, A v5.fKey), (20, .ptr 0 0 0), (0, A a0), (3, I x1), (4, .ptr 0 0 0)] [sc 0 v5] ?_
 refine qvM [4] [] trivial 4 67 [(39, B true), (37, .lit undef), (36, .lit undef), (35, .lit undef), (34, .lit undef), (33, .lit undef), (32, .lit undef), (29, .lit undef), (28, .lit undef), (27, .lit undef), (26, .lit undef), (23, B true), (22, I (v5.fKey.length : Int)), (21, A v5.fKey), (20, .ptr 0 0 0), (0, A a0), (3, I x1), (4, .ptr 0 0 0)] [sc 0 v5] ?_
 refine qvM [4] [0] (hB trivial) 4 67 [(43, .lit undef), (42, .lit undef), (41, .lit undef), (40, .lit undef), (39, B true), (37, .lit undef), (36, .lit undef), (35, .lit undef), (34, .lit undef), (33, .lit undef), (32, .lit undef), (29, .lit undef), (28, .lit undef), (27, .lit undef), (26, .lit undef), (23, B true), (22, I (v5.fKey.length : Int)), (21, A v5.fKey), (20, .ptr 0 0 0), (0, A a0), (3, I x1), (4, .ptr 0 0 0)] [sc 0 v5] ?_
 refine qvM [4] [] trivial 1 67 [(44, .lit undef), (43, .lit undef), (42, .lit undef), (41, .lit undef), (40, .lit undef), (39, B true), (37, .lit undef), (36, .lit undef), (35, .lit undef), (34, .lit undef), (33, .lit undef), (32, .lit undef), (29, .lit undef), (28, .lit undef), (27, .lit undef), (26, .lit undef), (23, B true), (22, I (v5.fKey.length : Int)), (21, A v5.fKey), (20, .ptr 0 0 0), (0, A a0), (3, I x1), (4, .ptr 0 0 0)] [sc 0 v5] ?_
 refine qvM [4] [0] (hB trivial) 2 67 [(46, .lit undef), (45, .lit undef), (44, .lit undef), (43, .lit undef), (42, .lit undef), (41, .lit undef), (40, .lit undef), (39, B true), (37, .lit undef), (36, .lit undef), (35, .lit undef), (34, .lit undef), (33, .lit undef), (32, .lit undef), (29, .lit undef), (28, .lit undef), (27, .lit undef), (26, .lit undef), (23, B true), (22, I (v5.fKey.length : Int)), (21, A v5.fKey), (20, .ptr 0 0 0), (0, A a0), (3, I x1), (4, .ptr 0 0 0)] [sc 0 v5] ?_
 refine qvM [4] [] trivial 14 67 [(60, .lit undef), (59, .lit undef), (58, .lit undef), (57, .lit undef), (56, .lit undef), (55, .lit undef), (54, .lit undef), (53, .lit undef), (52, .lit undef), (51, B true), (49, .lit undef), (48, .lit undef), (47, .lit undef), (46, .lit undef), (45, .lit undef), (44, .lit undef), (43, .lit undef), (42, .lit undef), (41, .lit undef), (40, .lit undef), (37, .lit undef), (36, .lit undef), (35, .lit undef), (34, .lit undef), (33, .lit undef), (32, .lit undef), (29, .lit undef), (28, .lit undef), (27, .lit undef), (26, .lit undef), (23, B true), (22, I (v5.fKey.length : Int)), (21, A v5.fKey), (20, .ptr 0 0 0), (0, A a0), (3, I x1), (4, .ptr 0 0 0)] [sc 0 v5] ?_
 refine qvM [4] [0] (hB trivial) 2 67 [(62, .lit undef), (61, .lit undef), (60, .lit undef), (59, .lit undef), (58, .lit undef), (57, .lit undef), (56, .lit undef), (55, .lit undef), (54, .lit undef), (53, .lit undef), (52, .lit undef), (51, B true), (49, .lit undef), (48, .lit undef), (47, .lit undef), (46, .lit undef), (45, .lit undef), (44, .lit undef), (43, .lit undef), (42, .lit undef), (41, .lit undef), (40, .lit undef), (37, .lit undef), (36, .lit undef), (35, .lit undef), (34, .lit undef), (33, .lit undef), (32, .lit undef), (29, .lit undef), (28, .lit undef), (27, .lit undef), (26, .lit undef), (23, B true), (22, I (v5.fKey.length : Int)), (21, A v5.fKey), (20, .ptr 0 0 0), (0, A a0), (3, I x1)] [sc 0 v5] ?_
 refine qvM [4] [] trivial 4 67 [(66, B true), (65, .lit undef), (64, .lit undef), (63, .lit undef), (62, .lit undef), (61, .lit undef), (60, .lit undef), (59, .lit undef), (58, .lit undef), (57, .lit undef), (56, .lit undef), (55, .lit undef), (54, .lit undef), (53, .lit undef), (52, .lit undef), (49, .lit undef), (48, .lit undef), (47, .lit undef), (46, .lit undef), (45, .lit undef), (44, .lit undef), (43, .lit undef), (42, .lit undef), (41, .lit undef), (40, .lit undef), (37, .lit undef), (36, .lit undef), (35, .lit undef), (34, .lit undef), (33, .lit undef), (32, .lit undef), (29, .lit undef), (28, .lit undef), (27, .lit undef), (26, .lit undef), (23, B true), (22, I (v5.fKey.length : Int)), (21, A v5.fKey), (20, .ptr 0 0 0), (0, A a0), (3, I x1)] [sc 0 v5] ?_
 refine qn 67 [(0, A a0), (3, I x1), (20, .ptr 0 0 0), (21, A v5.fKey), (22, I (v5.fKey.length : Int)), (23, B true), (26, .lit undef), (27, .lit undef), (28, .lit undef), (29, .lit undef), (32, .lit undef), (33, .lit undef), (34, .lit undef), (35, .lit undef), (36, .lit undef), (37, .lit undef), (40, .lit undef), (41, .lit undef), (42, .lit undef), (43, .lit undef), (44, .lit undef), (45, .lit undef), (46, .lit undef), (47, .lit undef), (48, .lit undef), (49, .lit undef), (52, .lit undef), (53, .lit undef), (54, .lit undef), (55, .lit undef), (56, .lit undef), (57, .lit undef), (58, .lit undef), (59, .lit undef), (60, .lit undef), (61, .lit undef), (62, .lit undef), (63, .lit undef), (64, .lit undef), (65, .lit undef), (66, B true)] [sc 0 v5] ?_
 exact ⟨true, h, it [0, 3, 66]⟩
 replace h := bF hc25 h
 rw [hc25]
 refine qvM [4] [0] (hB trivial) 2 67 [(27, I v5.fRows), (26, .ptr 0 0 1), (25, B false), (23, B false), (22, I (v5.fKey.length : Int)), (21, A v5.fKey), (20, .ptr 0 0 0), (0, A a0), (3, I x1), (4, .ptr 0 0 0)] [sc 0 v5] ?_
 obtain ⟨v11, hv12, h⟩ := bindS h
 refine qX (some 28) (B v11) 67 [(28, B v11), (27, I v5.fRows), (26, .ptr 0 0 1), (25, B false), (23, B false), (22, I (v5.fKey.length : Int)), (21, A v5.fKey), (20, .ptr 0 0 0), (0, A a0), (3, I x1), (4, .ptr 0 0 0)] [sc 0 v5] (fun Γ' hΓ => CoreE.of_g (callV_sound (τ := τ) (by kernel_rfl) rfl (ok_spec_l1In hv12) (FzTo.frz rfl))) trivial ?_
 refine qvM [4] [] trivial 3 67 [(31, B (!v11)), (29, B (!v11)), (28, B v11), (27, I v5.fRows), (26, .ptr 0 0 1), (23, B false), (22, I (v5.fKey.length : Int)), (21, A v5.fKey), (20, .ptr 0 0 0), (0, A a0), (3, I x1), (4, .ptr 0 0 0)] [sc 0 v5] ?_
 rcases fk (!v11) with hc24 | hc24
 replace h := bT hc24 h
 rw [hc24]
 refine qvM [4] [0] (hB trivial) 4 67 [(35, .lit undef), (34, .lit undef), (33, .lit undef), (32, .lit undef), (31, B true), (29, B true), (28, B v11), (27, I v5.fRows), (26, .ptr 0 0 1), (23, B false), (22, I (v5.fKey.length : Int)), (21, A v5.fKey), (20, .ptr 0 0 0), (0, A a0), (3, I x1), (4, .ptr 0 0 0)] [sc 0 v5] ?_
 refine qvM [4] [] trivial 4 67 [(39, B true), (37, .lit undef), (36, .lit undef), (35, .lit undef), (34, .lit undef), (33, .lit undef), (32, .lit undef), (29, B true), (28, B v11), (27, I v5.fRows), (26, .ptr 0 0 1), (23, B false), (22, I (v5.fKey.length : Int)), (21, A v5.fKey), (20, .ptr 0 0 0), (0, A a0), (3, I x1), (4, .ptr 0 0 0)] [sc 0 v5] ?_
 refine qvM [4] [0] (hB trivial) 4 67 [(43, .lit undef), (42, .lit undef), (41, .lit undef), (40, .lit undef), (39, B true), (37, .lit undef), (36, .lit undef), (35, .lit undef), (34, .lit undef), (33, .lit undef), (32, .lit undef), (29, B true), (28, B v11), (27, I v5.fRows), (26, .ptr 0 0 1), (23, B false), (22, I (v5.fKey.length : Int)), (21, A v5.fKey), (20, .ptr 0 0 0), (0, A a0), (3, I x1), (4, .ptr 0 0 0)] [sc 0 v5] ?_
 refine qvM [4] [] trivial 1 67 [(44, .lit undef), (43, .lit undef), (42, .lit undef), (41, .lit undef), (40, .lit undef), (39, B true), (37, .lit undef), (36, .lit undef), (35, .lit undef), (34, .lit undef), (33, .lit undef), (32, .lit undef), (29, B true), (28, B v11), (27, I v5.fRows), (26, .ptr 0 0 1), (23, B false), (22, I (v5.fKey.length : Int)), (21, A v5.fKey), (20, .ptr 0 0 0), (0, A a0), (3, I x1), (4, .ptr 0 0 0)] [sc 0 v5] ?_
 refine qvM [4] [0] (hB trivial) 2 67 [(46, .lit undef), (45, .lit undef), (44, .lit undef), (43, .lit undef), (42, .lit undef), (41, .lit undef), (40, .lit undef), (39, B true), (37, .lit undef), (36, .lit undef), (35, .lit undef), (34, .lit undef), (33, .lit undef), (32, .lit undef), (29, B true), (28, B v11), (27, I v5.fRows), (26, .ptr 0 0 1), (23, B false), (22, I (v5.fKey.length : Int)), (21, A v5.fKey), (20, .ptr 0 0 0), (0, A a0), (3, I x1), (4, .ptr 0 0 0)] [sc 0 v5] ?_
 refine qvM [4] [] trivial 14 67 [(60, .lit undef), (59, .lit undef), (58, .lit undef), (57, .lit undef), (56, .lit undef), (55, .lit undef), (54, .lit undef), (53, .lit undef), (52, .lit undef), (51, B true), (49, .lit undef), (48, .lit undef), (47, .lit undef), (46, .lit undef), (45, .lit undef), (44, .lit undef), (43, .lit undef), (42, .lit undef), (41, .lit undef), (40, .lit undef), (37, .lit undef), (36, .lit undef), (35, .lit undef), (34, .lit undef), (33, .lit undef), (32, .lit undef), (29, B true), (28, B v11), (27, I v5.fRows), (26, .ptr 0 0 1), (23, B false), (22, I (v5.fKey.length : Int)), (21, A v5.fKey), (20, .ptr 0 0 0), (0, A a0), (3, I x1), (4, .ptr 0 0 0)] [sc 0 v5] ?_
 refine qvM [4] [0] (hB trivial) 2 67 [(62, .lit undef), (61, .lit undef), (60, .lit undef), (59, .lit undef), (58, .lit undef), (57, .lit undef), (56, .lit undef), (55, .lit undef), (54, .lit undef), (53, .lit undef), (52, .lit undef), (51, B true), (49, .lit undef), (48, .lit undef), (47, .lit undef), (46, .lit undef), (45, .lit undef), (44, .lit undef), (43, .lit undef), (42, .lit undef), (41, .lit undef), (40, .lit undef), (37, .lit undef), (36, .lit undef), (35, .lit undef), (34, .lit undef), (33, .lit undef), (32, .lit undef), (29, B true), (28, B v11), (27, I v5.fRows), (26, .ptr 0 0 1), (23, B false), (22, I (v5.fKey.length : Int)), (21, A v5.fKey), (20, .ptr 0 0 0), (0, A a0), (3, I x1)] [sc 0 v5] ?_
 refine qvM [4] [] trivial 4 67 [(66, B true), (65, .lit undef), (64, .lit undef), (63, .lit undef), (62, .lit undef), (61, .lit undef), (60, .lit undef), (59, .lit undef), (58, .lit undef), (57, .lit undef), (56, .lit undef), (55, .lit undef), (54, .lit undef), (53, .lit undef), (52, .lit undef), (49, .lit undef), (48, .lit undef), (47, .lit undef), (46, .lit undef), (45, .lit undef), (44, .lit undef), (43, .lit undef), (42, .lit undef), (41, .lit undef), (40, .lit undef), (37, .lit undef), (36, .lit undef), (35, .lit undef), (34, .lit undef), (33, .lit undef), (32, .lit undef), (29, B true), (28, B v11), (27, I v5.fRows), (26, .ptr 0 0 1), (23, B false), (22, I (v5.fKey.length : Int)), (21, A v5.fKey), (20, .ptr 0 0 0), (0, A a0), (3, I x1)] [sc 0 v5] ?_
 refine qn 67 [(0, A a0), (3, I x1), (20, .ptr 0 0 0), (21, A v5.fKey), (22, I (v5.fKey.length : Int)), (23, B false), (26, .ptr 0 0 1), (27, I v5.fRows), (28, B v11), (29, B true), (32, .lit undef), (33, .lit undef), (34, .lit undef), (35, .lit undef), (36, .lit undef), (37, .lit undef), (40, .lit undef), (41, .lit undef), (42, .lit undef), (43, .lit undef), (44, .lit undef), (45, .lit undef), (46, .lit undef), (47, .lit undef), (48, .lit undef), (49, .lit undef), (52, .lit undef), (53, .lit undef), (54, .lit undef), (55, .lit undef), (56, .lit undef), (57, .lit undef), (58, .lit undef), (59, .lit undef), (60, .lit undef), (61, .lit undef), (62, .lit undef), (63, .lit undef), (64, .lit undef), (65, .lit undef), (66, B true)] [sc 0 v5] ?_
 exact ⟨true, h, it [0, 3, 66]⟩
 replace h := bF hc24 h
 rw [hc24]
 refine qvM [4] [0] (hB trivial) 4 67 [(35, I v5.fRows), (34, .ptr 0 0 1), (33, I v5.fMany), (32, .ptr 0 0 2), (31, B false), (29, B false), (28, B v11), (27, I v5.fRows), (26, .ptr 0 0 1), (23, B false), (22, I (v5.fKey.length : Int)), (21, A v5.fKey), (20, .ptr 0 0 0), (0, A a0), (3, I x1), (4, .ptr 0 0 0)] [sc 0 v5] ?_
 obtain ⟨v13, hv14, h⟩ := bindS h
 refine qX (some 36) (B v13) 67 [(36, B v13), (35, I v5.fRows), (34, .ptr 0 0 1), (33, I v5.fMany), (32, .ptr 0 0 2), (31, B false), (29, B false), (28, B v11), (27, I v5.fRows), (26, .ptr 0 0 1), (23, B false), (22, I (v5.fKey.length : Int)), (21, A v5.fKey), (20, .ptr 0 0 0), (0, A a0), (3, I x1), (4, .ptr 0 0 0)] [sc 0 v5] (fun Γ' hΓ => CoreE.of_g (callV_sound (τ := τ) (by kernel_rfl) rfl (ok_spec_l1In hv14) (FzTo.frz rfl))) trivial ?_
 refine qvM [4] [] trivial 3 67 [(39, B (!v13)), (37, B (!v13)), (36, B v13), (35, I v5.fRows), (34, .ptr 0 0 1), (33, I v5.fMany), (32, .ptr 0 0 2), (29, B false), (28, B v11), (27, I v5.fRows), (26, .ptr 0 0 1), (23, B false), (22, I (v5.fKey.length : Int)), (21, A v5.fKey), (20, .ptr 0 0 0), (0, A a0), (3, I x1), (4, .ptr 0 0 0)] [sc 0 v5] ?_
 rcases fk (!v13) with hc23 | hc23
 replace h := bT hc23 h
 rw [hc23]
 refine qvM [4] [0] (hB trivial) 4 67 [(43, .lit undef), (42, .lit undef), (41, .lit undef), (40, .lit undef), (39, B true), (37, B true), (36, B v13), (35, I v5.fRows), (34, .ptr 0 0 1), (33, I v5.fMany), (32, .ptr 0 0 2), (29, B false), (28, B v11), (27, I v5.fRows), (26, .ptr 0 0 1), (23, B false), (22, I (v5.fKey.length : Int)), (21, A v5.fKey), (20, .ptr 0 0 0), (0, A a0), (3, I x1), (4, .ptr 0 0 0)] [sc 0 v5] ?_
 refine qvM [4] [] trivial 1 67 [(44, .lit undef), (43, .lit undef), (42, .lit undef), (41, .lit undef), (40, .lit undef), (39, B true), (37, B true), (36, B v13), (35, I v5.fRows), (34, .ptr 0 0 1), (33, I v5.fMany), (32, .ptr 0 0 2), (29, B false), (28, B v11), (27, I v5.fRows), (26, .ptr 0 0 1), (23, B false), (22, I (v5.fKey.length : Int)), (21, A v5.fKey), (20, .ptr 0 0 0), (0, A a0), (3, I x1), (4, .ptr 0 0 0)] [sc 0 v5] ?_
 refine qvM [4] [0] (hB trivial) 2 67 [(46, .lit undef), (45, .lit undef), (44, .lit undef), (43, .lit undef), (42, .lit undef), (41, .lit undef), (40, .lit undef), (39, B true), (37, B true), (36, B v13), (35, I v5.fRows), (34, .ptr 0 0 1), (33, I v5.fMany), (32, .ptr 0 0 2), (29, B false), (28, B v11), (27, I v5.fRows), (26, .ptr 0 0 1), (23, B false), (22, I (v5.fKey.length : Int)), (21, A v5.fKey), (20, .ptr 0 0 0), (0, A a0), (3, I x1), (4, .ptr 0 0 0)] [sc 0 v5] ?_
 refine qvM [4] [] trivial 14 67 [(60, .lit undef), (59, .lit undef), (58, .lit undef), (57, .lit undef), (56, .lit undef), (55, .lit undef), (54, .lit undef), (53, .lit undef), (52, .lit undef), (51, B true), (49, .lit undef), (48, .lit undef), (47, .lit undef), (46, .lit undef), (45, .lit undef), (44, .lit undef), (43, .lit undef), (42, .lit undef), (41, .lit undef), (40, .lit undef), (37, B true), (36, B v13), (35, I v5.fRows), (34, .ptr 0 0 1), (33, I v5.fMany), (32, .ptr 0 0 2), (29, B false), (28, B v11), (27, I v5.fRows), (26, .ptr 0 0 1), (23, B false), (22, I (v5.fKey.length : Int)), (21, A v5.fKey), (20, .ptr 0 0 0), (0, A a0), (3, I x1), (4, .ptr 0 0 0)] [sc 0 v5] ?_
 refine qvM [4] [0] (hB trivial) 2 67 [(62, .lit undef), (61, .lit undef), (60, .lit undef), (59, .lit undef), (58, .lit undef), (57, .lit undef), (56, .lit undef), (55, .lit undef), (54, .lit undef), (53, .lit undef), (52, .lit undef), (51, B true), (49, .lit undef), (48, .lit undef), (47, .lit undef), (46, .lit undef), (45, .lit undef), (44, .lit undef), (43, .lit undef), (42, .lit undef), (41, .lit undef), (40, .lit undef), (37, B true), (36, B v13), (35, I v5.fRows), (34, .ptr 0 0 1), (33, I v5.fMany), (32, .ptr 0 0 2), (29, B false), (28, B v11), (27, I v5.fRows), (26, .ptr 0 0 1), (23, B false), (22, I (v5.fKey.length : Int)), (21, A v5.fKey), (20, .ptr 0 0 0), (0, A a0), (3, I x1)] [sc 0 v5] ?_
 refine qvM [4] [] trivial 4 67 [(66, B true), (65, .lit undef), (64, .lit undef), (63, .lit undef), (62, .lit undef), (61, .lit undef), (60, .lit undef), (59, .lit undef), (58, .lit undef), (57, .lit undef), (56, .lit undef), (55, .lit undef), (54, .lit undef), (53, .lit undef), (52, .lit undef), (49, .lit undef), (48, .lit undef), (47, .lit undef), (46, .lit undef), (45, .lit undef), (44, .lit undef), (43, .lit undef), (42, .lit undef), (41, .lit undef), (40, .lit undef), (37, B true), (36, B v13), (35, I v5.fRows), (34, .ptr 0 0 1), (33, I v5.fMany), (32, .ptr 0 0 2), (29, B false), (28, B v11), (27, I v5.fRows), (26, .ptr 0 0 1), (23, B false), (22, I (v5.fKey.length : Int)), (21, A v5.fKey), (20, .ptr 0 0 0), (0, A a0), (3, I x1)] [sc 0 v5] ?_
 refine qn 67 [(0, A a0), (3, I x1), (20, .ptr 0 0 0), (21, A v5.fKey), (22, I (v5.fKey.length : Int)), (23, B false), (26, .ptr 0 0 1), (27, I v5.fRows), (28, B v11), (29, B false), (32, .ptr 0 0 2), (33, I v5.fMany), (34, .ptr 0 0 1), (35, I v5.fRows), (36, B v13), (37, B true), (40, .lit undef), (41, .lit undef), (42, .lit undef), (43, .lit undef), (44, .lit undef), (45, .lit undef), (46, .lit undef), (47, .lit undef), (48, .lit undef), (49, .lit undef), (52, .lit undef), (53, .lit undef), (54, .lit undef), (55, .lit undef), (56, .lit undef), (57, .lit undef), (58, .lit undef), (59, .lit undef), (60, .lit undef), (61, .lit undef), (62, .lit undef), (63, .lit undef), (64, .lit undef), (65, .lit undef), (66, B true)] [sc 0 v5] ?_
 exact ⟨true, h, it [0, 3, 66]⟩
 replace h := bF hc23 h
 rw [hc23]
 refine qvM [4] [0] (hB trivial) 4 67 [(43, I v5.fMany), (42, .ptr 0 0 2), (41, I v5.fSum), (40, .ptr 0 0 3), (39, B false), (37, B false), (36, B v13), (35, I v5.fRows), (34, .ptr 0 0 1), (33, I v5.fMany), (32, .ptr 0 0 2), (29, B false), (28, B v11), (27, I v5.fRows), (26, .ptr 0 0 1), (23, B false), (22, I (v5.fKey.length : Int)), (21, A v5.fKey), (20, .ptr 0 0 0), (0, A a0), (3, I x1), (4, .ptr 0 0 0)] [sc 0 v5] ?_
 refine qvM [4] [] trivial 1 67 [(44, I (w64 ((-9999) * v5.fMany))), (43, I v5.fMany), (42, .ptr 0 0 2), (41, I v5.fSum), (40, .ptr 0 0 3), (39, B false), (37, B false), (36, B v13), (35, I v5.fRows), (34, .ptr 0 0 1), (33, I v5.fMany), (32, .ptr 0 0 2), (29, B false), (28, B v11), (27, I v5.fRows), (26, .ptr 0 0 1), (23, B false), (22, I (v5.fKey.length : Int)), (21, A v5.fKey), (20, .ptr 0 0 0), (0, A a0), (3, I x1), (4, .ptr 0 0 0)] [sc 0 v5] ?_
 refine qvM [4] [0] (hB trivial) 2 67 [(46, I v5.fMany), (45, .ptr 0 0 2), (44, I (w64 ((-9999) * v5.fMany))), (43, I v5.fMany), (42, .ptr 0 0 2), (41, I v5.fSum), (40, .ptr 0 0 3), (39, B false), (37, B false), (36, B v13), (35, I v5.fRows), (34, .ptr 0 0 1), (33, I v5.fMany), (32, .ptr 0 0 2), (29, B false), (28, B v11), (27, I v5.fRows), (26, .ptr 0 0 1), (23, B false), (22, I (v5.fKey.length : Int)), (21, A v5.fKey), (20, .ptr 0 0 0), (0, A a0), (3, I x1), (4, .ptr 0 0 0)] [sc 0 v5] ?_
 refine qvM [4] [] trivial 1 67 [(47, I (w64 (9999 * v5.fMany))), (46, I v5.fMany), (45, .ptr 0 0 2), (44, I (w64 ((-9999) * v5.fMany))), (43, I v5.fMany), (42, .ptr 0 0 2), (41, I v5.fSum), (40, .ptr 0 0 3), (39, B false), (37, B false), (36, B v13), (35, I v5.fRows), (34, .ptr 0 0 1), (33, I v5.fMany), (32, .ptr 0 0 2), (29, B false), (28, B v11), (27, I v5.fRows), (26, .ptr 0 0 1), (23, B false), (22, I (v5.fKey.length : Int)), (21, A v5.fKey), (20, .ptr 0 0 0), (0, A a0), (3, I x1), (4, .ptr 0 0 0)] [sc 0 v5] ?_
 obtain ⟨v15, hv16, h⟩ := bindS h
 refine qX (some 48) (B v15) 67 [(48, B v15), (47, I (w64 (9999 * v5.fMany))), (46, I v5.fMany), (45, .ptr 0 0 2), (44, I (w64 ((-9999) * v5.fMany))), (43, I v5.fMany), (42, .ptr 0 0 2), (41, I v5.fSum), (40, .ptr 0 0 3), (39, B false), (37, B false), (36, B v13), (35, I v5.fRows), (34, .ptr 0 0 1), (33, I v5.fMany), (32, .ptr 0 0 2), (29, B false), (28, B v11), (27, I v5.fRows), (26, .ptr 0 0 1), (23, B false), (22, I (v5.fKey.length : Int)), (21, A v5.fKey), (20, .ptr 0 0 0), (0, A a0), (3, I x1), (4, .ptr 0 0 0)] [sc 0 v5] (fun Γ' hΓ => CoreE.of_g (callV_sound (τ := τ) (by kernel_rfl) rfl (ok_spec_l1In hv16) (FzTo.frz rfl))) trivial ?_
 refine qvM [4] [] trivial 3 67 [(51, B (!v15)), (49, B (!v15)), (48, B v15), (47, I (w64 (9999 * v5.fMany))), (46, I v5.fMany), (45, .ptr 0 0 2), (44, I (w64 ((-9999) * v5.fMany))), (43, I v5.fMany), (42, .ptr 0 0 2), (41, I v5.fSum), (40, .ptr 0 0 3), (37, B false), (36, B v13), (35, I v5.fRows), (34, .ptr 0 0 1), (33, I v5.fMany), (32, .ptr 0 0 2), (29, B false), (28, B v11), (27, I v5.fRows), (26, .ptr 0 0 1), (23, B false), (22, I (v5.fKey.length : Int)), (21, A v5.fKey), (20, .ptr 0 0 0), (0, A a0), (3, I x1), (4, .ptr 0 0 0)] [sc 0 v5] ?_
 rcases fk (!v15) with hc22 | hc22
 replace h := bT hc22 h
 rw [hc22]
 refine qvM [4] [] trivial 9 67 [(60, .lit undef), (59, .lit undef), (58, .lit undef), (57, .lit undef), (56, .lit undef), (55, .lit undef), (54, .lit undef), (53, .lit undef), (52, .lit undef), (51, B true), (49, B true), (48, B v15), (47, I (w64 (9999 * v5.fMany))), (46, I v5.fMany), (45, .ptr 0 0 2), (44, I (w64 ((-9999) * v5.fMany))), (43, I v5.fMany), (42, .ptr 0 0 2), (41, I v5.fSum), (40, .ptr 0 0 3), (37, B false), (36, B v13), (35, I v5.fRows), (34, .ptr 0 0 1), (33, I v5.fMany), (32, .ptr 0 0 2), (29, B false), (28, B v11), (27, I v5.fRows), (26, .ptr 0 0 1), (23, B false), (22, I (v5.fKey.length : Int)), (21, A v5.fKey), (20, .ptr 0 0 0), (0, A a0), (3, I x1), (4, .ptr 0 0 0)] [sc 0 v5] ?_
 refine qvM [4] [0] (hB trivial) 2 67 [(62, .lit undef), (61, .lit undef), (60, .lit undef), (59, .lit undef), (58, .lit undef), (57, .lit undef), (56, .lit undef), (55, .lit undef), (54, .lit undef), (53, .lit undef), (52, .lit undef), (51, B true), (49, B true), (48, B v15), (47, I (w64 (9999 * v5.fMany))), (46, I v5.fMany), (45, .ptr 0 0 2), (44, I (w64 ((-9999) * v5.fMany))), (43, I v5.fMany), (42, .ptr 0 0 2), (41, I v5.fSum), (40, .ptr 0 0 3), (37, B false), (36, B v13), (35, I v5.fRows), (34, .ptr 0 0 1), (33, I v5.fMany), (32, .ptr 0 0 2), (29, B false), (28, B v11), (27, I v5.fRows), (26, .ptr 0 0 1), (23, B false), (22, I (v5.fKey.length : Int)), (21, A v5.fKey), (20, .ptr 0 0 0), (0, A a0), (3, I x1)] [sc 0 v5] ?_
 refine qvM [4] [] trivial 4 67 [(66, B true), (65, .lit undef), (64, .lit undef), (63, .lit undef), (62, .lit undef), (61, .lit undef), (60, .lit undef), (59, .lit undef), (58, .lit undef), (57, .lit undef), (56, .lit undef), (55, .lit undef), (54, .lit undef), (53, .lit undef), (52, .lit undef), (49, B true), (48, B v15), (47, I (w64 (9999 * v5.fMany))), (46, I v5.fMany), (45, .ptr 0 0 2), (44, I (w64 ((-9999) * v5.fMany))), (43, I v5.fMany), (42, .ptr 0 0 2), (41, I v5.fSum), (40, .ptr 0 0 3), (37, B false), (36, B v13), (35, I v5.fRows), (34, .ptr 0 0 1), (33, I v5.fMany), (32, .ptr 0 0 2), (29, B false), (28, B v11), (27, I v5.fRows), (26, .ptr 0 0 1), (23, B false), (22, I (v5.fKey.length : Int)), (21, A v5.fKey), (20, .ptr 0 0 0), (0, A a0), (3, I x1)] [sc 0 v5] ?_
 refine qn 67 [(0, A a0), (3, I x1), (20, .ptr 0 0 0), (21, A v5.fKey), (22, I (v5.fKey.length : Int)), (23, B false), (26, .ptr 0 0 1), (27, I v5.fRows), (28, B v11), (29, B false), (32, .ptr 0 0 2), (33, I v5.fMany), (34, .ptr 0 0 1), (35, I v5.fRows), (36, B v13), (37, B false), (40, .ptr 0 0 3), (41, I v5.fSum), (42, .ptr 0 0 2), (43, I v5.fMany), (44, I (w64 ((-9999) * v5.fMany))), (45, .ptr 0 0 2), (46, I v5.fMany), (47, I (w64 (9999 * v5.fMany))), (48, B v15), (49, B true), (52, .lit undef), (53, .lit undef), (54, .lit undef), (55, .lit undef), (56, .lit undef), (57, .lit undef), (58, .lit undef), (59, .lit undef), (60, .lit undef), (61, .lit undef), (62, .lit undef), (63, .lit undef), (64, .lit undef), (65, .lit undef), (66, B true)] [sc 0 v5] ?_
 exact ⟨true, h, it [0, 3, 66]⟩
 replace h := bF hc22 h
 rw [hc22]
 refine qvM [4] [] trivial 3 67 [(54, B (decide (x1 > 0))), (53, B (decide (x1 > 0))), (52, I x1), (51, B false), (49, B false), (48, B v15), (47, I (w64 (9999 * v5.fMany))), (46, I v5.fMany), (45, .ptr 0 0 2), (44, I (w64 ((-9999) * v5.fMany))), (43, I v5.fMany), (42, .ptr 0 0 2), (41, I v5.fSum), (40, .ptr 0 0 3), (37, B false), (36, B v13), (35, I v5.fRows), (34, .ptr 0 0 1), (33, I v5.fMany), (32, .ptr 0 0 2), (29, B false), (28, B v11), (27, I v5.fRows), (26, .ptr 0 0 1), (23, B false), (22, I (v5.fKey.length : Int)), (21, A v5.fKey), (20, .ptr 0 0 0), (0, A a0), (3, I x1), (4, .ptr 0 0 0)] [sc 0 v5] ?_
 rcases fk (decide (x1 > 0)) with hc21 | hc21
 replace h := bT hc21 h
 rw [hc21]
 refine qvM [4] [] trivial 3 67 [(57, I (w64 (x1 - 1))), (56, I x1), (55, A a0), (54, B true), (53, B true), (52, I x1), (51, B false), (49, B false), (48, B v15), (47, I (w64 (9999 * v5.fMany))), (46, I v5.fMany), (45, .ptr 0 0 2), (44, I (w64 ((-9999) * v5.fMany))), (43, I v5.fMany), (42, .ptr 0 0 2), (41, I v5.fSum), (40, .ptr 0 0 3), (37, B false), (36, B v13), (35, I v5.fRows), (34, .ptr 0 0 1), (33, I v5.fMany), (32, .ptr 0 0 2), (29, B false), (28, B v11), (27, I v5.fRows), (26, .ptr 0 0 1), (23, B false), (22, I (v5.fKey.length : Int)), (21, A v5.fKey), (20, .ptr 0 0 0), (0, A a0), (3, I x1), (4, .ptr 0 0 0)] [sc 0 v5] ?_
 obtain ⟨v17, hv18, h⟩ := bindS h
 refine qX (some 58) (pf v17 0) 67 [(58, pf v17 0), (57, I (w64 (x1 - 1))), (56, I x1), (55, A a0), (54, B true), (53, B true), (52, I x1), (51, B false), (49, B false), (48, B v15), (47, I (w64 (9999 * v5.fMany))), (46, I v5.fMany), (45, .ptr 0 0 2), (44, I (w64 ((-9999) * v5.fMany))), (43, I v5.fMany), (42, .ptr 0 0 2), (41, I v5.fSum), (40, .ptr 0 0 3), (37, B false), (36, B v13), (35, I v5.fRows), (34, .ptr 0 0 1), (33, I v5.fMany), (32, .ptr 0 0 2), (29, B false), (28, B v11), (27, I v5.fRows), (26, .ptr 0 0 1), (23, B false), (22, I (v5.fKey.length : Int)), (21, A v5.fKey), (20, .ptr 0 0 0), (0, A a0), (3, I x1), (4, .ptr 0 0 0)] [sc 0 v5] (fun Γ' hΓ => CoreE.of_y (idxV_sound τ_ok (by kernel_rfl) hv18)) trivial ?_
 refine qvM [4] [] trivial 2 67 [(60, A v17.fKey), (59, pf v17 0), (58, pf v17 0), (57, I (w64 (x1 - 1))), (56, I x1), (55, A a0), (54, B true), (53, B true), (52, I x1), (51, B false), (49, B false), (48, B v15), (47, I (w64 (9999 * v5.fMany))), (46, I v5.fMany), (45, .ptr 0 0 2), (44, I (w64 ((-9999) * v5.fMany))), (43, I v5.fMany), (42, .ptr 0 0 2), (41, I v5.fSum), (40, .ptr 0 0 3), (37, B false), (36, B v13), (35, I v5.fRows), (34, .ptr 0 0 1), (33, I v5.fMany), (32, .ptr 0 0 2), (29, B false), (28, B v11), (27, I v5.fRows), (26, .ptr 0 0 1), (23, B false), (22, I (v5.fKey.length : Int)), (21, A v5.fKey), (20, .ptr 0 0 0), (0, A a0), (3, I x1), (4, .ptr 0 0 0)] [sc 0 v5] ?_
 refine qvM [4] [0] (hB trivial) 2 67 [(62, A v5.fKey), (61, .ptr 0 0 0), (60, A v17.fKey), (59, pf v17 0), (58, pf v17 0), (57, I (w64 (x1 - 1))), (56, I x1), (55, A a0), (54, B true), (53, B true), (52, I x1), (51, B false), (49, B false), (48, B v15), (47, I (w64 (9999 * v5.fMany))), (46, I v5.fMany), (45, .ptr 0 0 2), (44, I (w64 ((-9999) * v5.fMany))), (43, I v5.fMany), (42, .ptr 0 0 2), (41, I v5.fSum), (40, .ptr 0 0 3), (37, B false), (36, B v13), (35, I v5.fRows), (34, .ptr 0 0 1), (33, I v5.fMany), (32, .ptr 0 0 2), (29, B false), (28, B v11), (27, I v5.fRows), (26, .ptr 0 0 1), (23, B false), (22, I (v5.fKey.length : Int)), (21, A v5.fKey), (20, .ptr 0 0 0), (0, A a0), (3, I x1)] [sc 0 v5] ?_
 obtain ⟨v19, hv20, h⟩ := bindS h
 refine qX (some 63) (I v19) 67 [(63, I v19), (62, A v5.fKey), (61, .ptr 0 0 0), (60, A v17.fKey), (59, pf v17 0), (58, pf v17 0), (57, I (w64 (x1 - 1))), (56, I x1), (55, A a0), (54, B true), (53, B true), (52, I x1), (51, B false), (49, B false), (48, B v15), (47, I (w64 (9999 * v5.fMany))), (46, I v5.fMany), (45, .ptr 0 0 2), (44, I (w64 ((-9999) * v5.fMany))), (43, I v5.fMany), (42, .ptr 0 0 2), (41, I v5.fSum), (40, .ptr 0 0 3), (37, B false), (36, B v13), (35, I v5.fRows), (34, .ptr 0 0 1), (33, I v5.fMany), (32, .ptr 0 0 2), (29, B false), (28, B v11), (27, I v5.fRows), (26, .ptr 0 0 1), (23, B false), (22, I (v5.fKey.length : Int)), (21, A v5.fKey), (20, .ptr 0 0 0), (0, A a0), (3, I x1)] [sc 0 v5] (fun Γ' hΓ => CoreE.of_g (callV_sound (τ := τ) (by kernel_rfl) rfl (ok_spec_RowOrder hv20) (FzTo.frz rfl))) trivial ?_
 refine qvnM [4] [] trivial 3 67 [(0, A a0), (3, I x1), (20, .ptr 0 0 0), (21, A v5.fKey), (22, I (v5.fKey.length : Int)), (23, B false), (26, .ptr 0 0 1), (27, I v5.fRows), (28, B v11), (29, B false), (32, .ptr 0 0 2), (33, I v5.fMany), (34, .ptr 0 0 1), (35, I v5.fRows), (36, B v13), (37, B false), (40, .ptr 0 0 3), (41, I v5.fSum), (42, .ptr 0 0 2), (43, I v5.fMany), (44, I (w64 ((-9999) * v5.fMany))), (45, .ptr 0 0 2), (46, I v5.fMany), (47, I (w64 (9999 * v5.fMany))), (48, B v15), (49, B false), (52, I x1), (53, B true), (54, B true), (55, A a0), (56, I x1), (57, I (w64 (x1 - 1))), (58, pf v17 0), (59, pf v17 0), (60, A v17.fKey), (61, .ptr 0 0 0), (62, A v5.fKey), (63, I v19), (64, B (decide (v19 ≥ 0))), (65, B (decide (v19 ≥ 0))), (66, B (decide (v19 ≥ 0)))] [sc 0 v5] ?_
 exact ⟨(decide (v19 ≥ 0)), h, it [0, 3, 66]⟩
 replace h := bF hc21 h
 rw [hc21]
 refine qvM [4] [] trivial 6 67 [(60, .lit undef), (59, .lit undef), (58, .lit undef), (57, .lit undef), (56, .lit undef), (55, .lit undef), (54, B false), (53, B false), (52, I x1), (51, B false), (49, B false), (48, B v15), (47, I (w64 (9999 * v5.fMany))), (46, I v5.fMany), (45, .ptr 0 0 2), (44, I (w64 ((-9999) * v5.fMany))), (43, I v5.fMany), (42, .ptr 0 0 2), (41, I v5.fSum), (40, .ptr 0 0 3), (37, B false), (36, B v13), (35, I v5.fRows), (34, .ptr 0 0 1), (33, I v5.fMany), (32, .ptr 0 0 2), (29, B false), (28, B v11), (27, I v5.fRows), (26, .ptr 0 0 1), (23, B false), (22, I (v5.fKey.length : Int)), (21, A v5.fKey), (20, .ptr 0 0 0), (0, A a0), (3, I x1), (4, .ptr 0 0 0)] [sc 0 v5] ?_
 refine qvM [4] [0] (hB trivial) 2 67 [(62, .lit undef), (61, .lit undef), (60, .lit undef), (59, .lit undef), (58, .lit undef), (57, .lit undef), (56, .lit undef), (55, .lit undef), (54, B false), (53, B false), (52, I x1), (51, B false), (49, B false), (48, B v15), (47, I (w64 (9999 * v5.fMany))), (46, I v5.fMany), (45, .ptr 0 0 2), (44, I (w64 ((-9999) * v5.fMany))), (43, I v5.fMany), (42, .ptr 0 0 2), (41, I v5.fSum), (40, .ptr 0 0 3), (37, B false), (36, B v13), (35, I v5.fRows), (34, .ptr 0 0 1), (33, I v5.fMany), (32, .ptr 0 0 2), (29, B false), (28, B v11), (27, I v5.fRows), (26, .ptr 0 0 1), (23, B false), (22, I (v5.fKey.length : Int)), (21, A v5.fKey), (20, .ptr 0 0 0), (0, A a0), (3, I x1)] [sc 0 v5] ?_
 refine qvM [4] [] trivial 4 67 [(66, B false), (65, B false), (64, .lit undef), (63, .lit undef), (62, .lit undef), (61, .lit undef), (60, .lit undef), (59, .lit undef), (58, .lit undef), (57, .lit undef), (56, .lit undef), (55, .lit undef), (54, B false), (53, B false), (52, I x1), (49, B false), (48, B v15), (47, I (w64 (9999 * v5.fMany))), (46, I v5.fMany), (45, .ptr 0 0 2), (44, I (w64 ((-9999) * v5.fMany))), (43, I v5.fMany), (42, .ptr 0 0 2), (41, I v5.fSum), (40, .ptr 0 0 3), (37, B false), (36, B v13), (35, I v5.fRows), (34, .ptr 0 0 1), (33, I v5.fMany), (32, .ptr 0 0 2), (29, B false), (28, B v11), (27, I v5.fRows), (26, .ptr 0 0 1), (23, B false), (22, I (v5.fKey.length : Int)), (21, A v5.fKey), (20, .ptr 0 0 0), (0, A a0), (3, I x1)] [sc 0 v5] ?_
 refine qn 67 [(0, A a0), (3, I x1), (20, .ptr 0 0 0), (21, A v5.fKey), (22, I (v5.fKey.length : Int)), (23, B false), (26, .ptr 0 0 1), (27, I v5.fRows), (28, B v11), (29, B false), (32, .ptr 0 0 2), (33, I v5.fMany), (34, .ptr 0 0 1), (35, I v5.fRows), (36, B v13), (37, B false), (40, .ptr 0 0 3), (41, I v5.fSum), (42, .ptr 0 0 2), (43, I v5.fMany), (44, I (w64 ((-9999) * v5.fMany))), (45, .ptr 0 0 2), (46, I v5.fMany), (47, I (w64 (9999 * v5.fMany))), (48, B v15), (49, B false), (52, I x1), (53, B false), (54, B false), (55, .lit undef), (56, .lit undef), (57, .lit undef), (58, .lit undef), (59, .lit undef), (60, .lit undef), (61, .lit undef), (62, .lit undef), (63, .lit undef), (64, .lit undef), (65, B false), (66, B false)] [sc 0 v5] ?_
 exact ⟨false, h, it [0, 3, 66]⟩
 rintro x7 h
 unfold spec_TalliesOk_j1 at h
 refine pc h (fun h => ?_) (fun h => ?_)
 refine srveM [4] 67 [(2, B false)] [sc 0 v5] ?_
 cases h
 exact pwp_ret rz
 refine pwp_skip ?_
 refine rveM [4] 67 [(0, A a0), (3, I (w64 (x1 + 1)))] [sc 0 v5] ?_
 exact ⟨(f2, (w64 (x1 + 1))), h, Nat.lt_succ_self _, (it (st' := ⟨67, [(0, A a0), (3, I (w64 (x1 + 1)))], [sc 0 v5]⟩) [0, 3]).trans (Imp.truncS 0 (nx hX) (by kernel_rfl) (allBelow_mem (by exact (And.intro rfl (And.intro rfl trivial)))) (by exact trivial) (by kernel_rfl))⟩
 refine pwp_exit ?_
 refine srveM [4] 67 [(2, B true)] [] ?_
 cases h
 exact pwp_ret rz
def impl_rowOrder (a0 : List T_impl_Value) (a1 : List T_impl_Value) : Option Int := (slices_CompareFunc_impl_Value_impl_Value_impl_Value_impl_Value_s2 a0 a1 impl_Value_order).bind fun v1 => (cmp_Compare_int (a0.length : Int) (a1.length : Int)).bind fun v3 => (cmp_Or_int ([v1, v3])).bind fun v5 => some v5
theorem ok_impl_rowOrder {a0 : List T_impl_Value} {a1 : List T_impl_Value} {y : Int} (h : impl_rowOrder a0 a1 = some y) : OK Try.prog 103 [A a0, A a1] (I y) := by
 refine ow Try.func103 fun Γ hX => ?_
 unfold impl_rowOrder at h
 refine srve 15 [(0, A a0), (1, A a1)] [] ?_
 refine srv 2 15 [(0, A a0), (1, A a1), (5, A a0), (6, A a1)] [] ?_
 obtain ⟨v1, hv2, h⟩ := bindS h
 refine cF 7 (ok_slices_CompareFunc_impl_Value_impl_Value_impl_Value_impl_Value_s2 (rfl) (fun _ _ w hw => ok_impl_Value_order hw) hv2) ?_
 refine v 4 15 [(7, I v1), (9, I (a0.length : Int)), (11, I (a1.length : Int))] [] ?_
 obtain ⟨v3, hv4, h⟩ := bindS h
 refine cF 12 (ok_cmp_Compare_int hv4) ?_
 refine v 1 15 [(13, .arr 1 ([v1, v3] : List Int).length (eL ([v1, v3] : List Int)) true)] [] ?_
 obtain ⟨v5, hv6, h⟩ := bindS h
 refine cF 14 (ok_cmp_Or_int hv6) ?_
 refine ve 1 15 [(4, I v5)] [] ?_
 cases h
 exact pwp_ret rz
def impl_tell_1 (a0 : T_impl_Tally) (a1 : List T_impl_Value) : Option Int := (impl_rowOrder a0.fKey a1).bind fun v1 => some v1
theorem ok_impl_tell_1 {a0 : T_impl_Tally} {a1 : List T_impl_Value} {y : Int} (h : impl_tell_1 a0 a1 = some y) : OK Try.prog 123 [E a0, A a1] (I y) := by
 refine ow Try.func123 fun Γ hX => ?_
 unfold impl_tell_1 at h
 refine srve 9 [(1, A a1), (2, pf a0 0)] [] ?_
 refine srv 3 9 [(6, A a0.fKey), (7, A a1)] [] ?_
 obtain ⟨v1, hv2, h⟩ := bindS h
 refine cF 8 (ok_impl_rowOrder hv2) ?_
 refine ve 1 9 [(4, I v1)] [] ?_
 cases h
 exact pwp_ret rz
def impl_Tally_ok (a0 : T_impl_Tally) : Option Bool := bif ((a0.fKey.length : Int) == 1) then (impl_RowOk a0.fKey).bind fun v1 => bif v1 then (impl_between a0.fRows 1 100).bind fun v3 => bif v3 then (impl_between a0.fMany 0 a0.fRows).bind fun v5 => bif v5 then (impl_between a0.fSum (w64 ((-9999) * a0.fMany)) (w64 (9999 * a0.fMany))).bind fun v7 => some v7 else some false else some false else some false else some false
theorem ok_impl_Tally_ok {a0 : T_impl_Tally} {y : Bool} (h : impl_Tally_ok a0 = some y) : OK Try.prog 127 [E a0] (B y) := by
 refine ow Try.func127 fun Γ hX => ?_
 unfold impl_Tally_ok at h
 refine srve 35 [(1, pf a0 0)] [] ?_
 refine srv 5 35 [(1, pf a0 0), (7, B ((a0.fKey.length : Int) == 1))] [] ?_
 rcases fk ((a0.fKey.length : Int) == 1) with hc12 | hc12
 replace h := bT hc12 h
 rw [hc12]
 refine v 2 35 [(1, pf a0 0), (7, B true), (9, A a0.fKey)] [] ?_
 obtain ⟨v1, hv2, h⟩ := bindS h
 refine cF 10 (ok_impl_RowOk hv2) ?_
 refine v 2 35 [(1, pf a0 0), (12, B v1)] [] ?_
 rcases Bool.eq_false_or_eq_true v1 with hc11 | hc11
 replace h := bT hc11 h
 rw [hc11]
 refine v 2 35 [(1, pf a0 0), (12, B true), (14, I a0.fRows)] [] ?_
 obtain ⟨v3, hv4, h⟩ := bindS h
 refine cF 15 (ok_impl_between hv4) ?_
 refine v 2 35 [(1, pf a0 0), (17, B v3)] [] ?_
 rcases Bool.eq_false_or_eq_true v3 with hc10 | hc10
 replace h := bT hc10 h
 rw [hc10]
 refine v 4 35 [(1, pf a0 0), (17, B true), (19, I a0.fMany), (21, I a0.fRows)] [] ?_
 obtain ⟨v5, hv6, h⟩ := bindS h
 refine cF 22 (ok_impl_between hv6) ?_
 refine v 2 35 [(1, pf a0 0), (24, B v5)] [] ?_
 rcases Bool.eq_false_or_eq_true v5 with hc9 | hc9
 replace h := bT hc9 h
 rw [hc9]
 refine v 8 35 [(24, B true), (26, I a0.fSum), (29, I (w64 ((-9999) * a0.fMany))), (32, I (w64 (9999 * a0.fMany)))] [] ?_
 obtain ⟨v7, hv8, h⟩ := bindS h
 refine cF 33 (ok_impl_between hv8) ?_
 refine ve 2 35 [(2, B v7)] [] ?_
 cases h
 exact pwp_ret rz
 replace h := bF hc9 h
 rw [hc9]
 refine ve 11 35 [(2, B false)] [] ?_
 cases h
 exact pwp_ret rz
 replace h := bF hc10 h
 rw [hc10]
 refine ve 18 35 [(2, B false)] [] ?_
 cases h
 exact pwp_ret rz
 replace h := bF hc11 h
 rw [hc11]
 refine ve 23 35 [(2, B false)] [] ?_
 cases h
 exact pwp_ret rz
 replace h := bF hc12 h
 rw [hc12]
 refine ve 28 35 [(2, B false)] [] ?_
 cases h
 exact pwp_ret rz
def spec_TalliesTurned_j1 (x6 : List T_impl_Tally) (x7 : Int) (K9 : (List T_impl_Tally) → Int → Option ((List T_impl_Tally) × Bool)) (v11 : T_impl_Delta) (x13 : Bool) : Option ((List T_impl_Tally) × Bool) := bif x13 then some (([] : List T_impl_Tally), false) else (getI v11.fRow 0).bind fun v15 => (getI v11.fRow 1).bind fun v17 => (spec_l32Turn x6 v15 v17 v11.fMany).bind fun v19 => (spec_TalliesOk v19).bind fun v21 => bif (!v21) then some (([] : List T_impl_Tally), false) else K9 v19 (w64 (x7 + 1))
def spec_TalliesTurned_l0 (a1 : List T_impl_Delta) : Nat → (List T_impl_Tally) → Int → Option ((List T_impl_Tally) × Bool)
 | 0, _, _ => none
 | f8 + 1, x6, x7 => bif (decide (x7 < (a1.length : Int))) then (getI a1 x7).bind fun v11 => (spec_l32Row v11.fRow).bind fun v24 => bif (!v24) then spec_TalliesTurned_j1 x6 x7 (spec_TalliesTurned_l0 a1 f8) v11 true else bif (v11.fMany == 0) then spec_TalliesTurned_j1 x6 x7 (spec_TalliesTurned_l0 a1 f8) v11 true else (spec_l1In v11.fMany (-100) 100).bind fun v26 => spec_TalliesTurned_j1 x6 x7 (spec_TalliesTurned_l0 a1 f8) v11 (!v26) else some (x6, true)
def spec_TalliesTurned (a0 : List T_impl_Tally) (a1 : List T_impl_Delta) : Option ((List T_impl_Tally) × Bool) := (spec_TalliesOk a0).bind fun v1 => bif (!v1) then some (([] : List T_impl_Tally), false) else (spec_l32Copy a0).bind fun v4 => spec_TalliesTurned_l0 a1 FUEL v4 0
theorem ok_spec_TalliesTurned {a0 : List T_impl_Tally} {a1 : List T_impl_Delta} {y : (List T_impl_Tally) × Bool} (h : spec_TalliesTurned a0 a1 = some y) : OK Try.prog 28 [A a0, A a1] (.tup [A y.1, B y.2]) := by
 refine ow Try.func28 fun Γ hX => ?_
 unfold spec_TalliesTurned at h
 refine srveM [8] 58 [(0, A a0), (1, A a1)] [] ?_
 refine pwp_seq ?_
 refine srvM [8] 1 58 [(0, A a0), (1, A a1), (9, A a0)] [] ?_
 obtain ⟨v1, hv2, h⟩ := bindS h
 refine cF 10 (ok_spec_TalliesOk hv2) ?_
 refine veM [8] 1 58 [(0, A a0), (1, A a1), (11, B (!v1))] [] ?_
 refine pc h (fun h => ?_) (fun h => ?_)
 refine srveM [8] 58 [(4, .arr 4 0 (eL ([] : List T_impl_Tally)) true), (5, B false)] [] ?_
 refine ip 58 [(4, .arr 4 0 (eL ([] : List T_impl_Tally)) true), (5, B false)] [] ?_
 refine pwp_imp (Imp.unfS (st' := ⟨58, [(4, A ([] : List T_impl_Tally)), (5, B false)], []⟩) 4 [4, 5] (by kernel_rfl)) ?_
 have h := si h
 subst h
 exact pwp_ret (rt (.tup [A ([] : List T_impl_Tally), B false]) (OutP.tup (OutL.cons (OutP.frz (by kernel_rfl)) (OutL.cons (OutP.frz (by kernel_rfl)) (OutL.nil _)))))
 refine pwp_skip ?_
 refine srvM [8] 1 58 [(1, A a1), (13, A a0)] [] ?_
 obtain ⟨v4, hv5, h⟩ := bindS h
 refine cFo 14 (ok_spec_l32Copy hv5) ?_
 refine veM [8] 1 58 [(1, A a1), (6, A v4)] [] ?_
 refine pwp_seq ?_
 refine srveM [8] 58 [(1, A a1), (6, A v4), (7, I 0)] [] ?_
 refine pwp_block ?_
 refine pwp_loop (ι := Nat × (List T_impl_Tally) × Int) (fun (f8, x6, x7) => (⟨58, [(1, A a1), (6, A x6), (7, I x7)], []⟩ : St)) (fun (f8, x6, x7) => spec_TalliesTurned_l0 a1 f8 x6 x7 = some y) Prod.fst (FUEL, v4, 0) h (it [1, 6, 7]) ?_
 rintro ⟨f8, x6, x7⟩ h
 dsimp only at h ⊢
 rcases f8 with _ | f8
 cases h
 rw [spec_TalliesTurned_l0] at h
 refine pwp_seq ?_
 refine srveM [8] 58 [(1, A a1), (6, A x6), (7, I x7), (18, B (decide (x7 < (a1.length : Int))))] [] ?_
 refine pc h (fun h => ?_) (fun h => ?_)
 refine pwp_skip ?_
 refine pwp_seq ?_
 refine pwp_block ?_
 refine srvM [8] 2 58 [(1, A a1), (6, A x6), (7, I x7), (21, A a1), (22, I x7)] [] ?_
 obtain ⟨v11, hv12, h⟩ := bindS h
 refine opsP_idx τ_ok 23 hv12 (by kernel_rfl) ?_
 refine veM [8] 3 58 [(1, A a1), (6, A x6), (7, I x7), (8, .ptr 0 0 0)] [sc 0 v11] ?_
 refine pwp_seq ?_
 refine pwp_seq ?_
 refine pwp_join (σ := Bool) (fun x13 => (⟨58, [(1, A a1), (6, A x6), (7, I x7), (8, .ptr 0 0 0), (39, B x13)], [sc 0 v11]⟩ : St)) (fun x13 => spec_TalliesTurned_j1 x6 x7 (spec_TalliesTurned_l0 a1 f8) v11 x13 = some y) ?_ ?_
 refine rvM [8] 2 58 [(1, A a1), (6, A x6), (7, I x7), (8, .ptr 0 0 0), (26, A v11.fRow)] [sc 0 v11] ?_
 obtain ⟨v24, hv25, h⟩ := bindS h
 refine cF 27 (ok_spec_l32Row hv25) ?_
 refine vM [8] 2 58 [(1, A a1), (6, A x6), (7, I x7), (8, .ptr 0 0 0), (29, B (!v24))] [sc 0 v11] ?_
 rcases fk (!v24) with hc29 | hc29
 replace h := bT hc29 h
 rw [hc29]
 refine veM [8] 10 58 [(1, A a1), (6, A x6), (7, I x7), (8, .ptr 0 0 0), (30, .lit undef), (31, .lit undef), (32, .lit undef), (35, .lit undef), (36, .lit undef), (37, .lit undef), (38, .lit undef), (39, B true)] [sc 0 v11] ?_
 exact ⟨true, h, it [1, 6, 7, 8, 39]⟩
 replace h := bF hc29 h
 rw [hc29]
 refine vM [8] 5 58 [(1, A a1), (6, A x6), (7, I x7), (8, .ptr 0 0 0), (30, .ptr 0 0 1), (31, I v11.fMany), (32, B (v11.fMany == 0)), (34, B (v11.fMany == 0))] [sc 0 v11] ?_
 rcases fk (v11.fMany == 0) with hc28 | hc28
 replace h := bT hc28 h
 rw [hc28]
 refine veM [8] 5 58 [(1, A a1), (6, A x6), (7, I x7), (8, .ptr 0 0 0), (30, .ptr 0 0 1), (31, I v11.fMany), (32, B true), (35, .lit undef), (36, .lit undef), (37, .lit undef), (38, .lit undef), (39, B true)] [sc 0 v11] ?_
 exact ⟨true, h, it [1, 6, 7, 8, 39]⟩
 replace h := bF hc28 h
 rw [hc28]
 refine vM [8] 2 58 [(1, A a1), (6, A x6), (7, I x7), (8, .ptr 0 0 0), (30, .ptr 0 0 1), (31, I v11.fMany), (32, B false), (34, B false), (35, .ptr 0 0 1), (36, I v11.fMany)] [sc 0 v11] ?_
 obtain ⟨v26, hv27, h⟩ := bindS h
 refine cF 37 (ok_spec_l1In hv27) ?_
 refine veM [8] 2 58 [(1, A a1), (6, A x6), (7, I x7), (8, .ptr 0 0 0), (30, .ptr 0 0 1), (31, I v11.fMany), (32, B false), (35, .ptr 0 0 1), (36, I v11.fMany), (37, B v26), (38, B (!v26)), (39, B (!v26))] [sc 0 v11] ?_
 exact ⟨(!v26), h, it [1, 6, 7, 8, 39]⟩
 rintro x13 h
 unfold spec_TalliesTurned_j1 at h
 refine pc h (fun h => ?_) (fun h => ?_)
 refine srveM [8] 58 [(4, .arr 4 0 (eL ([] : List T_impl_Tally)) true), (5, B false)] [sc 0 v11] ?_
 refine ip 58 [(4, .arr 4 0 (eL ([] : List T_impl_Tally)) true), (5, B false)] [sc 0 v11] ?_
 refine pwp_imp (Imp.unfS (st' := ⟨58, [(4, A ([] : List T_impl_Tally)), (5, B false)], [sc 0 v11]⟩) 4 [4, 5] (by kernel_rfl)) ?_
 have h := si h
 subst h
 exact pwp_ret (rt (.tup [A ([] : List T_impl_Tally), B false]) (OutP.tup (OutL.cons (OutP.frz (by kernel_rfl)) (OutL.cons (OutP.frz (by kernel_rfl)) (OutL.nil _)))))
 refine pwp_skip ?_
 refine pwp_seq ?_
 refine ip 58 [(1, A a1), (6, A x6), (7, I x7), (8, .ptr 0 0 0)] [sc 0 v11] ?_
 refine pwp_any ([[], [0], [0], [], [], [0], [0], [], [], [0], [0], [], []]) ([[], [], [], [], [], [], [], [], [], [], [], [], []]) rfl (by kernel_rfl) ?_
 refine qvM [8] [] trivial 1 58 [(41, A x6), (1, A a1), (6, A x6), (7, I x7), (8, .ptr 0 0 0)] [sc 0 v11] ?_
 refine qvM [8] [0] (hB trivial) 2 58 [(43, A v11.fRow), (41, A x6), (1, A a1), (6, A x6), (7, I x7), (8, .ptr 0 0 0)] [sc 0 v11] ?_
 obtain ⟨v15, hv16, h⟩ := bindS h
 refine qX (some 44) (pf v15 0) 58 [(44, pf v15 0), (41, A x6), (1, A a1), (6, A x6), (7, I x7), (8, .ptr 0 0 0)] [sc 0 v11] (fun Γ' hΓ => CoreE.of_y (idxV_sound τ_ok (by kernel_rfl) hv16)) trivial ?_
 refine qvM [8] [] trivial 1 58 [(45, E v15), (41, A x6), (1, A a1), (6, A x6), (7, I x7), (8, .ptr 0 0 0)] [sc 0 v11] ?_
 refine qvM [8] [0] (hB trivial) 2 58 [(47, A v11.fRow), (45, E v15), (41, A x6), (1, A a1), (6, A x6), (7, I x7), (8, .ptr 0 0 0)] [sc 0 v11] ?_
 obtain ⟨v17, hv18, h⟩ := bindS h
 refine qX (some 48) (pf v17 0) 58 [(48, pf v17 0), (45, E v15), (41, A x6), (1, A a1), (6, A x6), (7, I x7), (8, .ptr 0 0 0)] [sc 0 v11] (fun Γ' hΓ => CoreE.of_y (idxV_sound τ_ok (by kernel_rfl) hv18)) trivial ?_
 refine qvM [8] [] trivial 1 58 [(49, E v17), (45, E v15), (41, A x6), (1, A a1), (6, A x6), (7, I x7), (8, .ptr 0 0 0)] [sc 0 v11] ?_
 refine qvM [8] [0] (hB trivial) 2 58 [(51, I v11.fMany), (49, E v17), (45, E v15), (41, A x6), (1, A a1), (6, A x6), (7, I x7)] [sc 0 v11] ?_
 obtain ⟨v19, hv20, h⟩ := bindS h
 refine qX (some 52) (A v19) 58 [(52, A v19), (1, A a1), (6, A x6), (7, I x7)] [sc 0 v11] (fun Γ' hΓ => CoreE.of_g (callV_sound (τ := τ) (by kernel_rfl) rfl (ok_spec_l32Turn hv20) (FzTo.O _))) trivial ?_
 refine qvnM [8] [] trivial 1 58 [(1, A a1), (6, A v19), (7, I x7)] [sc 0 v11] ?_
 refine srvM [8] 1 58 [(1, A a1), (6, A v19), (7, I x7), (53, A v19)] [sc 0 v11] ?_
 obtain ⟨v21, hv22, h⟩ := bindS h
 refine cF 54 (ok_spec_TalliesOk hv22) ?_
 refine veM [8] 1 58 [(1, A a1), (6, A v19), (7, I x7), (55, B (!v21))] [sc 0 v11] ?_
 refine pc h (fun h => ?_) (fun h => ?_)
 refine srveM [8] 58 [(4, .arr 4 0 (eL ([] : List T_impl_Tally)) true), (5, B false)] [sc 0 v11] ?_
 refine ip 58 [(4, .arr 4 0 (eL ([] : List T_impl_Tally)) true), (5, B false)] [sc 0 v11] ?_
 refine pwp_imp (Imp.unfS (st' := ⟨58, [(4, A ([] : List T_impl_Tally)), (5, B false)], [sc 0 v11]⟩) 4 [4, 5] (by kernel_rfl)) ?_
 have h := si h
 subst h
 exact pwp_ret (rt (.tup [A ([] : List T_impl_Tally), B false]) (OutP.tup (OutL.cons (OutP.frz (by kernel_rfl)) (OutL.cons (OutP.frz (by kernel_rfl)) (OutL.nil _)))))
 refine pwp_skip ?_
 refine rveM [8] 58 [(1, A a1), (6, A v19), (7, I (w64 (x7 + 1)))] [sc 0 v11] ?_
 exact ⟨(f8, v19, (w64 (x7 + 1))), h, Nat.lt_succ_self _, (it (st' := ⟨58, [(1, A a1), (6, A v19), (7, I (w64 (x7 + 1)))], [sc 0 v11]⟩) [1, 6, 7]).trans (Imp.truncS 0 (nx hX) (by kernel_rfl) (allBelow_mem (by exact (And.intro rfl (And.intro rfl (And.intro rfl trivial))))) (by exact trivial) (by kernel_rfl))⟩
 refine pwp_exit ?_
 refine srveM [8] 58 [(4, A x6), (5, B true)] [] ?_
 have h := si h
 subst h
 exact pwp_ret (rt (.tup [A x6, B true]) (OutP.tup (OutL.cons (OutP.frz (by kernel_rfl)) (OutL.cons (OutP.frz (by kernel_rfl)) (OutL.nil _)))))
def impl_tell_j1 (a2 : Int) (v3 : Int × Bool) (x5 : List T_impl_Tally) (v6 : T_impl_Tally) (v11 : T_impl_Value) (x13 : Bool) : Option (List T_impl_Tally) := bif x13 then (delT (((x5.set v3.1.toNat ({ v6 with fRows := (w64 (v6.fRows + a2)) } : T_impl_Tally)).set v3.1.toNat ({ ({ v6 with fRows := (w64 (v6.fRows + a2)) } : T_impl_Tally) with fMany := (w64 ((({ v6 with fRows := (w64 (v6.fRows + a2)) } : T_impl_Tally).fMany) + a2)) } : T_impl_Tally)).set v3.1.toNat ({ ({ ({ v6 with fRows := (w64 (v6.fRows + a2)) } : T_impl_Tally) with fMany := (w64 ((({ v6 with fRows := (w64 (v6.fRows + a2)) } : T_impl_Tally).fMany) + a2)) } : T_impl_Tally) with fSum := (w64 ((({ ({ v6 with fRows := (w64 (v6.fRows + a2)) } : T_impl_Tally) with fMany := (w64 ((({ v6 with fRows := (w64 (v6.fRows + a2)) } : T_impl_Tally).fMany) + a2)) } : T_impl_Tally).fSum) + (w64 (a2 * v11.fN)))) } : T_impl_Tally)) v3.1 (w64 (v3.1 + 1))).bind fun v15 => some v15 else some (((x5.set v3.1.toNat ({ v6 with fRows := (w64 (v6.fRows + a2)) } : T_impl_Tally)).set v3.1.toNat ({ ({ v6 with fRows := (w64 (v6.fRows + a2)) } : T_impl_Tally) with fMany := (w64 ((({ v6 with fRows := (w64 (v6.fRows + a2)) } : T_impl_Tally).fMany) + a2)) } : T_impl_Tally)).set v3.1.toNat ({ ({ ({ v6 with fRows := (w64 (v6.fRows + a2)) } : T_impl_Tally) with fMany := (w64 ((({ v6 with fRows := (w64 (v6.fRows + a2)) } : T_impl_Tally).fMany) + a2)) } : T_impl_Tally) with fSum := (w64 ((({ ({ v6 with fRows := (w64 (v6.fRows + a2)) } : T_impl_Tally) with fMany := (w64 ((({ v6 with fRows := (w64 (v6.fRows + a2)) } : T_impl_Tally).fMany) + a2)) } : T_impl_Tally).fSum) + (w64 (a2 * v11.fN)))) } : T_impl_Tally))
def impl_tell_j2 (a2 : Int) (v3 : Int × Bool) (x5 : List T_impl_Tally) (v6 : T_impl_Tally) (x19 : Bool) : Option (List T_impl_Tally) := bif x19 then (delT (x5.set v3.1.toNat ({ v6 with fRows := (w64 (v6.fRows + a2)) } : T_impl_Tally)) v3.1 (w64 (v3.1 + 1))).bind fun v21 => some v21 else some (x5.set v3.1.toNat ({ v6 with fRows := (w64 (v6.fRows + a2)) } : T_impl_Tally))
def impl_tell_j0 (a1 : List T_impl_Value) (a2 : Int) (v3 : Int × Bool) (x5 : List T_impl_Tally) : Option (List T_impl_Tally) := (getI x5 v3.1).bind fun v6 => (getI a1 1).bind fun v8 => bif (v8.fKind == 1) then (getI a1 1).bind fun v11 => bif ((({ ({ ({ v6 with fRows := (w64 (v6.fRows + a2)) } : T_impl_Tally) with fMany := (w64 ((({ v6 with fRows := (w64 (v6.fRows + a2)) } : T_impl_Tally).fMany) + a2)) } : T_impl_Tally) with fSum := (w64 ((({ ({ v6 with fRows := (w64 (v6.fRows + a2)) } : T_impl_Tally) with fMany := (w64 ((({ v6 with fRows := (w64 (v6.fRows + a2)) } : T_impl_Tally).fMany) + a2)) } : T_impl_Tally).fSum) + (w64 (a2 * v11.fN)))) } : T_impl_Tally).fRows) == 0) then bif ((({ ({ ({ v6 with fRows := (w64 (v6.fRows + a2)) } : T_impl_Tally) with fMany := (w64 ((({ v6 with fRows := (w64 (v6.fRows + a2)) } : T_impl_Tally).fMany) + a2)) } : T_impl_Tally) with fSum := (w64 ((({ ({ v6 with fRows := (w64 (v6.fRows + a2)) } : T_impl_Tally) with fMany := (w64 ((({ v6 with fRows := (w64 (v6.fRows + a2)) } : T_impl_Tally).fMany) + a2)) } : T_impl_Tally).fSum) + (w64 (a2 * v11.fN)))) } : T_impl_Tally).fMany) == 0) then impl_tell_j1 a2 v3 x5 v6 v11 ((({ ({ ({ v6 with fRows := (w64 (v6.fRows + a2)) } : T_impl_Tally) with fMany := (w64 ((({ v6 with fRows := (w64 (v6.fRows + a2)) } : T_impl_Tally).fMany) + a2)) } : T_impl_Tally) with fSum := (w64 ((({ ({ v6 with fRows := (w64 (v6.fRows + a2)) } : T_impl_Tally) with fMany := (w64 ((({ v6 with fRows := (w64 (v6.fRows + a2)) } : T_impl_Tally).fMany) + a2)) } : T_impl_Tally).fSum) + (w64 (a2 * v11.fN)))) } : T_impl_Tally).fSum) == 0) else impl_tell_j1 a2 v3 x5 v6 v11 false else impl_tell_j1 a2 v3 x5 v6 v11 false else bif ((({ v6 with fRows := (w64 (v6.fRows + a2)) } : T_impl_Tally).fRows) == 0) then bif ((({ v6 with fRows := (w64 (v6.fRows + a2)) } : T_impl_Tally).fMany) == 0) then impl_tell_j2 a2 v3 x5 v6 ((({ v6 with fRows := (w64 (v6.fRows + a2)) } : T_impl_Tally).fSum) == 0) else impl_tell_j2 a2 v3 x5 v6 false else impl_tell_j2 a2 v3 x5 v6 false
def impl_tell (a0 : List T_impl_Tally) (a1 : List T_impl_Value) (a2 : Int) : Option (List T_impl_Tally) := (slI a1 none (some 1) none).bind fun v1 => (slices_BinarySearchFunc_impl_Tally_impl_Tally_impl_Value_s2 a0 v1 impl_tell_1).bind fun v3 => bif (!v3.2) then (slI a1 none (some 1) none).bind fun v26 => (impl_clone_impl_Value v26).bind fun v28 => (insT a0 v3.1 ([(T_impl_Tally.mk v28 0 0 0)] : List T_impl_Tally)).bind fun v30 => impl_tell_j0 a1 a2 v3 v30 else impl_tell_j0 a1 a2 v3 a0
theorem ok_impl_tell {a0 : List T_impl_Tally} {a1 : List T_impl_Value} {a2 : Int} {y : List T_impl_Tally} (h : impl_tell a0 a1 a2 = some y) : OKm Try.prog 70 [O a0, A a1, I a2] (O y) := by
 refine OKm_of_pwp (sl := [rf 0 0 4 a0, A a1, I a2]) (bs := [⟨0, eL a0⟩]) τ_ok Try.func70 rfl (by kernel_rfl) rfl (by kernel_rfl) fun Γ hX => ?_
 refine pwp_imp (Imp.to (st' := ⟨89, [(0, rf 0 0 4 a0), (1, A a1), (2, I a2)], [sl 0 a0]⟩) [0, 1, 2] (by kernel_rfl)) ?_
 unfold impl_tell at h
 refine srve 89 [(0, rf 0 0 4 a0), (1, A a1), (2, I a2)] [sl 0 a0] ?_
 refine srv 2 89 [(0, rf 0 0 4 a0), (1, A a1), (2, I a2), (11, rf 0 0 4 a0), (12, A a1)] [sl 0 a0] ?_
 obtain ⟨v1, hv2, h⟩ := bindS h
 refine opsP_slc τ_ok 13 hv2 (by kernel_rfl) ?_
 obtain ⟨v3, hv4, h⟩ := bindS h
 refine opsP_callV (xs := [rf 0 0 4 a0, A v1, .fn 123 []]) τ 14 (ok_slices_BinarySearchFunc_impl_Tally_impl_Tally_impl_Value_s2 (rfl) (fun _ _ w hw => ok_impl_tell_1 hw) hv4) (Blind.tup (BlindL.cons (Blind.lit _) (BlindL.cons (Blind.lit _) BlindL.nil))) (FzTo.tup (FzToL.cons (FzTo.frz rfl) (FzToL.cons (FzTo.frz rfl) FzToL.nil))) (by kernel_rfl) (ViewL.cons (View.whole (v := 0) a0 (by kernel_rfl) rfl) (ViewL.cons (View.frz rfl) (ViewL.cons (View.frz rfl) (ViewL.nil _)))) ?_
 refine ve 5 89 [(0, rf 0 0 4 a0), (1, A a1), (2, I a2), (7, I v3.1), (8, B v3.2)] [sl 0 a0] ?_
 refine pwp_seq ?_
 refine pwp_join (σ := (List T_impl_Tally)) (fun x5 => (⟨89, [(0, rf 0 0 4 x5), (1, A a1), (2, I a2), (7, I v3.1)], [sl 0 x5]⟩ : St)) (fun x5 => impl_tell_j0 a1 a2 v3 x5 = some y) ?_ ?_
 refine srve 89 [(0, rf 0 0 4 a0), (1, A a1), (2, I a2), (7, I v3.1), (18, B (!v3.2))] [sl 0 a0] ?_
 refine pc h (fun h => ?_) (fun h => ?_)
 refine rv 3 89 [(1, A a1), (2, I a2), (7, I v3.1), (19, rf 0 0 4 a0), (20, I v3.1), (21, A a1)] [sl 0 a0] ?_
 obtain ⟨v26, hv27, h⟩ := bindS h
 refine opsP_slc τ_ok 22 hv27 (by kernel_rfl) ?_
 obtain ⟨v28, hv29, h⟩ := bindS h
 refine cF 23 (ok_impl_clone_impl_Value hv29) ?_
 refine v 1 89 [(1, A a1), (2, I a2), (7, I v3.1), (19, rf 0 0 4 a0), (20, I v3.1), (24, E (T_impl_Tally.mk v28 0 0 0))] [sl 0 a0] ?_
 refine opsP_E (dd := some 25) (x := .ref 1 0 0 4 ([(T_impl_Tally.mk v28 0 0 0)] : List T_impl_Tally).length false) (bsl_N (cells := eL ([(T_impl_Tally.mk v28 0 0 0)] : List T_impl_Tally)) τ_ok 25 1 (nx hX) (by kernel_rfl) (by kernel_rfl)) ?_
 obtain ⟨v30, hv31, h⟩ := bindS h
 refine opsP_callM (xs := [rf 0 0 4 a0, I v3.1, .ref 1 0 0 4 ([(T_impl_Tally.mk v28 0 0 0)] : List T_impl_Tally).length false]) (x := rf 2 0 4 v30) (bs := [⟨0, eL v30⟩]) τ 26 [0, 1] (nx hX) (ok_insT hv31) (by kernel_rfl) (OutL.cons (OutP.list (v := 0) (by kernel_rfl)) (OutL.cons (OutP.frz rfl) (OutL.cons (OutP.list (v := 0) (by kernel_rfl)) (OutL.nil _)))) (by decide) (by kernel_rfl) ?_
 refine ve 1 89 [(0, rf 2 0 4 v30), (1, A a1), (2, I a2), (7, I v3.1)] [none, none, sl 0 v30] ?_
 exact ⟨v30, h, qt (it (st' := ⟨89, [(0, rf 2 0 4 v30), (1, A a1), (2, I a2), (7, I v3.1)], [none, none, sl 0 v30]⟩) [0, 1, 2, 7]) (qt (Imp.mvS (st' := ⟨89, [(0, rf 0 0 4 v30), (1, A a1), (2, I a2), (7, I v3.1)], [sl 0 v30, none, none]⟩) 2 0 [0, 1, 2, 7] (nx hX) (v := 0) (cs := eL v30) (by kernel_rfl) (by kernel_rfl) (by exact (And.intro (eL_frz _) trivial)) (by kernel_rfl) (by kernel_rfl)) (Imp.truncS 1 (nx hX) (by kernel_rfl) (allBelow_mem (by exact (And.intro rfl (And.intro rfl (And.intro rfl (And.intro rfl trivial)))))) (by exact (And.intro (frz_below (eL_frz _)) trivial)) (by kernel_rfl)))⟩
 refine pwp_skip ?_
 exact ⟨a0, h, it [0, 1, 2, 7]⟩
 rintro x5 h
 unfold impl_tell_j0 at h
 refine srv 2 89 [(0, rf 0 0 4 x5), (1, A a1), (2, I a2), (7, I v3.1), (27, rf 0 0 4 x5), (28, I v3.1)] [sl 0 x5] ?_
 obtain ⟨v6, hv7, h⟩ := bindS h
 refine opsP_idr τ_ok 29 0 0 x5.length hv7 rfl (by kernel_rfl) ?_
 refine ve 1 89 [(0, rf 0 0 4 x5), (1, A a1), (2, I a2), (7, I v3.1), (9, .ptr 0 0 (v3.1.toNat * 4))] [sl 0 x5] ?_
 refine srv 3 89 [(0, rf 0 0 4 x5), (1, A a1), (2, I a2), (7, I v3.1), (9, .ptr 0 0 (v3.1.toNat * 4)), (30, .ptr 0 0 (v3.1.toNat * 4)), (32, .ptr 0 0 (v3.1.toNat * 4 + 1))] [sl 0 x5] ?_
 refine opsP_lde (r := I v6.fRows) τ_ok 33 3 1 hv7 (by kernel_rfl) (by kernel_rfl) ?_
 refine v 4 89 [(0, rf 0 0 4 x5), (1, A a1), (2, I a2), (7, I v3.1), (9, .ptr 0 0 (v3.1.toNat * 4)), (35, I (w64 (v6.fRows + a2))), (37, .ptr 0 0 (v3.1.toNat * 4 + 1))] [sl 0 x5] ?_
 refine opsP_ste (vs := [I (w64 (v6.fRows + a2))]) τ_ok 3 0 0 1 ({ v6 with fRows := (w64 (v6.fRows + a2)) } : T_impl_Tally) hv7 (by kernel_rfl) (by kernel_rfl) (by kernel_rfl) (renC (ren_ref (List.length_set ..).symm) (renC trivial (renC trivial (renC trivial (renC trivial (renC trivial (renC trivial renC0))))))) ?_
 refine ve 0 89 [(0, .ref 0 0 0 4 (x5.set v3.1.toNat ({ v6 with fRows := (w64 (v6.fRows + a2)) } : T_impl_Tally)).length false), (1, A a1), (2, I a2), (7, I v3.1), (9, .ptr 0 0 (v3.1.toNat * 4))] [some ⟨0, eL (x5.set v3.1.toNat ({ v6 with fRows := (w64 (v6.fRows + a2)) } : T_impl_Tally))⟩] ?_
 refine pwp_seq ?_
 refine srv 1 89 [(0, .ref 0 0 0 4 (x5.set v3.1.toNat ({ v6 with fRows := (w64 (v6.fRows + a2)) } : T_impl_Tally)).length false), (1, A a1), (2, I a2), (7, I v3.1), (9, .ptr 0 0 (v3.1.toNat * 4)), (38, A a1)] [some ⟨0, eL (x5.set v3.1.toNat ({ v6 with fRows := (w64 (v6.fRows + a2)) } : T_impl_Tally))⟩] ?_
 obtain ⟨v8, hv9, h⟩ := bindS h
 refine opsP_idx τ_ok 39 hv9 (by kernel_rfl) ?_
 refine ve 3 89 [(0, .ref 0 0 0 4 (x5.set v3.1.toNat ({ v6 with fRows := (w64 (v6.fRows + a2)) } : T_impl_Tally)).length false), (1, A a1), (2, I a2), (7, I v3.1), (9, .ptr 0 0 (v3.1.toNat * 4)), (42, B (v8.fKind == 1))] [some ⟨0, eL (x5.set v3.1.toNat ({ v6 with fRows := (w64 (v6.fRows + a2)) } : T_impl_Tally))⟩] ?_
 refine pc h (fun h => ?_) (fun h => ?_)
 refine srv 3 89 [(0, .ref 0 0 0 4 (x5.set v3.1.toNat ({ v6 with fRows := (w64 (v6.fRows + a2)) } : T_impl_Tally)).length false), (1, A a1), (2, I a2), (7, I v3.1), (9, .ptr 0 0 (v3.1.toNat * 4)), (43, .ptr 0 0 (v3.1.toNat * 4)), (45, .ptr 0 0 (v3.1.toNat * 4 + 2))] [some ⟨0, eL (x5.set v3.1.toNat ({ v6 with fRows := (w64 (v6.fRows + a2)) } : T_impl_Tally))⟩] ?_
 refine opsP_lde (r := I (({ v6 with fRows := (w64 (v6.fRows + a2)) } : T_impl_Tally).fMany)) τ_ok 46 3 2 (getI_set (y := ({ v6 with fRows := (w64 (v6.fRows + a2)) } : T_impl_Tally)) hv7) (by kernel_rfl) (by kernel_rfl) ?_
 refine v 4 89 [(0, .ref 0 0 0 4 (x5.set v3.1.toNat ({ v6 with fRows := (w64 (v6.fRows + a2)) } : T_impl_Tally)).length false), (1, A a1), (2, I a2), (7, I v3.1), (9, .ptr 0 0 (v3.1.toNat * 4)), (48, I (w64 ((({ v6 with fRows := (w64 (v6.fRows + a2)) } : T_impl_Tally).fMany) + a2))), (50, .ptr 0 0 (v3.1.toNat * 4 + 2))] [some ⟨0, eL (x5.set v3.1.toNat ({ v6 with fRows := (w64 (v6.fRows + a2)) } : T_impl_Tally))⟩] ?_
 refine opsP_ste (vs := [I (w64 ((({ v6 with fRows := (w64 (v6.fRows + a2)) } : T_impl_Tally).fMany) + a2))]) τ_ok 3 0 0 2 ({ ({ v6 with fRows := (w64 (v6.fRows + a2)) } : T_impl_Tally) with fMany := (w64 ((({ v6 with fRows := (w64 (v6.fRows + a2)) } : T_impl_Tally).fMany) + a2)) } : T_impl_Tally) (getI_set (y := ({ v6 with fRows := (w64 (v6.fRows + a2)) } : T_impl_Tally)) hv7) (by kernel_rfl) (by kernel_rfl) (by kernel_rfl) (renC (ren_ref (List.length_set ..).symm) (renC trivial (renC trivial (renC trivial (renC trivial (renC trivial (renC trivial renC0))))))) ?_
 refine ve 0 89 [(0, .ref 0 0 0 4 ((x5.set v3.1.toNat ({ v6 with fRows := (w64 (v6.fRows + a2)) } : T_impl_Tally)).set v3.1.toNat ({ ({ v6 with fRows := (w64 (v6.fRows + a2)) } : T_impl_Tally) with fMany := (w64 ((({ v6 with fRows := (w64 (v6.fRows + a2)) } : T_impl_Tally).fMany) + a2)) } : T_impl_Tally)).length false), (1, A a1), (2, I a2), (7, I v3.1), (9, .ptr 0 0 (v3.1.toNat * 4))] [some ⟨0, eL ((x5.set v3.1.toNat ({ v6 with fRows := (w64 (v6.fRows + a2)) } : T_impl_Tally)).set v3.1.toNat ({ ({ v6 with fRows := (w64 (v6.fRows + a2)) } : T_impl_Tally) with fMany := (w64 ((({ v6 with fRows := (w64 (v6.fRows + a2)) } : T_impl_Tally).fMany) + a2)) } : T_impl_Tally))⟩] ?_
 refine ip 89 [(0, .ref 0 0 0 4 ((x5.set v3.1.toNat ({ v6 with fRows := (w64 (v6.fRows + a2)) } : T_impl_Tally)).set v3.1.toNat ({ ({ v6 with fRows := (w64 (v6.fRows + a2)) } : T_impl_Tally) with fMany := (w64 ((({ v6 with fRows := (w64 (v6.fRows + a2)) } : T_impl_Tally).fMany) + a2)) } : T_impl_Tally)).length false), (1, A a1), (2, I a2), (7, I v3.1), (9, .ptr 0 0 (v3.1.toNat * 4))] [some ⟨0, eL ((x5.set v3.1.toNat ({ v6 with fRows := (w64 (v6.fRows + a2)) } : T_impl_Tally)).set v3.1.toNat ({ ({ v6 with fRows := (w64 (v6.fRows + a2)) } : T_impl_Tally) with fMany := (w64 ((({ v6 with fRows := (w64 (v6.fRows + a2)) } : T_impl_Tally).fMany) + a2)) } : T_impl_Tally))⟩] ?_
 refine pwp_any ([[0], [0], [0], [0], [], [], [], [], [], [], [], [0], [0], [0]]) ([[], [], [], [], [], [], [], [], [], [], [], [], [], [0]]) rfl (by kernel_rfl) ?_
 refine qv [0] (hL trivial) 3 89 [(53, .ptr 0 0 (v3.1.toNat * 4 + 3)), (51, .ptr 0 0 (v3.1.toNat * 4)), (0, .ref 0 0 0 4 ((x5.set v3.1.toNat ({ v6 with fRows := (w64 (v6.fRows + a2)) } : T_impl_Tally)).set v3.1.toNat ({ ({ v6 with fRows := (w64 (v6.fRows + a2)) } : T_impl_Tally) with fMany := (w64 ((({ v6 with fRows := (w64 (v6.fRows + a2)) } : T_impl_Tally).fMany) + a2)) } : T_impl_Tally)).length false), (1, A a1), (2, I a2), (7, I v3.1), (9, .ptr 0 0 (v3.1.toNat * 4))] [some ⟨0, eL ((x5.set v3.1.toNat ({ v6 with fRows := (w64 (v6.fRows + a2)) } : T_impl_Tally)).set v3.1.toNat ({ ({ v6 with fRows := (w64 (v6.fRows + a2)) } : T_impl_Tally) with fMany := (w64 ((({ v6 with fRows := (w64 (v6.fRows + a2)) } : T_impl_Tally).fMany) + a2)) } : T_impl_Tally))⟩] ?_
 refine qX (some 54) (I (({ ({ v6 with fRows := (w64 (v6.fRows + a2)) } : T_impl_Tally) with fMany := (w64 ((({ v6 with fRows := (w64 (v6.fRows + a2)) } : T_impl_Tally).fMany) + a2)) } : T_impl_Tally).fSum)) 89 [(54, I (({ ({ v6 with fRows := (w64 (v6.fRows + a2)) } : T_impl_Tally) with fMany := (w64 ((({ v6 with fRows := (w64 (v6.fRows + a2)) } : T_impl_Tally).fMany) + a2)) } : T_impl_Tally).fSum)), (51, .ptr 0 0 (v3.1.toNat * 4)), (0, .ref 0 0 0 4 ((x5.set v3.1.toNat ({ v6 with fRows := (w64 (v6.fRows + a2)) } : T_impl_Tally)).set v3.1.toNat ({ ({ v6 with fRows := (w64 (v6.fRows + a2)) } : T_impl_Tally) with fMany := (w64 ((({ v6 with fRows := (w64 (v6.fRows + a2)) } : T_impl_Tally).fMany) + a2)) } : T_impl_Tally)).length false), (1, A a1), (2, I a2), (7, I v3.1), (9, .ptr 0 0 (v3.1.toNat * 4))] [some ⟨0, eL ((x5.set v3.1.toNat ({ v6 with fRows := (w64 (v6.fRows + a2)) } : T_impl_Tally)).set v3.1.toNat ({ ({ v6 with fRows := (w64 (v6.fRows + a2)) } : T_impl_Tally) with fMany := (w64 ((({ v6 with fRows := (w64 (v6.fRows + a2)) } : T_impl_Tally).fMany) + a2)) } : T_impl_Tally))⟩] (fun Γ' hΓ => CoreE.of_y (ldeV_sound (t := 3) (o' := 3) (r := I (({ ({ v6 with fRows := (w64 (v6.fRows + a2)) } : T_impl_Tally) with fMany := (w64 ((({ v6 with fRows := (w64 (v6.fRows + a2)) } : T_impl_Tally).fMany) + a2)) } : T_impl_Tally).fSum)) τ_ok (getI_set (y := ({ ({ v6 with fRows := (w64 (v6.fRows + a2)) } : T_impl_Tally) with fMany := (w64 ((({ v6 with fRows := (w64 (v6.fRows + a2)) } : T_impl_Tally).fMany) + a2)) } : T_impl_Tally)) (getI_set (y := ({ v6 with fRows := (w64 (v6.fRows + a2)) } : T_impl_Tally)) hv7)) (by kernel_rfl) (by kernel_rfl))) (hL trivial) ?_
 refine qv [] trivial 2 89 [(56, A a1), (55, I a2), (54, I (({ ({ v6 with fRows := (w64 (v6.fRows + a2)) } : T_impl_Tally) with fMany := (w64 ((({ v6 with fRows := (w64 (v6.fRows + a2)) } : T_impl_Tally).fMany) + a2)) } : T_impl_Tally).fSum)), (51, .ptr 0 0 (v3.1.toNat * 4)), (0, .ref 0 0 0 4 ((x5.set v3.1.toNat ({ v6 with fRows := (w64 (v6.fRows + a2)) } : T_impl_Tally)).set v3.1.toNat ({ ({ v6 with fRows := (w64 (v6.fRows + a2)) } : T_impl_Tally) with fMany := (w64 ((({ v6 with fRows := (w64 (v6.fRows + a2)) } : T_impl_Tally).fMany) + a2)) } : T_impl_Tally)).length false), (7, I v3.1), (9, .ptr 0 0 (v3.1.toNat * 4))] [some ⟨0, eL ((x5.set v3.1.toNat ({ v6 with fRows := (w64 (v6.fRows + a2)) } : T_impl_Tally)).set v3.1.toNat ({ ({ v6 with fRows := (w64 (v6.fRows + a2)) } : T_impl_Tally) with fMany := (w64 ((({ v6 with fRows := (w64 (v6.fRows + a2)) } : T_impl_Tally).fMany) + a2)) } : T_impl_Tally))⟩] ?_
 obtain ⟨v11, hv12, h⟩ := bindS h
 refine qX (some 57) (pf v11 0) 89 [(57, pf v11 0), (55, I a2), (54, I (({ ({ v6 with fRows := (w64 (v6.fRows + a2)) } : T_impl_Tally) with fMany := (w64 ((({ v6 with fRows := (w64 (v6.fRows + a2)) } : T_impl_Tally).fMany) + a2)) } : T_impl_Tally).fSum)), (51, .ptr 0 0 (v3.1.toNat * 4)), (0, .ref 0 0 0 4 ((x5.set v3.1.toNat ({ v6 with fRows := (w64 (v6.fRows + a2)) } : T_impl_Tally)).set v3.1.toNat ({ ({ v6 with fRows := (w64 (v6.fRows + a2)) } : T_impl_Tally) with fMany := (w64 ((({ v6 with fRows := (w64 (v6.fRows + a2)) } : T_impl_Tally).fMany) + a2)) } : T_impl_Tally)).length false), (7, I v3.1), (9, .ptr 0 0 (v3.1.toNat * 4))] [some ⟨0, eL ((x5.set v3.1.toNat ({ v6 with fRows := (w64 (v6.fRows + a2)) } : T_impl_Tally)).set v3.1.toNat ({ ({ v6 with fRows := (w64 (v6.fRows + a2)) } : T_impl_Tally) with fMany := (w64 ((({ v6 with fRows := (w64 (v6.fRows + a2)) } : T_impl_Tally).fMany) + a2)) } : T_impl_Tally))⟩] (fun Γ' hΓ => CoreE.of_y (idxV_sound τ_ok (by kernel_rfl) hv12)) trivial ?_
 refine qv [] trivial 4 89 [(61, I (w64 ((({ ({ v6 with fRows := (w64 (v6.fRows + a2)) } : T_impl_Tally) with fMany := (w64 ((({ v6 with fRows := (w64 (v6.fRows + a2)) } : T_impl_Tally).fMany) + a2)) } : T_impl_Tally).fSum) + (w64 (a2 * v11.fN))))), (51, .ptr 0 0 (v3.1.toNat * 4)), (0, .ref 0 0 0 4 ((x5.set v3.1.toNat ({ v6 with fRows := (w64 (v6.fRows + a2)) } : T_impl_Tally)).set v3.1.toNat ({ ({ v6 with fRows := (w64 (v6.fRows + a2)) } : T_impl_Tally) with fMany := (w64 ((({ v6 with fRows := (w64 (v6.fRows + a2)) } : T_impl_Tally).fMany) + a2)) } : T_impl_Tally)).length false), (7, I v3.1), (9, .ptr 0 0 (v3.1.toNat * 4))] [some ⟨0, eL ((x5.set v3.1.toNat ({ v6 with fRows := (w64 (v6.fRows + a2)) } : T_impl_Tally)).set v3.1.toNat ({ ({ v6 with fRows := (w64 (v6.fRows + a2)) } : T_impl_Tally) with fMany := (w64 ((({ v6 with fRows := (w64 (v6.fRows + a2)) } : T_impl_Tally).fMany) + a2)) } : T_impl_Tally))⟩] ?_
 refine qv [0] (hL trivial) 2 89 [(63, .ptr 0 0 (v3.1.toNat * 4 + 3)), (61, I (w64 ((({ ({ v6 with fRows := (w64 (v6.fRows + a2)) } : T_impl_Tally) with fMany := (w64 ((({ v6 with fRows := (w64 (v6.fRows + a2)) } : T_impl_Tally).fMany) + a2)) } : T_impl_Tally).fSum) + (w64 (a2 * v11.fN))))), (0, .ref 0 0 0 4 ((x5.set v3.1.toNat ({ v6 with fRows := (w64 (v6.fRows + a2)) } : T_impl_Tally)).set v3.1.toNat ({ ({ v6 with fRows := (w64 (v6.fRows + a2)) } : T_impl_Tally) with fMany := (w64 ((({ v6 with fRows := (w64 (v6.fRows + a2)) } : T_impl_Tally).fMany) + a2)) } : T_impl_Tally)).length false), (7, I v3.1), (9, .ptr 0 0 (v3.1.toNat * 4))] [some ⟨0, eL ((x5.set v3.1.toNat ({ v6 with fRows := (w64 (v6.fRows + a2)) } : T_impl_Tally)).set v3.1.toNat ({ ({ v6 with fRows := (w64 (v6.fRows + a2)) } : T_impl_Tally) with fMany := (w64 ((({ v6 with fRows := (w64 (v6.fRows + a2)) } : T_impl_Tally).fMany) + a2)) } : T_impl_Tally))⟩] ?_
 refine qX none (.any) 89 [(0, .ref 0 0 0 4 ((x5.set v3.1.toNat ({ v6 with fRows := (w64 (v6.fRows + a2)) } : T_impl_Tally)).set v3.1.toNat ({ ({ v6 with fRows := (w64 (v6.fRows + a2)) } : T_impl_Tally) with fMany := (w64 ((({ v6 with fRows := (w64 (v6.fRows + a2)) } : T_impl_Tally).fMany) + a2)) } : T_impl_Tally)).length false), (7, I v3.1), (9, .ptr 0 0 (v3.1.toNat * 4))] [some ⟨0, eL (((x5.set v3.1.toNat ({ v6 with fRows := (w64 (v6.fRows + a2)) } : T_impl_Tally)).set v3.1.toNat ({ ({ v6 with fRows := (w64 (v6.fRows + a2)) } : T_impl_Tally) with fMany := (w64 ((({ v6 with fRows := (w64 (v6.fRows + a2)) } : T_impl_Tally).fMany) + a2)) } : T_impl_Tally)).set v3.1.toNat ({ ({ ({ v6 with fRows := (w64 (v6.fRows + a2)) } : T_impl_Tally) with fMany := (w64 ((({ v6 with fRows := (w64 (v6.fRows + a2)) } : T_impl_Tally).fMany) + a2)) } : T_impl_Tally) with fSum := (w64 ((({ ({ v6 with fRows := (w64 (v6.fRows + a2)) } : T_impl_Tally) with fMany := (w64 ((({ v6 with fRows := (w64 (v6.fRows + a2)) } : T_impl_Tally).fMany) + a2)) } : T_impl_Tally).fSum) + (w64 (a2 * v11.fN)))) } : T_impl_Tally))⟩] (fun Γ' hΓ => ste_E (vs := [I (w64 ((({ ({ v6 with fRows := (w64 (v6.fRows + a2)) } : T_impl_Tally) with fMany := (w64 ((({ v6 with fRows := (w64 (v6.fRows + a2)) } : T_impl_Tally).fMany) + a2)) } : T_impl_Tally).fSum) + (w64 (a2 * v11.fN))))]) τ_ok 3 0 0 3 ({ ({ ({ v6 with fRows := (w64 (v6.fRows + a2)) } : T_impl_Tally) with fMany := (w64 ((({ v6 with fRows := (w64 (v6.fRows + a2)) } : T_impl_Tally).fMany) + a2)) } : T_impl_Tally) with fSum := (w64 ((({ ({ v6 with fRows := (w64 (v6.fRows + a2)) } : T_impl_Tally) with fMany := (w64 ((({ v6 with fRows := (w64 (v6.fRows + a2)) } : T_impl_Tally).fMany) + a2)) } : T_impl_Tally).fSum) + (w64 (a2 * v11.fN)))) } : T_impl_Tally) (getI_set (y := ({ ({ v6 with fRows := (w64 (v6.fRows + a2)) } : T_impl_Tally) with fMany := (w64 ((({ v6 with fRows := (w64 (v6.fRows + a2)) } : T_impl_Tally).fMany) + a2)) } : T_impl_Tally)) (getI_set (y := ({ v6 with fRows := (w64 (v6.fRows + a2)) } : T_impl_Tally)) hv7)) (by kernel_rfl) (by kernel_rfl) (by kernel_rfl)) (hL trivial) ?_
 refine qA_ren (st' := ⟨89, [(0, .ref 0 0 0 4 (((x5.set v3.1.toNat ({ v6 with fRows := (w64 (v6.fRows + a2)) } : T_impl_Tally)).set v3.1.toNat ({ ({ v6 with fRows := (w64 (v6.fRows + a2)) } : T_impl_Tally) with fMany := (w64 ((({ v6 with fRows := (w64 (v6.fRows + a2)) } : T_impl_Tally).fMany) + a2)) } : T_impl_Tally)).set v3.1.toNat ({ ({ ({ v6 with fRows := (w64 (v6.fRows + a2)) } : T_impl_Tally) with fMany := (w64 ((({ v6 with fRows := (w64 (v6.fRows + a2)) } : T_impl_Tally).fMany) + a2)) } : T_impl_Tally) with fSum := (w64 ((({ ({ v6 with fRows := (w64 (v6.fRows + a2)) } : T_impl_Tally) with fMany := (w64 ((({ v6 with fRows := (w64 (v6.fRows + a2)) } : T_impl_Tally).fMany) + a2)) } : T_impl_Tally).fSum) + (w64 (a2 * v11.fN)))) } : T_impl_Tally)).length false), (7, I v3.1), (9, .ptr 0 0 (v3.1.toNat * 4))], [some ⟨0, eL (((x5.set v3.1.toNat ({ v6 with fRows := (w64 (v6.fRows + a2)) } : T_impl_Tally)).set v3.1.toNat ({ ({ v6 with fRows := (w64 (v6.fRows + a2)) } : T_impl_Tally) with fMany := (w64 ((({ v6 with fRows := (w64 (v6.fRows + a2)) } : T_impl_Tally).fMany) + a2)) } : T_impl_Tally)).set v3.1.toNat ({ ({ ({ v6 with fRows := (w64 (v6.fRows + a2)) } : T_impl_Tally) with fMany := (w64 ((({ v6 with fRows := (w64 (v6.fRows + a2)) } : T_impl_Tally).fMany) + a2)) } : T_impl_Tally) with fSum := (w64 ((({ ({ v6 with fRows := (w64 (v6.fRows + a2)) } : T_impl_Tally) with fMany := (w64 ((({ v6 with fRows := (w64 (v6.fRows + a2)) } : T_impl_Tally).fMany) + a2)) } : T_impl_Tally).fSum) + (w64 (a2 * v11.fN)))) } : T_impl_Tally))⟩]⟩) 0 (((x5.set v3.1.toNat ({ v6 with fRows := (w64 (v6.fRows + a2)) } : T_impl_Tally)).set v3.1.toNat ({ ({ v6 with fRows := (w64 (v6.fRows + a2)) } : T_impl_Tally) with fMany := (w64 ((({ v6 with fRows := (w64 (v6.fRows + a2)) } : T_impl_Tally).fMany) + a2)) } : T_impl_Tally)).set v3.1.toNat ({ ({ ({ v6 with fRows := (w64 (v6.fRows + a2)) } : T_impl_Tally) with fMany := (w64 ((({ v6 with fRows := (w64 (v6.fRows + a2)) } : T_impl_Tally).fMany) + a2)) } : T_impl_Tally) with fSum := (w64 ((({ ({ v6 with fRows := (w64 (v6.fRows + a2)) } : T_impl_Tally) with fMany := (w64 ((({ v6 with fRows := (w64 (v6.fRows + a2)) } : T_impl_Tally).fMany) + a2)) } : T_impl_Tally).fSum) + (w64 (a2 * v11.fN)))) } : T_impl_Tally)).length (renC (ren_ref (List.length_set ..).symm) (renC trivial (renC trivial renC0))) (by kernel_rfl) ?_
 refine qn 89 [(0, .ref 0 0 0 4 (((x5.set v3.1.toNat ({ v6 with fRows := (w64 (v6.fRows + a2)) } : T_impl_Tally)).set v3.1.toNat ({ ({ v6 with fRows := (w64 (v6.fRows + a2)) } : T_impl_Tally) with fMany := (w64 ((({ v6 with fRows := (w64 (v6.fRows + a2)) } : T_impl_Tally).fMany) + a2)) } : T_impl_Tally)).set v3.1.toNat ({ ({ ({ v6 with fRows := (w64 (v6.fRows + a2)) } : T_impl_Tally) with fMany := (w64 ((({ v6 with fRows := (w64 (v6.fRows + a2)) } : T_impl_Tally).fMany) + a2)) } : T_impl_Tally) with fSum := (w64 ((({ ({ v6 with fRows := (w64 (v6.fRows + a2)) } : T_impl_Tally) with fMany := (w64 ((({ v6 with fRows := (w64 (v6.fRows + a2)) } : T_impl_Tally).fMany) + a2)) } : T_impl_Tally).fSum) + (w64 (a2 * v11.fN)))) } : T_impl_Tally)).length false), (7, I v3.1), (9, .ptr 0 0 (v3.1.toNat * 4))] [some ⟨0, eL (((x5.set v3.1.toNat ({ v6 with fRows := (w64 (v6.fRows + a2)) } : T_impl_Tally)).set v3.1.toNat ({ ({ v6 with fRows := (w64 (v6.fRows + a2)) } : T_impl_Tally) with fMany := (w64 ((({ v6 with fRows := (w64 (v6.fRows + a2)) } : T_impl_Tally).fMany) + a2)) } : T_impl_Tally)).set v3.1.toNat ({ ({ ({ v6 with fRows := (w64 (v6.fRows + a2)) } : T_impl_Tally) with fMany := (w64 ((({ v6 with fRows := (w64 (v6.fRows + a2)) } : T_impl_Tally).fMany) + a2)) } : T_impl_Tally) with fSum := (w64 ((({ ({ v6 with fRows := (w64 (v6.fRows + a2)) } : T_impl_Tally) with fMany := (w64 ((({ v6 with fRows := (w64 (v6.fRows + a2)) } : T_impl_Tally).fMany) + a2)) } : T_impl_Tally).fSum) + (w64 (a2 * v11.fN)))) } : T_impl_Tally))⟩] ?_
 refine pwp_seq ?_
 refine pwp_seq ?_
 refine pwp_join (σ := Bool) (fun x13 => (⟨89, [(0, .ref 0 0 0 4 (((x5.set v3.1.toNat ({ v6 with fRows := (w64 (v6.fRows + a2)) } : T_impl_Tally)).set v3.1.toNat ({ ({ v6 with fRows := (w64 (v6.fRows + a2)) } : T_impl_Tally) with fMany := (w64 ((({ v6 with fRows := (w64 (v6.fRows + a2)) } : T_impl_Tally).fMany) + a2)) } : T_impl_Tally)).set v3.1.toNat ({ ({ ({ v6 with fRows := (w64 (v6.fRows + a2)) } : T_impl_Tally) with fMany := (w64 ((({ v6 with fRows := (w64 (v6.fRows + a2)) } : T_impl_Tally).fMany) + a2)) } : T_impl_Tally) with fSum := (w64 ((({ ({ v6 with fRows := (w64 (v6.fRows + a2)) } : T_impl_Tally) with fMany := (w64 ((({ v6 with fRows := (w64 (v6.fRows + a2)) } : T_impl_Tally).fMany) + a2)) } : T_impl_Tally).fSum) + (w64 (a2 * v11.fN)))) } : T_impl_Tally)).length false), (7, I v3.1), (82, B x13)], [some ⟨0, eL (((x5.set v3.1.toNat ({ v6 with fRows := (w64 (v6.fRows + a2)) } : T_impl_Tally)).set v3.1.toNat ({ ({ v6 with fRows := (w64 (v6.fRows + a2)) } : T_impl_Tally) with fMany := (w64 ((({ v6 with fRows := (w64 (v6.fRows + a2)) } : T_impl_Tally).fMany) + a2)) } : T_impl_Tally)).set v3.1.toNat ({ ({ ({ v6 with fRows := (w64 (v6.fRows + a2)) } : T_impl_Tally) with fMany := (w64 ((({ v6 with fRows := (w64 (v6.fRows + a2)) } : T_impl_Tally).fMany) + a2)) } : T_impl_Tally) with fSum := (w64 ((({ ({ v6 with fRows := (w64 (v6.fRows + a2)) } : T_impl_Tally) with fMany := (w64 ((({ v6 with fRows := (w64 (v6.fRows + a2)) } : T_impl_Tally).fMany) + a2)) } : T_impl_Tally).fSum) + (w64 (a2 * v11.fN)))) } : T_impl_Tally))⟩]⟩ : St)) (fun x13 => impl_tell_j1 a2 v3 x5 v6 v11 x13 = some y) ?_ ?_
 refine rv 3 89 [(0, .ref 0 0 0 4 (((x5.set v3.1.toNat ({ v6 with fRows := (w64 (v6.fRows + a2)) } : T_impl_Tally)).set v3.1.toNat ({ ({ v6 with fRows := (w64 (v6.fRows + a2)) } : T_impl_Tally) with fMany := (w64 ((({ v6 with fRows := (w64 (v6.fRows + a2)) } : T_impl_Tally).fMany) + a2)) } : T_impl_Tally)).set v3.1.toNat ({ ({ ({ v6 with fRows := (w64 (v6.fRows + a2)) } : T_impl_Tally) with fMany := (w64 ((({ v6 with fRows := (w64 (v6.fRows + a2)) } : T_impl_Tally).fMany) + a2)) } : T_impl_Tally) with fSum := (w64 ((({ ({ v6 with fRows := (w64 (v6.fRows + a2)) } : T_impl_Tally) with fMany := (w64 ((({ v6 with fRows := (w64 (v6.fRows + a2)) } : T_impl_Tally).fMany) + a2)) } : T_impl_Tally).fSum) + (w64 (a2 * v11.fN)))) } : T_impl_Tally)).length false), (7, I v3.1), (9, .ptr 0 0 (v3.1.toNat * 4)), (66, .ptr 0 0 (v3.1.toNat * 4 + 1))] [some ⟨0, eL (((x5.set v3.1.toNat ({ v6 with fRows := (w64 (v6.fRows + a2)) } : T_impl_Tally)).set v3.1.toNat ({ ({ v6 with fRows := (w64 (v6.fRows + a2)) } : T_impl_Tally) with fMany := (w64 ((({ v6 with fRows := (w64 (v6.fRows + a2)) } : T_impl_Tally).fMany) + a2)) } : T_impl_Tally)).set v3.1.toNat ({ ({ ({ v6 with fRows := (w64 (v6.fRows + a2)) } : T_impl_Tally) with fMany := (w64 ((({ v6 with fRows := (w64 (v6.fRows + a2)) } : T_impl_Tally).fMany) + a2)) } : T_impl_Tally) with fSum := (w64 ((({ ({ v6 with fRows := (w64 (v6.fRows + a2)) } : T_impl_Tally) with fMany := (w64 ((({ v6 with fRows := (w64 (v6.fRows + a2)) } : T_impl_Tally).fMany) + a2)) } : T_impl_Tally).fSum) + (w64 (a2 * v11.fN)))) } : T_impl_Tally))⟩] ?_
 refine opsP_lde (r := I (({ ({ ({ v6 with fRows := (w64 (v6.fRows + a2)) } : T_impl_Tally) with fMany := (w64 ((({ v6 with fRows := (w64 (v6.fRows + a2)) } : T_impl_Tally).fMany) + a2)) } : T_impl_Tally) with fSum := (w64 ((({ ({ v6 with fRows := (w64 (v6.fRows + a2)) } : T_impl_Tally) with fMany := (w64 ((({ v6 with fRows := (w64 (v6.fRows + a2)) } : T_impl_Tally).fMany) + a2)) } : T_impl_Tally).fSum) + (w64 (a2 * v11.fN)))) } : T_impl_Tally).fRows)) τ_ok 67 3 1 (getI_set (y := ({ ({ ({ v6 with fRows := (w64 (v6.fRows + a2)) } : T_impl_Tally) with fMany := (w64 ((({ v6 with fRows := (w64 (v6.fRows + a2)) } : T_impl_Tally).fMany) + a2)) } : T_impl_Tally) with fSum := (w64 ((({ ({ v6 with fRows := (w64 (v6.fRows + a2)) } : T_impl_Tally) with fMany := (w64 ((({ v6 with fRows := (w64 (v6.fRows + a2)) } : T_impl_Tally).fMany) + a2)) } : T_impl_Tally).fSum) + (w64 (a2 * v11.fN)))) } : T_impl_Tally)) (getI_set (y := ({ ({ v6 with fRows := (w64 (v6.fRows + a2)) } : T_impl_Tally) with fMany := (w64 ((({ v6 with fRows := (w64 (v6.fRows + a2)) } : T_impl_Tally).fMany) + a2)) } : T_impl_Tally)) (getI_set (y := ({ v6 with fRows := (w64 (v6.fRows + a2)) } : T_impl_Tally)) hv7))) (by kernel_rfl) (by kernel_rfl) ?_
 refine v 2 89 [(0, .ref 0 0 0 4 (((x5.set v3.1.toNat ({ v6 with fRows := (w64 (v6.fRows + a2)) } : T_impl_Tally)).set v3.1.toNat ({ ({ v6 with fRows := (w64 (v6.fRows + a2)) } : T_impl_Tally) with fMany := (w64 ((({ v6 with fRows := (w64 (v6.fRows + a2)) } : T_impl_Tally).fMany) + a2)) } : T_impl_Tally)).set v3.1.toNat ({ ({ ({ v6 with fRows := (w64 (v6.fRows + a2)) } : T_impl_Tally) with fMany := (w64 ((({ v6 with fRows := (w64 (v6.fRows + a2)) } : T_impl_Tally).fMany) + a2)) } : T_impl_Tally) with fSum := (w64 ((({ ({ v6 with fRows := (w64 (v6.fRows + a2)) } : T_impl_Tally) with fMany := (w64 ((({ v6 with fRows := (w64 (v6.fRows + a2)) } : T_impl_Tally).fMany) + a2)) } : T_impl_Tally).fSum) + (w64 (a2 * v11.fN)))) } : T_impl_Tally)).length false), (7, I v3.1), (9, .ptr 0 0 (v3.1.toNat * 4)), (69, B ((({ ({ ({ v6 with fRows := (w64 (v6.fRows + a2)) } : T_impl_Tally) with fMany := (w64 ((({ v6 with fRows := (w64 (v6.fRows + a2)) } : T_impl_Tally).fMany) + a2)) } : T_impl_Tally) with fSum := (w64 ((({ ({ v6 with fRows := (w64 (v6.fRows + a2)) } : T_impl_Tally) with fMany := (w64 ((({ v6 with fRows := (w64 (v6.fRows + a2)) } : T_impl_Tally).fMany) + a2)) } : T_impl_Tally).fSum) + (w64 (a2 * v11.fN)))) } : T_impl_Tally).fRows) == 0))] [some ⟨0, eL (((x5.set v3.1.toNat ({ v6 with fRows := (w64 (v6.fRows + a2)) } : T_impl_Tally)).set v3.1.toNat ({ ({ v6 with fRows := (w64 (v6.fRows + a2)) } : T_impl_Tally) with fMany := (w64 ((({ v6 with fRows := (w64 (v6.fRows + a2)) } : T_impl_Tally).fMany) + a2)) } : T_impl_Tally)).set v3.1.toNat ({ ({ ({ v6 with fRows := (w64 (v6.fRows + a2)) } : T_impl_Tally) with fMany := (w64 ((({ v6 with fRows := (w64 (v6.fRows + a2)) } : T_impl_Tally).fMany) + a2)) } : T_impl_Tally) with fSum := (w64 ((({ ({ v6 with fRows := (w64 (v6.fRows + a2)) } : T_impl_Tally) with fMany := (w64 ((({ v6 with fRows := (w64 (v6.fRows + a2)) } : T_impl_Tally).fMany) + a2)) } : T_impl_Tally).fSum) + (w64 (a2 * v11.fN)))) } : T_impl_Tally))⟩] ?_
 rcases fk ((({ ({ ({ v6 with fRows := (w64 (v6.fRows + a2)) } : T_impl_Tally) with fMany := (w64 ((({ v6 with fRows := (w64 (v6.fRows + a2)) } : T_impl_Tally).fMany) + a2)) } : T_impl_Tally) with fSum := (w64 ((({ ({ v6 with fRows := (w64 (v6.fRows + a2)) } : T_impl_Tally) with fMany := (w64 ((({ v6 with fRows := (w64 (v6.fRows + a2)) } : T_impl_Tally).fMany) + a2)) } : T_impl_Tally).fSum) + (w64 (a2 * v11.fN)))) } : T_impl_Tally).fRows) == 0) with hc18 | hc18
 replace h := bT hc18 h
 rw [hc18]
 refine v 3 89 [(0, .ref 0 0 0 4 (((x5.set v3.1.toNat ({ v6 with fRows := (w64 (v6.fRows + a2)) } : T_impl_Tally)).set v3.1.toNat ({ ({ v6 with fRows := (w64 (v6.fRows + a2)) } : T_impl_Tally) with fMany := (w64 ((({ v6 with fRows := (w64 (v6.fRows + a2)) } : T_impl_Tally).fMany) + a2)) } : T_impl_Tally)).set v3.1.toNat ({ ({ ({ v6 with fRows := (w64 (v6.fRows + a2)) } : T_impl_Tally) with fMany := (w64 ((({ v6 with fRows := (w64 (v6.fRows + a2)) } : T_impl_Tally).fMany) + a2)) } : T_impl_Tally) with fSum := (w64 ((({ ({ v6 with fRows := (w64 (v6.fRows + a2)) } : T_impl_Tally) with fMany := (w64 ((({ v6 with fRows := (w64 (v6.fRows + a2)) } : T_impl_Tally).fMany) + a2)) } : T_impl_Tally).fSum) + (w64 (a2 * v11.fN)))) } : T_impl_Tally)).length false), (7, I v3.1), (9, .ptr 0 0 (v3.1.toNat * 4)), (69, B true), (72, .ptr 0 0 (v3.1.toNat * 4 + 2))] [some ⟨0, eL (((x5.set v3.1.toNat ({ v6 with fRows := (w64 (v6.fRows + a2)) } : T_impl_Tally)).set v3.1.toNat ({ ({ v6 with fRows := (w64 (v6.fRows + a2)) } : T_impl_Tally) with fMany := (w64 ((({ v6 with fRows := (w64 (v6.fRows + a2)) } : T_impl_Tally).fMany) + a2)) } : T_impl_Tally)).set v3.1.toNat ({ ({ ({ v6 with fRows := (w64 (v6.fRows + a2)) } : T_impl_Tally) with fMany := (w64 ((({ v6 with fRows := (w64 (v6.fRows + a2)) } : T_impl_Tally).fMany) + a2)) } : T_impl_Tally) with fSum := (w64 ((({ ({ v6 with fRows := (w64 (v6.fRows + a2)) } : T_impl_Tally) with fMany := (w64 ((({ v6 with fRows := (w64 (v6.fRows + a2)) } : T_impl_Tally).fMany) + a2)) } : T_impl_Tally).fSum) + (w64 (a2 * v11.fN)))) } : T_impl_Tally))⟩] ?_
 refine opsP_lde (r := I (({ ({ ({ v6 with fRows := (w64 (v6.fRows + a2)) } : T_impl_Tally) with fMany := (w64 ((({ v6 with fRows := (w64 (v6.fRows + a2)) } : T_impl_Tally).fMany) + a2)) } : T_impl_Tally) with fSum := (w64 ((({ ({ v6 with fRows := (w64 (v6.fRows + a2)) } : T_impl_Tally) with fMany := (w64 ((({ v6 with fRows := (w64 (v6.fRows + a2)) } : T_impl_Tally).fMany) + a2)) } : T_impl_Tally).fSum) + (w64 (a2 * v11.fN)))) } : T_impl_Tally).fMany)) τ_ok 73 3 2 (getI_set (y := ({ ({ ({ v6 with fRows := (w64 (v6.fRows + a2)) } : T_impl_Tally) with fMany := (w64 ((({ v6 with fRows := (w64 (v6.fRows + a2)) } : T_impl_Tally).fMany) + a2)) } : T_impl_Tally) with fSum := (w64 ((({ ({ v6 with fRows := (w64 (v6.fRows + a2)) } : T_impl_Tally) with fMany := (w64 ((({ v6 with fRows := (w64 (v6.fRows + a2)) } : T_impl_Tally).fMany) + a2)) } : T_impl_Tally).fSum) + (w64 (a2 * v11.fN)))) } : T_impl_Tally)) (getI_set (y := ({ ({ v6 with fRows := (w64 (v6.fRows + a2)) } : T_impl_Tally) with fMany := (w64 ((({ v6 with fRows := (w64 (v6.fRows + a2)) } : T_impl_Tally).fMany) + a2)) } : T_impl_Tally)) (getI_set (y := ({ v6 with fRows := (w64 (v6.fRows + a2)) } : T_impl_Tally)) hv7))) (by kernel_rfl) (by kernel_rfl) ?_
 refine v 3 89 [(0, .ref 0 0 0 4 (((x5.set v3.1.toNat ({ v6 with fRows := (w64 (v6.fRows + a2)) } : T_impl_Tally)).set v3.1.toNat ({ ({ v6 with fRows := (w64 (v6.fRows + a2)) } : T_impl_Tally) with fMany := (w64 ((({ v6 with fRows := (w64 (v6.fRows + a2)) } : T_impl_Tally).fMany) + a2)) } : T_impl_Tally)).set v3.1.toNat ({ ({ ({ v6 with fRows := (w64 (v6.fRows + a2)) } : T_impl_Tally) with fMany := (w64 ((({ v6 with fRows := (w64 (v6.fRows + a2)) } : T_impl_Tally).fMany) + a2)) } : T_impl_Tally) with fSum := (w64 ((({ ({ v6 with fRows := (w64 (v6.fRows + a2)) } : T_impl_Tally) with fMany := (w64 ((({ v6 with fRows := (w64 (v6.fRows + a2)) } : T_impl_Tally).fMany) + a2)) } : T_impl_Tally).fSum) + (w64 (a2 * v11.fN)))) } : T_impl_Tally)).length false), (7, I v3.1), (9, .ptr 0 0 (v3.1.toNat * 4)), (76, B ((({ ({ ({ v6 with fRows := (w64 (v6.fRows + a2)) } : T_impl_Tally) with fMany := (w64 ((({ v6 with fRows := (w64 (v6.fRows + a2)) } : T_impl_Tally).fMany) + a2)) } : T_impl_Tally) with fSum := (w64 ((({ ({ v6 with fRows := (w64 (v6.fRows + a2)) } : T_impl_Tally) with fMany := (w64 ((({ v6 with fRows := (w64 (v6.fRows + a2)) } : T_impl_Tally).fMany) + a2)) } : T_impl_Tally).fSum) + (w64 (a2 * v11.fN)))) } : T_impl_Tally).fMany) == 0))] [some ⟨0, eL (((x5.set v3.1.toNat ({ v6 with fRows := (w64 (v6.fRows + a2)) } : T_impl_Tally)).set v3.1.toNat ({ ({ v6 with fRows := (w64 (v6.fRows + a2)) } : T_impl_Tally) with fMany := (w64 ((({ v6 with fRows := (w64 (v6.fRows + a2)) } : T_impl_Tally).fMany) + a2)) } : T_impl_Tally)).set v3.1.toNat ({ ({ ({ v6 with fRows := (w64 (v6.fRows + a2)) } : T_impl_Tally) with fMany := (w64 ((({ v6 with fRows := (w64 (v6.fRows + a2)) } : T_impl_Tally).fMany) + a2)) } : T_impl_Tally) with fSum := (w64 ((({ ({ v6 with fRows := (w64 (v6.fRows + a2)) } : T_impl_Tally) with fMany := (w64 ((({ v6 with fRows := (w64 (v6.fRows + a2)) } : T_impl_Tally).fMany) + a2)) } : T_impl_Tally).fSum) + (w64 (a2 * v11.fN)))) } : T_impl_Tally))⟩] ?_
 rcases fk ((({ ({ ({ v6 with fRows := (w64 (v6.fRows + a2)) } : T_impl_Tally) with fMany := (w64 ((({ v6 with fRows := (w64 (v6.fRows + a2)) } : T_impl_Tally).fMany) + a2)) } : T_impl_Tally) with fSum := (w64 ((({ ({ v6 with fRows := (w64 (v6.fRows + a2)) } : T_impl_Tally) with fMany := (w64 ((({ v6 with fRows := (w64 (v6.fRows + a2)) } : T_impl_Tally).fMany) + a2)) } : T_impl_Tally).fSum) + (w64 (a2 * v11.fN)))) } : T_impl_Tally).fMany) == 0) with hc17 | hc17
 replace h := bT hc17 h
 rw [hc17]
 refine v 3 89 [(0, .ref 0 0 0 4 (((x5.set v3.1.toNat ({ v6 with fRows := (w64 (v6.fRows + a2)) } : T_impl_Tally)).set v3.1.toNat ({ ({ v6 with fRows := (w64 (v6.fRows + a2)) } : T_impl_Tally) with fMany := (w64 ((({ v6 with fRows := (w64 (v6.fRows + a2)) } : T_impl_Tally).fMany) + a2)) } : T_impl_Tally)).set v3.1.toNat ({ ({ ({ v6 with fRows := (w64 (v6.fRows + a2)) } : T_impl_Tally) with fMany := (w64 ((({ v6 with fRows := (w64 (v6.fRows + a2)) } : T_impl_Tally).fMany) + a2)) } : T_impl_Tally) with fSum := (w64 ((({ ({ v6 with fRows := (w64 (v6.fRows + a2)) } : T_impl_Tally) with fMany := (w64 ((({ v6 with fRows := (w64 (v6.fRows + a2)) } : T_impl_Tally).fMany) + a2)) } : T_impl_Tally).fSum) + (w64 (a2 * v11.fN)))) } : T_impl_Tally)).length false), (7, I v3.1), (76, B true), (79, .ptr 0 0 (v3.1.toNat * 4 + 3))] [some ⟨0, eL (((x5.set v3.1.toNat ({ v6 with fRows := (w64 (v6.fRows + a2)) } : T_impl_Tally)).set v3.1.toNat ({ ({ v6 with fRows := (w64 (v6.fRows + a2)) } : T_impl_Tally) with fMany := (w64 ((({ v6 with fRows := (w64 (v6.fRows + a2)) } : T_impl_Tally).fMany) + a2)) } : T_impl_Tally)).set v3.1.toNat ({ ({ ({ v6 with fRows := (w64 (v6.fRows + a2)) } : T_impl_Tally) with fMany := (w64 ((({ v6 with fRows := (w64 (v6.fRows + a2)) } : T_impl_Tally).fMany) + a2)) } : T_impl_Tally) with fSum := (w64 ((({ ({ v6 with fRows := (w64 (v6.fRows + a2)) } : T_impl_Tally) with fMany := (w64 ((({ v6 with fRows := (w64 (v6.fRows + a2)) } : T_impl_Tally).fMany) + a2)) } : T_impl_Tally).fSum) + (w64 (a2 * v11.fN)))) } : T_impl_Tally))⟩] ?_
 refine opsP_lde (r := I (({ ({ ({ v6 with fRows := (w64 (v6.fRows + a2)) } : T_impl_Tally) with fMany := (w64 ((({ v6 with fRows := (w64 (v6.fRows + a2)) } : T_impl_Tally).fMany) + a2)) } : T_impl_Tally) with fSum := (w64 ((({ ({ v6 with fRows := (w64 (v6.fRows + a2)) } : T_impl_Tally) with fMany := (w64 ((({ v6 with fRows := (w64 (v6.fRows + a2)) } : T_impl_Tally).fMany) + a2)) } : T_impl_Tally).fSum) + (w64 (a2 * v11.fN)))) } : T_impl_Tally).fSum)) τ_ok 80 3 3 (getI_set (y := ({ ({ ({ v6 with fRows := (w64 (v6.fRows + a2)) } : T_impl_Tally) with fMany := (w64 ((({ v6 with fRows := (w64 (v6.fRows + a2)) } : T_impl_Tally).fMany) + a2)) } : T_impl_Tally) with fSum := (w64 ((({ ({ v6 with fRows := (w64 (v6.fRows + a2)) } : T_impl_Tally) with fMany := (w64 ((({ v6 with fRows := (w64 (v6.fRows + a2)) } : T_impl_Tally).fMany) + a2)) } : T_impl_Tally).fSum) + (w64 (a2 * v11.fN)))) } : T_impl_Tally)) (getI_set (y := ({ ({ v6 with fRows := (w64 (v6.fRows + a2)) } : T_impl_Tally) with fMany := (w64 ((({ v6 with fRows := (w64 (v6.fRows + a2)) } : T_impl_Tally).fMany) + a2)) } : T_impl_Tally)) (getI_set (y := ({ v6 with fRows := (w64 (v6.fRows + a2)) } : T_impl_Tally)) hv7))) (by kernel_rfl) (by kernel_rfl) ?_
 refine ve 2 89 [(0, .ref 0 0 0 4 (((x5.set v3.1.toNat ({ v6 with fRows := (w64 (v6.fRows + a2)) } : T_impl_Tally)).set v3.1.toNat ({ ({ v6 with fRows := (w64 (v6.fRows + a2)) } : T_impl_Tally) with fMany := (w64 ((({ v6 with fRows := (w64 (v6.fRows + a2)) } : T_impl_Tally).fMany) + a2)) } : T_impl_Tally)).set v3.1.toNat ({ ({ ({ v6 with fRows := (w64 (v6.fRows + a2)) } : T_impl_Tally) with fMany := (w64 ((({ v6 with fRows := (w64 (v6.fRows + a2)) } : T_impl_Tally).fMany) + a2)) } : T_impl_Tally) with fSum := (w64 ((({ ({ v6 with fRows := (w64 (v6.fRows + a2)) } : T_impl_Tally) with fMany := (w64 ((({ v6 with fRows := (w64 (v6.fRows + a2)) } : T_impl_Tally).fMany) + a2)) } : T_impl_Tally).fSum) + (w64 (a2 * v11.fN)))) } : T_impl_Tally)).length false), (7, I v3.1), (82, B ((({ ({ ({ v6 with fRows := (w64 (v6.fRows + a2)) } : T_impl_Tally) with fMany := (w64 ((({ v6 with fRows := (w64 (v6.fRows + a2)) } : T_impl_Tally).fMany) + a2)) } : T_impl_Tally) with fSum := (w64 ((({ ({ v6 with fRows := (w64 (v6.fRows + a2)) } : T_impl_Tally) with fMany := (w64 ((({ v6 with fRows := (w64 (v6.fRows + a2)) } : T_impl_Tally).fMany) + a2)) } : T_impl_Tally).fSum) + (w64 (a2 * v11.fN)))) } : T_impl_Tally).fSum) == 0))] [some ⟨0, eL (((x5.set v3.1.toNat ({ v6 with fRows := (w64 (v6.fRows + a2)) } : T_impl_Tally)).set v3.1.toNat ({ ({ v6 with fRows := (w64 (v6.fRows + a2)) } : T_impl_Tally) with fMany := (w64 ((({ v6 with fRows := (w64 (v6.fRows + a2)) } : T_impl_Tally).fMany) + a2)) } : T_impl_Tally)).set v3.1.toNat ({ ({ ({ v6 with fRows := (w64 (v6.fRows + a2)) } : T_impl_Tally) with fMany := (w64 ((({ v6 with fRows := (w64 (v6.fRows + a2)) } : T_impl_Tally).fMany) + a2)) } : T_impl_Tally) with fSum := (w64 ((({ ({ v6 with fRows := (w64 (v6.fRows + a2)) } : T_impl_Tally) with fMany := (w64 ((({ v6 with fRows := (w64 (v6.fRows + a2)) } : T_impl_Tally).fMany) + a2)) } : T_impl_Tally).fSum) + (w64 (a2 * v11.fN)))) } : T_impl_Tally))⟩] ?_
 exact ⟨((({ ({ ({ v6 with fRows := (w64 (v6.fRows + a2)) } : T_impl_Tally) with fMany := (w64 ((({ v6 with fRows := (w64 (v6.fRows + a2)) } : T_impl_Tally).fMany) + a2)) } : T_impl_Tally) with fSum := (w64 ((({ ({ v6 with fRows := (w64 (v6.fRows + a2)) } : T_impl_Tally) with fMany := (w64 ((({ v6 with fRows := (w64 (v6.fRows + a2)) } : T_impl_Tally).fMany) + a2)) } : T_impl_Tally).fSum) + (w64 (a2 * v11.fN)))) } : T_impl_Tally).fSum) == 0), h, it [0, 7, 82]⟩
 replace h := bF hc17 h
 rw [hc17]
 refine ve 6 89 [(0, .ref 0 0 0 4 (((x5.set v3.1.toNat ({ v6 with fRows := (w64 (v6.fRows + a2)) } : T_impl_Tally)).set v3.1.toNat ({ ({ v6 with fRows := (w64 (v6.fRows + a2)) } : T_impl_Tally) with fMany := (w64 ((({ v6 with fRows := (w64 (v6.fRows + a2)) } : T_impl_Tally).fMany) + a2)) } : T_impl_Tally)).set v3.1.toNat ({ ({ ({ v6 with fRows := (w64 (v6.fRows + a2)) } : T_impl_Tally) with fMany := (w64 ((({ v6 with fRows := (w64 (v6.fRows + a2)) } : T_impl_Tally).fMany) + a2)) } : T_impl_Tally) with fSum := (w64 ((({ ({ v6 with fRows := (w64 (v6.fRows + a2)) } : T_impl_Tally) with fMany := (w64 ((({ v6 with fRows := (w64 (v6.fRows + a2)) } : T_impl_Tally).fMany) + a2)) } : T_impl_Tally).fSum) + (w64 (a2 * v11.fN)))) } : T_impl_Tally)).length false), (7, I v3.1), (82, B false)] [some ⟨0, eL (((x5.set v3.1.toNat ({ v6 with fRows := (w64 (v6.fRows + a2)) } : T_impl_Tally)).set v3.1.toNat ({ ({ v6 with fRows := (w64 (v6.fRows + a2)) } : T_impl_Tally) with fMany := (w64 ((({ v6 with fRows := (w64 (v6.fRows + a2)) } : T_impl_Tally).fMany) + a2)) } : T_impl_Tally)).set v3.1.toNat ({ ({ ({ v6 with fRows := (w64 (v6.fRows + a2)) } : T_impl_Tally) with fMany := (w64 ((({ v6 with fRows := (w64 (v6.fRows + a2)) } : T_impl_Tally).fMany) + a2)) } : T_impl_Tally) with fSum := (w64 ((({ ({ v6 with fRows := (w64 (v6.fRows + a2)) } : T_impl_Tally) with fMany := (w64 ((({ v6 with fRows := (w64 (v6.fRows + a2)) } : T_impl_Tally).fMany) + a2)) } : T_impl_Tally).fSum) + (w64 (a2 * v11.fN)))) } : T_impl_Tally))⟩] ?_
 exact ⟨false, h, it [0, 7, 82]⟩
 replace h := bF hc18 h
 rw [hc18]
 refine ve 13 89 [(0, .ref 0 0 0 4 (((x5.set v3.1.toNat ({ v6 with fRows := (w64 (v6.fRows + a2)) } : T_impl_Tally)).set v3.1.toNat ({ ({ v6 with fRows := (w64 (v6.fRows + a2)) } : T_impl_Tally) with fMany := (w64 ((({ v6 with fRows := (w64 (v6.fRows + a2)) } : T_impl_Tally).fMany) + a2)) } : T_impl_Tally)).set v3.1.toNat ({ ({ ({ v6 with fRows := (w64 (v6.fRows + a2)) } : T_impl_Tally) with fMany := (w64 ((({ v6 with fRows := (w64 (v6.fRows + a2)) } : T_impl_Tally).fMany) + a2)) } : T_impl_Tally) with fSum := (w64 ((({ ({ v6 with fRows := (w64 (v6.fRows + a2)) } : T_impl_Tally) with fMany := (w64 ((({ v6 with fRows := (w64 (v6.fRows + a2)) } : T_impl_Tally).fMany) + a2)) } : T_impl_Tally).fSum) + (w64 (a2 * v11.fN)))) } : T_impl_Tally)).length false), (7, I v3.1), (82, B false)] [some ⟨0, eL (((x5.set v3.1.toNat ({ v6 with fRows := (w64 (v6.fRows + a2)) } : T_impl_Tally)).set v3.1.toNat ({ ({ v6 with fRows := (w64 (v6.fRows + a2)) } : T_impl_Tally) with fMany := (w64 ((({ v6 with fRows := (w64 (v6.fRows + a2)) } : T_impl_Tally).fMany) + a2)) } : T_impl_Tally)).set v3.1.toNat ({ ({ ({ v6 with fRows := (w64 (v6.fRows + a2)) } : T_impl_Tally) with fMany := (w64 ((({ v6 with fRows := (w64 (v6.fRows + a2)) } : T_impl_Tally).fMany) + a2)) } : T_impl_Tally) with fSum := (w64 ((({ ({ v6 with fRows := (w64 (v6.fRows + a2)) } : T_impl_Tally) with fMany := (w64 ((({ v6 with fRows := (w64 (v6.fRows + a2)) } : T_impl_Tally).fMany) + a2)) } : T_impl_Tally).fSum) + (w64 (a2 * v11.fN)))) } : T_impl_Tally))⟩] ?_
 exact ⟨false, h, it [0, 7, 82]⟩
 rintro x13 h
 unfold impl_tell_j1 at h
 refine pc h (fun h => ?_) (fun h => ?_)
 refine rv 4 89 [(83, .ref 0 0 0 4 (((x5.set v3.1.toNat ({ v6 with fRows := (w64 (v6.fRows + a2)) } : T_impl_Tally)).set v3.1.toNat ({ ({ v6 with fRows := (w64 (v6.fRows + a2)) } : T_impl_Tally) with fMany := (w64 ((({ v6 with fRows := (w64 (v6.fRows + a2)) } : T_impl_Tally).fMany) + a2)) } : T_impl_Tally)).set v3.1.toNat ({ ({ ({ v6 with fRows := (w64 (v6.fRows + a2)) } : T_impl_Tally) with fMany := (w64 ((({ v6 with fRows := (w64 (v6.fRows + a2)) } : T_impl_Tally).fMany) + a2)) } : T_impl_Tally) with fSum := (w64 ((({ ({ v6 with fRows := (w64 (v6.fRows + a2)) } : T_impl_Tally) with fMany := (w64 ((({ v6 with fRows := (w64 (v6.fRows + a2)) } : T_impl_Tally).fMany) + a2)) } : T_impl_Tally).fSum) + (w64 (a2 * v11.fN)))) } : T_impl_Tally)).length false), (84, I v3.1), (86, I (w64 (v3.1 + 1)))] [some ⟨0, eL (((x5.set v3.1.toNat ({ v6 with fRows := (w64 (v6.fRows + a2)) } : T_impl_Tally)).set v3.1.toNat ({ ({ v6 with fRows := (w64 (v6.fRows + a2)) } : T_impl_Tally) with fMany := (w64 ((({ v6 with fRows := (w64 (v6.fRows + a2)) } : T_impl_Tally).fMany) + a2)) } : T_impl_Tally)).set v3.1.toNat ({ ({ ({ v6 with fRows := (w64 (v6.fRows + a2)) } : T_impl_Tally) with fMany := (w64 ((({ v6 with fRows := (w64 (v6.fRows + a2)) } : T_impl_Tally).fMany) + a2)) } : T_impl_Tally) with fSum := (w64 ((({ ({ v6 with fRows := (w64 (v6.fRows + a2)) } : T_impl_Tally) with fMany := (w64 ((({ v6 with fRows := (w64 (v6.fRows + a2)) } : T_impl_Tally).fMany) + a2)) } : T_impl_Tally).fSum) + (w64 (a2 * v11.fN)))) } : T_impl_Tally))⟩] ?_
 obtain ⟨v15, hv16, h⟩ := bindS h
 refine opsP_callM (xs := [.ref 0 0 0 4 (((x5.set v3.1.toNat ({ v6 with fRows := (w64 (v6.fRows + a2)) } : T_impl_Tally)).set v3.1.toNat ({ ({ v6 with fRows := (w64 (v6.fRows + a2)) } : T_impl_Tally) with fMany := (w64 ((({ v6 with fRows := (w64 (v6.fRows + a2)) } : T_impl_Tally).fMany) + a2)) } : T_impl_Tally)).set v3.1.toNat ({ ({ ({ v6 with fRows := (w64 (v6.fRows + a2)) } : T_impl_Tally) with fMany := (w64 ((({ v6 with fRows := (w64 (v6.fRows + a2)) } : T_impl_Tally).fMany) + a2)) } : T_impl_Tally) with fSum := (w64 ((({ ({ v6 with fRows := (w64 (v6.fRows + a2)) } : T_impl_Tally) with fMany := (w64 ((({ v6 with fRows := (w64 (v6.fRows + a2)) } : T_impl_Tally).fMany) + a2)) } : T_impl_Tally).fSum) + (w64 (a2 * v11.fN)))) } : T_impl_Tally)).length false, I v3.1, I (w64 (v3.1 + 1))]) (x := rf 1 0 4 v15) (bs := [⟨0, eL v15⟩]) τ 87 [0] (nx hX) (ok_delT hv16) (by kernel_rfl) (OutL.cons (OutP.list (v := 0) (by kernel_rfl)) (OutL.cons (OutP.frz rfl) (OutL.cons (OutP.frz rfl) (OutL.nil _)))) (by decide) (by kernel_rfl) ?_
 refine ve 1 89 [(0, rf 1 0 4 v15)] [none, sl 0 v15] ?_
 refine srve 89 [(6, rf 1 0 4 v15)] [none, sl 0 v15] ?_
 have h := si h
 subst h
 exact pwp_ret (rt (rf 1 0 4 v15) (OutP.list (v := 0) (by kernel_rfl)))
 refine pwp_skip ?_
 refine srve 89 [(6, .ref 0 0 0 4 (((x5.set v3.1.toNat ({ v6 with fRows := (w64 (v6.fRows + a2)) } : T_impl_Tally)).set v3.1.toNat ({ ({ v6 with fRows := (w64 (v6.fRows + a2)) } : T_impl_Tally) with fMany := (w64 ((({ v6 with fRows := (w64 (v6.fRows + a2)) } : T_impl_Tally).fMany) + a2)) } : T_impl_Tally)).set v3.1.toNat ({ ({ ({ v6 with fRows := (w64 (v6.fRows + a2)) } : T_impl_Tally) with fMany := (w64 ((({ v6 with fRows := (w64 (v6.fRows + a2)) } : T_impl_Tally).fMany) + a2)) } : T_impl_Tally) with fSum := (w64 ((({ ({ v6 with fRows := (w64 (v6.fRows + a2)) } : T_impl_Tally) with fMany := (w64 ((({ v6 with fRows := (w64 (v6.fRows + a2)) } : T_impl_Tally).fMany) + a2)) } : T_impl_Tally).fSum) + (w64 (a2 * v11.fN)))) } : T_impl_Tally)).length false)] [some ⟨0, eL (((x5.set v3.1.toNat ({ v6 with fRows := (w64 (v6.fRows + a2)) } : T_impl_Tally)).set v3.1.toNat ({ ({ v6 with fRows := (w64 (v6.fRows + a2)) } : T_impl_Tally) with fMany := (w64 ((({ v6 with fRows := (w64 (v6.fRows + a2)) } : T_impl_Tally).fMany) + a2)) } : T_impl_Tally)).set v3.1.toNat ({ ({ ({ v6 with fRows := (w64 (v6.fRows + a2)) } : T_impl_Tally) with fMany := (w64 ((({ v6 with fRows := (w64 (v6.fRows + a2)) } : T_impl_Tally).fMany) + a2)) } : T_impl_Tally) with fSum := (w64 ((({ ({ v6 with fRows := (w64 (v6.fRows + a2)) } : T_impl_Tally) with fMany := (w64 ((({ v6 with fRows := (w64 (v6.fRows + a2)) } : T_impl_Tally).fMany) + a2)) } : T_impl_Tally).fSum) + (w64 (a2 * v11.fN)))) } : T_impl_Tally))⟩] ?_
 have h := si h
 subst h
 exact pwp_ret (rt (.ref 0 0 0 4 (((x5.set v3.1.toNat ({ v6 with fRows := (w64 (v6.fRows + a2)) } : T_impl_Tally)).set v3.1.toNat ({ ({ v6 with fRows := (w64 (v6.fRows + a2)) } : T_impl_Tally) with fMany := (w64 ((({ v6 with fRows := (w64 (v6.fRows + a2)) } : T_impl_Tally).fMany) + a2)) } : T_impl_Tally)).set v3.1.toNat ({ ({ ({ v6 with fRows := (w64 (v6.fRows + a2)) } : T_impl_Tally) with fMany := (w64 ((({ v6 with fRows := (w64 (v6.fRows + a2)) } : T_impl_Tally).fMany) + a2)) } : T_impl_Tally) with fSum := (w64 ((({ ({ v6 with fRows := (w64 (v6.fRows + a2)) } : T_impl_Tally) with fMany := (w64 ((({ v6 with fRows := (w64 (v6.fRows + a2)) } : T_impl_Tally).fMany) + a2)) } : T_impl_Tally).fSum) + (w64 (a2 * v11.fN)))) } : T_impl_Tally)).length false) (OutP.list (v := 0) (by kernel_rfl)))
 refine pwp_skip ?_
 refine pwp_seq ?_
 refine pwp_seq ?_
 refine pwp_join (σ := Bool) (fun x19 => (⟨89, [(0, .ref 0 0 0 4 (x5.set v3.1.toNat ({ v6 with fRows := (w64 (v6.fRows + a2)) } : T_impl_Tally)).length false), (7, I v3.1), (82, B x19)], [some ⟨0, eL (x5.set v3.1.toNat ({ v6 with fRows := (w64 (v6.fRows + a2)) } : T_impl_Tally))⟩]⟩ : St)) (fun x19 => impl_tell_j2 a2 v3 x5 v6 x19 = some y) ?_ ?_
 refine rv 3 89 [(0, .ref 0 0 0 4 (x5.set v3.1.toNat ({ v6 with fRows := (w64 (v6.fRows + a2)) } : T_impl_Tally)).length false), (7, I v3.1), (9, .ptr 0 0 (v3.1.toNat * 4)), (66, .ptr 0 0 (v3.1.toNat * 4 + 1))] [some ⟨0, eL (x5.set v3.1.toNat ({ v6 with fRows := (w64 (v6.fRows + a2)) } : T_impl_Tally))⟩] ?_
 refine opsP_lde (r := I (({ v6 with fRows := (w64 (v6.fRows + a2)) } : T_impl_Tally).fRows)) τ_ok 67 3 1 (getI_set (y := ({ v6 with fRows := (w64 (v6.fRows + a2)) } : T_impl_Tally)) hv7) (by kernel_rfl) (by kernel_rfl) ?_
 refine v 2 89 [(0, .ref 0 0 0 4 (x5.set v3.1.toNat ({ v6 with fRows := (w64 (v6.fRows + a2)) } : T_impl_Tally)).length false), (7, I v3.1), (9, .ptr 0 0 (v3.1.toNat * 4)), (69, B ((({ v6 with fRows := (w64 (v6.fRows + a2)) } : T_impl_Tally).fRows) == 0))] [some ⟨0, eL (x5.set v3.1.toNat ({ v6 with fRows := (w64 (v6.fRows + a2)) } : T_impl_Tally))⟩] ?_
 rcases fk ((({ v6 with fRows := (w64 (v6.fRows + a2)) } : T_impl_Tally).fRows) == 0) with hc24 | hc24
 replace h := bT hc24 h
 rw [hc24]
 refine v 3 89 [(0, .ref 0 0 0 4 (x5.set v3.1.toNat ({ v6 with fRows := (w64 (v6.fRows + a2)) } : T_impl_Tally)).length false), (7, I v3.1), (9, .ptr 0 0 (v3.1.toNat * 4)), (69, B true), (72, .ptr 0 0 (v3.1.toNat * 4 + 2))] [some ⟨0, eL (x5.set v3.1.toNat ({ v6 with fRows := (w64 (v6.fRows + a2)) } : T_impl_Tally))⟩] ?_
 refine opsP_lde (r := I (({ v6 with fRows := (w64 (v6.fRows + a2)) } : T_impl_Tally).fMany)) τ_ok 73 3 2 (getI_set (y := ({ v6 with fRows := (w64 (v6.fRows + a2)) } : T_impl_Tally)) hv7) (by kernel_rfl) (by kernel_rfl) ?_
 refine v 3 89 [(0, .ref 0 0 0 4 (x5.set v3.1.toNat ({ v6 with fRows := (w64 (v6.fRows + a2)) } : T_impl_Tally)).length false), (7, I v3.1), (9, .ptr 0 0 (v3.1.toNat * 4)), (76, B ((({ v6 with fRows := (w64 (v6.fRows + a2)) } : T_impl_Tally).fMany) == 0))] [some ⟨0, eL (x5.set v3.1.toNat ({ v6 with fRows := (w64 (v6.fRows + a2)) } : T_impl_Tally))⟩] ?_
 rcases fk ((({ v6 with fRows := (w64 (v6.fRows + a2)) } : T_impl_Tally).fMany) == 0) with hc23 | hc23
 replace h := bT hc23 h
 rw [hc23]
 refine v 3 89 [(0, .ref 0 0 0 4 (x5.set v3.1.toNat ({ v6 with fRows := (w64 (v6.fRows + a2)) } : T_impl_Tally)).length false), (7, I v3.1), (76, B true), (79, .ptr 0 0 (v3.1.toNat * 4 + 3))] [some ⟨0, eL (x5.set v3.1.toNat ({ v6 with fRows := (w64 (v6.fRows + a2)) } : T_impl_Tally))⟩] ?_
 refine opsP_lde (r := I (({ v6 with fRows := (w64 (v6.fRows + a2)) } : T_impl_Tally).fSum)) τ_ok 80 3 3 (getI_set (y := ({ v6 with fRows := (w64 (v6.fRows + a2)) } : T_impl_Tally)) hv7) (by kernel_rfl) (by kernel_rfl) ?_
 refine ve 2 89 [(0, .ref 0 0 0 4 (x5.set v3.1.toNat ({ v6 with fRows := (w64 (v6.fRows + a2)) } : T_impl_Tally)).length false), (7, I v3.1), (82, B ((({ v6 with fRows := (w64 (v6.fRows + a2)) } : T_impl_Tally).fSum) == 0))] [some ⟨0, eL (x5.set v3.1.toNat ({ v6 with fRows := (w64 (v6.fRows + a2)) } : T_impl_Tally))⟩] ?_
 exact ⟨((({ v6 with fRows := (w64 (v6.fRows + a2)) } : T_impl_Tally).fSum) == 0), h, it [0, 7, 82]⟩
 replace h := bF hc23 h
 rw [hc23]
 refine ve 6 89 [(0, .ref 0 0 0 4 (x5.set v3.1.toNat ({ v6 with fRows := (w64 (v6.fRows + a2)) } : T_impl_Tally)).length false), (7, I v3.1), (82, B false)] [some ⟨0, eL (x5.set v3.1.toNat ({ v6 with fRows := (w64 (v6.fRows + a2)) } : T_impl_Tally))⟩] ?_
 exact ⟨false, h, it [0, 7, 82]⟩
 replace h := bF hc24 h
 rw [hc24]
 refine ve 13 89 [(0, .ref 0 0 0 4 (x5.set v3.1.toNat ({ v6 with fRows := (w64 (v6.fRows + a2)) } : T_impl_Tally)).length false), (7, I v3.1), (82, B false)] [some ⟨0, eL (x5.set v3.1.toNat ({ v6 with fRows := (w64 (v6.fRows + a2)) } : T_impl_Tally))⟩] ?_
 exact ⟨false, h, it [0, 7, 82]⟩
 rintro x19 h
 unfold impl_tell_j2 at h
 refine pc h (fun h => ?_) (fun h => ?_)
 refine rv 4 89 [(83, .ref 0 0 0 4 (x5.set v3.1.toNat ({ v6 with fRows := (w64 (v6.fRows + a2)) } : T_impl_Tally)).length false), (84, I v3.1), (86, I (w64 (v3.1 + 1)))] [some ⟨0, eL (x5.set v3.1.toNat ({ v6 with fRows := (w64 (v6.fRows + a2)) } : T_impl_Tally))⟩] ?_
 obtain ⟨v21, hv22, h⟩ := bindS h
 refine opsP_callM (xs := [.ref 0 0 0 4 (x5.set v3.1.toNat ({ v6 with fRows := (w64 (v6.fRows + a2)) } : T_impl_Tally)).length false, I v3.1, I (w64 (v3.1 + 1))]) (x := rf 1 0 4 v21) (bs := [⟨0, eL v21⟩]) τ 87 [0] (nx hX) (ok_delT hv22) (by kernel_rfl) (OutL.cons (OutP.list (v := 0) (by kernel_rfl)) (OutL.cons (OutP.frz rfl) (OutL.cons (OutP.frz rfl) (OutL.nil _)))) (by decide) (by kernel_rfl) ?_
 refine ve 1 89 [(0, rf 1 0 4 v21)] [none, sl 0 v21] ?_
 refine srve 89 [(6, rf 1 0 4 v21)] [none, sl 0 v21] ?_
 have h := si h
 subst h
 exact pwp_ret (rt (rf 1 0 4 v21) (OutP.list (v := 0) (by kernel_rfl)))
 refine pwp_skip ?_
 refine srve 89 [(6, .ref 0 0 0 4 (x5.set v3.1.toNat ({ v6 with fRows := (w64 (v6.fRows + a2)) } : T_impl_Tally)).length false)] [some ⟨0, eL (x5.set v3.1.toNat ({ v6 with fRows := (w64 (v6.fRows + a2)) } : T_impl_Tally))⟩] ?_
 have h := si h
 subst h
 exact pwp_ret (rt (.ref 0 0 0 4 (x5.set v3.1.toNat ({ v6 with fRows := (w64 (v6.fRows + a2)) } : T_impl_Tally)).length false) (OutP.list (v := 0) (by kernel_rfl)))
def impl_TalliesOk_j1 (x1 : Int) (K3 : Int → Option Bool) (x7 : Bool) : Option Bool := bif x7 then some false else K3 (w64 (x1 + 1))
def impl_TalliesOk_l0 (a0 : List T_impl_Tally) : Nat → Int → Option Bool
 | 0, _ => none
 | f2 + 1, x1 => bif (decide (x1 < (a0.length : Int))) then (getI a0 x1).bind fun v5 => (impl_Tally_ok v5).bind fun v9 => bif (!v9) then impl_TalliesOk_j1 x1 (impl_TalliesOk_l0 a0 f2) true else bif (decide (x1 > 0)) then (getI a0 (w64 (x1 - 1))).bind fun v11 => (impl_rowOrder v11.fKey v5.fKey).bind fun v13 => impl_TalliesOk_j1 x1 (impl_TalliesOk_l0 a0 f2) (decide (v13 ≥ 0)) else impl_TalliesOk_j1 x1 (impl_TalliesOk_l0 a0 f2) false else some true
def impl_TalliesOk (a0 : List T_impl_Tally) : Option Bool := impl_TalliesOk_l0 a0 FUEL 0
theorem ok_impl_TalliesOk {a0 : List T_impl_Tally} {y : Bool} (h : impl_TalliesOk a0 = some y) : OK Try.prog 74 [A a0] (B y) := by
 refine ow Try.func74 fun Γ hX => ?_
 unfold impl_TalliesOk at h
 refine srveM [4] 32 [(0, A a0)] [] ?_
 refine pwp_seq ?_
 refine srveM [4] 32 [(0, A a0), (5, A a0), (6, I (a0.length : Int)), (7, I 0)] [] ?_
 refine pwp_block ?_
 refine pwp_loop (ι := Nat × Int) (fun (f2, x1) => (⟨32, [(0, A a0), (5, A a0), (6, I (a0.length : Int)), (7, I x1)], []⟩ : St)) (fun (f2, x1) => impl_TalliesOk_l0 a0 f2 x1 = some y) Prod.fst (FUEL, 0) h (it [0, 5, 6, 7]) ?_
 rintro ⟨f2, x1⟩ h
 dsimp only at h ⊢
 rcases f2 with _ | f2
 cases h
 rw [impl_TalliesOk_l0] at h
 refine srveM [4] 32 [(0, A a0), (5, A a0), (6, I (a0.length : Int)), (7, I x1), (8, B (decide (x1 < (a0.length : Int))))] [] ?_
 refine pwp_seq ?_
 refine pc h (fun h => ?_) (fun h => ?_)
 refine pwp_skip ?_
 refine pwp_seq ?_
 refine pwp_block ?_
 refine srvM [4] 1 32 [(0, A a0), (5, A a0), (6, I (a0.length : Int)), (7, I x1), (9, I x1)] [] ?_
 obtain ⟨v5, hv6, h⟩ := bindS h
 refine opsP_idx τ_ok 10 hv6 (by kernel_rfl) ?_
 refine veM [4] 4 32 [(0, A a0), (3, I x1), (4, .ptr 0 0 0), (5, A a0), (6, I (a0.length : Int)), (7, I x1)] [sc 0 v5] ?_
 refine pwp_seq ?_
 refine pwp_join (σ := Bool) (fun x7 => (⟨32, [(0, A a0), (5, A a0), (6, I (a0.length : Int)), (7, I x1), (30, B x7)], [sc 0 v5]⟩ : St)) (fun x7 => impl_TalliesOk_j1 x1 (impl_TalliesOk_l0 a0 f2) x7 = some y) ?_ ?_
 refine ip 32 [(0, A a0), (3, I x1), (4, .ptr 0 0 0), (5, A a0), (6, I (a0.length : Int)), (7, I x1)] [sc 0 v5] ?_
 refine pwp_any ([[0], [], [], [], [], [], [], [], [], [], [], [], [], [0], [0], [], [], [], []]) ([[], [], [], [], [], [], [], [], [], [], [], [], [], [], [], [], [], [], []]) rfl (by kernel_rfl) ?_
 refine qvM [4] [0] (hB trivial) 1 32 [(12, E v5), (0, A a0), (3, I x1), (4, .ptr 0 0 0), (5, A a0), (6, I (a0.length : Int)), (7, I x1)] [sc 0 v5] ?_
 obtain ⟨v9, hv10, h⟩ := bindS h
 refine qX (some 13) (B v9) 32 [(13, B v9), (0, A a0), (3, I x1), (4, .ptr 0 0 0), (5, A a0), (6, I (a0.length : Int)), (7, I x1)] [sc 0 v5] (fun Γ' hΓ => CoreE.of_g (callV_sound (τ := τ) (by kernel_rfl) rfl (ok_impl_Tally_ok hv10) (FzTo.frz rfl))) trivial ?_
 refine qvM [4] [] trivial 2 32 [(15, B (!v9)), (0, A a0), (3, I x1), (4, .ptr 0 0 0), (5, A a0), (6, I (a0.length : Int)), (7, I x1)] [sc 0 v5] ?_
 rcases fk (!v9) with hc16 | hc16
 replace h := bT hc16 h
 rw [hc16]
 refine qvM [4] [] trivial 9 32 [(24, .lit undef), (23, .lit undef), (22, .lit undef), (21, .lit undef), (20, .lit undef), (19, .lit undef), (18, .lit undef), (17, .lit undef), (16, .lit undef), (15, B true), (0, A a0), (4, .ptr 0 0 0), (5, A a0), (6, I (a0.length : Int)), (7, I x1)] [sc 0 v5] ?_
 refine qvM [4] [0] (hB trivial) 2 32 [(26, .lit undef), (25, .lit undef), (24, .lit undef), (23, .lit undef), (22, .lit undef), (21, .lit undef), (20, .lit undef), (19, .lit undef), (18, .lit undef), (17, .lit undef), (16, .lit undef), (15, B true), (0, A a0), (5, A a0), (6, I (a0.length : Int)), (7, I x1)] [sc 0 v5] ?_
 refine qvM [4] [] trivial 4 32 [(30, B true), (29, .lit undef), (28, .lit undef), (27, .lit undef), (26, .lit undef), (25, .lit undef), (24, .lit undef), (23, .lit undef), (22, .lit undef), (21, .lit undef), (20, .lit undef), (19, .lit undef), (18, .lit undef), (17, .lit undef), (16, .lit undef), (0, A a0), (5, A a0), (6, I (a0.length : Int)), (7, I x1)] [sc 0 v5] ?_
 refine qn 32 [(0, A a0), (5, A a0), (6, I (a0.length : Int)), (7, I x1), (16, .lit undef), (17, .lit undef), (18, .lit undef), (19, .lit undef), (20, .lit undef), (21, .lit undef), (22, .lit undef), (23, .lit undef), (24, .lit undef), (25, .lit undef), (26, .lit undef), (27, .lit undef), (28, .lit undef), (29, .lit undef), (30, B true)] [sc 0 v5] ?_
 exact ⟨true, h, it [0, 5, 6, 7, 30]⟩
 replace h := bF hc16 h
 rw [hc16]
 refine qvM [4] [] trivial 3 32 [(18, B (decide (x1 > 0))), (17, B (decide (x1 > 0))), (16, I x1), (15, B false), (0, A a0), (3, I x1), (4, .ptr 0 0 0), (5, A a0), (6, I (a0.length : Int)), (7, I x1)] [sc 0 v5] ?_
 rcases fk (decide (x1 > 0)) with hc15 | hc15
 replace h := bT hc15 h
 rw [hc15]
 refine qvM [4] [] trivial 3 32 [(21, I (w64 (x1 - 1))), (20, I x1), (19, A a0), (18, B true), (17, B true), (16, I x1), (15, B false), (0, A a0), (4, .ptr 0 0 0), (5, A a0), (6, I (a0.length : Int)), (7, I x1)] [sc 0 v5] ?_
 obtain ⟨v11, hv12, h⟩ := bindS h
 refine qX (some 22) (pf v11 0) 32 [(22, pf v11 0), (21, I (w64 (x1 - 1))), (20, I x1), (19, A a0), (18, B true), (17, B true), (16, I x1), (15, B false), (0, A a0), (4, .ptr 0 0 0), (5, A a0), (6, I (a0.length : Int)), (7, I x1)] [sc 0 v5] (fun Γ' hΓ => CoreE.of_y (idxV_sound τ_ok (by kernel_rfl) hv12)) trivial ?_
 refine qvM [4] [] trivial 2 32 [(24, A v11.fKey), (23, pf v11 0), (22, pf v11 0), (21, I (w64 (x1 - 1))), (20, I x1), (19, A a0), (18, B true), (17, B true), (16, I x1), (15, B false), (0, A a0), (4, .ptr 0 0 0), (5, A a0), (6, I (a0.length : Int)), (7, I x1)] [sc 0 v5] ?_
 refine qvM [4] [0] (hB trivial) 2 32 [(26, A v5.fKey), (25, .ptr 0 0 0), (24, A v11.fKey), (23, pf v11 0), (22, pf v11 0), (21, I (w64 (x1 - 1))), (20, I x1), (19, A a0), (18, B true), (17, B true), (16, I x1), (15, B false), (0, A a0), (5, A a0), (6, I (a0.length : Int)), (7, I x1)] [sc 0 v5] ?_
 obtain ⟨v13, hv14, h⟩ := bindS h
 refine qX (some 27) (I v13) 32 [(27, I v13), (26, A v5.fKey), (25, .ptr 0 0 0), (24, A v11.fKey), (23, pf v11 0), (22, pf v11 0), (21, I (w64 (x1 - 1))), (20, I x1), (19, A a0), (18, B true), (17, B true), (16, I x1), (15, B false), (0, A a0), (5, A a0), (6, I (a0.length : Int)), (7, I x1)] [sc 0 v5] (fun Γ' hΓ => CoreE.of_g (callV_sound (τ := τ) (by kernel_rfl) rfl (ok_impl_rowOrder hv14) (FzTo.frz rfl))) trivial ?_
 refine qvnM [4] [] trivial 3 32 [(0, A a0), (5, A a0), (6, I (a0.length : Int)), (7, I x1), (16, I x1), (17, B true), (18, B true), (19, A a0), (20, I x1), (21, I (w64 (x1 - 1))), (22, pf v11 0), (23, pf v11 0), (24, A v11.fKey), (25, .ptr 0 0 0), (26, A v5.fKey), (27, I v13), (28, B (decide (v13 ≥ 0))), (29, B (decide (v13 ≥ 0))), (30, B (decide (v13 ≥ 0)))] [sc 0 v5] ?_
 exact ⟨(decide (v13 ≥ 0)), h, it [0, 5, 6, 7, 30]⟩
 replace h := bF hc15 h
 rw [hc15]
 refine qvM [4] [] trivial 6 32 [(24, .lit undef), (23, .lit undef), (22, .lit undef), (21, .lit undef), (20, .lit undef), (19, .lit undef), (18, B false), (17, B false), (16, I x1), (15, B false), (0, A a0), (4, .ptr 0 0 0), (5, A a0), (6, I (a0.length : Int)), (7, I x1)] [sc 0 v5] ?_
 refine qvM [4] [0] (hB trivial) 2 32 [(26, .lit undef), (25, .lit undef), (24, .lit undef), (23, .lit undef), (22, .lit undef), (21, .lit undef), (20, .lit undef), (19, .lit undef), (18, B false), (17, B false), (16, I x1), (15, B false), (0, A a0), (5, A a0), (6, I (a0.length : Int)), (7, I x1)] [sc 0 v5] ?_
 refine qvM [4] [] trivial 4 32 [(30, B false), (29, B false), (28, .lit undef), (27, .lit undef), (26, .lit undef), (25, .lit undef), (24, .lit undef), (23, .lit undef), (22, .lit undef), (21, .lit undef), (20, .lit undef), (19, .lit undef), (18, B false), (17, B false), (16, I x1), (0, A a0), (5, A a0), (6, I (a0.length : Int)), (7, I x1)] [sc 0 v5] ?_
 refine qn 32 [(0, A a0), (5, A a0), (6, I (a0.length : Int)), (7, I x1), (16, I x1), (17, B false), (18, B false), (19, .lit undef), (20, .lit undef), (21, .lit undef), (22, .lit undef), (23, .lit undef), (24, .lit undef), (25, .lit undef), (26, .lit undef), (27, .lit undef), (28, .lit undef), (29, B false), (30, B false)] [sc 0 v5] ?_
 exact ⟨false, h, it [0, 5, 6, 7, 30]⟩
 rintro x7 h
 unfold impl_TalliesOk_j1 at h
 refine pc h (fun h => ?_) (fun h => ?_)
 refine srveM [4] 32 [(2, B false)] [sc 0 v5] ?_
 cases h
 exact pwp_ret rz
 refine pwp_skip ?_
 refine rveM [4] 32 [(0, A a0), (5, A a0), (6, I (a0.length : Int)), (7, I (w64 (x1 + 1)))] [sc 0 v5] ?_
 exact ⟨(f2, (w64 (x1 + 1))), h, Nat.lt_succ_self _, (it (st' := ⟨32, [(0, A a0), (5, A a0), (6, I (a0.length : Int)), (7, I (w64 (x1 + 1)))], [sc 0 v5]⟩) [0, 5, 6, 7]).trans (Imp.truncS 0 (nx hX) (by kernel_rfl) (allBelow_mem (by exact (And.intro rfl (And.intro rfl (And.intro rfl (And.intro rfl trivial)))))) (by exact trivial) (by kernel_rfl))⟩
 refine pwp_exit ?_
 refine srveM [4] 32 [(2, B true)] [] ?_
 cases h
 exact pwp_ret rz
def slices_Clip_impl_Tally_impl_Tally_R (a0 : List T_impl_Tally) : Option (List T_impl_Tally) := (slI a0 none (some (a0.length : Int)) (some (a0.length : Int))).bind fun v1 => some v1
end Go.D
