import Derived.Test.YtlcjmombcnkfcaaIxDPrimM
import Derived.Test.YtlcjmombcnkfcaaIxDXT
import Derived.KernelRfl
set_option linter.unusedVariables false
set_option linter.unusedSimpArgs false
namespace Go.D
open Go.Proofs
def spec_l31Value (a0 : List T_impl_Value) : Option T_impl_Value := bif ((a0.length : Int) == 0) then some (T_impl_Value.mk 0 0 (ByteArray.mk #[])) else (getI a0 0).bind fun v2 => some v2
theorem ok_spec_l31Value {a0 : List T_impl_Value} {y : T_impl_Value} (h : spec_l31Value a0 = some y) : OK Try.prog 36 [A a0] (E y) := by
 refine ow Try.func36 fun Γ hX => ?_
 unfold spec_l31Value at h
 refine srveM [2] 10 [(0, A a0), (2, .ptr 0 0 0)] [some ⟨0, Enc.cells (T_impl_Value.mk 0 0 (ByteArray.mk #[]))⟩] ?_
 refine pwp_seq ?_
 refine srveM [2] 10 [(0, A a0), (2, .ptr 0 0 0), (5, B ((a0.length : Int) == 0))] [some ⟨0, Enc.cells (T_impl_Value.mk 0 0 (ByteArray.mk #[]))⟩] ?_
 refine pc h (fun h => ?_) (fun h => ?_)
 refine srveM [2] 10 [(2, .ptr 0 0 0)] [some ⟨0, Enc.cells (T_impl_Value.mk 0 0 (ByteArray.mk #[]))⟩] ?_
 cases h
 exact pwp_ret rz
 refine pwp_skip ?_
 refine srvM [2] 1 10 [(2, .ptr 0 0 0), (7, A a0)] [some ⟨0, Enc.cells (T_impl_Value.mk 0 0 (ByteArray.mk #[]))⟩] ?_
 obtain ⟨v2, hv3, h⟩ := bindS h
 refine opsP_idx τ_ok 8 hv3 (by kernel_rfl) ?_
 refine veM [2] 2 10 [(2, .ptr 0 0 0)] [sc 0 v2] ?_
 cases h
 exact pwp_ret rz
def impl_firstOf (a0 : List T_impl_Value) : Option T_impl_Value := bif ((a0.length : Int) == 0) then some (T_impl_Value.mk 0 0 (ByteArray.mk #[])) else (getI a0 0).bind fun v2 => some v2
theorem ok_impl_firstOf {a0 : List T_impl_Value} {y : T_impl_Value} (h : impl_firstOf a0 = some y) : OK Try.prog 38 [A a0] (E y) := by
 refine ow Try.func38 fun Γ hX => ?_
 unfold impl_firstOf at h
 refine srveM [2] 10 [(0, A a0), (2, .ptr 0 0 0)] [some ⟨0, Enc.cells (T_impl_Value.mk 0 0 (ByteArray.mk #[]))⟩] ?_
 refine pwp_seq ?_
 refine srveM [2] 10 [(0, A a0), (2, .ptr 0 0 0), (5, B ((a0.length : Int) == 0))] [some ⟨0, Enc.cells (T_impl_Value.mk 0 0 (ByteArray.mk #[]))⟩] ?_
 refine pc h (fun h => ?_) (fun h => ?_)
 refine srveM [2] 10 [(2, .ptr 0 0 0)] [some ⟨0, Enc.cells (T_impl_Value.mk 0 0 (ByteArray.mk #[]))⟩] ?_
 cases h
 exact pwp_ret rz
 refine pwp_skip ?_
 refine srvM [2] 1 10 [(2, .ptr 0 0 0), (7, A a0)] [some ⟨0, Enc.cells (T_impl_Value.mk 0 0 (ByteArray.mk #[]))⟩] ?_
 obtain ⟨v2, hv3, h⟩ := bindS h
 refine opsP_idx τ_ok 8 hv3 (by kernel_rfl) ?_
 refine veM [2] 2 10 [(2, .ptr 0 0 0)] [sc 0 v2] ?_
 cases h
 exact pwp_ret rz
def laws_markText_l0 : Nat → Int → ByteArray → Option ByteArray
 | 0, _, _ => none
 | f4 + 1, x2, x3 => bif (decide (x2 > 0)) then (addS (ByteArray.mk (List.toArray ([(u8 (w64 (48 + (x2.tmod 10))))] : List UInt8))) x3).bind fun v7 => (laws_markText_l0 f4) (w64 (x2.tdiv 10)) v7 else (addS (ByteArray.mk #[109]) x3).bind fun v9 => some v9
def laws_markText (a0 : Int) : Option ByteArray := bif (decide (a0 ≤ 0)) then some (ByteArray.mk #[109, 48]) else laws_markText_l0 FUEL a0 (ByteArray.mk #[])
theorem ok_laws_markText {a0 : Int} {y : ByteArray} (h : laws_markText a0 = some y) : OK Try.prog 45 [I a0] (S y) := by
 refine ow Try.func45 fun Γ hX => ?_
 unfold laws_markText at h
 refine srve 20 [(0, I a0)] [] ?_
 refine pwp_seq ?_
 refine srve 20 [(0, I a0), (5, B (decide (a0 ≤ 0)))] [] ?_
 refine pc h (fun h => ?_) (fun h => ?_)
 refine srve 20 [(2, S (ByteArray.mk #[109, 48]))] [] ?_
 cases h
 exact pwp_ret rz
 refine pwp_skip ?_
 refine srve 20 [(0, I a0), (3, S (ByteArray.mk #[]))] [] ?_
 refine pwp_seq ?_
 refine pwp_block ?_
 refine pwp_loop (ι := Nat × Int × ByteArray) (fun (f4, x2, x3) => (⟨20, [(0, I x2), (3, S x3)], []⟩ : St)) (fun (f4, x2, x3) => laws_markText_l0 f4 x2 x3 = some y) Prod.fst (FUEL, a0, (ByteArray.mk #[])) h (it [0, 3]) ?_
 rintro ⟨f4, x2, x3⟩ h
 dsimp only at h ⊢
 rcases f4 with _ | f4
 cases h
 rw [laws_markText_l0] at h
 refine pwp_seq ?_
 refine srve 20 [(0, I x2), (3, S x3), (7, B (decide (x2 > 0)))] [] ?_
 refine pc h (fun h => ?_) (fun h => ?_)
 refine pwp_skip ?_
 refine pwp_block ?_
 refine srv 3 20 [(0, I x2), (3, S x3), (10, I (w64 (48 + (x2.tmod 10))))] [] ?_
 refine opsP_cv8 τ_ok 11 (w64 (48 + (x2.tmod 10))) (by kernel_rfl) ?_
 refine v 1 20 [(0, I x2), (3, S x3), (12, .arr 1 ([(u8 (w64 (48 + (x2.tmod 10))))] : List UInt8).length (eL ([(u8 (w64 (48 + (x2.tmod 10))))] : List UInt8)) true)] [] ?_
 refine opsP_cvs τ_ok 13 ([(u8 (w64 (48 + (x2.tmod 10))))] : List UInt8) (by kernel_rfl) ?_
 refine v 1 20 [(0, I x2), (13, S (ByteArray.mk (List.toArray ([(u8 (w64 (48 + (x2.tmod 10))))] : List UInt8)))), (14, S x3)] [] ?_
 obtain ⟨v7, hv8, h⟩ := bindS h
 refine opsP_ads τ_ok 15 hv8 (by kernel_rfl) ?_
 refine ve 1 20 [(0, I x2), (3, S v7)] [] ?_
 refine rve 20 [(0, I (w64 (x2.tdiv 10))), (3, S v7)] [] ?_
 exact ⟨(f4, (w64 (x2.tdiv 10)), v7), h, Nat.lt_succ_self _, it [0, 3]⟩
 refine pwp_exit ?_
 refine srv 1 20 [(18, S x3)] [] ?_
 obtain ⟨v9, hv10, h⟩ := bindS h
 refine opsP_ads τ_ok 19 hv10 (by kernel_rfl) ?_
 refine ve 1 20 [(2, S v9)] [] ?_
 cases h
 exact pwp_ret rz
def impl_between (a0 : Int) (a1 : Int) (a2 : Int) : Option Bool := bif (decide (a0 ≥ a1)) then some (decide (a0 ≤ a2)) else some false
theorem ok_impl_between {a0 : Int} {a1 : Int} {a2 : Int} {y : Bool} (h : impl_between a0 a1 a2 = some y) : OK Try.prog 50 [I a0, I a1, I a2] (B y) := by
 refine ow Try.func50 fun Γ hX => ?_
 unfold impl_between at h
 refine srve 15 [(0, I a0), (1, I a1), (2, I a2)] [] ?_
 refine srv 4 15 [(0, I a0), (2, I a2), (10, B (decide (a0 ≥ a1)))] [] ?_
 rcases fk (decide (a0 ≥ a1)) with hc1 | hc1
 replace h := bT hc1 h
 rw [hc1]
 refine ve 5 15 [(6, B (decide (a0 ≤ a2)))] [] ?_
 cases h
 exact pwp_ret rz
 replace h := bF hc1 h
 rw [hc1]
 refine ve 5 15 [(6, B false)] [] ?_
 cases h
 exact pwp_ret rz
def spec_l1In (a0 : Int) (a1 : Int) (a2 : Int) : Option Bool := bif (decide (a0 ≥ a1)) then some (decide (a0 ≤ a2)) else some false
theorem ok_spec_l1In {a0 : Int} {a1 : Int} {a2 : Int} {y : Bool} (h : spec_l1In a0 a1 a2 = some y) : OK Try.prog 66 [I a0, I a1, I a2] (B y) := by
 refine ow Try.func66 fun Γ hX => ?_
 unfold spec_l1In at h
 refine srve 15 [(0, I a0), (1, I a1), (2, I a2)] [] ?_
 refine srv 4 15 [(0, I a0), (2, I a2), (10, B (decide (a0 ≥ a1)))] [] ?_
 rcases fk (decide (a0 ≥ a1)) with hc1 | hc1
 replace h := bT hc1 h
 rw [hc1]
 refine ve 5 15 [(6, B (decide (a0 ≤ a2)))] [] ?_
 cases h
 exact pwp_ret rz
 replace h := bF hc1 h
 rw [hc1]
 refine ve 5 15 [(6, B false)] [] ?_
 cases h
 exact pwp_ret rz
def cmp_Or_int_l0 (a0 : List Int) : Nat → Int → Option Int
 | 0, _ => none
 | f2 + 1, x1 => bif (decide (x1 < (a0.length : Int))) then (getI a0 x1).bind fun v5 => bif (!(v5 == 0)) then some v5 else (cmp_Or_int_l0 a0 f2) (w64 (x1 + 1)) else some 0
def cmp_Or_int (a0 : List Int) : Option Int := cmp_Or_int_l0 a0 FUEL 0
theorem ok_cmp_Or_int {a0 : List Int} {y : Int} (h : cmp_Or_int a0 = some y) : OK Try.prog 79 [A a0] (I y) := by
 refine ow Try.func79 fun Γ hX => ?_
 unfold cmp_Or_int at h
 refine srve 18 [(0, A a0)] [] ?_
 refine srve 18 [(0, A a0), (3, I 0)] [] ?_
 refine pwp_seq ?_
 refine srve 18 [(3, I 0), (6, A a0), (7, I (a0.length : Int)), (8, I 0)] [] ?_
 refine pwp_block ?_
 refine pwp_loop (ι := Nat × Int) (fun (f2, x1) => (⟨18, [(3, I 0), (6, A a0), (7, I (a0.length : Int)), (8, I x1)], []⟩ : St)) (fun (f2, x1) => cmp_Or_int_l0 a0 f2 x1 = some y) Prod.fst (FUEL, 0) h (it [3, 6, 7, 8]) ?_
 rintro ⟨f2, x1⟩ h
 dsimp only at h ⊢
 rcases f2 with _ | f2
 cases h
 rw [cmp_Or_int_l0] at h
 refine srve 18 [(3, I 0), (6, A a0), (7, I (a0.length : Int)), (8, I x1), (9, B (decide (x1 < (a0.length : Int))))] [] ?_
 refine pwp_seq ?_
 refine pc h (fun h => ?_) (fun h => ?_)
 refine pwp_skip ?_
 refine pwp_seq ?_
 refine pwp_block ?_
 refine pwp_seq ?_
 refine pwp_region ?_
 obtain ⟨v5, hv6, h⟩ := bindS h
 refine opsP_idx τ_ok 10 hv6 (by kernel_rfl) ?_
 refine ve 2 18 [(3, I 0), (5, I v5), (6, A a0), (7, I (a0.length : Int)), (8, I x1)] [] ?_
 refine srve 18 [(3, I 0), (5, I v5), (6, A a0), (7, I (a0.length : Int)), (8, I x1), (14, B (!(v5 == 0)))] [] ?_
 refine pc h (fun h => ?_) (fun h => ?_)
 refine srve 18 [(2, I v5)] [] ?_
 cases h
 exact pwp_ret rz
 refine pwp_skip ?_
 refine rve 18 [(3, I 0), (6, A a0), (7, I (a0.length : Int)), (8, I (w64 (x1 + 1)))] [] ?_
 exact ⟨(f2, (w64 (x1 + 1))), h, Nat.lt_succ_self _, it [3, 6, 7, 8]⟩
 refine pwp_exit ?_
 refine srve 18 [(2, I 0)] [] ?_
 cases h
 exact pwp_ret rz
def laws_eqValue (a0 : T_impl_Value) (a1 : T_impl_Value) : Option Bool := bif (!(a0.fKind == a1.fKind)) then some false else bif (!(a0.fN == a1.fN)) then some false else bif (!(a0.fS.toList == a1.fS.toList)) then some false else some true
theorem ok_laws_eqValue {a0 : T_impl_Value} {a1 : T_impl_Value} {y : Bool} (h : laws_eqValue a0 a1 = some y) : OK Try.prog 83 [E a0, E a1] (B y) := by
 refine ow Try.func83 fun Γ hX => ?_
 unfold laws_eqValue at h
 refine srve 20 [(2, pf a0 0), (3, pf a1 0)] [] ?_
 refine pwp_seq ?_
 refine srve 20 [(2, pf a0 0), (3, pf a1 0), (9, B (!(a0.fKind == a1.fKind)))] [] ?_
 refine pc h (fun h => ?_) (fun h => ?_)
 refine srve 20 [(4, B false)] [] ?_
 cases h
 exact pwp_ret rz
 refine pwp_skip ?_
 refine pwp_seq ?_
 refine srve 20 [(2, pf a0 0), (3, pf a1 0), (14, B (!(a0.fN == a1.fN)))] [] ?_
 refine pc h (fun h => ?_) (fun h => ?_)
 refine srve 20 [(4, B false)] [] ?_
 cases h
 exact pwp_ret rz
 refine pwp_skip ?_
 refine pwp_seq ?_
 refine srve 20 [(19, B (!(a0.fS.toList == a1.fS.toList)))] [] ?_
 refine pc h (fun h => ?_) (fun h => ?_)
 refine srve 20 [(4, B false)] [] ?_
 cases h
 exact pwp_ret rz
 refine pwp_skip ?_
 refine srve 20 [(4, B true)] [] ?_
 cases h
 exact pwp_ret rz
def laws_eqValueS_l0 (a0 : List T_impl_Value) (a1 : List T_impl_Value) : Nat → Int → Option Bool
 | 0, _ => none
 | f3 + 1, x2 => bif (decide (x2 < (a0.length : Int))) then (getI a0 x2).bind fun v6 => (getI a1 x2).bind fun v8 => (laws_eqValue v6 v8).bind fun v10 => bif (!v10) then some false else (laws_eqValueS_l0 a0 a1 f3) (w64 (x2 + 1)) else some true
def laws_eqValueS (a0 : List T_impl_Value) (a1 : List T_impl_Value) : Option Bool := bif (!((a0.length : Int) == (a1.length : Int))) then some false else laws_eqValueS_l0 a0 a1 FUEL 0
theorem ok_laws_eqValueS {a0 : List T_impl_Value} {a1 : List T_impl_Value} {y : Bool} (h : laws_eqValueS a0 a1 = some y) : OK Try.prog 84 [A a0, A a1] (B y) := by
 refine ow Try.func84 fun Γ hX => ?_
 unfold laws_eqValueS at h
 refine srve 27 [(0, A a0), (1, A a1)] [] ?_
 refine pwp_seq ?_
 refine srve 27 [(0, A a0), (1, A a1), (10, B (!((a0.length : Int) == (a1.length : Int))))] [] ?_
 refine pc h (fun h => ?_) (fun h => ?_)
 refine srve 27 [(4, B false)] [] ?_
 cases h
 exact pwp_ret rz
 refine pwp_skip ?_
 refine pwp_seq ?_
 refine srve 27 [(0, A a0), (1, A a1), (5, I 0)] [] ?_
 refine pwp_block ?_
 refine pwp_loop (ι := Nat × Int) (fun (f3, x2) => (⟨27, [(0, A a0), (1, A a1), (5, I x2)], []⟩ : St)) (fun (f3, x2) => laws_eqValueS_l0 a0 a1 f3 x2 = some y) Prod.fst (FUEL, 0) h (it [0, 1, 5]) ?_
 rintro ⟨f3, x2⟩ h
 dsimp only at h ⊢
 rcases f3 with _ | f3
 cases h
 rw [laws_eqValueS_l0] at h
 refine pwp_seq ?_
 refine srve 27 [(0, A a0), (1, A a1), (5, I x2), (14, B (decide (x2 < (a0.length : Int))))] [] ?_
 refine pc h (fun h => ?_) (fun h => ?_)
 refine pwp_skip ?_
 refine pwp_seq ?_
 refine pwp_block ?_
 refine pwp_seq ?_
 refine ip 27 [(0, A a0), (1, A a1), (5, I x2)] [] ?_
 refine pN 10 ?_
 refine qv [] trivial 2 27 [(18, I x2), (17, A a0), (0, A a0), (1, A a1), (5, I x2)] [] ?_
 obtain ⟨v6, hv7, h⟩ := bindS h
 refine qX (some 19) (pf v6 0) 27 [(19, pf v6 0), (0, A a0), (1, A a1), (5, I x2)] [] (fun Γ' hΓ => CoreE.of_y (idxV_sound τ_ok (by kernel_rfl) hv7)) trivial ?_
 refine qv [] trivial 3 27 [(22, I x2), (21, A a1), (20, E v6), (0, A a0), (1, A a1), (5, I x2)] [] ?_
 obtain ⟨v8, hv9, h⟩ := bindS h
 refine qX (some 23) (pf v8 0) 27 [(23, pf v8 0), (20, E v6), (0, A a0), (1, A a1), (5, I x2)] [] (fun Γ' hΓ => CoreE.of_y (idxV_sound τ_ok (by kernel_rfl) hv9)) trivial ?_
 refine qv [] trivial 1 27 [(24, E v8), (20, E v6), (0, A a0), (1, A a1), (5, I x2)] [] ?_
 obtain ⟨v10, hv11, h⟩ := bindS h
 refine qX (some 25) (B v10) 27 [(25, B v10), (0, A a0), (1, A a1), (5, I x2)] [] (fun Γ' hΓ => CoreE.of_g (callV_sound (τ := τ) (by kernel_rfl) rfl (ok_laws_eqValue hv11) (FzTo.frz rfl))) trivial ?_
 refine qvn [] trivial 1 27 [(0, A a0), (1, A a1), (5, I x2), (26, B (!v10))] [] ?_
 refine pc h (fun h => ?_) (fun h => ?_)
 refine srve 27 [(4, B false)] [] ?_
 cases h
 exact pwp_ret rz
 refine pwp_skip ?_
 refine rve 27 [(0, A a0), (1, A a1), (5, I (w64 (x2 + 1)))] [] ?_
 exact ⟨(f3, (w64 (x2 + 1))), h, Nat.lt_succ_self _, it [0, 1, 5]⟩
 refine pwp_exit ?_
 refine srve 27 [(4, B true)] [] ?_
 cases h
 exact pwp_ret rz
def impl_letters_l0 (v1 : List UInt8) : Nat → Int → Option Bool
 | 0, _ => none
 | f4 + 1, x3 => bif (decide (x3 < (v1.length : Int))) then (getI v1 x3).bind fun v7 => (impl_between (w64 (v7.toNat : Int)) 97 122).bind fun v9 => bif (!v9) then some false else (impl_letters_l0 v1 f4) (w64 (x3 + 1)) else some true
def impl_letters (a0 : ByteArray) : Option Bool := (bytesOf a0).bind fun v1 => impl_letters_l0 v1 FUEL 0
theorem ok_impl_letters {a0 : ByteArray} {y : Bool} (h : impl_letters a0 = some y) : OK Try.prog 88 [S a0] (B y) := by
 refine ow Try.func88 fun Γ hX => ?_
 unfold impl_letters at h
 refine srve 17 [(0, S a0)] [] ?_
 refine pwp_seq ?_
 refine srv 1 17 [(5, S a0)] [] ?_
 obtain ⟨v1, hv2, h⟩ := bindS h
 refine opsP_cvb τ_ok 6 hv2 (by kernel_rfl) ?_
 refine ve 2 17 [(6, A v1), (7, I (v1.length : Int)), (8, I 0)] [] ?_
 refine pwp_block ?_
 refine pwp_loop (ι := Nat × Int) (fun (f4, x3) => (⟨17, [(6, A v1), (7, I (v1.length : Int)), (8, I x3)], []⟩ : St)) (fun (f4, x3) => impl_letters_l0 v1 f4 x3 = some y) Prod.fst (FUEL, 0) h (it [6, 7, 8]) ?_
 rintro ⟨f4, x3⟩ h
 dsimp only at h ⊢
 rcases f4 with _ | f4
 cases h
 rw [impl_letters_l0] at h
 refine srve 17 [(6, A v1), (7, I (v1.length : Int)), (8, I x3), (9, B (decide (x3 < (v1.length : Int))))] [] ?_
 refine pwp_seq ?_
 refine pc h (fun h => ?_) (fun h => ?_)
 refine pwp_skip ?_
 refine pwp_seq ?_
 refine pwp_block ?_
 refine pwp_seq ?_
 refine pwp_region ?_
 obtain ⟨v7, hv8, h⟩ := bindS h
 refine opsP_idx τ_ok 10 hv8 (by kernel_rfl) ?_
 refine ve 2 17 [(4, .lit (.int .u8 (v7).toNat)), (6, A v1), (7, I (v1.length : Int)), (8, I x3)] [] ?_
 refine srv 2 17 [(6, A v1), (7, I (v1.length : Int)), (8, I x3), (13, I (w64 (v7.toNat : Int)))] [] ?_
 obtain ⟨v9, hv10, h⟩ := bindS h
 refine cF 14 (ok_impl_between hv10) ?_
 refine ve 1 17 [(6, A v1), (7, I (v1.length : Int)), (8, I x3), (15, B (!v9))] [] ?_
 refine pc h (fun h => ?_) (fun h => ?_)
 refine srve 17 [(2, B false)] [] ?_
 cases h
 exact pwp_ret rz
 refine pwp_skip ?_
 refine rve 17 [(6, A v1), (7, I (v1.length : Int)), (8, I (w64 (x3 + 1)))] [] ?_
 exact ⟨(f4, (w64 (x3 + 1))), h, Nat.lt_succ_self _, it [6, 7, 8]⟩
 refine pwp_exit ?_
 refine srve 17 [(2, B true)] [] ?_
 cases h
 exact pwp_ret rz
def laws_szValue (a0 : T_laws_Value) (a1 : Int) : Option Int := bif (decide ((w64 (a1 - (a0.fS.size : Int))) < 0)) then some (-1) else some (w64 (a1 - (a0.fS.size : Int)))
theorem ok_laws_szValue {a0 : T_laws_Value} {a1 : Int} {y : Int} (h : laws_szValue a0 a1 = some y) : OK Try.prog 96 [E a0, I a1] (I y) := by
 refine ow Try.func96 fun Γ hX => ?_
 unfold laws_szValue at h
 refine srve 13 [(1, I a1), (2, pf a0 0)] [] ?_
 refine srve 13 [(1, I (w64 (a1 - (a0.fS.size : Int))))] [] ?_
 refine pwp_seq ?_
 refine srve 13 [(1, I (w64 (a1 - (a0.fS.size : Int)))), (11, B (decide ((w64 (a1 - (a0.fS.size : Int))) < 0)))] [] ?_
 refine pc h (fun h => ?_) (fun h => ?_)
 refine srve 13 [(4, I (-1))] [] ?_
 cases h
 exact pwp_ret rz
 refine pwp_skip ?_
 refine srve 13 [(4, I (w64 (a1 - (a0.fS.size : Int))))] [] ?_
 cases h
 exact pwp_ret rz
def laws_toValue (a0 : T_laws_Value) : Option T_impl_Value := some (T_impl_Value.mk a0.fKind a0.fN a0.fS)
theorem ok_laws_toValue {a0 : T_laws_Value} {y : T_impl_Value} (h : laws_toValue a0 = some y) : OK Try.prog 99 [E a0] (E y) := by
 refine ow Try.func99 fun Γ hX => ?_
 unfold laws_toValue at h
 refine srveM [2, 3] 14 [(1, pf a0 0), (2, .ptr 0 0 0)] [some ⟨0, Enc.cells (T_impl_Value.mk 0 0 (ByteArray.mk #[]))⟩] ?_
 refine srveM [2, 3] 14 [(1, pf a0 0), (2, .ptr 0 0 0), (3, .ptr 1 0 0)] [some ⟨0, Enc.cells (T_impl_Value.mk 0 0 (ByteArray.mk #[]))⟩, some ⟨0, Enc.cells (T_impl_Value.mk 0 0 (ByteArray.mk #[]))⟩] ?_
 refine srveM [2, 3] 14 [(1, pf a0 0), (2, .ptr 0 0 0), (3, .ptr 1 0 0)] [some ⟨0, Enc.cells (T_impl_Value.mk 0 0 (ByteArray.mk #[]))⟩, some ⟨0, Enc.cells (T_impl_Value.mk a0.fKind 0 (ByteArray.mk #[]))⟩] ?_
 refine srveM [2, 3] 14 [(1, pf a0 0), (2, .ptr 0 0 0), (3, .ptr 1 0 0)] [some ⟨0, Enc.cells (T_impl_Value.mk 0 0 (ByteArray.mk #[]))⟩, some ⟨0, Enc.cells (T_impl_Value.mk a0.fKind a0.fN (ByteArray.mk #[]))⟩] ?_
 refine srveM [2, 3] 14 [(2, .ptr 0 0 0), (3, .ptr 1 0 0)] [some ⟨0, Enc.cells (T_impl_Value.mk 0 0 (ByteArray.mk #[]))⟩, some ⟨0, Enc.cells (T_impl_Value.mk a0.fKind a0.fN a0.fS)⟩] ?_
 refine srveM [2, 3] 14 [(2, .ptr 0 0 0)] [some ⟨0, Enc.cells (T_impl_Value.mk a0.fKind a0.fN a0.fS)⟩, some ⟨0, Enc.cells (T_impl_Value.mk a0.fKind a0.fN a0.fS)⟩] ?_
 cases h
 exact pwp_ret rz
def cmp_isNaN_int (a0 : Int) : Option Bool := some (!(a0 == a0))
theorem ok_cmp_isNaN_int {a0 : Int} {y : Bool} (h : cmp_isNaN_int a0 = some y) : OK Try.prog 112 [I a0] (B y) := by
 refine ow Try.func112 fun Γ hX => ?_
 unfold cmp_isNaN_int at h
 refine srve 6 [(0, I a0)] [] ?_
 refine srve 6 [(2, B (!(a0 == a0)))] [] ?_
 cases h
 exact pwp_ret rz
def slices_IndexFunc_impl_Value_impl_Value_l0 (a0 : List T_impl_Value) (a1 : T_impl_Value → Option Bool) : Nat → Int → Option Int
 | 0, _ => none
 | f2 + 1, x1 => bif (decide (x1 < (a0.length : Int))) then (getI a0 x1).bind fun v5 => (a1 v5).bind fun v7 => bif v7 then some x1 else (slices_IndexFunc_impl_Value_impl_Value_l0 a0 a1 f2) (w64 (x1 + 1)) else some (-1)
def slices_IndexFunc_impl_Value_impl_Value (a0 : List T_impl_Value) (a1 : T_impl_Value → Option Bool) : Option Int := slices_IndexFunc_impl_Value_impl_Value_l0 a0 a1 FUEL 0
theorem ok_slices_IndexFunc_impl_Value_impl_Value {a0 : List T_impl_Value} {g1 : FuncId} {c1 : List V} (hz1 : frzL c1 = true) {a1 : T_impl_Value → Option Bool} (hp1 : ∀ x0 y, a1 x0 = some y → OK Try.prog g1 ([E x0] ++ c1) (B y)) {y : Int} (h : slices_IndexFunc_impl_Value_impl_Value a0 a1 = some y) : OK Try.prog 116 [A a0, .fn g1 c1] (I y) := by
 refine ow Try.func116 fun Γ hX => ?_
 unfold slices_IndexFunc_impl_Value_impl_Value at h
 refine srve 19 [(0, A a0), (1, .fn g1 c1)] [] ?_
 refine pwp_seq ?_
 refine srve 19 [(0, A a0), (1, .fn g1 c1), (7, I (a0.length : Int)), (8, I 0)] [] ?_
 refine pwp_block ?_
 refine pwp_loop (ι := Nat × Int) (fun (f2, x1) => (⟨19, [(0, A a0), (1, .fn g1 c1), (7, I (a0.length : Int)), (8, I x1)], []⟩ : St)) (fun (f2, x1) => slices_IndexFunc_impl_Value_impl_Value_l0 a0 a1 f2 x1 = some y) Prod.fst (FUEL, 0) h (it [0, 1, 7, 8]) ?_
 rintro ⟨f2, x1⟩ h
 dsimp only at h ⊢
 rcases f2 with _ | f2
 cases h
 rw [slices_IndexFunc_impl_Value_impl_Value_l0] at h
 refine srve 19 [(0, A a0), (1, .fn g1 c1), (7, I (a0.length : Int)), (8, I x1), (9, B (decide (x1 < (a0.length : Int))))] [] ?_
 refine pwp_seq ?_
 refine pc h (fun h => ?_) (fun h => ?_)
 refine pwp_skip ?_
 refine pwp_seq ?_
 refine pwp_block ?_
 refine srve 19 [(0, A a0), (1, .fn g1 c1), (5, I x1), (7, I (a0.length : Int)), (8, I x1)] [] ?_
 refine srv 3 19 [(0, A a0), (1, .fn g1 c1), (5, I x1), (7, I (a0.length : Int)), (8, I x1), (11, .fn g1 c1), (12, A a0), (13, I x1)] [] ?_
 obtain ⟨v5, hv6, h⟩ := bindS h
 refine opsP_idx τ_ok 14 hv6 (by kernel_rfl) ?_
 refine v 1 19 [(0, A a0), (1, .fn g1 c1), (5, I x1), (7, I (a0.length : Int)), (8, I x1), (11, .fn g1 c1), (15, E v5)] [] ?_
 obtain ⟨v7, hv8, h⟩ := bindS h
 refine opsP_callF τ 16 (hp1 _ _ hv8) (FzTo.frz rfl) (frz_app (xs := [E v5]) rfl hz1) (by kernel_rfl) ?_
 refine ve 0 19 [(0, A a0), (1, .fn g1 c1), (5, I x1), (7, I (a0.length : Int)), (8, I x1), (16, B v7)] [] ?_
 refine pc h (fun h => ?_) (fun h => ?_)
 refine srve 19 [(4, I x1)] [] ?_
 cases h
 exact pwp_ret rz
 refine pwp_skip ?_
 refine rve 19 [(0, A a0), (1, .fn g1 c1), (7, I (a0.length : Int)), (8, I (w64 (x1 + 1)))] [] ?_
 exact ⟨(f2, (w64 (x1 + 1))), h, Nat.lt_succ_self _, it [0, 1, 7, 8]⟩
 refine pwp_exit ?_
 refine srve 19 [(4, I (-1))] [] ?_
 cases h
 exact pwp_ret rz
def spec_l1Text_j1 (x1 : Int) (K3 : Int → Option Bool) (x5 : Bool) : Option Bool := bif x5 then some false else K3 (w64 (x1 + 1))
def spec_l1Text_l0 (a0 : ByteArray) : Nat → Int → Option Bool
 | 0, _ => none
 | f2 + 1, x1 => bif (decide (x1 < (a0.size : Int))) then (getB a0 x1).bind fun v7 => bif (decide ((v7.toNat : Int) < 97)) then spec_l1Text_j1 x1 (spec_l1Text_l0 a0 f2) true else (getB a0 x1).bind fun v9 => spec_l1Text_j1 x1 (spec_l1Text_l0 a0 f2) (decide ((v9.toNat : Int) > 122)) else some (decide ((a0.size : Int) ≤ 6))
def spec_l1Text (a0 : ByteArray) : Option Bool := spec_l1Text_l0 a0 FUEL 0
theorem ok_spec_l1Text {a0 : ByteArray} {y : Bool} (h : spec_l1Text a0 = some y) : OK Try.prog 120 [S a0] (B y) := by
 refine ow Try.func120 fun Γ hX => ?_
 unfold spec_l1Text at h
 refine srve 23 [(0, S a0)] [] ?_
 refine pwp_seq ?_
 refine srve 23 [(0, S a0), (3, I 0)] [] ?_
 refine pwp_block ?_
 refine pwp_loop (ι := Nat × Int) (fun (f2, x1) => (⟨23, [(0, S a0), (3, I x1)], []⟩ : St)) (fun (f2, x1) => spec_l1Text_l0 a0 f2 x1 = some y) Prod.fst (FUEL, 0) h (it [0, 3]) ?_
 rintro ⟨f2, x1⟩ h
 dsimp only at h ⊢
 rcases f2 with _ | f2
 cases h
 rw [spec_l1Text_l0] at h
 refine pwp_seq ?_
 refine srve 23 [(0, S a0), (3, I x1), (7, B (decide (x1 < (a0.size : Int))))] [] ?_
 refine pc h (fun h => ?_) (fun h => ?_)
 refine pwp_skip ?_
 refine pwp_seq ?_
 refine pwp_block ?_
 refine pwp_seq ?_
 refine pwp_join (σ := Bool) (fun x5 => (⟨23, [(0, S a0), (3, I x1), (19, B x5)], []⟩ : St)) (fun x5 => spec_l1Text_j1 x1 (spec_l1Text_l0 a0 f2) x5 = some y) ?_ ?_
 refine rv 2 23 [(0, S a0), (3, I x1), (10, S a0), (11, I x1)] [] ?_
 obtain ⟨v7, hv8, h⟩ := bindS h
 refine opsP_byt τ_ok 12 hv8 (by kernel_rfl) ?_
 refine v 2 23 [(0, S a0), (3, I x1), (14, B (decide ((v7.toNat : Int) < 97)))] [] ?_
 rcases fk (decide ((v7.toNat : Int) < 97)) with hc11 | hc11
 replace h := bT hc11 h
 rw [hc11]
 refine ve 5 23 [(0, S a0), (3, I x1), (15, .lit undef), (16, .lit undef), (17, .lit undef), (18, .lit undef), (19, B true)] [] ?_
 exact ⟨true, h, it [0, 3, 19]⟩
 replace h := bF hc11 h
 rw [hc11]
 refine v 2 23 [(0, S a0), (3, I x1), (14, B false), (15, S a0), (16, I x1)] [] ?_
 obtain ⟨v9, hv10, h⟩ := bindS h
 refine opsP_byt τ_ok 17 hv10 (by kernel_rfl) ?_
 refine ve 2 23 [(0, S a0), (3, I x1), (15, S a0), (16, I x1), (17, .lit (.int .u8 (v9).toNat)), (18, B (decide ((v9.toNat : Int) > 122))), (19, B (decide ((v9.toNat : Int) > 122)))] [] ?_
 exact ⟨(decide ((v9.toNat : Int) > 122)), h, it [0, 3, 19]⟩
 rintro x5 h
 unfold spec_l1Text_j1 at h
 refine pc h (fun h => ?_) (fun h => ?_)
 refine srve 23 [(2, B false)] [] ?_
 cases h
 exact pwp_ret rz
 refine pwp_skip ?_
 refine rve 23 [(0, S a0), (3, I (w64 (x1 + 1)))] [] ?_
 exact ⟨(f2, (w64 (x1 + 1))), h, Nat.lt_succ_self _, it [0, 3]⟩
 refine pwp_exit ?_
 refine srve 23 [(2, B (decide ((a0.size : Int) ≤ 6)))] [] ?_
 cases h
 exact pwp_ret rz
def spec_l1Less (a0 : Int) (a1 : Int) : Option Int := bif (decide (a0 < a1)) then some 1 else some 0
theorem ok_spec_l1Less {a0 : Int} {a1 : Int} {y : Int} (h : spec_l1Less a0 a1 = some y) : OK Try.prog 121 [I a0, I a1] (I y) := by
 refine ow Try.func121 fun Γ hX => ?_
 unfold spec_l1Less at h
 refine srve 8 [(0, I a0), (1, I a1)] [] ?_
 refine pwp_seq ?_
 refine srve 8 [(7, B (decide (a0 < a1)))] [] ?_
 refine pc h (fun h => ?_) (fun h => ?_)
 refine srve 8 [(4, I 1)] [] ?_
 cases h
 exact pwp_ret rz
 refine pwp_skip ?_
 refine srve 8 [(4, I 0)] [] ?_
 cases h
 exact pwp_ret rz
def spec_l1Cmp (a0 : ByteArray) (a1 : ByteArray) : Option Int := bif (Op.bytesLess a0.toList a1.toList) then some (-1) else bif (!Op.bytesLess a0.toList a1.toList && !(a0.toList == a1.toList)) then some 1 else some 0
theorem ok_spec_l1Cmp {a0 : ByteArray} {a1 : ByteArray} {y : Int} (h : spec_l1Cmp a0 a1 = some y) : OK Try.prog 122 [S a0, S a1] (I y) := by
 refine ow Try.func122 fun Γ hX => ?_
 unfold spec_l1Cmp at h
 refine srve 11 [(0, S a0), (1, S a1)] [] ?_
 refine pwp_seq ?_
 refine srve 11 [(0, S a0), (1, S a1), (7, B (Op.bytesLess a0.toList a1.toList))] [] ?_
 refine pc h (fun h => ?_) (fun h => ?_)
 refine srve 11 [(4, I (-1))] [] ?_
 cases h
 exact pwp_ret rz
 refine pwp_skip ?_
 refine pwp_seq ?_
 refine srve 11 [(10, B (!Op.bytesLess a0.toList a1.toList && !(a0.toList == a1.toList)))] [] ?_
 refine pc h (fun h => ?_) (fun h => ?_)
 refine srve 11 [(4, I 1)] [] ?_
 cases h
 exact pwp_ret rz
 refine pwp_skip ?_
 refine srve 11 [(4, I 0)] [] ?_
 cases h
 exact pwp_ret rz
def cmp_isNaN_string (a0 : ByteArray) : Option Bool := some (!(a0.toList == a0.toList))
theorem ok_cmp_isNaN_string {a0 : ByteArray} {y : Bool} (h : cmp_isNaN_string a0 = some y) : OK Try.prog 128 [S a0] (B y) := by
 refine ow Try.func128 fun Γ hX => ?_
 unfold cmp_isNaN_string at h
 refine srve 6 [(0, S a0)] [] ?_
 refine srve 6 [(2, B (!(a0.toList == a0.toList)))] [] ?_
 cases h
 exact pwp_ret rz
def laws_markMarkS_l0 : Nat → Int → Int → (List T_impl_Mark) → Option (Int × List T_impl_Mark)
 | 0, _, _, _ => none
 | f5 + 1, x2, x3, x4 => bif (decide (x3 < (x4.length : Int))) then (getI x4 x3).bind fun v8 => (getI (x4.set x3.toNat ({ v8 with fV := { v8.fV with fKind := x2 } } : T_impl_Mark)) x3).bind fun v10 => (laws_markText (w64 ((w64 (x2 + 1)) + 1))).bind fun v12 => (getI ((x4.set x3.toNat ({ v8 with fV := { v8.fV with fKind := x2 } } : T_impl_Mark)).set x3.toNat ({ v10 with fV := { v10.fV with fN := (w64 (x2 + 1)) } } : T_impl_Mark)) x3).bind fun v14 => (getI (((x4.set x3.toNat ({ v8 with fV := { v8.fV with fKind := x2 } } : T_impl_Mark)).set x3.toNat ({ v10 with fV := { v10.fV with fN := (w64 (x2 + 1)) } } : T_impl_Mark)).set x3.toNat ({ v14 with fV := { v14.fV with fS := v12 } } : T_impl_Mark)) x3).bind fun v16 => (getI ((((x4.set x3.toNat ({ v8 with fV := { v8.fV with fKind := x2 } } : T_impl_Mark)).set x3.toNat ({ v10 with fV := { v10.fV with fN := (w64 (x2 + 1)) } } : T_impl_Mark)).set x3.toNat ({ v14 with fV := { v14.fV with fS := v12 } } : T_impl_Mark)).set x3.toNat ({ v16 with fKey := (w64 ((w64 ((w64 (x2 + 1)) + 1)) + 1)) } : T_impl_Mark)) x3).bind fun v18 => (getI (((((x4.set x3.toNat ({ v8 with fV := { v8.fV with fKind := x2 } } : T_impl_Mark)).set x3.toNat ({ v10 with fV := { v10.fV with fN := (w64 (x2 + 1)) } } : T_impl_Mark)).set x3.toNat ({ v14 with fV := { v14.fV with fS := v12 } } : T_impl_Mark)).set x3.toNat ({ v16 with fKey := (w64 ((w64 ((w64 (x2 + 1)) + 1)) + 1)) } : T_impl_Mark)).set x3.toNat ({ v18 with fBorn := (w64 ((w64 ((w64 ((w64 (x2 + 1)) + 1)) + 1)) + 1)) } : T_impl_Mark)) x3).bind fun v20 => (laws_markMarkS_l0 f5) (w64 ((w64 ((w64 ((w64 ((w64 ((w64 (x2 + 1)) + 1)) + 1)) + 1)) + 1)) + 1)) (w64 (x3 + 1)) ((((((x4.set x3.toNat ({ v8 with fV := { v8.fV with fKind := x2 } } : T_impl_Mark)).set x3.toNat ({ v10 with fV := { v10.fV with fN := (w64 (x2 + 1)) } } : T_impl_Mark)).set x3.toNat ({ v14 with fV := { v14.fV with fS := v12 } } : T_impl_Mark)).set x3.toNat ({ v16 with fKey := (w64 ((w64 ((w64 (x2 + 1)) + 1)) + 1)) } : T_impl_Mark)).set x3.toNat ({ v18 with fBorn := (w64 ((w64 ((w64 ((w64 (x2 + 1)) + 1)) + 1)) + 1)) } : T_impl_Mark)).set x3.toNat ({ v20 with fDied := (w64 ((w64 ((w64 ((w64 ((w64 (x2 + 1)) + 1)) + 1)) + 1)) + 1)) } : T_impl_Mark)) else some (x2, x4)
def laws_markMarkS (a0 : List T_impl_Mark) (a1 : Int) : Option (Int × List T_impl_Mark) := laws_markMarkS_l0 FUEL a1 0 a0
theorem len_laws_markMarkS_l0 : ∀ (f5 : Nat) (x2 : Int) (x3 : Int) (x4 : List T_impl_Mark) (y : Int × List T_impl_Mark), laws_markMarkS_l0 f5 x2 x3 x4 = some y → y.2.length = x4.length
 | 0, _, _, _, _, h => by cases h
 | f5 + 1, x2, x3, x4, y, h => by
  rw [laws_markMarkS_l0] at h
  rcases condS h with h | h
  ·obtain ⟨_, _, h⟩ := bindS h
   obtain ⟨_, _, h⟩ := bindS h
   obtain ⟨_, _, h⟩ := bindS h
   obtain ⟨_, _, h⟩ := bindS h
   obtain ⟨_, _, h⟩ := bindS h
   obtain ⟨_, _, h⟩ := bindS h
   obtain ⟨_, _, h⟩ := bindS h
   have h2 := len_laws_markMarkS_l0 f5 _ _ _ _ h
   simp only [List.length_set] at h2
   exact h2
  ·cases h; rfl
theorem len_laws_markMarkS {a0 : List T_impl_Mark} {a1 : Int} {y : Int × List T_impl_Mark} (h : laws_markMarkS a0 a1 = some y) : y.2.length = a0.length := by
 unfold laws_markMarkS at h
 exact len_laws_markMarkS_l0 _ _ _ _ _ h
theorem ok_laws_markMarkS {a0 : List T_impl_Mark} {a1 : Int} {y : Int × List T_impl_Mark} (h : laws_markMarkS a0 a1 = some y) : OKd Try.prog 14 6 a0.length (eL a0) [I a1] (.int .i64 y.1) (eL y.2) := by
 refine OKd_of_pwp τ_ok Try.func14 rfl (by kernel_rfl) rfl (O_oc _) (O_oc _) (BlindL.lits (eL_lit DFlat.lit _)) (BlindL.lits (eL_lit DFlat.lit _)) rfl (fun hl => by rw [eL_len, len_laws_markMarkS h, ← eL_len]; exact hl) fun Γ hQ => ?_
 refine pwp_imp (Imp.to (st' := ⟨59, [(0, rf 0 0 6 a0), (1, I a1)], [sl 0 a0]⟩) [0, 1] (by kernel_rfl)) ?_
 unfold laws_markMarkS at h
 refine srve 59 [(0, rf 0 0 6 a0), (1, I a1)] [sl 0 a0] ?_
 refine pwp_seq ?_
 refine srve 59 [(0, rf 0 0 6 a0), (1, I a1), (5, I 0)] [sl 0 a0] ?_
 refine pwp_block ?_
 refine pwp_loop (ι := Nat × Int × Int × (List T_impl_Mark)) (fun (f5, x2, x3, x4) => (⟨59, [(0, rf 0 0 6 x4), (1, I x2), (5, I x3)], [sl 0 x4]⟩ : St)) (fun (f5, x2, x3, x4) => laws_markMarkS_l0 f5 x2 x3 x4 = some y) Prod.fst (FUEL, a1, 0, a0) h (it [0, 1, 5]) ?_
 rintro ⟨f5, x2, x3, x4⟩ h
 dsimp only at h ⊢
 rcases f5 with _ | f5
 cases h
 rw [laws_markMarkS_l0] at h
 refine pwp_seq ?_
 refine srve 59 [(0, rf 0 0 6 x4), (1, I x2), (5, I x3), (9, B (decide (x3 < (x4.length : Int))))] [sl 0 x4] ?_
 refine pc h (fun h => ?_) (fun h => ?_)
 refine pwp_skip ?_
 refine pwp_seq ?_
 refine pwp_block ?_
 refine srv 3 59 [(0, rf 0 0 6 x4), (1, I x2), (5, I x3), (12, rf 0 0 6 x4), (13, I x3), (14, I x2)] [sl 0 x4] ?_
 obtain ⟨v8, hv9, h⟩ := bindS h
 refine opsP_idr τ_ok 15 0 0 x4.length hv9 rfl (by kernel_rfl) ?_
 refine v 2 59 [(0, rf 0 0 6 x4), (1, I x2), (5, I x3), (14, I x2), (17, .ptr 0 0 (x3.toNat * 6))] [sl 0 x4] ?_
 refine opsP_ste (vs := [I x2]) τ_ok 3 0 0 0 ({ v8 with fV := { v8.fV with fKind := x2 } } : T_impl_Mark) hv9 (by kernel_rfl) (by kernel_rfl) (by kernel_rfl) (renC (ren_ref (List.length_set ..).symm) (renC trivial (renC trivial (renC trivial (renC trivial renC0))))) ?_
 refine ve 0 59 [(0, .ref 0 0 0 6 (x4.set x3.toNat ({ v8 with fV := { v8.fV with fKind := x2 } } : T_impl_Mark)).length false), (1, I x2), (5, I x3)] [some ⟨0, eL (x4.set x3.toNat ({ v8 with fV := { v8.fV with fKind := x2 } } : T_impl_Mark))⟩] ?_
 refine srve 59 [(0, .ref 0 0 0 6 (x4.set x3.toNat ({ v8 with fV := { v8.fV with fKind := x2 } } : T_impl_Mark)).length false), (1, I (w64 (x2 + 1))), (5, I x3)] [some ⟨0, eL (x4.set x3.toNat ({ v8 with fV := { v8.fV with fKind := x2 } } : T_impl_Mark))⟩] ?_
 refine srv 3 59 [(0, .ref 0 0 0 6 (x4.set x3.toNat ({ v8 with fV := { v8.fV with fKind := x2 } } : T_impl_Mark)).length false), (1, I (w64 (x2 + 1))), (5, I x3), (20, .ref 0 0 0 6 (x4.set x3.toNat ({ v8 with fV := { v8.fV with fKind := x2 } } : T_impl_Mark)).length false), (21, I x3), (22, I (w64 (x2 + 1)))] [some ⟨0, eL (x4.set x3.toNat ({ v8 with fV := { v8.fV with fKind := x2 } } : T_impl_Mark))⟩] ?_
 obtain ⟨v10, hv11, h⟩ := bindS h
 refine opsP_idr τ_ok 23 0 0 (x4.set x3.toNat ({ v8 with fV := { v8.fV with fKind := x2 } } : T_impl_Mark)).length hv11 rfl (by kernel_rfl) ?_
 refine v 2 59 [(0, .ref 0 0 0 6 (x4.set x3.toNat ({ v8 with fV := { v8.fV with fKind := x2 } } : T_impl_Mark)).length false), (1, I (w64 (x2 + 1))), (5, I x3), (22, I (w64 (x2 + 1))), (25, .ptr 0 0 (x3.toNat * 6 + 1))] [some ⟨0, eL (x4.set x3.toNat ({ v8 with fV := { v8.fV with fKind := x2 } } : T_impl_Mark))⟩] ?_
 refine opsP_ste (vs := [I (w64 (x2 + 1))]) τ_ok 3 0 0 1 ({ v10 with fV := { v10.fV with fN := (w64 (x2 + 1)) } } : T_impl_Mark) hv11 (by kernel_rfl) (by kernel_rfl) (by kernel_rfl) (renC (ren_ref (List.length_set ..).symm) (renC trivial (renC trivial (renC trivial (renC trivial renC0))))) ?_
 refine ve 0 59 [(0, .ref 0 0 0 6 ((x4.set x3.toNat ({ v8 with fV := { v8.fV with fKind := x2 } } : T_impl_Mark)).set x3.toNat ({ v10 with fV := { v10.fV with fN := (w64 (x2 + 1)) } } : T_impl_Mark)).length false), (1, I (w64 (x2 + 1))), (5, I x3)] [some ⟨0, eL ((x4.set x3.toNat ({ v8 with fV := { v8.fV with fKind := x2 } } : T_impl_Mark)).set x3.toNat ({ v10 with fV := { v10.fV with fN := (w64 (x2 + 1)) } } : T_impl_Mark))⟩] ?_
 refine srve 59 [(0, .ref 0 0 0 6 ((x4.set x3.toNat ({ v8 with fV := { v8.fV with fKind := x2 } } : T_impl_Mark)).set x3.toNat ({ v10 with fV := { v10.fV with fN := (w64 (x2 + 1)) } } : T_impl_Mark)).length false), (1, I (w64 ((w64 (x2 + 1)) + 1))), (5, I x3)] [some ⟨0, eL ((x4.set x3.toNat ({ v8 with fV := { v8.fV with fKind := x2 } } : T_impl_Mark)).set x3.toNat ({ v10 with fV := { v10.fV with fN := (w64 (x2 + 1)) } } : T_impl_Mark))⟩] ?_
 refine srv 3 59 [(0, .ref 0 0 0 6 ((x4.set x3.toNat ({ v8 with fV := { v8.fV with fKind := x2 } } : T_impl_Mark)).set x3.toNat ({ v10 with fV := { v10.fV with fN := (w64 (x2 + 1)) } } : T_impl_Mark)).length false), (1, I (w64 ((w64 (x2 + 1)) + 1))), (5, I x3), (28, .ref 0 0 0 6 ((x4.set x3.toNat ({ v8 with fV := { v8.fV with fKind := x2 } } : T_impl_Mark)).set x3.toNat ({ v10 with fV := { v10.fV with fN := (w64 (x2 + 1)) } } : T_impl_Mark)).length false), (29, I x3), (30, I (w64 ((w64 (x2 + 1)) + 1)))] [some ⟨0, eL ((x4.set x3.toNat ({ v8 with fV := { v8.fV with fKind := x2 } } : T_impl_Mark)).set x3.toNat ({ v10 with fV := { v10.fV with fN := (w64 (x2 + 1)) } } : T_impl_Mark))⟩] ?_
 obtain ⟨v12, hv13, h⟩ := bindS h
 refine cF 31 (ok_laws_markText hv13) ?_
 obtain ⟨v14, hv15, h⟩ := bindS h
 refine opsP_idr τ_ok 32 0 0 ((x4.set x3.toNat ({ v8 with fV := { v8.fV with fKind := x2 } } : T_impl_Mark)).set x3.toNat ({ v10 with fV := { v10.fV with fN := (w64 (x2 + 1)) } } : T_impl_Mark)).length hv15 rfl (by kernel_rfl) ?_
 refine v 2 59 [(0, .ref 0 0 0 6 ((x4.set x3.toNat ({ v8 with fV := { v8.fV with fKind := x2 } } : T_impl_Mark)).set x3.toNat ({ v10 with fV := { v10.fV with fN := (w64 (x2 + 1)) } } : T_impl_Mark)).length false), (1, I (w64 ((w64 (x2 + 1)) + 1))), (5, I x3), (31, S v12), (34, .ptr 0 0 (x3.toNat * 6 + 2))] [some ⟨0, eL ((x4.set x3.toNat ({ v8 with fV := { v8.fV with fKind := x2 } } : T_impl_Mark)).set x3.toNat ({ v10 with fV := { v10.fV with fN := (w64 (x2 + 1)) } } : T_impl_Mark))⟩] ?_
 refine opsP_ste (vs := [S v12]) τ_ok 9 0 0 2 ({ v14 with fV := { v14.fV with fS := v12 } } : T_impl_Mark) hv15 (by kernel_rfl) (by kernel_rfl) (by kernel_rfl) (renC (ren_ref (List.length_set ..).symm) (renC trivial (renC trivial (renC trivial (renC trivial renC0))))) ?_
 refine ve 0 59 [(0, .ref 0 0 0 6 (((x4.set x3.toNat ({ v8 with fV := { v8.fV with fKind := x2 } } : T_impl_Mark)).set x3.toNat ({ v10 with fV := { v10.fV with fN := (w64 (x2 + 1)) } } : T_impl_Mark)).set x3.toNat ({ v14 with fV := { v14.fV with fS := v12 } } : T_impl_Mark)).length false), (1, I (w64 ((w64 (x2 + 1)) + 1))), (5, I x3)] [some ⟨0, eL (((x4.set x3.toNat ({ v8 with fV := { v8.fV with fKind := x2 } } : T_impl_Mark)).set x3.toNat ({ v10 with fV := { v10.fV with fN := (w64 (x2 + 1)) } } : T_impl_Mark)).set x3.toNat ({ v14 with fV := { v14.fV with fS := v12 } } : T_impl_Mark))⟩] ?_
 refine srve 59 [(0, .ref 0 0 0 6 (((x4.set x3.toNat ({ v8 with fV := { v8.fV with fKind := x2 } } : T_impl_Mark)).set x3.toNat ({ v10 with fV := { v10.fV with fN := (w64 (x2 + 1)) } } : T_impl_Mark)).set x3.toNat ({ v14 with fV := { v14.fV with fS := v12 } } : T_impl_Mark)).length false), (1, I (w64 ((w64 ((w64 (x2 + 1)) + 1)) + 1))), (5, I x3)] [some ⟨0, eL (((x4.set x3.toNat ({ v8 with fV := { v8.fV with fKind := x2 } } : T_impl_Mark)).set x3.toNat ({ v10 with fV := { v10.fV with fN := (w64 (x2 + 1)) } } : T_impl_Mark)).set x3.toNat ({ v14 with fV := { v14.fV with fS := v12 } } : T_impl_Mark))⟩] ?_
 refine srv 3 59 [(0, .ref 0 0 0 6 (((x4.set x3.toNat ({ v8 with fV := { v8.fV with fKind := x2 } } : T_impl_Mark)).set x3.toNat ({ v10 with fV := { v10.fV with fN := (w64 (x2 + 1)) } } : T_impl_Mark)).set x3.toNat ({ v14 with fV := { v14.fV with fS := v12 } } : T_impl_Mark)).length false), (1, I (w64 ((w64 ((w64 (x2 + 1)) + 1)) + 1))), (5, I x3), (37, .ref 0 0 0 6 (((x4.set x3.toNat ({ v8 with fV := { v8.fV with fKind := x2 } } : T_impl_Mark)).set x3.toNat ({ v10 with fV := { v10.fV with fN := (w64 (x2 + 1)) } } : T_impl_Mark)).set x3.toNat ({ v14 with fV := { v14.fV with fS := v12 } } : T_impl_Mark)).length false), (38, I x3), (39, I (w64 ((w64 ((w64 (x2 + 1)) + 1)) + 1)))] [some ⟨0, eL (((x4.set x3.toNat ({ v8 with fV := { v8.fV with fKind := x2 } } : T_impl_Mark)).set x3.toNat ({ v10 with fV := { v10.fV with fN := (w64 (x2 + 1)) } } : T_impl_Mark)).set x3.toNat ({ v14 with fV := { v14.fV with fS := v12 } } : T_impl_Mark))⟩] ?_
 obtain ⟨v16, hv17, h⟩ := bindS h
 refine opsP_idr τ_ok 40 0 0 (((x4.set x3.toNat ({ v8 with fV := { v8.fV with fKind := x2 } } : T_impl_Mark)).set x3.toNat ({ v10 with fV := { v10.fV with fN := (w64 (x2 + 1)) } } : T_impl_Mark)).set x3.toNat ({ v14 with fV := { v14.fV with fS := v12 } } : T_impl_Mark)).length hv17 rfl (by kernel_rfl) ?_
 refine v 1 59 [(0, .ref 0 0 0 6 (((x4.set x3.toNat ({ v8 with fV := { v8.fV with fKind := x2 } } : T_impl_Mark)).set x3.toNat ({ v10 with fV := { v10.fV with fN := (w64 (x2 + 1)) } } : T_impl_Mark)).set x3.toNat ({ v14 with fV := { v14.fV with fS := v12 } } : T_impl_Mark)).length false), (1, I (w64 ((w64 ((w64 (x2 + 1)) + 1)) + 1))), (5, I x3), (39, I (w64 ((w64 ((w64 (x2 + 1)) + 1)) + 1))), (41, .ptr 0 0 (x3.toNat * 6 + 3))] [some ⟨0, eL (((x4.set x3.toNat ({ v8 with fV := { v8.fV with fKind := x2 } } : T_impl_Mark)).set x3.toNat ({ v10 with fV := { v10.fV with fN := (w64 (x2 + 1)) } } : T_impl_Mark)).set x3.toNat ({ v14 with fV := { v14.fV with fS := v12 } } : T_impl_Mark))⟩] ?_
 refine opsP_ste (vs := [I (w64 ((w64 ((w64 (x2 + 1)) + 1)) + 1))]) τ_ok 3 0 0 3 ({ v16 with fKey := (w64 ((w64 ((w64 (x2 + 1)) + 1)) + 1)) } : T_impl_Mark) hv17 (by kernel_rfl) (by kernel_rfl) (by kernel_rfl) (renC (ren_ref (List.length_set ..).symm) (renC trivial (renC trivial (renC trivial (renC trivial renC0))))) ?_
 refine ve 0 59 [(0, .ref 0 0 0 6 ((((x4.set x3.toNat ({ v8 with fV := { v8.fV with fKind := x2 } } : T_impl_Mark)).set x3.toNat ({ v10 with fV := { v10.fV with fN := (w64 (x2 + 1)) } } : T_impl_Mark)).set x3.toNat ({ v14 with fV := { v14.fV with fS := v12 } } : T_impl_Mark)).set x3.toNat ({ v16 with fKey := (w64 ((w64 ((w64 (x2 + 1)) + 1)) + 1)) } : T_impl_Mark)).length false), (1, I (w64 ((w64 ((w64 (x2 + 1)) + 1)) + 1))), (5, I x3)] [some ⟨0, eL ((((x4.set x3.toNat ({ v8 with fV := { v8.fV with fKind := x2 } } : T_impl_Mark)).set x3.toNat ({ v10 with fV := { v10.fV with fN := (w64 (x2 + 1)) } } : T_impl_Mark)).set x3.toNat ({ v14 with fV := { v14.fV with fS := v12 } } : T_impl_Mark)).set x3.toNat ({ v16 with fKey := (w64 ((w64 ((w64 (x2 + 1)) + 1)) + 1)) } : T_impl_Mark))⟩] ?_
 refine srve 59 [(0, .ref 0 0 0 6 ((((x4.set x3.toNat ({ v8 with fV := { v8.fV with fKind := x2 } } : T_impl_Mark)).set x3.toNat ({ v10 with fV := { v10.fV with fN := (w64 (x2 + 1)) } } : T_impl_Mark)).set x3.toNat ({ v14 with fV := { v14.fV with fS := v12 } } : T_impl_Mark)).set x3.toNat ({ v16 with fKey := (w64 ((w64 ((w64 (x2 + 1)) + 1)) + 1)) } : T_impl_Mark)).length false), (1, I (w64 ((w64 ((w64 ((w64 (x2 + 1)) + 1)) + 1)) + 1))), (5, I x3)] [some ⟨0, eL ((((x4.set x3.toNat ({ v8 with fV := { v8.fV with fKind := x2 } } : T_impl_Mark)).set x3.toNat ({ v10 with fV := { v10.fV with fN := (w64 (x2 + 1)) } } : T_impl_Mark)).set x3.toNat ({ v14 with fV := { v14.fV with fS := v12 } } : T_impl_Mark)).set x3.toNat ({ v16 with fKey := (w64 ((w64 ((w64 (x2 + 1)) + 1)) + 1)) } : T_impl_Mark))⟩] ?_
 refine srv 3 59 [(0, .ref 0 0 0 6 ((((x4.set x3.toNat ({ v8 with fV := { v8.fV with fKind := x2 } } : T_impl_Mark)).set x3.toNat ({ v10 with fV := { v10.fV with fN := (w64 (x2 + 1)) } } : T_impl_Mark)).set x3.toNat ({ v14 with fV := { v14.fV with fS := v12 } } : T_impl_Mark)).set x3.toNat ({ v16 with fKey := (w64 ((w64 ((w64 (x2 + 1)) + 1)) + 1)) } : T_impl_Mark)).length false), (1, I (w64 ((w64 ((w64 ((w64 (x2 + 1)) + 1)) + 1)) + 1))), (5, I x3), (44, .ref 0 0 0 6 ((((x4.set x3.toNat ({ v8 with fV := { v8.fV with fKind := x2 } } : T_impl_Mark)).set x3.toNat ({ v10 with fV := { v10.fV with fN := (w64 (x2 + 1)) } } : T_impl_Mark)).set x3.toNat ({ v14 with fV := { v14.fV with fS := v12 } } : T_impl_Mark)).set x3.toNat ({ v16 with fKey := (w64 ((w64 ((w64 (x2 + 1)) + 1)) + 1)) } : T_impl_Mark)).length false), (45, I x3), (46, I (w64 ((w64 ((w64 ((w64 (x2 + 1)) + 1)) + 1)) + 1)))] [some ⟨0, eL ((((x4.set x3.toNat ({ v8 with fV := { v8.fV with fKind := x2 } } : T_impl_Mark)).set x3.toNat ({ v10 with fV := { v10.fV with fN := (w64 (x2 + 1)) } } : T_impl_Mark)).set x3.toNat ({ v14 with fV := { v14.fV with fS := v12 } } : T_impl_Mark)).set x3.toNat ({ v16 with fKey := (w64 ((w64 ((w64 (x2 + 1)) + 1)) + 1)) } : T_impl_Mark))⟩] ?_
 obtain ⟨v18, hv19, h⟩ := bindS h
 refine opsP_idr τ_ok 47 0 0 ((((x4.set x3.toNat ({ v8 with fV := { v8.fV with fKind := x2 } } : T_impl_Mark)).set x3.toNat ({ v10 with fV := { v10.fV with fN := (w64 (x2 + 1)) } } : T_impl_Mark)).set x3.toNat ({ v14 with fV := { v14.fV with fS := v12 } } : T_impl_Mark)).set x3.toNat ({ v16 with fKey := (w64 ((w64 ((w64 (x2 + 1)) + 1)) + 1)) } : T_impl_Mark)).length hv19 rfl (by kernel_rfl) ?_
 refine v 1 59 [(0, .ref 0 0 0 6 ((((x4.set x3.toNat ({ v8 with fV := { v8.fV with fKind := x2 } } : T_impl_Mark)).set x3.toNat ({ v10 with fV := { v10.fV with fN := (w64 (x2 + 1)) } } : T_impl_Mark)).set x3.toNat ({ v14 with fV := { v14.fV with fS := v12 } } : T_impl_Mark)).set x3.toNat ({ v16 with fKey := (w64 ((w64 ((w64 (x2 + 1)) + 1)) + 1)) } : T_impl_Mark)).length false), (1, I (w64 ((w64 ((w64 ((w64 (x2 + 1)) + 1)) + 1)) + 1))), (5, I x3), (46, I (w64 ((w64 ((w64 ((w64 (x2 + 1)) + 1)) + 1)) + 1))), (48, .ptr 0 0 (x3.toNat * 6 + 4))] [some ⟨0, eL ((((x4.set x3.toNat ({ v8 with fV := { v8.fV with fKind := x2 } } : T_impl_Mark)).set x3.toNat ({ v10 with fV := { v10.fV with fN := (w64 (x2 + 1)) } } : T_impl_Mark)).set x3.toNat ({ v14 with fV := { v14.fV with fS := v12 } } : T_impl_Mark)).set x3.toNat ({ v16 with fKey := (w64 ((w64 ((w64 (x2 + 1)) + 1)) + 1)) } : T_impl_Mark))⟩] ?_
 refine opsP_ste (vs := [I (w64 ((w64 ((w64 ((w64 (x2 + 1)) + 1)) + 1)) + 1))]) τ_ok 3 0 0 4 ({ v18 with fBorn := (w64 ((w64 ((w64 ((w64 (x2 + 1)) + 1)) + 1)) + 1)) } : T_impl_Mark) hv19 (by kernel_rfl) (by kernel_rfl) (by kernel_rfl) (renC (ren_ref (List.length_set ..).symm) (renC trivial (renC trivial (renC trivial (renC trivial renC0))))) ?_
 refine ve 0 59 [(0, .ref 0 0 0 6 (((((x4.set x3.toNat ({ v8 with fV := { v8.fV with fKind := x2 } } : T_impl_Mark)).set x3.toNat ({ v10 with fV := { v10.fV with fN := (w64 (x2 + 1)) } } : T_impl_Mark)).set x3.toNat ({ v14 with fV := { v14.fV with fS := v12 } } : T_impl_Mark)).set x3.toNat ({ v16 with fKey := (w64 ((w64 ((w64 (x2 + 1)) + 1)) + 1)) } : T_impl_Mark)).set x3.toNat ({ v18 with fBorn := (w64 ((w64 ((w64 ((w64 (x2 + 1)) + 1)) + 1)) + 1)) } : T_impl_Mark)).length false), (1, I (w64 ((w64 ((w64 ((w64 (x2 + 1)) + 1)) + 1)) + 1))), (5, I x3)] [some ⟨0, eL (((((x4.set x3.toNat ({ v8 with fV := { v8.fV with fKind := x2 } } : T_impl_Mark)).set x3.toNat ({ v10 with fV := { v10.fV with fN := (w64 (x2 + 1)) } } : T_impl_Mark)).set x3.toNat ({ v14 with fV := { v14.fV with fS := v12 } } : T_impl_Mark)).set x3.toNat ({ v16 with fKey := (w64 ((w64 ((w64 (x2 + 1)) + 1)) + 1)) } : T_impl_Mark)).set x3.toNat ({ v18 with fBorn := (w64 ((w64 ((w64 ((w64 (x2 + 1)) + 1)) + 1)) + 1)) } : T_impl_Mark))⟩] ?_
 refine srve 59 [(0, .ref 0 0 0 6 (((((x4.set x3.toNat ({ v8 with fV := { v8.fV with fKind := x2 } } : T_impl_Mark)).set x3.toNat ({ v10 with fV := { v10.fV with fN := (w64 (x2 + 1)) } } : T_impl_Mark)).set x3.toNat ({ v14 with fV := { v14.fV with fS := v12 } } : T_impl_Mark)).set x3.toNat ({ v16 with fKey := (w64 ((w64 ((w64 (x2 + 1)) + 1)) + 1)) } : T_impl_Mark)).set x3.toNat ({ v18 with fBorn := (w64 ((w64 ((w64 ((w64 (x2 + 1)) + 1)) + 1)) + 1)) } : T_impl_Mark)).length false), (1, I (w64 ((w64 ((w64 ((w64 ((w64 (x2 + 1)) + 1)) + 1)) + 1)) + 1))), (5, I x3)] [some ⟨0, eL (((((x4.set x3.toNat ({ v8 with fV := { v8.fV with fKind := x2 } } : T_impl_Mark)).set x3.toNat ({ v10 with fV := { v10.fV with fN := (w64 (x2 + 1)) } } : T_impl_Mark)).set x3.toNat ({ v14 with fV := { v14.fV with fS := v12 } } : T_impl_Mark)).set x3.toNat ({ v16 with fKey := (w64 ((w64 ((w64 (x2 + 1)) + 1)) + 1)) } : T_impl_Mark)).set x3.toNat ({ v18 with fBorn := (w64 ((w64 ((w64 ((w64 (x2 + 1)) + 1)) + 1)) + 1)) } : T_impl_Mark))⟩] ?_
 refine srv 3 59 [(0, .ref 0 0 0 6 (((((x4.set x3.toNat ({ v8 with fV := { v8.fV with fKind := x2 } } : T_impl_Mark)).set x3.toNat ({ v10 with fV := { v10.fV with fN := (w64 (x2 + 1)) } } : T_impl_Mark)).set x3.toNat ({ v14 with fV := { v14.fV with fS := v12 } } : T_impl_Mark)).set x3.toNat ({ v16 with fKey := (w64 ((w64 ((w64 (x2 + 1)) + 1)) + 1)) } : T_impl_Mark)).set x3.toNat ({ v18 with fBorn := (w64 ((w64 ((w64 ((w64 (x2 + 1)) + 1)) + 1)) + 1)) } : T_impl_Mark)).length false), (1, I (w64 ((w64 ((w64 ((w64 ((w64 (x2 + 1)) + 1)) + 1)) + 1)) + 1))), (5, I x3), (51, .ref 0 0 0 6 (((((x4.set x3.toNat ({ v8 with fV := { v8.fV with fKind := x2 } } : T_impl_Mark)).set x3.toNat ({ v10 with fV := { v10.fV with fN := (w64 (x2 + 1)) } } : T_impl_Mark)).set x3.toNat ({ v14 with fV := { v14.fV with fS := v12 } } : T_impl_Mark)).set x3.toNat ({ v16 with fKey := (w64 ((w64 ((w64 (x2 + 1)) + 1)) + 1)) } : T_impl_Mark)).set x3.toNat ({ v18 with fBorn := (w64 ((w64 ((w64 ((w64 (x2 + 1)) + 1)) + 1)) + 1)) } : T_impl_Mark)).length false), (52, I x3), (53, I (w64 ((w64 ((w64 ((w64 ((w64 (x2 + 1)) + 1)) + 1)) + 1)) + 1)))] [some ⟨0, eL (((((x4.set x3.toNat ({ v8 with fV := { v8.fV with fKind := x2 } } : T_impl_Mark)).set x3.toNat ({ v10 with fV := { v10.fV with fN := (w64 (x2 + 1)) } } : T_impl_Mark)).set x3.toNat ({ v14 with fV := { v14.fV with fS := v12 } } : T_impl_Mark)).set x3.toNat ({ v16 with fKey := (w64 ((w64 ((w64 (x2 + 1)) + 1)) + 1)) } : T_impl_Mark)).set x3.toNat ({ v18 with fBorn := (w64 ((w64 ((w64 ((w64 (x2 + 1)) + 1)) + 1)) + 1)) } : T_impl_Mark))⟩] ?_
 obtain ⟨v20, hv21, h⟩ := bindS h
 refine opsP_idr τ_ok 54 0 0 (((((x4.set x3.toNat ({ v8 with fV := { v8.fV with fKind := x2 } } : T_impl_Mark)).set x3.toNat ({ v10 with fV := { v10.fV with fN := (w64 (x2 + 1)) } } : T_impl_Mark)).set x3.toNat ({ v14 with fV := { v14.fV with fS := v12 } } : T_impl_Mark)).set x3.toNat ({ v16 with fKey := (w64 ((w64 ((w64 (x2 + 1)) + 1)) + 1)) } : T_impl_Mark)).set x3.toNat ({ v18 with fBorn := (w64 ((w64 ((w64 ((w64 (x2 + 1)) + 1)) + 1)) + 1)) } : T_impl_Mark)).length hv21 rfl (by kernel_rfl) ?_
 refine v 1 59 [(0, .ref 0 0 0 6 (((((x4.set x3.toNat ({ v8 with fV := { v8.fV with fKind := x2 } } : T_impl_Mark)).set x3.toNat ({ v10 with fV := { v10.fV with fN := (w64 (x2 + 1)) } } : T_impl_Mark)).set x3.toNat ({ v14 with fV := { v14.fV with fS := v12 } } : T_impl_Mark)).set x3.toNat ({ v16 with fKey := (w64 ((w64 ((w64 (x2 + 1)) + 1)) + 1)) } : T_impl_Mark)).set x3.toNat ({ v18 with fBorn := (w64 ((w64 ((w64 ((w64 (x2 + 1)) + 1)) + 1)) + 1)) } : T_impl_Mark)).length false), (1, I (w64 ((w64 ((w64 ((w64 ((w64 (x2 + 1)) + 1)) + 1)) + 1)) + 1))), (5, I x3), (53, I (w64 ((w64 ((w64 ((w64 ((w64 (x2 + 1)) + 1)) + 1)) + 1)) + 1))), (55, .ptr 0 0 (x3.toNat * 6 + 5))] [some ⟨0, eL (((((x4.set x3.toNat ({ v8 with fV := { v8.fV with fKind := x2 } } : T_impl_Mark)).set x3.toNat ({ v10 with fV := { v10.fV with fN := (w64 (x2 + 1)) } } : T_impl_Mark)).set x3.toNat ({ v14 with fV := { v14.fV with fS := v12 } } : T_impl_Mark)).set x3.toNat ({ v16 with fKey := (w64 ((w64 ((w64 (x2 + 1)) + 1)) + 1)) } : T_impl_Mark)).set x3.toNat ({ v18 with fBorn := (w64 ((w64 ((w64 ((w64 (x2 + 1)) + 1)) + 1)) + 1)) } : T_impl_Mark))⟩] ?_
 refine opsP_ste (vs := [I (w64 ((w64 ((w64 ((w64 ((w64 (x2 + 1)) + 1)) + 1)) + 1)) + 1))]) τ_ok 3 0 0 5 ({ v20 with fDied := (w64 ((w64 ((w64 ((w64 ((w64 (x2 + 1)) + 1)) + 1)) + 1)) + 1)) } : T_impl_Mark) hv21 (by kernel_rfl) (by kernel_rfl) (by kernel_rfl) (renC (ren_ref (List.length_set ..).symm) (renC trivial (renC trivial (renC trivial (renC trivial renC0))))) ?_
 refine ve 0 59 [(0, .ref 0 0 0 6 ((((((x4.set x3.toNat ({ v8 with fV := { v8.fV with fKind := x2 } } : T_impl_Mark)).set x3.toNat ({ v10 with fV := { v10.fV with fN := (w64 (x2 + 1)) } } : T_impl_Mark)).set x3.toNat ({ v14 with fV := { v14.fV with fS := v12 } } : T_impl_Mark)).set x3.toNat ({ v16 with fKey := (w64 ((w64 ((w64 (x2 + 1)) + 1)) + 1)) } : T_impl_Mark)).set x3.toNat ({ v18 with fBorn := (w64 ((w64 ((w64 ((w64 (x2 + 1)) + 1)) + 1)) + 1)) } : T_impl_Mark)).set x3.toNat ({ v20 with fDied := (w64 ((w64 ((w64 ((w64 ((w64 (x2 + 1)) + 1)) + 1)) + 1)) + 1)) } : T_impl_Mark)).length false), (1, I (w64 ((w64 ((w64 ((w64 ((w64 (x2 + 1)) + 1)) + 1)) + 1)) + 1))), (5, I x3)] [some ⟨0, eL ((((((x4.set x3.toNat ({ v8 with fV := { v8.fV with fKind := x2 } } : T_impl_Mark)).set x3.toNat ({ v10 with fV := { v10.fV with fN := (w64 (x2 + 1)) } } : T_impl_Mark)).set x3.toNat ({ v14 with fV := { v14.fV with fS := v12 } } : T_impl_Mark)).set x3.toNat ({ v16 with fKey := (w64 ((w64 ((w64 (x2 + 1)) + 1)) + 1)) } : T_impl_Mark)).set x3.toNat ({ v18 with fBorn := (w64 ((w64 ((w64 ((w64 (x2 + 1)) + 1)) + 1)) + 1)) } : T_impl_Mark)).set x3.toNat ({ v20 with fDied := (w64 ((w64 ((w64 ((w64 ((w64 (x2 + 1)) + 1)) + 1)) + 1)) + 1)) } : T_impl_Mark))⟩] ?_
 refine rve 59 [(0, .ref 0 0 0 6 ((((((x4.set x3.toNat ({ v8 with fV := { v8.fV with fKind := x2 } } : T_impl_Mark)).set x3.toNat ({ v10 with fV := { v10.fV with fN := (w64 (x2 + 1)) } } : T_impl_Mark)).set x3.toNat ({ v14 with fV := { v14.fV with fS := v12 } } : T_impl_Mark)).set x3.toNat ({ v16 with fKey := (w64 ((w64 ((w64 (x2 + 1)) + 1)) + 1)) } : T_impl_Mark)).set x3.toNat ({ v18 with fBorn := (w64 ((w64 ((w64 ((w64 (x2 + 1)) + 1)) + 1)) + 1)) } : T_impl_Mark)).set x3.toNat ({ v20 with fDied := (w64 ((w64 ((w64 ((w64 ((w64 (x2 + 1)) + 1)) + 1)) + 1)) + 1)) } : T_impl_Mark)).length false), (1, I (w64 ((w64 ((w64 ((w64 ((w64 ((w64 (x2 + 1)) + 1)) + 1)) + 1)) + 1)) + 1))), (5, I x3)] [some ⟨0, eL ((((((x4.set x3.toNat ({ v8 with fV := { v8.fV with fKind := x2 } } : T_impl_Mark)).set x3.toNat ({ v10 with fV := { v10.fV with fN := (w64 (x2 + 1)) } } : T_impl_Mark)).set x3.toNat ({ v14 with fV := { v14.fV with fS := v12 } } : T_impl_Mark)).set x3.toNat ({ v16 with fKey := (w64 ((w64 ((w64 (x2 + 1)) + 1)) + 1)) } : T_impl_Mark)).set x3.toNat ({ v18 with fBorn := (w64 ((w64 ((w64 ((w64 (x2 + 1)) + 1)) + 1)) + 1)) } : T_impl_Mark)).set x3.toNat ({ v20 with fDied := (w64 ((w64 ((w64 ((w64 ((w64 (x2 + 1)) + 1)) + 1)) + 1)) + 1)) } : T_impl_Mark))⟩] ?_
 refine rve 59 [(0, .ref 0 0 0 6 ((((((x4.set x3.toNat ({ v8 with fV := { v8.fV with fKind := x2 } } : T_impl_Mark)).set x3.toNat ({ v10 with fV := { v10.fV with fN := (w64 (x2 + 1)) } } : T_impl_Mark)).set x3.toNat ({ v14 with fV := { v14.fV with fS := v12 } } : T_impl_Mark)).set x3.toNat ({ v16 with fKey := (w64 ((w64 ((w64 (x2 + 1)) + 1)) + 1)) } : T_impl_Mark)).set x3.toNat ({ v18 with fBorn := (w64 ((w64 ((w64 ((w64 (x2 + 1)) + 1)) + 1)) + 1)) } : T_impl_Mark)).set x3.toNat ({ v20 with fDied := (w64 ((w64 ((w64 ((w64 ((w64 (x2 + 1)) + 1)) + 1)) + 1)) + 1)) } : T_impl_Mark)).length false), (1, I (w64 ((w64 ((w64 ((w64 ((w64 ((w64 (x2 + 1)) + 1)) + 1)) + 1)) + 1)) + 1))), (5, I (w64 (x3 + 1)))] [some ⟨0, eL ((((((x4.set x3.toNat ({ v8 with fV := { v8.fV with fKind := x2 } } : T_impl_Mark)).set x3.toNat ({ v10 with fV := { v10.fV with fN := (w64 (x2 + 1)) } } : T_impl_Mark)).set x3.toNat ({ v14 with fV := { v14.fV with fS := v12 } } : T_impl_Mark)).set x3.toNat ({ v16 with fKey := (w64 ((w64 ((w64 (x2 + 1)) + 1)) + 1)) } : T_impl_Mark)).set x3.toNat ({ v18 with fBorn := (w64 ((w64 ((w64 ((w64 (x2 + 1)) + 1)) + 1)) + 1)) } : T_impl_Mark)).set x3.toNat ({ v20 with fDied := (w64 ((w64 ((w64 ((w64 ((w64 (x2 + 1)) + 1)) + 1)) + 1)) + 1)) } : T_impl_Mark))⟩] ?_
 exact ⟨(f5, (w64 ((w64 ((w64 ((w64 ((w64 ((w64 (x2 + 1)) + 1)) + 1)) + 1)) + 1)) + 1)), (w64 (x3 + 1)), ((((((x4.set x3.toNat ({ v8 with fV := { v8.fV with fKind := x2 } } : T_impl_Mark)).set x3.toNat ({ v10 with fV := { v10.fV with fN := (w64 (x2 + 1)) } } : T_impl_Mark)).set x3.toNat ({ v14 with fV := { v14.fV with fS := v12 } } : T_impl_Mark)).set x3.toNat ({ v16 with fKey := (w64 ((w64 ((w64 (x2 + 1)) + 1)) + 1)) } : T_impl_Mark)).set x3.toNat ({ v18 with fBorn := (w64 ((w64 ((w64 ((w64 (x2 + 1)) + 1)) + 1)) + 1)) } : T_impl_Mark)).set x3.toNat ({ v20 with fDied := (w64 ((w64 ((w64 ((w64 ((w64 (x2 + 1)) + 1)) + 1)) + 1)) + 1)) } : T_impl_Mark))), h, Nat.lt_succ_self _, it [0, 1, 5]⟩
 refine pwp_exit ?_
 refine srve 59 [(4, I x2)] [sl 0 x4] ?_
 have h := si h
 subst h
 exact pwp_ret ⟨.inr rfl, 0, by kernel_rfl, by kernel_rfl⟩
def laws_heldMarkS_l0 (a0 : List T_impl_Mark) : Nat → Int → Int → Option Int
 | 0, _, _ => none
 | f3 + 1, x1, x2 => bif (decide (x2 < (a0.length : Int))) then (getI a0 x2).bind fun v6 => bif (!(v6.fV.fKind == x1)) then some (-1) else (getI a0 x2).bind fun v9 => bif (!(v9.fV.fN == (w64 (x1 + 1)))) then some (-1) else (getI a0 x2).bind fun v12 => (laws_markText (w64 ((w64 (x1 + 1)) + 1))).bind fun v14 => bif (!(v12.fV.fS.toList == v14.toList)) then some (-1) else (getI a0 x2).bind fun v17 => bif (!(v17.fKey == (w64 ((w64 ((w64 (x1 + 1)) + 1)) + 1)))) then some (-1) else (getI a0 x2).bind fun v20 => bif (!(v20.fBorn == (w64 ((w64 ((w64 ((w64 (x1 + 1)) + 1)) + 1)) + 1)))) then some (-1) else (getI a0 x2).bind fun v23 => bif (!(v23.fDied == (w64 ((w64 ((w64 ((w64 ((w64 (x1 + 1)) + 1)) + 1)) + 1)) + 1)))) then some (-1) else (laws_heldMarkS_l0 a0 f3) (w64 ((w64 ((w64 ((w64 ((w64 ((w64 (x1 + 1)) + 1)) + 1)) + 1)) + 1)) + 1)) (w64 (x2 + 1)) else some x1
def laws_heldMarkS (a0 : List T_impl_Mark) (a1 : Int) : Option Int := laws_heldMarkS_l0 a0 FUEL a1 0
theorem ok_laws_heldMarkS {a0 : List T_impl_Mark} {a1 : Int} {y : Int} (h : laws_heldMarkS a0 a1 = some y) : OK Try.prog 15 [A a0, I a1] (I y) := by
 refine ow Try.func15 fun Γ hX => ?_
 unfold laws_heldMarkS at h
 refine srve 71 [(0, A a0), (1, I a1)] [] ?_
 refine pwp_seq ?_
 refine srve 71 [(0, A a0), (1, I a1), (5, I 0)] [] ?_
 refine pwp_block ?_
 refine pwp_loop (ι := Nat × Int × Int) (fun (f3, x1, x2) => (⟨71, [(0, A a0), (1, I x1), (5, I x2)], []⟩ : St)) (fun (f3, x1, x2) => laws_heldMarkS_l0 a0 f3 x1 x2 = some y) Prod.fst (FUEL, a1, 0) h (it [0, 1, 5]) ?_
 rintro ⟨f3, x1, x2⟩ h
 dsimp only at h ⊢
 rcases f3 with _ | f3
 cases h
 rw [laws_heldMarkS_l0] at h
 refine pwp_seq ?_
 refine srve 71 [(0, A a0), (1, I x1), (5, I x2), (9, B (decide (x2 < (a0.length : Int))))] [] ?_
 refine pc h (fun h => ?_) (fun h => ?_)
 refine pwp_skip ?_
 refine pwp_seq ?_
 refine pwp_block ?_
 refine pwp_seq ?_
 refine srv 2 71 [(0, A a0), (1, I x1), (5, I x2), (12, A a0), (13, I x2)] [] ?_
 obtain ⟨v6, hv7, h⟩ := bindS h
 refine opsP_idx τ_ok 14 hv7 (by kernel_rfl) ?_
 refine ve 5 71 [(0, A a0), (1, I x1), (5, I x2), (19, B (!(v6.fV.fKind == x1)))] [] ?_
 refine pc h (fun h => ?_) (fun h => ?_)
 refine srve 71 [(4, I (-1))] [] ?_
 cases h
 exact pwp_ret rz
 refine pwp_skip ?_
 refine srve 71 [(0, A a0), (1, I (w64 (x1 + 1))), (5, I x2)] [] ?_
 refine pwp_seq ?_
 refine srv 2 71 [(0, A a0), (1, I (w64 (x1 + 1))), (5, I x2), (22, A a0), (23, I x2)] [] ?_
 obtain ⟨v9, hv10, h⟩ := bindS h
 refine opsP_idx τ_ok 24 hv10 (by kernel_rfl) ?_
 refine ve 5 71 [(0, A a0), (1, I (w64 (x1 + 1))), (5, I x2), (29, B (!(v9.fV.fN == (w64 (x1 + 1)))))] [] ?_
 refine pc h (fun h => ?_) (fun h => ?_)
 refine srve 71 [(4, I (-1))] [] ?_
 cases h
 exact pwp_ret rz
 refine pwp_skip ?_
 refine srve 71 [(0, A a0), (1, I (w64 ((w64 (x1 + 1)) + 1))), (5, I x2)] [] ?_
 refine pwp_seq ?_
 refine pwp_seq ?_
 refine ip 71 [(0, A a0), (1, I (w64 ((w64 (x1 + 1)) + 1))), (5, I x2)] [] ?_
 refine pN 9 ?_
 refine qv [] trivial 2 71 [(33, I x2), (32, A a0), (0, A a0), (1, I (w64 ((w64 (x1 + 1)) + 1))), (5, I x2)] [] ?_
 obtain ⟨v12, hv13, h⟩ := bindS h
 refine qX (some 34) (pf v12 0) 71 [(34, pf v12 0), (0, A a0), (1, I (w64 ((w64 (x1 + 1)) + 1))), (5, I x2)] [] (fun Γ' hΓ => CoreE.of_y (idxV_sound τ_ok (by kernel_rfl) hv13)) trivial ?_
 refine qv [] trivial 4 71 [(38, I (w64 ((w64 (x1 + 1)) + 1))), (37, S v12.fV.fS), (0, A a0), (1, I (w64 ((w64 (x1 + 1)) + 1))), (5, I x2)] [] ?_
 obtain ⟨v14, hv15, h⟩ := bindS h
 refine qX (some 39) (S v14) 71 [(39, S v14), (37, S v12.fV.fS), (0, A a0), (1, I (w64 ((w64 (x1 + 1)) + 1))), (5, I x2)] [] (fun Γ' hΓ => CoreE.of_g (callV_sound (τ := τ) (by kernel_rfl) rfl (ok_laws_markText hv15) (FzTo.frz rfl))) trivial ?_
 refine qvn [] trivial 1 71 [(0, A a0), (1, I (w64 ((w64 (x1 + 1)) + 1))), (5, I x2), (40, B (!(v12.fV.fS.toList == v14.toList)))] [] ?_
 refine pc h (fun h => ?_) (fun h => ?_)
 refine srve 71 [(4, I (-1))] [] ?_
 cases h
 exact pwp_ret rz
 refine pwp_skip ?_
 refine srve 71 [(0, A a0), (1, I (w64 ((w64 ((w64 (x1 + 1)) + 1)) + 1))), (5, I x2)] [] ?_
 refine pwp_seq ?_
 refine srv 2 71 [(0, A a0), (1, I (w64 ((w64 ((w64 (x1 + 1)) + 1)) + 1))), (5, I x2), (43, A a0), (44, I x2)] [] ?_
 obtain ⟨v17, hv18, h⟩ := bindS h
 refine opsP_idx τ_ok 45 hv18 (by kernel_rfl) ?_
 refine ve 4 71 [(0, A a0), (1, I (w64 ((w64 ((w64 (x1 + 1)) + 1)) + 1))), (5, I x2), (49, B (!(v17.fKey == (w64 ((w64 ((w64 (x1 + 1)) + 1)) + 1)))))] [] ?_
 refine pc h (fun h => ?_) (fun h => ?_)
 refine srve 71 [(4, I (-1))] [] ?_
 cases h
 exact pwp_ret rz
 refine pwp_skip ?_
 refine srve 71 [(0, A a0), (1, I (w64 ((w64 ((w64 ((w64 (x1 + 1)) + 1)) + 1)) + 1))), (5, I x2)] [] ?_
 refine pwp_seq ?_
 refine srv 2 71 [(0, A a0), (1, I (w64 ((w64 ((w64 ((w64 (x1 + 1)) + 1)) + 1)) + 1))), (5, I x2), (52, A a0), (53, I x2)] [] ?_
 obtain ⟨v20, hv21, h⟩ := bindS h
 refine opsP_idx τ_ok 54 hv21 (by kernel_rfl) ?_
 refine ve 4 71 [(0, A a0), (1, I (w64 ((w64 ((w64 ((w64 (x1 + 1)) + 1)) + 1)) + 1))), (5, I x2), (58, B (!(v20.fBorn == (w64 ((w64 ((w64 ((w64 (x1 + 1)) + 1)) + 1)) + 1)))))] [] ?_
 refine pc h (fun h => ?_) (fun h => ?_)
 refine srve 71 [(4, I (-1))] [] ?_
 cases h
 exact pwp_ret rz
 refine pwp_skip ?_
 refine srve 71 [(0, A a0), (1, I (w64 ((w64 ((w64 ((w64 ((w64 (x1 + 1)) + 1)) + 1)) + 1)) + 1))), (5, I x2)] [] ?_
 refine pwp_seq ?_
 refine srv 2 71 [(0, A a0), (1, I (w64 ((w64 ((w64 ((w64 ((w64 (x1 + 1)) + 1)) + 1)) + 1)) + 1))), (5, I x2), (61, A a0), (62, I x2)] [] ?_
 obtain ⟨v23, hv24, h⟩ := bindS h
 refine opsP_idx τ_ok 63 hv24 (by kernel_rfl) ?_
 refine ve 4 71 [(0, A a0), (1, I (w64 ((w64 ((w64 ((w64 ((w64 (x1 + 1)) + 1)) + 1)) + 1)) + 1))), (5, I x2), (67, B (!(v23.fDied == (w64 ((w64 ((w64 ((w64 ((w64 (x1 + 1)) + 1)) + 1)) + 1)) + 1)))))] [] ?_
 refine pc h (fun h => ?_) (fun h => ?_)
 refine srve 71 [(4, I (-1))] [] ?_
 cases h
 exact pwp_ret rz
 refine pwp_skip ?_
 refine rve 71 [(0, A a0), (1, I (w64 ((w64 ((w64 ((w64 ((w64 ((w64 (x1 + 1)) + 1)) + 1)) + 1)) + 1)) + 1))), (5, I x2)] [] ?_
 refine rve 71 [(0, A a0), (1, I (w64 ((w64 ((w64 ((w64 ((w64 ((w64 (x1 + 1)) + 1)) + 1)) + 1)) + 1)) + 1))), (5, I (w64 (x2 + 1)))] [] ?_
 exact ⟨(f3, (w64 ((w64 ((w64 ((w64 ((w64 ((w64 (x1 + 1)) + 1)) + 1)) + 1)) + 1)) + 1)), (w64 (x2 + 1))), h, Nat.lt_succ_self _, it [0, 1, 5]⟩
 refine pwp_exit ?_
 refine srve 71 [(4, I x1)] [] ?_
 cases h
 exact pwp_ret rz
def laws_eqMark (a0 : T_impl_Mark) (a1 : T_impl_Mark) : Option Bool := (laws_eqValue a0.fV a1.fV).bind fun v1 => bif (!v1) then some false else bif (!(a0.fKey == a1.fKey)) then some false else bif (!(a0.fBorn == a1.fBorn)) then some false else bif (!(a0.fDied == a1.fDied)) then some false else some true
theorem ok_laws_eqMark {a0 : T_impl_Mark} {a1 : T_impl_Mark} {y : Bool} (h : laws_eqMark a0 a1 = some y) : OK Try.prog 42 [E a0, E a1] (B y) := by
 refine ow Try.func42 fun Γ hX => ?_
 unfold laws_eqMark at h
 refine srve 26 [(2, pf a0 0), (3, pf a1 0)] [] ?_
 refine pwp_seq ?_
 refine srv 4 26 [(2, pf a0 0), (3, pf a1 0), (6, E a0.fV), (8, E a1.fV)] [] ?_
 obtain ⟨v1, hv2, h⟩ := bindS h
 refine cF 9 (ok_laws_eqValue hv2) ?_
 refine ve 1 26 [(2, pf a0 0), (3, pf a1 0), (10, B (!v1))] [] ?_
 refine pc h (fun h => ?_) (fun h => ?_)
 refine srve 26 [(4, B false)] [] ?_
 cases h
 exact pwp_ret rz
 refine pwp_skip ?_
 refine pwp_seq ?_
 refine srve 26 [(2, pf a0 0), (3, pf a1 0), (15, B (!(a0.fKey == a1.fKey)))] [] ?_
 refine pc h (fun h => ?_) (fun h => ?_)
 refine srve 26 [(4, B false)] [] ?_
 cases h
 exact pwp_ret rz
 refine pwp_skip ?_
 refine pwp_seq ?_
 refine srve 26 [(2, pf a0 0), (3, pf a1 0), (20, B (!(a0.fBorn == a1.fBorn)))] [] ?_
 refine pc h (fun h => ?_) (fun h => ?_)
 refine srve 26 [(4, B false)] [] ?_
 cases h
 exact pwp_ret rz
 refine pwp_skip ?_
 refine pwp_seq ?_
 refine srve 26 [(25, B (!(a0.fDied == a1.fDied)))] [] ?_
 refine pc h (fun h => ?_) (fun h => ?_)
 refine srve 26 [(4, B false)] [] ?_
 cases h
 exact pwp_ret rz
 refine pwp_skip ?_
 refine srve 26 [(4, B true)] [] ?_
 cases h
 exact pwp_ret rz
def laws_eqVersion (a0 : T_impl_Version) (a1 : T_impl_Version) : Option Bool := bif (!(a0.fKey == a1.fKey)) then some false else bif (!(a0.fBorn == a1.fBorn)) then some false else bif (!(a0.fDied == a1.fDied)) then some false else (laws_eqValueS a0.fRow a1.fRow).bind fun v4 => bif (!v4) then some false else some true
theorem ok_laws_eqVersion {a0 : T_impl_Version} {a1 : T_impl_Version} {y : Bool} (h : laws_eqVersion a0 a1 = some y) : OK Try.prog 43 [E a0, E a1] (B y) := by
 refine ow Try.func43 fun Γ hX => ?_
 unfold laws_eqVersion at h
 refine srve 26 [(2, pf a0 0), (3, pf a1 0)] [] ?_
 refine pwp_seq ?_
 refine srve 26 [(2, pf a0 0), (3, pf a1 0), (9, B (!(a0.fKey == a1.fKey)))] [] ?_
 refine pc h (fun h => ?_) (fun h => ?_)
 refine srve 26 [(4, B false)] [] ?_
 cases h
 exact pwp_ret rz
 refine pwp_skip ?_
 refine pwp_seq ?_
 refine srve 26 [(2, pf a0 0), (3, pf a1 0), (14, B (!(a0.fBorn == a1.fBorn)))] [] ?_
 refine pc h (fun h => ?_) (fun h => ?_)
 refine srve 26 [(4, B false)] [] ?_
 cases h
 exact pwp_ret rz
 refine pwp_skip ?_
 refine pwp_seq ?_
 refine srve 26 [(2, pf a0 0), (3, pf a1 0), (19, B (!(a0.fDied == a1.fDied)))] [] ?_
 refine pc h (fun h => ?_) (fun h => ?_)
 refine srve 26 [(4, B false)] [] ?_
 cases h
 exact pwp_ret rz
 refine pwp_skip ?_
 refine pwp_seq ?_
 refine srv 4 26 [(21, A a0.fRow), (23, A a1.fRow)] [] ?_
 obtain ⟨v4, hv5, h⟩ := bindS h
 refine cF 24 (ok_laws_eqValueS hv5) ?_
 refine ve 1 26 [(25, B (!v4))] [] ?_
 refine pc h (fun h => ?_) (fun h => ?_)
 refine srve 26 [(4, B false)] [] ?_
 cases h
 exact pwp_ret rz
 refine pwp_skip ?_
 refine srve 26 [(4, B true)] [] ?_
 cases h
 exact pwp_ret rz
def laws_markValueS_l0 : Nat → Int → Int → (List T_impl_Value) → Option (Int × List T_impl_Value)
 | 0, _, _, _ => none
 | f5 + 1, x2, x3, x4 => bif (decide (x3 < (x4.length : Int))) then (getI x4 x3).bind fun v8 => (getI (x4.set x3.toNat ({ v8 with fKind := x2 } : T_impl_Value)) x3).bind fun v10 => (laws_markText (w64 ((w64 (x2 + 1)) + 1))).bind fun v12 => (getI ((x4.set x3.toNat ({ v8 with fKind := x2 } : T_impl_Value)).set x3.toNat ({ v10 with fN := (w64 (x2 + 1)) } : T_impl_Value)) x3).bind fun v14 => (laws_markValueS_l0 f5) (w64 ((w64 ((w64 (x2 + 1)) + 1)) + 1)) (w64 (x3 + 1)) (((x4.set x3.toNat ({ v8 with fKind := x2 } : T_impl_Value)).set x3.toNat ({ v10 with fN := (w64 (x2 + 1)) } : T_impl_Value)).set x3.toNat ({ v14 with fS := v12 } : T_impl_Value)) else some (x2, x4)
def laws_markValueS (a0 : List T_impl_Value) (a1 : Int) : Option (Int × List T_impl_Value) := laws_markValueS_l0 FUEL a1 0 a0
theorem len_laws_markValueS_l0 : ∀ (f5 : Nat) (x2 : Int) (x3 : Int) (x4 : List T_impl_Value) (y : Int × List T_impl_Value), laws_markValueS_l0 f5 x2 x3 x4 = some y → y.2.length = x4.length
 | 0, _, _, _, _, h => by cases h
 | f5 + 1, x2, x3, x4, y, h => by
  rw [laws_markValueS_l0] at h
  rcases condS h with h | h
  ·obtain ⟨_, _, h⟩ := bindS h
   obtain ⟨_, _, h⟩ := bindS h
   obtain ⟨_, _, h⟩ := bindS h
   obtain ⟨_, _, h⟩ := bindS h
   have h2 := len_laws_markValueS_l0 f5 _ _ _ _ h
   simp only [List.length_set] at h2
   exact h2
  ·cases h; rfl
theorem len_laws_markValueS {a0 : List T_impl_Value} {a1 : Int} {y : Int × List T_impl_Value} (h : laws_markValueS a0 a1 = some y) : y.2.length = a0.length := by
 unfold laws_markValueS at h
 exact len_laws_markValueS_l0 _ _ _ _ _ h
theorem ok_laws_markValueS {a0 : List T_impl_Value} {a1 : Int} {y : Int × List T_impl_Value} (h : laws_markValueS a0 a1 = some y) : OKd Try.prog 44 3 a0.length (eL a0) [I a1] (.int .i64 y.1) (eL y.2) := by
 refine OKd_of_pwp τ_ok Try.func44 rfl (by kernel_rfl) rfl (O_oc _) (O_oc _) (BlindL.lits (eL_lit DFlat.lit _)) (BlindL.lits (eL_lit DFlat.lit _)) rfl (fun hl => by rw [eL_len, len_laws_markValueS h, ← eL_len]; exact hl) fun Γ hQ => ?_
 refine pwp_imp (Imp.to (st' := ⟨35, [(0, rf 0 0 3 a0), (1, I a1)], [sl 0 a0]⟩) [0, 1] (by kernel_rfl)) ?_
 unfold laws_markValueS at h
 refine srve 35 [(0, rf 0 0 3 a0), (1, I a1)] [sl 0 a0] ?_
 refine pwp_seq ?_
 refine srve 35 [(0, rf 0 0 3 a0), (1, I a1), (5, I 0)] [sl 0 a0] ?_
 refine pwp_block ?_
 refine pwp_loop (ι := Nat × Int × Int × (List T_impl_Value)) (fun (f5, x2, x3, x4) => (⟨35, [(0, rf 0 0 3 x4), (1, I x2), (5, I x3)], [sl 0 x4]⟩ : St)) (fun (f5, x2, x3, x4) => laws_markValueS_l0 f5 x2 x3 x4 = some y) Prod.fst (FUEL, a1, 0, a0) h (it [0, 1, 5]) ?_
 rintro ⟨f5, x2, x3, x4⟩ h
 dsimp only at h ⊢
 rcases f5 with _ | f5
 cases h
 rw [laws_markValueS_l0] at h
 refine pwp_seq ?_
 refine srve 35 [(0, rf 0 0 3 x4), (1, I x2), (5, I x3), (9, B (decide (x3 < (x4.length : Int))))] [sl 0 x4] ?_
 refine pc h (fun h => ?_) (fun h => ?_)
 refine pwp_skip ?_
 refine pwp_seq ?_
 refine pwp_block ?_
 refine srv 3 35 [(0, rf 0 0 3 x4), (1, I x2), (5, I x3), (12, rf 0 0 3 x4), (13, I x3), (14, I x2)] [sl 0 x4] ?_
 obtain ⟨v8, hv9, h⟩ := bindS h
 refine opsP_idr τ_ok 15 0 0 x4.length hv9 rfl (by kernel_rfl) ?_
 refine v 1 35 [(0, rf 0 0 3 x4), (1, I x2), (5, I x3), (14, I x2), (16, .ptr 0 0 (x3.toNat * 3))] [sl 0 x4] ?_
 refine opsP_ste (vs := [I x2]) τ_ok 3 0 0 0 ({ v8 with fKind := x2 } : T_impl_Value) hv9 (by kernel_rfl) (by kernel_rfl) (by kernel_rfl) (renC (ren_ref (List.length_set ..).symm) (renC trivial (renC trivial (renC trivial (renC trivial renC0))))) ?_
 refine ve 0 35 [(0, .ref 0 0 0 3 (x4.set x3.toNat ({ v8 with fKind := x2 } : T_impl_Value)).length false), (1, I x2), (5, I x3)] [some ⟨0, eL (x4.set x3.toNat ({ v8 with fKind := x2 } : T_impl_Value))⟩] ?_
 refine srve 35 [(0, .ref 0 0 0 3 (x4.set x3.toNat ({ v8 with fKind := x2 } : T_impl_Value)).length false), (1, I (w64 (x2 + 1))), (5, I x3)] [some ⟨0, eL (x4.set x3.toNat ({ v8 with fKind := x2 } : T_impl_Value))⟩] ?_
 refine srv 3 35 [(0, .ref 0 0 0 3 (x4.set x3.toNat ({ v8 with fKind := x2 } : T_impl_Value)).length false), (1, I (w64 (x2 + 1))), (5, I x3), (19, .ref 0 0 0 3 (x4.set x3.toNat ({ v8 with fKind := x2 } : T_impl_Value)).length false), (20, I x3), (21, I (w64 (x2 + 1)))] [some ⟨0, eL (x4.set x3.toNat ({ v8 with fKind := x2 } : T_impl_Value))⟩] ?_
 obtain ⟨v10, hv11, h⟩ := bindS h
 refine opsP_idr τ_ok 22 0 0 (x4.set x3.toNat ({ v8 with fKind := x2 } : T_impl_Value)).length hv11 rfl (by kernel_rfl) ?_
 refine v 1 35 [(0, .ref 0 0 0 3 (x4.set x3.toNat ({ v8 with fKind := x2 } : T_impl_Value)).length false), (1, I (w64 (x2 + 1))), (5, I x3), (21, I (w64 (x2 + 1))), (23, .ptr 0 0 (x3.toNat * 3 + 1))] [some ⟨0, eL (x4.set x3.toNat ({ v8 with fKind := x2 } : T_impl_Value))⟩] ?_
 refine opsP_ste (vs := [I (w64 (x2 + 1))]) τ_ok 3 0 0 1 ({ v10 with fN := (w64 (x2 + 1)) } : T_impl_Value) hv11 (by kernel_rfl) (by kernel_rfl) (by kernel_rfl) (renC (ren_ref (List.length_set ..).symm) (renC trivial (renC trivial (renC trivial (renC trivial renC0))))) ?_
 refine ve 0 35 [(0, .ref 0 0 0 3 ((x4.set x3.toNat ({ v8 with fKind := x2 } : T_impl_Value)).set x3.toNat ({ v10 with fN := (w64 (x2 + 1)) } : T_impl_Value)).length false), (1, I (w64 (x2 + 1))), (5, I x3)] [some ⟨0, eL ((x4.set x3.toNat ({ v8 with fKind := x2 } : T_impl_Value)).set x3.toNat ({ v10 with fN := (w64 (x2 + 1)) } : T_impl_Value))⟩] ?_
 refine srve 35 [(0, .ref 0 0 0 3 ((x4.set x3.toNat ({ v8 with fKind := x2 } : T_impl_Value)).set x3.toNat ({ v10 with fN := (w64 (x2 + 1)) } : T_impl_Value)).length false), (1, I (w64 ((w64 (x2 + 1)) + 1))), (5, I x3)] [some ⟨0, eL ((x4.set x3.toNat ({ v8 with fKind := x2 } : T_impl_Value)).set x3.toNat ({ v10 with fN := (w64 (x2 + 1)) } : T_impl_Value))⟩] ?_
 refine srv 3 35 [(0, .ref 0 0 0 3 ((x4.set x3.toNat ({ v8 with fKind := x2 } : T_impl_Value)).set x3.toNat ({ v10 with fN := (w64 (x2 + 1)) } : T_impl_Value)).length false), (1, I (w64 ((w64 (x2 + 1)) + 1))), (5, I x3), (26, .ref 0 0 0 3 ((x4.set x3.toNat ({ v8 with fKind := x2 } : T_impl_Value)).set x3.toNat ({ v10 with fN := (w64 (x2 + 1)) } : T_impl_Value)).length false), (27, I x3), (28, I (w64 ((w64 (x2 + 1)) + 1)))] [some ⟨0, eL ((x4.set x3.toNat ({ v8 with fKind := x2 } : T_impl_Value)).set x3.toNat ({ v10 with fN := (w64 (x2 + 1)) } : T_impl_Value))⟩] ?_
 obtain ⟨v12, hv13, h⟩ := bindS h
 refine cF 29 (ok_laws_markText hv13) ?_
 obtain ⟨v14, hv15, h⟩ := bindS h
 refine opsP_idr τ_ok 30 0 0 ((x4.set x3.toNat ({ v8 with fKind := x2 } : T_impl_Value)).set x3.toNat ({ v10 with fN := (w64 (x2 + 1)) } : T_impl_Value)).length hv15 rfl (by kernel_rfl) ?_
 refine v 1 35 [(0, .ref 0 0 0 3 ((x4.set x3.toNat ({ v8 with fKind := x2 } : T_impl_Value)).set x3.toNat ({ v10 with fN := (w64 (x2 + 1)) } : T_impl_Value)).length false), (1, I (w64 ((w64 (x2 + 1)) + 1))), (5, I x3), (29, S v12), (31, .ptr 0 0 (x3.toNat * 3 + 2))] [some ⟨0, eL ((x4.set x3.toNat ({ v8 with fKind := x2 } : T_impl_Value)).set x3.toNat ({ v10 with fN := (w64 (x2 + 1)) } : T_impl_Value))⟩] ?_
 refine opsP_ste (vs := [S v12]) τ_ok 9 0 0 2 ({ v14 with fS := v12 } : T_impl_Value) hv15 (by kernel_rfl) (by kernel_rfl) (by kernel_rfl) (renC (ren_ref (List.length_set ..).symm) (renC trivial (renC trivial (renC trivial (renC trivial renC0))))) ?_
 refine ve 0 35 [(0, .ref 0 0 0 3 (((x4.set x3.toNat ({ v8 with fKind := x2 } : T_impl_Value)).set x3.toNat ({ v10 with fN := (w64 (x2 + 1)) } : T_impl_Value)).set x3.toNat ({ v14 with fS := v12 } : T_impl_Value)).length false), (1, I (w64 ((w64 (x2 + 1)) + 1))), (5, I x3)] [some ⟨0, eL (((x4.set x3.toNat ({ v8 with fKind := x2 } : T_impl_Value)).set x3.toNat ({ v10 with fN := (w64 (x2 + 1)) } : T_impl_Value)).set x3.toNat ({ v14 with fS := v12 } : T_impl_Value))⟩] ?_
 refine rve 35 [(0, .ref 0 0 0 3 (((x4.set x3.toNat ({ v8 with fKind := x2 } : T_impl_Value)).set x3.toNat ({ v10 with fN := (w64 (x2 + 1)) } : T_impl_Value)).set x3.toNat ({ v14 with fS := v12 } : T_impl_Value)).length false), (1, I (w64 ((w64 ((w64 (x2 + 1)) + 1)) + 1))), (5, I x3)] [some ⟨0, eL (((x4.set x3.toNat ({ v8 with fKind := x2 } : T_impl_Value)).set x3.toNat ({ v10 with fN := (w64 (x2 + 1)) } : T_impl_Value)).set x3.toNat ({ v14 with fS := v12 } : T_impl_Value))⟩] ?_
 refine rve 35 [(0, .ref 0 0 0 3 (((x4.set x3.toNat ({ v8 with fKind := x2 } : T_impl_Value)).set x3.toNat ({ v10 with fN := (w64 (x2 + 1)) } : T_impl_Value)).set x3.toNat ({ v14 with fS := v12 } : T_impl_Value)).length false), (1, I (w64 ((w64 ((w64 (x2 + 1)) + 1)) + 1))), (5, I (w64 (x3 + 1)))] [some ⟨0, eL (((x4.set x3.toNat ({ v8 with fKind := x2 } : T_impl_Value)).set x3.toNat ({ v10 with fN := (w64 (x2 + 1)) } : T_impl_Value)).set x3.toNat ({ v14 with fS := v12 } : T_impl_Value))⟩] ?_
 exact ⟨(f5, (w64 ((w64 ((w64 (x2 + 1)) + 1)) + 1)), (w64 (x3 + 1)), (((x4.set x3.toNat ({ v8 with fKind := x2 } : T_impl_Value)).set x3.toNat ({ v10 with fN := (w64 (x2 + 1)) } : T_impl_Value)).set x3.toNat ({ v14 with fS := v12 } : T_impl_Value))), h, Nat.lt_succ_self _, it [0, 1, 5]⟩
 refine pwp_exit ?_
 refine srve 35 [(4, I x2)] [sl 0 x4] ?_
 have h := si h
 subst h
 exact pwp_ret ⟨.inr rfl, 0, by kernel_rfl, by kernel_rfl⟩
def impl_Value_ok (a0 : T_impl_Value) : Option Bool := bif (a0.fKind == 0) then some (eq_T_impl_Value a0 (T_impl_Value.mk 0 0 (ByteArray.mk #[]))) else bif (a0.fKind == 1) then bif (a0.fS.toList == (ByteArray.mk #[]).toList) then (impl_between a0.fN (-9999) 9999).bind fun v3 => some v3 else some false else bif (a0.fKind == 2) then bif (a0.fN == 0) then bif (decide ((a0.fS.size : Int) ≤ 6)) then (impl_letters a0.fS).bind fun v7 => some v7 else some false else some false else bif (a0.fKind == 3) then bif (a0.fS.toList == (ByteArray.mk #[]).toList) then (impl_between a0.fN 0 1).bind fun v12 => some v12 else some false else some false
theorem ok_impl_Value_ok {a0 : T_impl_Value} {y : Bool} (h : impl_Value_ok a0 = some y) : OK Try.prog 48 [E a0] (B y) := by
 refine ow Try.func48 fun Γ hX => ?_
 unfold impl_Value_ok at h
 refine srve 46 [(1, pf a0 0)] [] ?_
 refine pwp_seq ?_
 refine srve 46 [(1, pf a0 0), (4, I a0.fKind)] [] ?_
 refine pwp_block ?_
 refine srve 46 [(1, pf a0 0), (4, I a0.fKind), (5, B (a0.fKind == 0))] [] ?_
 refine pc h (fun h => ?_) (fun h => ?_)
 refine srve 46 [(2, B (eq_T_impl_Value a0 (T_impl_Value.mk 0 0 (ByteArray.mk #[]))))] [] ?_
 cases h
 exact pwp_ret rz
 refine srve 46 [(1, pf a0 0), (4, I a0.fKind), (10, B (a0.fKind == 1))] [] ?_
 refine pc h (fun h => ?_) (fun h => ?_)
 refine srv 4 46 [(1, pf a0 0), (15, B (a0.fS.toList == (ByteArray.mk #[]).toList))] [] ?_
 rcases fk (a0.fS.toList == (ByteArray.mk #[]).toList) with hc5 | hc5
 replace h := bT hc5 h
 rw [hc5]
 refine v 2 46 [(15, B true), (17, I a0.fN)] [] ?_
 obtain ⟨v3, hv4, h⟩ := bindS h
 refine cF 18 (ok_impl_between hv4) ?_
 refine ve 2 46 [(2, B v3)] [] ?_
 cases h
 exact pwp_ret rz
 replace h := bF hc5 h
 rw [hc5]
 refine ve 5 46 [(2, B false)] [] ?_
 cases h
 exact pwp_ret rz
 refine srve 46 [(1, pf a0 0), (4, I a0.fKind), (20, B (a0.fKind == 2))] [] ?_
 refine pc h (fun h => ?_) (fun h => ?_)
 refine srv 4 46 [(1, pf a0 0), (25, B (a0.fN == 0))] [] ?_
 rcases fk (a0.fN == 0) with hc10 | hc10
 replace h := bT hc10 h
 rw [hc10]
 refine v 6 46 [(1, pf a0 0), (31, B (decide ((a0.fS.size : Int) ≤ 6)))] [] ?_
 rcases fk (decide ((a0.fS.size : Int) ≤ 6)) with hc9 | hc9
 replace h := bT hc9 h
 rw [hc9]
 refine v 2 46 [(31, B true), (33, S a0.fS)] [] ?_
 obtain ⟨v7, hv8, h⟩ := bindS h
 refine cF 34 (ok_impl_letters hv8) ?_
 refine ve 2 46 [(2, B v7)] [] ?_
 cases h
 exact pwp_ret rz
 replace h := bF hc9 h
 rw [hc9]
 refine ve 5 46 [(2, B false)] [] ?_
 cases h
 exact pwp_ret rz
 replace h := bF hc10 h
 rw [hc10]
 refine ve 11 46 [(2, B false)] [] ?_
 cases h
 exact pwp_ret rz
 refine srve 46 [(1, pf a0 0), (36, B (a0.fKind == 3))] [] ?_
 refine pc h (fun h => ?_) (fun h => ?_)
 refine srv 4 46 [(1, pf a0 0), (41, B (a0.fS.toList == (ByteArray.mk #[]).toList))] [] ?_
 rcases fk (a0.fS.toList == (ByteArray.mk #[]).toList) with hc14 | hc14
 replace h := bT hc14 h
 rw [hc14]
 refine v 2 46 [(41, B true), (43, I a0.fN)] [] ?_
 obtain ⟨v12, hv13, h⟩ := bindS h
 refine cF 44 (ok_impl_between hv13) ?_
 refine ve 2 46 [(2, B v12)] [] ?_
 cases h
 exact pwp_ret rz
 replace h := bF hc14 h
 rw [hc14]
 refine ve 5 46 [(2, B false)] [] ?_
 cases h
 exact pwp_ret rz
 refine pwp_skip ?_
 refine srve 46 [(2, B false)] [] ?_
 cases h
 exact pwp_ret rz
def impl_keyOk (a0 : Int) : Option Bool := (impl_between a0 0 4).bind fun v1 => some v1
theorem ok_impl_keyOk {a0 : Int} {y : Bool} (h : impl_keyOk a0 = some y) : OK Try.prog 49 [I a0] (B y) := by
 refine ow Try.func49 fun Γ hX => ?_
 unfold impl_keyOk at h
 refine srve 5 [(0, I a0)] [] ?_
 refine srv 1 5 [(3, I a0)] [] ?_
 obtain ⟨v1, hv2, h⟩ := bindS h
 refine cF 4 (ok_impl_between hv2) ?_
 refine ve 1 5 [(2, B v1)] [] ?_
 cases h
 exact pwp_ret rz
def laws_szValueS_l0 (a0 : List T_laws_Value) : Nat → Int → Int → Option Int
 | 0, _, _ => none
 | f4 + 1, x2, x3 => bif (decide (x3 < (a0.length : Int))) then (getI a0 x3).bind fun v7 => (laws_szValue v7 x2).bind fun v9 => bif (decide (v9 < 0)) then some (-1) else (laws_szValueS_l0 a0 f4) v9 (w64 (x3 + 1)) else some x2
def laws_szValueS (a0 : List T_laws_Value) (a1 : Int) : Option Int := bif (decide ((w64 (a1 - (a0.length : Int))) < 0)) then some (-1) else laws_szValueS_l0 a0 FUEL (w64 (a1 - (a0.length : Int))) 0
theorem ok_laws_szValueS {a0 : List T_laws_Value} {a1 : Int} {y : Int} (h : laws_szValueS a0 a1 = some y) : OK Try.prog 73 [A a0, I a1] (I y) := by
 refine ow Try.func73 fun Γ hX => ?_
 unfold laws_szValueS at h
 refine srve 27 [(0, A a0), (1, I a1)] [] ?_
 refine srve 27 [(0, A a0), (1, I (w64 (a1 - (a0.length : Int))))] [] ?_
 refine pwp_seq ?_
 refine srve 27 [(0, A a0), (1, I (w64 (a1 - (a0.length : Int)))), (11, B (decide ((w64 (a1 - (a0.length : Int))) < 0)))] [] ?_
 refine pc h (fun h => ?_) (fun h => ?_)
 refine srve 27 [(4, I (-1))] [] ?_
 cases h
 exact pwp_ret rz
 refine pwp_skip ?_
 refine pwp_seq ?_
 refine srve 27 [(0, A a0), (1, I (w64 (a1 - (a0.length : Int)))), (5, I 0)] [] ?_
 refine pwp_block ?_
 refine pwp_loop (ι := Nat × Int × Int) (fun (f4, x2, x3) => (⟨27, [(0, A a0), (1, I x2), (5, I x3)], []⟩ : St)) (fun (f4, x2, x3) => laws_szValueS_l0 a0 f4 x2 x3 = some y) Prod.fst (FUEL, (w64 (a1 - (a0.length : Int))), 0) h (it [0, 1, 5]) ?_
 rintro ⟨f4, x2, x3⟩ h
 dsimp only at h ⊢
 rcases f4 with _ | f4
 cases h
 rw [laws_szValueS_l0] at h
 refine pwp_seq ?_
 refine srve 27 [(0, A a0), (1, I x2), (5, I x3), (15, B (decide (x3 < (a0.length : Int))))] [] ?_
 refine pc h (fun h => ?_) (fun h => ?_)
 refine pwp_skip ?_
 refine pwp_seq ?_
 refine pwp_block ?_
 refine srv 2 27 [(0, A a0), (1, I x2), (5, I x3), (18, A a0), (19, I x3)] [] ?_
 obtain ⟨v7, hv8, h⟩ := bindS h
 refine opsP_idx τ_ok 20 hv8 (by kernel_rfl) ?_
 refine v 2 27 [(0, A a0), (5, I x3), (21, E v7), (22, I x2)] [] ?_
 obtain ⟨v9, hv10, h⟩ := bindS h
 refine cF 23 (ok_laws_szValue hv10) ?_
 refine ve 1 27 [(0, A a0), (1, I v9), (5, I x3)] [] ?_
 refine srve 27 [(0, A a0), (1, I v9), (5, I x3), (25, B (decide (v9 < 0)))] [] ?_
 refine pc h (fun h => ?_) (fun h => ?_)
 refine srve 27 [(4, I (-1))] [] ?_
 cases h
 exact pwp_ret rz
 refine pwp_skip ?_
 refine rve 27 [(0, A a0), (1, I v9), (5, I (w64 (x3 + 1)))] [] ?_
 exact ⟨(f4, v9, (w64 (x3 + 1))), h, Nat.lt_succ_self _, it [0, 1, 5]⟩
 refine pwp_exit ?_
 refine srve 27 [(4, I x2)] [] ?_
 cases h
 exact pwp_ret rz
def laws_toValueS_l0 (a0 : List T_laws_Value) : Nat → Int → (List T_impl_Value) → Option (List T_impl_Value)
 | 0, _, _ => none
 | f6 + 1, x4, x5 => bif (decide (x4 < (a0.length : Int))) then (getI a0 x4).bind fun v9 => (laws_toValue v9).bind fun v11 => (getI x5 x4).bind fun v13 => (laws_toValueS_l0 a0 f6) (w64 (x4 + 1)) (x5.set x4.toNat v11) else some x5
def laws_toValueS (a0 : List T_laws_Value) : Option (List T_impl_Value) := (mkI (a0.length : Int) (T_impl_Value.mk 0 0 (ByteArray.mk #[]))).bind fun v1 => laws_toValueS_l0 a0 FUEL 0 v1
theorem ok_laws_toValueS {a0 : List T_laws_Value} {y : List T_impl_Value} (h : laws_toValueS a0 = some y) : OK Try.prog 76 [A a0] (O y) := by
 refine ow Try.func76 fun Γ hX => ?_
 unfold laws_toValueS at h
 refine srve 23 [(0, A a0)] [] ?_
 refine srv 2 23 [(0, A a0), (6, I (a0.length : Int))] [] ?_
 obtain ⟨v1, hv2, h⟩ := bindS h
 refine opsP_mk τ_ok 7 0 _ hv2 (by kernel_rfl) (by kernel_rfl) ?_
 refine ve 1 23 [(0, A a0), (3, rf 0 0 3 v1)] [sl 0 v1] ?_
 refine pwp_seq ?_
 refine srve 23 [(0, A a0), (3, rf 0 0 3 v1), (4, I 0)] [sl 0 v1] ?_
 refine pwp_block ?_
 refine pwp_loop (ι := Nat × Int × (List T_impl_Value)) (fun (f6, x4, x5) => (⟨23, [(0, A a0), (3, rf 0 0 3 x5), (4, I x4)], [sl 0 x5]⟩ : St)) (fun (f6, x4, x5) => laws_toValueS_l0 a0 f6 x4 x5 = some y) Prod.fst (FUEL, 0, v1) h (it [0, 3, 4]) ?_
 rintro ⟨f6, x4, x5⟩ h
 dsimp only at h ⊢
 rcases f6 with _ | f6
 cases h
 rw [laws_toValueS_l0] at h
 refine pwp_seq ?_
 refine srve 23 [(0, A a0), (3, rf 0 0 3 x5), (4, I x4), (11, B (decide (x4 < (a0.length : Int))))] [sl 0 x5] ?_
 refine pc h (fun h => ?_) (fun h => ?_)
 refine pwp_skip ?_
 refine pwp_seq ?_
 refine pwp_block ?_
 refine rv 4 23 [(0, A a0), (3, rf 0 0 3 x5), (4, I x4), (14, rf 0 0 3 x5), (15, I x4), (16, A a0), (17, I x4)] [sl 0 x5] ?_
 obtain ⟨v9, hv10, h⟩ := bindS h
 refine opsP_idx τ_ok 18 hv10 (by kernel_rfl) ?_
 refine v 1 23 [(0, A a0), (3, rf 0 0 3 x5), (4, I x4), (14, rf 0 0 3 x5), (15, I x4), (19, E v9)] [sl 0 x5] ?_
 obtain ⟨v11, hv12, h⟩ := bindS h
 refine cF 20 (ok_laws_toValue hv12) ?_
 obtain ⟨v13, hv14, h⟩ := bindS h
 refine opsP_idr τ_ok 21 0 0 x5.length hv14 rfl (by kernel_rfl) ?_
 refine v 0 23 [(0, A a0), (3, rf 0 0 3 x5), (4, I x4), (20, E v11), (21, .ptr 0 0 (x4.toNat * 3))] [sl 0 x5] ?_
 refine opsP_ste (vs := [I v11.fKind, I v11.fN, S v11.fS]) τ_ok 47 0 0 0 v11 hv14 (by kernel_rfl) (by kernel_rfl) (by kernel_rfl) (renC trivial (renC (ren_ref (List.length_set ..).symm) (renC trivial (renC trivial (renC trivial renC0))))) ?_
 refine ve 0 23 [(0, A a0), (3, .ref 0 0 0 3 (x5.set x4.toNat v11).length false), (4, I x4)] [some ⟨0, eL (x5.set x4.toNat v11)⟩] ?_
 refine rve 23 [(0, A a0), (3, .ref 0 0 0 3 (x5.set x4.toNat v11).length false), (4, I (w64 (x4 + 1)))] [some ⟨0, eL (x5.set x4.toNat v11)⟩] ?_
 exact ⟨(f6, (w64 (x4 + 1)), (x5.set x4.toNat v11)), h, Nat.lt_succ_self _, it [0, 3, 4]⟩
 refine pwp_exit ?_
 refine srve 23 [(2, rf 0 0 3 x5)] [sl 0 x5] ?_
 have h := si h
 subst h
 exact pwp_ret (rt (rf 0 0 3 x5) (OutP.list (v := 0) (by kernel_rfl)))
def cmp_Compare_int (a0 : Int) (a1 : Int) : Option Int := (cmp_isNaN_int a0).bind fun v1 => (cmp_isNaN_int a1).bind fun v3 => bif v1 then bif v3 then some 0 else some (-1) else bif v3 then some 1 else bif (decide (a0 < a1)) then some (-1) else bif (decide (a0 > a1)) then some 1 else some 0
theorem ok_cmp_Compare_int {a0 : Int} {a1 : Int} {y : Int} (h : cmp_Compare_int a0 a1 = some y) : OK Try.prog 81 [I a0, I a1] (I y) := by
 refine ow Try.func81 fun Γ hX => ?_
 unfold cmp_Compare_int at h
 refine srve 20 [(0, I a0), (1, I a1)] [] ?_
 refine srv 1 20 [(0, I a0), (1, I a1), (7, I a0)] [] ?_
 obtain ⟨v1, hv2, h⟩ := bindS h
 refine cF 8 (ok_cmp_isNaN_int hv2) ?_
 refine ve 1 20 [(0, I a0), (1, I a1), (5, B v1)] [] ?_
 refine srv 1 20 [(0, I a0), (1, I a1), (5, B v1), (9, I a1)] [] ?_
 obtain ⟨v3, hv4, h⟩ := bindS h
 refine cF 10 (ok_cmp_isNaN_int hv4) ?_
 refine ve 1 20 [(0, I a0), (1, I a1), (5, B v1), (6, B v3)] [] ?_
 refine pwp_seq ?_
 refine srve 20 [(0, I a0), (1, I a1), (6, B v3), (11, B v1)] [] ?_
 refine pc h (fun h => ?_) (fun h => ?_)
 refine pwp_seq ?_
 refine srve 20 [(12, B v3)] [] ?_
 refine pc h (fun h => ?_) (fun h => ?_)
 refine srve 20 [(4, I 0)] [] ?_
 cases h
 exact pwp_ret rz
 refine pwp_skip ?_
 refine srve 20 [(4, I (-1))] [] ?_
 cases h
 exact pwp_ret rz
 refine pwp_skip ?_
 refine pwp_seq ?_
 refine srve 20 [(0, I a0), (1, I a1), (13, B v3)] [] ?_
 refine pc h (fun h => ?_) (fun h => ?_)
 refine srve 20 [(4, I 1)] [] ?_
 cases h
 exact pwp_ret rz
 refine pwp_skip ?_
 refine pwp_seq ?_
 refine srve 20 [(0, I a0), (1, I a1), (16, B (decide (a0 < a1)))] [] ?_
 refine pc h (fun h => ?_) (fun h => ?_)
 refine srve 20 [(4, I (-1))] [] ?_
 cases h
 exact pwp_ret rz
 refine pwp_skip ?_
 refine pwp_seq ?_
 refine srve 20 [(19, B (decide (a0 > a1)))] [] ?_
 refine pc h (fun h => ?_) (fun h => ?_)
 refine srve 20 [(4, I 1)] [] ?_
 cases h
 exact pwp_ret rz
 refine pwp_skip ?_
 refine srve 20 [(4, I 0)] [] ?_
 cases h
 exact pwp_ret rz
def slices_ContainsFunc_impl_Value_impl_Value (a0 : List T_impl_Value) (a1 : T_impl_Value → Option Bool) : Option Bool := (slices_IndexFunc_impl_Value_impl_Value a0 a1).bind fun v1 => some (decide (v1 ≥ 0))
theorem ok_slices_ContainsFunc_impl_Value_impl_Value {a0 : List T_impl_Value} {g1 : FuncId} {c1 : List V} (hz1 : frzL c1 = true) {a1 : T_impl_Value → Option Bool} (hp1 : ∀ x0 y, a1 x0 = some y → OK Try.prog g1 ([E x0] ++ c1) (B y)) {y : Bool} (h : slices_ContainsFunc_impl_Value_impl_Value a0 a1 = some y) : OK Try.prog 90 [A a0, .fn g1 c1] (B y) := by
 refine ow Try.func90 fun Γ hX => ?_
 unfold slices_ContainsFunc_impl_Value_impl_Value at h
 refine srve 9 [(0, A a0), (1, .fn g1 c1)] [] ?_
 refine srv 2 9 [(5, A a0), (6, .fn g1 c1)] [] ?_
 obtain ⟨v1, hv2, h⟩ := bindS h
 refine opsP_callF τ 7 (ok_slices_IndexFunc_impl_Value_impl_Value (hz1) (hp1) hv2) (FzTo.frz rfl) (by simp only [frzL, frz, hz1, Bool.and_true]) (by kernel_rfl) ?_
 refine ve 2 9 [(4, B (decide (v1 ≥ 0)))] [] ?_
 cases h
 exact pwp_ret rz
def impl_RowOk_1 (a0 : T_impl_Value) : Option Bool := (impl_Value_ok a0).bind fun v1 => some (!v1)
theorem ok_impl_RowOk_1 {a0 : T_impl_Value} {y : Bool} (h : impl_RowOk_1 a0 = some y) : OK Try.prog 91 [E a0] (B y) := by
 refine ow Try.func91 fun Γ hX => ?_
 unfold impl_RowOk_1 at h
 refine srve 6 [(1, pf a0 0)] [] ?_
 refine srv 1 6 [(3, E a0)] [] ?_
 obtain ⟨v1, hv2, h⟩ := bindS h
 refine cF 4 (ok_impl_Value_ok hv2) ?_
 refine ve 2 6 [(2, B (!v1))] [] ?_
 cases h
 exact pwp_ret rz
def spec_ValueOk (a0 : T_impl_Value) : Option Bool := bif (a0.fKind == 0) then bif (a0.fN == 0) then some (a0.fS.toList == (ByteArray.mk #[]).toList) else some false else bif (a0.fKind == 1) then (spec_l1In a0.fN (-9999) 9999).bind fun v4 => bif v4 then some (a0.fS.toList == (ByteArray.mk #[]).toList) else some false else bif (a0.fKind == 2) then bif (a0.fN == 0) then (spec_l1Text a0.fS).bind fun v8 => some v8 else some false else bif (a0.fKind == 3) then (spec_l1In a0.fN 0 1).bind fun v12 => bif v12 then some (a0.fS.toList == (ByteArray.mk #[]).toList) else some false else some false
theorem ok_spec_ValueOk {a0 : T_impl_Value} {y : Bool} (h : spec_ValueOk a0 = some y) : OK Try.prog 97 [E a0] (B y) := by
 refine ow Try.func97 fun Γ hX => ?_
 unfold spec_ValueOk at h
 refine srve 45 [(1, pf a0 0)] [] ?_
 refine pwp_seq ?_
 refine srve 45 [(1, pf a0 0), (4, I a0.fKind)] [] ?_
 refine pwp_block ?_
 refine srve 45 [(1, pf a0 0), (4, I a0.fKind), (5, B (a0.fKind == 0))] [] ?_
 refine pc h (fun h => ?_) (fun h => ?_)
 refine srv 4 45 [(1, pf a0 0), (10, B (a0.fN == 0))] [] ?_
 rcases fk (a0.fN == 0) with hc2 | hc2
 replace h := bT hc2 h
 rw [hc2]
 refine ve 5 45 [(2, B (a0.fS.toList == (ByteArray.mk #[]).toList))] [] ?_
 cases h
 exact pwp_ret rz
 replace h := bF hc2 h
 rw [hc2]
 refine ve 5 45 [(2, B false)] [] ?_
 cases h
 exact pwp_ret rz
 refine srve 45 [(1, pf a0 0), (4, I a0.fKind), (15, B (a0.fKind == 1))] [] ?_
 refine pc h (fun h => ?_) (fun h => ?_)
 refine srv 2 45 [(1, pf a0 0), (18, I a0.fN)] [] ?_
 obtain ⟨v4, hv5, h⟩ := bindS h
 refine cF 19 (ok_spec_l1In hv5) ?_
 refine v 1 45 [(1, pf a0 0), (20, B v4)] [] ?_
 rcases Bool.eq_false_or_eq_true v4 with hc6 | hc6
 replace h := bT hc6 h
 rw [hc6]
 refine ve 5 45 [(2, B (a0.fS.toList == (ByteArray.mk #[]).toList))] [] ?_
 cases h
 exact pwp_ret rz
 replace h := bF hc6 h
 rw [hc6]
 refine ve 5 45 [(2, B false)] [] ?_
 cases h
 exact pwp_ret rz
 refine srve 45 [(1, pf a0 0), (4, I a0.fKind), (25, B (a0.fKind == 2))] [] ?_
 refine pc h (fun h => ?_) (fun h => ?_)
 refine srv 4 45 [(1, pf a0 0), (30, B (a0.fN == 0))] [] ?_
 rcases fk (a0.fN == 0) with hc10 | hc10
 replace h := bT hc10 h
 rw [hc10]
 refine v 2 45 [(30, B true), (32, S a0.fS)] [] ?_
 obtain ⟨v8, hv9, h⟩ := bindS h
 refine cF 33 (ok_spec_l1Text hv9) ?_
 refine ve 2 45 [(2, B v8)] [] ?_
 cases h
 exact pwp_ret rz
 replace h := bF hc10 h
 rw [hc10]
 refine ve 5 45 [(2, B false)] [] ?_
 cases h
 exact pwp_ret rz
 refine srve 45 [(1, pf a0 0), (35, B (a0.fKind == 3))] [] ?_
 refine pc h (fun h => ?_) (fun h => ?_)
 refine srv 2 45 [(1, pf a0 0), (38, I a0.fN)] [] ?_
 obtain ⟨v12, hv13, h⟩ := bindS h
 refine cF 39 (ok_spec_l1In hv13) ?_
 refine v 1 45 [(1, pf a0 0), (40, B v12)] [] ?_
 rcases Bool.eq_false_or_eq_true v12 with hc14 | hc14
 replace h := bT hc14 h
 rw [hc14]
 refine ve 5 45 [(2, B (a0.fS.toList == (ByteArray.mk #[]).toList))] [] ?_
 cases h
 exact pwp_ret rz
 replace h := bF hc14 h
 rw [hc14]
 refine ve 5 45 [(2, B false)] [] ?_
 cases h
 exact pwp_ret rz
 refine pwp_skip ?_
 refine srve 45 [(2, B false)] [] ?_
 cases h
 exact pwp_ret rz
def spec_RowOk_l0 (a0 : List T_impl_Value) : Nat → Int → Option Bool
 | 0, _ => none
 | f2 + 1, x1 => bif (decide (x1 < (a0.length : Int))) then (getI a0 x1).bind fun v5 => (spec_ValueOk v5).bind fun v7 => bif (!v7) then some false else (spec_RowOk_l0 a0 f2) (w64 (x1 + 1)) else some (decide ((a0.length : Int) ≤ 4))
def spec_RowOk (a0 : List T_impl_Value) : Option Bool := spec_RowOk_l0 a0 FUEL 0
theorem ok_spec_RowOk {a0 : List T_impl_Value} {y : Bool} (h : spec_RowOk a0 = some y) : OK Try.prog 98 [A a0] (B y) := by
 refine ow Try.func98 fun Γ hX => ?_
 unfold spec_RowOk at h
 refine srve 19 [(0, A a0)] [] ?_
 refine pwp_seq ?_
 refine srve 19 [(0, A a0), (3, I 0)] [] ?_
 refine pwp_block ?_
 refine pwp_loop (ι := Nat × Int) (fun (f2, x1) => (⟨19, [(0, A a0), (3, I x1)], []⟩ : St)) (fun (f2, x1) => spec_RowOk_l0 a0 f2 x1 = some y) Prod.fst (FUEL, 0) h (it [0, 3]) ?_
 rintro ⟨f2, x1⟩ h
 dsimp only at h ⊢
 rcases f2 with _ | f2
 cases h
 rw [spec_RowOk_l0] at h
 refine pwp_seq ?_
 refine srve 19 [(0, A a0), (3, I x1), (7, B (decide (x1 < (a0.length : Int))))] [] ?_
 refine pc h (fun h => ?_) (fun h => ?_)
 refine pwp_skip ?_
 refine pwp_seq ?_
 refine pwp_block ?_
 refine srv 2 19 [(0, A a0), (3, I x1), (10, A a0), (11, I x1)] [] ?_
 obtain ⟨v5, hv6, h⟩ := bindS h
 refine opsP_idx τ_ok 12 hv6 (by kernel_rfl) ?_
 refine v 1 19 [(0, A a0), (3, I x1), (13, E v5)] [] ?_
 obtain ⟨v7, hv8, h⟩ := bindS h
 refine cF 14 (ok_spec_ValueOk hv8) ?_
 refine ve 1 19 [(0, A a0), (3, I x1), (15, B (!v7))] [] ?_
 refine pc h (fun h => ?_) (fun h => ?_)
 refine srve 19 [(2, B false)] [] ?_
 cases h
 exact pwp_ret rz
 refine pwp_skip ?_
 refine rve 19 [(0, A a0), (3, I (w64 (x1 + 1)))] [] ?_
 exact ⟨(f2, (w64 (x1 + 1))), h, Nat.lt_succ_self _, it [0, 3]⟩
 refine pwp_exit ?_
 refine srve 19 [(2, B (decide ((a0.length : Int) ≤ 4)))] [] ?_
 cases h
 exact pwp_ret rz
def spec_ValueOrder_j0 (a0 : T_impl_Value) (a1 : T_impl_Value) (x1 : Bool) : Option Int := bif x1 then some 0 else bif (!(a0.fKind == a1.fKind)) then (spec_l1Less a1.fKind a0.fKind).bind fun v4 => some (w64 ((w64 (2 * v4)) - 1)) else bif (!(a0.fN == a1.fN)) then (spec_l1Less a1.fN a0.fN).bind fun v7 => some (w64 ((w64 (2 * v7)) - 1)) else (spec_l1Cmp a0.fS a1.fS).bind fun v9 => some v9
def spec_ValueOrder (a0 : T_impl_Value) (a1 : T_impl_Value) : Option Int := (spec_ValueOk a0).bind fun v11 => bif (!v11) then spec_ValueOrder_j0 a0 a1 true else (spec_ValueOk a1).bind fun v13 => spec_ValueOrder_j0 a0 a1 (!v13)
theorem ok_spec_ValueOrder {a0 : T_impl_Value} {a1 : T_impl_Value} {y : Int} (h : spec_ValueOrder a0 a1 = some y) : OK Try.prog 100 [E a0, E a1] (I y) := by
 refine ow Try.func100 fun Γ hX => ?_
 unfold spec_ValueOrder at h
 refine srve 44 [(2, pf a0 0), (3, pf a1 0)] [] ?_
 refine pwp_seq ?_
 refine pwp_seq ?_
 refine pwp_join (σ := Bool) (fun x1 => (⟨44, [(2, pf a0 0), (3, pf a1 0), (12, B x1)], []⟩ : St)) (fun x1 => spec_ValueOrder_j0 a0 a1 x1 = some y) ?_ ?_
 refine rv 1 44 [(2, pf a0 0), (3, pf a1 0), (5, E a0)] [] ?_
 obtain ⟨v11, hv12, h⟩ := bindS h
 refine cF 6 (ok_spec_ValueOk hv12) ?_
 refine v 2 44 [(2, pf a0 0), (3, pf a1 0), (8, B (!v11))] [] ?_
 rcases fk (!v11) with hc15 | hc15
 replace h := bT hc15 h
 rw [hc15]
 refine ve 4 44 [(2, pf a0 0), (3, pf a1 0), (12, B true)] [] ?_
 exact ⟨true, h, it [2, 3, 12]⟩
 replace h := bF hc15 h
 rw [hc15]
 refine v 1 44 [(2, pf a0 0), (3, pf a1 0), (8, B false), (9, E a1)] [] ?_
 obtain ⟨v13, hv14, h⟩ := bindS h
 refine cF 10 (ok_spec_ValueOk hv14) ?_
 refine ve 2 44 [(2, pf a0 0), (3, pf a1 0), (12, B (!v13))] [] ?_
 exact ⟨(!v13), h, it [2, 3, 12]⟩
 rintro x1 h
 unfold spec_ValueOrder_j0 at h
 refine pc h (fun h => ?_) (fun h => ?_)
 refine srve 44 [(4, I 0)] [] ?_
 cases h
 exact pwp_ret rz
 refine pwp_skip ?_
 refine pwp_seq ?_
 refine pwp_block ?_
 refine srve 44 [(2, pf a0 0), (3, pf a1 0), (13, B (!(a0.fKind == a1.fKind)))] [] ?_
 refine pc h (fun h => ?_) (fun h => ?_)
 refine srv 4 44 [(20, I a1.fKind), (22, I a0.fKind)] [] ?_
 obtain ⟨v4, hv5, h⟩ := bindS h
 refine cF 23 (ok_spec_l1Less hv5) ?_
 refine ve 3 44 [(4, I (w64 ((w64 (2 * v4)) - 1)))] [] ?_
 cases h
 exact pwp_ret rz
 refine srve 44 [(2, pf a0 0), (3, pf a1 0), (26, B (!(a0.fN == a1.fN)))] [] ?_
 refine pc h (fun h => ?_) (fun h => ?_)
 refine srv 4 44 [(33, I a1.fN), (35, I a0.fN)] [] ?_
 obtain ⟨v7, hv8, h⟩ := bindS h
 refine cF 36 (ok_spec_l1Less hv8) ?_
 refine ve 3 44 [(4, I (w64 ((w64 (2 * v7)) - 1)))] [] ?_
 cases h
 exact pwp_ret rz
 refine pwp_skip ?_
 refine srv 4 44 [(40, S a0.fS), (42, S a1.fS)] [] ?_
 obtain ⟨v9, hv10, h⟩ := bindS h
 refine cF 43 (ok_spec_l1Cmp hv10) ?_
 refine ve 1 44 [(4, I v9)] [] ?_
 cases h
 exact pwp_ret rz
def cmp_Compare_string (a0 : ByteArray) (a1 : ByteArray) : Option Int := (cmp_isNaN_string a0).bind fun v1 => (cmp_isNaN_string a1).bind fun v3 => bif v1 then bif v3 then some 0 else some (-1) else bif v3 then some 1 else bif (Op.bytesLess a0.toList a1.toList) then some (-1) else bif (!Op.bytesLess a0.toList a1.toList && !(a0.toList == a1.toList)) then some 1 else some 0
theorem ok_cmp_Compare_string {a0 : ByteArray} {a1 : ByteArray} {y : Int} (h : cmp_Compare_string a0 a1 = some y) : OK Try.prog 111 [S a0, S a1] (I y) := by
 refine ow Try.func111 fun Γ hX => ?_
 unfold cmp_Compare_string at h
 refine srve 20 [(0, S a0), (1, S a1)] [] ?_
 refine srv 1 20 [(0, S a0), (1, S a1), (7, S a0)] [] ?_
 obtain ⟨v1, hv2, h⟩ := bindS h
 refine cF 8 (ok_cmp_isNaN_string hv2) ?_
 refine ve 1 20 [(0, S a0), (1, S a1), (5, B v1)] [] ?_
 refine srv 1 20 [(0, S a0), (1, S a1), (5, B v1), (9, S a1)] [] ?_
 obtain ⟨v3, hv4, h⟩ := bindS h
 refine cF 10 (ok_cmp_isNaN_string hv4) ?_
 refine ve 1 20 [(0, S a0), (1, S a1), (5, B v1), (6, B v3)] [] ?_
 refine pwp_seq ?_
 refine srve 20 [(0, S a0), (1, S a1), (6, B v3), (11, B v1)] [] ?_
 refine pc h (fun h => ?_) (fun h => ?_)
 refine pwp_seq ?_
 refine srve 20 [(12, B v3)] [] ?_
 refine pc h (fun h => ?_) (fun h => ?_)
 refine srve 20 [(4, I 0)] [] ?_
 cases h
 exact pwp_ret rz
 refine pwp_skip ?_
 refine srve 20 [(4, I (-1))] [] ?_
 cases h
 exact pwp_ret rz
 refine pwp_skip ?_
 refine pwp_seq ?_
 refine srve 20 [(0, S a0), (1, S a1), (13, B v3)] [] ?_
 refine pc h (fun h => ?_) (fun h => ?_)
 refine srve 20 [(4, I 1)] [] ?_
 cases h
 exact pwp_ret rz
 refine pwp_skip ?_
 refine pwp_seq ?_
 refine srve 20 [(0, S a0), (1, S a1), (16, B (Op.bytesLess a0.toList a1.toList))] [] ?_
 refine pc h (fun h => ?_) (fun h => ?_)
 refine srve 20 [(4, I (-1))] [] ?_
 cases h
 exact pwp_ret rz
 refine pwp_skip ?_
 refine pwp_seq ?_
 refine srve 20 [(19, B (!Op.bytesLess a0.toList a1.toList && !(a0.toList == a1.toList)))] [] ?_
 refine pc h (fun h => ?_) (fun h => ?_)
 refine srve 20 [(4, I 1)] [] ?_
 cases h
 exact pwp_ret rz
 refine pwp_skip ?_
 refine srve 20 [(4, I 0)] [] ?_
 cases h
 exact pwp_ret rz
def laws_eqMarkS_l0 (a0 : List T_impl_Mark) (a1 : List T_impl_Mark) : Nat → Int → Option Bool
 | 0, _ => none
 | f3 + 1, x2 => bif (decide (x2 < (a0.length : Int))) then (getI a0 x2).bind fun v6 => (getI a1 x2).bind fun v8 => (laws_eqMark v6 v8).bind fun v10 => bif (!v10) then some false else (laws_eqMarkS_l0 a0 a1 f3) (w64 (x2 + 1)) else some true
def laws_eqMarkS (a0 : List T_impl_Mark) (a1 : List T_impl_Mark) : Option Bool := bif (!((a0.length : Int) == (a1.length : Int))) then some false else laws_eqMarkS_l0 a0 a1 FUEL 0
theorem ok_laws_eqMarkS {a0 : List T_impl_Mark} {a1 : List T_impl_Mark} {y : Bool} (h : laws_eqMarkS a0 a1 = some y) : OK Try.prog 11 [A a0, A a1] (B y) := by
 refine ow Try.func11 fun Γ hX => ?_
 unfold laws_eqMarkS at h
 refine srve 27 [(0, A a0), (1, A a1)] [] ?_
 refine pwp_seq ?_
 refine srve 27 [(0, A a0), (1, A a1), (10, B (!((a0.length : Int) == (a1.length : Int))))] [] ?_
 refine pc h (fun h => ?_) (fun h => ?_)
 refine srve 27 [(4, B false)] [] ?_
 cases h
 exact pwp_ret rz
 refine pwp_skip ?_
 refine pwp_seq ?_
 refine srve 27 [(0, A a0), (1, A a1), (5, I 0)] [] ?_
 refine pwp_block ?_
 refine pwp_loop (ι := Nat × Int) (fun (f3, x2) => (⟨27, [(0, A a0), (1, A a1), (5, I x2)], []⟩ : St)) (fun (f3, x2) => laws_eqMarkS_l0 a0 a1 f3 x2 = some y) Prod.fst (FUEL, 0) h (it [0, 1, 5]) ?_
 rintro ⟨f3, x2⟩ h
 dsimp only at h ⊢
 rcases f3 with _ | f3
 cases h
 rw [laws_eqMarkS_l0] at h
 refine pwp_seq ?_
 refine srve 27 [(0, A a0), (1, A a1), (5, I x2), (14, B (decide (x2 < (a0.length : Int))))] [] ?_
 refine pc h (fun h => ?_) (fun h => ?_)
 refine pwp_skip ?_
 refine pwp_seq ?_
 refine pwp_block ?_
 refine pwp_seq ?_
 refine ip 27 [(0, A a0), (1, A a1), (5, I x2)] [] ?_
 refine pN 10 ?_
 refine qv [] trivial 2 27 [(18, I x2), (17, A a0), (0, A a0), (1, A a1), (5, I x2)] [] ?_
 obtain ⟨v6, hv7, h⟩ := bindS h
 refine qX (some 19) (pf v6 0) 27 [(19, pf v6 0), (0, A a0), (1, A a1), (5, I x2)] [] (fun Γ' hΓ => CoreE.of_y (idxV_sound τ_ok (by kernel_rfl) hv7)) trivial ?_
 refine qv [] trivial 3 27 [(22, I x2), (21, A a1), (20, E v6), (0, A a0), (1, A a1), (5, I x2)] [] ?_
 obtain ⟨v8, hv9, h⟩ := bindS h
 refine qX (some 23) (pf v8 0) 27 [(23, pf v8 0), (20, E v6), (0, A a0), (1, A a1), (5, I x2)] [] (fun Γ' hΓ => CoreE.of_y (idxV_sound τ_ok (by kernel_rfl) hv9)) trivial ?_
 refine qv [] trivial 1 27 [(24, E v8), (20, E v6), (0, A a0), (1, A a1), (5, I x2)] [] ?_
 obtain ⟨v10, hv11, h⟩ := bindS h
 refine qX (some 25) (B v10) 27 [(25, B v10), (0, A a0), (1, A a1), (5, I x2)] [] (fun Γ' hΓ => CoreE.of_g (callV_sound (τ := τ) (by kernel_rfl) rfl (ok_laws_eqMark hv11) (FzTo.frz rfl))) trivial ?_
 refine qvn [] trivial 1 27 [(0, A a0), (1, A a1), (5, I x2), (26, B (!v10))] [] ?_
 refine pc h (fun h => ?_) (fun h => ?_)
 refine srve 27 [(4, B false)] [] ?_
 cases h
 exact pwp_ret rz
 refine pwp_skip ?_
 refine rve 27 [(0, A a0), (1, A a1), (5, I (w64 (x2 + 1)))] [] ?_
 exact ⟨(f3, (w64 (x2 + 1))), h, Nat.lt_succ_self _, it [0, 1, 5]⟩
 refine pwp_exit ?_
 refine srve 27 [(4, B true)] [] ?_
 cases h
 exact pwp_ret rz
def laws_eqVersionS_l0 (a0 : List T_impl_Version) (a1 : List T_impl_Version) : Nat → Int → Option Bool
 | 0, _ => none
 | f3 + 1, x2 => bif (decide (x2 < (a0.length : Int))) then (getI a0 x2).bind fun v6 => (getI a1 x2).bind fun v8 => (laws_eqVersion v6 v8).bind fun v10 => bif (!v10) then some false else (laws_eqVersionS_l0 a0 a1 f3) (w64 (x2 + 1)) else some true
def laws_eqVersionS (a0 : List T_impl_Version) (a1 : List T_impl_Version) : Option Bool := bif (!((a0.length : Int) == (a1.length : Int))) then some false else laws_eqVersionS_l0 a0 a1 FUEL 0
theorem ok_laws_eqVersionS {a0 : List T_impl_Version} {a1 : List T_impl_Version} {y : Bool} (h : laws_eqVersionS a0 a1 = some y) : OK Try.prog 12 [A a0, A a1] (B y) := by
 refine ow Try.func12 fun Γ hX => ?_
 unfold laws_eqVersionS at h
 refine srve 27 [(0, A a0), (1, A a1)] [] ?_
 refine pwp_seq ?_
 refine srve 27 [(0, A a0), (1, A a1), (10, B (!((a0.length : Int) == (a1.length : Int))))] [] ?_
 refine pc h (fun h => ?_) (fun h => ?_)
 refine srve 27 [(4, B false)] [] ?_
 cases h
 exact pwp_ret rz
 refine pwp_skip ?_
 refine pwp_seq ?_
 refine srve 27 [(0, A a0), (1, A a1), (5, I 0)] [] ?_
 refine pwp_block ?_
 refine pwp_loop (ι := Nat × Int) (fun (f3, x2) => (⟨27, [(0, A a0), (1, A a1), (5, I x2)], []⟩ : St)) (fun (f3, x2) => laws_eqVersionS_l0 a0 a1 f3 x2 = some y) Prod.fst (FUEL, 0) h (it [0, 1, 5]) ?_
 rintro ⟨f3, x2⟩ h
 dsimp only at h ⊢
 rcases f3 with _ | f3
 cases h
 rw [laws_eqVersionS_l0] at h
 refine pwp_seq ?_
 refine srve 27 [(0, A a0), (1, A a1), (5, I x2), (14, B (decide (x2 < (a0.length : Int))))] [] ?_
 refine pc h (fun h => ?_) (fun h => ?_)
 refine pwp_skip ?_
 refine pwp_seq ?_
 refine pwp_block ?_
 refine pwp_seq ?_
 refine ip 27 [(0, A a0), (1, A a1), (5, I x2)] [] ?_
 refine pN 10 ?_
 refine qv [] trivial 2 27 [(18, I x2), (17, A a0), (0, A a0), (1, A a1), (5, I x2)] [] ?_
 obtain ⟨v6, hv7, h⟩ := bindS h
 refine qX (some 19) (pf v6 0) 27 [(19, pf v6 0), (0, A a0), (1, A a1), (5, I x2)] [] (fun Γ' hΓ => CoreE.of_y (idxV_sound τ_ok (by kernel_rfl) hv7)) trivial ?_
 refine qv [] trivial 3 27 [(22, I x2), (21, A a1), (20, E v6), (0, A a0), (1, A a1), (5, I x2)] [] ?_
 obtain ⟨v8, hv9, h⟩ := bindS h
 refine qX (some 23) (pf v8 0) 27 [(23, pf v8 0), (20, E v6), (0, A a0), (1, A a1), (5, I x2)] [] (fun Γ' hΓ => CoreE.of_y (idxV_sound τ_ok (by kernel_rfl) hv9)) trivial ?_
 refine qv [] trivial 1 27 [(24, E v8), (20, E v6), (0, A a0), (1, A a1), (5, I x2)] [] ?_
 obtain ⟨v10, hv11, h⟩ := bindS h
 refine qX (some 25) (B v10) 27 [(25, B v10), (0, A a0), (1, A a1), (5, I x2)] [] (fun Γ' hΓ => CoreE.of_g (callV_sound (τ := τ) (by kernel_rfl) rfl (ok_laws_eqVersion hv11) (FzTo.frz rfl))) trivial ?_
 refine qvn [] trivial 1 27 [(0, A a0), (1, A a1), (5, I x2), (26, B (!v10))] [] ?_
 refine pc h (fun h => ?_) (fun h => ?_)
 refine srve 27 [(4, B false)] [] ?_
 cases h
 exact pwp_ret rz
 refine pwp_skip ?_
 refine rve 27 [(0, A a0), (1, A a1), (5, I (w64 (x2 + 1)))] [] ?_
 exact ⟨(f3, (w64 (x2 + 1))), h, Nat.lt_succ_self _, it [0, 1, 5]⟩
 refine pwp_exit ?_
 refine srve 27 [(4, B true)] [] ?_
 cases h
 exact pwp_ret rz
def laws_markVersionS_l0 : Nat → Int → Int → (List T_impl_Version) → Option (Int × List T_impl_Version)
 | 0, _, _, _ => none
 | f5 + 1, x2, x3, x4 => bif (decide (x3 < (x4.length : Int))) then (getI x4 x3).bind fun v8 => (getI (x4.set x3.toNat ({ v8 with fKey := x2 } : T_impl_Version)) x3).bind fun v10 => (getI ((x4.set x3.toNat ({ v8 with fKey := x2 } : T_impl_Version)).set x3.toNat ({ v10 with fBorn := (w64 (x2 + 1)) } : T_impl_Version)) x3).bind fun v12 => (getI (((x4.set x3.toNat ({ v8 with fKey := x2 } : T_impl_Version)).set x3.toNat ({ v10 with fBorn := (w64 (x2 + 1)) } : T_impl_Version)).set x3.toNat ({ v12 with fDied := (w64 ((w64 (x2 + 1)) + 1)) } : T_impl_Version)) x3).bind fun v14 => (laws_markValueS v14.fRow (w64 ((w64 ((w64 (x2 + 1)) + 1)) + 1))).bind fun v16 => (laws_markVersionS_l0 f5) v16.1 (w64 (x3 + 1)) ((((x4.set x3.toNat ({ v8 with fKey := x2 } : T_impl_Version)).set x3.toNat ({ v10 with fBorn := (w64 (x2 + 1)) } : T_impl_Version)).set x3.toNat ({ v12 with fDied := (w64 ((w64 (x2 + 1)) + 1)) } : T_impl_Version)).set x3.toNat ({ v14 with fRow := v16.2 } : T_impl_Version)) else some (x2, x4)
def laws_markVersionS (a0 : List T_impl_Version) (a1 : Int) : Option (Int × List T_impl_Version) := laws_markVersionS_l0 FUEL a1 0 a0
theorem len_laws_markVersionS_l0 : ∀ (f5 : Nat) (x2 : Int) (x3 : Int) (x4 : List T_impl_Version) (y : Int × List T_impl_Version), laws_markVersionS_l0 f5 x2 x3 x4 = some y → y.2.length = x4.length
 | 0, _, _, _, _, h => by cases h
 | f5 + 1, x2, x3, x4, y, h => by
  rw [laws_markVersionS_l0] at h
  rcases condS h with h | h
  ·obtain ⟨_, _, h⟩ := bindS h
   obtain ⟨_, _, h⟩ := bindS h
   obtain ⟨_, _, h⟩ := bindS h
   obtain ⟨_, _, h⟩ := bindS h
   obtain ⟨_, _, h⟩ := bindS h
   have h2 := len_laws_markVersionS_l0 f5 _ _ _ _ h
   simp only [List.length_set] at h2
   exact h2
  ·cases h; rfl
theorem len_laws_markVersionS {a0 : List T_impl_Version} {a1 : Int} {y : Int × List T_impl_Version} (h : laws_markVersionS a0 a1 = some y) : y.2.length = a0.length := by
 unfold laws_markVersionS at h
 exact len_laws_markVersionS_l0 _ _ _ _ _ h
theorem ok_laws_markVersionS {a0 : List T_impl_Version} {a1 : Int} {y : Int × List T_impl_Version} (h : laws_markVersionS a0 a1 = some y) : OKd Try.prog 13 4 a0.length (dL a0) [I a1] (.int .i64 y.1) (dL y.2) := by
 refine OKd_of_pwp τ_ok Try.func13 rfl (by kernel_rfl) rfl (dL_oc _) (dL_oc _) (dL_bl _) (dL_bl _) rfl (fun hl => by rw [dL_len, len_laws_markVersionS h, ← dL_len]; exact hl) fun Γ hQ => ?_
 refine pwp_imp (Imp.to (st' := ⟨41, [(0, rf 0 0 4 a0), (1, I a1)], [some ⟨0, dL a0⟩]⟩) [0, 1] (by kernel_rfl)) ?_
 unfold laws_markVersionS at h
 refine srve 41 [(0, rf 0 0 4 a0), (1, I a1)] [some ⟨0, dL a0⟩] ?_
 refine pwp_seq ?_
 refine srve 41 [(0, rf 0 0 4 a0), (1, I a1), (5, I 0)] [some ⟨0, dL a0⟩] ?_
 refine pwp_block ?_
 refine pwp_loop (ι := Nat × Int × Int × (List T_impl_Version)) (fun (f5, x2, x3, x4) => (⟨41, [(0, rf 0 0 4 x4), (1, I x2), (5, I x3)], [some ⟨0, dL x4⟩]⟩ : St)) (fun (f5, x2, x3, x4) => laws_markVersionS_l0 f5 x2 x3 x4 = some y) Prod.fst (FUEL, a1, 0, a0) h (it [0, 1, 5]) ?_
 rintro ⟨f5, x2, x3, x4⟩ h
 dsimp only at h ⊢
 rcases f5 with _ | f5
 cases h
 rw [laws_markVersionS_l0] at h
 refine pwp_seq ?_
 refine srve 41 [(0, rf 0 0 4 x4), (1, I x2), (5, I x3), (9, B (decide (x3 < (x4.length : Int))))] [some ⟨0, dL x4⟩] ?_
 refine pc h (fun h => ?_) (fun h => ?_)
 refine pwp_skip ?_
 refine pwp_seq ?_
 refine pwp_block ?_
 refine srv 3 41 [(0, rf 0 0 4 x4), (1, I x2), (5, I x3), (12, rf 0 0 4 x4), (13, I x3), (14, I x2)] [some ⟨0, dL x4⟩] ?_
 obtain ⟨v8, hv9, h⟩ := bindS h
 refine opsP_idr τ_ok 15 0 0 x4.length hv9 rfl (by kernel_rfl) ?_
 refine v 1 41 [(0, rf 0 0 4 x4), (1, I x2), (5, I x3), (14, I x2), (16, .ptr 0 0 (x3.toNat * 4))] [some ⟨0, dL x4⟩] ?_
 refine opsP_E (dd := none) (x := .any) (stdl_E (xs := x4) (vs := [I x2]) τ_ok 3 0 0 0 ({ v8 with fKey := x2 } : T_impl_Version) hv9 (by kernel_rfl) (by kernel_rfl) (by kernel_rfl)) ?_
 refine io 41 [(0, rf 0 0 4 x4), (1, I x2), (5, I x3), (14, I x2)] [some ⟨0, dL (x4.set x3.toNat ({ v8 with fKey := x2 } : T_impl_Version))⟩] ?_
 refine opsP_ren (st' := ⟨41, [(0, .ref 0 0 0 4 (x4.set x3.toNat ({ v8 with fKey := x2 } : T_impl_Version)).length false), (1, I x2), (5, I x3), (14, I x2)], [some ⟨0, dL (x4.set x3.toNat ({ v8 with fKey := x2 } : T_impl_Version))⟩]⟩) 0 (x4.set x3.toNat ({ v8 with fKey := x2 } : T_impl_Version)).length (renC (ren_ref (List.length_set ..).symm) (renC trivial (renC trivial (renC trivial renC0)))) (by kernel_rfl) ?_
 refine ve 0 41 [(0, .ref 0 0 0 4 (x4.set x3.toNat ({ v8 with fKey := x2 } : T_impl_Version)).length false), (1, I x2), (5, I x3)] [some ⟨0, dL (x4.set x3.toNat ({ v8 with fKey := x2 } : T_impl_Version))⟩] ?_
 refine srve 41 [(0, .ref 0 0 0 4 (x4.set x3.toNat ({ v8 with fKey := x2 } : T_impl_Version)).length false), (1, I (w64 (x2 + 1))), (5, I x3)] [some ⟨0, dL (x4.set x3.toNat ({ v8 with fKey := x2 } : T_impl_Version))⟩] ?_
 refine srv 3 41 [(0, .ref 0 0 0 4 (x4.set x3.toNat ({ v8 with fKey := x2 } : T_impl_Version)).length false), (1, I (w64 (x2 + 1))), (5, I x3), (19, .ref 0 0 0 4 (x4.set x3.toNat ({ v8 with fKey := x2 } : T_impl_Version)).length false), (20, I x3), (21, I (w64 (x2 + 1)))] [some ⟨0, dL (x4.set x3.toNat ({ v8 with fKey := x2 } : T_impl_Version))⟩] ?_
 obtain ⟨v10, hv11, h⟩ := bindS h
 refine opsP_idr τ_ok 22 0 0 (x4.set x3.toNat ({ v8 with fKey := x2 } : T_impl_Version)).length hv11 rfl (by kernel_rfl) ?_
 refine v 1 41 [(0, .ref 0 0 0 4 (x4.set x3.toNat ({ v8 with fKey := x2 } : T_impl_Version)).length false), (1, I (w64 (x2 + 1))), (5, I x3), (21, I (w64 (x2 + 1))), (23, .ptr 0 0 (x3.toNat * 4 + 1))] [some ⟨0, dL (x4.set x3.toNat ({ v8 with fKey := x2 } : T_impl_Version))⟩] ?_
 refine opsP_E (dd := none) (x := .any) (stdl_E (xs := (x4.set x3.toNat ({ v8 with fKey := x2 } : T_impl_Version))) (vs := [I (w64 (x2 + 1))]) τ_ok 3 0 0 1 ({ v10 with fBorn := (w64 (x2 + 1)) } : T_impl_Version) hv11 (by kernel_rfl) (by kernel_rfl) (by kernel_rfl)) ?_
 refine io 41 [(0, .ref 0 0 0 4 (x4.set x3.toNat ({ v8 with fKey := x2 } : T_impl_Version)).length false), (1, I (w64 (x2 + 1))), (5, I x3), (21, I (w64 (x2 + 1)))] [some ⟨0, dL ((x4.set x3.toNat ({ v8 with fKey := x2 } : T_impl_Version)).set x3.toNat ({ v10 with fBorn := (w64 (x2 + 1)) } : T_impl_Version))⟩] ?_
 refine opsP_ren (st' := ⟨41, [(0, .ref 0 0 0 4 ((x4.set x3.toNat ({ v8 with fKey := x2 } : T_impl_Version)).set x3.toNat ({ v10 with fBorn := (w64 (x2 + 1)) } : T_impl_Version)).length false), (1, I (w64 (x2 + 1))), (5, I x3), (21, I (w64 (x2 + 1)))], [some ⟨0, dL ((x4.set x3.toNat ({ v8 with fKey := x2 } : T_impl_Version)).set x3.toNat ({ v10 with fBorn := (w64 (x2 + 1)) } : T_impl_Version))⟩]⟩) 0 ((x4.set x3.toNat ({ v8 with fKey := x2 } : T_impl_Version)).set x3.toNat ({ v10 with fBorn := (w64 (x2 + 1)) } : T_impl_Version)).length (renC (ren_ref (List.length_set ..).symm) (renC trivial (renC trivial (renC trivial renC0)))) (by kernel_rfl) ?_
 refine ve 0 41 [(0, .ref 0 0 0 4 ((x4.set x3.toNat ({ v8 with fKey := x2 } : T_impl_Version)).set x3.toNat ({ v10 with fBorn := (w64 (x2 + 1)) } : T_impl_Version)).length false), (1, I (w64 (x2 + 1))), (5, I x3)] [some ⟨0, dL ((x4.set x3.toNat ({ v8 with fKey := x2 } : T_impl_Version)).set x3.toNat ({ v10 with fBorn := (w64 (x2 + 1)) } : T_impl_Version))⟩] ?_
 refine srve 41 [(0, .ref 0 0 0 4 ((x4.set x3.toNat ({ v8 with fKey := x2 } : T_impl_Version)).set x3.toNat ({ v10 with fBorn := (w64 (x2 + 1)) } : T_impl_Version)).length false), (1, I (w64 ((w64 (x2 + 1)) + 1))), (5, I x3)] [some ⟨0, dL ((x4.set x3.toNat ({ v8 with fKey := x2 } : T_impl_Version)).set x3.toNat ({ v10 with fBorn := (w64 (x2 + 1)) } : T_impl_Version))⟩] ?_
 refine srv 3 41 [(0, .ref 0 0 0 4 ((x4.set x3.toNat ({ v8 with fKey := x2 } : T_impl_Version)).set x3.toNat ({ v10 with fBorn := (w64 (x2 + 1)) } : T_impl_Version)).length false), (1, I (w64 ((w64 (x2 + 1)) + 1))), (5, I x3), (26, .ref 0 0 0 4 ((x4.set x3.toNat ({ v8 with fKey := x2 } : T_impl_Version)).set x3.toNat ({ v10 with fBorn := (w64 (x2 + 1)) } : T_impl_Version)).length false), (27, I x3), (28, I (w64 ((w64 (x2 + 1)) + 1)))] [some ⟨0, dL ((x4.set x3.toNat ({ v8 with fKey := x2 } : T_impl_Version)).set x3.toNat ({ v10 with fBorn := (w64 (x2 + 1)) } : T_impl_Version))⟩] ?_
 obtain ⟨v12, hv13, h⟩ := bindS h
 refine opsP_idr τ_ok 29 0 0 ((x4.set x3.toNat ({ v8 with fKey := x2 } : T_impl_Version)).set x3.toNat ({ v10 with fBorn := (w64 (x2 + 1)) } : T_impl_Version)).length hv13 rfl (by kernel_rfl) ?_
 refine v 1 41 [(0, .ref 0 0 0 4 ((x4.set x3.toNat ({ v8 with fKey := x2 } : T_impl_Version)).set x3.toNat ({ v10 with fBorn := (w64 (x2 + 1)) } : T_impl_Version)).length false), (1, I (w64 ((w64 (x2 + 1)) + 1))), (5, I x3), (28, I (w64 ((w64 (x2 + 1)) + 1))), (30, .ptr 0 0 (x3.toNat * 4 + 2))] [some ⟨0, dL ((x4.set x3.toNat ({ v8 with fKey := x2 } : T_impl_Version)).set x3.toNat ({ v10 with fBorn := (w64 (x2 + 1)) } : T_impl_Version))⟩] ?_
 refine opsP_E (dd := none) (x := .any) (stdl_E (xs := ((x4.set x3.toNat ({ v8 with fKey := x2 } : T_impl_Version)).set x3.toNat ({ v10 with fBorn := (w64 (x2 + 1)) } : T_impl_Version))) (vs := [I (w64 ((w64 (x2 + 1)) + 1))]) τ_ok 3 0 0 2 ({ v12 with fDied := (w64 ((w64 (x2 + 1)) + 1)) } : T_impl_Version) hv13 (by kernel_rfl) (by kernel_rfl) (by kernel_rfl)) ?_
 refine io 41 [(0, .ref 0 0 0 4 ((x4.set x3.toNat ({ v8 with fKey := x2 } : T_impl_Version)).set x3.toNat ({ v10 with fBorn := (w64 (x2 + 1)) } : T_impl_Version)).length false), (1, I (w64 ((w64 (x2 + 1)) + 1))), (5, I x3), (28, I (w64 ((w64 (x2 + 1)) + 1)))] [some ⟨0, dL (((x4.set x3.toNat ({ v8 with fKey := x2 } : T_impl_Version)).set x3.toNat ({ v10 with fBorn := (w64 (x2 + 1)) } : T_impl_Version)).set x3.toNat ({ v12 with fDied := (w64 ((w64 (x2 + 1)) + 1)) } : T_impl_Version))⟩] ?_
 refine opsP_ren (st' := ⟨41, [(0, .ref 0 0 0 4 (((x4.set x3.toNat ({ v8 with fKey := x2 } : T_impl_Version)).set x3.toNat ({ v10 with fBorn := (w64 (x2 + 1)) } : T_impl_Version)).set x3.toNat ({ v12 with fDied := (w64 ((w64 (x2 + 1)) + 1)) } : T_impl_Version)).length false), (1, I (w64 ((w64 (x2 + 1)) + 1))), (5, I x3), (28, I (w64 ((w64 (x2 + 1)) + 1)))], [some ⟨0, dL (((x4.set x3.toNat ({ v8 with fKey := x2 } : T_impl_Version)).set x3.toNat ({ v10 with fBorn := (w64 (x2 + 1)) } : T_impl_Version)).set x3.toNat ({ v12 with fDied := (w64 ((w64 (x2 + 1)) + 1)) } : T_impl_Version))⟩]⟩) 0 (((x4.set x3.toNat ({ v8 with fKey := x2 } : T_impl_Version)).set x3.toNat ({ v10 with fBorn := (w64 (x2 + 1)) } : T_impl_Version)).set x3.toNat ({ v12 with fDied := (w64 ((w64 (x2 + 1)) + 1)) } : T_impl_Version)).length (renC (ren_ref (List.length_set ..).symm) (renC trivial (renC trivial (renC trivial renC0)))) (by kernel_rfl) ?_
 refine ve 0 41 [(0, .ref 0 0 0 4 (((x4.set x3.toNat ({ v8 with fKey := x2 } : T_impl_Version)).set x3.toNat ({ v10 with fBorn := (w64 (x2 + 1)) } : T_impl_Version)).set x3.toNat ({ v12 with fDied := (w64 ((w64 (x2 + 1)) + 1)) } : T_impl_Version)).length false), (1, I (w64 ((w64 (x2 + 1)) + 1))), (5, I x3)] [some ⟨0, dL (((x4.set x3.toNat ({ v8 with fKey := x2 } : T_impl_Version)).set x3.toNat ({ v10 with fBorn := (w64 (x2 + 1)) } : T_impl_Version)).set x3.toNat ({ v12 with fDied := (w64 ((w64 (x2 + 1)) + 1)) } : T_impl_Version))⟩] ?_
 refine srve 41 [(0, .ref 0 0 0 4 (((x4.set x3.toNat ({ v8 with fKey := x2 } : T_impl_Version)).set x3.toNat ({ v10 with fBorn := (w64 (x2 + 1)) } : T_impl_Version)).set x3.toNat ({ v12 with fDied := (w64 ((w64 (x2 + 1)) + 1)) } : T_impl_Version)).length false), (1, I (w64 ((w64 ((w64 (x2 + 1)) + 1)) + 1))), (5, I x3)] [some ⟨0, dL (((x4.set x3.toNat ({ v8 with fKey := x2 } : T_impl_Version)).set x3.toNat ({ v10 with fBorn := (w64 (x2 + 1)) } : T_impl_Version)).set x3.toNat ({ v12 with fDied := (w64 ((w64 (x2 + 1)) + 1)) } : T_impl_Version))⟩] ?_
 refine rv 2 41 [(0, .ref 0 0 0 4 (((x4.set x3.toNat ({ v8 with fKey := x2 } : T_impl_Version)).set x3.toNat ({ v10 with fBorn := (w64 (x2 + 1)) } : T_impl_Version)).set x3.toNat ({ v12 with fDied := (w64 ((w64 (x2 + 1)) + 1)) } : T_impl_Version)).length false), (1, I (w64 ((w64 ((w64 (x2 + 1)) + 1)) + 1))), (5, I x3), (33, .ref 0 0 0 4 (((x4.set x3.toNat ({ v8 with fKey := x2 } : T_impl_Version)).set x3.toNat ({ v10 with fBorn := (w64 (x2 + 1)) } : T_impl_Version)).set x3.toNat ({ v12 with fDied := (w64 ((w64 (x2 + 1)) + 1)) } : T_impl_Version)).length false), (34, I x3)] [some ⟨0, dL (((x4.set x3.toNat ({ v8 with fKey := x2 } : T_impl_Version)).set x3.toNat ({ v10 with fBorn := (w64 (x2 + 1)) } : T_impl_Version)).set x3.toNat ({ v12 with fDied := (w64 ((w64 (x2 + 1)) + 1)) } : T_impl_Version))⟩] ?_
 obtain ⟨v14, hv15, h⟩ := bindS h
 refine opsP_idr τ_ok 35 0 0 (((x4.set x3.toNat ({ v8 with fKey := x2 } : T_impl_Version)).set x3.toNat ({ v10 with fBorn := (w64 (x2 + 1)) } : T_impl_Version)).set x3.toNat ({ v12 with fDied := (w64 ((w64 (x2 + 1)) + 1)) } : T_impl_Version)).length hv15 rfl (by kernel_rfl) ?_
 refine v 1 41 [(0, .ref 0 0 0 4 (((x4.set x3.toNat ({ v8 with fKey := x2 } : T_impl_Version)).set x3.toNat ({ v10 with fBorn := (w64 (x2 + 1)) } : T_impl_Version)).set x3.toNat ({ v12 with fDied := (w64 ((w64 (x2 + 1)) + 1)) } : T_impl_Version)).length false), (1, I (w64 ((w64 ((w64 (x2 + 1)) + 1)) + 1))), (5, I x3), (36, .ptr 0 0 (x3.toNat * 4 + 3))] [some ⟨0, dL (((x4.set x3.toNat ({ v8 with fKey := x2 } : T_impl_Version)).set x3.toNat ({ v10 with fBorn := (w64 (x2 + 1)) } : T_impl_Version)).set x3.toNat ({ v12 with fDied := (w64 ((w64 (x2 + 1)) + 1)) } : T_impl_Version))⟩] ?_
 refine io 41 [(0, .ref 0 0 0 4 (((x4.set x3.toNat ({ v8 with fKey := x2 } : T_impl_Version)).set x3.toNat ({ v10 with fBorn := (w64 (x2 + 1)) } : T_impl_Version)).set x3.toNat ({ v12 with fDied := (w64 ((w64 (x2 + 1)) + 1)) } : T_impl_Version)).length false), (1, I (w64 ((w64 ((w64 (x2 + 1)) + 1)) + 1))), (5, I x3), (36, .ptr 0 0 (x3.toNat * 4 + 3))] [some ⟨0, dL (((x4.set x3.toNat ({ v8 with fKey := x2 } : T_impl_Version)).set x3.toNat ({ v10 with fBorn := (w64 (x2 + 1)) } : T_impl_Version)).set x3.toNat ({ v12 with fDied := (w64 ((w64 (x2 + 1)) + 1)) } : T_impl_Version))⟩] ?_
 refine opsP_imp (Imp.ghosts 1 (st' := ⟨41, [(0, .ref 0 0 0 4 (((x4.set x3.toNat ({ v8 with fKey := x2 } : T_impl_Version)).set x3.toNat ({ v10 with fBorn := (w64 (x2 + 1)) } : T_impl_Version)).set x3.toNat ({ v12 with fDied := (w64 ((w64 (x2 + 1)) + 1)) } : T_impl_Version)).length false), (1, I (w64 ((w64 ((w64 (x2 + 1)) + 1)) + 1))), (5, I x3), (36, .ptr 0 0 (x3.toNat * 4 + 3))], [some ⟨0, dL (((x4.set x3.toNat ({ v8 with fKey := x2 } : T_impl_Version)).set x3.toNat ({ v10 with fBorn := (w64 (x2 + 1)) } : T_impl_Version)).set x3.toNat ({ v12 with fDied := (w64 ((w64 (x2 + 1)) + 1)) } : T_impl_Version))⟩, some ⟨0, []⟩]⟩) (by kernel_rfl)) ?_
 refine opsP_E (dd := some 37) (x := rf 1 1 3 v14.fRow) (CoreE.pre (H1 := [some ⟨0, setL (dL (((x4.set x3.toNat ({ v8 with fKey := x2 } : T_impl_Version)).set x3.toNat ({ v10 with fBorn := (w64 (x2 + 1)) } : T_impl_Version)).set x3.toNat ({ v12 with fDied := (w64 ((w64 (x2 + 1)) + 1)) } : T_impl_Version))) (x3.toNat * 4 + 3) [rf 1 1 3 v14.fRow]⟩, sl 1 v14.fRow]) (HStep.openL (cs0 := []) (xs := (((x4.set x3.toNat ({ v8 with fKey := x2 } : T_impl_Version)).set x3.toNat ({ v10 with fBorn := (w64 (x2 + 1)) } : T_impl_Version)).set x3.toNat ({ v12 with fDied := (w64 ((w64 (x2 + 1)) + 1)) } : T_impl_Version))) (s := 3) (n := v14.fRow.length) (f := false) (cs := eL v14.fRow) 0 0 1 0 3 hv15 (by kernel_rfl) (by kernel_rfl) (by kernel_rfl) (by kernel_rfl) (by decide) (by first | exact pn hQ | exact pk hQ) (by kernel_rfl)) (ldo_E (xs := (((x4.set x3.toNat ({ v8 with fKey := x2 } : T_impl_Version)).set x3.toNat ({ v10 with fBorn := (w64 (x2 + 1)) } : T_impl_Version)).set x3.toNat ({ v12 with fDied := (w64 ((w64 (x2 + 1)) + 1)) } : T_impl_Version))) τ_ok 37 43 3 hv15 (by kernel_rfl) (by kernel_rfl) (by kernel_rfl))) ?_
 refine v 1 41 [(0, .ref 0 0 0 4 (((x4.set x3.toNat ({ v8 with fKey := x2 } : T_impl_Version)).set x3.toNat ({ v10 with fBorn := (w64 (x2 + 1)) } : T_impl_Version)).set x3.toNat ({ v12 with fDied := (w64 ((w64 (x2 + 1)) + 1)) } : T_impl_Version)).length false), (5, I x3), (37, rf 1 1 3 v14.fRow), (38, I (w64 ((w64 ((w64 (x2 + 1)) + 1)) + 1)))] [some ⟨0, setL (dL (((x4.set x3.toNat ({ v8 with fKey := x2 } : T_impl_Version)).set x3.toNat ({ v10 with fBorn := (w64 (x2 + 1)) } : T_impl_Version)).set x3.toNat ({ v12 with fDied := (w64 ((w64 (x2 + 1)) + 1)) } : T_impl_Version))) (x3.toNat * 4 + 3) [rf 1 1 3 v14.fRow]⟩, sl 1 v14.fRow] ?_
 obtain ⟨v16, hv17, h⟩ := bindS h
 refine opsP_E (dd := some 39) (x := I v16.1) ((callD_E τ 39 1 1 (ok_laws_markValueS hv17) (by kernel_rfl)).then (H2 := [some ⟨0, dL ((((x4.set x3.toNat ({ v8 with fKey := x2 } : T_impl_Version)).set x3.toNat ({ v10 with fBorn := (w64 (x2 + 1)) } : T_impl_Version)).set x3.toNat ({ v12 with fDied := (w64 ((w64 (x2 + 1)) + 1)) } : T_impl_Version)).set x3.toNat ({ v14 with fRow := v16.2 } : T_impl_Version))⟩, some ⟨2, []⟩]) (HStep.nestL (xs := (((x4.set x3.toNat ({ v8 with fKey := x2 } : T_impl_Version)).set x3.toNat ({ v10 with fBorn := (w64 (x2 + 1)) } : T_impl_Version)).set x3.toNat ({ v12 with fDied := (w64 ((w64 (x2 + 1)) + 1)) } : T_impl_Version))) (vs := [rf 1 1 3 v14.fRow]) 0 0 3 ({ v14 with fRow := v16.2 } : T_impl_Version) hv15 (by kernel_rfl) (OutL.cons (OutP.listn (v := 1) (xs := v16.2) (len_laws_markValueS hv17) (by kernel_rfl)) (OutL.nil _)) (by decide) (by decide) (by first | exact pn hQ | exact pk hQ) (by kernel_rfl) (by kernel_rfl) (by kernel_rfl) (by kernel_rfl))) ?_
 refine io 41 [(0, .ref 0 0 0 4 (((x4.set x3.toNat ({ v8 with fKey := x2 } : T_impl_Version)).set x3.toNat ({ v10 with fBorn := (w64 (x2 + 1)) } : T_impl_Version)).set x3.toNat ({ v12 with fDied := (w64 ((w64 (x2 + 1)) + 1)) } : T_impl_Version)).length false), (5, I x3), (38, I (w64 ((w64 ((w64 (x2 + 1)) + 1)) + 1))), (39, I v16.1)] [some ⟨0, dL ((((x4.set x3.toNat ({ v8 with fKey := x2 } : T_impl_Version)).set x3.toNat ({ v10 with fBorn := (w64 (x2 + 1)) } : T_impl_Version)).set x3.toNat ({ v12 with fDied := (w64 ((w64 (x2 + 1)) + 1)) } : T_impl_Version)).set x3.toNat ({ v14 with fRow := v16.2 } : T_impl_Version))⟩, some ⟨2, []⟩] ?_
 refine opsP_ren (st' := ⟨41, [(0, .ref 0 0 0 4 ((((x4.set x3.toNat ({ v8 with fKey := x2 } : T_impl_Version)).set x3.toNat ({ v10 with fBorn := (w64 (x2 + 1)) } : T_impl_Version)).set x3.toNat ({ v12 with fDied := (w64 ((w64 (x2 + 1)) + 1)) } : T_impl_Version)).set x3.toNat ({ v14 with fRow := v16.2 } : T_impl_Version)).length false), (5, I x3), (38, I (w64 ((w64 ((w64 (x2 + 1)) + 1)) + 1))), (39, I v16.1)], [some ⟨0, dL ((((x4.set x3.toNat ({ v8 with fKey := x2 } : T_impl_Version)).set x3.toNat ({ v10 with fBorn := (w64 (x2 + 1)) } : T_impl_Version)).set x3.toNat ({ v12 with fDied := (w64 ((w64 (x2 + 1)) + 1)) } : T_impl_Version)).set x3.toNat ({ v14 with fRow := v16.2 } : T_impl_Version))⟩, some ⟨2, []⟩]⟩) 0 ((((x4.set x3.toNat ({ v8 with fKey := x2 } : T_impl_Version)).set x3.toNat ({ v10 with fBorn := (w64 (x2 + 1)) } : T_impl_Version)).set x3.toNat ({ v12 with fDied := (w64 ((w64 (x2 + 1)) + 1)) } : T_impl_Version)).set x3.toNat ({ v14 with fRow := v16.2 } : T_impl_Version)).length (renC (ren_ref (List.length_set ..).symm) (renC trivial (renC trivial (renC trivial renC0)))) (by kernel_rfl) ?_
 refine ve 1 41 [(0, .ref 0 0 0 4 ((((x4.set x3.toNat ({ v8 with fKey := x2 } : T_impl_Version)).set x3.toNat ({ v10 with fBorn := (w64 (x2 + 1)) } : T_impl_Version)).set x3.toNat ({ v12 with fDied := (w64 ((w64 (x2 + 1)) + 1)) } : T_impl_Version)).set x3.toNat ({ v14 with fRow := v16.2 } : T_impl_Version)).length false), (1, I v16.1), (5, I x3)] [some ⟨0, dL ((((x4.set x3.toNat ({ v8 with fKey := x2 } : T_impl_Version)).set x3.toNat ({ v10 with fBorn := (w64 (x2 + 1)) } : T_impl_Version)).set x3.toNat ({ v12 with fDied := (w64 ((w64 (x2 + 1)) + 1)) } : T_impl_Version)).set x3.toNat ({ v14 with fRow := v16.2 } : T_impl_Version))⟩, some ⟨2, []⟩] ?_
 refine rve 41 [(0, .ref 0 0 0 4 ((((x4.set x3.toNat ({ v8 with fKey := x2 } : T_impl_Version)).set x3.toNat ({ v10 with fBorn := (w64 (x2 + 1)) } : T_impl_Version)).set x3.toNat ({ v12 with fDied := (w64 ((w64 (x2 + 1)) + 1)) } : T_impl_Version)).set x3.toNat ({ v14 with fRow := v16.2 } : T_impl_Version)).length false), (1, I v16.1), (5, I (w64 (x3 + 1)))] [some ⟨0, dL ((((x4.set x3.toNat ({ v8 with fKey := x2 } : T_impl_Version)).set x3.toNat ({ v10 with fBorn := (w64 (x2 + 1)) } : T_impl_Version)).set x3.toNat ({ v12 with fDied := (w64 ((w64 (x2 + 1)) + 1)) } : T_impl_Version)).set x3.toNat ({ v14 with fRow := v16.2 } : T_impl_Version))⟩, some ⟨2, []⟩] ?_
 exact ⟨(f5, v16.1, (w64 (x3 + 1)), ((((x4.set x3.toNat ({ v8 with fKey := x2 } : T_impl_Version)).set x3.toNat ({ v10 with fBorn := (w64 (x2 + 1)) } : T_impl_Version)).set x3.toNat ({ v12 with fDied := (w64 ((w64 (x2 + 1)) + 1)) } : T_impl_Version)).set x3.toNat ({ v14 with fRow := v16.2 } : T_impl_Version))), h, Nat.lt_succ_self _, (it (st' := ⟨41, [(0, .ref 0 0 0 4 ((((x4.set x3.toNat ({ v8 with fKey := x2 } : T_impl_Version)).set x3.toNat ({ v10 with fBorn := (w64 (x2 + 1)) } : T_impl_Version)).set x3.toNat ({ v12 with fDied := (w64 ((w64 (x2 + 1)) + 1)) } : T_impl_Version)).set x3.toNat ({ v14 with fRow := v16.2 } : T_impl_Version)).length false), (1, I v16.1), (5, I (w64 (x3 + 1)))], [some ⟨0, dL ((((x4.set x3.toNat ({ v8 with fKey := x2 } : T_impl_Version)).set x3.toNat ({ v10 with fBorn := (w64 (x2 + 1)) } : T_impl_Version)).set x3.toNat ({ v12 with fDied := (w64 ((w64 (x2 + 1)) + 1)) } : T_impl_Version)).set x3.toNat ({ v14 with fRow := v16.2 } : T_impl_Version))⟩, some ⟨2, []⟩]⟩) [0, 1, 5]).trans (Imp.truncS 1 (pl hQ) (by kernel_rfl) (allBelow_mem (by exact (And.intro rfl (And.intro rfl (And.intro rfl trivial))))) (by exact (And.intro (dL_below _ _) trivial)) (by kernel_rfl))⟩
 refine pwp_exit ?_
 refine srve 41 [(4, I x2)] [some ⟨0, dL x4⟩] ?_
 have h := si h
 subst h
 exact pwp_ret ⟨.inr rfl, 0, by kernel_rfl, by kernel_rfl⟩
def laws_szVersion (a0 : T_laws_Version) (a1 : Int) : Option Int := (laws_szValueS a0.fRow a1).bind fun v1 => bif (decide (v1 < 0)) then some (-1) else some v1
theorem ok_laws_szVersion {a0 : T_laws_Version} {a1 : Int} {y : Int} (h : laws_szVersion a0 a1 = some y) : OK Try.prog 33 [E a0, I a1] (I y) := by
 refine ow Try.func33 fun Γ hX => ?_
 unfold laws_szVersion at h
 refine srve 12 [(1, I a1), (2, pf a0 0)] [] ?_
 refine srv 3 12 [(6, A a0.fRow), (7, I a1)] [] ?_
 obtain ⟨v1, hv2, h⟩ := bindS h
 refine cF 8 (ok_laws_szValueS hv2) ?_
 refine ve 1 12 [(1, I v1)] [] ?_
 refine pwp_seq ?_
 refine srve 12 [(1, I v1), (10, B (decide (v1 < 0)))] [] ?_
 refine pc h (fun h => ?_) (fun h => ?_)
 refine srve 12 [(4, I (-1))] [] ?_
 cases h
 exact pwp_ret rz
 refine pwp_skip ?_
 refine srve 12 [(4, I v1)] [] ?_
 cases h
 exact pwp_ret rz
def impl_RowOk (a0 : List T_impl_Value) : Option Bool := bif (decide ((a0.length : Int) ≤ 4)) then (slices_ContainsFunc_impl_Value_impl_Value a0 impl_RowOk_1).bind fun v1 => some (!v1) else some false
theorem ok_impl_RowOk {a0 : List T_impl_Value} {y : Bool} (h : impl_RowOk a0 = some y) : OK Try.prog 54 [A a0] (B y) := by
 refine ow Try.func54 fun Γ hX => ?_
 unfold impl_RowOk at h
 refine srve 11 [(0, A a0)] [] ?_
 refine srv 4 11 [(0, A a0), (6, B (decide ((a0.length : Int) ≤ 4)))] [] ?_
 rcases fk (decide ((a0.length : Int) ≤ 4)) with hc3 | hc3
 replace h := bT hc3 h
 rw [hc3]
 refine v 1 11 [(6, B true), (7, A a0)] [] ?_
 obtain ⟨v1, hv2, h⟩ := bindS h
 refine cF 8 (ok_slices_ContainsFunc_impl_Value_impl_Value (rfl) (fun _ w hw => ok_impl_RowOk_1 hw) hv2) ?_
 refine ve 3 11 [(2, B (!v1))] [] ?_
 cases h
 exact pwp_ret rz
 replace h := bF hc3 h
 rw [hc3]
 refine ve 5 11 [(2, B false)] [] ?_
 cases h
 exact pwp_ret rz
def spec_l13Version (a0 : T_impl_Version) : Option Bool := (spec_l1In a0.fKey 0 4).bind fun v1 => bif v1 then (spec_l1In a0.fBorn 1 40).bind fun v3 => bif v3 then bif (a0.fDied == 0) then (spec_RowOk a0.fRow).bind fun v5 => some v5 else (spec_l1In a0.fDied (w64 (a0.fBorn + 1)) 40).bind fun v7 => bif v7 then (spec_RowOk a0.fRow).bind fun v9 => some v9 else some false else some false else some false
theorem ok_spec_l13Version {a0 : T_impl_Version} {y : Bool} (h : spec_l13Version a0 = some y) : OK Try.prog 74 [E a0] (B y) := by
 refine ow Try.func74 fun Γ hX => ?_
 unfold spec_l13Version at h
 refine srve 29 [(1, pf a0 0)] [] ?_
 refine srv 2 29 [(1, pf a0 0), (4, I a0.fKey)] [] ?_
 obtain ⟨v1, hv2, h⟩ := bindS h
 refine cF 5 (ok_spec_l1In hv2) ?_
 refine v 1 29 [(1, pf a0 0), (6, B v1)] [] ?_
 rcases Bool.eq_false_or_eq_true v1 with hc14 | hc14
 replace h := bT hc14 h
 rw [hc14]
 refine v 2 29 [(1, pf a0 0), (6, B true), (8, I a0.fBorn)] [] ?_
 obtain ⟨v3, hv4, h⟩ := bindS h
 refine cF 9 (ok_spec_l1In hv4) ?_
 refine v 2 29 [(1, pf a0 0), (11, B v3)] [] ?_
 rcases Bool.eq_false_or_eq_true v3 with hc13 | hc13
 replace h := bT hc13 h
 rw [hc13]
 refine v 4 29 [(1, pf a0 0), (11, B true), (15, B (a0.fDied == 0))] [] ?_
 rcases fk (a0.fDied == 0) with hc12 | hc12
 replace h := bT hc12 h
 rw [hc12]
 refine v 11 29 [(24, B true), (26, A a0.fRow)] [] ?_
 obtain ⟨v5, hv6, h⟩ := bindS h
 refine cF 27 (ok_spec_RowOk hv6) ?_
 refine ve 2 29 [(2, B v5)] [] ?_
 cases h
 exact pwp_ret rz
 replace h := bF hc12 h
 rw [hc12]
 refine v 5 29 [(1, pf a0 0), (11, B true), (15, B false), (17, I a0.fDied), (20, I (w64 (a0.fBorn + 1)))] [] ?_
 obtain ⟨v7, hv8, h⟩ := bindS h
 refine cF 21 (ok_spec_l1In hv8) ?_
 refine v 3 29 [(1, pf a0 0), (24, B v7)] [] ?_
 rcases Bool.eq_false_or_eq_true v7 with hc11 | hc11
 replace h := bT hc11 h
 rw [hc11]
 refine v 2 29 [(24, B true), (26, A a0.fRow)] [] ?_
 obtain ⟨v9, hv10, h⟩ := bindS h
 refine cF 27 (ok_spec_RowOk hv10) ?_
 refine ve 2 29 [(2, B v9)] [] ?_
 cases h
 exact pwp_ret rz
 replace h := bF hc11 h
 rw [hc11]
 refine ve 5 29 [(2, B false)] [] ?_
 cases h
 exact pwp_ret rz
 replace h := bF hc13 h
 rw [hc13]
 refine ve 18 29 [(2, B false)] [] ?_
 cases h
 exact pwp_ret rz
 replace h := bF hc14 h
 rw [hc14]
 refine ve 23 29 [(2, B false)] [] ?_
 cases h
 exact pwp_ret rz
def spec_l31Less (a0 : T_impl_Mark) (a1 : T_impl_Mark) : Option Bool := (spec_ValueOrder a0.fV a1.fV).bind fun v1 => bif (!(v1 == 0)) then some (decide (v1 < 0)) else bif (decide (a0.fKey < a1.fKey)) then some true else bif (a0.fKey == a1.fKey) then some (decide (a0.fBorn < a1.fBorn)) else some false
theorem ok_spec_l31Less {a0 : T_impl_Mark} {a1 : T_impl_Mark} {y : Bool} (h : spec_l31Less a0 a1 = some y) : OK Try.prog 75 [E a0, E a1] (B y) := by
 refine ow Try.func75 fun Γ hX => ?_
 unfold spec_l31Less at h
 refine srve 34 [(2, pf a0 0), (3, pf a1 0)] [] ?_
 refine pwp_seq ?_
 refine srv 4 34 [(2, pf a0 0), (3, pf a1 0), (7, E a0.fV), (9, E a1.fV)] [] ?_
 obtain ⟨v1, hv2, h⟩ := bindS h
 refine cF 10 (ok_spec_ValueOrder hv2) ?_
 refine ve 1 34 [(2, pf a0 0), (3, pf a1 0), (5, I v1)] [] ?_
 refine srve 34 [(2, pf a0 0), (3, pf a1 0), (5, I v1), (12, B (!(v1 == 0)))] [] ?_
 refine pc h (fun h => ?_) (fun h => ?_)
 refine srve 34 [(4, B (decide (v1 < 0)))] [] ?_
 cases h
 exact pwp_ret rz
 refine pwp_skip ?_
 refine srv 6 34 [(2, pf a0 0), (3, pf a1 0), (20, B (decide (a0.fKey < a1.fKey)))] [] ?_
 rcases fk (decide (a0.fKey < a1.fKey)) with hc5 | hc5
 replace h := bT hc5 h
 rw [hc5]
 refine ve 14 34 [(4, B true)] [] ?_
 cases h
 exact pwp_ret rz
 replace h := bF hc5 h
 rw [hc5]
 refine v 6 34 [(2, pf a0 0), (3, pf a1 0), (20, B false), (26, B (a0.fKey == a1.fKey))] [] ?_
 rcases fk (a0.fKey == a1.fKey) with hc4 | hc4
 replace h := bT hc4 h
 rw [hc4]
 refine ve 8 34 [(4, B (decide (a0.fBorn < a1.fBorn)))] [] ?_
 cases h
 exact pwp_ret rz
 replace h := bF hc4 h
 rw [hc4]
 refine ve 8 34 [(4, B false)] [] ?_
 cases h
 exact pwp_ret rz
def impl_Value_order (a0 : T_impl_Value) (a1 : T_impl_Value) : Option Int := (cmp_Compare_int a0.fKind a1.fKind).bind fun v1 => (cmp_Compare_int a0.fN a1.fN).bind fun v3 => (cmp_Compare_string a0.fS a1.fS).bind fun v5 => (cmp_Or_int ([v1, v3, v5])).bind fun v7 => some v7
theorem ok_impl_Value_order {a0 : T_impl_Value} {a1 : T_impl_Value} {y : Int} (h : impl_Value_order a0 a1 = some y) : OK Try.prog 80 [E a0, E a1] (I y) := by
 refine ow Try.func80 fun Γ hX => ?_
 unfold impl_Value_order at h
 refine srve 22 [(2, pf a0 0), (3, pf a1 0)] [] ?_
 refine pwp_seq ?_
 refine ip 22 [(2, pf a0 0), (3, pf a1 0)] [] ?_
 refine pN 18 ?_
 refine qv [] trivial 4 22 [(8, I a1.fKind), (6, I a0.fKind), (2, pf a0 0), (3, pf a1 0)] [] ?_
 obtain ⟨v1, hv2, h⟩ := bindS h
 refine qX (some 9) (I v1) 22 [(9, I v1), (2, pf a0 0), (3, pf a1 0)] [] (fun Γ' hΓ => CoreE.of_g (callV_sound (τ := τ) (by kernel_rfl) rfl (ok_cmp_Compare_int hv2) (FzTo.frz rfl))) trivial ?_
 refine qv [] trivial 4 22 [(13, I a1.fN), (11, I a0.fN), (9, I v1), (2, pf a0 0), (3, pf a1 0)] [] ?_
 obtain ⟨v3, hv4, h⟩ := bindS h
 refine qX (some 14) (I v3) 22 [(14, I v3), (9, I v1), (2, pf a0 0), (3, pf a1 0)] [] (fun Γ' hΓ => CoreE.of_g (callV_sound (τ := τ) (by kernel_rfl) rfl (ok_cmp_Compare_int hv4) (FzTo.frz rfl))) trivial ?_
 refine qv [] trivial 4 22 [(18, S a1.fS), (16, S a0.fS), (14, I v3), (9, I v1)] [] ?_
 obtain ⟨v5, hv6, h⟩ := bindS h
 refine qX (some 19) (I v5) 22 [(19, I v5), (14, I v3), (9, I v1)] [] (fun Γ' hΓ => CoreE.of_g (callV_sound (τ := τ) (by kernel_rfl) rfl (ok_cmp_Compare_string hv6) (FzTo.frz rfl))) trivial ?_
 refine qv [] trivial 1 22 [(20, .arr 1 ([v1, v3, v5] : List Int).length (eL ([v1, v3, v5] : List Int)) true)] [] ?_
 obtain ⟨v7, hv8, h⟩ := bindS h
 refine qX (some 21) (I v7) 22 [(21, I v7)] [] (fun Γ' hΓ => CoreE.of_g (callV_sound (τ := τ) (by kernel_rfl) rfl (ok_cmp_Or_int hv8) (FzTo.frz rfl))) trivial ?_
 refine qvn [] trivial 1 22 [(4, I v7)] [] ?_
 cases h
 exact pwp_ret rz
def laws_szVersionS_l0 (a0 : List T_laws_Version) : Nat → Int → Int → Option Int
 | 0, _, _ => none
 | f4 + 1, x2, x3 => bif (decide (x3 < (a0.length : Int))) then (getI a0 x3).bind fun v7 => (laws_szVersion v7 x2).bind fun v9 => bif (decide (v9 < 0)) then some (-1) else (laws_szVersionS_l0 a0 f4) v9 (w64 (x3 + 1)) else some x2
def laws_szVersionS (a0 : List T_laws_Version) (a1 : Int) : Option Int := bif (decide ((w64 (a1 - (a0.length : Int))) < 0)) then some (-1) else laws_szVersionS_l0 a0 FUEL (w64 (a1 - (a0.length : Int))) 0
theorem ok_laws_szVersionS {a0 : List T_laws_Version} {a1 : Int} {y : Int} (h : laws_szVersionS a0 a1 = some y) : OK Try.prog 7 [A a0, I a1] (I y) := by
 refine ow Try.func7 fun Γ hX => ?_
 unfold laws_szVersionS at h
 refine srve 27 [(0, A a0), (1, I a1)] [] ?_
 refine srve 27 [(0, A a0), (1, I (w64 (a1 - (a0.length : Int))))] [] ?_
 refine pwp_seq ?_
 refine srve 27 [(0, A a0), (1, I (w64 (a1 - (a0.length : Int)))), (11, B (decide ((w64 (a1 - (a0.length : Int))) < 0)))] [] ?_
 refine pc h (fun h => ?_) (fun h => ?_)
 refine srve 27 [(4, I (-1))] [] ?_
 cases h
 exact pwp_ret rz
 refine pwp_skip ?_
 refine pwp_seq ?_
 refine srve 27 [(0, A a0), (1, I (w64 (a1 - (a0.length : Int)))), (5, I 0)] [] ?_
 refine pwp_block ?_
 refine pwp_loop (ι := Nat × Int × Int) (fun (f4, x2, x3) => (⟨27, [(0, A a0), (1, I x2), (5, I x3)], []⟩ : St)) (fun (f4, x2, x3) => laws_szVersionS_l0 a0 f4 x2 x3 = some y) Prod.fst (FUEL, (w64 (a1 - (a0.length : Int))), 0) h (it [0, 1, 5]) ?_
 rintro ⟨f4, x2, x3⟩ h
 dsimp only at h ⊢
 rcases f4 with _ | f4
 cases h
 rw [laws_szVersionS_l0] at h
 refine pwp_seq ?_
 refine srve 27 [(0, A a0), (1, I x2), (5, I x3), (15, B (decide (x3 < (a0.length : Int))))] [] ?_
 refine pc h (fun h => ?_) (fun h => ?_)
 refine pwp_skip ?_
 refine pwp_seq ?_
 refine pwp_block ?_
 refine srv 2 27 [(0, A a0), (1, I x2), (5, I x3), (18, A a0), (19, I x3)] [] ?_
 obtain ⟨v7, hv8, h⟩ := bindS h
 refine opsP_idx τ_ok 20 hv8 (by kernel_rfl) ?_
 refine v 2 27 [(0, A a0), (5, I x3), (21, E v7), (22, I x2)] [] ?_
 obtain ⟨v9, hv10, h⟩ := bindS h
 refine cF 23 (ok_laws_szVersion hv10) ?_
 refine ve 1 27 [(0, A a0), (1, I v9), (5, I x3)] [] ?_
 refine srve 27 [(0, A a0), (1, I v9), (5, I x3), (25, B (decide (v9 < 0)))] [] ?_
 refine pc h (fun h => ?_) (fun h => ?_)
 refine srve 27 [(4, I (-1))] [] ?_
 cases h
 exact pwp_ret rz
 refine pwp_skip ?_
 refine rve 27 [(0, A a0), (1, I v9), (5, I (w64 (x3 + 1)))] [] ?_
 exact ⟨(f4, v9, (w64 (x3 + 1))), h, Nat.lt_succ_self _, it [0, 1, 5]⟩
 refine pwp_exit ?_
 refine srve 27 [(4, I x2)] [] ?_
 cases h
 exact pwp_ret rz
def impl_VersionsOk_j2 (x1 : Int) (K3 : Int → Option Bool) (x12 : Bool) : Option Bool := bif x12 then some false else K3 (w64 (x1 + 1))
def impl_VersionsOk_j1 (a0 : List T_impl_Version) (x1 : Int) (K3 : Int → Option Bool) (v5 : T_impl_Version) (x7 : Bool) : Option Bool := bif x7 then some false else bif (x1 == 0) then K3 (w64 (x1 + 1)) else (getI a0 (w64 (x1 - 1))).bind fun v10 => bif (decide (v10.fKey > v5.fKey)) then impl_VersionsOk_j2 x1 K3 true else bif (v10.fKey == v5.fKey) then bif (decide (v10.fBorn ≥ v5.fBorn)) then impl_VersionsOk_j2 x1 K3 true else bif (v10.fDied == 0) then impl_VersionsOk_j2 x1 K3 true else impl_VersionsOk_j2 x1 K3 (decide (v10.fDied > v5.fBorn)) else impl_VersionsOk_j2 x1 K3 false
def impl_VersionsOk_l0 (a0 : List T_impl_Version) : Nat → Int → Option Bool
 | 0, _ => none
 | f2 + 1, x1 => bif (decide (x1 < (a0.length : Int))) then (getI a0 x1).bind fun v5 => (impl_keyOk v5.fKey).bind fun v18 => bif (!v18) then impl_VersionsOk_j1 a0 x1 (impl_VersionsOk_l0 a0 f2) v5 true else (impl_between v5.fBorn 1 40).bind fun v20 => bif (!v20) then impl_VersionsOk_j1 a0 x1 (impl_VersionsOk_l0 a0 f2) v5 true else bif (!(v5.fDied == 0)) then (impl_between v5.fDied (w64 (v5.fBorn + 1)) 40).bind fun v22 => bif (!v22) then impl_VersionsOk_j1 a0 x1 (impl_VersionsOk_l0 a0 f2) v5 true else (impl_RowOk v5.fRow).bind fun v24 => impl_VersionsOk_j1 a0 x1 (impl_VersionsOk_l0 a0 f2) v5 (!v24) else (impl_RowOk v5.fRow).bind fun v27 => impl_VersionsOk_j1 a0 x1 (impl_VersionsOk_l0 a0 f2) v5 (!v27) else some (decide ((a0.length : Int) ≤ 60))
def impl_VersionsOk (a0 : List T_impl_Version) : Option Bool := impl_VersionsOk_l0 a0 FUEL 0
theorem ok_impl_VersionsOk {a0 : List T_impl_Version} {y : Bool} (h : impl_VersionsOk a0 = some y) : OK Try.prog 19 [A a0] (B y) := by
 refine ow Try.func19 fun Γ hX => ?_
 unfold impl_VersionsOk at h
 refine srveM [4, 5] 85 [(0, A a0)] [] ?_
 refine pwp_seq ?_
 refine srveM [4, 5] 85 [(0, A a0), (6, A a0), (7, I (a0.length : Int)), (8, I 0)] [] ?_
 refine pwp_block ?_
 refine pwp_loop (ι := Nat × Int) (fun (f2, x1) => (⟨85, [(0, A a0), (6, A a0), (7, I (a0.length : Int)), (8, I x1)], []⟩ : St)) (fun (f2, x1) => impl_VersionsOk_l0 a0 f2 x1 = some y) Prod.fst (FUEL, 0) h (it [0, 6, 7, 8]) ?_
 rintro ⟨f2, x1⟩ h
 dsimp only at h ⊢
 rcases f2 with _ | f2
 cases h
 rw [impl_VersionsOk_l0] at h
 refine srveM [4, 5] 85 [(0, A a0), (6, A a0), (7, I (a0.length : Int)), (8, I x1), (9, B (decide (x1 < (a0.length : Int))))] [] ?_
 refine pwp_seq ?_
 refine pc h (fun h => ?_) (fun h => ?_)
 refine pwp_skip ?_
 refine pwp_seq ?_
 refine pwp_block ?_
 refine srvM [4, 5] 1 85 [(0, A a0), (6, A a0), (7, I (a0.length : Int)), (8, I x1), (10, I x1)] [] ?_
 obtain ⟨v5, hv6, h⟩ := bindS h
 refine opsP_idx τ_ok 11 hv6 (by kernel_rfl) ?_
 refine veM [4, 5] 4 85 [(0, A a0), (3, I x1), (4, .ptr 0 0 0), (6, A a0), (7, I (a0.length : Int)), (8, I x1)] [sc 0 v5] ?_
 refine pwp_seq ?_
 refine pwp_seq ?_
 refine pwp_join (σ := Bool) (fun x7 => (⟨85, [(0, A a0), (3, I x1), (4, .ptr 0 0 0), (6, A a0), (7, I (a0.length : Int)), (8, I x1), (42, B x7)], [sc 0 v5]⟩ : St)) (fun x7 => impl_VersionsOk_j1 a0 x1 (impl_VersionsOk_l0 a0 f2) v5 x7 = some y) ?_ ?_
 refine rvM [4, 5] 2 85 [(0, A a0), (3, I x1), (4, .ptr 0 0 0), (6, A a0), (7, I (a0.length : Int)), (8, I x1), (14, I v5.fKey)] [sc 0 v5] ?_
 obtain ⟨v18, hv19, h⟩ := bindS h
 refine cF 15 (ok_impl_keyOk hv19) ?_
 refine vM [4, 5] 2 85 [(0, A a0), (3, I x1), (4, .ptr 0 0 0), (6, A a0), (7, I (a0.length : Int)), (8, I x1), (17, B (!v18))] [sc 0 v5] ?_
 rcases fk (!v18) with hc31 | hc31
 replace h := bT hc31 h
 rw [hc31]
 refine veM [4, 5] 25 85 [(0, A a0), (3, I x1), (4, .ptr 0 0 0), (6, A a0), (7, I (a0.length : Int)), (8, I x1), (18, .lit undef), (19, .lit undef), (20, .lit undef), (21, .lit undef), (24, .lit undef), (25, .lit undef), (26, .lit undef), (27, .lit undef), (28, .lit undef), (29, .lit undef), (30, .lit undef), (31, .lit undef), (32, .lit undef), (33, .lit undef), (34, .lit undef), (35, .lit undef), (38, .lit undef), (39, .lit undef), (40, .lit undef), (41, .lit undef), (42, B true)] [sc 0 v5] ?_
 exact ⟨true, h, it [0, 3, 4, 6, 7, 8, 42]⟩
 replace h := bF hc31 h
 rw [hc31]
 refine vM [4, 5] 2 85 [(0, A a0), (3, I x1), (4, .ptr 0 0 0), (6, A a0), (7, I (a0.length : Int)), (8, I x1), (17, B false), (18, .ptr 0 0 1), (19, I v5.fBorn)] [sc 0 v5] ?_
 obtain ⟨v20, hv21, h⟩ := bindS h
 refine cF 20 (ok_impl_between hv21) ?_
 refine vM [4, 5] 3 85 [(0, A a0), (3, I x1), (4, .ptr 0 0 0), (6, A a0), (7, I (a0.length : Int)), (8, I x1), (18, .ptr 0 0 1), (19, I v5.fBorn), (20, B v20), (21, B (!v20)), (23, B (!v20))] [sc 0 v5] ?_
 rcases fk (!v20) with hc30 | hc30
 replace h := bT hc30 h
 rw [hc30]
 refine veM [4, 5] 19 85 [(0, A a0), (3, I x1), (4, .ptr 0 0 0), (6, A a0), (7, I (a0.length : Int)), (8, I x1), (18, .ptr 0 0 1), (19, I v5.fBorn), (20, B v20), (21, B true), (24, .lit undef), (25, .lit undef), (26, .lit undef), (27, .lit undef), (28, .lit undef), (29, .lit undef), (30, .lit undef), (31, .lit undef), (32, .lit undef), (33, .lit undef), (34, .lit undef), (35, .lit undef), (38, .lit undef), (39, .lit undef), (40, .lit undef), (41, .lit undef), (42, B true)] [sc 0 v5] ?_
 exact ⟨true, h, it [0, 3, 4, 6, 7, 8, 42]⟩
 replace h := bF hc30 h
 rw [hc30]
 refine vM [4, 5] 4 85 [(0, A a0), (3, I x1), (4, .ptr 0 0 0), (6, A a0), (7, I (a0.length : Int)), (8, I x1), (18, .ptr 0 0 1), (19, I v5.fBorn), (20, B v20), (21, B false), (23, B false), (24, .ptr 0 0 2), (25, I v5.fDied), (26, B (!(v5.fDied == 0))), (27, B (!(v5.fDied == 0)))] [sc 0 v5] ?_
 rcases fk (!(v5.fDied == 0)) with hc29 | hc29
 replace h := bT hc29 h
 rw [hc29]
 refine vM [4, 5] 5 85 [(0, A a0), (3, I x1), (4, .ptr 0 0 0), (6, A a0), (7, I (a0.length : Int)), (8, I x1), (18, .ptr 0 0 1), (19, I v5.fBorn), (20, B v20), (21, B false), (23, B false), (24, .ptr 0 0 2), (25, I v5.fDied), (26, B true), (27, B true), (28, .ptr 0 0 2), (29, I v5.fDied), (30, .ptr 0 0 1), (31, I v5.fBorn), (32, I (w64 (v5.fBorn + 1)))] [sc 0 v5] ?_
 obtain ⟨v22, hv23, h⟩ := bindS h
 refine cF 33 (ok_impl_between hv23) ?_
 refine vM [4, 5] 4 85 [(0, A a0), (3, I x1), (4, .ptr 0 0 0), (6, A a0), (7, I (a0.length : Int)), (8, I x1), (18, .ptr 0 0 1), (19, I v5.fBorn), (20, B v20), (21, B false), (24, .ptr 0 0 2), (25, I v5.fDied), (26, B true), (27, B true), (28, .ptr 0 0 2), (29, I v5.fDied), (30, .ptr 0 0 1), (31, I v5.fBorn), (32, I (w64 (v5.fBorn + 1))), (33, B v22), (34, B (!v22)), (35, B (!v22)), (37, B (!v22))] [sc 0 v5] ?_
 rcases fk (!v22) with hc26 | hc26
 replace h := bT hc26 h
 rw [hc26]
 refine veM [4, 5] 5 85 [(0, A a0), (3, I x1), (4, .ptr 0 0 0), (6, A a0), (7, I (a0.length : Int)), (8, I x1), (18, .ptr 0 0 1), (19, I v5.fBorn), (20, B v20), (21, B false), (24, .ptr 0 0 2), (25, I v5.fDied), (26, B true), (27, B true), (28, .ptr 0 0 2), (29, I v5.fDied), (30, .ptr 0 0 1), (31, I v5.fBorn), (32, I (w64 (v5.fBorn + 1))), (33, B v22), (34, B true), (35, B true), (38, .lit undef), (39, .lit undef), (40, .lit undef), (41, .lit undef), (42, B true)] [sc 0 v5] ?_
 exact ⟨true, h, it [0, 3, 4, 6, 7, 8, 42]⟩
 replace h := bF hc26 h
 rw [hc26]
 refine vM [4, 5] 2 85 [(0, A a0), (3, I x1), (4, .ptr 0 0 0), (6, A a0), (7, I (a0.length : Int)), (8, I x1), (18, .ptr 0 0 1), (19, I v5.fBorn), (20, B v20), (21, B false), (24, .ptr 0 0 2), (25, I v5.fDied), (26, B true), (27, B true), (28, .ptr 0 0 2), (29, I v5.fDied), (30, .ptr 0 0 1), (31, I v5.fBorn), (32, I (w64 (v5.fBorn + 1))), (33, B v22), (34, B false), (35, B false), (37, B false), (38, .ptr 0 0 3), (39, A v5.fRow)] [sc 0 v5] ?_
 obtain ⟨v24, hv25, h⟩ := bindS h
 refine cF 40 (ok_impl_RowOk hv25) ?_
 refine veM [4, 5] 2 85 [(0, A a0), (3, I x1), (4, .ptr 0 0 0), (6, A a0), (7, I (a0.length : Int)), (8, I x1), (18, .ptr 0 0 1), (19, I v5.fBorn), (20, B v20), (21, B false), (24, .ptr 0 0 2), (25, I v5.fDied), (26, B true), (27, B true), (28, .ptr 0 0 2), (29, I v5.fDied), (30, .ptr 0 0 1), (31, I v5.fBorn), (32, I (w64 (v5.fBorn + 1))), (33, B v22), (34, B false), (35, B false), (38, .ptr 0 0 3), (39, A v5.fRow), (40, B v24), (41, B (!v24)), (42, B (!v24))] [sc 0 v5] ?_
 exact ⟨(!v24), h, it [0, 3, 4, 6, 7, 8, 42]⟩
 replace h := bF hc29 h
 rw [hc29]
 refine vM [4, 5] 12 85 [(0, A a0), (3, I x1), (4, .ptr 0 0 0), (6, A a0), (7, I (a0.length : Int)), (8, I x1), (18, .ptr 0 0 1), (19, I v5.fBorn), (20, B v20), (21, B false), (24, .ptr 0 0 2), (25, I v5.fDied), (26, B false), (27, B false), (28, .lit undef), (29, .lit undef), (30, .lit undef), (31, .lit undef), (32, .lit undef), (33, .lit undef), (34, .lit undef), (35, B false), (37, B false), (38, .ptr 0 0 3), (39, A v5.fRow)] [sc 0 v5] ?_
 obtain ⟨v27, hv28, h⟩ := bindS h
 refine cF 40 (ok_impl_RowOk hv28) ?_
 refine veM [4, 5] 2 85 [(0, A a0), (3, I x1), (4, .ptr 0 0 0), (6, A a0), (7, I (a0.length : Int)), (8, I x1), (18, .ptr 0 0 1), (19, I v5.fBorn), (20, B v20), (21, B false), (24, .ptr 0 0 2), (25, I v5.fDied), (26, B false), (27, B false), (28, .lit undef), (29, .lit undef), (30, .lit undef), (31, .lit undef), (32, .lit undef), (33, .lit undef), (34, .lit undef), (35, B false), (38, .ptr 0 0 3), (39, A v5.fRow), (40, B v27), (41, B (!v27)), (42, B (!v27))] [sc 0 v5] ?_
 exact ⟨(!v27), h, it [0, 3, 4, 6, 7, 8, 42]⟩
 rintro x7 h
 unfold impl_VersionsOk_j1 at h
 refine pc h (fun h => ?_) (fun h => ?_)
 refine srveM [4, 5] 85 [(2, B false)] [sc 0 v5] ?_
 cases h
 exact pwp_ret rz
 refine pwp_skip ?_
 refine pwp_seq ?_
 refine srveM [4, 5] 85 [(0, A a0), (3, I x1), (4, .ptr 0 0 0), (6, A a0), (7, I (a0.length : Int)), (8, I x1), (44, B (x1 == 0))] [sc 0 v5] ?_
 refine pc h (fun h => ?_) (fun h => ?_)
 refine pwp_exit ?_
 refine rveM [4, 5] 85 [(0, A a0), (6, A a0), (7, I (a0.length : Int)), (8, I (w64 (x1 + 1)))] [sc 0 v5] ?_
 exact ⟨(f2, (w64 (x1 + 1))), h, Nat.lt_succ_self _, (it (st' := ⟨85, [(0, A a0), (6, A a0), (7, I (a0.length : Int)), (8, I (w64 (x1 + 1)))], [sc 0 v5]⟩) [0, 6, 7, 8]).trans (Imp.truncS 0 (nx hX) (by kernel_rfl) (allBelow_mem (by exact (And.intro rfl (And.intro rfl (And.intro rfl (And.intro rfl trivial)))))) (by exact trivial) (by kernel_rfl))⟩
 refine pwp_skip ?_
 refine srvM [4, 5] 3 85 [(0, A a0), (4, .ptr 0 0 0), (6, A a0), (7, I (a0.length : Int)), (8, I x1), (45, A a0), (47, I (w64 (x1 - 1)))] [sc 0 v5] ?_
 obtain ⟨v10, hv11, h⟩ := bindS h
 refine opsP_idx τ_ok 48 hv11 (by kernel_rfl) ?_
 refine veM [4, 5] 3 85 [(0, A a0), (4, .ptr 0 0 0), (5, .ptr 1 0 0), (6, A a0), (7, I (a0.length : Int)), (8, I x1)] [sc 0 v5, sc 0 v10] ?_
 refine pwp_seq ?_
 refine pwp_join (σ := Bool) (fun x12 => (⟨85, [(0, A a0), (6, A a0), (7, I (a0.length : Int)), (8, I x1), (80, B x12)], [sc 0 v5, sc 0 v10]⟩ : St)) (fun x12 => impl_VersionsOk_j2 x1 (impl_VersionsOk_l0 a0 f2) x12 = some y) ?_ ?_
 refine rvM [4, 5] 6 85 [(0, A a0), (4, .ptr 0 0 0), (5, .ptr 1 0 0), (6, A a0), (7, I (a0.length : Int)), (8, I x1), (55, B (decide (v10.fKey > v5.fKey)))] [sc 0 v5, sc 0 v10] ?_
 rcases fk (decide (v10.fKey > v5.fKey)) with hc17 | hc17
 replace h := bT hc17 h
 rw [hc17]
 refine veM [4, 5] 25 85 [(0, A a0), (6, A a0), (7, I (a0.length : Int)), (8, I x1), (56, .lit undef), (57, .lit undef), (58, .lit undef), (59, .lit undef), (60, .lit undef), (61, .lit undef), (62, .lit undef), (63, .lit undef), (64, .lit undef), (65, .lit undef), (66, .lit undef), (67, .lit undef), (68, .lit undef), (69, .lit undef), (70, .lit undef), (71, .lit undef), (72, .lit undef), (73, .lit undef), (74, .lit undef), (75, .lit undef), (76, .lit undef), (77, .lit undef), (78, .lit undef), (79, .lit undef), (80, B true)] [sc 0 v5, sc 0 v10] ?_
 exact ⟨true, h, it [0, 6, 7, 8, 80]⟩
 replace h := bF hc17 h
 rw [hc17]
 refine vM [4, 5] 6 85 [(0, A a0), (4, .ptr 0 0 0), (5, .ptr 1 0 0), (6, A a0), (7, I (a0.length : Int)), (8, I x1), (55, B false), (56, .ptr 1 0 0), (57, I v10.fKey), (58, .ptr 0 0 0), (59, I v5.fKey), (60, B (v10.fKey == v5.fKey)), (61, B (v10.fKey == v5.fKey))] [sc 0 v5, sc 0 v10] ?_
 rcases fk (v10.fKey == v5.fKey) with hc16 | hc16
 replace h := bT hc16 h
 rw [hc16]
 refine vM [4, 5] 6 85 [(0, A a0), (4, .ptr 0 0 0), (5, .ptr 1 0 0), (6, A a0), (7, I (a0.length : Int)), (8, I x1), (55, B false), (56, .ptr 1 0 0), (57, I v10.fKey), (58, .ptr 0 0 0), (59, I v5.fKey), (60, B true), (61, B true), (62, .ptr 1 0 1), (63, I v10.fBorn), (64, .ptr 0 0 1), (65, I v5.fBorn), (66, B (decide (v10.fBorn ≥ v5.fBorn))), (67, B (decide (v10.fBorn ≥ v5.fBorn)))] [sc 0 v5, sc 0 v10] ?_
 rcases fk (decide (v10.fBorn ≥ v5.fBorn)) with hc15 | hc15
 replace h := bT hc15 h
 rw [hc15]
 refine veM [4, 5] 13 85 [(0, A a0), (6, A a0), (7, I (a0.length : Int)), (8, I x1), (56, .ptr 1 0 0), (57, I v10.fKey), (58, .ptr 0 0 0), (59, I v5.fKey), (60, B true), (61, B true), (62, .ptr 1 0 1), (63, I v10.fBorn), (64, .ptr 0 0 1), (65, I v5.fBorn), (66, B true), (67, B true), (68, .lit undef), (69, .lit undef), (70, .lit undef), (71, B true), (72, B true), (73, .lit undef), (74, .lit undef), (75, .lit undef), (76, .lit undef), (77, .lit undef), (78, B true), (79, B true), (80, B true)] [sc 0 v5, sc 0 v10] ?_
 exact ⟨true, h, it [0, 6, 7, 8, 80]⟩
 replace h := bF hc15 h
 rw [hc15]
 refine vM [4, 5] 5 85 [(0, A a0), (4, .ptr 0 0 0), (5, .ptr 1 0 0), (6, A a0), (7, I (a0.length : Int)), (8, I x1), (55, B false), (56, .ptr 1 0 0), (57, I v10.fKey), (58, .ptr 0 0 0), (59, I v5.fKey), (60, B true), (61, B true), (62, .ptr 1 0 1), (63, I v10.fBorn), (64, .ptr 0 0 1), (65, I v5.fBorn), (66, B false), (67, B false), (68, .ptr 1 0 2), (69, I v10.fDied), (70, B (v10.fDied == 0)), (71, B (v10.fDied == 0)), (72, B (v10.fDied == 0))] [sc 0 v5, sc 0 v10] ?_
 rcases fk (v10.fDied == 0) with hc14 | hc14
 replace h := bT hc14 h
 rw [hc14]
 refine veM [4, 5] 8 85 [(0, A a0), (6, A a0), (7, I (a0.length : Int)), (8, I x1), (56, .ptr 1 0 0), (57, I v10.fKey), (58, .ptr 0 0 0), (59, I v5.fKey), (60, B true), (61, B true), (62, .ptr 1 0 1), (63, I v10.fBorn), (64, .ptr 0 0 1), (65, I v5.fBorn), (66, B false), (67, B false), (68, .ptr 1 0 2), (69, I v10.fDied), (70, B true), (71, B true), (72, B true), (73, .lit undef), (74, .lit undef), (75, .lit undef), (76, .lit undef), (77, .lit undef), (78, B true), (79, B true), (80, B true)] [sc 0 v5, sc 0 v10] ?_
 exact ⟨true, h, it [0, 6, 7, 8, 80]⟩
 replace h := bF hc14 h
 rw [hc14]
 refine veM [4, 5] 8 85 [(0, A a0), (6, A a0), (7, I (a0.length : Int)), (8, I x1), (56, .ptr 1 0 0), (57, I v10.fKey), (58, .ptr 0 0 0), (59, I v5.fKey), (60, B true), (61, B true), (62, .ptr 1 0 1), (63, I v10.fBorn), (64, .ptr 0 0 1), (65, I v5.fBorn), (66, B false), (67, B false), (68, .ptr 1 0 2), (69, I v10.fDied), (70, B false), (71, B false), (72, B false), (73, .ptr 1 0 2), (74, I v10.fDied), (75, .ptr 0 0 1), (76, I v5.fBorn), (77, B (decide (v10.fDied > v5.fBorn))), (78, B (decide (v10.fDied > v5.fBorn))), (79, B (decide (v10.fDied > v5.fBorn))), (80, B (decide (v10.fDied > v5.fBorn)))] [sc 0 v5, sc 0 v10] ?_
 exact ⟨(decide (v10.fDied > v5.fBorn)), h, it [0, 6, 7, 8, 80]⟩
 replace h := bF hc16 h
 rw [hc16]
 refine veM [4, 5] 19 85 [(0, A a0), (6, A a0), (7, I (a0.length : Int)), (8, I x1), (56, .ptr 1 0 0), (57, I v10.fKey), (58, .ptr 0 0 0), (59, I v5.fKey), (60, B false), (61, B false), (62, .lit undef), (63, .lit undef), (64, .lit undef), (65, .lit undef), (66, .lit undef), (67, .lit undef), (68, .lit undef), (69, .lit undef), (70, .lit undef), (71, .lit undef), (72, .lit undef), (73, .lit undef), (74, .lit undef), (75, .lit undef), (76, .lit undef), (77, .lit undef), (78, .lit undef), (79, B false), (80, B false)] [sc 0 v5, sc 0 v10] ?_
 exact ⟨false, h, it [0, 6, 7, 8, 80]⟩
 rintro x12 h
 unfold impl_VersionsOk_j2 at h
 refine pc h (fun h => ?_) (fun h => ?_)
 refine srveM [4, 5] 85 [(2, B false)] [sc 0 v5, sc 0 v10] ?_
 cases h
 exact pwp_ret rz
 refine pwp_skip ?_
 refine rveM [4, 5] 85 [(0, A a0), (6, A a0), (7, I (a0.length : Int)), (8, I (w64 (x1 + 1)))] [sc 0 v5, sc 0 v10] ?_
 exact ⟨(f2, (w64 (x1 + 1))), h, Nat.lt_succ_self _, (it (st' := ⟨85, [(0, A a0), (6, A a0), (7, I (a0.length : Int)), (8, I (w64 (x1 + 1)))], [sc 0 v5, sc 0 v10]⟩) [0, 6, 7, 8]).trans (Imp.truncS 0 (nx hX) (by kernel_rfl) (allBelow_mem (by exact (And.intro rfl (And.intro rfl (And.intro rfl (And.intro rfl trivial)))))) (by exact trivial) (by kernel_rfl))⟩
 refine pwp_exit ?_
 refine srveM [4, 5] 85 [(2, B (decide ((a0.length : Int) ≤ 60)))] [] ?_
 cases h
 exact pwp_ret rz
def spec_VersionsOk_j1 (x1 : Int) (K3 : Int → Option Bool) (x10 : Bool) : Option Bool := bif x10 then some false else K3 (w64 (x1 + 1))
def spec_VersionsOk_l0 (a0 : List T_impl_Version) : Nat → Int → Option Bool
 | 0, _ => none
 | f2 + 1, x1 => bif (decide (x1 < (a0.length : Int))) then (getI a0 x1).bind fun v5 => (spec_l13Version v5).bind fun v7 => bif (!v7) then some false else bif (decide (x1 > 0)) then (getI a0 (w64 (x1 - 1))).bind fun v12 => (getI a0 x1).bind fun v14 => bif (decide (v12.fKey ≥ v14.fKey)) then (getI a0 (w64 (x1 - 1))).bind fun v16 => (getI a0 x1).bind fun v18 => bif (decide (v16.fKey > v18.fKey)) then spec_VersionsOk_j1 x1 (spec_VersionsOk_l0 a0 f2) true else (getI a0 (w64 (x1 - 1))).bind fun v20 => bif (v20.fDied == 0) then spec_VersionsOk_j1 x1 (spec_VersionsOk_l0 a0 f2) true else (getI a0 (w64 (x1 - 1))).bind fun v22 => (getI a0 x1).bind fun v24 => spec_VersionsOk_j1 x1 (spec_VersionsOk_l0 a0 f2) (decide (v22.fDied > v24.fBorn)) else spec_VersionsOk_j1 x1 (spec_VersionsOk_l0 a0 f2) false else spec_VersionsOk_j1 x1 (spec_VersionsOk_l0 a0 f2) false else some (decide ((a0.length : Int) ≤ 60))
def spec_VersionsOk (a0 : List T_impl_Version) : Option Bool := spec_VersionsOk_l0 a0 FUEL 0
theorem ok_spec_VersionsOk {a0 : List T_impl_Version} {y : Bool} (h : spec_VersionsOk a0 = some y) : OK Try.prog 34 [A a0] (B y) := by
 refine ow Try.func34 fun Γ hX => ?_
 unfold spec_VersionsOk at h
 refine srve 72 [(0, A a0)] [] ?_
 refine pwp_seq ?_
 refine srve 72 [(0, A a0), (3, I 0)] [] ?_
 refine pwp_block ?_
 refine pwp_loop (ι := Nat × Int) (fun (f2, x1) => (⟨72, [(0, A a0), (3, I x1)], []⟩ : St)) (fun (f2, x1) => spec_VersionsOk_l0 a0 f2 x1 = some y) Prod.fst (FUEL, 0) h (it [0, 3]) ?_
 rintro ⟨f2, x1⟩ h
 dsimp only at h ⊢
 rcases f2 with _ | f2
 cases h
 rw [spec_VersionsOk_l0] at h
 refine pwp_seq ?_
 refine srve 72 [(0, A a0), (3, I x1), (7, B (decide (x1 < (a0.length : Int))))] [] ?_
 refine pc h (fun h => ?_) (fun h => ?_)
 refine pwp_skip ?_
 refine pwp_seq ?_
 refine pwp_block ?_
 refine pwp_seq ?_
 refine srv 2 72 [(0, A a0), (3, I x1), (10, A a0), (11, I x1)] [] ?_
 obtain ⟨v5, hv6, h⟩ := bindS h
 refine opsP_idx τ_ok 12 hv6 (by kernel_rfl) ?_
 refine v 1 72 [(0, A a0), (3, I x1), (13, E v5)] [] ?_
 obtain ⟨v7, hv8, h⟩ := bindS h
 refine cF 14 (ok_spec_l13Version hv8) ?_
 refine ve 1 72 [(0, A a0), (3, I x1), (15, B (!v7))] [] ?_
 refine pc h (fun h => ?_) (fun h => ?_)
 refine srve 72 [(2, B false)] [] ?_
 cases h
 exact pwp_ret rz
 refine pwp_skip ?_
 refine pwp_seq ?_
 refine pwp_join (σ := Bool) (fun x10 => (⟨72, [(0, A a0), (3, I x1), (68, B x10)], []⟩ : St)) (fun x10 => spec_VersionsOk_j1 x1 (spec_VersionsOk_l0 a0 f2) x10 = some y) ?_ ?_
 refine ip 72 [(0, A a0), (3, I x1)] [] ?_
 refine pN 53 ?_
 refine qv [] trivial 3 72 [(18, B (decide (x1 > 0))), (0, A a0), (3, I x1)] [] ?_
 rcases fk (decide (x1 > 0)) with hc29 | hc29
 replace h := bT hc29 h
 rw [hc29]
 refine qv [] trivial 3 72 [(21, I (w64 (x1 - 1))), (20, I x1), (19, A a0), (18, B true), (0, A a0), (3, I x1)] [] ?_
 obtain ⟨v12, hv13, h⟩ := bindS h
 refine qX (some 22) (pf v12 0) 72 [(22, pf v12 0), (21, I (w64 (x1 - 1))), (20, I x1), (19, A a0), (18, B true), (0, A a0), (3, I x1)] [] (fun Γ' hΓ => CoreE.of_y (idxV_sound τ_ok (by kernel_rfl) hv13)) trivial ?_
 refine qv [] trivial 4 72 [(26, I x1), (25, A a0), (24, I v12.fKey), (23, pf v12 0), (22, pf v12 0), (21, I (w64 (x1 - 1))), (20, I x1), (19, A a0), (18, B true), (0, A a0), (3, I x1)] [] ?_
 obtain ⟨v14, hv15, h⟩ := bindS h
 refine qX (some 27) (pf v14 0) 72 [(27, pf v14 0), (26, I x1), (25, A a0), (24, I v12.fKey), (23, pf v12 0), (22, pf v12 0), (21, I (w64 (x1 - 1))), (20, I x1), (19, A a0), (18, B true), (0, A a0), (3, I x1)] [] (fun Γ' hΓ => CoreE.of_y (idxV_sound τ_ok (by kernel_rfl) hv15)) trivial ?_
 refine qv [] trivial 5 72 [(32, B (decide (v12.fKey ≥ v14.fKey))), (30, B (decide (v12.fKey ≥ v14.fKey))), (29, I v14.fKey), (28, pf v14 0), (27, pf v14 0), (26, I x1), (25, A a0), (24, I v12.fKey), (23, pf v12 0), (22, pf v12 0), (21, I (w64 (x1 - 1))), (20, I x1), (19, A a0), (0, A a0), (3, I x1)] [] ?_
 rcases fk (decide (v12.fKey ≥ v14.fKey)) with hc28 | hc28
 replace h := bT hc28 h
 rw [hc28]
 refine qv [] trivial 3 72 [(35, I (w64 (x1 - 1))), (34, I x1), (33, A a0), (32, B true), (30, B true), (29, I v14.fKey), (28, pf v14 0), (27, pf v14 0), (26, I x1), (25, A a0), (24, I v12.fKey), (23, pf v12 0), (22, pf v12 0), (21, I (w64 (x1 - 1))), (20, I x1), (19, A a0), (0, A a0), (3, I x1)] [] ?_
 obtain ⟨v16, hv17, h⟩ := bindS h
 refine qX (some 36) (pf v16 0) 72 [(36, pf v16 0), (35, I (w64 (x1 - 1))), (34, I x1), (33, A a0), (32, B true), (30, B true), (29, I v14.fKey), (28, pf v14 0), (27, pf v14 0), (26, I x1), (25, A a0), (24, I v12.fKey), (23, pf v12 0), (22, pf v12 0), (21, I (w64 (x1 - 1))), (20, I x1), (19, A a0), (0, A a0), (3, I x1)] [] (fun Γ' hΓ => CoreE.of_y (idxV_sound τ_ok (by kernel_rfl) hv17)) trivial ?_
 refine qv [] trivial 4 72 [(40, I x1), (39, A a0), (38, I v16.fKey), (37, pf v16 0), (36, pf v16 0), (35, I (w64 (x1 - 1))), (34, I x1), (33, A a0), (32, B true), (30, B true), (29, I v14.fKey), (28, pf v14 0), (27, pf v14 0), (26, I x1), (25, A a0), (24, I v12.fKey), (23, pf v12 0), (22, pf v12 0), (21, I (w64 (x1 - 1))), (20, I x1), (19, A a0), (0, A a0), (3, I x1)] [] ?_
 obtain ⟨v18, hv19, h⟩ := bindS h
 refine qX (some 41) (pf v18 0) 72 [(41, pf v18 0), (40, I x1), (39, A a0), (38, I v16.fKey), (37, pf v16 0), (36, pf v16 0), (35, I (w64 (x1 - 1))), (34, I x1), (33, A a0), (32, B true), (30, B true), (29, I v14.fKey), (28, pf v14 0), (27, pf v14 0), (26, I x1), (25, A a0), (24, I v12.fKey), (23, pf v12 0), (22, pf v12 0), (21, I (w64 (x1 - 1))), (20, I x1), (19, A a0), (0, A a0), (3, I x1)] [] (fun Γ' hΓ => CoreE.of_y (idxV_sound τ_ok (by kernel_rfl) hv19)) trivial ?_
 refine qv [] trivial 4 72 [(45, B (decide (v16.fKey > v18.fKey))), (44, B (decide (v16.fKey > v18.fKey))), (43, I v18.fKey), (42, pf v18 0), (41, pf v18 0), (40, I x1), (39, A a0), (38, I v16.fKey), (37, pf v16 0), (36, pf v16 0), (35, I (w64 (x1 - 1))), (34, I x1), (33, A a0), (32, B true), (30, B true), (29, I v14.fKey), (28, pf v14 0), (27, pf v14 0), (26, I x1), (25, A a0), (24, I v12.fKey), (23, pf v12 0), (22, pf v12 0), (21, I (w64 (x1 - 1))), (20, I x1), (19, A a0), (0, A a0), (3, I x1)] [] ?_
 rcases fk (decide (v16.fKey > v18.fKey)) with hc27 | hc27
 replace h := bT hc27 h
 rw [hc27]
 refine qvn [] trivial 23 72 [(0, A a0), (3, I x1), (19, A a0), (20, I x1), (21, I (w64 (x1 - 1))), (22, pf v12 0), (23, pf v12 0), (24, I v12.fKey), (25, A a0), (26, I x1), (27, pf v14 0), (28, pf v14 0), (29, I v14.fKey), (30, B true), (33, A a0), (34, I x1), (35, I (w64 (x1 - 1))), (36, pf v16 0), (37, pf v16 0), (38, I v16.fKey), (39, A a0), (40, I x1), (41, pf v18 0), (42, pf v18 0), (43, I v18.fKey), (44, B true), (45, B true), (46, .lit undef), (47, .lit undef), (48, .lit undef), (49, .lit undef), (50, .lit undef), (51, .lit undef), (52, .lit undef), (53, B true), (54, B true), (55, .lit undef), (56, .lit undef), (57, .lit undef), (58, .lit undef), (59, .lit undef), (60, .lit undef), (61, .lit undef), (62, .lit undef), (63, .lit undef), (64, .lit undef), (65, .lit undef), (66, .lit undef), (67, B true), (68, B true)] [] ?_
 exact ⟨true, h, it [0, 3, 68]⟩
 replace h := bF hc27 h
 rw [hc27]
 refine qv [] trivial 3 72 [(48, I (w64 (x1 - 1))), (47, I x1), (46, A a0), (45, B false), (44, B false), (43, I v18.fKey), (42, pf v18 0), (41, pf v18 0), (40, I x1), (39, A a0), (38, I v16.fKey), (37, pf v16 0), (36, pf v16 0), (35, I (w64 (x1 - 1))), (34, I x1), (33, A a0), (32, B true), (30, B true), (29, I v14.fKey), (28, pf v14 0), (27, pf v14 0), (26, I x1), (25, A a0), (24, I v12.fKey), (23, pf v12 0), (22, pf v12 0), (21, I (w64 (x1 - 1))), (20, I x1), (19, A a0), (0, A a0), (3, I x1)] [] ?_
 obtain ⟨v20, hv21, h⟩ := bindS h
 refine qX (some 49) (pf v20 0) 72 [(49, pf v20 0), (48, I (w64 (x1 - 1))), (47, I x1), (46, A a0), (45, B false), (44, B false), (43, I v18.fKey), (42, pf v18 0), (41, pf v18 0), (40, I x1), (39, A a0), (38, I v16.fKey), (37, pf v16 0), (36, pf v16 0), (35, I (w64 (x1 - 1))), (34, I x1), (33, A a0), (32, B true), (30, B true), (29, I v14.fKey), (28, pf v14 0), (27, pf v14 0), (26, I x1), (25, A a0), (24, I v12.fKey), (23, pf v12 0), (22, pf v12 0), (21, I (w64 (x1 - 1))), (20, I x1), (19, A a0), (0, A a0), (3, I x1)] [] (fun Γ' hΓ => CoreE.of_y (idxV_sound τ_ok (by kernel_rfl) hv21)) trivial ?_
 refine qv [] trivial 5 72 [(54, B (v20.fDied == 0)), (53, B (v20.fDied == 0)), (52, B (v20.fDied == 0)), (51, I v20.fDied), (50, pf v20 2), (49, pf v20 0), (48, I (w64 (x1 - 1))), (47, I x1), (46, A a0), (45, B false), (44, B false), (43, I v18.fKey), (42, pf v18 0), (41, pf v18 0), (40, I x1), (39, A a0), (38, I v16.fKey), (37, pf v16 0), (36, pf v16 0), (35, I (w64 (x1 - 1))), (34, I x1), (33, A a0), (32, B true), (30, B true), (29, I v14.fKey), (28, pf v14 0), (27, pf v14 0), (26, I x1), (25, A a0), (24, I v12.fKey), (23, pf v12 0), (22, pf v12 0), (21, I (w64 (x1 - 1))), (20, I x1), (19, A a0), (0, A a0), (3, I x1)] [] ?_
 rcases fk (v20.fDied == 0) with hc26 | hc26
 replace h := bT hc26 h
 rw [hc26]
 refine qvn [] trivial 14 72 [(0, A a0), (3, I x1), (19, A a0), (20, I x1), (21, I (w64 (x1 - 1))), (22, pf v12 0), (23, pf v12 0), (24, I v12.fKey), (25, A a0), (26, I x1), (27, pf v14 0), (28, pf v14 0), (29, I v14.fKey), (30, B true), (33, A a0), (34, I x1), (35, I (w64 (x1 - 1))), (36, pf v16 0), (37, pf v16 0), (38, I v16.fKey), (39, A a0), (40, I x1), (41, pf v18 0), (42, pf v18 0), (43, I v18.fKey), (44, B false), (45, B false), (46, A a0), (47, I x1), (48, I (w64 (x1 - 1))), (49, pf v20 0), (50, pf v20 2), (51, I v20.fDied), (52, B true), (53, B true), (54, B true), (55, .lit undef), (56, .lit undef), (57, .lit undef), (58, .lit undef), (59, .lit undef), (60, .lit undef), (61, .lit undef), (62, .lit undef), (63, .lit undef), (64, .lit undef), (65, .lit undef), (66, .lit undef), (67, B true), (68, B true)] [] ?_
 exact ⟨true, h, it [0, 3, 68]⟩
 replace h := bF hc26 h
 rw [hc26]
 refine qv [] trivial 3 72 [(57, I (w64 (x1 - 1))), (56, I x1), (55, A a0), (54, B false), (53, B false), (52, B false), (51, I v20.fDied), (50, pf v20 2), (49, pf v20 0), (48, I (w64 (x1 - 1))), (47, I x1), (46, A a0), (45, B false), (44, B false), (43, I v18.fKey), (42, pf v18 0), (41, pf v18 0), (40, I x1), (39, A a0), (38, I v16.fKey), (37, pf v16 0), (36, pf v16 0), (35, I (w64 (x1 - 1))), (34, I x1), (33, A a0), (32, B true), (30, B true), (29, I v14.fKey), (28, pf v14 0), (27, pf v14 0), (26, I x1), (25, A a0), (24, I v12.fKey), (23, pf v12 0), (22, pf v12 0), (21, I (w64 (x1 - 1))), (20, I x1), (19, A a0), (0, A a0), (3, I x1)] [] ?_
 obtain ⟨v22, hv23, h⟩ := bindS h
 refine qX (some 58) (pf v22 0) 72 [(58, pf v22 0), (57, I (w64 (x1 - 1))), (56, I x1), (55, A a0), (54, B false), (53, B false), (52, B false), (51, I v20.fDied), (50, pf v20 2), (49, pf v20 0), (48, I (w64 (x1 - 1))), (47, I x1), (46, A a0), (45, B false), (44, B false), (43, I v18.fKey), (42, pf v18 0), (41, pf v18 0), (40, I x1), (39, A a0), (38, I v16.fKey), (37, pf v16 0), (36, pf v16 0), (35, I (w64 (x1 - 1))), (34, I x1), (33, A a0), (32, B true), (30, B true), (29, I v14.fKey), (28, pf v14 0), (27, pf v14 0), (26, I x1), (25, A a0), (24, I v12.fKey), (23, pf v12 0), (22, pf v12 0), (21, I (w64 (x1 - 1))), (20, I x1), (19, A a0), (0, A a0), (3, I x1)] [] (fun Γ' hΓ => CoreE.of_y (idxV_sound τ_ok (by kernel_rfl) hv23)) trivial ?_
 refine qv [] trivial 4 72 [(62, I x1), (61, A a0), (60, I v22.fDied), (59, pf v22 2), (58, pf v22 0), (57, I (w64 (x1 - 1))), (56, I x1), (55, A a0), (54, B false), (53, B false), (52, B false), (51, I v20.fDied), (50, pf v20 2), (49, pf v20 0), (48, I (w64 (x1 - 1))), (47, I x1), (46, A a0), (45, B false), (44, B false), (43, I v18.fKey), (42, pf v18 0), (41, pf v18 0), (40, I x1), (39, A a0), (38, I v16.fKey), (37, pf v16 0), (36, pf v16 0), (35, I (w64 (x1 - 1))), (34, I x1), (33, A a0), (32, B true), (30, B true), (29, I v14.fKey), (28, pf v14 0), (27, pf v14 0), (26, I x1), (25, A a0), (24, I v12.fKey), (23, pf v12 0), (22, pf v12 0), (21, I (w64 (x1 - 1))), (20, I x1), (19, A a0), (0, A a0), (3, I x1)] [] ?_
 obtain ⟨v24, hv25, h⟩ := bindS h
 refine qX (some 63) (pf v24 0) 72 [(63, pf v24 0), (62, I x1), (61, A a0), (60, I v22.fDied), (59, pf v22 2), (58, pf v22 0), (57, I (w64 (x1 - 1))), (56, I x1), (55, A a0), (54, B false), (53, B false), (52, B false), (51, I v20.fDied), (50, pf v20 2), (49, pf v20 0), (48, I (w64 (x1 - 1))), (47, I x1), (46, A a0), (45, B false), (44, B false), (43, I v18.fKey), (42, pf v18 0), (41, pf v18 0), (40, I x1), (39, A a0), (38, I v16.fKey), (37, pf v16 0), (36, pf v16 0), (35, I (w64 (x1 - 1))), (34, I x1), (33, A a0), (32, B true), (30, B true), (29, I v14.fKey), (28, pf v14 0), (27, pf v14 0), (26, I x1), (25, A a0), (24, I v12.fKey), (23, pf v12 0), (22, pf v12 0), (21, I (w64 (x1 - 1))), (20, I x1), (19, A a0), (0, A a0), (3, I x1)] [] (fun Γ' hΓ => CoreE.of_y (idxV_sound τ_ok (by kernel_rfl) hv25)) trivial ?_
 refine qvn [] trivial 5 72 [(0, A a0), (3, I x1), (19, A a0), (20, I x1), (21, I (w64 (x1 - 1))), (22, pf v12 0), (23, pf v12 0), (24, I v12.fKey), (25, A a0), (26, I x1), (27, pf v14 0), (28, pf v14 0), (29, I v14.fKey), (30, B true), (33, A a0), (34, I x1), (35, I (w64 (x1 - 1))), (36, pf v16 0), (37, pf v16 0), (38, I v16.fKey), (39, A a0), (40, I x1), (41, pf v18 0), (42, pf v18 0), (43, I v18.fKey), (44, B false), (45, B false), (46, A a0), (47, I x1), (48, I (w64 (x1 - 1))), (49, pf v20 0), (50, pf v20 2), (51, I v20.fDied), (52, B false), (53, B false), (54, B false), (55, A a0), (56, I x1), (57, I (w64 (x1 - 1))), (58, pf v22 0), (59, pf v22 2), (60, I v22.fDied), (61, A a0), (62, I x1), (63, pf v24 0), (64, pf v24 1), (65, I v24.fBorn), (66, B (decide (v22.fDied > v24.fBorn))), (67, B (decide (v22.fDied > v24.fBorn))), (68, B (decide (v22.fDied > v24.fBorn)))] [] ?_
 exact ⟨(decide (v22.fDied > v24.fBorn)), h, it [0, 3, 68]⟩
 replace h := bF hc28 h
 rw [hc28]
 refine qvn [] trivial 36 72 [(0, A a0), (3, I x1), (19, A a0), (20, I x1), (21, I (w64 (x1 - 1))), (22, pf v12 0), (23, pf v12 0), (24, I v12.fKey), (25, A a0), (26, I x1), (27, pf v14 0), (28, pf v14 0), (29, I v14.fKey), (30, B false), (33, .lit undef), (34, .lit undef), (35, .lit undef), (36, .lit undef), (37, .lit undef), (38, .lit undef), (39, .lit undef), (40, .lit undef), (41, .lit undef), (42, .lit undef), (43, .lit undef), (44, .lit undef), (45, .lit undef), (46, .lit undef), (47, .lit undef), (48, .lit undef), (49, .lit undef), (50, .lit undef), (51, .lit undef), (52, .lit undef), (53, .lit undef), (54, .lit undef), (55, .lit undef), (56, .lit undef), (57, .lit undef), (58, .lit undef), (59, .lit undef), (60, .lit undef), (61, .lit undef), (62, .lit undef), (63, .lit undef), (64, .lit undef), (65, .lit undef), (66, .lit undef), (67, .lit undef), (68, B false)] [] ?_
 exact ⟨false, h, it [0, 3, 68]⟩
 replace h := bF hc29 h
 rw [hc29]
 refine qvn [] trivial 50 72 [(0, A a0), (3, I x1), (19, .lit undef), (20, .lit undef), (21, .lit undef), (22, .lit undef), (23, .lit undef), (24, .lit undef), (25, .lit undef), (26, .lit undef), (27, .lit undef), (28, .lit undef), (29, .lit undef), (30, .lit undef), (33, .lit undef), (34, .lit undef), (35, .lit undef), (36, .lit undef), (37, .lit undef), (38, .lit undef), (39, .lit undef), (40, .lit undef), (41, .lit undef), (42, .lit undef), (43, .lit undef), (44, .lit undef), (45, .lit undef), (46, .lit undef), (47, .lit undef), (48, .lit undef), (49, .lit undef), (50, .lit undef), (51, .lit undef), (52, .lit undef), (53, .lit undef), (54, .lit undef), (55, .lit undef), (56, .lit undef), (57, .lit undef), (58, .lit undef), (59, .lit undef), (60, .lit undef), (61, .lit undef), (62, .lit undef), (63, .lit undef), (64, .lit undef), (65, .lit undef), (66, .lit undef), (67, .lit undef), (68, B false)] [] ?_
 exact ⟨false, h, it [0, 3, 68]⟩
 rintro x10 h
 unfold spec_VersionsOk_j1 at h
 refine pc h (fun h => ?_) (fun h => ?_)
 refine srve 72 [(2, B false)] [] ?_
 cases h
 exact pwp_ret rz
 refine pwp_skip ?_
 refine rve 72 [(0, A a0), (3, I (w64 (x1 + 1)))] [] ?_
 exact ⟨(f2, (w64 (x1 + 1))), h, Nat.lt_succ_self _, it [0, 3]⟩
 refine pwp_exit ?_
 refine srve 72 [(2, B (decide ((a0.length : Int) ≤ 60)))] [] ?_
 cases h
 exact pwp_ret rz
def spec_l31Put_j1 (a0 : List T_impl_Mark) (a1 : T_impl_Mark) (x1 : Int) (K3 : Int → Option (List T_impl_Mark)) (x4 : Bool) : Option (List T_impl_Mark) := bif x4 then K3 (w64 (x1 - 1)) else (slI a0 none (some x1) none).bind fun v6 => (app ([] : List T_impl_Mark) v6).bind fun v8 => (app v8 ([a1] : List T_impl_Mark)).bind fun v10 => (slI a0 (some x1) none none).bind fun v12 => (app v10 v12).bind fun v14 => some v14
def spec_l31Put_l0 (a0 : List T_impl_Mark) (a1 : T_impl_Mark) : Nat → Int → Option (List T_impl_Mark)
 | 0, _ => none
 | f2 + 1, x1 => bif (decide (x1 > 0)) then (getI a0 (w64 (x1 - 1))).bind fun v16 => (spec_l31Less a1 v16).bind fun v18 => spec_l31Put_j1 a0 a1 x1 (spec_l31Put_l0 a0 a1 f2) v18 else spec_l31Put_j1 a0 a1 x1 (spec_l31Put_l0 a0 a1 f2) false
def spec_l31Put (a0 : List T_impl_Mark) (a1 : T_impl_Mark) : Option (List T_impl_Mark) := spec_l31Put_l0 a0 a1 FUEL (a0.length : Int)
theorem ok_spec_l31Put {a0 : List T_impl_Mark} {a1 : T_impl_Mark} {y : List T_impl_Mark} (h : spec_l31Put a0 a1 = some y) : OK Try.prog 35 [A a0, E a1] (O y) := by
 refine ow Try.func35 fun Γ hX => ?_
 unfold spec_l31Put at h
 refine srve 35 [(0, A a0), (3, pf a1 0)] [] ?_
 refine srve 35 [(0, A a0), (3, pf a1 0), (5, I (a0.length : Int))] [] ?_
 refine pwp_seq ?_
 refine pwp_block ?_
 refine pwp_loop (ι := Nat × Int) (fun (f2, x1) => (⟨35, [(0, A a0), (3, pf a1 0), (5, I x1)], []⟩ : St)) (fun (f2, x1) => spec_l31Put_l0 a0 a1 f2 x1 = some y) Prod.fst (FUEL, (a0.length : Int)) h (it [0, 3, 5]) ?_
 rintro ⟨f2, x1⟩ h
 dsimp only at h ⊢
 rcases f2 with _ | f2
 cases h
 rw [spec_l31Put_l0] at h
 refine pwp_seq ?_
 refine pwp_seq ?_
 refine pwp_join (σ := Bool) (fun x4 => (⟨35, [(0, A a0), (3, pf a1 0), (5, I x1), (19, B x4)], []⟩ : St)) (fun x4 => spec_l31Put_j1 a0 a1 x1 (spec_l31Put_l0 a0 a1 f2) x4 = some y) ?_ ?_
 refine ip 35 [(0, A a0), (3, pf a1 0), (5, I x1)] [] ?_
 refine pN 11 ?_
 refine qv [] trivial 3 35 [(11, B (decide (x1 > 0))), (0, A a0), (3, pf a1 0), (5, I x1)] [] ?_
 rcases fk (decide (x1 > 0)) with hc20 | hc20
 replace h := bT hc20 h
 rw [hc20]
 refine qv [] trivial 4 35 [(15, I (w64 (x1 - 1))), (14, I x1), (13, A a0), (12, E a1), (11, B true), (0, A a0), (3, pf a1 0), (5, I x1)] [] ?_
 obtain ⟨v16, hv17, h⟩ := bindS h
 refine qX (some 16) (pf v16 0) 35 [(16, pf v16 0), (15, I (w64 (x1 - 1))), (14, I x1), (13, A a0), (12, E a1), (11, B true), (0, A a0), (3, pf a1 0), (5, I x1)] [] (fun Γ' hΓ => CoreE.of_y (idxV_sound τ_ok (by kernel_rfl) hv17)) trivial ?_
 refine qv [] trivial 1 35 [(17, E v16), (16, pf v16 0), (15, I (w64 (x1 - 1))), (14, I x1), (13, A a0), (12, E a1), (11, B true), (0, A a0), (3, pf a1 0), (5, I x1)] [] ?_
 obtain ⟨v18, hv19, h⟩ := bindS h
 refine qX (some 18) (B v18) 35 [(18, B v18), (17, E v16), (16, pf v16 0), (15, I (w64 (x1 - 1))), (14, I x1), (13, A a0), (12, E a1), (11, B true), (0, A a0), (3, pf a1 0), (5, I x1)] [] (fun Γ' hΓ => CoreE.of_g (callV_sound (τ := τ) (by kernel_rfl) rfl (ok_spec_l31Less hv19) (FzTo.frz rfl))) trivial ?_
 refine qvn [] trivial 1 35 [(0, A a0), (3, pf a1 0), (5, I x1), (12, E a1), (13, A a0), (14, I x1), (15, I (w64 (x1 - 1))), (16, pf v16 0), (17, E v16), (18, B v18), (19, B v18)] [] ?_
 exact ⟨v18, h, it [0, 3, 5, 19]⟩
 replace h := bF hc20 h
 rw [hc20]
 refine qvn [] trivial 8 35 [(0, A a0), (3, pf a1 0), (5, I x1), (12, .lit undef), (13, .lit undef), (14, .lit undef), (15, .lit undef), (16, .lit undef), (17, .lit undef), (18, .lit undef), (19, B false)] [] ?_
 exact ⟨false, h, it [0, 3, 5, 19]⟩
 rintro x4 h
 unfold spec_l31Put_j1 at h
 refine pc h (fun h => ?_) (fun h => ?_)
 refine pwp_skip ?_
 refine pwp_block ?_
 refine rve 35 [(0, A a0), (3, pf a1 0), (5, I (w64 (x1 - 1)))] [] ?_
 exact ⟨(f2, (w64 (x1 - 1))), h, Nat.lt_succ_self _, it [0, 3, 5]⟩
 refine pwp_exit ?_
 refine srv 3 35 [(0, A a0), (3, pf a1 0), (5, I x1), (22, .arr 6 0 (eL ([] : List T_impl_Mark)) true), (23, A a0), (24, I x1)] [] ?_
 obtain ⟨v6, hv7, h⟩ := bindS h
 refine opsP_slc τ_ok 25 hv7 (by kernel_rfl) ?_
 refine opsP_thaw 22 6 (by kernel_rfl) ?_
 obtain ⟨v8, hv9, h⟩ := bindS h
 refine opsP_app τ_ok 26 0 0 (nx hX) hv9 (by kernel_rfl) ?_
 refine ve 1 35 [(0, A a0), (3, pf a1 0), (5, I x1), (6, rf 0 1 6 v8)] [sl 1 v8] ?_
 refine pwp_seq ?_
 refine ip 35 [(0, A a0), (3, pf a1 0), (5, I x1), (6, rf 0 1 6 v8)] [sl 1 v8] ?_
 refine pwp_any ([[0], [], [], [0], [], [], [], [0], [0]]) ([[], [], [], [0], [], [], [], [0], []]) rfl (by kernel_rfl) ?_
 refine qv [0] (hL trivial) 1 35 [(27, rf 0 1 6 v8), (0, A a0), (3, pf a1 0), (5, I x1)] [sl 1 v8] ?_
 refine qv [] trivial 2 35 [(29, .arr 6 ([a1] : List T_impl_Mark).length (eL ([a1] : List T_impl_Mark)) true), (27, rf 0 1 6 v8), (0, A a0), (5, I x1)] [sl 1 v8] ?_
 obtain ⟨v10, hv11, h⟩ := bindS h
 refine qX (some 30) (rf 0 2 6 v10) 35 [(30, rf 0 2 6 v10), (0, A a0), (5, I x1)] [sl 2 v10] (fun Γ' hΓ => app_Ew τ_ok 30 0 1 (ny hΓ hX) hv11 (by kernel_rfl)) (hL trivial) ?_
 refine qv [] trivial 2 35 [(32, I x1), (31, A a0), (30, rf 0 2 6 v10)] [sl 2 v10] ?_
 obtain ⟨v12, hv13, h⟩ := bindS h
 refine qX (some 33) (A v12) 35 [(33, A v12), (30, rf 0 2 6 v10)] [sl 2 v10] (fun Γ' hΓ => CoreE.of_y (slcV_sound τ_ok (by kernel_rfl) hv13)) trivial ?_
 obtain ⟨v14, hv15, h⟩ := bindS h
 refine qX (some 34) (rf 0 3 6 v14) 35 [(34, rf 0 3 6 v14)] [sl 3 v14] (fun Γ' hΓ => app_Ew τ_ok 34 0 2 (ny hΓ hX) hv15 (by kernel_rfl)) (hL trivial) ?_
 refine qvn [0] (hL trivial) 1 35 [(4, rf 0 3 6 v14)] [sl 3 v14] ?_
 have h := si h
 subst h
 exact pwp_ret (rt (rf 0 3 6 v14) (OutP.list (v := 3) (by kernel_rfl)))
def impl_Mark_order (a0 : T_impl_Mark) (a1 : T_impl_Mark) : Option Int := (impl_Value_order a0.fV a1.fV).bind fun v1 => (cmp_Compare_int a0.fKey a1.fKey).bind fun v3 => (cmp_Compare_int a0.fBorn a1.fBorn).bind fun v5 => (cmp_Or_int ([v1, v3, v5])).bind fun v7 => some v7
theorem ok_impl_Mark_order {a0 : T_impl_Mark} {a1 : T_impl_Mark} {y : Int} (h : impl_Mark_order a0 a1 = some y) : OK Try.prog 40 [E a0, E a1] (I y) := by
 refine ow Try.func40 fun Γ hX => ?_
 unfold impl_Mark_order at h
 refine srve 22 [(2, pf a0 0), (3, pf a1 0)] [] ?_
 refine pwp_seq ?_
 refine ip 22 [(2, pf a0 0), (3, pf a1 0)] [] ?_
 refine pN 18 ?_
 refine qv [] trivial 4 22 [(8, E a1.fV), (6, E a0.fV), (2, pf a0 0), (3, pf a1 0)] [] ?_
 obtain ⟨v1, hv2, h⟩ := bindS h
 refine qX (some 9) (I v1) 22 [(9, I v1), (2, pf a0 0), (3, pf a1 0)] [] (fun Γ' hΓ => CoreE.of_g (callV_sound (τ := τ) (by kernel_rfl) rfl (ok_impl_Value_order hv2) (FzTo.frz rfl))) trivial ?_
 refine qv [] trivial 4 22 [(13, I a1.fKey), (11, I a0.fKey), (9, I v1), (2, pf a0 0), (3, pf a1 0)] [] ?_
 obtain ⟨v3, hv4, h⟩ := bindS h
 refine qX (some 14) (I v3) 22 [(14, I v3), (9, I v1), (2, pf a0 0), (3, pf a1 0)] [] (fun Γ' hΓ => CoreE.of_g (callV_sound (τ := τ) (by kernel_rfl) rfl (ok_cmp_Compare_int hv4) (FzTo.frz rfl))) trivial ?_
 refine qv [] trivial 4 22 [(18, I a1.fBorn), (16, I a0.fBorn), (14, I v3), (9, I v1)] [] ?_
 obtain ⟨v5, hv6, h⟩ := bindS h
 refine qX (some 19) (I v5) 22 [(19, I v5), (14, I v3), (9, I v1)] [] (fun Γ' hΓ => CoreE.of_g (callV_sound (τ := τ) (by kernel_rfl) rfl (ok_cmp_Compare_int hv6) (FzTo.frz rfl))) trivial ?_
 refine qv [] trivial 1 22 [(20, .arr 1 ([v1, v3, v5] : List Int).length (eL ([v1, v3, v5] : List Int)) true)] [] ?_
 obtain ⟨v7, hv8, h⟩ := bindS h
 refine qX (some 21) (I v7) 22 [(21, I v7)] [] (fun Γ' hΓ => CoreE.of_g (callV_sound (τ := τ) (by kernel_rfl) rfl (ok_cmp_Or_int hv8) (FzTo.frz rfl))) trivial ?_
 refine qvn [] trivial 1 22 [(4, I v7)] [] ?_
 cases h
 exact pwp_ret rz
def spec_IndexOf_j1 (a0 : List T_impl_Version) (x1 : List T_impl_Mark) (x2 : Int) (K4 : (List T_impl_Mark) → Int → Option (List T_impl_Mark)) (x5 : Bool) : Option (List T_impl_Mark) := bif x5 then (getI a0 x2).bind fun v7 => (spec_l31Value v7.fRow).bind fun v9 => (spec_l31Put x1 (T_impl_Mark.mk v9 v7.fKey v7.fBorn v7.fDied)).bind fun v11 => K4 v11 (w64 (x2 + 1)) else some x1
def spec_IndexOf_l0 (a0 : List T_impl_Version) : Nat → (List T_impl_Mark) → Int → Option (List T_impl_Mark)
 | 0, _, _ => none
 | f3 + 1, x1, x2 => bif (decide (x2 < (a0.length : Int))) then (spec_VersionsOk a0).bind fun v13 => spec_IndexOf_j1 a0 x1 x2 (spec_IndexOf_l0 a0 f3) v13 else spec_IndexOf_j1 a0 x1 x2 (spec_IndexOf_l0 a0 f3) false
def spec_IndexOf (a0 : List T_impl_Version) : Option (List T_impl_Mark) := spec_IndexOf_l0 a0 FUEL ([] : List T_impl_Mark) 0
theorem ok_spec_IndexOf {a0 : List T_impl_Version} {y : List T_impl_Mark} (h : spec_IndexOf a0 = some y) : OK Try.prog 8 [A a0] (A y) := by
 refine ow Try.func8 fun Γ hX => ?_
 unfold spec_IndexOf at h
 refine srveM [5] 34 [(0, A a0)] [] ?_
 refine srveM [5] 34 [(0, A a0), (3, .arr 6 0 (eL ([] : List T_impl_Mark)) true)] [] ?_
 refine pwp_seq ?_
 refine srveM [5] 34 [(0, A a0), (3, .arr 6 0 (eL ([] : List T_impl_Mark)) true), (4, I 0)] [] ?_
 refine pwp_block ?_
 refine pwp_loop (ι := Nat × (List T_impl_Mark) × Int) (fun (f3, x1, x2) => (⟨34, [(0, A a0), (3, A x1), (4, I x2)], []⟩ : St)) (fun (f3, x1, x2) => spec_IndexOf_l0 a0 f3 x1 x2 = some y) Prod.fst (FUEL, ([] : List T_impl_Mark), 0) h (Imp.unfS 3 [0, 3, 4] (by kernel_rfl)) ?_
 rintro ⟨f3, x1, x2⟩ h
 dsimp only at h ⊢
 rcases f3 with _ | f3
 cases h
 rw [spec_IndexOf_l0] at h
 refine pwp_seq ?_
 refine pwp_seq ?_
 refine pwp_join (σ := Bool) (fun x5 => (⟨34, [(0, A a0), (3, A x1), (4, I x2), (14, B x5)], []⟩ : St)) (fun x5 => spec_IndexOf_j1 a0 x1 x2 (spec_IndexOf_l0 a0 f3) x5 = some y) ?_ ?_
 refine rvM [5] 5 34 [(0, A a0), (3, A x1), (4, I x2), (11, B (decide (x2 < (a0.length : Int))))] [] ?_
 rcases fk (decide (x2 < (a0.length : Int))) with hc15 | hc15
 replace h := bT hc15 h
 rw [hc15]
 refine vM [5] 1 34 [(0, A a0), (3, A x1), (4, I x2), (11, B true), (12, A a0)] [] ?_
 obtain ⟨v13, hv14, h⟩ := bindS h
 refine cF 13 (ok_spec_VersionsOk hv14) ?_
 refine veM [5] 1 34 [(0, A a0), (3, A x1), (4, I x2), (12, A a0), (13, B v13), (14, B v13)] [] ?_
 exact ⟨v13, h, it [0, 3, 4, 14]⟩
 replace h := bF hc15 h
 rw [hc15]
 refine veM [5] 3 34 [(0, A a0), (3, A x1), (4, I x2), (12, .lit undef), (13, .lit undef), (14, B false)] [] ?_
 exact ⟨false, h, it [0, 3, 4, 14]⟩
 rintro x5 h
 unfold spec_IndexOf_j1 at h
 refine pc h (fun h => ?_) (fun h => ?_)
 refine pwp_skip ?_
 refine pwp_seq ?_
 refine pwp_block ?_
 refine srvM [5] 2 34 [(0, A a0), (3, A x1), (4, I x2), (17, A a0), (18, I x2)] [] ?_
 obtain ⟨v7, hv8, h⟩ := bindS h
 refine opsP_idx τ_ok 19 hv8 (by kernel_rfl) ?_
 refine veM [5] 3 34 [(0, A a0), (3, A x1), (4, I x2), (5, .ptr 0 0 0)] [sc 0 v7] ?_
 refine ip 34 [(0, A a0), (3, A x1), (4, I x2), (5, .ptr 0 0 0)] [sc 0 v7] ?_
 refine pwp_any ([[], [0], [0], [], [0], [0], [0], [0], [0], [0], [], [], []]) ([[], [], [], [], [], [], [], [], [], [], [], [], []]) rfl (by kernel_rfl) ?_
 refine qvM [5] [] trivial 1 34 [(21, A x1), (0, A a0), (3, A x1), (4, I x2), (5, .ptr 0 0 0)] [sc 0 v7] ?_
 refine qvM [5] [0] (hB trivial) 2 34 [(23, A v7.fRow), (21, A x1), (0, A a0), (3, A x1), (4, I x2), (5, .ptr 0 0 0)] [sc 0 v7] ?_
 obtain ⟨v9, hv10, h⟩ := bindS h
 refine qX (some 24) (E v9) 34 [(24, E v9), (21, A x1), (0, A a0), (3, A x1), (4, I x2), (5, .ptr 0 0 0)] [sc 0 v7] (fun Γ' hΓ => CoreE.of_g (callV_sound (τ := τ) (by kernel_rfl) rfl (ok_spec_l31Value hv10) (FzTo.frz rfl))) trivial ?_
 refine qvM [5] [0] (hB trivial) 6 34 [(30, I v7.fDied), (28, I v7.fBorn), (26, I v7.fKey), (24, E v9), (21, A x1), (0, A a0), (3, A x1), (4, I x2)] [sc 0 v7] ?_
 refine qvM [5] [] trivial 1 34 [(31, E (T_impl_Mark.mk v9 v7.fKey v7.fBorn v7.fDied)), (21, A x1), (0, A a0), (3, A x1), (4, I x2)] [sc 0 v7] ?_
 obtain ⟨v11, hv12, h⟩ := bindS h
 refine qX (some 32) (A v11) 34 [(32, A v11), (0, A a0), (3, A x1), (4, I x2)] [sc 0 v7] (fun Γ' hΓ => CoreE.of_g (callV_sound (τ := τ) (by kernel_rfl) rfl (ok_spec_l31Put hv12) (FzTo.O _))) trivial ?_
 refine qvnM [5] [] trivial 1 34 [(0, A a0), (3, A v11), (4, I x2)] [sc 0 v7] ?_
 refine rveM [5] 34 [(0, A a0), (3, A v11), (4, I (w64 (x2 + 1)))] [sc 0 v7] ?_
 exact ⟨(f3, v11, (w64 (x2 + 1))), h, Nat.lt_succ_self _, (it (st' := ⟨34, [(0, A a0), (3, A v11), (4, I (w64 (x2 + 1)))], [sc 0 v7]⟩) [0, 3, 4]).trans (Imp.truncS 0 (nx hX) (by kernel_rfl) (allBelow_mem (by exact (And.intro rfl (And.intro rfl (And.intro rfl trivial))))) (by exact trivial) (by kernel_rfl))⟩
 refine pwp_exit ?_
 refine srveM [5] 34 [(2, A x1)] [] ?_
 cases h
 exact pwp_ret rz
def laws_toVersion_D (a0 : T_laws_Version) : Option T_impl_Version := (laws_toValueS a0.fRow).bind fun v1 => some (T_impl_Version.mk a0.fKey a0.fBorn a0.fDied v1)
theorem ok_laws_toVersion_D {a0 : T_laws_Version} {y : T_impl_Version} (h : laws_toVersion_D a0 = some y) : OK Try.prog 37 [E a0] (.agg (DEnc.cells y)) := by
 refine ow Try.func37 fun Γ hX => ?_
 unfold laws_toVersion_D at h
 refine srvM [1, 2, 3] 1 18 [(1, .ptr 0 0 0)] [sc 0 a0] ?_
 refine opsP_imp (Imp.ghosts 1 (st' := ⟨18, [(1, .ptr 0 0 0)], [sc 0 a0, some ⟨0, []⟩]⟩) (by kernel_rfl)) ?_
 refine opsP_E (dd := some 2) (x := .ptr 1 1 0) (alz_E (blk := ⟨0, []⟩) (zs := [.lit (.int .i64 0), .lit (.int .i64 0), .lit (.int .i64 0), .arr 3 0 [] true]) 2 66 1 0 (nx hX) zi_ok66 (by kernel_rfl) (by kernel_rfl)) ?_
 refine veM [1, 2, 3] 0 18 [(1, .ptr 0 0 0), (2, .ptr 1 1 0)] [sc 0 a0, some ⟨1, [I 0, I 0, I 0, .arr 3 0 (eL ([] : List T_impl_Value)) true]⟩] ?_
 refine srvM [1, 2, 3] 0 18 [(1, .ptr 0 0 0), (2, .ptr 1 1 0)] [sc 0 a0, some ⟨1, [I 0, I 0, I 0, .arr 3 0 (eL ([] : List T_impl_Value)) true]⟩] ?_
 refine opsP_imp (Imp.ghosts 1 (st' := ⟨18, [(1, .ptr 0 0 0), (2, .ptr 1 1 0)], [sc 0 a0, some ⟨1, [I 0, I 0, I 0, .arr 3 0 (eL ([] : List T_impl_Value)) true]⟩, some ⟨0, []⟩]⟩) (by kernel_rfl)) ?_
 refine opsP_E (dd := some 3) (x := .ptr 2 1 0) (alz_E (blk := ⟨0, []⟩) (zs := [.lit (.int .i64 0), .lit (.int .i64 0), .lit (.int .i64 0), .arr 3 0 [] true]) 3 66 2 0 (nx hX) zi_ok66 (by kernel_rfl) (by kernel_rfl)) ?_
 refine veM [1, 2, 3] 0 18 [(1, .ptr 0 0 0), (2, .ptr 1 1 0), (3, .ptr 2 1 0)] [sc 0 a0, some ⟨1, [I 0, I 0, I 0, .arr 3 0 (eL ([] : List T_impl_Value)) true]⟩, some ⟨1, [I 0, I 0, I 0, .arr 3 0 (eL ([] : List T_impl_Value)) true]⟩] ?_
 refine srveM [1, 2, 3] 18 [(1, .ptr 0 0 0), (2, .ptr 1 1 0), (3, .ptr 2 1 0)] [sc 0 a0, some ⟨1, [I 0, I 0, I 0, .arr 3 0 (eL ([] : List T_impl_Value)) true]⟩, some ⟨1, [I a0.fKey, I 0, I 0, .arr 3 0 (eL ([] : List T_impl_Value)) true]⟩] ?_
 refine srveM [1, 2, 3] 18 [(1, .ptr 0 0 0), (2, .ptr 1 1 0), (3, .ptr 2 1 0)] [sc 0 a0, some ⟨1, [I 0, I 0, I 0, .arr 3 0 (eL ([] : List T_impl_Value)) true]⟩, some ⟨1, [I a0.fKey, I a0.fBorn, I 0, .arr 3 0 (eL ([] : List T_impl_Value)) true]⟩] ?_
 refine srveM [1, 2, 3] 18 [(1, .ptr 0 0 0), (2, .ptr 1 1 0), (3, .ptr 2 1 0)] [sc 0 a0, some ⟨1, [I 0, I 0, I 0, .arr 3 0 (eL ([] : List T_impl_Value)) true]⟩, some ⟨1, [I a0.fKey, I a0.fBorn, I a0.fDied, .arr 3 0 (eL ([] : List T_impl_Value)) true]⟩] ?_
 refine srvM [1, 2, 3] 2 18 [(2, .ptr 1 1 0), (3, .ptr 2 1 0), (14, A a0.fRow)] [sc 0 a0, some ⟨1, [I 0, I 0, I 0, .arr 3 0 (eL ([] : List T_impl_Value)) true]⟩, some ⟨1, [I a0.fKey, I a0.fBorn, I a0.fDied, .arr 3 0 (eL ([] : List T_impl_Value)) true]⟩] ?_
 obtain ⟨v1, hv2, h⟩ := bindS h
 refine opsP_callO τ 15 (ok_laws_toValueS hv2) rfl (by kernel_rfl) ?_
 refine veM [1, 2, 3] 2 18 [(2, .ptr 1 1 0), (3, .ptr 2 1 0)] [sc 0 a0, some ⟨1, [I 0, I 0, I 0, .arr 3 0 (eL ([] : List T_impl_Value)) true]⟩, some ⟨1, [I a0.fKey, I a0.fBorn, I a0.fDied, rf 3 0 3 v1]⟩, sl 0 v1] ?_
 refine srveM [1, 2, 3] 18 [(2, .ptr 1 1 0)] [sc 0 a0, some ⟨1, [I a0.fKey, I a0.fBorn, I a0.fDied, rf 3 0 3 v1]⟩, some ⟨1, [I a0.fKey, I a0.fBorn, I a0.fDied, rf 3 0 3 v1]⟩, sl 0 v1] ?_
 have h := si h
 subst h
 exact pwp_ret (rt (.agg [I a0.fKey, I a0.fBorn, I a0.fDied, rf 3 0 3 v1]) (OutP.agg (OutL.cons (OutP.frz rfl) (OutL.cons (OutP.frz rfl) (OutL.cons (OutP.frz rfl) (OutL.cons (OutP.listn (v := 0) (xs := v1) rfl (by kernel_rfl)) (OutL.nil _)))))))
def laws_toVersionS_D_l0 (a0 : List T_laws_Version) : Nat → Int → (List T_impl_Version) → Option (List T_impl_Version)
 | 0, _, _ => none
 | f6 + 1, x4, x5 => bif (decide (x4 < (a0.length : Int))) then (getI a0 x4).bind fun v9 => (laws_toVersion_D v9).bind fun v11 => (getI x5 x4).bind fun v13 => (laws_toVersionS_D_l0 a0 f6) (w64 (x4 + 1)) (x5.set x4.toNat ({ v11 with fRow := v11.fRow } : T_impl_Version)) else some x5
def laws_toVersionS_D (a0 : List T_laws_Version) : Option (List T_impl_Version) := (mkI (a0.length : Int) (T_impl_Version.mk 0 0 0 [])).bind fun v1 => laws_toVersionS_D_l0 a0 FUEL 0 v1
theorem ok_laws_toVersionS_D {a0 : List T_laws_Version} {y : List T_impl_Version} (h : laws_toVersionS_D a0 = some y) : OK Try.prog 9 [A a0] (OD y) := by
 refine ow Try.func9 fun Γ hX => ?_
 unfold laws_toVersionS_D at h
 refine srve 23 [(0, A a0)] [] ?_
 refine srv 2 23 [(0, A a0), (6, I (a0.length : Int))] [] ?_
 obtain ⟨v1, hv2, h⟩ := bindS h
 refine opsP_E (dd := some 7) (x := rf 0 0 4 v1) (mkD_N τ_ok 7 0 66 (nx hX) (by kernel_rfl) _ hv2 dz_ok66 (by kernel_rfl)) ?_
 refine ve 1 23 [(0, A a0), (3, rf 0 0 4 v1)] [some ⟨0, dL v1⟩] ?_
 refine pwp_seq ?_
 refine srve 23 [(0, A a0), (3, rf 0 0 4 v1), (4, I 0)] [some ⟨0, dL v1⟩] ?_
 refine pwp_block ?_
 refine pwp_loop (ι := Nat × Int × (List T_impl_Version)) (fun (f6, x4, x5) => (⟨23, [(0, A a0), (3, rf 0 0 4 x5), (4, I x4)], [some ⟨0, dL x5⟩]⟩ : St)) (fun (f6, x4, x5) => laws_toVersionS_D_l0 a0 f6 x4 x5 = some y) Prod.fst (FUEL, 0, v1) h (it [0, 3, 4]) ?_
 rintro ⟨f6, x4, x5⟩ h
 dsimp only at h ⊢
 rcases f6 with _ | f6
 cases h
 rw [laws_toVersionS_D_l0] at h
 refine pwp_seq ?_
 refine srve 23 [(0, A a0), (3, rf 0 0 4 x5), (4, I x4), (11, B (decide (x4 < (a0.length : Int))))] [some ⟨0, dL x5⟩] ?_
 refine pc h (fun h => ?_) (fun h => ?_)
 refine pwp_skip ?_
 refine pwp_seq ?_
 refine pwp_block ?_
 refine rv 4 23 [(0, A a0), (3, rf 0 0 4 x5), (4, I x4), (14, rf 0 0 4 x5), (15, I x4), (16, A a0), (17, I x4)] [some ⟨0, dL x5⟩] ?_
 obtain ⟨v9, hv10, h⟩ := bindS h
 refine opsP_idx τ_ok 18 hv10 (by kernel_rfl) ?_
 refine v 1 23 [(0, A a0), (3, rf 0 0 4 x5), (4, I x4), (14, rf 0 0 4 x5), (15, I x4), (19, E v9)] [some ⟨0, dL x5⟩] ?_
 obtain ⟨v11, hv12, h⟩ := bindS h
 refine opsP_callO τ 20 (ok_laws_toVersion_D hv12) rfl (by kernel_rfl) ?_
 obtain ⟨v13, hv14, h⟩ := bindS h
 refine opsP_idr τ_ok 21 0 0 x5.length hv14 rfl (by kernel_rfl) ?_
 refine v 0 23 [(0, A a0), (3, rf 0 0 4 x5), (4, I x4), (20, .agg [I v11.fKey, I v11.fBorn, I v11.fDied, rf 1 0 3 v11.fRow]), (21, .ptr 0 0 (x4.toNat * 4))] [some ⟨0, dL x5⟩, sl 0 v11.fRow] ?_
 refine opsP_E (dd := none) (x := .any) ((std_E (xs := x5) (vs := [I v11.fKey, I v11.fBorn, I v11.fDied, rf 1 0 3 v11.fRow]) (cells' := setL (dL x5) (x4.toNat * 4 + 0) [I v11.fKey, I v11.fBorn, I v11.fDied, rf 1 0 3 v11.fRow]) τ_ok 66 0 0 0 hv14 (by kernel_rfl) (by kernel_rfl) rfl).then (H2 := [some ⟨0, dL (x5.set x4.toNat ({ v11 with fRow := v11.fRow } : T_impl_Version))⟩, some ⟨1, []⟩]) (HStep.nestL (xs := x5) (vs := [I v11.fKey, I v11.fBorn, I v11.fDied, rf 1 0 3 v11.fRow]) 0 0 0 ({ v11 with fRow := v11.fRow } : T_impl_Version) hv14 (by kernel_rfl) (OutL.cons (OutP.frz rfl) (OutL.cons (OutP.frz rfl) (OutL.cons (OutP.frz rfl) (OutL.cons (OutP.listn (v := 0) (xs := v11.fRow) rfl (by kernel_rfl)) (OutL.nil _))))) (by decide) (by decide) (nx hX) (by kernel_rfl) (by kernel_rfl) (by kernel_rfl) (by kernel_rfl))) ?_
 refine io 23 [(0, A a0), (3, rf 0 0 4 x5), (4, I x4)] [some ⟨0, dL (x5.set x4.toNat ({ v11 with fRow := v11.fRow } : T_impl_Version))⟩, some ⟨1, []⟩] ?_
 refine opsP_ren (st' := ⟨23, [(0, A a0), (3, .ref 0 0 0 4 (x5.set x4.toNat ({ v11 with fRow := v11.fRow } : T_impl_Version)).length false), (4, I x4)], [some ⟨0, dL (x5.set x4.toNat ({ v11 with fRow := v11.fRow } : T_impl_Version))⟩, some ⟨1, []⟩]⟩) 0 (x5.set x4.toNat ({ v11 with fRow := v11.fRow } : T_impl_Version)).length (renC trivial (renC (ren_ref (List.length_set ..).symm) (renC trivial renC0))) (by kernel_rfl) ?_
 refine ve 0 23 [(0, A a0), (3, .ref 0 0 0 4 (x5.set x4.toNat ({ v11 with fRow := v11.fRow } : T_impl_Version)).length false), (4, I x4)] [some ⟨0, dL (x5.set x4.toNat ({ v11 with fRow := v11.fRow } : T_impl_Version))⟩, some ⟨1, []⟩] ?_
 refine rve 23 [(0, A a0), (3, .ref 0 0 0 4 (x5.set x4.toNat ({ v11 with fRow := v11.fRow } : T_impl_Version)).length false), (4, I (w64 (x4 + 1)))] [some ⟨0, dL (x5.set x4.toNat ({ v11 with fRow := v11.fRow } : T_impl_Version))⟩, some ⟨1, []⟩] ?_
 exact ⟨(f6, (w64 (x4 + 1)), (x5.set x4.toNat ({ v11 with fRow := v11.fRow } : T_impl_Version))), h, Nat.lt_succ_self _, (it (st' := ⟨23, [(0, A a0), (3, .ref 0 0 0 4 (x5.set x4.toNat ({ v11 with fRow := v11.fRow } : T_impl_Version)).length false), (4, I (w64 (x4 + 1)))], [some ⟨0, dL (x5.set x4.toNat ({ v11 with fRow := v11.fRow } : T_impl_Version))⟩, some ⟨1, []⟩]⟩) [0, 3, 4]).trans (Imp.truncS 1 (nx hX) (by kernel_rfl) (allBelow_mem (by exact (And.intro rfl (And.intro rfl (And.intro rfl trivial))))) (by exact (And.intro (dL_below _ _) trivial)) (by kernel_rfl))⟩
 refine pwp_exit ?_
 refine srve 23 [(2, rf 0 0 4 x5)] [some ⟨0, dL x5⟩] ?_
 have h := si h
 subst h
 exact pwp_ret (rt (rf 0 0 4 x5) (OutP.listD (v := 0) (by kernel_rfl)))
def slices_Clip_impl_Mark_impl_Mark_R (a0 : List T_impl_Mark) : Option (List T_impl_Mark) := (slI a0 none (some (a0.length : Int)) (some (a0.length : Int))).bind fun v1 => some v1
theorem ok_slices_Clip_impl_Mark_impl_Mark_R {a0 : List T_impl_Mark} {y : List T_impl_Mark} (h : slices_Clip_impl_Mark_impl_Mark_R a0 = some y) : OKm Try.prog 82 [O a0] (O y) := by
 refine OKm_of_pwp (sl := [rf 0 0 6 a0]) (bs := [⟨0, eL a0⟩]) τ_ok Try.func82 rfl (by kernel_rfl) rfl (by kernel_rfl) fun Γ hX => ?_
 refine pwp_imp (Imp.to (st' := ⟨9, [(0, rf 0 0 6 a0)], [sl 0 a0]⟩) [0] (by kernel_rfl)) ?_
 unfold slices_Clip_impl_Mark_impl_Mark_R at h
 refine srve 9 [(0, rf 0 0 6 a0)] [sl 0 a0] ?_
 refine srv 5 9 [(3, rf 0 0 6 a0), (5, I (a0.length : Int)), (7, I (a0.length : Int))] [sl 0 a0] ?_
 obtain ⟨v1, hv2, h⟩ := bindS h
 refine opsP_slr τ_ok 8 0 0 a0.length hv2 rfl (by kernel_rfl) ?_
 refine ve 1 9 [(2, rf 0 0 6 v1)] [sl 0 a0] ?_
 refine ip 9 [(2, rf 0 0 6 v1)] [sl 0 a0] ?_
 refine pwp_imp (Imp.cut (st' := ⟨9, [(2, rf 0 0 6 v1)], [sl 0 v1]⟩) 0 0 a0 v1 (by kernel_rfl) (slI_view hv2) (by kernel_rfl)) ?_
 have h := si h
 subst h
 exact pwp_ret (rt (rf 0 0 6 v1) (OutP.list (v := 0) (by kernel_rfl)))
def impl_clone_impl_Mark_R (a0 : List T_impl_Mark) : Option (List T_impl_Mark) := bif ((a0.length : Int) == 0) then some ([] : List T_impl_Mark) else (app [] a0).bind fun v2 => (slices_Clip_impl_Mark_impl_Mark_R v2).bind fun v4 => some v4
theorem ok_impl_clone_impl_Mark_R {a0 : List T_impl_Mark} {y : List T_impl_Mark} (h : impl_clone_impl_Mark_R a0 = some y) : OK Try.prog 41 [A a0] (O y) := by
 refine ow Try.func41 fun Γ hX => ?_
 unfold impl_clone_impl_Mark_R at h
 refine srve 9 [(0, A a0)] [] ?_
 refine pwp_seq ?_
 refine srve 9 [(0, A a0), (5, B ((a0.length : Int) == 0))] [] ?_
 refine pc h (fun h => ?_) (fun h => ?_)
 refine srve 9 [(2, .arr 6 0 (eL ([] : List T_impl_Mark)) true)] [] ?_
 refine ip 9 [(2, .arr 6 0 (eL ([] : List T_impl_Mark)) true)] [] ?_
 refine pwp_imp (Imp.thawS (st' := ⟨9, [(2, .ref 0 0 0 6 ([] : List T_impl_Mark).length false)], [some ⟨0, eL ([] : List T_impl_Mark)⟩]⟩) 2 [2] (by kernel_rfl)) ?_
 have h := si h
 subst h
 exact pwp_ret (rt (.ref 0 0 0 6 ([] : List T_impl_Mark).length false) (OutP.list (v := 0) (by kernel_rfl)))
 refine pwp_skip ?_
 refine srv 1 9 [(6, A a0)] [] ?_
 obtain ⟨v2, hv3, h⟩ := bindS h
 refine opsP_apn τ_ok 7 0 (nx hX) hv3 (by kernel_rfl) ?_
 obtain ⟨v4, hv5, h⟩ := bindS h
 refine opsP_callM (xs := [rf 0 1 6 v2]) (x := rf 1 0 6 v4) (bs := [⟨0, eL v4⟩]) τ 8 [0] (nx hX) (ok_slices_Clip_impl_Mark_impl_Mark_R hv5) (by kernel_rfl) (OutL.cons (OutP.list (v := 1) (by kernel_rfl)) (OutL.nil _)) (by decide) (by kernel_rfl) ?_
 refine ve 1 9 [(2, rf 1 0 6 v4)] [none, sl 0 v4] ?_
 have h := si h
 subst h
 exact pwp_ret (rt (rf 1 0 6 v4) (OutP.list (v := 0) (by kernel_rfl)))
noncomputable def impl_IndexOf_R_l0 (a0 : List T_impl_Version) : Nat → Int → (List T_impl_Mark) → Option (List T_impl_Mark)
 | 0, _, _ => none
 | f7 + 1, x5, x6 => bif (decide (x5 < (a0.length : Int))) then (getI a0 x5).bind fun v10 => (impl_firstOf v10.fRow).bind fun v12 => (app x6 ([(T_impl_Mark.mk v12 v10.fKey v10.fBorn v10.fDied)] : List T_impl_Mark)).bind fun v14 => (impl_IndexOf_R_l0 a0 f7) (w64 (x5 + 1)) v14 else (sortM x6 impl_Mark_order).bind fun v16 => (impl_clone_impl_Mark_R v16).bind fun v18 => some v18
noncomputable def impl_IndexOf_R (a0 : List T_impl_Version) : Option (List T_impl_Mark) := (impl_VersionsOk a0).bind fun v1 => bif (!v1) then some ([] : List T_impl_Mark) else impl_IndexOf_R_l0 a0 FUEL 0 ([] : List T_impl_Mark)
theorem ok_impl_IndexOf_R {a0 : List T_impl_Version} {y : List T_impl_Mark} (h : impl_IndexOf_R a0 = some y) : OK Try.prog 10 [A a0] (O y) := by
 refine ow Try.func10 fun Γ hX => ?_
 unfold impl_IndexOf_R at h
 refine srveM [5] 33 [(0, A a0)] [] ?_
 refine pwp_seq ?_
 refine srvM [5] 1 33 [(0, A a0), (6, A a0)] [] ?_
 obtain ⟨v1, hv2, h⟩ := bindS h
 refine cF 7 (ok_impl_VersionsOk hv2) ?_
 refine veM [5] 1 33 [(0, A a0), (8, B (!v1))] [] ?_
 refine pc h (fun h => ?_) (fun h => ?_)
 refine srveM [5] 33 [(2, .arr 6 0 (eL ([] : List T_impl_Mark)) true)] [] ?_
 refine ip 33 [(2, .arr 6 0 (eL ([] : List T_impl_Mark)) true)] [] ?_
 refine pwp_imp (Imp.thawS (st' := ⟨33, [(2, .ref 0 0 0 6 ([] : List T_impl_Mark).length false)], [some ⟨0, eL ([] : List T_impl_Mark)⟩]⟩) 2 [2] (by kernel_rfl)) ?_
 have h := si h
 subst h
 exact pwp_ret (rt (.ref 0 0 0 6 ([] : List T_impl_Mark).length false) (OutP.list (v := 0) (by kernel_rfl)))
 refine pwp_skip ?_
 refine srveM [5] 33 [(0, A a0), (3, .arr 6 0 (eL ([] : List T_impl_Mark)) true)] [] ?_
 refine pwp_seq ?_
 refine srveM [5] 33 [(3, .arr 6 0 (eL ([] : List T_impl_Mark)) true), (9, A a0), (10, I (a0.length : Int)), (11, I 0)] [] ?_
 refine pwp_block ?_
 refine pwp_loop (ι := Nat × Int × (List T_impl_Mark)) (fun (f7, x5, x6) => (⟨33, [(3, rf 0 0 6 x6), (9, A a0), (10, I (a0.length : Int)), (11, I x5)], [sl 0 x6]⟩ : St)) (fun (f7, x5, x6) => impl_IndexOf_R_l0 a0 f7 x5 x6 = some y) Prod.fst (FUEL, 0, ([] : List T_impl_Mark)) h (Imp.thawS 3 [3, 9, 10, 11] (by kernel_rfl)) ?_
 rintro ⟨f7, x5, x6⟩ h
 dsimp only at h ⊢
 rcases f7 with _ | f7
 cases h
 rw [impl_IndexOf_R_l0] at h
 refine srveM [5] 33 [(3, rf 0 0 6 x6), (9, A a0), (10, I (a0.length : Int)), (11, I x5), (12, B (decide (x5 < (a0.length : Int))))] [sl 0 x6] ?_
 refine pwp_seq ?_
 refine pc h (fun h => ?_) (fun h => ?_)
 refine pwp_skip ?_
 refine pwp_seq ?_
 refine pwp_block ?_
 refine pwp_seq ?_
 refine pwp_region ?_
 obtain ⟨v10, hv11, h⟩ := bindS h
 refine opsP_idx τ_ok 13 hv11 (by kernel_rfl) ?_
 refine veM [5] 3 33 [(3, rf 0 0 6 x6), (5, .ptr 1 0 0), (9, A a0), (10, I (a0.length : Int)), (11, I x5)] [sl 0 x6, sc 0 v10] ?_
 refine ip 33 [(3, rf 0 0 6 x6), (5, .ptr 1 0 0), (9, A a0), (10, I (a0.length : Int)), (11, I x5)] [sl 0 x6, sc 0 v10] ?_
 refine pwp_any ([[0], [1], [1], [], [1], [1], [1], [1], [1], [1], [], [], [0], [0]]) ([[], [], [], [], [], [], [], [], [], [], [], [], [0], []]) rfl (by kernel_rfl) ?_
 refine qvM [5] [0] (hL trivial) 1 33 [(15, rf 0 0 6 x6), (3, rf 0 0 6 x6), (5, .ptr 1 0 0), (9, A a0), (10, I (a0.length : Int)), (11, I x5)] [sl 0 x6, sc 0 v10] ?_
 refine qvM [5] [1] (hB trivial) 2 33 [(17, A v10.fRow), (15, rf 0 0 6 x6), (3, rf 0 0 6 x6), (5, .ptr 1 0 0), (9, A a0), (10, I (a0.length : Int)), (11, I x5)] [sl 0 x6, sc 0 v10] ?_
 obtain ⟨v12, hv13, h⟩ := bindS h
 refine qX (some 18) (E v12) 33 [(18, E v12), (15, rf 0 0 6 x6), (3, rf 0 0 6 x6), (5, .ptr 1 0 0), (9, A a0), (10, I (a0.length : Int)), (11, I x5)] [sl 0 x6, sc 0 v10] (fun Γ' hΓ => CoreE.of_g (callV_sound (τ := τ) (by kernel_rfl) rfl (ok_impl_firstOf hv13) (FzTo.frz rfl))) trivial ?_
 refine qvM [5] [1] (hB trivial) 6 33 [(24, I v10.fDied), (22, I v10.fBorn), (20, I v10.fKey), (18, E v12), (15, rf 0 0 6 x6), (3, rf 0 0 6 x6), (9, A a0), (10, I (a0.length : Int)), (11, I x5)] [sl 0 x6, sc 0 v10] ?_
 refine qvM [5] [] trivial 2 33 [(26, .arr 6 ([(T_impl_Mark.mk v12 v10.fKey v10.fBorn v10.fDied)] : List T_impl_Mark).length (eL ([(T_impl_Mark.mk v12 v10.fKey v10.fBorn v10.fDied)] : List T_impl_Mark)) true), (15, rf 0 0 6 x6), (3, rf 0 0 6 x6), (9, A a0), (10, I (a0.length : Int)), (11, I x5)] [sl 0 x6, sc 0 v10] ?_
 obtain ⟨v14, hv15, h⟩ := bindS h
 refine qX (some 27) (rf 0 1 6 v14) 33 [(27, rf 0 1 6 v14), (3, rf 0 0 6 x6), (9, A a0), (10, I (a0.length : Int)), (11, I x5)] [sl 1 v14, sc 0 v10] (fun Γ' hΓ => app_Ew τ_ok 27 0 0 (ny hΓ hX) hv15 (by kernel_rfl)) (hL trivial) ?_
 refine qvnM [5] [0] (hL trivial) 1 33 [(3, rf 0 1 6 v14), (9, A a0), (10, I (a0.length : Int)), (11, I x5)] [sl 1 v14, sc 0 v10] ?_
 refine rveM [5] 33 [(3, rf 0 1 6 v14), (9, A a0), (10, I (a0.length : Int)), (11, I (w64 (x5 + 1)))] [sl 1 v14, sc 0 v10] ?_
 exact ⟨(f7, (w64 (x5 + 1)), v14), h, Nat.lt_succ_self _, qt (it (st' := ⟨33, [(3, rf 0 1 6 v14), (9, A a0), (10, I (a0.length : Int)), (11, I (w64 (x5 + 1)))], [sl 1 v14, sc 0 v10]⟩) [3, 9, 10, 11]) (qt (Imp.truncS (st' := ⟨33, [(3, rf 0 1 6 v14), (9, A a0), (10, I (a0.length : Int)), (11, I (w64 (x5 + 1)))], [sl 1 v14]⟩) 1 (nx hX) (by kernel_rfl) (allBelow_mem (by exact (And.intro rfl (And.intro rfl (And.intro rfl (And.intro rfl trivial)))))) (by exact (And.intro (frz_below (eL_frz _)) trivial)) (by kernel_rfl)) (Imp.reverS 0 1 (eL v14) [3, 9, 10, 11] (by kernel_rfl) (by exact (And.intro (eL_frz _) trivial)) (by kernel_rfl)))⟩
 refine pwp_exit ?_
 refine srvM [5] 1 33 [(3, rf 0 0 6 x6), (29, rf 0 0 6 x6)] [sl 0 x6] ?_
 obtain ⟨v16, hv17, h⟩ := bindS h
 refine opsP_E (dd := some 30) (x := .tup []) (callS_E τ 30 0 0 (ok_sortM (rfl) (fun _ _ w hw => ok_impl_Mark_order hw) hv17) (FzTo.tup FzToL.nil) rfl rfl (by kernel_rfl)) ?_
 refine io 33 [(3, rf 0 0 6 x6), (29, rf 0 0 6 x6), (30, .tup [])] [sl 0 v16] ?_
 refine opsP_ren (st' := ⟨33, [(3, rf 0 0 6 v16), (29, rf 0 0 6 v16), (30, .tup [])], [sl 0 v16]⟩) 0 v16.length (renC (ren_ref (len_sortM hv17).symm) (renC (ren_ref (len_sortM hv17).symm) (renC trivial renC0))) (by kernel_rfl) ?_
 refine veM [5] 0 33 [(3, rf 0 0 6 v16)] [sl 0 v16] ?_
 refine srvM [5] 1 33 [(31, rf 0 0 6 v16)] [sl 0 v16] ?_
 obtain ⟨v18, hv19, h⟩ := bindS h
 refine opsP_E (dd := some 32) (x := rf 1 0 6 v18) (callVN_E (xs := [rf 0 0 6 v16]) τ 32 1 (nx hX) (by kernel_rfl) (ok_impl_clone_impl_Mark_R hv19) (Blind.O (fun _ => rfl) _) (by kernel_rfl) (ViewL.cons (View.whole (v := 0) v16 (by kernel_rfl) rfl) (ViewL.nil _))) ?_
 refine veM [5] 1 33 [(2, rf 1 0 6 v18)] [sl 0 v16, sl 0 v18] ?_
 have h := si h
 subst h
 exact pwp_ret (rt (rf 1 0 6 v18) (OutP.list (v := 0) (by kernel_rfl)))
noncomputable def laws_FnExactIndexOf_j0 (a0 : List T_laws_Version) (v6 : List T_impl_Mark) (v10 : List T_impl_Mark) (x22 : Bool) : Option Bool := bif x22 then some false else (laws_markMarkS v10 1).bind fun v24 => (laws_heldMarkS v24.2 1).bind fun v26 => bif (decide (v26 < 0)) then some false else bif (!(v26 == v24.1)) then some false else (laws_toVersionS_D a0).bind fun v30 => (impl_IndexOf_R v30).bind fun v32 => (laws_eqMarkS v32 v6).bind fun v34 => bif (!v34) then some false else (laws_heldMarkS v24.2 1).bind fun v37 => bif (decide (v37 < 0)) then some false else bif (!(v37 == v24.1)) then some false else some true
noncomputable def laws_FnExactIndexOf (a0 : List T_laws_Version) : Option Bool := (laws_szVersionS a0 1048576).bind fun v1 => bif (decide (v1 < 0)) then some true else (laws_toVersionS_D a0).bind fun v4 => (spec_IndexOf v4).bind fun v6 => (laws_toVersionS_D a0).bind fun v8 => (impl_IndexOf_R v8).bind fun v10 => (laws_eqMarkS v10 v6).bind fun v12 => bif (!v12) then some false else (laws_toVersionS_D a0).bind fun v15 => (laws_eqVersionS v8 v15).bind fun v17 => bif (!v17) then some false else (laws_markVersionS v8 1).bind fun v20 => bif (decide (v20.1 < 0)) then laws_FnExactIndexOf_j0 a0 v6 v10 true else (laws_eqMarkS v10 v6).bind fun v41 => laws_FnExactIndexOf_j0 a0 v6 v10 (!v41)
theorem ok_laws_FnExactIndexOf {a0 : List T_laws_Version} {y : Bool} (h : laws_FnExactIndexOf a0 = some y) : OK Try.prog 3 [A a0] (B y) := by
 refine ow Try.func3 fun Γ hX => ?_
 unfold laws_FnExactIndexOf at h
 refine srve 69 [(0, A a0)] [] ?_
 refine srve 69 [(0, A a0), (3, I 1048576)] [] ?_
 refine srv 2 69 [(0, A a0), (11, A a0), (12, I 1048576)] [] ?_
 obtain ⟨v1, hv2, h⟩ := bindS h
 refine cF 13 (ok_laws_szVersionS hv2) ?_
 refine ve 1 69 [(0, A a0), (3, I v1)] [] ?_
 refine pwp_seq ?_
 refine srve 69 [(0, A a0), (15, B (decide (v1 < 0)))] [] ?_
 refine pc h (fun h => ?_) (fun h => ?_)
 refine srve 69 [(2, B true)] [] ?_
 cases h
 exact pwp_ret rz
 refine pwp_skip ?_
 refine srv 1 69 [(0, A a0), (16, A a0)] [] ?_
 obtain ⟨v4, hv5, h⟩ := bindS h
 refine opsP_callF τ 17 (ok_laws_toVersionS_D hv5) (FzTo.OD _) rfl (by kernel_rfl) ?_
 obtain ⟨v6, hv7, h⟩ := bindS h
 refine cF 18 (ok_spec_IndexOf hv7) ?_
 refine ve 1 69 [(0, A a0), (4, A v6)] [] ?_
 refine srv 1 69 [(0, A a0), (4, A v6), (19, A a0)] [] ?_
 obtain ⟨v8, hv9, h⟩ := bindS h
 refine opsP_callO τ 20 (ok_laws_toVersionS_D hv9) rfl (by kernel_rfl) ?_
 refine ve 1 69 [(0, A a0), (4, A v6), (5, rf 0 0 4 v8)] [some ⟨0, dL v8⟩] ?_
 refine srv 1 69 [(0, A a0), (4, A v6), (5, rf 0 0 4 v8), (21, rf 0 0 4 v8)] [some ⟨0, dL v8⟩] ?_
 obtain ⟨v10, hv11, h⟩ := bindS h
 refine opsP_E (dd := some 22) (x := rf 1 0 6 v10) (callVN_E (xs := [rf 0 0 4 v8]) τ 22 1 (nx hX) (by kernel_rfl) (ok_impl_IndexOf_R hv11) (Blind.O (fun _ => rfl) _) (by kernel_rfl) (ViewL.cons (View.deep (v := 0) v8 (by kernel_rfl) rfl) (ViewL.nil _))) ?_
 refine ve 1 69 [(0, A a0), (4, A v6), (5, rf 0 0 4 v8), (6, rf 1 0 6 v10)] [some ⟨0, dL v8⟩, sl 0 v10] ?_
 refine pwp_seq ?_
 refine srv 2 69 [(0, A a0), (4, A v6), (5, rf 0 0 4 v8), (6, rf 1 0 6 v10), (23, rf 1 0 6 v10), (24, A v6)] [some ⟨0, dL v8⟩, sl 0 v10] ?_
 obtain ⟨v12, hv13, h⟩ := bindS h
 refine opsP_callV (xs := [rf 1 0 6 v10, A v6]) τ 25 (ok_laws_eqMarkS hv13) (Blind.lit _) (FzTo.frz rfl) (by kernel_rfl) (ViewL.cons (View.whole (v := 0) v10 (by kernel_rfl) rfl) (ViewL.cons (View.frz rfl) (ViewL.nil _))) ?_
 refine ve 1 69 [(0, A a0), (4, A v6), (5, rf 0 0 4 v8), (6, rf 1 0 6 v10), (26, B (!v12))] [some ⟨0, dL v8⟩, sl 0 v10] ?_
 refine pc h (fun h => ?_) (fun h => ?_)
 refine srve 69 [(2, B false)] [some ⟨0, dL v8⟩, sl 0 v10] ?_
 cases h
 exact pwp_ret rz
 refine pwp_skip ?_
 refine pwp_seq ?_
 refine srv 2 69 [(0, A a0), (4, A v6), (5, rf 0 0 4 v8), (6, rf 1 0 6 v10), (27, rf 0 0 4 v8), (28, A a0)] [some ⟨0, dL v8⟩, sl 0 v10] ?_
 obtain ⟨v15, hv16, h⟩ := bindS h
 refine opsP_callF τ 29 (ok_laws_toVersionS_D hv16) (FzTo.OD _) rfl (by kernel_rfl) ?_
 obtain ⟨v17, hv18, h⟩ := bindS h
 refine opsP_callV (xs := [rf 0 0 4 v8, A v15]) τ 30 (ok_laws_eqVersionS hv18) (Blind.lit _) (FzTo.frz rfl) (by kernel_rfl) (ViewL.cons (View.deep (v := 0) v8 (by kernel_rfl) rfl) (ViewL.cons (View.frz rfl) (ViewL.nil _))) ?_
 refine ve 1 69 [(0, A a0), (4, A v6), (5, rf 0 0 4 v8), (6, rf 1 0 6 v10), (31, B (!v17))] [some ⟨0, dL v8⟩, sl 0 v10] ?_
 refine pc h (fun h => ?_) (fun h => ?_)
 refine srve 69 [(2, B false)] [some ⟨0, dL v8⟩, sl 0 v10] ?_
 cases h
 exact pwp_ret rz
 refine pwp_skip ?_
 refine srve 69 [(0, A a0), (4, A v6), (5, rf 0 0 4 v8), (6, rf 1 0 6 v10), (7, I 1)] [some ⟨0, dL v8⟩, sl 0 v10] ?_
 refine srv 2 69 [(0, A a0), (4, A v6), (6, rf 1 0 6 v10), (32, rf 0 0 4 v8), (33, I 1)] [some ⟨0, dL v8⟩, sl 0 v10] ?_
 obtain ⟨v20, hv21, h⟩ := bindS h
 refine opsP_E (dd := some 34) (x := I v20.1) (callD_E τ 34 0 0 (ok_laws_markVersionS hv21) (by kernel_rfl)) ?_
 refine io 69 [(0, A a0), (4, A v6), (6, rf 1 0 6 v10), (32, rf 0 0 4 v8), (33, I 1), (34, I v20.1)] [some ⟨0, dL v20.2⟩, sl 0 v10] ?_
 refine opsP_ren (st' := ⟨69, [(0, A a0), (4, A v6), (6, rf 1 0 6 v10), (32, rf 0 0 4 v20.2), (33, I 1), (34, I v20.1)], [some ⟨0, dL v20.2⟩, sl 0 v10]⟩) 0 v20.2.length (renC trivial (renC trivial (renC (ren_ne rfl) (renC (ren_ref (len_laws_markVersionS hv21).symm) (renC trivial (renC trivial renC0)))))) (by kernel_rfl) ?_
 refine ve 1 69 [(0, A a0), (4, A v6), (6, rf 1 0 6 v10), (7, I v20.1)] [some ⟨0, dL v20.2⟩, sl 0 v10] ?_
 refine pwp_seq ?_
 refine pwp_seq ?_
 refine pwp_join (σ := Bool) (fun x22 => (⟨69, [(0, A a0), (4, A v6), (6, rf 1 0 6 v10), (42, B x22)], [some ⟨0, dL v20.2⟩, sl 0 v10]⟩ : St)) (fun x22 => laws_FnExactIndexOf_j0 a0 v6 v10 x22 = some y) ?_ ?_
 refine rv 3 69 [(0, A a0), (4, A v6), (6, rf 1 0 6 v10), (37, B (decide (v20.1 < 0)))] [some ⟨0, dL v20.2⟩, sl 0 v10] ?_
 rcases fk (decide (v20.1 < 0)) with hc43 | hc43
 replace h := bT hc43 h
 rw [hc43]
 refine ve 5 69 [(0, A a0), (4, A v6), (6, rf 1 0 6 v10), (42, B true)] [some ⟨0, dL v20.2⟩, sl 0 v10] ?_
 exact ⟨true, h, it [0, 4, 6, 42]⟩
 replace h := bF hc43 h
 rw [hc43]
 refine v 2 69 [(0, A a0), (4, A v6), (6, rf 1 0 6 v10), (37, B false), (38, rf 1 0 6 v10), (39, A v6)] [some ⟨0, dL v20.2⟩, sl 0 v10] ?_
 obtain ⟨v41, hv42, h⟩ := bindS h
 refine opsP_callV (xs := [rf 1 0 6 v10, A v6]) τ 40 (ok_laws_eqMarkS hv42) (Blind.lit _) (FzTo.frz rfl) (by kernel_rfl) (ViewL.cons (View.whole (v := 0) v10 (by kernel_rfl) rfl) (ViewL.cons (View.frz rfl) (ViewL.nil _))) ?_
 refine ve 2 69 [(0, A a0), (4, A v6), (6, rf 1 0 6 v10), (42, B (!v41))] [some ⟨0, dL v20.2⟩, sl 0 v10] ?_
 exact ⟨(!v41), h, it [0, 4, 6, 42]⟩
 rintro x22 h
 unfold laws_FnExactIndexOf_j0 at h
 refine pc h (fun h => ?_) (fun h => ?_)
 refine srve 69 [(2, B false)] [some ⟨0, dL v20.2⟩, sl 0 v10] ?_
 cases h
 exact pwp_ret rz
 refine pwp_skip ?_
 refine srve 69 [(0, A a0), (4, A v6), (6, rf 1 0 6 v10), (8, I 1)] [some ⟨0, dL v20.2⟩, sl 0 v10] ?_
 refine srv 2 69 [(0, A a0), (4, A v6), (6, rf 1 0 6 v10), (43, rf 1 0 6 v10), (44, I 1)] [some ⟨0, dL v20.2⟩, sl 0 v10] ?_
 obtain ⟨v24, hv25, h⟩ := bindS h
 refine opsP_E (dd := some 45) (x := I v24.1) (callD_E τ 45 1 0 (ok_laws_markMarkS hv25) (by kernel_rfl)) ?_
 refine io 69 [(0, A a0), (4, A v6), (6, rf 1 0 6 v10), (43, rf 1 0 6 v10), (44, I 1), (45, I v24.1)] [some ⟨0, dL v20.2⟩, sl 0 v24.2] ?_
 refine opsP_ren (st' := ⟨69, [(0, A a0), (4, A v6), (6, rf 1 0 6 v24.2), (43, rf 1 0 6 v24.2), (44, I 1), (45, I v24.1)], [some ⟨0, dL v20.2⟩, sl 0 v24.2]⟩) 1 v24.2.length (renC trivial (renC trivial (renC (ren_ref (len_laws_markMarkS hv25).symm) (renC (ren_ref (len_laws_markMarkS hv25).symm) (renC trivial (renC trivial renC0)))))) (by kernel_rfl) ?_
 refine ve 1 69 [(0, A a0), (4, A v6), (6, rf 1 0 6 v24.2), (8, I v24.1)] [some ⟨0, dL v20.2⟩, sl 0 v24.2] ?_
 refine srve 69 [(0, A a0), (4, A v6), (6, rf 1 0 6 v24.2), (8, I v24.1), (9, I 1)] [some ⟨0, dL v20.2⟩, sl 0 v24.2] ?_
 refine srv 2 69 [(0, A a0), (4, A v6), (6, rf 1 0 6 v24.2), (8, I v24.1), (46, rf 1 0 6 v24.2), (47, I 1)] [some ⟨0, dL v20.2⟩, sl 0 v24.2] ?_
 obtain ⟨v26, hv27, h⟩ := bindS h
 refine opsP_callV (xs := [rf 1 0 6 v24.2, I 1]) τ 48 (ok_laws_heldMarkS hv27) (Blind.lit _) (FzTo.frz rfl) (by kernel_rfl) (ViewL.cons (View.whole (v := 0) v24.2 (by kernel_rfl) rfl) (ViewL.cons (View.frz rfl) (ViewL.nil _))) ?_
 refine ve 1 69 [(0, A a0), (4, A v6), (6, rf 1 0 6 v24.2), (8, I v24.1), (9, I v26)] [some ⟨0, dL v20.2⟩, sl 0 v24.2] ?_
 refine pwp_seq ?_
 refine srve 69 [(0, A a0), (4, A v6), (6, rf 1 0 6 v24.2), (8, I v24.1), (9, I v26), (50, B (decide (v26 < 0)))] [some ⟨0, dL v20.2⟩, sl 0 v24.2] ?_
 refine pc h (fun h => ?_) (fun h => ?_)
 refine srve 69 [(2, B false)] [some ⟨0, dL v20.2⟩, sl 0 v24.2] ?_
 cases h
 exact pwp_ret rz
 refine pwp_skip ?_
 refine pwp_seq ?_
 refine srve 69 [(0, A a0), (4, A v6), (6, rf 1 0 6 v24.2), (8, I v24.1), (53, B (!(v26 == v24.1)))] [some ⟨0, dL v20.2⟩, sl 0 v24.2] ?_
 refine pc h (fun h => ?_) (fun h => ?_)
 refine srve 69 [(2, B false)] [some ⟨0, dL v20.2⟩, sl 0 v24.2] ?_
 cases h
 exact pwp_ret rz
 refine pwp_skip ?_
 refine srv 1 69 [(4, A v6), (6, rf 1 0 6 v24.2), (8, I v24.1), (54, A a0)] [some ⟨0, dL v20.2⟩, sl 0 v24.2] ?_
 obtain ⟨v30, hv31, h⟩ := bindS h
 refine opsP_callF τ 55 (ok_laws_toVersionS_D hv31) (FzTo.OD _) rfl (by kernel_rfl) ?_
 obtain ⟨v32, hv33, h⟩ := bindS h
 refine cFo 56 (ok_impl_IndexOf_R hv33) ?_
 refine ve 1 69 [(4, A v6), (6, rf 1 0 6 v24.2), (8, I v24.1), (10, A v32)] [some ⟨0, dL v20.2⟩, sl 0 v24.2] ?_
 refine pwp_seq ?_
 refine srv 2 69 [(6, rf 1 0 6 v24.2), (8, I v24.1), (57, A v32), (58, A v6)] [some ⟨0, dL v20.2⟩, sl 0 v24.2] ?_
 obtain ⟨v34, hv35, h⟩ := bindS h
 refine cF 59 (ok_laws_eqMarkS hv35) ?_
 refine ve 1 69 [(6, rf 1 0 6 v24.2), (8, I v24.1), (60, B (!v34))] [some ⟨0, dL v20.2⟩, sl 0 v24.2] ?_
 refine pc h (fun h => ?_) (fun h => ?_)
 refine srve 69 [(2, B false)] [some ⟨0, dL v20.2⟩, sl 0 v24.2] ?_
 cases h
 exact pwp_ret rz
 refine pwp_skip ?_
 refine srve 69 [(6, rf 1 0 6 v24.2), (8, I v24.1), (9, I 1)] [some ⟨0, dL v20.2⟩, sl 0 v24.2] ?_
 refine srv 2 69 [(8, I v24.1), (61, rf 1 0 6 v24.2), (62, I 1)] [some ⟨0, dL v20.2⟩, sl 0 v24.2] ?_
 obtain ⟨v37, hv38, h⟩ := bindS h
 refine opsP_callV (xs := [rf 1 0 6 v24.2, I 1]) τ 63 (ok_laws_heldMarkS hv38) (Blind.lit _) (FzTo.frz rfl) (by kernel_rfl) (ViewL.cons (View.whole (v := 0) v24.2 (by kernel_rfl) rfl) (ViewL.cons (View.frz rfl) (ViewL.nil _))) ?_
 refine ve 1 69 [(8, I v24.1), (9, I v37)] [some ⟨0, dL v20.2⟩, sl 0 v24.2] ?_
 refine pwp_seq ?_
 refine srve 69 [(8, I v24.1), (9, I v37), (65, B (decide (v37 < 0)))] [some ⟨0, dL v20.2⟩, sl 0 v24.2] ?_
 refine pc h (fun h => ?_) (fun h => ?_)
 refine srve 69 [(2, B false)] [some ⟨0, dL v20.2⟩, sl 0 v24.2] ?_
 cases h
 exact pwp_ret rz
 refine pwp_skip ?_
 refine pwp_seq ?_
 refine srve 69 [(68, B (!(v37 == v24.1)))] [some ⟨0, dL v20.2⟩, sl 0 v24.2] ?_
 refine pc h (fun h => ?_) (fun h => ?_)
 refine srve 69 [(2, B false)] [some ⟨0, dL v20.2⟩, sl 0 v24.2] ?_
 cases h
 exact pwp_ret rz
 refine pwp_skip ?_
 refine srve 69 [(2, B true)] [some ⟨0, dL v20.2⟩, sl 0 v24.2] ?_
 cases h
 exact pwp_ret rz
end Go.D
