import Derived.Test.YtlcjmombcnkfcaaEtDPrimM
import Derived.Test.YtlcjmombcnkfcaaEtDXT
import Derived.KernelRfl
set_option linter.unusedVariables false
set_option linter.unusedSimpArgs false
namespace Go.D
open Go.Proofs
def spec_l31Value (a0 : List T_impl_Value) : Option T_impl_Value := bif ((a0.length : Int) == 0) then some (T_impl_Value.mk 0 0 (ByteArray.mk #[])) else (getI a0 0).bind fun v2 => some v2
theorem ok_spec_l31Value {a0 : List T_impl_Value} {y : T_impl_Value} (h : spec_l31Value a0 = some y) : OK Try.prog 36 [A a0] (E y) := by
 refine ow Try.func36 fun Γ hX => ?_
 unfold spec_l31Value at h
 refine srveM [2] 10 [(0, A a0), (2, .ptr 0 0 0)] [some ⟨0, Enc.cells (T_impl_Value.mk 0 0 (ByteArray.mk #[]))⟩] ?_
 refine pwp_seq ?_
 refine srveM [2] 10 [(0, A a0), (2, .ptr 0 0 0), (5, B ((a0.length : Int) == 0))] [some ⟨0, Enc.cells (T_impl_Value.mk 0 0 (ByteArray.mk #[]))⟩] ?_
 refine pc h (fun h => ?_) (fun h => ?_)
 refine srveM [2] 10 [(2, .ptr 0 0 0)] [some ⟨0, Enc.cells (T_impl_Value.mk 0 0 (ByteArray.mk #[]))⟩] ?_
 cases h
 exact pwp_ret rz
 refine pwp_skip ?_
 refine srvM [2] 1 10 [(2, .ptr 0 0 0), (7, A a0)] [some ⟨0, Enc.cells (T_impl_Value.mk 0 0 (ByteArray.mk #[]))⟩] ?_
 obtain ⟨v2, hv3, h⟩ := bindS h
 refine opsP_idx τ_ok 8 hv3 (by kernel_rfl) ?_
 refine veM [2] 2 10 [(2, .ptr 0 0 0)] [sc 0 v2] ?_
 cases h
 exact pwp_ret rz
def impl_firstOf (a0 : List T_impl_Value) : Option T_impl_Value := bif ((a0.length : Int) == 0) then some (T_impl_Value.mk 0 0 (ByteArray.mk #[])) else (getI a0 0).bind fun v2 => some v2
theorem ok_impl_firstOf {a0 : List T_impl_Value} {y : T_impl_Value} (h : impl_firstOf a0 = some y) : OK Try.prog 38 [A a0] (E y) := by
 refine ow Try.func38 fun Γ hX => ?_
 unfold impl_firstOf at h
 refine srveM [2] 10 [(0, A a0), (2, .ptr 0 0 0)] [some ⟨0, Enc.cells (T_impl_Value.mk 0 0 (ByteArray.mk #[]))⟩] ?_
 refine pwp_seq ?_
 refine srveM [2] 10 [(0, A a0), (2, .ptr 0 0 0), (5, B ((a0.length : Int) == 0))] [some ⟨0, Enc.cells (T_impl_Value.mk 0 0 (ByteArray.mk #[]))⟩] ?_
 refine pc h (fun h => ?_) (fun h => ?_)
 refine srveM [2] 10 [(2, .ptr 0 0 0)] [some ⟨0, Enc.cells (T_impl_Value.mk 0 0 (ByteArray.mk #[]))⟩] ?_
 cases h
 exact pwp_ret rz
 refine pwp_skip ?_
 refine srvM [2] 1 10 [(2, .ptr 0 0 0), (7, A a0)] [some ⟨0, Enc.cells (T_impl_Value.mk 0 0 (ByteArray.mk #[]))⟩] ?_
 obtain ⟨v2, hv3, h⟩ := bindS h
 refine opsP_idx τ_ok 8 hv3 (by kernel_rfl) ?_
 refine veM [2] 2 10 [(2, .ptr 0 0 0)] [sc 0 v2] ?_
 cases h
 exact pwp_ret rz
def laws_markText_l0 : Nat → Int → ByteArray → Option ByteArray
 | 0, _, _ => none
 | f4 + 1, x2, x3 => bif (decide (x2 > 0)) then (addS (ByteArray.mk (List.toArray ([(u8 (w64 (48 + (x2.tmod 10))))] : List UInt8))) x3).bind fun v7 => (laws_markText_l0 f4) (w64 (x2.tdiv 10)) v7 else (addS (ByteArray.mk #[109]) x3).bind fun v9 => some v9
def laws_markText (a0 : Int) : Option ByteArray := bif (decide (a0 ≤ 0)) then some (ByteArray.mk #[109, 48]) else laws_markText_l0 FUEL a0 (ByteArray.mk #[])
theorem ok_laws_markText {a0 : Int} {y : ByteArray} (h : laws_markText a0 = some y) : OK Try.prog 45 [I a0] (S y) := by
 refine ow Try.func45 fun Γ hX => ?_
 unfold laws_markText at h
 refine srve 20 [(0, I a0)] [] ?_
 refine pwp_seq ?_
 refine srve 20 [(0, I a0), (5, B (decide (a0 ≤ 0)))] [] ?_
 refine pc h (fun h => ?_) (fun h => ?_)
 refine srve 20 [(2, S (ByteArray.mk #[109, 48]))] [] ?_
 cases h
 exact pwp_ret rz
 refine pwp_skip ?_
 refine srve 20 [(0, I a0), (3, S (ByteArray.mk #[]))] [] ?_
 refine pwp_seq ?_
 refine pwp_block ?_
 refine pwp_loop (ι := Nat × Int × ByteArray) (fun (f4, x2, x3) => (⟨20, [(0, I x2), (3, S x3)], []⟩ : St)) (fun (f4, x2, x3) => laws_markText_l0 f4 x2 x3 = some y) Prod.fst (FUEL, a0, (ByteArray.mk #[])) h (it [0, 3]) ?_
 rintro ⟨f4, x2, x3⟩ h
 dsimp only at h ⊢
 rcases f4 with _ | f4
 cases h
 rw [laws_markText_l0] at h
 refine pwp_seq ?_
 refine srve 20 [(0, I x2), (3, S x3), (7, B (decide (x2 > 0)))] [] ?_
 refine pc h (fun h => ?_) (fun h => ?_)
 refine pwp_skip ?_
 refine pwp_block ?_
 refine srv 3 20 [(0, I x2), (3, S x3), (10, I (w64 (48 + (x2.tmod 10))))] [] ?_
 refine opsP_cv8 τ_ok 11 (w64 (48 + (x2.tmod 10))) (by kernel_rfl) ?_
 refine v 1 20 [(0, I x2), (3, S x3), (12, .arr 1 ([(u8 (w64 (48 + (x2.tmod 10))))] : List UInt8).length (eL ([(u8 (w64 (48 + (x2.tmod 10))))] : List UInt8)) true)] [] ?_
 refine opsP_cvs τ_ok 13 ([(u8 (w64 (48 + (x2.tmod 10))))] : List UInt8) (by kernel_rfl) ?_
 refine v 1 20 [(0, I x2), (13, S (ByteArray.mk (List.toArray ([(u8 (w64 (48 + (x2.tmod 10))))] : List UInt8)))), (14, S x3)] [] ?_
 obtain ⟨v7, hv8, h⟩ := bindS h
 refine opsP_ads τ_ok 15 hv8 (by kernel_rfl) ?_
 refine ve 1 20 [(0, I x2), (3, S v7)] [] ?_
 refine rve 20 [(0, I (w64 (x2.tdiv 10))), (3, S v7)] [] ?_
 exact ⟨(f4, (w64 (x2.tdiv 10)), v7), h, Nat.lt_succ_self _, it [0, 3]⟩
 refine pwp_exit ?_
 refine srv 1 20 [(18, S x3)] [] ?_
 obtain ⟨v9, hv10, h⟩ := bindS h
 refine opsP_ads τ_ok 19 hv10 (by kernel_rfl) ?_
 refine ve 1 20 [(2, S v9)] [] ?_
 cases h
 exact pwp_ret rz
def impl_between (a0 : Int) (a1 : Int) (a2 : Int) : Option Bool := bif (decide (a0 ≥ a1)) then some (decide (a0 ≤ a2)) else some false
theorem ok_impl_between {a0 : Int} {a1 : Int} {a2 : Int} {y : Bool} (h : impl_between a0 a1 a2 = some y) : OK Try.prog 50 [I a0, I a1, I a2] (B y) := by
 refine ow Try.func50 fun Γ hX => ?_
 unfold impl_between at h
 refine srve 15 [(0, I a0), (1, I a1), (2, I a2)] [] ?_
 refine srv 4 15 [(0, I a0), (2, I a2), (10, B (decide (a0 ≥ a1)))] [] ?_
 rcases fk (decide (a0 ≥ a1)) with hc1 | hc1
 replace h := bT hc1 h
 rw [hc1]
 refine ve 5 15 [(6, B (decide (a0 ≤ a2)))] [] ?_
 cases h
 exact pwp_ret rz
 replace h := bF hc1 h
 rw [hc1]
 refine ve 5 15 [(6, B false)] [] ?_
 cases h
 exact pwp_ret rz
def impl_Mark_end (a0 : T_impl_Mark) : Option Int := bif (a0.fDied == 0) then some 41 else some a0.fDied
theorem ok_impl_Mark_end {a0 : T_impl_Mark} {y : Int} (h : impl_Mark_end a0 = some y) : OK Try.prog 53 [E a0] (I y) := by
 refine ow Try.func53 fun Γ hX => ?_
 unfold impl_Mark_end at h
 refine srve 8 [(1, pf a0 0)] [] ?_
 refine pwp_seq ?_
 refine srve 8 [(1, pf a0 0), (5, B (a0.fDied == 0))] [] ?_
 refine pc h (fun h => ?_) (fun h => ?_)
 refine srve 8 [(2, I 41)] [] ?_
 cases h
 exact pwp_ret rz
 refine pwp_skip ?_
 refine srve 8 [(2, I a0.fDied)] [] ?_
 cases h
 exact pwp_ret rz
def spec_l1In (a0 : Int) (a1 : Int) (a2 : Int) : Option Bool := bif (decide (a0 ≥ a1)) then some (decide (a0 ≤ a2)) else some false
theorem ok_spec_l1In {a0 : Int} {a1 : Int} {a2 : Int} {y : Bool} (h : spec_l1In a0 a1 a2 = some y) : OK Try.prog 66 [I a0, I a1, I a2] (B y) := by
 refine ow Try.func66 fun Γ hX => ?_
 unfold spec_l1In at h
 refine srve 15 [(0, I a0), (1, I a1), (2, I a2)] [] ?_
 refine srv 4 15 [(0, I a0), (2, I a2), (10, B (decide (a0 ≥ a1)))] [] ?_
 rcases fk (decide (a0 ≥ a1)) with hc1 | hc1
 replace h := bT hc1 h
 rw [hc1]
 refine ve 5 15 [(6, B (decide (a0 ≤ a2)))] [] ?_
 cases h
 exact pwp_ret rz
 replace h := bF hc1 h
 rw [hc1]
 refine ve 5 15 [(6, B false)] [] ?_
 cases h
 exact pwp_ret rz
def impl_IndexTurned_1 (a0 : T_impl_Mark) (b0 : Int) : Option Bool := bif (decide (a0.fBorn ≥ b0)) then some true else some (decide (a0.fDied ≥ b0))
theorem ok_impl_IndexTurned_1 {a0 : T_impl_Mark} {b0 : Int} {y : Bool} (h : impl_IndexTurned_1 a0 b0 = some y) : OK Try.prog 70 [E a0, pf b0 0] (B y) := by
 refine ow Try.func70 fun Γ hX => ?_
 unfold impl_IndexTurned_1 at h
 refine srve 14 [(1, pf b0 0), (2, pf a0 0)] [] ?_
 refine srv 5 14 [(1, pf b0 0), (2, pf a0 0), (8, B (decide (a0.fBorn ≥ b0)))] [] ?_
 rcases fk (decide (a0.fBorn ≥ b0)) with hc1 | hc1
 replace h := bT hc1 h
 rw [hc1]
 refine ve 6 14 [(3, B true)] [] ?_
 cases h
 exact pwp_ret rz
 replace h := bF hc1 h
 rw [hc1]
 refine ve 6 14 [(3, B (decide (a0.fDied ≥ b0)))] [] ?_
 cases h
 exact pwp_ret rz
def slices_Clone_impl_Mark_impl_Mark_j0 (x1 : List T_impl_Mark) (x2 : Bool) : Option (List T_impl_Mark) := bif x2 then some ([] : List T_impl_Mark) else (app ([] : List T_impl_Mark) x1).bind fun v4 => some v4
def slices_Clone_impl_Mark_impl_Mark (a0 : List T_impl_Mark) : Option (List T_impl_Mark) := slices_Clone_impl_Mark_impl_Mark_j0 a0 false
theorem ok_slices_Clone_impl_Mark_impl_Mark {a0 : List T_impl_Mark} {y : List T_impl_Mark} (h : slices_Clone_impl_Mark_impl_Mark a0 = some y) : OK Try.prog 71 [A a0] (O y) := by
 refine ow Try.func71 fun Γ hX => ?_
 unfold slices_Clone_impl_Mark_impl_Mark at h
 refine srve 8 [(0, A a0)] [] ?_
 refine pwp_seq ?_
 refine pwp_seq ?_
 refine pwp_join (σ := (List T_impl_Mark) × Bool) (fun (x1, x2) => (⟨8, [(0, A x1), (4, B x2)], []⟩ : St)) (fun (x1, x2) => slices_Clone_impl_Mark_impl_Mark_j0 x1 x2 = some y) ?_ ?_
 refine rv 1 8 [(0, A a0), (3, A a0)] [] ?_
 refine opsP_nilq τ_ok 4 (xs := a0) (by kernel_rfl) ?_
 rintro (_ | _) hb
 clear hb
 refine ve 0 8 [(0, A a0), (4, B false)] [] ?_
 exact ⟨(a0, false), h, it [0, 4]⟩
 obtain rfl := hb rfl
 replace h := clone_nil h
 refine ve 0 8 [(0, A ([] : List T_impl_Mark)), (4, B true)] [] ?_
 exact ⟨(([] : List T_impl_Mark), true), h, it [0, 4]⟩
 rintro ⟨x1, x2⟩ h
 dsimp only at h ⊢
 unfold slices_Clone_impl_Mark_impl_Mark_j0 at h
 refine pc h (fun h => ?_) (fun h => ?_)
 refine srve 8 [(2, .arr 6 0 (eL ([] : List T_impl_Mark)) true)] [] ?_
 refine ip 8 [(2, .arr 6 0 (eL ([] : List T_impl_Mark)) true)] [] ?_
 refine pwp_imp (Imp.thawS (st' := ⟨8, [(2, .ref 0 0 0 6 ([] : List T_impl_Mark).length false)], [some ⟨0, eL ([] : List T_impl_Mark)⟩]⟩) 2 [2] (by kernel_rfl)) ?_
 have h := si h
 subst h
 exact pwp_ret (rt (.ref 0 0 0 6 ([] : List T_impl_Mark).length false) (OutP.list (v := 0) (by kernel_rfl)))
 refine pwp_skip ?_
 refine srv 2 8 [(5, .arr 6 0 (eL ([] : List T_impl_Mark)) true), (6, A x1)] [] ?_
 refine opsP_thaw 5 6 (by kernel_rfl) ?_
 obtain ⟨v4, hv5, h⟩ := bindS h
 refine opsP_app τ_ok 7 0 0 (nx hX) hv5 (by kernel_rfl) ?_
 refine ve 1 8 [(2, rf 0 1 6 v4)] [sl 1 v4] ?_
 have h := si h
 subst h
 exact pwp_ret (rt (rf 0 1 6 v4) (OutP.list (v := 1) (by kernel_rfl)))
def cmp_Or_int_l0 (a0 : List Int) : Nat → Int → Option Int
 | 0, _ => none
 | f2 + 1, x1 => bif (decide (x1 < (a0.length : Int))) then (getI a0 x1).bind fun v5 => bif (!(v5 == 0)) then some v5 else (cmp_Or_int_l0 a0 f2) (w64 (x1 + 1)) else some 0
def cmp_Or_int (a0 : List Int) : Option Int := cmp_Or_int_l0 a0 FUEL 0
theorem ok_cmp_Or_int {a0 : List Int} {y : Int} (h : cmp_Or_int a0 = some y) : OK Try.prog 79 [A a0] (I y) := by
 refine ow Try.func79 fun Γ hX => ?_
 unfold cmp_Or_int at h
 refine srve 18 [(0, A a0)] [] ?_
 refine srve 18 [(0, A a0), (3, I 0)] [] ?_
 refine pwp_seq ?_
 refine srve 18 [(3, I 0), (6, A a0), (7, I (a0.length : Int)), (8, I 0)] [] ?_
 refine pwp_block ?_
 refine pwp_loop (ι := Nat × Int) (fun (f2, x1) => (⟨18, [(3, I 0), (6, A a0), (7, I (a0.length : Int)), (8, I x1)], []⟩ : St)) (fun (f2, x1) => cmp_Or_int_l0 a0 f2 x1 = some y) Prod.fst (FUEL, 0) h (it [3, 6, 7, 8]) ?_
 rintro ⟨f2, x1⟩ h
 dsimp only at h ⊢
 rcases f2 with _ | f2
 cases h
 rw [cmp_Or_int_l0] at h
 refine srve 18 [(3, I 0), (6, A a0), (7, I (a0.length : Int)), (8, I x1), (9, B (decide (x1 < (a0.length : Int))))] [] ?_
 refine pwp_seq ?_
 refine pc h (fun h => ?_) (fun h => ?_)
 refine pwp_skip ?_
 refine pwp_seq ?_
 refine pwp_block ?_
 refine pwp_seq ?_
 refine pwp_region ?_
 obtain ⟨v5, hv6, h⟩ := bindS h
 refine opsP_idx τ_ok 10 hv6 (by kernel_rfl) ?_
 refine ve 2 18 [(3, I 0), (5, I v5), (6, A a0), (7, I (a0.length : Int)), (8, I x1)] [] ?_
 refine srve 18 [(3, I 0), (5, I v5), (6, A a0), (7, I (a0.length : Int)), (8, I x1), (14, B (!(v5 == 0)))] [] ?_
 refine pc h (fun h => ?_) (fun h => ?_)
 refine srve 18 [(2, I v5)] [] ?_
 cases h
 exact pwp_ret rz
 refine pwp_skip ?_
 refine rve 18 [(3, I 0), (6, A a0), (7, I (a0.length : Int)), (8, I (w64 (x1 + 1)))] [] ?_
 exact ⟨(f2, (w64 (x1 + 1))), h, Nat.lt_succ_self _, it [3, 6, 7, 8]⟩
 refine pwp_exit ?_
 refine srve 18 [(2, I 0)] [] ?_
 cases h
 exact pwp_ret rz
def laws_eqValue (a0 : T_impl_Value) (a1 : T_impl_Value) : Option Bool := bif (!(a0.fKind == a1.fKind)) then some false else bif (!(a0.fN == a1.fN)) then some false else bif (!(a0.fS.toList == a1.fS.toList)) then some false else some true
theorem ok_laws_eqValue {a0 : T_impl_Value} {a1 : T_impl_Value} {y : Bool} (h : laws_eqValue a0 a1 = some y) : OK Try.prog 83 [E a0, E a1] (B y) := by
 refine ow Try.func83 fun Γ hX => ?_
 unfold laws_eqValue at h
 refine srve 20 [(2, pf a0 0), (3, pf a1 0)] [] ?_
 refine pwp_seq ?_
 refine srve 20 [(2, pf a0 0), (3, pf a1 0), (9, B (!(a0.fKind == a1.fKind)))] [] ?_
 refine pc h (fun h => ?_) (fun h => ?_)
 refine srve 20 [(4, B false)] [] ?_
 cases h
 exact pwp_ret rz
 refine pwp_skip ?_
 refine pwp_seq ?_
 refine srve 20 [(2, pf a0 0), (3, pf a1 0), (14, B (!(a0.fN == a1.fN)))] [] ?_
 refine pc h (fun h => ?_) (fun h => ?_)
 refine srve 20 [(4, B false)] [] ?_
 cases h
 exact pwp_ret rz
 refine pwp_skip ?_
 refine pwp_seq ?_
 refine srve 20 [(19, B (!(a0.fS.toList == a1.fS.toList)))] [] ?_
 refine pc h (fun h => ?_) (fun h => ?_)
 refine srve 20 [(4, B false)] [] ?_
 cases h
 exact pwp_ret rz
 refine pwp_skip ?_
 refine srve 20 [(4, B true)] [] ?_
 cases h
 exact pwp_ret rz
def laws_eqValueS_l0 (a0 : List T_impl_Value) (a1 : List T_impl_Value) : Nat → Int → Option Bool
 | 0, _ => none
 | f3 + 1, x2 => bif (decide (x2 < (a0.length : Int))) then (getI a0 x2).bind fun v6 => (getI a1 x2).bind fun v8 => (laws_eqValue v6 v8).bind fun v10 => bif (!v10) then some false else (laws_eqValueS_l0 a0 a1 f3) (w64 (x2 + 1)) else some true
def laws_eqValueS (a0 : List T_impl_Value) (a1 : List T_impl_Value) : Option Bool := bif (!((a0.length : Int) == (a1.length : Int))) then some false else laws_eqValueS_l0 a0 a1 FUEL 0
theorem ok_laws_eqValueS {a0 : List T_impl_Value} {a1 : List T_impl_Value} {y : Bool} (h : laws_eqValueS a0 a1 = some y) : OK Try.prog 84 [A a0, A a1] (B y) := by
 refine ow Try.func84 fun Γ hX => ?_
 unfold laws_eqValueS at h
 refine srve 27 [(0, A a0), (1, A a1)] [] ?_
 refine pwp_seq ?_
 refine srve 27 [(0, A a0), (1, A a1), (10, B (!((a0.length : Int) == (a1.length : Int))))] [] ?_
 refine pc h (fun h => ?_) (fun h => ?_)
 refine srve 27 [(4, B false)] [] ?_
 cases h
 exact pwp_ret rz
 refine pwp_skip ?_
 refine pwp_seq ?_
 refine srve 27 [(0, A a0), (1, A a1), (5, I 0)] [] ?_
 refine pwp_block ?_
 refine pwp_loop (ι := Nat × Int) (fun (f3, x2) => (⟨27, [(0, A a0), (1, A a1), (5, I x2)], []⟩ : St)) (fun (f3, x2) => laws_eqValueS_l0 a0 a1 f3 x2 = some y) Prod.fst (FUEL, 0) h (it [0, 1, 5]) ?_
 rintro ⟨f3, x2⟩ h
 dsimp only at h ⊢
 rcases f3 with _ | f3
 cases h
 rw [laws_eqValueS_l0] at h
 refine pwp_seq ?_
 refine srve 27 [(0, A a0), (1, A a1), (5, I x2), (14, B (decide (x2 < (a0.length : Int))))] [] ?_
 refine pc h (fun h => ?_) (fun h => ?_)
 refine pwp_skip ?_
 refine pwp_seq ?_
 refine pwp_block ?_
 refine pwp_seq ?_
 refine ip 27 [(0, A a0), (1, A a1), (5, I x2)] [] ?_
 refine pN 10 ?_
 refine qv [] trivial 2 27 [(18, I x2), (17, A a0), (0, A a0), (1, A a1), (5, I x2)] [] ?_
 obtain ⟨v6, hv7, h⟩ := bindS h
 refine qX (some 19) (pf v6 0) 27 [(19, pf v6 0), (0, A a0), (1, A a1), (5, I x2)] [] (fun Γ' hΓ => CoreE.of_y (idxV_sound τ_ok (by kernel_rfl) hv7)) trivial ?_
 refine qv [] trivial 3 27 [(22, I x2), (21, A a1), (20, E v6), (0, A a0), (1, A a1), (5, I x2)] [] ?_
 obtain ⟨v8, hv9, h⟩ := bindS h
 refine qX (some 23) (pf v8 0) 27 [(23, pf v8 0), (20, E v6), (0, A a0), (1, A a1), (5, I x2)] [] (fun Γ' hΓ => CoreE.of_y (idxV_sound τ_ok (by kernel_rfl) hv9)) trivial ?_
 refine qv [] trivial 1 27 [(24, E v8), (20, E v6), (0, A a0), (1, A a1), (5, I x2)] [] ?_
 obtain ⟨v10, hv11, h⟩ := bindS h
 refine qX (some 25) (B v10) 27 [(25, B v10), (0, A a0), (1, A a1), (5, I x2)] [] (fun Γ' hΓ => CoreE.of_g (callV_sound (τ := τ) (by kernel_rfl) rfl (ok_laws_eqValue hv11) (FzTo.frz rfl))) trivial ?_
 refine qvn [] trivial 1 27 [(0, A a0), (1, A a1), (5, I x2), (26, B (!v10))] [] ?_
 refine pc h (fun h => ?_) (fun h => ?_)
 refine srve 27 [(4, B false)] [] ?_
 cases h
 exact pwp_ret rz
 refine pwp_skip ?_
 refine rve 27 [(0, A a0), (1, A a1), (5, I (w64 (x2 + 1)))] [] ?_
 exact ⟨(f3, (w64 (x2 + 1))), h, Nat.lt_succ_self _, it [0, 1, 5]⟩
 refine pwp_exit ?_
 refine srve 27 [(4, B true)] [] ?_
 cases h
 exact pwp_ret rz
def impl_letters_l0 (v1 : List UInt8) : Nat → Int → Option Bool
 | 0, _ => none
 | f4 + 1, x3 => bif (decide (x3 < (v1.length : Int))) then (getI v1 x3).bind fun v7 => (impl_between (w64 (v7.toNat : Int)) 97 122).bind fun v9 => bif (!v9) then some false else (impl_letters_l0 v1 f4) (w64 (x3 + 1)) else some true
def impl_letters (a0 : ByteArray) : Option Bool := (bytesOf a0).bind fun v1 => impl_letters_l0 v1 FUEL 0
theorem ok_impl_letters {a0 : ByteArray} {y : Bool} (h : impl_letters a0 = some y) : OK Try.prog 88 [S a0] (B y) := by
 refine ow Try.func88 fun Γ hX => ?_
 unfold impl_letters at h
 refine srve 17 [(0, S a0)] [] ?_
 refine pwp_seq ?_
 refine srv 1 17 [(5, S a0)] [] ?_
 obtain ⟨v1, hv2, h⟩ := bindS h
 refine opsP_cvb τ_ok 6 hv2 (by kernel_rfl) ?_
 refine ve 2 17 [(6, A v1), (7, I (v1.length : Int)), (8, I 0)] [] ?_
 refine pwp_block ?_
 refine pwp_loop (ι := Nat × Int) (fun (f4, x3) => (⟨17, [(6, A v1), (7, I (v1.length : Int)), (8, I x3)], []⟩ : St)) (fun (f4, x3) => impl_letters_l0 v1 f4 x3 = some y) Prod.fst (FUEL, 0) h (it [6, 7, 8]) ?_
 rintro ⟨f4, x3⟩ h
 dsimp only at h ⊢
 rcases f4 with _ | f4
 cases h
 rw [impl_letters_l0] at h
 refine srve 17 [(6, A v1), (7, I (v1.length : Int)), (8, I x3), (9, B (decide (x3 < (v1.length : Int))))] [] ?_
 refine pwp_seq ?_
 refine pc h (fun h => ?_) (fun h => ?_)
 refine pwp_skip ?_
 refine pwp_seq ?_
 refine pwp_block ?_
 refine pwp_seq ?_
 refine pwp_region ?_
 obtain ⟨v7, hv8, h⟩ := bindS h
 refine opsP_idx τ_ok 10 hv8 (by kernel_rfl) ?_
 refine ve 2 17 [(4, .lit (.int .u8 (v7).toNat)), (6, A v1), (7, I (v1.length : Int)), (8, I x3)] [] ?_
 refine srv 2 17 [(6, A v1), (7, I (v1.length : Int)), (8, I x3), (13, I (w64 (v7.toNat : Int)))] [] ?_
 obtain ⟨v9, hv10, h⟩ := bindS h
 refine cF 14 (ok_impl_between hv10) ?_
 refine ve 1 17 [(6, A v1), (7, I (v1.length : Int)), (8, I x3), (15, B (!v9))] [] ?_
 refine pc h (fun h => ?_) (fun h => ?_)
 refine srve 17 [(2, B false)] [] ?_
 cases h
 exact pwp_ret rz
 refine pwp_skip ?_
 refine rve 17 [(6, A v1), (7, I (v1.length : Int)), (8, I (w64 (x3 + 1)))] [] ?_
 exact ⟨(f4, (w64 (x3 + 1))), h, Nat.lt_succ_self _, it [6, 7, 8]⟩
 refine pwp_exit ?_
 refine srve 17 [(2, B true)] [] ?_
 cases h
 exact pwp_ret rz
def slices_IndexFunc_impl_Mark_impl_Mark_l0 (a0 : List T_impl_Mark) (a1 : T_impl_Mark → Option Bool) : Nat → Int → Option Int
 | 0, _ => none
 | f2 + 1, x1 => bif (decide (x1 < (a0.length : Int))) then (getI a0 x1).bind fun v5 => (a1 v5).bind fun v7 => bif v7 then some x1 else (slices_IndexFunc_impl_Mark_impl_Mark_l0 a0 a1 f2) (w64 (x1 + 1)) else some (-1)
def slices_IndexFunc_impl_Mark_impl_Mark (a0 : List T_impl_Mark) (a1 : T_impl_Mark → Option Bool) : Option Int := slices_IndexFunc_impl_Mark_impl_Mark_l0 a0 a1 FUEL 0
theorem ok_slices_IndexFunc_impl_Mark_impl_Mark {a0 : List T_impl_Mark} {g1 : FuncId} {c1 : List V} (hz1 : frzL c1 = true) {a1 : T_impl_Mark → Option Bool} (hp1 : ∀ x0 y, a1 x0 = some y → OK Try.prog g1 ([E x0] ++ c1) (B y)) {y : Int} (h : slices_IndexFunc_impl_Mark_impl_Mark a0 a1 = some y) : OK Try.prog 89 [A a0, .fn g1 c1] (I y) := by
 refine ow Try.func89 fun Γ hX => ?_
 unfold slices_IndexFunc_impl_Mark_impl_Mark at h
 refine srve 19 [(0, A a0), (1, .fn g1 c1)] [] ?_
 refine pwp_seq ?_
 refine srve 19 [(0, A a0), (1, .fn g1 c1), (7, I (a0.length : Int)), (8, I 0)] [] ?_
 refine pwp_block ?_
 refine pwp_loop (ι := Nat × Int) (fun (f2, x1) => (⟨19, [(0, A a0), (1, .fn g1 c1), (7, I (a0.length : Int)), (8, I x1)], []⟩ : St)) (fun (f2, x1) => slices_IndexFunc_impl_Mark_impl_Mark_l0 a0 a1 f2 x1 = some y) Prod.fst (FUEL, 0) h (it [0, 1, 7, 8]) ?_
 rintro ⟨f2, x1⟩ h
 dsimp only at h ⊢
 rcases f2 with _ | f2
 cases h
 rw [slices_IndexFunc_impl_Mark_impl_Mark_l0] at h
 refine srve 19 [(0, A a0), (1, .fn g1 c1), (7, I (a0.length : Int)), (8, I x1), (9, B (decide (x1 < (a0.length : Int))))] [] ?_
 refine pwp_seq ?_
 refine pc h (fun h => ?_) (fun h => ?_)
 refine pwp_skip ?_
 refine pwp_seq ?_
 refine pwp_block ?_
 refine srve 19 [(0, A a0), (1, .fn g1 c1), (5, I x1), (7, I (a0.length : Int)), (8, I x1)] [] ?_
 refine srv 3 19 [(0, A a0), (1, .fn g1 c1), (5, I x1), (7, I (a0.length : Int)), (8, I x1), (11, .fn g1 c1), (12, A a0), (13, I x1)] [] ?_
 obtain ⟨v5, hv6, h⟩ := bindS h
 refine opsP_idx τ_ok 14 hv6 (by kernel_rfl) ?_
 refine v 1 19 [(0, A a0), (1, .fn g1 c1), (5, I x1), (7, I (a0.length : Int)), (8, I x1), (11, .fn g1 c1), (15, E v5)] [] ?_
 obtain ⟨v7, hv8, h⟩ := bindS h
 refine opsP_callF τ 16 (hp1 _ _ hv8) (FzTo.frz rfl) (frz_app (xs := [E v5]) rfl hz1) (by kernel_rfl) ?_
 refine ve 0 19 [(0, A a0), (1, .fn g1 c1), (5, I x1), (7, I (a0.length : Int)), (8, I x1), (16, B v7)] [] ?_
 refine pc h (fun h => ?_) (fun h => ?_)
 refine srve 19 [(4, I x1)] [] ?_
 cases h
 exact pwp_ret rz
 refine pwp_skip ?_
 refine rve 19 [(0, A a0), (1, .fn g1 c1), (7, I (a0.length : Int)), (8, I (w64 (x1 + 1)))] [] ?_
 exact ⟨(f2, (w64 (x1 + 1))), h, Nat.lt_succ_self _, it [0, 1, 7, 8]⟩
 refine pwp_exit ?_
 refine srve 19 [(4, I (-1))] [] ?_
 cases h
 exact pwp_ret rz
def laws_szValue (a0 : T_laws_Value) (a1 : Int) : Option Int := bif (decide ((w64 (a1 - (a0.fS.size : Int))) < 0)) then some (-1) else some (w64 (a1 - (a0.fS.size : Int)))
theorem ok_laws_szValue {a0 : T_laws_Value} {a1 : Int} {y : Int} (h : laws_szValue a0 a1 = some y) : OK Try.prog 96 [E a0, I a1] (I y) := by
 refine ow Try.func96 fun Γ hX => ?_
 unfold laws_szValue at h
 refine srve 13 [(1, I a1), (2, pf a0 0)] [] ?_
 refine srve 13 [(1, I (w64 (a1 - (a0.fS.size : Int))))] [] ?_
 refine pwp_seq ?_
 refine srve 13 [(1, I (w64 (a1 - (a0.fS.size : Int)))), (11, B (decide ((w64 (a1 - (a0.fS.size : Int))) < 0)))] [] ?_
 refine pc h (fun h => ?_) (fun h => ?_)
 refine srve 13 [(4, I (-1))] [] ?_
 cases h
 exact pwp_ret rz
 refine pwp_skip ?_
 refine srve 13 [(4, I (w64 (a1 - (a0.fS.size : Int))))] [] ?_
 cases h
 exact pwp_ret rz
def laws_toValue (a0 : T_laws_Value) : Option T_impl_Value := some (T_impl_Value.mk a0.fKind a0.fN a0.fS)
theorem ok_laws_toValue {a0 : T_laws_Value} {y : T_impl_Value} (h : laws_toValue a0 = some y) : OK Try.prog 99 [E a0] (E y) := by
 refine ow Try.func99 fun Γ hX => ?_
 unfold laws_toValue at h
 refine srveM [2, 3] 14 [(1, pf a0 0), (2, .ptr 0 0 0)] [some ⟨0, Enc.cells (T_impl_Value.mk 0 0 (ByteArray.mk #[]))⟩] ?_
 refine srveM [2, 3] 14 [(1, pf a0 0), (2, .ptr 0 0 0), (3, .ptr 1 0 0)] [some ⟨0, Enc.cells (T_impl_Value.mk 0 0 (ByteArray.mk #[]))⟩, some ⟨0, Enc.cells (T_impl_Value.mk 0 0 (ByteArray.mk #[]))⟩] ?_
 refine srveM [2, 3] 14 [(1, pf a0 0), (2, .ptr 0 0 0), (3, .ptr 1 0 0)] [some ⟨0, Enc.cells (T_impl_Value.mk 0 0 (ByteArray.mk #[]))⟩, some ⟨0, Enc.cells (T_impl_Value.mk a0.fKind 0 (ByteArray.mk #[]))⟩] ?_
 refine srveM [2, 3] 14 [(1, pf a0 0), (2, .ptr 0 0 0), (3, .ptr 1 0 0)] [some ⟨0, Enc.cells (T_impl_Value.mk 0 0 (ByteArray.mk #[]))⟩, some ⟨0, Enc.cells (T_impl_Value.mk a0.fKind a0.fN (ByteArray.mk #[]))⟩] ?_
 refine srveM [2, 3] 14 [(2, .ptr 0 0 0), (3, .ptr 1 0 0)] [some ⟨0, Enc.cells (T_impl_Value.mk 0 0 (ByteArray.mk #[]))⟩, some ⟨0, Enc.cells (T_impl_Value.mk a0.fKind a0.fN a0.fS)⟩] ?_
 refine srveM [2, 3] 14 [(2, .ptr 0 0 0)] [some ⟨0, Enc.cells (T_impl_Value.mk a0.fKind a0.fN a0.fS)⟩, some ⟨0, Enc.cells (T_impl_Value.mk a0.fKind a0.fN a0.fS)⟩] ?_
 cases h
 exact pwp_ret rz
def cmp_isNaN_int (a0 : Int) : Option Bool := some (!(a0 == a0))
theorem ok_cmp_isNaN_int {a0 : Int} {y : Bool} (h : cmp_isNaN_int a0 = some y) : OK Try.prog 112 [I a0] (B y) := by
 refine ow Try.func112 fun Γ hX => ?_
 unfold cmp_isNaN_int at h
 refine srve 6 [(0, I a0)] [] ?_
 refine srve 6 [(2, B (!(a0 == a0)))] [] ?_
 cases h
 exact pwp_ret rz
def slices_IndexFunc_impl_Value_impl_Value_l0 (a0 : List T_impl_Value) (a1 : T_impl_Value → Option Bool) : Nat → Int → Option Int
 | 0, _ => none
 | f2 + 1, x1 => bif (decide (x1 < (a0.length : Int))) then (getI a0 x1).bind fun v5 => (a1 v5).bind fun v7 => bif v7 then some x1 else (slices_IndexFunc_impl_Value_impl_Value_l0 a0 a1 f2) (w64 (x1 + 1)) else some (-1)
def slices_IndexFunc_impl_Value_impl_Value (a0 : List T_impl_Value) (a1 : T_impl_Value → Option Bool) : Option Int := slices_IndexFunc_impl_Value_impl_Value_l0 a0 a1 FUEL 0
theorem ok_slices_IndexFunc_impl_Value_impl_Value {a0 : List T_impl_Value} {g1 : FuncId} {c1 : List V} (hz1 : frzL c1 = true) {a1 : T_impl_Value → Option Bool} (hp1 : ∀ x0 y, a1 x0 = some y → OK Try.prog g1 ([E x0] ++ c1) (B y)) {y : Int} (h : slices_IndexFunc_impl_Value_impl_Value a0 a1 = some y) : OK Try.prog 116 [A a0, .fn g1 c1] (I y) := by
 refine ow Try.func116 fun Γ hX => ?_
 unfold slices_IndexFunc_impl_Value_impl_Value at h
 refine srve 19 [(0, A a0), (1, .fn g1 c1)] [] ?_
 refine pwp_seq ?_
 refine srve 19 [(0, A a0), (1, .fn g1 c1), (7, I (a0.length : Int)), (8, I 0)] [] ?_
 refine pwp_block ?_
 refine pwp_loop (ι := Nat × Int) (fun (f2, x1) => (⟨19, [(0, A a0), (1, .fn g1 c1), (7, I (a0.length : Int)), (8, I x1)], []⟩ : St)) (fun (f2, x1) => slices_IndexFunc_impl_Value_impl_Value_l0 a0 a1 f2 x1 = some y) Prod.fst (FUEL, 0) h (it [0, 1, 7, 8]) ?_
 rintro ⟨f2, x1⟩ h
 dsimp only at h ⊢
 rcases f2 with _ | f2
 cases h
 rw [slices_IndexFunc_impl_Value_impl_Value_l0] at h
 refine srve 19 [(0, A a0), (1, .fn g1 c1), (7, I (a0.length : Int)), (8, I x1), (9, B (decide (x1 < (a0.length : Int))))] [] ?_
 refine pwp_seq ?_
 refine pc h (fun h => ?_) (fun h => ?_)
 refine pwp_skip ?_
 refine pwp_seq ?_
 refine pwp_block ?_
 refine srve 19 [(0, A a0), (1, .fn g1 c1), (5, I x1), (7, I (a0.length : Int)), (8, I x1)] [] ?_
 refine srv 3 19 [(0, A a0), (1, .fn g1 c1), (5, I x1), (7, I (a0.length : Int)), (8, I x1), (11, .fn g1 c1), (12, A a0), (13, I x1)] [] ?_
 obtain ⟨v5, hv6, h⟩ := bindS h
 refine opsP_idx τ_ok 14 hv6 (by kernel_rfl) ?_
 refine v 1 19 [(0, A a0), (1, .fn g1 c1), (5, I x1), (7, I (a0.length : Int)), (8, I x1), (11, .fn g1 c1), (15, E v5)] [] ?_
 obtain ⟨v7, hv8, h⟩ := bindS h
 refine opsP_callF τ 16 (hp1 _ _ hv8) (FzTo.frz rfl) (frz_app (xs := [E v5]) rfl hz1) (by kernel_rfl) ?_
 refine ve 0 19 [(0, A a0), (1, .fn g1 c1), (5, I x1), (7, I (a0.length : Int)), (8, I x1), (16, B v7)] [] ?_
 refine pc h (fun h => ?_) (fun h => ?_)
 refine srve 19 [(4, I x1)] [] ?_
 cases h
 exact pwp_ret rz
 refine pwp_skip ?_
 refine rve 19 [(0, A a0), (1, .fn g1 c1), (7, I (a0.length : Int)), (8, I (w64 (x1 + 1)))] [] ?_
 exact ⟨(f2, (w64 (x1 + 1))), h, Nat.lt_succ_self _, it [0, 1, 7, 8]⟩
 refine pwp_exit ?_
 refine srve 19 [(4, I (-1))] [] ?_
 cases h
 exact pwp_ret rz
def spec_l1Text_j1 (x1 : Int) (K3 : Int → Option Bool) (x5 : Bool) : Option Bool := bif x5 then some false else K3 (w64 (x1 + 1))
def spec_l1Text_l0 (a0 : ByteArray) : Nat → Int → Option Bool
 | 0, _ => none
 | f2 + 1, x1 => bif (decide (x1 < (a0.size : Int))) then (getB a0 x1).bind fun v7 => bif (decide ((v7.toNat : Int) < 97)) then spec_l1Text_j1 x1 (spec_l1Text_l0 a0 f2) true else (getB a0 x1).bind fun v9 => spec_l1Text_j1 x1 (spec_l1Text_l0 a0 f2) (decide ((v9.toNat : Int) > 122)) else some (decide ((a0.size : Int) ≤ 6))
def spec_l1Text (a0 : ByteArray) : Option Bool := spec_l1Text_l0 a0 FUEL 0
theorem ok_spec_l1Text {a0 : ByteArray} {y : Bool} (h : spec_l1Text a0 = some y) : OK Try.prog 120 [S a0] (B y) := by
 refine ow Try.func120 fun Γ hX => ?_
 unfold spec_l1Text at h
 refine srve 23 [(0, S a0)] [] ?_
 refine pwp_seq ?_
 refine srve 23 [(0, S a0), (3, I 0)] [] ?_
 refine pwp_block ?_
 refine pwp_loop (ι := Nat × Int) (fun (f2, x1) => (⟨23, [(0, S a0), (3, I x1)], []⟩ : St)) (fun (f2, x1) => spec_l1Text_l0 a0 f2 x1 = some y) Prod.fst (FUEL, 0) h (it [0, 3]) ?_
 rintro ⟨f2, x1⟩ h
 dsimp only at h ⊢
 rcases f2 with _ | f2
 cases h
 rw [spec_l1Text_l0] at h
 refine pwp_seq ?_
 refine srve 23 [(0, S a0), (3, I x1), (7, B (decide (x1 < (a0.size : Int))))] [] ?_
 refine pc h (fun h => ?_) (fun h => ?_)
 refine pwp_skip ?_
 refine pwp_seq ?_
 refine pwp_block ?_
 refine pwp_seq ?_
 refine pwp_join (σ := Bool) (fun x5 => (⟨23, [(0, S a0), (3, I x1), (19, B x5)], []⟩ : St)) (fun x5 => spec_l1Text_j1 x1 (spec_l1Text_l0 a0 f2) x5 = some y) ?_ ?_
 refine rv 2 23 [(0, S a0), (3, I x1), (10, S a0), (11, I x1)] [] ?_
 obtain ⟨v7, hv8, h⟩ := bindS h
 refine opsP_byt τ_ok 12 hv8 (by kernel_rfl) ?_
 refine v 2 23 [(0, S a0), (3, I x1), (14, B (decide ((v7.toNat : Int) < 97)))] [] ?_
 rcases fk (decide ((v7.toNat : Int) < 97)) with hc11 | hc11
 replace h := bT hc11 h
 rw [hc11]
 refine ve 5 23 [(0, S a0), (3, I x1), (15, .lit undef), (16, .lit undef), (17, .lit undef), (18, .lit undef), (19, B true)] [] ?_
 exact ⟨true, h, it [0, 3, 19]⟩
 replace h := bF hc11 h
 rw [hc11]
 refine v 2 23 [(0, S a0), (3, I x1), (14, B false), (15, S a0), (16, I x1)] [] ?_
 obtain ⟨v9, hv10, h⟩ := bindS h
 refine opsP_byt τ_ok 17 hv10 (by kernel_rfl) ?_
 refine ve 2 23 [(0, S a0), (3, I x1), (15, S a0), (16, I x1), (17, .lit (.int .u8 (v9).toNat)), (18, B (decide ((v9.toNat : Int) > 122))), (19, B (decide ((v9.toNat : Int) > 122)))] [] ?_
 exact ⟨(decide ((v9.toNat : Int) > 122)), h, it [0, 3, 19]⟩
 rintro x5 h
 unfold spec_l1Text_j1 at h
 refine pc h (fun h => ?_) (fun h => ?_)
 refine srve 23 [(2, B false)] [] ?_
 cases h
 exact pwp_ret rz
 refine pwp_skip ?_
 refine rve 23 [(0, S a0), (3, I (w64 (x1 + 1)))] [] ?_
 exact ⟨(f2, (w64 (x1 + 1))), h, Nat.lt_succ_self _, it [0, 3]⟩
 refine pwp_exit ?_
 refine srve 23 [(2, B (decide ((a0.size : Int) ≤ 6)))] [] ?_
 cases h
 exact pwp_ret rz
def spec_l1Less (a0 : Int) (a1 : Int) : Option Int := bif (decide (a0 < a1)) then some 1 else some 0
theorem ok_spec_l1Less {a0 : Int} {a1 : Int} {y : Int} (h : spec_l1Less a0 a1 = some y) : OK Try.prog 121 [I a0, I a1] (I y) := by
 refine ow Try.func121 fun Γ hX => ?_
 unfold spec_l1Less at h
 refine srve 8 [(0, I a0), (1, I a1)] [] ?_
 refine pwp_seq ?_
 refine srve 8 [(7, B (decide (a0 < a1)))] [] ?_
 refine pc h (fun h => ?_) (fun h => ?_)
 refine srve 8 [(4, I 1)] [] ?_
 cases h
 exact pwp_ret rz
 refine pwp_skip ?_
 refine srve 8 [(4, I 0)] [] ?_
 cases h
 exact pwp_ret rz
def spec_l1Cmp (a0 : ByteArray) (a1 : ByteArray) : Option Int := bif (Op.bytesLess a0.toList a1.toList) then some (-1) else bif (!Op.bytesLess a0.toList a1.toList && !(a0.toList == a1.toList)) then some 1 else some 0
theorem ok_spec_l1Cmp {a0 : ByteArray} {a1 : ByteArray} {y : Int} (h : spec_l1Cmp a0 a1 = some y) : OK Try.prog 122 [S a0, S a1] (I y) := by
 refine ow Try.func122 fun Γ hX => ?_
 unfold spec_l1Cmp at h
 refine srve 11 [(0, S a0), (1, S a1)] [] ?_
 refine pwp_seq ?_
 refine srve 11 [(0, S a0), (1, S a1), (7, B (Op.bytesLess a0.toList a1.toList))] [] ?_
 refine pc h (fun h => ?_) (fun h => ?_)
 refine srve 11 [(4, I (-1))] [] ?_
 cases h
 exact pwp_ret rz
 refine pwp_skip ?_
 refine pwp_seq ?_
 refine srve 11 [(10, B (!Op.bytesLess a0.toList a1.toList && !(a0.toList == a1.toList)))] [] ?_
 refine pc h (fun h => ?_) (fun h => ?_)
 refine srve 11 [(4, I 1)] [] ?_
 cases h
 exact pwp_ret rz
 refine pwp_skip ?_
 refine srve 11 [(4, I 0)] [] ?_
 cases h
 exact pwp_ret rz
def cmp_isNaN_string (a0 : ByteArray) : Option Bool := some (!(a0.toList == a0.toList))
theorem ok_cmp_isNaN_string {a0 : ByteArray} {y : Bool} (h : cmp_isNaN_string a0 = some y) : OK Try.prog 128 [S a0] (B y) := by
 refine ow Try.func128 fun Γ hX => ?_
 unfold cmp_isNaN_string at h
 refine srve 6 [(0, S a0)] [] ?_
 refine srve 6 [(2, B (!(a0.toList == a0.toList)))] [] ?_
 cases h
 exact pwp_ret rz
def laws_markMarkS_l0 : Nat → Int → Int → (List T_impl_Mark) → Option (Int × List T_impl_Mark)
 | 0, _, _, _ => none
 | f5 + 1, x2, x3, x4 => bif (decide (x3 < (x4.length : Int))) then (getI x4 x3).bind fun v8 => (getI (x4.set x3.toNat ({ v8 with fV := { v8.fV with fKind := x2 } } : T_impl_Mark)) x3).bind fun v10 => (laws_markText (w64 ((w64 (x2 + 1)) + 1))).bind fun v12 => (getI ((x4.set x3.toNat ({ v8 with fV := { v8.fV with fKind := x2 } } : T_impl_Mark)).set x3.toNat ({ v10 with fV := { v10.fV with fN := (w64 (x2 + 1)) } } : T_impl_Mark)) x3).bind fun v14 => (getI (((x4.set x3.toNat ({ v8 with fV := { v8.fV with fKind := x2 } } : T_impl_Mark)).set x3.toNat ({ v10 with fV := { v10.fV with fN := (w64 (x2 + 1)) } } : T_impl_Mark)).set x3.toNat ({ v14 with fV := { v14.fV with fS := v12 } } : T_impl_Mark)) x3).bind fun v16 => (getI ((((x4.set x3.toNat ({ v8 with fV := { v8.fV with fKind := x2 } } : T_impl_Mark)).set x3.toNat ({ v10 with fV := { v10.fV with fN := (w64 (x2 + 1)) } } : T_impl_Mark)).set x3.toNat ({ v14 with fV := { v14.fV with fS := v12 } } : T_impl_Mark)).set x3.toNat ({ v16 with fKey := (w64 ((w64 ((w64 (x2 + 1)) + 1)) + 1)) } : T_impl_Mark)) x3).bind fun v18 => (getI (((((x4.set x3.toNat ({ v8 with fV := { v8.fV with fKind := x2 } } : T_impl_Mark)).set x3.toNat ({ v10 with fV := { v10.fV with fN := (w64 (x2 + 1)) } } : T_impl_Mark)).set x3.toNat ({ v14 with fV := { v14.fV with fS := v12 } } : T_impl_Mark)).set x3.toNat ({ v16 with fKey := (w64 ((w64 ((w64 (x2 + 1)) + 1)) + 1)) } : T_impl_Mark)).set x3.toNat ({ v18 with fBorn := (w64 ((w64 ((w64 ((w64 (x2 + 1)) + 1)) + 1)) + 1)) } : T_impl_Mark)) x3).bind fun v20 => (laws_markMarkS_l0 f5) (w64 ((w64 ((w64 ((w64 ((w64 ((w64 (x2 + 1)) + 1)) + 1)) + 1)) + 1)) + 1)) (w64 (x3 + 1)) ((((((x4.set x3.toNat ({ v8 with fV := { v8.fV with fKind := x2 } } : T_impl_Mark)).set x3.toNat ({ v10 with fV := { v10.fV with fN := (w64 (x2 + 1)) } } : T_impl_Mark)).set x3.toNat ({ v14 with fV := { v14.fV with fS := v12 } } : T_impl_Mark)).set x3.toNat ({ v16 with fKey := (w64 ((w64 ((w64 (x2 + 1)) + 1)) + 1)) } : T_impl_Mark)).set x3.toNat ({ v18 with fBorn := (w64 ((w64 ((w64 ((w64 (x2 + 1)) + 1)) + 1)) + 1)) } : T_impl_Mark)).set x3.toNat ({ v20 with fDied := (w64 ((w64 ((w64 ((w64 ((w64 (x2 + 1)) + 1)) + 1)) + 1)) + 1)) } : T_impl_Mark)) else some (x2, x4)
def laws_markMarkS (a0 : List T_impl_Mark) (a1 : Int) : Option (Int × List T_impl_Mark) := laws_markMarkS_l0 FUEL a1 0 a0
theorem len_laws_markMarkS_l0 : ∀ (f5 : Nat) (x2 : Int) (x3 : Int) (x4 : List T_impl_Mark) (y : Int × List T_impl_Mark), laws_markMarkS_l0 f5 x2 x3 x4 = some y → y.2.length = x4.length
 | 0, _, _, _, _, h => by cases h
 | f5 + 1, x2, x3, x4, y, h => by
  rw [laws_markMarkS_l0] at h
  rcases condS h with h | h
  ·obtain ⟨_, _, h⟩ := bindS h
   obtain ⟨_, _, h⟩ := bindS h
   obtain ⟨_, _, h⟩ := bindS h
   obtain ⟨_, _, h⟩ := bindS h
   obtain ⟨_, _, h⟩ := bindS h
   obtain ⟨_, _, h⟩ := bindS h
   obtain ⟨_, _, h⟩ := bindS h
   have h2 := len_laws_markMarkS_l0 f5 _ _ _ _ h
   simp only [List.length_set] at h2
   exact h2
  ·cases h; rfl
theorem len_laws_markMarkS {a0 : List T_impl_Mark} {a1 : Int} {y : Int × List T_impl_Mark} (h : laws_markMarkS a0 a1 = some y) : y.2.length = a0.length := by
 unfold laws_markMarkS at h
 exact len_laws_markMarkS_l0 _ _ _ _ _ h
theorem ok_laws_markMarkS {a0 : List T_impl_Mark} {a1 : Int} {y : Int × List T_impl_Mark} (h : laws_markMarkS a0 a1 = some y) : OKd Try.prog 14 6 a0.length (eL a0) [I a1] (.int .i64 y.1) (eL y.2) := by
 refine OKd_of_pwp τ_ok Try.func14 rfl (by kernel_rfl) rfl (O_oc _) (O_oc _) (BlindL.lits (eL_lit DFlat.lit _)) (BlindL.lits (eL_lit DFlat.lit _)) rfl (fun hl => by rw [eL_len, len_laws_markMarkS h, ← eL_len]; exact hl) fun Γ hQ => ?_
 refine pwp_imp (Imp.to (st' := ⟨59, [(0, rf 0 0 6 a0), (1, I a1)], [sl 0 a0]⟩) [0, 1] (by kernel_rfl)) ?_
 unfold laws_markMarkS at h
 refine srve 59 [(0, rf 0 0 6 a0), (1, I a1)] [sl 0 a0] ?_
 refine pwp_seq ?_
 refine srve 59 [(0, rf 0 0 6 a0), (1, I a1), (5, I 0)] [sl 0 a0] ?_
 refine pwp_block ?_
 refine pwp_loop (ι := Nat × Int × Int × (List T_impl_Mark)) (fun (f5, x2, x3, x4) => (⟨59, [(0, rf 0 0 6 x4), (1, I x2), (5, I x3)], [sl 0 x4]⟩ : St)) (fun (f5, x2, x3, x4) => laws_markMarkS_l0 f5 x2 x3 x4 = some y) Prod.fst (FUEL, a1, 0, a0) h (it [0, 1, 5]) ?_
 rintro ⟨f5, x2, x3, x4⟩ h
 dsimp only at h ⊢
 rcases f5 with _ | f5
 cases h
 rw [laws_markMarkS_l0] at h
 refine pwp_seq ?_
 refine srve 59 [(0, rf 0 0 6 x4), (1, I x2), (5, I x3), (9, B (decide (x3 < (x4.length : Int))))] [sl 0 x4] ?_
 refine pc h (fun h => ?_) (fun h => ?_)
 refine pwp_skip ?_
 refine pwp_seq ?_
 refine pwp_block ?_
 refine srv 3 59 [(0, rf 0 0 6 x4), (1, I x2), (5, I x3), (12, rf 0 0 6 x4), (13, I x3), (14, I x2)] [sl 0 x4] ?_
 obtain ⟨v8, hv9, h⟩ := bindS h
 refine opsP_idr τ_ok 15 0 0 x4.length hv9 rfl (by kernel_rfl) ?_
 refine v 2 59 [(0, rf 0 0 6 x4), (1, I x2), (5, I x3), (14, I x2), (17, .ptr 0 0 (x3.toNat * 6))] [sl 0 x4] ?_
 refine opsP_ste (vs := [I x2]) τ_ok 3 0 0 0 ({ v8 with fV := { v8.fV with fKind := x2 } } : T_impl_Mark) hv9 (by kernel_rfl) (by kernel_rfl) (by kernel_rfl) (renC (ren_ref (List.length_set ..).symm) (renC trivial (renC trivial (renC trivial (renC trivial renC0))))) ?_
 refine ve 0 59 [(0, .ref 0 0 0 6 (x4.set x3.toNat ({ v8 with fV := { v8.fV with fKind := x2 } } : T_impl_Mark)).length false), (1, I x2), (5, I x3)] [some ⟨0, eL (x4.set x3.toNat ({ v8 with fV := { v8.fV with fKind := x2 } } : T_impl_Mark))⟩] ?_
 refine srve 59 [(0, .ref 0 0 0 6 (x4.set x3.toNat ({ v8 with fV := { v8.fV with fKind := x2 } } : T_impl_Mark)).length false), (1, I (w64 (x2 + 1))), (5, I x3)] [some ⟨0, eL (x4.set x3.toNat ({ v8 with fV := { v8.fV with fKind := x2 } } : T_impl_Mark))⟩] ?_
 refine srv 3 59 [(0, .ref 0 0 0 6 (x4.set x3.toNat ({ v8 with fV := { v8.fV with fKind := x2 } } : T_impl_Mark)).length false), (1, I (w64 (x2 + 1))), (5, I x3), (20, .ref 0 0 0 6 (x4.set x3.toNat ({ v8 with fV := { v8.fV with fKind := x2 } } : T_impl_Mark)).length false), (21, I x3), (22, I (w64 (x2 + 1)))] [some ⟨0, eL (x4.set x3.toNat ({ v8 with fV := { v8.fV with fKind := x2 } } : T_impl_Mark))⟩] ?_
 obtain ⟨v10, hv11, h⟩ := bindS h
 refine opsP_idr τ_ok 23 0 0 (x4.set x3.toNat ({ v8 with fV := { v8.fV with fKind := x2 } } : T_impl_Mark)).length hv11 rfl (by kernel_rfl) ?_
 refine v 2 59 [(0, .ref 0 0 0 6 (x4.set x3.toNat ({ v8 with fV := { v8.fV with fKind := x2 } } : T_impl_Mark)).length false), (1, I (w64 (x2 + 1))), (5, I x3), (22, I (w64 (x2 + 1))), (25, .ptr 0 0 (x3.toNat * 6 + 1))] [some ⟨0, eL (x4.set x3.toNat ({ v8 with fV := { v8.fV with fKind := x2 } } : T_impl_Mark))⟩] ?_
 refine opsP_ste (vs := [I (w64 (x2 + 1))]) τ_ok 3 0 0 1 ({ v10 with fV := { v10.fV with fN := (w64 (x2 + 1)) } } : T_impl_Mark) hv11 (by kernel_rfl) (by kernel_rfl) (by kernel_rfl) (renC (ren_ref (List.length_set ..).symm) (renC trivial (renC trivial (renC trivial (renC trivial renC0))))) ?_
 refine ve 0 59 [(0, .ref 0 0 0 6 ((x4.set x3.toNat ({ v8 with fV := { v8.fV with fKind := x2 } } : T_impl_Mark)).set x3.toNat ({ v10 with fV := { v10.fV with fN := (w64 (x2 + 1)) } } : T_impl_Mark)).length false), (1, I (w64 (x2 + 1))), (5, I x3)] [some ⟨0, eL ((x4.set x3.toNat ({ v8 with fV := { v8.fV with fKind := x2 } } : T_impl_Mark)).set x3.toNat ({ v10 with fV := { v10.fV with fN := (w64 (x2 + 1)) } } : T_impl_Mark))⟩] ?_
 refine srve 59 [(0, .ref 0 0 0 6 ((x4.set x3.toNat ({ v8 with fV := { v8.fV with fKind := x2 } } : T_impl_Mark)).set x3.toNat ({ v10 with fV := { v10.fV with fN := (w64 (x2 + 1)) } } : T_impl_Mark)).length false), (1, I (w64 ((w64 (x2 + 1)) + 1))), (5, I x3)] [some ⟨0, eL ((x4.set x3.toNat ({ v8 with fV := { v8.fV with fKind := x2 } } : T_impl_Mark)).set x3.toNat ({ v10 with fV := { v10.fV with fN := (w64 (x2 + 1)) } } : T_impl_Mark))⟩] ?_
 refine srv 3 59 [(0, .ref 0 0 0 6 ((x4.set x3.toNat ({ v8 with fV := { v8.fV with fKind := x2 } } : T_impl_Mark)).set x3.toNat ({ v10 with fV := { v10.fV with fN := (w64 (x2 + 1)) } } : T_impl_Mark)).length false), (1, I (w64 ((w64 (x2 + 1)) + 1))), (5, I x3), (28, .ref 0 0 0 6 ((x4.set x3.toNat ({ v8 with fV := { v8.fV with fKind := x2 } } : T_impl_Mark)).set x3.toNat ({ v10 with fV := { v10.fV with fN := (w64 (x2 + 1)) } } : T_impl_Mark)).length false), (29, I x3), (30, I (w64 ((w64 (x2 + 1)) + 1)))] [some ⟨0, eL ((x4.set x3.toNat ({ v8 with fV := { v8.fV with fKind := x2 } } : T_impl_Mark)).set x3.toNat ({ v10 with fV := { v10.fV with fN := (w64 (x2 + 1)) } } : T_impl_Mark))⟩] ?_
 obtain ⟨v12, hv13, h⟩ := bindS h
 refine cF 31 (ok_laws_markText hv13) ?_
 obtain ⟨v14, hv15, h⟩ := bindS h
 refine opsP_idr τ_ok 32 0 0 ((x4.set x3.toNat ({ v8 with fV := { v8.fV with fKind := x2 } } : T_impl_Mark)).set x3.toNat ({ v10 with fV := { v10.fV with fN := (w64 (x2 + 1)) } } : T_impl_Mark)).length hv15 rfl (by kernel_rfl) ?_
 refine v 2 59 [(0, .ref 0 0 0 6 ((x4.set x3.toNat ({ v8 with fV := { v8.fV with fKind := x2 } } : T_impl_Mark)).set x3.toNat ({ v10 with fV := { v10.fV with fN := (w64 (x2 + 1)) } } : T_impl_Mark)).length false), (1, I (w64 ((w64 (x2 + 1)) + 1))), (5, I x3), (31, S v12), (34, .ptr 0 0 (x3.toNat * 6 + 2))] [some ⟨0, eL ((x4.set x3.toNat ({ v8 with fV := { v8.fV with fKind := x2 } } : T_impl_Mark)).set x3.toNat ({ v10 with fV := { v10.fV with fN := (w64 (x2 + 1)) } } : T_impl_Mark))⟩] ?_
 refine opsP_ste (vs := [S v12]) τ_ok 9 0 0 2 ({ v14 with fV := { v14.fV with fS := v12 } } : T_impl_Mark) hv15 (by kernel_rfl) (by kernel_rfl) (by kernel_rfl) (renC (ren_ref (List.length_set ..).symm) (renC trivial (renC trivial (renC trivial (renC trivial renC0))))) ?_
 refine ve 0 59 [(0, .ref 0 0 0 6 (((x4.set x3.toNat ({ v8 with fV := { v8.fV with fKind := x2 } } : T_impl_Mark)).set x3.toNat ({ v10 with fV := { v10.fV with fN := (w64 (x2 + 1)) } } : T_impl_Mark)).set x3.toNat ({ v14 with fV := { v14.fV with fS := v12 } } : T_impl_Mark)).length false), (1, I (w64 ((w64 (x2 + 1)) + 1))), (5, I x3)] [some ⟨0, eL (((x4.set x3.toNat ({ v8 with fV := { v8.fV with fKind := x2 } } : T_impl_Mark)).set x3.toNat ({ v10 with fV := { v10.fV with fN := (w64 (x2 + 1)) } } : T_impl_Mark)).set x3.toNat ({ v14 with fV := { v14.fV with fS := v12 } } : T_impl_Mark))⟩] ?_
 refine srve 59 [(0, .ref 0 0 0 6 (((x4.set x3.toNat ({ v8 with fV := { v8.fV with fKind := x2 } } : T_impl_Mark)).set x3.toNat ({ v10 with fV := { v10.fV with fN := (w64 (x2 + 1)) } } : T_impl_Mark)).set x3.toNat ({ v14 with fV := { v14.fV with fS := v12 } } : T_impl_Mark)).length false), (1, I (w64 ((w64 ((w64 (x2 + 1)) + 1)) + 1))), (5, I x3)] [some ⟨0, eL (((x4.set x3.toNat ({ v8 with fV := { v8.fV with fKind := x2 } } : T_impl_Mark)).set x3.toNat ({ v10 with fV := { v10.fV with fN := (w64 (x2 + 1)) } } : T_impl_Mark)).set x3.toNat ({ v14 with fV := { v14.fV with fS := v12 } } : T_impl_Mark))⟩] ?_
 refine srv 3 59 [(0, .ref 0 0 0 6 (((x4.set x3.toNat ({ v8 with fV := { v8.fV with fKind := x2 } } : T_impl_Mark)).set x3.toNat ({ v10 with fV := { v10.fV with fN := (w64 (x2 + 1)) } } : T_impl_Mark)).set x3.toNat ({ v14 with fV := { v14.fV with fS := v12 } } : T_impl_Mark)).length false), (1, I (w64 ((w64 ((w64 (x2 + 1)) + 1)) + 1))), (5, I x3), (37, .ref 0 0 0 6 (((x4.set x3.toNat ({ v8 with fV := { v8.fV with fKind := x2 } } : T_impl_Mark)).set x3.toNat ({ v10 with fV := { v10.fV with fN := (w64 (x2 + 1)) } } : T_impl_Mark)).set x3.toNat ({ v14 with fV := { v14.fV with fS := v12 } } : T_impl_Mark)).length false), (38, I x3), (39, I (w64 ((w64 ((w64 (x2 + 1)) + 1)) + 1)))] [some ⟨0, eL (((x4.set x3.toNat ({ v8 with fV := { v8.fV with fKind := x2 } } : T_impl_Mark)).set x3.toNat ({ v10 with fV := { v10.fV with fN := (w64 (x2 + 1)) } } : T_impl_Mark)).set x3.toNat ({ v14 with fV := { v14.fV with fS := v12 } } : T_impl_Mark))⟩] ?_
 obtain ⟨v16, hv17, h⟩ := bindS h
 refine opsP_idr τ_ok 40 0 0 (((x4.set x3.toNat ({ v8 with fV := { v8.fV with fKind := x2 } } : T_impl_Mark)).set x3.toNat ({ v10 with fV := { v10.fV with fN := (w64 (x2 + 1)) } } : T_impl_Mark)).set x3.toNat ({ v14 with fV := { v14.fV with fS := v12 } } : T_impl_Mark)).length hv17 rfl (by kernel_rfl) ?_
 refine v 1 59 [(0, .ref 0 0 0 6 (((x4.set x3.toNat ({ v8 with fV := { v8.fV with fKind := x2 } } : T_impl_Mark)).set x3.toNat ({ v10 with fV := { v10.fV with fN := (w64 (x2 + 1)) } } : T_impl_Mark)).set x3.toNat ({ v14 with fV := { v14.fV with fS := v12 } } : T_impl_Mark)).length false), (1, I (w64 ((w64 ((w64 (x2 + 1)) + 1)) + 1))), (5, I x3), (39, I (w64 ((w64 ((w64 (x2 + 1)) + 1)) + 1))), (41, .ptr 0 0 (x3.toNat * 6 + 3))] [some ⟨0, eL (((x4.set x3.toNat ({ v8 with fV := { v8.fV with fKind := x2 } } : T_impl_Mark)).set x3.toNat ({ v10 with fV := { v10.fV with fN := (w64 (x2 + 1)) } } : T_impl_Mark)).set x3.toNat ({ v14 with fV := { v14.fV with fS := v12 } } : T_impl_Mark))⟩] ?_
 refine opsP_ste (vs := [I (w64 ((w64 ((w64 (x2 + 1)) + 1)) + 1))]) τ_ok 3 0 0 3 ({ v16 with fKey := (w64 ((w64 ((w64 (x2 + 1)) + 1)) + 1)) } : T_impl_Mark) hv17 (by kernel_rfl) (by kernel_rfl) (by kernel_rfl) (renC (ren_ref (List.length_set ..).symm) (renC trivial (renC trivial (renC trivial (renC trivial renC0))))) ?_
 refine ve 0 59 [(0, .ref 0 0 0 6 ((((x4.set x3.toNat ({ v8 with fV := { v8.fV with fKind := x2 } } : T_impl_Mark)).set x3.toNat ({ v10 with fV := { v10.fV with fN := (w64 (x2 + 1)) } } : T_impl_Mark)).set x3.toNat ({ v14 with fV := { v14.fV with fS := v12 } } : T_impl_Mark)).set x3.toNat ({ v16 with fKey := (w64 ((w64 ((w64 (x2 + 1)) + 1)) + 1)) } : T_impl_Mark)).length false), (1, I (w64 ((w64 ((w64 (x2 + 1)) + 1)) + 1))), (5, I x3)] [some ⟨0, eL ((((x4.set x3.toNat ({ v8 with fV := { v8.fV with fKind := x2 } } : T_impl_Mark)).set x3.toNat ({ v10 with fV := { v10.fV with fN := (w64 (x2 + 1)) } } : T_impl_Mark)).set x3.toNat ({ v14 with fV := { v14.fV with fS := v12 } } : T_impl_Mark)).set x3.toNat ({ v16 with fKey := (w64 ((w64 ((w64 (x2 + 1)) + 1)) + 1)) } : T_impl_Mark))⟩] ?_
 refine srve 59 [(0, .ref 0 0 0 6 ((((x4.set x3.toNat ({ v8 with fV := { v8.fV with fKind := x2 } } : T_impl_Mark)).set x3.toNat ({ v10 with fV := { v10.fV with fN := (w64 (x2 + 1)) } } : T_impl_Mark)).set x3.toNat ({ v14 with fV := { v14.fV with fS := v12 } } : T_impl_Mark)).set x3.toNat ({ v16 with fKey := (w64 ((w64 ((w64 (x2 + 1)) + 1)) + 1)) } : T_impl_Mark)).length false), (1, I (w64 ((w64 ((w64 ((w64 (x2 + 1)) + 1)) + 1)) + 1))), (5, I x3)] [some ⟨0, eL ((((x4.set x3.toNat ({ v8 with fV := { v8.fV with fKind := x2 } } : T_impl_Mark)).set x3.toNat ({ v10 with fV := { v10.fV with fN := (w64 (x2 + 1)) } } : T_impl_Mark)).set x3.toNat ({ v14 with fV := { v14.fV with fS := v12 } } : T_impl_Mark)).set x3.toNat ({ v16 with fKey := (w64 ((w64 ((w64 (x2 + 1)) + 1)) + 1)) } : T_impl_Mark))⟩] ?_
 refine srv 3 59 [(0, .ref 0 0 0 6 ((((x4.set x3.toNat ({ v8 with fV := { v8.fV with fKind := x2 } } : T_impl_Mark)).set x3.toNat ({ v10 with fV := { v10.fV with fN := (w64 (x2 + 1)) } } : T_impl_Mark)).set x3.toNat ({ v14 with fV := { v14.fV with fS := v12 } } : T_impl_Mark)).set x3.toNat ({ v16 with fKey := (w64 ((w64 ((w64 (x2 + 1)) + 1)) + 1)) } : T_impl_Mark)).length false), (1, I (w64 ((w64 ((w64 ((w64 (x2 + 1)) + 1)) + 1)) + 1))), (5, I x3), (44, .ref 0 0 0 6 ((((x4.set x3.toNat ({ v8 with fV := { v8.fV with fKind := x2 } } : T_impl_Mark)).set x3.toNat ({ v10 with fV := { v10.fV with fN := (w64 (x2 + 1)) } } : T_impl_Mark)).set x3.toNat ({ v14 with fV := { v14.fV with fS := v12 } } : T_impl_Mark)).set x3.toNat ({ v16 with fKey := (w64 ((w64 ((w64 (x2 + 1)) + 1)) + 1)) } : T_impl_Mark)).length false), (45, I x3), (46, I (w64 ((w64 ((w64 ((w64 (x2 + 1)) + 1)) + 1)) + 1)))] [some ⟨0, eL ((((x4.set x3.toNat ({ v8 with fV := { v8.fV with fKind := x2 } } : T_impl_Mark)).set x3.toNat ({ v10 with fV := { v10.fV with fN := (w64 (x2 + 1)) } } : T_impl_Mark)).set x3.toNat ({ v14 with fV := { v14.fV with fS := v12 } } : T_impl_Mark)).set x3.toNat ({ v16 with fKey := (w64 ((w64 ((w64 (x2 + 1)) + 1)) + 1)) } : T_impl_Mark))⟩] ?_
 obtain ⟨v18, hv19, h⟩ := bindS h
 refine opsP_idr τ_ok 47 0 0 ((((x4.set x3.toNat ({ v8 with fV := { v8.fV with fKind := x2 } } : T_impl_Mark)).set x3.toNat ({ v10 with fV := { v10.fV with fN := (w64 (x2 + 1)) } } : T_impl_Mark)).set x3.toNat ({ v14 with fV := { v14.fV with fS := v12 } } : T_impl_Mark)).set x3.toNat ({ v16 with fKey := (w64 ((w64 ((w64 (x2 + 1)) + 1)) + 1)) } : T_impl_Mark)).length hv19 rfl (by kernel_rfl) ?_
 refine v 1 59 [(0, .ref 0 0 0 6 ((((x4.set x3.toNat ({ v8 with fV := { v8.fV with fKind := x2 } } : T_impl_Mark)).set x3.toNat ({ v10 with fV := { v10.fV with fN := (w64 (x2 + 1)) } } : T_impl_Mark)).set x3.toNat ({ v14 with fV := { v14.fV with fS := v12 } } : T_impl_Mark)).set x3.toNat ({ v16 with fKey := (w64 ((w64 ((w64 (x2 + 1)) + 1)) + 1)) } : T_impl_Mark)).length false), (1, I (w64 ((w64 ((w64 ((w64 (x2 + 1)) + 1)) + 1)) + 1))), (5, I x3), (46, I (w64 ((w64 ((w64 ((w64 (x2 + 1)) + 1)) + 1)) + 1))), (48, .ptr 0 0 (x3.toNat * 6 + 4))] [some ⟨0, eL ((((x4.set x3.toNat ({ v8 with fV := { v8.fV with fKind := x2 } } : T_impl_Mark)).set x3.toNat ({ v10 with fV := { v10.fV with fN := (w64 (x2 + 1)) } } : T_impl_Mark)).set x3.toNat ({ v14 with fV := { v14.fV with fS := v12 } } : T_impl_Mark)).set x3.toNat ({ v16 with fKey := (w64 ((w64 ((w64 (x2 + 1)) + 1)) + 1)) } : T_impl_Mark))⟩] ?_
 refine opsP_ste (vs := [I (w64 ((w64 ((w64 ((w64 (x2 + 1)) + 1)) + 1)) + 1))]) τ_ok 3 0 0 4 ({ v18 with fBorn := (w64 ((w64 ((w64 ((w64 (x2 + 1)) + 1)) + 1)) + 1)) } : T_impl_Mark) hv19 (by kernel_rfl) (by kernel_rfl) (by kernel_rfl) (renC (ren_ref (List.length_set ..).symm) (renC trivial (renC trivial (renC trivial (renC trivial renC0))))) ?_
 refine ve 0 59 [(0, .ref 0 0 0 6 (((((x4.set x3.toNat ({ v8 with fV := { v8.fV with fKind := x2 } } : T_impl_Mark)).set x3.toNat ({ v10 with fV := { v10.fV with fN := (w64 (x2 + 1)) } } : T_impl_Mark)).set x3.toNat ({ v14 with fV := { v14.fV with fS := v12 } } : T_impl_Mark)).set x3.toNat ({ v16 with fKey := (w64 ((w64 ((w64 (x2 + 1)) + 1)) + 1)) } : T_impl_Mark)).set x3.toNat ({ v18 with fBorn := (w64 ((w64 ((w64 ((w64 (x2 + 1)) + 1)) + 1)) + 1)) } : T_impl_Mark)).length false), (1, I (w64 ((w64 ((w64 ((w64 (x2 + 1)) + 1)) + 1)) + 1))), (5, I x3)] [some ⟨0, eL (((((x4.set x3.toNat ({ v8 with fV := { v8.fV with fKind := x2 } } : T_impl_Mark)).set x3.toNat ({ v10 with fV := { v10.fV with fN := (w64 (x2 + 1)) } } : T_impl_Mark)).set x3.toNat ({ v14 with fV := { v14.fV with fS := v12 } } : T_impl_Mark)).set x3.toNat ({ v16 with fKey := (w64 ((w64 ((w64 (x2 + 1)) + 1)) + 1)) } : T_impl_Mark)).set x3.toNat ({ v18 with fBorn := (w64 ((w64 ((w64 ((w64 (x2 + 1)) + 1)) + 1)) + 1)) } : T_impl_Mark))⟩] ?_
 refine srve 59 [(0, .ref 0 0 0 6 (((((x4.set x3.toNat ({ v8 with fV := { v8.fV with fKind := x2 } } : T_impl_Mark)).set x3.toNat ({ v10 with fV := { v10.fV with fN := (w64 (x2 + 1)) } } : T_impl_Mark)).set x3.toNat ({ v14 with fV := { v14.fV with fS := v12 } } : T_impl_Mark)).set x3.toNat ({ v16 with fKey := (w64 ((w64 ((w64 (x2 + 1)) + 1)) + 1)) } : T_impl_Mark)).set x3.toNat ({ v18 with fBorn := (w64 ((w64 ((w64 ((w64 (x2 + 1)) + 1)) + 1)) + 1)) } : T_impl_Mark)).length false), (1, I (w64 ((w64 ((w64 ((w64 ((w64 (x2 + 1)) + 1)) + 1)) + 1)) + 1))), (5, I x3)] [some ⟨0, eL (((((x4.set x3.toNat ({ v8 with fV := { v8.fV with fKind := x2 } } : T_impl_Mark)).set x3.toNat ({ v10 with fV := { v10.fV with fN := (w64 (x2 + 1)) } } : T_impl_Mark)).set x3.toNat ({ v14 with fV := { v14.fV with fS := v12 } } : T_impl_Mark)).set x3.toNat ({ v16 with fKey := (w64 ((w64 ((w64 (x2 + 1)) + 1)) + 1)) } : T_impl_Mark)).set x3.toNat ({ v18 with fBorn := (w64 ((w64 ((w64 ((w64 (x2 + 1)) + 1)) + 1)) + 1)) } : T_impl_Mark))⟩] ?_
 refine srv 3 59 [(0, .ref 0 0 0 6 (((((x4.set x3.toNat ({ v8 with fV := { v8.fV with fKind := x2 } } : T_impl_Mark)).set x3.toNat ({ v10 with fV := { v10.fV with fN := (w64 (x2 + 1)) } } : T_impl_Mark)).set x3.toNat ({ v14 with fV := { v14.fV with fS := v12 } } : T_impl_Mark)).set x3.toNat ({ v16 with fKey := (w64 ((w64 ((w64 (x2 + 1)) + 1)) + 1)) } : T_impl_Mark)).set x3.toNat ({ v18 with fBorn := (w64 ((w64 ((w64 ((w64 (x2 + 1)) + 1)) + 1)) + 1)) } : T_impl_Mark)).length false), (1, I (w64 ((w64 ((w64 ((w64 ((w64 (x2 + 1)) + 1)) + 1)) + 1)) + 1))), (5, I x3), (51, .ref 0 0 0 6 (((((x4.set x3.toNat ({ v8 with fV := { v8.fV with fKind := x2 } } : T_impl_Mark)).set x3.toNat ({ v10 with fV := { v10.fV with fN := (w64 (x2 + 1)) } } : T_impl_Mark)).set x3.toNat ({ v14 with fV := { v14.fV with fS := v12 } } : T_impl_Mark)).set x3.toNat ({ v16 with fKey := (w64 ((w64 ((w64 (x2 + 1)) + 1)) + 1)) } : T_impl_Mark)).set x3.toNat ({ v18 with fBorn := (w64 ((w64 ((w64 ((w64 (x2 + 1)) + 1)) + 1)) + 1)) } : T_impl_Mark)).length false), (52, I x3), (53, I (w64 ((w64 ((w64 ((w64 ((w64 (x2 + 1)) + 1)) + 1)) + 1)) + 1)))] [some ⟨0, eL (((((x4.set x3.toNat ({ v8 with fV := { v8.fV with fKind := x2 } } : T_impl_Mark)).set x3.toNat ({ v10 with fV := { v10.fV with fN := (w64 (x2 + 1)) } } : T_impl_Mark)).set x3.toNat ({ v14 with fV := { v14.fV with fS := v12 } } : T_impl_Mark)).set x3.toNat ({ v16 with fKey := (w64 ((w64 ((w64 (x2 + 1)) + 1)) + 1)) } : T_impl_Mark)).set x3.toNat ({ v18 with fBorn := (w64 ((w64 ((w64 ((w64 (x2 + 1)) + 1)) + 1)) + 1)) } : T_impl_Mark))⟩] ?_
 obtain ⟨v20, hv21, h⟩ := bindS h
 refine opsP_idr τ_ok 54 0 0 (((((x4.set x3.toNat ({ v8 with fV := { v8.fV with fKind := x2 } } : T_impl_Mark)).set x3.toNat ({ v10 with fV := { v10.fV with fN := (w64 (x2 + 1)) } } : T_impl_Mark)).set x3.toNat ({ v14 with fV := { v14.fV with fS := v12 } } : T_impl_Mark)).set x3.toNat ({ v16 with fKey := (w64 ((w64 ((w64 (x2 + 1)) + 1)) + 1)) } : T_impl_Mark)).set x3.toNat ({ v18 with fBorn := (w64 ((w64 ((w64 ((w64 (x2 + 1)) + 1)) + 1)) + 1)) } : T_impl_Mark)).length hv21 rfl (by kernel_rfl) ?_
 refine v 1 59 [(0, .ref 0 0 0 6 (((((x4.set x3.toNat ({ v8 with fV := { v8.fV with fKind := x2 } } : T_impl_Mark)).set x3.toNat ({ v10 with fV := { v10.fV with fN := (w64 (x2 + 1)) } } : T_impl_Mark)).set x3.toNat ({ v14 with fV := { v14.fV with fS := v12 } } : T_impl_Mark)).set x3.toNat ({ v16 with fKey := (w64 ((w64 ((w64 (x2 + 1)) + 1)) + 1)) } : T_impl_Mark)).set x3.toNat ({ v18 with fBorn := (w64 ((w64 ((w64 ((w64 (x2 + 1)) + 1)) + 1)) + 1)) } : T_impl_Mark)).length false), (1, I (w64 ((w64 ((w64 ((w64 ((w64 (x2 + 1)) + 1)) + 1)) + 1)) + 1))), (5, I x3), (53, I (w64 ((w64 ((w64 ((w64 ((w64 (x2 + 1)) + 1)) + 1)) + 1)) + 1))), (55, .ptr 0 0 (x3.toNat * 6 + 5))] [some ⟨0, eL (((((x4.set x3.toNat ({ v8 with fV := { v8.fV with fKind := x2 } } : T_impl_Mark)).set x3.toNat ({ v10 with fV := { v10.fV with fN := (w64 (x2 + 1)) } } : T_impl_Mark)).set x3.toNat ({ v14 with fV := { v14.fV with fS := v12 } } : T_impl_Mark)).set x3.toNat ({ v16 with fKey := (w64 ((w64 ((w64 (x2 + 1)) + 1)) + 1)) } : T_impl_Mark)).set x3.toNat ({ v18 with fBorn := (w64 ((w64 ((w64 ((w64 (x2 + 1)) + 1)) + 1)) + 1)) } : T_impl_Mark))⟩] ?_
 refine opsP_ste (vs := [I (w64 ((w64 ((w64 ((w64 ((w64 (x2 + 1)) + 1)) + 1)) + 1)) + 1))]) τ_ok 3 0 0 5 ({ v20 with fDied := (w64 ((w64 ((w64 ((w64 ((w64 (x2 + 1)) + 1)) + 1)) + 1)) + 1)) } : T_impl_Mark) hv21 (by kernel_rfl) (by kernel_rfl) (by kernel_rfl) (renC (ren_ref (List.length_set ..).symm) (renC trivial (renC trivial (renC trivial (renC trivial renC0))))) ?_
 refine ve 0 59 [(0, .ref 0 0 0 6 ((((((x4.set x3.toNat ({ v8 with fV := { v8.fV with fKind := x2 } } : T_impl_Mark)).set x3.toNat ({ v10 with fV := { v10.fV with fN := (w64 (x2 + 1)) } } : T_impl_Mark)).set x3.toNat ({ v14 with fV := { v14.fV with fS := v12 } } : T_impl_Mark)).set x3.toNat ({ v16 with fKey := (w64 ((w64 ((w64 (x2 + 1)) + 1)) + 1)) } : T_impl_Mark)).set x3.toNat ({ v18 with fBorn := (w64 ((w64 ((w64 ((w64 (x2 + 1)) + 1)) + 1)) + 1)) } : T_impl_Mark)).set x3.toNat ({ v20 with fDied := (w64 ((w64 ((w64 ((w64 ((w64 (x2 + 1)) + 1)) + 1)) + 1)) + 1)) } : T_impl_Mark)).length false), (1, I (w64 ((w64 ((w64 ((w64 ((w64 (x2 + 1)) + 1)) + 1)) + 1)) + 1))), (5, I x3)] [some ⟨0, eL ((((((x4.set x3.toNat ({ v8 with fV := { v8.fV with fKind := x2 } } : T_impl_Mark)).set x3.toNat ({ v10 with fV := { v10.fV with fN := (w64 (x2 + 1)) } } : T_impl_Mark)).set x3.toNat ({ v14 with fV := { v14.fV with fS := v12 } } : T_impl_Mark)).set x3.toNat ({ v16 with fKey := (w64 ((w64 ((w64 (x2 + 1)) + 1)) + 1)) } : T_impl_Mark)).set x3.toNat ({ v18 with fBorn := (w64 ((w64 ((w64 ((w64 (x2 + 1)) + 1)) + 1)) + 1)) } : T_impl_Mark)).set x3.toNat ({ v20 with fDied := (w64 ((w64 ((w64 ((w64 ((w64 (x2 + 1)) + 1)) + 1)) + 1)) + 1)) } : T_impl_Mark))⟩] ?_
 refine rve 59 [(0, .ref 0 0 0 6 ((((((x4.set x3.toNat ({ v8 with fV := { v8.fV with fKind := x2 } } : T_impl_Mark)).set x3.toNat ({ v10 with fV := { v10.fV with fN := (w64 (x2 + 1)) } } : T_impl_Mark)).set x3.toNat ({ v14 with fV := { v14.fV with fS := v12 } } : T_impl_Mark)).set x3.toNat ({ v16 with fKey := (w64 ((w64 ((w64 (x2 + 1)) + 1)) + 1)) } : T_impl_Mark)).set x3.toNat ({ v18 with fBorn := (w64 ((w64 ((w64 ((w64 (x2 + 1)) + 1)) + 1)) + 1)) } : T_impl_Mark)).set x3.toNat ({ v20 with fDied := (w64 ((w64 ((w64 ((w64 ((w64 (x2 + 1)) + 1)) + 1)) + 1)) + 1)) } : T_impl_Mark)).length false), (1, I (w64 ((w64 ((w64 ((w64 ((w64 ((w64 (x2 + 1)) + 1)) + 1)) + 1)) + 1)) + 1))), (5, I x3)] [some ⟨0, eL ((((((x4.set x3.toNat ({ v8 with fV := { v8.fV with fKind := x2 } } : T_impl_Mark)).set x3.toNat ({ v10 with fV := { v10.fV with fN := (w64 (x2 + 1)) } } : T_impl_Mark)).set x3.toNat ({ v14 with fV := { v14.fV with fS := v12 } } : T_impl_Mark)).set x3.toNat ({ v16 with fKey := (w64 ((w64 ((w64 (x2 + 1)) + 1)) + 1)) } : T_impl_Mark)).set x3.toNat ({ v18 with fBorn := (w64 ((w64 ((w64 ((w64 (x2 + 1)) + 1)) + 1)) + 1)) } : T_impl_Mark)).set x3.toNat ({ v20 with fDied := (w64 ((w64 ((w64 ((w64 ((w64 (x2 + 1)) + 1)) + 1)) + 1)) + 1)) } : T_impl_Mark))⟩] ?_
 refine rve 59 [(0, .ref 0 0 0 6 ((((((x4.set x3.toNat ({ v8 with fV := { v8.fV with fKind := x2 } } : T_impl_Mark)).set x3.toNat ({ v10 with fV := { v10.fV with fN := (w64 (x2 + 1)) } } : T_impl_Mark)).set x3.toNat ({ v14 with fV := { v14.fV with fS := v12 } } : T_impl_Mark)).set x3.toNat ({ v16 with fKey := (w64 ((w64 ((w64 (x2 + 1)) + 1)) + 1)) } : T_impl_Mark)).set x3.toNat ({ v18 with fBorn := (w64 ((w64 ((w64 ((w64 (x2 + 1)) + 1)) + 1)) + 1)) } : T_impl_Mark)).set x3.toNat ({ v20 with fDied := (w64 ((w64 ((w64 ((w64 ((w64 (x2 + 1)) + 1)) + 1)) + 1)) + 1)) } : T_impl_Mark)).length false), (1, I (w64 ((w64 ((w64 ((w64 ((w64 ((w64 (x2 + 1)) + 1)) + 1)) + 1)) + 1)) + 1))), (5, I (w64 (x3 + 1)))] [some ⟨0, eL ((((((x4.set x3.toNat ({ v8 with fV := { v8.fV with fKind := x2 } } : T_impl_Mark)).set x3.toNat ({ v10 with fV := { v10.fV with fN := (w64 (x2 + 1)) } } : T_impl_Mark)).set x3.toNat ({ v14 with fV := { v14.fV with fS := v12 } } : T_impl_Mark)).set x3.toNat ({ v16 with fKey := (w64 ((w64 ((w64 (x2 + 1)) + 1)) + 1)) } : T_impl_Mark)).set x3.toNat ({ v18 with fBorn := (w64 ((w64 ((w64 ((w64 (x2 + 1)) + 1)) + 1)) + 1)) } : T_impl_Mark)).set x3.toNat ({ v20 with fDied := (w64 ((w64 ((w64 ((w64 ((w64 (x2 + 1)) + 1)) + 1)) + 1)) + 1)) } : T_impl_Mark))⟩] ?_
 exact ⟨(f5, (w64 ((w64 ((w64 ((w64 ((w64 ((w64 (x2 + 1)) + 1)) + 1)) + 1)) + 1)) + 1)), (w64 (x3 + 1)), ((((((x4.set x3.toNat ({ v8 with fV := { v8.fV with fKind := x2 } } : T_impl_Mark)).set x3.toNat ({ v10 with fV := { v10.fV with fN := (w64 (x2 + 1)) } } : T_impl_Mark)).set x3.toNat ({ v14 with fV := { v14.fV with fS := v12 } } : T_impl_Mark)).set x3.toNat ({ v16 with fKey := (w64 ((w64 ((w64 (x2 + 1)) + 1)) + 1)) } : T_impl_Mark)).set x3.toNat ({ v18 with fBorn := (w64 ((w64 ((w64 ((w64 (x2 + 1)) + 1)) + 1)) + 1)) } : T_impl_Mark)).set x3.toNat ({ v20 with fDied := (w64 ((w64 ((w64 ((w64 ((w64 (x2 + 1)) + 1)) + 1)) + 1)) + 1)) } : T_impl_Mark))), h, Nat.lt_succ_self _, it [0, 1, 5]⟩
 refine pwp_exit ?_
 refine srve 59 [(4, I x2)] [sl 0 x4] ?_
 have h := si h
 subst h
 exact pwp_ret ⟨.inr rfl, 0, by kernel_rfl, by kernel_rfl⟩
def laws_heldMarkS_l0 (a0 : List T_impl_Mark) : Nat → Int → Int → Option Int
 | 0, _, _ => none
 | f3 + 1, x1, x2 => bif (decide (x2 < (a0.length : Int))) then (getI a0 x2).bind fun v6 => bif (!(v6.fV.fKind == x1)) then some (-1) else (getI a0 x2).bind fun v9 => bif (!(v9.fV.fN == (w64 (x1 + 1)))) then some (-1) else (getI a0 x2).bind fun v12 => (laws_markText (w64 ((w64 (x1 + 1)) + 1))).bind fun v14 => bif (!(v12.fV.fS.toList == v14.toList)) then some (-1) else (getI a0 x2).bind fun v17 => bif (!(v17.fKey == (w64 ((w64 ((w64 (x1 + 1)) + 1)) + 1)))) then some (-1) else (getI a0 x2).bind fun v20 => bif (!(v20.fBorn == (w64 ((w64 ((w64 ((w64 (x1 + 1)) + 1)) + 1)) + 1)))) then some (-1) else (getI a0 x2).bind fun v23 => bif (!(v23.fDied == (w64 ((w64 ((w64 ((w64 ((w64 (x1 + 1)) + 1)) + 1)) + 1)) + 1)))) then some (-1) else (laws_heldMarkS_l0 a0 f3) (w64 ((w64 ((w64 ((w64 ((w64 ((w64 (x1 + 1)) + 1)) + 1)) + 1)) + 1)) + 1)) (w64 (x2 + 1)) else some x1
def laws_heldMarkS (a0 : List T_impl_Mark) (a1 : Int) : Option Int := laws_heldMarkS_l0 a0 FUEL a1 0
theorem ok_laws_heldMarkS {a0 : List T_impl_Mark} {a1 : Int} {y : Int} (h : laws_heldMarkS a0 a1 = some y) : OK Try.prog 15 [A a0, I a1] (I y) := by
 refine ow Try.func15 fun Γ hX => ?_
 unfold laws_heldMarkS at h
 refine srve 71 [(0, A a0), (1, I a1)] [] ?_
 refine pwp_seq ?_
 refine srve 71 [(0, A a0), (1, I a1), (5, I 0)] [] ?_
 refine pwp_block ?_
 refine pwp_loop (ι := Nat × Int × Int) (fun (f3, x1, x2) => (⟨71, [(0, A a0), (1, I x1), (5, I x2)], []⟩ : St)) (fun (f3, x1, x2) => laws_heldMarkS_l0 a0 f3 x1 x2 = some y) Prod.fst (FUEL, a1, 0) h (it [0, 1, 5]) ?_
 rintro ⟨f3, x1, x2⟩ h
 dsimp only at h ⊢
 rcases f3 with _ | f3
 cases h
 rw [laws_heldMarkS_l0] at h
 refine pwp_seq ?_
 refine srve 71 [(0, A a0), (1, I x1), (5, I x2), (9, B (decide (x2 < (a0.length : Int))))] [] ?_
 refine pc h (fun h => ?_) (fun h => ?_)
 refine pwp_skip ?_
 refine pwp_seq ?_
 refine pwp_block ?_
 refine pwp_seq ?_
 refine srv 2 71 [(0, A a0), (1, I x1), (5, I x2), (12, A a0), (13, I x2)] [] ?_
 obtain ⟨v6, hv7, h⟩ := bindS h
 refine opsP_idx τ_ok 14 hv7 (by kernel_rfl) ?_
 refine ve 5 71 [(0, A a0), (1, I x1), (5, I x2), (19, B (!(v6.fV.fKind == x1)))] [] ?_
 refine pc h (fun h => ?_) (fun h => ?_)
 refine srve 71 [(4, I (-1))] [] ?_
 cases h
 exact pwp_ret rz
 refine pwp_skip ?_
 refine srve 71 [(0, A a0), (1, I (w64 (x1 + 1))), (5, I x2)] [] ?_
 refine pwp_seq ?_
 refine srv 2 71 [(0, A a0), (1, I (w64 (x1 + 1))), (5, I x2), (22, A a0), (23, I x2)] [] ?_
 obtain ⟨v9, hv10, h⟩ := bindS h
 refine opsP_idx τ_ok 24 hv10 (by kernel_rfl) ?_
 refine ve 5 71 [(0, A a0), (1, I (w64 (x1 + 1))), (5, I x2), (29, B (!(v9.fV.fN == (w64 (x1 + 1)))))] [] ?_
 refine pc h (fun h => ?_) (fun h => ?_)
 refine srve 71 [(4, I (-1))] [] ?_
 cases h
 exact pwp_ret rz
 refine pwp_skip ?_
 refine srve 71 [(0, A a0), (1, I (w64 ((w64 (x1 + 1)) + 1))), (5, I x2)] [] ?_
 refine pwp_seq ?_
 refine pwp_seq ?_
 refine ip 71 [(0, A a0), (1, I (w64 ((w64 (x1 + 1)) + 1))), (5, I x2)] [] ?_
 refine pN 9 ?_
 refine qv [] trivial 2 71 [(33, I x2), (32, A a0), (0, A a0), (1, I (w64 ((w64 (x1 + 1)) + 1))), (5, I x2)] [] ?_
 obtain ⟨v12, hv13, h⟩ := bindS h
 refine qX (some 34) (pf v12 0) 71 [(34, pf v12 0), (0, A a0), (1, I (w64 ((w64 (x1 + 1)) + 1))), (5, I x2)] [] (fun Γ' hΓ => CoreE.of_y (idxV_sound τ_ok (by kernel_rfl) hv13)) trivial ?_
 refine qv [] trivial 4 71 [(38, I (w64 ((w64 (x1 + 1)) + 1))), (37, S v12.fV.fS), (0, A a0), (1, I (w64 ((w64 (x1 + 1)) + 1))), (5, I x2)] [] ?_
 obtain ⟨v14, hv15, h⟩ := bindS h
 refine qX (some 39) (S v14) 71 [(39, S v14), (37, S v12.fV.fS), (0, A a0), (1, I (w64 ((w64 (x1 + 1)) + 1))), (5, I x2)] [] (fun Γ' hΓ => CoreE.of_g (callV_sound (τ := τ) (by kernel_rfl) rfl (ok_laws_markText hv15) (FzTo.frz rfl))) trivial ?_
 refine qvn [] trivial 1 71 [(0, A a0), (1, I (w64 ((w64 (x1 + 1)) + 1))), (5, I x2), (40, B (!(v12.fV.fS.toList == v14.toList)))] [] ?_
 refine pc h (fun h => ?_) (fun h => ?_)
 refine srve 71 [(4, I (-1))] [] ?_
 cases h
 exact pwp_ret rz
 refine pwp_skip ?_
 refine srve 71 [(0, A a0), (1, I (w64 ((w64 ((w64 (x1 + 1)) + 1)) + 1))), (5, I x2)] [] ?_
 refine pwp_seq ?_
 refine srv 2 71 [(0, A a0), (1, I (w64 ((w64 ((w64 (x1 + 1)) + 1)) + 1))), (5, I x2), (43, A a0), (44, I x2)] [] ?_
 obtain ⟨v17, hv18, h⟩ := bindS h
 refine opsP_idx τ_ok 45 hv18 (by kernel_rfl) ?_
 refine ve 4 71 [(0, A a0), (1, I (w64 ((w64 ((w64 (x1 + 1)) + 1)) + 1))), (5, I x2), (49, B (!(v17.fKey == (w64 ((w64 ((w64 (x1 + 1)) + 1)) + 1)))))] [] ?_
 refine pc h (fun h => ?_) (fun h => ?_)
 refine srve 71 [(4, I (-1))] [] ?_
 cases h
 exact pwp_ret rz
 refine pwp_skip ?_
 refine srve 71 [(0, A a0), (1, I (w64 ((w64 ((w64 ((w64 (x1 + 1)) + 1)) + 1)) + 1))), (5, I x2)] [] ?_
 refine pwp_seq ?_
 refine srv 2 71 [(0, A a0), (1, I (w64 ((w64 ((w64 ((w64 (x1 + 1)) + 1)) + 1)) + 1))), (5, I x2), (52, A a0), (53, I x2)] [] ?_
 obtain ⟨v20, hv21, h⟩ := bindS h
 refine opsP_idx τ_ok 54 hv21 (by kernel_rfl) ?_
 refine ve 4 71 [(0, A a0), (1, I (w64 ((w64 ((w64 ((w64 (x1 + 1)) + 1)) + 1)) + 1))), (5, I x2), (58, B (!(v20.fBorn == (w64 ((w64 ((w64 ((w64 (x1 + 1)) + 1)) + 1)) + 1)))))] [] ?_
 refine pc h (fun h => ?_) (fun h => ?_)
 refine srve 71 [(4, I (-1))] [] ?_
 cases h
 exact pwp_ret rz
 refine pwp_skip ?_
 refine srve 71 [(0, A a0), (1, I (w64 ((w64 ((w64 ((w64 ((w64 (x1 + 1)) + 1)) + 1)) + 1)) + 1))), (5, I x2)] [] ?_
 refine pwp_seq ?_
 refine srv 2 71 [(0, A a0), (1, I (w64 ((w64 ((w64 ((w64 ((w64 (x1 + 1)) + 1)) + 1)) + 1)) + 1))), (5, I x2), (61, A a0), (62, I x2)] [] ?_
 obtain ⟨v23, hv24, h⟩ := bindS h
 refine opsP_idx τ_ok 63 hv24 (by kernel_rfl) ?_
 refine ve 4 71 [(0, A a0), (1, I (w64 ((w64 ((w64 ((w64 ((w64 (x1 + 1)) + 1)) + 1)) + 1)) + 1))), (5, I x2), (67, B (!(v23.fDied == (w64 ((w64 ((w64 ((w64 ((w64 (x1 + 1)) + 1)) + 1)) + 1)) + 1)))))] [] ?_
 refine pc h (fun h => ?_) (fun h => ?_)
 refine srve 71 [(4, I (-1))] [] ?_
 cases h
 exact pwp_ret rz
 refine pwp_skip ?_
 refine rve 71 [(0, A a0), (1, I (w64 ((w64 ((w64 ((w64 ((w64 ((w64 (x1 + 1)) + 1)) + 1)) + 1)) + 1)) + 1))), (5, I x2)] [] ?_
 refine rve 71 [(0, A a0), (1, I (w64 ((w64 ((w64 ((w64 ((w64 ((w64 (x1 + 1)) + 1)) + 1)) + 1)) + 1)) + 1))), (5, I (w64 (x2 + 1)))] [] ?_
 exact ⟨(f3, (w64 ((w64 ((w64 ((w64 ((w64 ((w64 (x1 + 1)) + 1)) + 1)) + 1)) + 1)) + 1)), (w64 (x2 + 1))), h, Nat.lt_succ_self _, it [0, 1, 5]⟩
 refine pwp_exit ?_
 refine srve 71 [(4, I x1)] [] ?_
 cases h
 exact pwp_ret rz
def laws_eqMark (a0 : T_impl_Mark) (a1 : T_impl_Mark) : Option Bool := (laws_eqValue a0.fV a1.fV).bind fun v1 => bif (!v1) then some false else bif (!(a0.fKey == a1.fKey)) then some false else bif (!(a0.fBorn == a1.fBorn)) then some false else bif (!(a0.fDied == a1.fDied)) then some false else some true
theorem ok_laws_eqMark {a0 : T_impl_Mark} {a1 : T_impl_Mark} {y : Bool} (h : laws_eqMark a0 a1 = some y) : OK Try.prog 42 [E a0, E a1] (B y) := by
 refine ow Try.func42 fun Γ hX => ?_
 unfold laws_eqMark at h
 refine srve 26 [(2, pf a0 0), (3, pf a1 0)] [] ?_
 refine pwp_seq ?_
 refine srv 4 26 [(2, pf a0 0), (3, pf a1 0), (6, E a0.fV), (8, E a1.fV)] [] ?_
 obtain ⟨v1, hv2, h⟩ := bindS h
 refine cF 9 (ok_laws_eqValue hv2) ?_
 refine ve 1 26 [(2, pf a0 0), (3, pf a1 0), (10, B (!v1))] [] ?_
 refine pc h (fun h => ?_) (fun h => ?_)
 refine srve 26 [(4, B false)] [] ?_
 cases h
 exact pwp_ret rz
 refine pwp_skip ?_
 refine pwp_seq ?_
 refine srve 26 [(2, pf a0 0), (3, pf a1 0), (15, B (!(a0.fKey == a1.fKey)))] [] ?_
 refine pc h (fun h => ?_) (fun h => ?_)
 refine srve 26 [(4, B false)] [] ?_
 cases h
 exact pwp_ret rz
 refine pwp_skip ?_
 refine pwp_seq ?_
 refine srve 26 [(2, pf a0 0), (3, pf a1 0), (20, B (!(a0.fBorn == a1.fBorn)))] [] ?_
 refine pc h (fun h => ?_) (fun h => ?_)
 refine srve 26 [(4, B false)] [] ?_
 cases h
 exact pwp_ret rz
 refine pwp_skip ?_
 refine pwp_seq ?_
 refine srve 26 [(25, B (!(a0.fDied == a1.fDied)))] [] ?_
 refine pc h (fun h => ?_) (fun h => ?_)
 refine srve 26 [(4, B false)] [] ?_
 cases h
 exact pwp_ret rz
 refine pwp_skip ?_
 refine srve 26 [(4, B true)] [] ?_
 cases h
 exact pwp_ret rz
def laws_markValueS_l0 : Nat → Int → Int → (List T_impl_Value) → Option (Int × List T_impl_Value)
 | 0, _, _, _ => none
 | f5 + 1, x2, x3, x4 => bif (decide (x3 < (x4.length : Int))) then (getI x4 x3).bind fun v8 => (getI (x4.set x3.toNat ({ v8 with fKind := x2 } : T_impl_Value)) x3).bind fun v10 => (laws_markText (w64 ((w64 (x2 + 1)) + 1))).bind fun v12 => (getI ((x4.set x3.toNat ({ v8 with fKind := x2 } : T_impl_Value)).set x3.toNat ({ v10 with fN := (w64 (x2 + 1)) } : T_impl_Value)) x3).bind fun v14 => (laws_markValueS_l0 f5) (w64 ((w64 ((w64 (x2 + 1)) + 1)) + 1)) (w64 (x3 + 1)) (((x4.set x3.toNat ({ v8 with fKind := x2 } : T_impl_Value)).set x3.toNat ({ v10 with fN := (w64 (x2 + 1)) } : T_impl_Value)).set x3.toNat ({ v14 with fS := v12 } : T_impl_Value)) else some (x2, x4)
def laws_markValueS (a0 : List T_impl_Value) (a1 : Int) : Option (Int × List T_impl_Value) := laws_markValueS_l0 FUEL a1 0 a0
theorem len_laws_markValueS_l0 : ∀ (f5 : Nat) (x2 : Int) (x3 : Int) (x4 : List T_impl_Value) (y : Int × List T_impl_Value), laws_markValueS_l0 f5 x2 x3 x4 = some y → y.2.length = x4.length
 | 0, _, _, _, _, h => by cases h
 | f5 + 1, x2, x3, x4, y, h => by
  rw [laws_markValueS_l0] at h
  rcases condS h with h | h
  ·obtain ⟨_, _, h⟩ := bindS h
   obtain ⟨_, _, h⟩ := bindS h
   obtain ⟨_, _, h⟩ := bindS h
   obtain ⟨_, _, h⟩ := bindS h
   have h2 := len_laws_markValueS_l0 f5 _ _ _ _ h
   simp only [List.length_set] at h2
   exact h2
  ·cases h; rfl
theorem len_laws_markValueS {a0 : List T_impl_Value} {a1 : Int} {y : Int × List T_impl_Value} (h : laws_markValueS a0 a1 = some y) : y.2.length = a0.length := by
 unfold laws_markValueS at h
 exact len_laws_markValueS_l0 _ _ _ _ _ h
theorem ok_laws_markValueS {a0 : List T_impl_Value} {a1 : Int} {y : Int × List T_impl_Value} (h : laws_markValueS a0 a1 = some y) : OKd Try.prog 44 3 a0.length (eL a0) [I a1] (.int .i64 y.1) (eL y.2) := by
 refine OKd_of_pwp τ_ok Try.func44 rfl (by kernel_rfl) rfl (O_oc _) (O_oc _) (BlindL.lits (eL_lit DFlat.lit _)) (BlindL.lits (eL_lit DFlat.lit _)) rfl (fun hl => by rw [eL_len, len_laws_markValueS h, ← eL_len]; exact hl) fun Γ hQ => ?_
 refine pwp_imp (Imp.to (st' := ⟨35, [(0, rf 0 0 3 a0), (1, I a1)], [sl 0 a0]⟩) [0, 1] (by kernel_rfl)) ?_
 unfold laws_markValueS at h
 refine srve 35 [(0, rf 0 0 3 a0), (1, I a1)] [sl 0 a0] ?_
 refine pwp_seq ?_
 refine srve 35 [(0, rf 0 0 3 a0), (1, I a1), (5, I 0)] [sl 0 a0] ?_
 refine pwp_block ?_
 refine pwp_loop (ι := Nat × Int × Int × (List T_impl_Value)) (fun (f5, x2, x3, x4) => (⟨35, [(0, rf 0 0 3 x4), (1, I x2), (5, I x3)], [sl 0 x4]⟩ : St)) (fun (f5, x2, x3, x4) => laws_markValueS_l0 f5 x2 x3 x4 = some y) Prod.fst (FUEL, a1, 0, a0) h (it [0, 1, 5]) ?_
 rintro ⟨f5, x2, x3, x4⟩ h
 dsimp only at h ⊢
 rcases f5 with _ | f5
 cases h
 rw [laws_markValueS_l0] at h
 refine pwp_seq ?_
 refine srve 35 [(0, rf 0 0 3 x4), (1, I x2), (5, I x3), (9, B (decide (x3 < (x4.length : Int))))] [sl 0 x4] ?_
 refine pc h (fun h => ?_) (fun h => ?_)
 refine pwp_skip ?_
 refine pwp_seq ?_
 refine pwp_block ?_
 refine srv 3 35 [(0, rf 0 0 3 x4), (1, I x2), (5, I x3), (12, rf 0 0 3 x4), (13, I x3), (14, I x2)] [sl 0 x4] ?_
 obtain ⟨v8, hv9, h⟩ := bindS h
 refine opsP_idr τ_ok 15 0 0 x4.length hv9 rfl (by kernel_rfl) ?_
 refine v 1 35 [(0, rf 0 0 3 x4), (1, I x2), (5, I x3), (14, I x2), (16, .ptr 0 0 (x3.toNat * 3))] [sl 0 x4] ?_
 refine opsP_ste (vs := [I x2]) τ_ok 3 0 0 0 ({ v8 with fKind := x2 } : T_impl_Value) hv9 (by kernel_rfl) (by kernel_rfl) (by kernel_rfl) (renC (ren_ref (List.length_set ..).symm) (renC trivial (renC trivial (renC trivial (renC trivial renC0))))) ?_
 refine ve 0 35 [(0, .ref 0 0 0 3 (x4.set x3.toNat ({ v8 with fKind := x2 } : T_impl_Value)).length false), (1, I x2), (5, I x3)] [some ⟨0, eL (x4.set x3.toNat ({ v8 with fKind := x2 } : T_impl_Value))⟩] ?_
 refine srve 35 [(0, .ref 0 0 0 3 (x4.set x3.toNat ({ v8 with fKind := x2 } : T_impl_Value)).length false), (1, I (w64 (x2 + 1))), (5, I x3)] [some ⟨0, eL (x4.set x3.toNat ({ v8 with fKind := x2 } : T_impl_Value))⟩] ?_
 refine srv 3 35 [(0, .ref 0 0 0 3 (x4.set x3.toNat ({ v8 with fKind := x2 } : T_impl_Value)).length false), (1, I (w64 (x2 + 1))), (5, I x3), (19, .ref 0 0 0 3 (x4.set x3.toNat ({ v8 with fKind := x2 } : T_impl_Value)).length false), (20, I x3), (21, I (w64 (x2 + 1)))] [some ⟨0, eL (x4.set x3.toNat ({ v8 with fKind := x2 } : T_impl_Value))⟩] ?_
 obtain ⟨v10, hv11, h⟩ := bindS h
 refine opsP_idr τ_ok 22 0 0 (x4.set x3.toNat ({ v8 with fKind := x2 } : T_impl_Value)).length hv11 rfl (by kernel_rfl) ?_
 refine v 1 35 [(0, .ref 0 0 0 3 (x4.set x3.toNat ({ v8 with fKind := x2 } : T_impl_Value)).length false), (1, I (w64 (x2 + 1))), (5, I x3), (21, I (w64 (x2 + 1))), (23, .ptr 0 0 (x3.toNat * 3 + 1))] [some ⟨0, eL (x4.set x3.toNat ({ v8 with fKind := x2 } : T_impl_Value))⟩] ?_
 refine opsP_ste (vs := [I (w64 (x2 + 1))]) τ_ok 3 0 0 1 ({ v10 with fN := (w64 (x2 + 1)) } : T_impl_Value) hv11 (by kernel_rfl) (by kernel_rfl) (by kernel_rfl) (renC (ren_ref (List.length_set ..).symm) (renC trivial (renC trivial (renC trivial (renC trivial renC0))))) ?_
 refine ve 0 35 [(0, .ref 0 0 0 3 ((x4.set x3.toNat ({ v8 with fKind := x2 } : T_impl_Value)).set x3.toNat ({ v10 with fN := (w64 (x2 + 1)) } : T_impl_Value)).length false), (1, I (w64 (x2 + 1))), (5, I x3)] [some ⟨0, eL ((x4.set x3.toNat ({ v8 with fKind := x2 } : T_impl_Value)).set x3.toNat ({ v10 with fN := (w64 (x2 + 1)) } : T_impl_Value))⟩] ?_
 refine srve 35 [(0, .ref 0 0 0 3 ((x4.set x3.toNat ({ v8 with fKind := x2 } : T_impl_Value)).set x3.toNat ({ v10 with fN := (w64 (x2 + 1)) } : T_impl_Value)).length false), (1, I (w64 ((w64 (x2 + 1)) + 1))), (5, I x3)] [some ⟨0, eL ((x4.set x3.toNat ({ v8 with fKind := x2 } : T_impl_Value)).set x3.toNat ({ v10 with fN := (w64 (x2 + 1)) } : T_impl_Value))⟩] ?_
 refine srv 3 35 [(0, .ref 0 0 0 3 ((x4.set x3.toNat ({ v8 with fKind := x2 } : T_impl_Value)).set x3.toNat ({ v10 with fN := (w64 (x2 + 1)) } : T_impl_Value)).length false), (1, I (w64 ((w64 (x2 + 1)) + 1))), (5, I x3), (26, .ref 0 0 0 3 ((x4.set x3.toNat ({ v8 with fKind := x2 } : T_impl_Value)).set x3.toNat ({ v10 with fN := (w64 (x2 + 1)) } : T_impl_Value)).length false), (27, I x3), (28, I (w64 ((w64 (x2 + 1)) + 1)))] [some ⟨0, eL ((x4.set x3.toNat ({ v8 with fKind := x2 } : T_impl_Value)).set x3.toNat ({ v10 with fN := (w64 (x2 + 1)) } : T_impl_Value))⟩] ?_
 obtain ⟨v12, hv13, h⟩ := bindS h
 refine cF 29 (ok_laws_markText hv13) ?_
 obtain ⟨v14, hv15, h⟩ := bindS h
 refine opsP_idr τ_ok 30 0 0 ((x4.set x3.toNat ({ v8 with fKind := x2 } : T_impl_Value)).set x3.toNat ({ v10 with fN := (w64 (x2 + 1)) } : T_impl_Value)).length hv15 rfl (by kernel_rfl) ?_
 refine v 1 35 [(0, .ref 0 0 0 3 ((x4.set x3.toNat ({ v8 with fKind := x2 } : T_impl_Value)).set x3.toNat ({ v10 with fN := (w64 (x2 + 1)) } : T_impl_Value)).length false), (1, I (w64 ((w64 (x2 + 1)) + 1))), (5, I x3), (29, S v12), (31, .ptr 0 0 (x3.toNat * 3 + 2))] [some ⟨0, eL ((x4.set x3.toNat ({ v8 with fKind := x2 } : T_impl_Value)).set x3.toNat ({ v10 with fN := (w64 (x2 + 1)) } : T_impl_Value))⟩] ?_
 refine opsP_ste (vs := [S v12]) τ_ok 9 0 0 2 ({ v14 with fS := v12 } : T_impl_Value) hv15 (by kernel_rfl) (by kernel_rfl) (by kernel_rfl) (renC (ren_ref (List.length_set ..).symm) (renC trivial (renC trivial (renC trivial (renC trivial renC0))))) ?_
 refine ve 0 35 [(0, .ref 0 0 0 3 (((x4.set x3.toNat ({ v8 with fKind := x2 } : T_impl_Value)).set x3.toNat ({ v10 with fN := (w64 (x2 + 1)) } : T_impl_Value)).set x3.toNat ({ v14 with fS := v12 } : T_impl_Value)).length false), (1, I (w64 ((w64 (x2 + 1)) + 1))), (5, I x3)] [some ⟨0, eL (((x4.set x3.toNat ({ v8 with fKind := x2 } : T_impl_Value)).set x3.toNat ({ v10 with fN := (w64 (x2 + 1)) } : T_impl_Value)).set x3.toNat ({ v14 with fS := v12 } : T_impl_Value))⟩] ?_
 refine rve 35 [(0, .ref 0 0 0 3 (((x4.set x3.toNat ({ v8 with fKind := x2 } : T_impl_Value)).set x3.toNat ({ v10 with fN := (w64 (x2 + 1)) } : T_impl_Value)).set x3.toNat ({ v14 with fS := v12 } : T_impl_Value)).length false), (1, I (w64 ((w64 ((w64 (x2 + 1)) + 1)) + 1))), (5, I x3)] [some ⟨0, eL (((x4.set x3.toNat ({ v8 with fKind := x2 } : T_impl_Value)).set x3.toNat ({ v10 with fN := (w64 (x2 + 1)) } : T_impl_Value)).set x3.toNat ({ v14 with fS := v12 } : T_impl_Value))⟩] ?_
 refine rve 35 [(0, .ref 0 0 0 3 (((x4.set x3.toNat ({ v8 with fKind := x2 } : T_impl_Value)).set x3.toNat ({ v10 with fN := (w64 (x2 + 1)) } : T_impl_Value)).set x3.toNat ({ v14 with fS := v12 } : T_impl_Value)).length false), (1, I (w64 ((w64 ((w64 (x2 + 1)) + 1)) + 1))), (5, I (w64 (x3 + 1)))] [some ⟨0, eL (((x4.set x3.toNat ({ v8 with fKind := x2 } : T_impl_Value)).set x3.toNat ({ v10 with fN := (w64 (x2 + 1)) } : T_impl_Value)).set x3.toNat ({ v14 with fS := v12 } : T_impl_Value))⟩] ?_
 exact ⟨(f5, (w64 ((w64 ((w64 (x2 + 1)) + 1)) + 1)), (w64 (x3 + 1)), (((x4.set x3.toNat ({ v8 with fKind := x2 } : T_impl_Value)).set x3.toNat ({ v10 with fN := (w64 (x2 + 1)) } : T_impl_Value)).set x3.toNat ({ v14 with fS := v12 } : T_impl_Value))), h, Nat.lt_succ_self _, it [0, 1, 5]⟩
 refine pwp_exit ?_
 refine srve 35 [(4, I x2)] [sl 0 x4] ?_
 have h := si h
 subst h
 exact pwp_ret ⟨.inr rfl, 0, by kernel_rfl, by kernel_rfl⟩
def impl_Value_ok (a0 : T_impl_Value) : Option Bool := bif (a0.fKind == 0) then some (eq_T_impl_Value a0 (T_impl_Value.mk 0 0 (ByteArray.mk #[]))) else bif (a0.fKind == 1) then bif (a0.fS.toList == (ByteArray.mk #[]).toList) then (impl_between a0.fN (-9999) 9999).bind fun v3 => some v3 else some false else bif (a0.fKind == 2) then bif (a0.fN == 0) then bif (decide ((a0.fS.size : Int) ≤ 6)) then (impl_letters a0.fS).bind fun v7 => some v7 else some false else some false else bif (a0.fKind == 3) then bif (a0.fS.toList == (ByteArray.mk #[]).toList) then (impl_between a0.fN 0 1).bind fun v12 => some v12 else some false else some false
theorem ok_impl_Value_ok {a0 : T_impl_Value} {y : Bool} (h : impl_Value_ok a0 = some y) : OK Try.prog 48 [E a0] (B y) := by
 refine ow Try.func48 fun Γ hX => ?_
 unfold impl_Value_ok at h
 refine srve 46 [(1, pf a0 0)] [] ?_
 refine pwp_seq ?_
 refine srve 46 [(1, pf a0 0), (4, I a0.fKind)] [] ?_
 refine pwp_block ?_
 refine srve 46 [(1, pf a0 0), (4, I a0.fKind), (5, B (a0.fKind == 0))] [] ?_
 refine pc h (fun h => ?_) (fun h => ?_)
 refine srve 46 [(2, B (eq_T_impl_Value a0 (T_impl_Value.mk 0 0 (ByteArray.mk #[]))))] [] ?_
 cases h
 exact pwp_ret rz
 refine srve 46 [(1, pf a0 0), (4, I a0.fKind), (10, B (a0.fKind == 1))] [] ?_
 refine pc h (fun h => ?_) (fun h => ?_)
 refine srv 4 46 [(1, pf a0 0), (15, B (a0.fS.toList == (ByteArray.mk #[]).toList))] [] ?_
 rcases fk (a0.fS.toList == (ByteArray.mk #[]).toList) with hc5 | hc5
 replace h := bT hc5 h
 rw [hc5]
 refine v 2 46 [(15, B true), (17, I a0.fN)] [] ?_
 obtain ⟨v3, hv4, h⟩ := bindS h
 refine cF 18 (ok_impl_between hv4) ?_
 refine ve 2 46 [(2, B v3)] [] ?_
 cases h
 exact pwp_ret rz
 replace h := bF hc5 h
 rw [hc5]
 refine ve 5 46 [(2, B false)] [] ?_
 cases h
 exact pwp_ret rz
 refine srve 46 [(1, pf a0 0), (4, I a0.fKind), (20, B (a0.fKind == 2))] [] ?_
 refine pc h (fun h => ?_) (fun h => ?_)
 refine srv 4 46 [(1, pf a0 0), (25, B (a0.fN == 0))] [] ?_
 rcases fk (a0.fN == 0) with hc10 | hc10
 replace h := bT hc10 h
 rw [hc10]
 refine v 6 46 [(1, pf a0 0), (31, B (decide ((a0.fS.size : Int) ≤ 6)))] [] ?_
 rcases fk (decide ((a0.fS.size : Int) ≤ 6)) with hc9 | hc9
 replace h := bT hc9 h
 rw [hc9]
 refine v 2 46 [(31, B true), (33, S a0.fS)] [] ?_
 obtain ⟨v7, hv8, h⟩ := bindS h
 refine cF 34 (ok_impl_letters hv8) ?_
 refine ve 2 46 [(2, B v7)] [] ?_
 cases h
 exact pwp_ret rz
 replace h := bF hc9 h
 rw [hc9]
 refine ve 5 46 [(2, B false)] [] ?_
 cases h
 exact pwp_ret rz
 replace h := bF hc10 h
 rw [hc10]
 refine ve 11 46 [(2, B false)] [] ?_
 cases h
 exact pwp_ret rz
 refine srve 46 [(1, pf a0 0), (36, B (a0.fKind == 3))] [] ?_
 refine pc h (fun h => ?_) (fun h => ?_)
 refine srv 4 46 [(1, pf a0 0), (41, B (a0.fS.toList == (ByteArray.mk #[]).toList))] [] ?_
 rcases fk (a0.fS.toList == (ByteArray.mk #[]).toList) with hc14 | hc14
 replace h := bT hc14 h
 rw [hc14]
 refine v 2 46 [(41, B true), (43, I a0.fN)] [] ?_
 obtain ⟨v12, hv13, h⟩ := bindS h
 refine cF 44 (ok_impl_between hv13) ?_
 refine ve 2 46 [(2, B v12)] [] ?_
 cases h
 exact pwp_ret rz
 replace h := bF hc14 h
 rw [hc14]
 refine ve 5 46 [(2, B false)] [] ?_
 cases h
 exact pwp_ret rz
 refine pwp_skip ?_
 refine srve 46 [(2, B false)] [] ?_
 cases h
 exact pwp_ret rz
def impl_keyOk (a0 : Int) : Option Bool := (impl_between a0 0 4).bind fun v1 => some v1
theorem ok_impl_keyOk {a0 : Int} {y : Bool} (h : impl_keyOk a0 = some y) : OK Try.prog 49 [I a0] (B y) := by
 refine ow Try.func49 fun Γ hX => ?_
 unfold impl_keyOk at h
 refine srve 5 [(0, I a0)] [] ?_
 refine srv 1 5 [(3, I a0)] [] ?_
 obtain ⟨v1, hv2, h⟩ := bindS h
 refine cF 4 (ok_impl_between hv2) ?_
 refine ve 1 5 [(2, B v1)] [] ?_
 cases h
 exact pwp_ret rz
def slices_ContainsFunc_impl_Mark_impl_Mark (a0 : List T_impl_Mark) (a1 : T_impl_Mark → Option Bool) : Option Bool := (slices_IndexFunc_impl_Mark_impl_Mark a0 a1).bind fun v1 => some (decide (v1 ≥ 0))
theorem ok_slices_ContainsFunc_impl_Mark_impl_Mark {a0 : List T_impl_Mark} {g1 : FuncId} {c1 : List V} (hz1 : frzL c1 = true) {a1 : T_impl_Mark → Option Bool} (hp1 : ∀ x0 y, a1 x0 = some y → OK Try.prog g1 ([E x0] ++ c1) (B y)) {y : Bool} (h : slices_ContainsFunc_impl_Mark_impl_Mark a0 a1 = some y) : OK Try.prog 51 [A a0, .fn g1 c1] (B y) := by
 refine ow Try.func51 fun Γ hX => ?_
 unfold slices_ContainsFunc_impl_Mark_impl_Mark at h
 refine srve 9 [(0, A a0), (1, .fn g1 c1)] [] ?_
 refine srv 2 9 [(5, A a0), (6, .fn g1 c1)] [] ?_
 obtain ⟨v1, hv2, h⟩ := bindS h
 refine opsP_callF τ 7 (ok_slices_IndexFunc_impl_Mark_impl_Mark (hz1) (hp1) hv2) (FzTo.frz rfl) (by simp only [frzL, frz, hz1, Bool.and_true]) (by kernel_rfl) ?_
 refine ve 2 9 [(4, B (decide (v1 ≥ 0)))] [] ?_
 cases h
 exact pwp_ret rz
def impl_IndexOk_1 (a0 : T_impl_Mark) (b0 : T_impl_Mark) : Option Bool := bif (a0.fKey == b0.fKey) then (impl_Mark_end b0).bind fun v1 => bif (decide (a0.fBorn < v1)) then (impl_Mark_end a0).bind fun v3 => some (decide (b0.fBorn < v3)) else some false else some false
theorem ok_impl_IndexOk_1 {a0 : T_impl_Mark} {b0 : T_impl_Mark} {y : Bool} (h : impl_IndexOk_1 a0 b0 = some y) : OK Try.prog 52 [E a0, pf b0 0] (B y) := by
 refine ow Try.func52 fun Γ hX => ?_
 unfold impl_IndexOk_1 at h
 refine srve 23 [(1, pf b0 0), (2, pf a0 0)] [] ?_
 refine pwp_seq ?_
 refine ip 23 [(1, pf b0 0), (2, pf a0 0)] [] ?_
 refine pN 20 ?_
 refine qv [] trivial 6 23 [(9, B (a0.fKey == b0.fKey)), (1, pf b0 0), (2, pf a0 0)] [] ?_
 rcases fk (a0.fKey == b0.fKey) with hc6 | hc6
 replace h := bT hc6 h
 rw [hc6]
 refine qv [] trivial 3 23 [(12, E b0), (11, I a0.fBorn), (9, B true), (1, pf b0 0), (2, pf a0 0)] [] ?_
 obtain ⟨v1, hv2, h⟩ := bindS h
 refine qX (some 13) (I v1) 23 [(13, I v1), (11, I a0.fBorn), (9, B true), (1, pf b0 0), (2, pf a0 0)] [] (fun Γ' hΓ => CoreE.of_g (callV_sound (τ := τ) (by kernel_rfl) rfl (ok_impl_Mark_end hv2) (FzTo.frz rfl))) trivial ?_
 refine qv [] trivial 3 23 [(16, B (decide (a0.fBorn < v1))), (1, pf b0 0), (2, pf a0 0)] [] ?_
 rcases fk (decide (a0.fBorn < v1)) with hc5 | hc5
 replace h := bT hc5 h
 rw [hc5]
 refine qv [] trivial 3 23 [(19, E a0), (18, I b0.fBorn), (16, B true)] [] ?_
 obtain ⟨v3, hv4, h⟩ := bindS h
 refine qX (some 20) (I v3) 23 [(20, I v3), (18, I b0.fBorn), (16, B true)] [] (fun Γ' hΓ => CoreE.of_g (callV_sound (τ := τ) (by kernel_rfl) rfl (ok_impl_Mark_end hv4) (FzTo.frz rfl))) trivial ?_
 refine qvn [] trivial 3 23 [(3, B (decide (b0.fBorn < v3)))] [] ?_
 cases h
 exact pwp_ret rz
 replace h := bF hc5 h
 rw [hc5]
 refine qvn [] trivial 7 23 [(3, B false)] [] ?_
 cases h
 exact pwp_ret rz
 replace h := bF hc6 h
 rw [hc6]
 refine qvn [] trivial 14 23 [(3, B false)] [] ?_
 cases h
 exact pwp_ret rz
def laws_szMark (a0 : T_laws_Mark) (a1 : Int) : Option Int := (laws_szValue a0.fV a1).bind fun v1 => bif (decide (v1 < 0)) then some (-1) else some v1
theorem ok_laws_szMark {a0 : T_laws_Mark} {a1 : Int} {y : Int} (h : laws_szMark a0 a1 = some y) : OK Try.prog 62 [E a0, I a1] (I y) := by
 refine ow Try.func62 fun Γ hX => ?_
 unfold laws_szMark at h
 refine srve 12 [(1, I a1), (2, pf a0 0)] [] ?_
 refine srv 3 12 [(6, E a0.fV), (7, I a1)] [] ?_
 obtain ⟨v1, hv2, h⟩ := bindS h
 refine cF 8 (ok_laws_szValue hv2) ?_
 refine ve 1 12 [(1, I v1)] [] ?_
 refine pwp_seq ?_
 refine srve 12 [(1, I v1), (10, B (decide (v1 < 0)))] [] ?_
 refine pc h (fun h => ?_) (fun h => ?_)
 refine srve 12 [(4, I (-1))] [] ?_
 cases h
 exact pwp_ret rz
 refine pwp_skip ?_
 refine srve 12 [(4, I v1)] [] ?_
 cases h
 exact pwp_ret rz
def laws_toMark (a0 : T_laws_Mark) : Option T_impl_Mark := (laws_toValue a0.fV).bind fun v1 => some (T_impl_Mark.mk v1 a0.fKey a0.fBorn a0.fDied)
theorem ok_laws_toMark {a0 : T_laws_Mark} {y : T_impl_Mark} (h : laws_toMark a0 = some y) : OK Try.prog 67 [E a0] (E y) := by
 refine ow Try.func67 fun Γ hX => ?_
 unfold laws_toMark at h
 refine srveM [2, 3] 18 [(1, pf a0 0), (2, .ptr 0 0 0)] [some ⟨0, Enc.cells (T_impl_Mark.mk (T_impl_Value.mk 0 0 (ByteArray.mk #[])) 0 0 0)⟩] ?_
 refine srveM [2, 3] 18 [(1, pf a0 0), (2, .ptr 0 0 0), (3, .ptr 1 0 0)] [some ⟨0, Enc.cells (T_impl_Mark.mk (T_impl_Value.mk 0 0 (ByteArray.mk #[])) 0 0 0)⟩, some ⟨0, Enc.cells (T_impl_Mark.mk (T_impl_Value.mk 0 0 (ByteArray.mk #[])) 0 0 0)⟩] ?_
 refine srvM [2, 3] 2 18 [(1, pf a0 0), (2, .ptr 0 0 0), (3, .ptr 1 0 0), (5, E a0.fV)] [some ⟨0, Enc.cells (T_impl_Mark.mk (T_impl_Value.mk 0 0 (ByteArray.mk #[])) 0 0 0)⟩, some ⟨0, Enc.cells (T_impl_Mark.mk (T_impl_Value.mk 0 0 (ByteArray.mk #[])) 0 0 0)⟩] ?_
 obtain ⟨v1, hv2, h⟩ := bindS h
 refine cF 6 (ok_laws_toValue hv2) ?_
 refine veM [2, 3] 2 18 [(1, pf a0 0), (2, .ptr 0 0 0), (3, .ptr 1 0 0)] [some ⟨0, Enc.cells (T_impl_Mark.mk (T_impl_Value.mk 0 0 (ByteArray.mk #[])) 0 0 0)⟩, some ⟨0, Enc.cells (T_impl_Mark.mk v1 0 0 0)⟩] ?_
 refine srveM [2, 3] 18 [(1, pf a0 0), (2, .ptr 0 0 0), (3, .ptr 1 0 0)] [some ⟨0, Enc.cells (T_impl_Mark.mk (T_impl_Value.mk 0 0 (ByteArray.mk #[])) 0 0 0)⟩, some ⟨0, Enc.cells (T_impl_Mark.mk v1 a0.fKey 0 0)⟩] ?_
 refine srveM [2, 3] 18 [(1, pf a0 0), (2, .ptr 0 0 0), (3, .ptr 1 0 0)] [some ⟨0, Enc.cells (T_impl_Mark.mk (T_impl_Value.mk 0 0 (ByteArray.mk #[])) 0 0 0)⟩, some ⟨0, Enc.cells (T_impl_Mark.mk v1 a0.fKey a0.fBorn 0)⟩] ?_
 refine srveM [2, 3] 18 [(2, .ptr 0 0 0), (3, .ptr 1 0 0)] [some ⟨0, Enc.cells (T_impl_Mark.mk (T_impl_Value.mk 0 0 (ByteArray.mk #[])) 0 0 0)⟩, some ⟨0, Enc.cells (T_impl_Mark.mk v1 a0.fKey a0.fBorn a0.fDied)⟩] ?_
 refine srveM [2, 3] 18 [(2, .ptr 0 0 0)] [some ⟨0, Enc.cells (T_impl_Mark.mk v1 a0.fKey a0.fBorn a0.fDied)⟩, some ⟨0, Enc.cells (T_impl_Mark.mk v1 a0.fKey a0.fBorn a0.fDied)⟩] ?_
 cases h
 exact pwp_ret rz
def laws_eqWrite (a0 : T_impl_Write) (a1 : T_impl_Write) : Option Bool := bif (!(a0.fKey == a1.fKey)) then some false else (laws_eqValueS a0.fRow a1.fRow).bind fun v2 => bif (!v2) then some false else bif (!(a0.fGone == a1.fGone)) then some false else some true
theorem ok_laws_eqWrite {a0 : T_impl_Write} {a1 : T_impl_Write} {y : Bool} (h : laws_eqWrite a0 a1 = some y) : OK Try.prog 72 [E a0, E a1] (B y) := by
 refine ow Try.func72 fun Γ hX => ?_
 unfold laws_eqWrite at h
 refine srve 21 [(2, pf a0 0), (3, pf a1 0)] [] ?_
 refine pwp_seq ?_
 refine srve 21 [(2, pf a0 0), (3, pf a1 0), (9, B (!(a0.fKey == a1.fKey)))] [] ?_
 refine pc h (fun h => ?_) (fun h => ?_)
 refine srve 21 [(4, B false)] [] ?_
 cases h
 exact pwp_ret rz
 refine pwp_skip ?_
 refine pwp_seq ?_
 refine srv 4 21 [(2, pf a0 0), (3, pf a1 0), (11, A a0.fRow), (13, A a1.fRow)] [] ?_
 obtain ⟨v2, hv3, h⟩ := bindS h
 refine cF 14 (ok_laws_eqValueS hv3) ?_
 refine ve 1 21 [(2, pf a0 0), (3, pf a1 0), (15, B (!v2))] [] ?_
 refine pc h (fun h => ?_) (fun h => ?_)
 refine srve 21 [(4, B false)] [] ?_
 cases h
 exact pwp_ret rz
 refine pwp_skip ?_
 refine pwp_seq ?_
 refine srve 21 [(20, B (!(a0.fGone == a1.fGone)))] [] ?_
 refine pc h (fun h => ?_) (fun h => ?_)
 refine srve 21 [(4, B false)] [] ?_
 cases h
 exact pwp_ret rz
 refine pwp_skip ?_
 refine srve 21 [(4, B true)] [] ?_
 cases h
 exact pwp_ret rz
def laws_szValueS_l0 (a0 : List T_laws_Value) : Nat → Int → Int → Option Int
 | 0, _, _ => none
 | f4 + 1, x2, x3 => bif (decide (x3 < (a0.length : Int))) then (getI a0 x3).bind fun v7 => (laws_szValue v7 x2).bind fun v9 => bif (decide (v9 < 0)) then some (-1) else (laws_szValueS_l0 a0 f4) v9 (w64 (x3 + 1)) else some x2
def laws_szValueS (a0 : List T_laws_Value) (a1 : Int) : Option Int := bif (decide ((w64 (a1 - (a0.length : Int))) < 0)) then some (-1) else laws_szValueS_l0 a0 FUEL (w64 (a1 - (a0.length : Int))) 0
theorem ok_laws_szValueS {a0 : List T_laws_Value} {a1 : Int} {y : Int} (h : laws_szValueS a0 a1 = some y) : OK Try.prog 73 [A a0, I a1] (I y) := by
 refine ow Try.func73 fun Γ hX => ?_
 unfold laws_szValueS at h
 refine srve 27 [(0, A a0), (1, I a1)] [] ?_
 refine srve 27 [(0, A a0), (1, I (w64 (a1 - (a0.length : Int))))] [] ?_
 refine pwp_seq ?_
 refine srve 27 [(0, A a0), (1, I (w64 (a1 - (a0.length : Int)))), (11, B (decide ((w64 (a1 - (a0.length : Int))) < 0)))] [] ?_
 refine pc h (fun h => ?_) (fun h => ?_)
 refine srve 27 [(4, I (-1))] [] ?_
 cases h
 exact pwp_ret rz
 refine pwp_skip ?_
 refine pwp_seq ?_
 refine srve 27 [(0, A a0), (1, I (w64 (a1 - (a0.length : Int)))), (5, I 0)] [] ?_
 refine pwp_block ?_
 refine pwp_loop (ι := Nat × Int × Int) (fun (f4, x2, x3) => (⟨27, [(0, A a0), (1, I x2), (5, I x3)], []⟩ : St)) (fun (f4, x2, x3) => laws_szValueS_l0 a0 f4 x2 x3 = some y) Prod.fst (FUEL, (w64 (a1 - (a0.length : Int))), 0) h (it [0, 1, 5]) ?_
 rintro ⟨f4, x2, x3⟩ h
 dsimp only at h ⊢
 rcases f4 with _ | f4
 cases h
 rw [laws_szValueS_l0] at h
 refine pwp_seq ?_
 refine srve 27 [(0, A a0), (1, I x2), (5, I x3), (15, B (decide (x3 < (a0.length : Int))))] [] ?_
 refine pc h (fun h => ?_) (fun h => ?_)
 refine pwp_skip ?_
 refine pwp_seq ?_
 refine pwp_block ?_
 refine srv 2 27 [(0, A a0), (1, I x2), (5, I x3), (18, A a0), (19, I x3)] [] ?_
 obtain ⟨v7, hv8, h⟩ := bindS h
 refine opsP_idx τ_ok 20 hv8 (by kernel_rfl) ?_
 refine v 2 27 [(0, A a0), (5, I x3), (21, E v7), (22, I x2)] [] ?_
 obtain ⟨v9, hv10, h⟩ := bindS h
 refine cF 23 (ok_laws_szValue hv10) ?_
 refine ve 1 27 [(0, A a0), (1, I v9), (5, I x3)] [] ?_
 refine srve 27 [(0, A a0), (1, I v9), (5, I x3), (25, B (decide (v9 < 0)))] [] ?_
 refine pc h (fun h => ?_) (fun h => ?_)
 refine srve 27 [(4, I (-1))] [] ?_
 cases h
 exact pwp_ret rz
 refine pwp_skip ?_
 refine rve 27 [(0, A a0), (1, I v9), (5, I (w64 (x3 + 1)))] [] ?_
 exact ⟨(f4, v9, (w64 (x3 + 1))), h, Nat.lt_succ_self _, it [0, 1, 5]⟩
 refine pwp_exit ?_
 refine srve 27 [(4, I x2)] [] ?_
 cases h
 exact pwp_ret rz
def laws_toValueS_l0 (a0 : List T_laws_Value) : Nat → Int → (List T_impl_Value) → Option (List T_impl_Value)
 | 0, _, _ => none
 | f6 + 1, x4, x5 => bif (decide (x4 < (a0.length : Int))) then (getI a0 x4).bind fun v9 => (laws_toValue v9).bind fun v11 => (getI x5 x4).bind fun v13 => (laws_toValueS_l0 a0 f6) (w64 (x4 + 1)) (x5.set x4.toNat v11) else some x5
def laws_toValueS (a0 : List T_laws_Value) : Option (List T_impl_Value) := (mkI (a0.length : Int) (T_impl_Value.mk 0 0 (ByteArray.mk #[]))).bind fun v1 => laws_toValueS_l0 a0 FUEL 0 v1
theorem ok_laws_toValueS {a0 : List T_laws_Value} {y : List T_impl_Value} (h : laws_toValueS a0 = some y) : OK Try.prog 76 [A a0] (O y) := by
 refine ow Try.func76 fun Γ hX => ?_
 unfold laws_toValueS at h
 refine srve 23 [(0, A a0)] [] ?_
 refine srv 2 23 [(0, A a0), (6, I (a0.length : Int))] [] ?_
 obtain ⟨v1, hv2, h⟩ := bindS h
 refine opsP_mk τ_ok 7 0 _ hv2 (by kernel_rfl) (by kernel_rfl) ?_
 refine ve 1 23 [(0, A a0), (3, rf 0 0 3 v1)] [sl 0 v1] ?_
 refine pwp_seq ?_
 refine srve 23 [(0, A a0), (3, rf 0 0 3 v1), (4, I 0)] [sl 0 v1] ?_
 refine pwp_block ?_
 refine pwp_loop (ι := Nat × Int × (List T_impl_Value)) (fun (f6, x4, x5) => (⟨23, [(0, A a0), (3, rf 0 0 3 x5), (4, I x4)], [sl 0 x5]⟩ : St)) (fun (f6, x4, x5) => laws_toValueS_l0 a0 f6 x4 x5 = some y) Prod.fst (FUEL, 0, v1) h (it [0, 3, 4]) ?_
 rintro ⟨f6, x4, x5⟩ h
 dsimp only at h ⊢
 rcases f6 with _ | f6
 cases h
 rw [laws_toValueS_l0] at h
 refine pwp_seq ?_
 refine srve 23 [(0, A a0), (3, rf 0 0 3 x5), (4, I x4), (11, B (decide (x4 < (a0.length : Int))))] [sl 0 x5] ?_
 refine pc h (fun h => ?_) (fun h => ?_)
 refine pwp_skip ?_
 refine pwp_seq ?_
 refine pwp_block ?_
 refine rv 4 23 [(0, A a0), (3, rf 0 0 3 x5), (4, I x4), (14, rf 0 0 3 x5), (15, I x4), (16, A a0), (17, I x4)] [sl 0 x5] ?_
 obtain ⟨v9, hv10, h⟩ := bindS h
 refine opsP_idx τ_ok 18 hv10 (by kernel_rfl) ?_
 refine v 1 23 [(0, A a0), (3, rf 0 0 3 x5), (4, I x4), (14, rf 0 0 3 x5), (15, I x4), (19, E v9)] [sl 0 x5] ?_
 obtain ⟨v11, hv12, h⟩ := bindS h
 refine cF 20 (ok_laws_toValue hv12) ?_
 obtain ⟨v13, hv14, h⟩ := bindS h
 refine opsP_idr τ_ok 21 0 0 x5.length hv14 rfl (by kernel_rfl) ?_
 refine v 0 23 [(0, A a0), (3, rf 0 0 3 x5), (4, I x4), (20, E v11), (21, .ptr 0 0 (x4.toNat * 3))] [sl 0 x5] ?_
 refine opsP_ste (vs := [I v11.fKind, I v11.fN, S v11.fS]) τ_ok 47 0 0 0 v11 hv14 (by kernel_rfl) (by kernel_rfl) (by kernel_rfl) (renC trivial (renC (ren_ref (List.length_set ..).symm) (renC trivial (renC trivial (renC trivial renC0))))) ?_
 refine ve 0 23 [(0, A a0), (3, .ref 0 0 0 3 (x5.set x4.toNat v11).length false), (4, I x4)] [some ⟨0, eL (x5.set x4.toNat v11)⟩] ?_
 refine rve 23 [(0, A a0), (3, .ref 0 0 0 3 (x5.set x4.toNat v11).length false), (4, I (w64 (x4 + 1)))] [some ⟨0, eL (x5.set x4.toNat v11)⟩] ?_
 exact ⟨(f6, (w64 (x4 + 1)), (x5.set x4.toNat v11)), h, Nat.lt_succ_self _, it [0, 3, 4]⟩
 refine pwp_exit ?_
 refine srve 23 [(2, rf 0 0 3 x5)] [sl 0 x5] ?_
 have h := si h
 subst h
 exact pwp_ret (rt (rf 0 0 3 x5) (OutP.list (v := 0) (by kernel_rfl)))
def cmp_Compare_int (a0 : Int) (a1 : Int) : Option Int := (cmp_isNaN_int a0).bind fun v1 => (cmp_isNaN_int a1).bind fun v3 => bif v1 then bif v3 then some 0 else some (-1) else bif v3 then some 1 else bif (decide (a0 < a1)) then some (-1) else bif (decide (a0 > a1)) then some 1 else some 0
theorem ok_cmp_Compare_int {a0 : Int} {a1 : Int} {y : Int} (h : cmp_Compare_int a0 a1 = some y) : OK Try.prog 81 [I a0, I a1] (I y) := by
 refine ow Try.func81 fun Γ hX => ?_
 unfold cmp_Compare_int at h
 refine srve 20 [(0, I a0), (1, I a1)] [] ?_
 refine srv 1 20 [(0, I a0), (1, I a1), (7, I a0)] [] ?_
 obtain ⟨v1, hv2, h⟩ := bindS h
 refine cF 8 (ok_cmp_isNaN_int hv2) ?_
 refine ve 1 20 [(0, I a0), (1, I a1), (5, B v1)] [] ?_
 refine srv 1 20 [(0, I a0), (1, I a1), (5, B v1), (9, I a1)] [] ?_
 obtain ⟨v3, hv4, h⟩ := bindS h
 refine cF 10 (ok_cmp_isNaN_int hv4) ?_
 refine ve 1 20 [(0, I a0), (1, I a1), (5, B v1), (6, B v3)] [] ?_
 refine pwp_seq ?_
 refine srve 20 [(0, I a0), (1, I a1), (6, B v3), (11, B v1)] [] ?_
 refine pc h (fun h => ?_) (fun h => ?_)
 refine pwp_seq ?_
 refine srve 20 [(12, B v3)] [] ?_
 refine pc h (fun h => ?_) (fun h => ?_)
 refine srve 20 [(4, I 0)] [] ?_
 cases h
 exact pwp_ret rz
 refine pwp_skip ?_
 refine srve 20 [(4, I (-1))] [] ?_
 cases h
 exact pwp_ret rz
 refine pwp_skip ?_
 refine pwp_seq ?_
 refine srve 20 [(0, I a0), (1, I a1), (13, B v3)] [] ?_
 refine pc h (fun h => ?_) (fun h => ?_)
 refine srve 20 [(4, I 1)] [] ?_
 cases h
 exact pwp_ret rz
 refine pwp_skip ?_
 refine pwp_seq ?_
 refine srve 20 [(0, I a0), (1, I a1), (16, B (decide (a0 < a1)))] [] ?_
 refine pc h (fun h => ?_) (fun h => ?_)
 refine srve 20 [(4, I (-1))] [] ?_
 cases h
 exact pwp_ret rz
 refine pwp_skip ?_
 refine pwp_seq ?_
 refine srve 20 [(19, B (decide (a0 > a1)))] [] ?_
 refine pc h (fun h => ?_) (fun h => ?_)
 refine srve 20 [(4, I 1)] [] ?_
 cases h
 exact pwp_ret rz
 refine pwp_skip ?_
 refine srve 20 [(4, I 0)] [] ?_
 cases h
 exact pwp_ret rz
def slices_ContainsFunc_impl_Value_impl_Value (a0 : List T_impl_Value) (a1 : T_impl_Value → Option Bool) : Option Bool := (slices_IndexFunc_impl_Value_impl_Value a0 a1).bind fun v1 => some (decide (v1 ≥ 0))
theorem ok_slices_ContainsFunc_impl_Value_impl_Value {a0 : List T_impl_Value} {g1 : FuncId} {c1 : List V} (hz1 : frzL c1 = true) {a1 : T_impl_Value → Option Bool} (hp1 : ∀ x0 y, a1 x0 = some y → OK Try.prog g1 ([E x0] ++ c1) (B y)) {y : Bool} (h : slices_ContainsFunc_impl_Value_impl_Value a0 a1 = some y) : OK Try.prog 90 [A a0, .fn g1 c1] (B y) := by
 refine ow Try.func90 fun Γ hX => ?_
 unfold slices_ContainsFunc_impl_Value_impl_Value at h
 refine srve 9 [(0, A a0), (1, .fn g1 c1)] [] ?_
 refine srv 2 9 [(5, A a0), (6, .fn g1 c1)] [] ?_
 obtain ⟨v1, hv2, h⟩ := bindS h
 refine opsP_callF τ 7 (ok_slices_IndexFunc_impl_Value_impl_Value (hz1) (hp1) hv2) (FzTo.frz rfl) (by simp only [frzL, frz, hz1, Bool.and_true]) (by kernel_rfl) ?_
 refine ve 2 9 [(4, B (decide (v1 ≥ 0)))] [] ?_
 cases h
 exact pwp_ret rz
def impl_RowOk_1 (a0 : T_impl_Value) : Option Bool := (impl_Value_ok a0).bind fun v1 => some (!v1)
theorem ok_impl_RowOk_1 {a0 : T_impl_Value} {y : Bool} (h : impl_RowOk_1 a0 = some y) : OK Try.prog 91 [E a0] (B y) := by
 refine ow Try.func91 fun Γ hX => ?_
 unfold impl_RowOk_1 at h
 refine srve 6 [(1, pf a0 0)] [] ?_
 refine srv 1 6 [(3, E a0)] [] ?_
 obtain ⟨v1, hv2, h⟩ := bindS h
 refine cF 4 (ok_impl_Value_ok hv2) ?_
 refine ve 2 6 [(2, B (!v1))] [] ?_
 cases h
 exact pwp_ret rz
def spec_ValueOk (a0 : T_impl_Value) : Option Bool := bif (a0.fKind == 0) then bif (a0.fN == 0) then some (a0.fS.toList == (ByteArray.mk #[]).toList) else some false else bif (a0.fKind == 1) then (spec_l1In a0.fN (-9999) 9999).bind fun v4 => bif v4 then some (a0.fS.toList == (ByteArray.mk #[]).toList) else some false else bif (a0.fKind == 2) then bif (a0.fN == 0) then (spec_l1Text a0.fS).bind fun v8 => some v8 else some false else bif (a0.fKind == 3) then (spec_l1In a0.fN 0 1).bind fun v12 => bif v12 then some (a0.fS.toList == (ByteArray.mk #[]).toList) else some false else some false
theorem ok_spec_ValueOk {a0 : T_impl_Value} {y : Bool} (h : spec_ValueOk a0 = some y) : OK Try.prog 97 [E a0] (B y) := by
 refine ow Try.func97 fun Γ hX => ?_
 unfold spec_ValueOk at h
 refine srve 45 [(1, pf a0 0)] [] ?_
 refine pwp_seq ?_
 refine srve 45 [(1, pf a0 0), (4, I a0.fKind)] [] ?_
 refine pwp_block ?_
 refine srve 45 [(1, pf a0 0), (4, I a0.fKind), (5, B (a0.fKind == 0))] [] ?_
 refine pc h (fun h => ?_) (fun h => ?_)
 refine srv 4 45 [(1, pf a0 0), (10, B (a0.fN == 0))] [] ?_
 rcases fk (a0.fN == 0) with hc2 | hc2
 replace h := bT hc2 h
 rw [hc2]
 refine ve 5 45 [(2, B (a0.fS.toList == (ByteArray.mk #[]).toList))] [] ?_
 cases h
 exact pwp_ret rz
 replace h := bF hc2 h
 rw [hc2]
 refine ve 5 45 [(2, B false)] [] ?_
 cases h
 exact pwp_ret rz
 refine srve 45 [(1, pf a0 0), (4, I a0.fKind), (15, B (a0.fKind == 1))] [] ?_
 refine pc h (fun h => ?_) (fun h => ?_)
 refine srv 2 45 [(1, pf a0 0), (18, I a0.fN)] [] ?_
 obtain ⟨v4, hv5, h⟩ := bindS h
 refine cF 19 (ok_spec_l1In hv5) ?_
 refine v 1 45 [(1, pf a0 0), (20, B v4)] [] ?_
 rcases Bool.eq_false_or_eq_true v4 with hc6 | hc6
 replace h := bT hc6 h
 rw [hc6]
 refine ve 5 45 [(2, B (a0.fS.toList == (ByteArray.mk #[]).toList))] [] ?_
 cases h
 exact pwp_ret rz
 replace h := bF hc6 h
 rw [hc6]
 refine ve 5 45 [(2, B false)] [] ?_
 cases h
 exact pwp_ret rz
 refine srve 45 [(1, pf a0 0), (4, I a0.fKind), (25, B (a0.fKind == 2))] [] ?_
 refine pc h (fun h => ?_) (fun h => ?_)
 refine srv 4 45 [(1, pf a0 0), (30, B (a0.fN == 0))] [] ?_
 rcases fk (a0.fN == 0) with hc10 | hc10
 replace h := bT hc10 h
 rw [hc10]
 refine v 2 45 [(30, B true), (32, S a0.fS)] [] ?_
 obtain ⟨v8, hv9, h⟩ := bindS h
 refine cF 33 (ok_spec_l1Text hv9) ?_
 refine ve 2 45 [(2, B v8)] [] ?_
 cases h
 exact pwp_ret rz
 replace h := bF hc10 h
 rw [hc10]
 refine ve 5 45 [(2, B false)] [] ?_
 cases h
 exact pwp_ret rz
 refine srve 45 [(1, pf a0 0), (35, B (a0.fKind == 3))] [] ?_
 refine pc h (fun h => ?_) (fun h => ?_)
 refine srv 2 45 [(1, pf a0 0), (38, I a0.fN)] [] ?_
 obtain ⟨v12, hv13, h⟩ := bindS h
 refine cF 39 (ok_spec_l1In hv13) ?_
 refine v 1 45 [(1, pf a0 0), (40, B v12)] [] ?_
 rcases Bool.eq_false_or_eq_true v12 with hc14 | hc14
 replace h := bT hc14 h
 rw [hc14]
 refine ve 5 45 [(2, B (a0.fS.toList == (ByteArray.mk #[]).toList))] [] ?_
 cases h
 exact pwp_ret rz
 replace h := bF hc14 h
 rw [hc14]
 refine ve 5 45 [(2, B false)] [] ?_
 cases h
 exact pwp_ret rz
 refine pwp_skip ?_
 refine srve 45 [(2, B false)] [] ?_
 cases h
 exact pwp_ret rz
def spec_RowOk_l0 (a0 : List T_impl_Value) : Nat → Int → Option Bool
 | 0, _ => none
 | f2 + 1, x1 => bif (decide (x1 < (a0.length : Int))) then (getI a0 x1).bind fun v5 => (spec_ValueOk v5).bind fun v7 => bif (!v7) then some false else (spec_RowOk_l0 a0 f2) (w64 (x1 + 1)) else some (decide ((a0.length : Int) ≤ 4))
def spec_RowOk (a0 : List T_impl_Value) : Option Bool := spec_RowOk_l0 a0 FUEL 0
theorem ok_spec_RowOk {a0 : List T_impl_Value} {y : Bool} (h : spec_RowOk a0 = some y) : OK Try.prog 98 [A a0] (B y) := by
 refine ow Try.func98 fun Γ hX => ?_
 unfold spec_RowOk at h
 refine srve 19 [(0, A a0)] [] ?_
 refine pwp_seq ?_
 refine srve 19 [(0, A a0), (3, I 0)] [] ?_
 refine pwp_block ?_
 refine pwp_loop (ι := Nat × Int) (fun (f2, x1) => (⟨19, [(0, A a0), (3, I x1)], []⟩ : St)) (fun (f2, x1) => spec_RowOk_l0 a0 f2 x1 = some y) Prod.fst (FUEL, 0) h (it [0, 3]) ?_
 rintro ⟨f2, x1⟩ h
 dsimp only at h ⊢
 rcases f2 with _ | f2
 cases h
 rw [spec_RowOk_l0] at h
 refine pwp_seq ?_
 refine srve 19 [(0, A a0), (3, I x1), (7, B (decide (x1 < (a0.length : Int))))] [] ?_
 refine pc h (fun h => ?_) (fun h => ?_)
 refine pwp_skip ?_
 refine pwp_seq ?_
 refine pwp_block ?_
 refine srv 2 19 [(0, A a0), (3, I x1), (10, A a0), (11, I x1)] [] ?_
 obtain ⟨v5, hv6, h⟩ := bindS h
 refine opsP_idx τ_ok 12 hv6 (by kernel_rfl) ?_
 refine v 1 19 [(0, A a0), (3, I x1), (13, E v5)] [] ?_
 obtain ⟨v7, hv8, h⟩ := bindS h
 refine cF 14 (ok_spec_ValueOk hv8) ?_
 refine ve 1 19 [(0, A a0), (3, I x1), (15, B (!v7))] [] ?_
 refine pc h (fun h => ?_) (fun h => ?_)
 refine srve 19 [(2, B false)] [] ?_
 cases h
 exact pwp_ret rz
 refine pwp_skip ?_
 refine rve 19 [(0, A a0), (3, I (w64 (x1 + 1)))] [] ?_
 exact ⟨(f2, (w64 (x1 + 1))), h, Nat.lt_succ_self _, it [0, 3]⟩
 refine pwp_exit ?_
 refine srve 19 [(2, B (decide ((a0.length : Int) ≤ 4)))] [] ?_
 cases h
 exact pwp_ret rz
def spec_ValueOrder_j0 (a0 : T_impl_Value) (a1 : T_impl_Value) (x1 : Bool) : Option Int := bif x1 then some 0 else bif (!(a0.fKind == a1.fKind)) then (spec_l1Less a1.fKind a0.fKind).bind fun v4 => some (w64 ((w64 (2 * v4)) - 1)) else bif (!(a0.fN == a1.fN)) then (spec_l1Less a1.fN a0.fN).bind fun v7 => some (w64 ((w64 (2 * v7)) - 1)) else (spec_l1Cmp a0.fS a1.fS).bind fun v9 => some v9
def spec_ValueOrder (a0 : T_impl_Value) (a1 : T_impl_Value) : Option Int := (spec_ValueOk a0).bind fun v11 => bif (!v11) then spec_ValueOrder_j0 a0 a1 true else (spec_ValueOk a1).bind fun v13 => spec_ValueOrder_j0 a0 a1 (!v13)
theorem ok_spec_ValueOrder {a0 : T_impl_Value} {a1 : T_impl_Value} {y : Int} (h : spec_ValueOrder a0 a1 = some y) : OK Try.prog 100 [E a0, E a1] (I y) := by
 refine ow Try.func100 fun Γ hX => ?_
 unfold spec_ValueOrder at h
 refine srve 44 [(2, pf a0 0), (3, pf a1 0)] [] ?_
 refine pwp_seq ?_
 refine pwp_seq ?_
 refine pwp_join (σ := Bool) (fun x1 => (⟨44, [(2, pf a0 0), (3, pf a1 0), (12, B x1)], []⟩ : St)) (fun x1 => spec_ValueOrder_j0 a0 a1 x1 = some y) ?_ ?_
 refine rv 1 44 [(2, pf a0 0), (3, pf a1 0), (5, E a0)] [] ?_
 obtain ⟨v11, hv12, h⟩ := bindS h
 refine cF 6 (ok_spec_ValueOk hv12) ?_
 refine v 2 44 [(2, pf a0 0), (3, pf a1 0), (8, B (!v11))] [] ?_
 rcases fk (!v11) with hc15 | hc15
 replace h := bT hc15 h
 rw [hc15]
 refine ve 4 44 [(2, pf a0 0), (3, pf a1 0), (12, B true)] [] ?_
 exact ⟨true, h, it [2, 3, 12]⟩
 replace h := bF hc15 h
 rw [hc15]
 refine v 1 44 [(2, pf a0 0), (3, pf a1 0), (8, B false), (9, E a1)] [] ?_
 obtain ⟨v13, hv14, h⟩ := bindS h
 refine cF 10 (ok_spec_ValueOk hv14) ?_
 refine ve 2 44 [(2, pf a0 0), (3, pf a1 0), (12, B (!v13))] [] ?_
 exact ⟨(!v13), h, it [2, 3, 12]⟩
 rintro x1 h
 unfold spec_ValueOrder_j0 at h
 refine pc h (fun h => ?_) (fun h => ?_)
 refine srve 44 [(4, I 0)] [] ?_
 cases h
 exact pwp_ret rz
 refine pwp_skip ?_
 refine pwp_seq ?_
 refine pwp_block ?_
 refine srve 44 [(2, pf a0 0), (3, pf a1 0), (13, B (!(a0.fKind == a1.fKind)))] [] ?_
 refine pc h (fun h => ?_) (fun h => ?_)
 refine srv 4 44 [(20, I a1.fKind), (22, I a0.fKind)] [] ?_
 obtain ⟨v4, hv5, h⟩ := bindS h
 refine cF 23 (ok_spec_l1Less hv5) ?_
 refine ve 3 44 [(4, I (w64 ((w64 (2 * v4)) - 1)))] [] ?_
 cases h
 exact pwp_ret rz
 refine srve 44 [(2, pf a0 0), (3, pf a1 0), (26, B (!(a0.fN == a1.fN)))] [] ?_
 refine pc h (fun h => ?_) (fun h => ?_)
 refine srv 4 44 [(33, I a1.fN), (35, I a0.fN)] [] ?_
 obtain ⟨v7, hv8, h⟩ := bindS h
 refine cF 36 (ok_spec_l1Less hv8) ?_
 refine ve 3 44 [(4, I (w64 ((w64 (2 * v7)) - 1)))] [] ?_
 cases h
 exact pwp_ret rz
 refine pwp_skip ?_
 refine srv 4 44 [(40, S a0.fS), (42, S a1.fS)] [] ?_
 obtain ⟨v9, hv10, h⟩ := bindS h
 refine cF 43 (ok_spec_l1Cmp hv10) ?_
 refine ve 1 44 [(4, I v9)] [] ?_
 cases h
 exact pwp_ret rz
def cmp_Compare_string (a0 : ByteArray) (a1 : ByteArray) : Option Int := (cmp_isNaN_string a0).bind fun v1 => (cmp_isNaN_string a1).bind fun v3 => bif v1 then bif v3 then some 0 else some (-1) else bif v3 then some 1 else bif (Op.bytesLess a0.toList a1.toList) then some (-1) else bif (!Op.bytesLess a0.toList a1.toList && !(a0.toList == a1.toList)) then some 1 else some 0
theorem ok_cmp_Compare_string {a0 : ByteArray} {a1 : ByteArray} {y : Int} (h : cmp_Compare_string a0 a1 = some y) : OK Try.prog 111 [S a0, S a1] (I y) := by
 refine ow Try.func111 fun Γ hX => ?_
 unfold cmp_Compare_string at h
 refine srve 20 [(0, S a0), (1, S a1)] [] ?_
 refine srv 1 20 [(0, S a0), (1, S a1), (7, S a0)] [] ?_
 obtain ⟨v1, hv2, h⟩ := bindS h
 refine cF 8 (ok_cmp_isNaN_string hv2) ?_
 refine ve 1 20 [(0, S a0), (1, S a1), (5, B v1)] [] ?_
 refine srv 1 20 [(0, S a0), (1, S a1), (5, B v1), (9, S a1)] [] ?_
 obtain ⟨v3, hv4, h⟩ := bindS h
 refine cF 10 (ok_cmp_isNaN_string hv4) ?_
 refine ve 1 20 [(0, S a0), (1, S a1), (5, B v1), (6, B v3)] [] ?_
 refine pwp_seq ?_
 refine srve 20 [(0, S a0), (1, S a1), (6, B v3), (11, B v1)] [] ?_
 refine pc h (fun h => ?_) (fun h => ?_)
 refine pwp_seq ?_
 refine srve 20 [(12, B v3)] [] ?_
 refine pc h (fun h => ?_) (fun h => ?_)
 refine srve 20 [(4, I 0)] [] ?_
 cases h
 exact pwp_ret rz
 refine pwp_skip ?_
 refine srve 20 [(4, I (-1))] [] ?_
 cases h
 exact pwp_ret rz
 refine pwp_skip ?_
 refine pwp_seq ?_
 refine srve 20 [(0, S a0), (1, S a1), (13, B v3)] [] ?_
 refine pc h (fun h => ?_) (fun h => ?_)
 refine srve 20 [(4, I 1)] [] ?_
 cases h
 exact pwp_ret rz
 refine pwp_skip ?_
 refine pwp_seq ?_
 refine srve 20 [(0, S a0), (1, S a1), (16, B (Op.bytesLess a0.toList a1.toList))] [] ?_
 refine pc h (fun h => ?_) (fun h => ?_)
 refine srve 20 [(4, I (-1))] [] ?_
 cases h
 exact pwp_ret rz
 refine pwp_skip ?_
 refine pwp_seq ?_
 refine srve 20 [(19, B (!Op.bytesLess a0.toList a1.toList && !(a0.toList == a1.toList)))] [] ?_
 refine pc h (fun h => ?_) (fun h => ?_)
 refine srve 20 [(4, I 1)] [] ?_
 cases h
 exact pwp_ret rz
 refine pwp_skip ?_
 refine srve 20 [(4, I 0)] [] ?_
 cases h
 exact pwp_ret rz
def laws_eqMarkS_l0 (a0 : List T_impl_Mark) (a1 : List T_impl_Mark) : Nat → Int → Option Bool
 | 0, _ => none
 | f3 + 1, x2 => bif (decide (x2 < (a0.length : Int))) then (getI a0 x2).bind fun v6 => (getI a1 x2).bind fun v8 => (laws_eqMark v6 v8).bind fun v10 => bif (!v10) then some false else (laws_eqMarkS_l0 a0 a1 f3) (w64 (x2 + 1)) else some true
def laws_eqMarkS (a0 : List T_impl_Mark) (a1 : List T_impl_Mark) : Option Bool := bif (!((a0.length : Int) == (a1.length : Int))) then some false else laws_eqMarkS_l0 a0 a1 FUEL 0
theorem ok_laws_eqMarkS {a0 : List T_impl_Mark} {a1 : List T_impl_Mark} {y : Bool} (h : laws_eqMarkS a0 a1 = some y) : OK Try.prog 11 [A a0, A a1] (B y) := by
 refine ow Try.func11 fun Γ hX => ?_
 unfold laws_eqMarkS at h
 refine srve 27 [(0, A a0), (1, A a1)] [] ?_
 refine pwp_seq ?_
 refine srve 27 [(0, A a0), (1, A a1), (10, B (!((a0.length : Int) == (a1.length : Int))))] [] ?_
 refine pc h (fun h => ?_) (fun h => ?_)
 refine srve 27 [(4, B false)] [] ?_
 cases h
 exact pwp_ret rz
 refine pwp_skip ?_
 refine pwp_seq ?_
 refine srve 27 [(0, A a0), (1, A a1), (5, I 0)] [] ?_
 refine pwp_block ?_
 refine pwp_loop (ι := Nat × Int) (fun (f3, x2) => (⟨27, [(0, A a0), (1, A a1), (5, I x2)], []⟩ : St)) (fun (f3, x2) => laws_eqMarkS_l0 a0 a1 f3 x2 = some y) Prod.fst (FUEL, 0) h (it [0, 1, 5]) ?_
 rintro ⟨f3, x2⟩ h
 dsimp only at h ⊢
 rcases f3 with _ | f3
 cases h
 rw [laws_eqMarkS_l0] at h
 refine pwp_seq ?_
 refine srve 27 [(0, A a0), (1, A a1), (5, I x2), (14, B (decide (x2 < (a0.length : Int))))] [] ?_
 refine pc h (fun h => ?_) (fun h => ?_)
 refine pwp_skip ?_
 refine pwp_seq ?_
 refine pwp_block ?_
 refine pwp_seq ?_
 refine ip 27 [(0, A a0), (1, A a1), (5, I x2)] [] ?_
 refine pN 10 ?_
 refine qv [] trivial 2 27 [(18, I x2), (17, A a0), (0, A a0), (1, A a1), (5, I x2)] [] ?_
 obtain ⟨v6, hv7, h⟩ := bindS h
 refine qX (some 19) (pf v6 0) 27 [(19, pf v6 0), (0, A a0), (1, A a1), (5, I x2)] [] (fun Γ' hΓ => CoreE.of_y (idxV_sound τ_ok (by kernel_rfl) hv7)) trivial ?_
 refine qv [] trivial 3 27 [(22, I x2), (21, A a1), (20, E v6), (0, A a0), (1, A a1), (5, I x2)] [] ?_
 obtain ⟨v8, hv9, h⟩ := bindS h
 refine qX (some 23) (pf v8 0) 27 [(23, pf v8 0), (20, E v6), (0, A a0), (1, A a1), (5, I x2)] [] (fun Γ' hΓ => CoreE.of_y (idxV_sound τ_ok (by kernel_rfl) hv9)) trivial ?_
 refine qv [] trivial 1 27 [(24, E v8), (20, E v6), (0, A a0), (1, A a1), (5, I x2)] [] ?_
 obtain ⟨v10, hv11, h⟩ := bindS h
 refine qX (some 25) (B v10) 27 [(25, B v10), (0, A a0), (1, A a1), (5, I x2)] [] (fun Γ' hΓ => CoreE.of_g (callV_sound (τ := τ) (by kernel_rfl) rfl (ok_laws_eqMark hv11) (FzTo.frz rfl))) trivial ?_
 refine qvn [] trivial 1 27 [(0, A a0), (1, A a1), (5, I x2), (26, B (!v10))] [] ?_
 refine pc h (fun h => ?_) (fun h => ?_)
 refine srve 27 [(4, B false)] [] ?_
 cases h
 exact pwp_ret rz
 refine pwp_skip ?_
 refine rve 27 [(0, A a0), (1, A a1), (5, I (w64 (x2 + 1)))] [] ?_
 exact ⟨(f3, (w64 (x2 + 1))), h, Nat.lt_succ_self _, it [0, 1, 5]⟩
 refine pwp_exit ?_
 refine srve 27 [(4, B true)] [] ?_
 cases h
 exact pwp_ret rz
def laws_szMarkS_l0 (a0 : List T_laws_Mark) : Nat → Int → Int → Option Int
 | 0, _, _ => none
 | f4 + 1, x2, x3 => bif (decide (x3 < (a0.length : Int))) then (getI a0 x3).bind fun v7 => (laws_szMark v7 x2).bind fun v9 => bif (decide (v9 < 0)) then some (-1) else (laws_szMarkS_l0 a0 f4) v9 (w64 (x3 + 1)) else some x2
def laws_szMarkS (a0 : List T_laws_Mark) (a1 : Int) : Option Int := bif (decide ((w64 (a1 - (a0.length : Int))) < 0)) then some (-1) else laws_szMarkS_l0 a0 FUEL (w64 (a1 - (a0.length : Int))) 0
theorem ok_laws_szMarkS {a0 : List T_laws_Mark} {a1 : Int} {y : Int} (h : laws_szMarkS a0 a1 = some y) : OK Try.prog 25 [A a0, I a1] (I y) := by
 refine ow Try.func25 fun Γ hX => ?_
 unfold laws_szMarkS at h
 refine srve 27 [(0, A a0), (1, I a1)] [] ?_
 refine srve 27 [(0, A a0), (1, I (w64 (a1 - (a0.length : Int))))] [] ?_
 refine pwp_seq ?_
 refine srve 27 [(0, A a0), (1, I (w64 (a1 - (a0.length : Int)))), (11, B (decide ((w64 (a1 - (a0.length : Int))) < 0)))] [] ?_
 refine pc h (fun h => ?_) (fun h => ?_)
 refine srve 27 [(4, I (-1))] [] ?_
 cases h
 exact pwp_ret rz
 refine pwp_skip ?_
 refine pwp_seq ?_
 refine srve 27 [(0, A a0), (1, I (w64 (a1 - (a0.length : Int)))), (5, I 0)] [] ?_
 refine pwp_block ?_
 refine pwp_loop (ι := Nat × Int × Int) (fun (f4, x2, x3) => (⟨27, [(0, A a0), (1, I x2), (5, I x3)], []⟩ : St)) (fun (f4, x2, x3) => laws_szMarkS_l0 a0 f4 x2 x3 = some y) Prod.fst (FUEL, (w64 (a1 - (a0.length : Int))), 0) h (it [0, 1, 5]) ?_
 rintro ⟨f4, x2, x3⟩ h
 dsimp only at h ⊢
 rcases f4 with _ | f4
 cases h
 rw [laws_szMarkS_l0] at h
 refine pwp_seq ?_
 refine srve 27 [(0, A a0), (1, I x2), (5, I x3), (15, B (decide (x3 < (a0.length : Int))))] [] ?_
 refine pc h (fun h => ?_) (fun h => ?_)
 refine pwp_skip ?_
 refine pwp_seq ?_
 refine pwp_block ?_
 refine srv 2 27 [(0, A a0), (1, I x2), (5, I x3), (18, A a0), (19, I x3)] [] ?_
 obtain ⟨v7, hv8, h⟩ := bindS h
 refine opsP_idx τ_ok 20 hv8 (by kernel_rfl) ?_
 refine v 2 27 [(0, A a0), (5, I x3), (21, E v7), (22, I x2)] [] ?_
 obtain ⟨v9, hv10, h⟩ := bindS h
 refine cF 23 (ok_laws_szMark hv10) ?_
 refine ve 1 27 [(0, A a0), (1, I v9), (5, I x3)] [] ?_
 refine srve 27 [(0, A a0), (1, I v9), (5, I x3), (25, B (decide (v9 < 0)))] [] ?_
 refine pc h (fun h => ?_) (fun h => ?_)
 refine srve 27 [(4, I (-1))] [] ?_
 cases h
 exact pwp_ret rz
 refine pwp_skip ?_
 refine rve 27 [(0, A a0), (1, I v9), (5, I (w64 (x3 + 1)))] [] ?_
 exact ⟨(f4, v9, (w64 (x3 + 1))), h, Nat.lt_succ_self _, it [0, 1, 5]⟩
 refine pwp_exit ?_
 refine srve 27 [(4, I x2)] [] ?_
 cases h
 exact pwp_ret rz
def laws_toMarkS_l0 (a0 : List T_laws_Mark) : Nat → Int → (List T_impl_Mark) → Option (List T_impl_Mark)
 | 0, _, _ => none
 | f6 + 1, x4, x5 => bif (decide (x4 < (a0.length : Int))) then (getI a0 x4).bind fun v9 => (laws_toMark v9).bind fun v11 => (getI x5 x4).bind fun v13 => (laws_toMarkS_l0 a0 f6) (w64 (x4 + 1)) (x5.set x4.toNat v11) else some x5
def laws_toMarkS (a0 : List T_laws_Mark) : Option (List T_impl_Mark) := (mkI (a0.length : Int) (T_impl_Mark.mk (T_impl_Value.mk 0 0 (ByteArray.mk #[])) 0 0 0)).bind fun v1 => laws_toMarkS_l0 a0 FUEL 0 v1
theorem ok_laws_toMarkS {a0 : List T_laws_Mark} {y : List T_impl_Mark} (h : laws_toMarkS a0 = some y) : OK Try.prog 28 [A a0] (O y) := by
 refine ow Try.func28 fun Γ hX => ?_
 unfold laws_toMarkS at h
 refine srve 23 [(0, A a0)] [] ?_
 refine srv 2 23 [(0, A a0), (6, I (a0.length : Int))] [] ?_
 obtain ⟨v1, hv2, h⟩ := bindS h
 refine opsP_mk τ_ok 7 0 _ hv2 (by kernel_rfl) (by kernel_rfl) ?_
 refine ve 1 23 [(0, A a0), (3, rf 0 0 6 v1)] [sl 0 v1] ?_
 refine pwp_seq ?_
 refine srve 23 [(0, A a0), (3, rf 0 0 6 v1), (4, I 0)] [sl 0 v1] ?_
 refine pwp_block ?_
 refine pwp_loop (ι := Nat × Int × (List T_impl_Mark)) (fun (f6, x4, x5) => (⟨23, [(0, A a0), (3, rf 0 0 6 x5), (4, I x4)], [sl 0 x5]⟩ : St)) (fun (f6, x4, x5) => laws_toMarkS_l0 a0 f6 x4 x5 = some y) Prod.fst (FUEL, 0, v1) h (it [0, 3, 4]) ?_
 rintro ⟨f6, x4, x5⟩ h
 dsimp only at h ⊢
 rcases f6 with _ | f6
 cases h
 rw [laws_toMarkS_l0] at h
 refine pwp_seq ?_
 refine srve 23 [(0, A a0), (3, rf 0 0 6 x5), (4, I x4), (11, B (decide (x4 < (a0.length : Int))))] [sl 0 x5] ?_
 refine pc h (fun h => ?_) (fun h => ?_)
 refine pwp_skip ?_
 refine pwp_seq ?_
 refine pwp_block ?_
 refine rv 4 23 [(0, A a0), (3, rf 0 0 6 x5), (4, I x4), (14, rf 0 0 6 x5), (15, I x4), (16, A a0), (17, I x4)] [sl 0 x5] ?_
 obtain ⟨v9, hv10, h⟩ := bindS h
 refine opsP_idx τ_ok 18 hv10 (by kernel_rfl) ?_
 refine v 1 23 [(0, A a0), (3, rf 0 0 6 x5), (4, I x4), (14, rf 0 0 6 x5), (15, I x4), (19, E v9)] [sl 0 x5] ?_
 obtain ⟨v11, hv12, h⟩ := bindS h
 refine cF 20 (ok_laws_toMark hv12) ?_
 obtain ⟨v13, hv14, h⟩ := bindS h
 refine opsP_idr τ_ok 21 0 0 x5.length hv14 rfl (by kernel_rfl) ?_
 refine v 0 23 [(0, A a0), (3, rf 0 0 6 x5), (4, I x4), (20, E v11), (21, .ptr 0 0 (x4.toNat * 6))] [sl 0 x5] ?_
 refine opsP_ste (vs := [I v11.fV.fKind, I v11.fV.fN, S v11.fV.fS, I v11.fKey, I v11.fBorn, I v11.fDied]) τ_ok 70 0 0 0 v11 hv14 (by kernel_rfl) (by kernel_rfl) (by kernel_rfl) (renC trivial (renC (ren_ref (List.length_set ..).symm) (renC trivial (renC trivial (renC trivial renC0))))) ?_
 refine ve 0 23 [(0, A a0), (3, .ref 0 0 0 6 (x5.set x4.toNat v11).length false), (4, I x4)] [some ⟨0, eL (x5.set x4.toNat v11)⟩] ?_
 refine rve 23 [(0, A a0), (3, .ref 0 0 0 6 (x5.set x4.toNat v11).length false), (4, I (w64 (x4 + 1)))] [some ⟨0, eL (x5.set x4.toNat v11)⟩] ?_
 exact ⟨(f6, (w64 (x4 + 1)), (x5.set x4.toNat v11)), h, Nat.lt_succ_self _, it [0, 3, 4]⟩
 refine pwp_exit ?_
 refine srve 23 [(2, rf 0 0 6 x5)] [sl 0 x5] ?_
 have h := si h
 subst h
 exact pwp_ret (rt (rf 0 0 6 x5) (OutP.list (v := 0) (by kernel_rfl)))
def laws_eqWriteS_l0 (a0 : List T_impl_Write) (a1 : List T_impl_Write) : Nat → Int → Option Bool
 | 0, _ => none
 | f3 + 1, x2 => bif (decide (x2 < (a0.length : Int))) then (getI a0 x2).bind fun v6 => (getI a1 x2).bind fun v8 => (laws_eqWrite v6 v8).bind fun v10 => bif (!v10) then some false else (laws_eqWriteS_l0 a0 a1 f3) (w64 (x2 + 1)) else some true
def laws_eqWriteS (a0 : List T_impl_Write) (a1 : List T_impl_Write) : Option Bool := bif (!((a0.length : Int) == (a1.length : Int))) then some false else laws_eqWriteS_l0 a0 a1 FUEL 0
theorem ok_laws_eqWriteS {a0 : List T_impl_Write} {a1 : List T_impl_Write} {y : Bool} (h : laws_eqWriteS a0 a1 = some y) : OK Try.prog 31 [A a0, A a1] (B y) := by
 refine ow Try.func31 fun Γ hX => ?_
 unfold laws_eqWriteS at h
 refine srve 27 [(0, A a0), (1, A a1)] [] ?_
 refine pwp_seq ?_
 refine srve 27 [(0, A a0), (1, A a1), (10, B (!((a0.length : Int) == (a1.length : Int))))] [] ?_
 refine pc h (fun h => ?_) (fun h => ?_)
 refine srve 27 [(4, B false)] [] ?_
 cases h
 exact pwp_ret rz
 refine pwp_skip ?_
 refine pwp_seq ?_
 refine srve 27 [(0, A a0), (1, A a1), (5, I 0)] [] ?_
 refine pwp_block ?_
 refine pwp_loop (ι := Nat × Int) (fun (f3, x2) => (⟨27, [(0, A a0), (1, A a1), (5, I x2)], []⟩ : St)) (fun (f3, x2) => laws_eqWriteS_l0 a0 a1 f3 x2 = some y) Prod.fst (FUEL, 0) h (it [0, 1, 5]) ?_
 rintro ⟨f3, x2⟩ h
 dsimp only at h ⊢
 rcases f3 with _ | f3
 cases h
 rw [laws_eqWriteS_l0] at h
 refine pwp_seq ?_
 refine srve 27 [(0, A a0), (1, A a1), (5, I x2), (14, B (decide (x2 < (a0.length : Int))))] [] ?_
 refine pc h (fun h => ?_) (fun h => ?_)
 refine pwp_skip ?_
 refine pwp_seq ?_
 refine pwp_block ?_
 refine pwp_seq ?_
 refine ip 27 [(0, A a0), (1, A a1), (5, I x2)] [] ?_
 refine pN 10 ?_
 refine qv [] trivial 2 27 [(18, I x2), (17, A a0), (0, A a0), (1, A a1), (5, I x2)] [] ?_
 obtain ⟨v6, hv7, h⟩ := bindS h
 refine qX (some 19) (pf v6 0) 27 [(19, pf v6 0), (0, A a0), (1, A a1), (5, I x2)] [] (fun Γ' hΓ => CoreE.of_y (idxV_sound τ_ok (by kernel_rfl) hv7)) trivial ?_
 refine qv [] trivial 3 27 [(22, I x2), (21, A a1), (20, E v6), (0, A a0), (1, A a1), (5, I x2)] [] ?_
 obtain ⟨v8, hv9, h⟩ := bindS h
 refine qX (some 23) (pf v8 0) 27 [(23, pf v8 0), (20, E v6), (0, A a0), (1, A a1), (5, I x2)] [] (fun Γ' hΓ => CoreE.of_y (idxV_sound τ_ok (by kernel_rfl) hv9)) trivial ?_
 refine qv [] trivial 1 27 [(24, E v8), (20, E v6), (0, A a0), (1, A a1), (5, I x2)] [] ?_
 obtain ⟨v10, hv11, h⟩ := bindS h
 refine qX (some 25) (B v10) 27 [(25, B v10), (0, A a0), (1, A a1), (5, I x2)] [] (fun Γ' hΓ => CoreE.of_g (callV_sound (τ := τ) (by kernel_rfl) rfl (ok_laws_eqWrite hv11) (FzTo.frz rfl))) trivial ?_
 refine qvn [] trivial 1 27 [(0, A a0), (1, A a1), (5, I x2), (26, B (!v10))] [] ?_
 refine pc h (fun h => ?_) (fun h => ?_)
 refine srve 27 [(4, B false)] [] ?_
 cases h
 exact pwp_ret rz
 refine pwp_skip ?_
 refine rve 27 [(0, A a0), (1, A a1), (5, I (w64 (x2 + 1)))] [] ?_
 exact ⟨(f3, (w64 (x2 + 1))), h, Nat.lt_succ_self _, it [0, 1, 5]⟩
 refine pwp_exit ?_
 refine srve 27 [(4, B true)] [] ?_
 cases h
 exact pwp_ret rz
def laws_markWriteS_l0 : Nat → Int → Int → (List T_impl_Write) → Option (Int × List T_impl_Write)
 | 0, _, _, _ => none
 | f5 + 1, x2, x3, x4 => bif (decide (x3 < (x4.length : Int))) then (getI x4 x3).bind fun v8 => (getI (x4.set x3.toNat ({ v8 with fKey := x2 } : T_impl_Write)) x3).bind fun v10 => (laws_markValueS v10.fRow (w64 (x2 + 1))).bind fun v12 => (getI ((x4.set x3.toNat ({ v8 with fKey := x2 } : T_impl_Write)).set x3.toNat ({ v10 with fRow := v12.2 } : T_impl_Write)) x3).bind fun v14 => (laws_markWriteS_l0 f5) (w64 (v12.1 + 1)) (w64 (x3 + 1)) (((x4.set x3.toNat ({ v8 with fKey := x2 } : T_impl_Write)).set x3.toNat ({ v10 with fRow := v12.2 } : T_impl_Write)).set x3.toNat ({ v14 with fGone := ((v12.1.tmod 3) == 0) } : T_impl_Write)) else some (x2, x4)
def laws_markWriteS (a0 : List T_impl_Write) (a1 : Int) : Option (Int × List T_impl_Write) := laws_markWriteS_l0 FUEL a1 0 a0
theorem len_laws_markWriteS_l0 : ∀ (f5 : Nat) (x2 : Int) (x3 : Int) (x4 : List T_impl_Write) (y : Int × List T_impl_Write), laws_markWriteS_l0 f5 x2 x3 x4 = some y → y.2.length = x4.length
 | 0, _, _, _, _, h => by cases h
 | f5 + 1, x2, x3, x4, y, h => by
  rw [laws_markWriteS_l0] at h
  rcases condS h with h | h
  ·obtain ⟨_, _, h⟩ := bindS h
   obtain ⟨_, _, h⟩ := bindS h
   obtain ⟨_, _, h⟩ := bindS h
   obtain ⟨_, _, h⟩ := bindS h
   have h2 := len_laws_markWriteS_l0 f5 _ _ _ _ h
   simp only [List.length_set] at h2
   exact h2
  ·cases h; rfl
theorem len_laws_markWriteS {a0 : List T_impl_Write} {a1 : Int} {y : Int × List T_impl_Write} (h : laws_markWriteS a0 a1 = some y) : y.2.length = a0.length := by
 unfold laws_markWriteS at h
 exact len_laws_markWriteS_l0 _ _ _ _ _ h
theorem ok_laws_markWriteS {a0 : List T_impl_Write} {a1 : Int} {y : Int × List T_impl_Write} (h : laws_markWriteS a0 a1 = some y) : OKd Try.prog 32 3 a0.length (dL a0) [I a1] (.int .i64 y.1) (dL y.2) := by
 refine OKd_of_pwp τ_ok Try.func32 rfl (by kernel_rfl) rfl (dL_oc _) (dL_oc _) (dL_bl _) (dL_bl _) rfl (fun hl => by rw [dL_len, len_laws_markWriteS h, ← dL_len]; exact hl) fun Γ hQ => ?_
 refine pwp_imp (Imp.to (st' := ⟨36, [(0, rf 0 0 3 a0), (1, I a1)], [some ⟨0, dL a0⟩]⟩) [0, 1] (by kernel_rfl)) ?_
 unfold laws_markWriteS at h
 refine srve 36 [(0, rf 0 0 3 a0), (1, I a1)] [some ⟨0, dL a0⟩] ?_
 refine pwp_seq ?_
 refine srve 36 [(0, rf 0 0 3 a0), (1, I a1), (5, I 0)] [some ⟨0, dL a0⟩] ?_
 refine pwp_block ?_
 refine pwp_loop (ι := Nat × Int × Int × (List T_impl_Write)) (fun (f5, x2, x3, x4) => (⟨36, [(0, rf 0 0 3 x4), (1, I x2), (5, I x3)], [some ⟨0, dL x4⟩]⟩ : St)) (fun (f5, x2, x3, x4) => laws_markWriteS_l0 f5 x2 x3 x4 = some y) Prod.fst (FUEL, a1, 0, a0) h (it [0, 1, 5]) ?_
 rintro ⟨f5, x2, x3, x4⟩ h
 dsimp only at h ⊢
 rcases f5 with _ | f5
 cases h
 rw [laws_markWriteS_l0] at h
 refine pwp_seq ?_
 refine srve 36 [(0, rf 0 0 3 x4), (1, I x2), (5, I x3), (9, B (decide (x3 < (x4.length : Int))))] [some ⟨0, dL x4⟩] ?_
 refine pc h (fun h => ?_) (fun h => ?_)
 refine pwp_skip ?_
 refine pwp_seq ?_
 refine pwp_block ?_
 refine srv 3 36 [(0, rf 0 0 3 x4), (1, I x2), (5, I x3), (12, rf 0 0 3 x4), (13, I x3), (14, I x2)] [some ⟨0, dL x4⟩] ?_
 obtain ⟨v8, hv9, h⟩ := bindS h
 refine opsP_idr τ_ok 15 0 0 x4.length hv9 rfl (by kernel_rfl) ?_
 refine v 1 36 [(0, rf 0 0 3 x4), (1, I x2), (5, I x3), (14, I x2), (16, .ptr 0 0 (x3.toNat * 3))] [some ⟨0, dL x4⟩] ?_
 refine opsP_E (dd := none) (x := .any) (stdl_E (xs := x4) (vs := [I x2]) τ_ok 3 0 0 0 ({ v8 with fKey := x2 } : T_impl_Write) hv9 (by kernel_rfl) (by kernel_rfl) (by kernel_rfl)) ?_
 refine io 36 [(0, rf 0 0 3 x4), (1, I x2), (5, I x3), (14, I x2)] [some ⟨0, dL (x4.set x3.toNat ({ v8 with fKey := x2 } : T_impl_Write))⟩] ?_
 refine opsP_ren (st' := ⟨36, [(0, .ref 0 0 0 3 (x4.set x3.toNat ({ v8 with fKey := x2 } : T_impl_Write)).length false), (1, I x2), (5, I x3), (14, I x2)], [some ⟨0, dL (x4.set x3.toNat ({ v8 with fKey := x2 } : T_impl_Write))⟩]⟩) 0 (x4.set x3.toNat ({ v8 with fKey := x2 } : T_impl_Write)).length (renC (ren_ref (List.length_set ..).symm) (renC trivial (renC trivial (renC trivial renC0)))) (by kernel_rfl) ?_
 refine ve 0 36 [(0, .ref 0 0 0 3 (x4.set x3.toNat ({ v8 with fKey := x2 } : T_impl_Write)).length false), (1, I x2), (5, I x3)] [some ⟨0, dL (x4.set x3.toNat ({ v8 with fKey := x2 } : T_impl_Write))⟩] ?_
 refine srve 36 [(0, .ref 0 0 0 3 (x4.set x3.toNat ({ v8 with fKey := x2 } : T_impl_Write)).length false), (1, I (w64 (x2 + 1))), (5, I x3)] [some ⟨0, dL (x4.set x3.toNat ({ v8 with fKey := x2 } : T_impl_Write))⟩] ?_
 refine srv 2 36 [(0, .ref 0 0 0 3 (x4.set x3.toNat ({ v8 with fKey := x2 } : T_impl_Write)).length false), (1, I (w64 (x2 + 1))), (5, I x3), (19, .ref 0 0 0 3 (x4.set x3.toNat ({ v8 with fKey := x2 } : T_impl_Write)).length false), (20, I x3)] [some ⟨0, dL (x4.set x3.toNat ({ v8 with fKey := x2 } : T_impl_Write))⟩] ?_
 obtain ⟨v10, hv11, h⟩ := bindS h
 refine opsP_idr τ_ok 21 0 0 (x4.set x3.toNat ({ v8 with fKey := x2 } : T_impl_Write)).length hv11 rfl (by kernel_rfl) ?_
 refine v 1 36 [(0, .ref 0 0 0 3 (x4.set x3.toNat ({ v8 with fKey := x2 } : T_impl_Write)).length false), (1, I (w64 (x2 + 1))), (5, I x3), (22, .ptr 0 0 (x3.toNat * 3 + 1))] [some ⟨0, dL (x4.set x3.toNat ({ v8 with fKey := x2 } : T_impl_Write))⟩] ?_
 refine io 36 [(0, .ref 0 0 0 3 (x4.set x3.toNat ({ v8 with fKey := x2 } : T_impl_Write)).length false), (1, I (w64 (x2 + 1))), (5, I x3), (22, .ptr 0 0 (x3.toNat * 3 + 1))] [some ⟨0, dL (x4.set x3.toNat ({ v8 with fKey := x2 } : T_impl_Write))⟩] ?_
 refine opsP_imp (Imp.ghosts 1 (st' := ⟨36, [(0, .ref 0 0 0 3 (x4.set x3.toNat ({ v8 with fKey := x2 } : T_impl_Write)).length false), (1, I (w64 (x2 + 1))), (5, I x3), (22, .ptr 0 0 (x3.toNat * 3 + 1))], [some ⟨0, dL (x4.set x3.toNat ({ v8 with fKey := x2 } : T_impl_Write))⟩, some ⟨0, []⟩]⟩) (by kernel_rfl)) ?_
 refine opsP_E (dd := some 23) (x := rf 1 1 3 v10.fRow) (CoreE.pre (H1 := [some ⟨0, setL (dL (x4.set x3.toNat ({ v8 with fKey := x2 } : T_impl_Write))) (x3.toNat * 3 + 1) [rf 1 1 3 v10.fRow]⟩, sl 1 v10.fRow]) (HStep.openL (cs0 := []) (xs := (x4.set x3.toNat ({ v8 with fKey := x2 } : T_impl_Write))) (s := 3) (n := v10.fRow.length) (f := false) (cs := eL v10.fRow) 0 0 1 0 1 hv11 (by kernel_rfl) (by kernel_rfl) (by kernel_rfl) (by kernel_rfl) (by decide) (by first | exact pn hQ | exact pk hQ) (by kernel_rfl)) (ldo_E (xs := (x4.set x3.toNat ({ v8 with fKey := x2 } : T_impl_Write))) τ_ok 23 43 1 hv11 (by kernel_rfl) (by kernel_rfl) (by kernel_rfl))) ?_
 refine v 1 36 [(0, .ref 0 0 0 3 (x4.set x3.toNat ({ v8 with fKey := x2 } : T_impl_Write)).length false), (5, I x3), (23, rf 1 1 3 v10.fRow), (24, I (w64 (x2 + 1)))] [some ⟨0, setL (dL (x4.set x3.toNat ({ v8 with fKey := x2 } : T_impl_Write))) (x3.toNat * 3 + 1) [rf 1 1 3 v10.fRow]⟩, sl 1 v10.fRow] ?_
 obtain ⟨v12, hv13, h⟩ := bindS h
 refine opsP_E (dd := some 25) (x := I v12.1) ((callD_E τ 25 1 1 (ok_laws_markValueS hv13) (by kernel_rfl)).then (H2 := [some ⟨0, dL ((x4.set x3.toNat ({ v8 with fKey := x2 } : T_impl_Write)).set x3.toNat ({ v10 with fRow := v12.2 } : T_impl_Write))⟩, some ⟨2, []⟩]) (HStep.nestL (xs := (x4.set x3.toNat ({ v8 with fKey := x2 } : T_impl_Write))) (vs := [rf 1 1 3 v10.fRow]) 0 0 1 ({ v10 with fRow := v12.2 } : T_impl_Write) hv11 (by kernel_rfl) (OutL.cons (OutP.listn (v := 1) (xs := v12.2) (len_laws_markValueS hv13) (by kernel_rfl)) (OutL.nil _)) (by decide) (by decide) (by first | exact pn hQ | exact pk hQ) (by kernel_rfl) (by kernel_rfl) (by kernel_rfl) (by kernel_rfl))) ?_
 refine io 36 [(0, .ref 0 0 0 3 (x4.set x3.toNat ({ v8 with fKey := x2 } : T_impl_Write)).length false), (5, I x3), (24, I (w64 (x2 + 1))), (25, I v12.1)] [some ⟨0, dL ((x4.set x3.toNat ({ v8 with fKey := x2 } : T_impl_Write)).set x3.toNat ({ v10 with fRow := v12.2 } : T_impl_Write))⟩, some ⟨2, []⟩] ?_
 refine opsP_ren (st' := ⟨36, [(0, .ref 0 0 0 3 ((x4.set x3.toNat ({ v8 with fKey := x2 } : T_impl_Write)).set x3.toNat ({ v10 with fRow := v12.2 } : T_impl_Write)).length false), (5, I x3), (24, I (w64 (x2 + 1))), (25, I v12.1)], [some ⟨0, dL ((x4.set x3.toNat ({ v8 with fKey := x2 } : T_impl_Write)).set x3.toNat ({ v10 with fRow := v12.2 } : T_impl_Write))⟩, some ⟨2, []⟩]⟩) 0 ((x4.set x3.toNat ({ v8 with fKey := x2 } : T_impl_Write)).set x3.toNat ({ v10 with fRow := v12.2 } : T_impl_Write)).length (renC (ren_ref (List.length_set ..).symm) (renC trivial (renC trivial (renC trivial renC0)))) (by kernel_rfl) ?_
 refine ve 1 36 [(0, .ref 0 0 0 3 ((x4.set x3.toNat ({ v8 with fKey := x2 } : T_impl_Write)).set x3.toNat ({ v10 with fRow := v12.2 } : T_impl_Write)).length false), (1, I v12.1), (5, I x3)] [some ⟨0, dL ((x4.set x3.toNat ({ v8 with fKey := x2 } : T_impl_Write)).set x3.toNat ({ v10 with fRow := v12.2 } : T_impl_Write))⟩, some ⟨2, []⟩] ?_
 refine srv 5 36 [(0, .ref 0 0 0 3 ((x4.set x3.toNat ({ v8 with fKey := x2 } : T_impl_Write)).set x3.toNat ({ v10 with fRow := v12.2 } : T_impl_Write)).length false), (1, I v12.1), (5, I x3), (26, .ref 0 0 0 3 ((x4.set x3.toNat ({ v8 with fKey := x2 } : T_impl_Write)).set x3.toNat ({ v10 with fRow := v12.2 } : T_impl_Write)).length false), (27, I x3), (30, B ((v12.1.tmod 3) == 0))] [some ⟨0, dL ((x4.set x3.toNat ({ v8 with fKey := x2 } : T_impl_Write)).set x3.toNat ({ v10 with fRow := v12.2 } : T_impl_Write))⟩, some ⟨2, []⟩] ?_
 obtain ⟨v14, hv15, h⟩ := bindS h
 refine opsP_idr τ_ok 31 0 0 ((x4.set x3.toNat ({ v8 with fKey := x2 } : T_impl_Write)).set x3.toNat ({ v10 with fRow := v12.2 } : T_impl_Write)).length hv15 rfl (by kernel_rfl) ?_
 refine v 1 36 [(0, .ref 0 0 0 3 ((x4.set x3.toNat ({ v8 with fKey := x2 } : T_impl_Write)).set x3.toNat ({ v10 with fRow := v12.2 } : T_impl_Write)).length false), (1, I v12.1), (5, I x3), (30, B ((v12.1.tmod 3) == 0)), (32, .ptr 0 0 (x3.toNat * 3 + 2))] [some ⟨0, dL ((x4.set x3.toNat ({ v8 with fKey := x2 } : T_impl_Write)).set x3.toNat ({ v10 with fRow := v12.2 } : T_impl_Write))⟩, some ⟨2, []⟩] ?_
 refine opsP_E (dd := none) (x := .any) (stdl_E (xs := ((x4.set x3.toNat ({ v8 with fKey := x2 } : T_impl_Write)).set x3.toNat ({ v10 with fRow := v12.2 } : T_impl_Write))) (vs := [B ((v12.1.tmod 3) == 0)]) τ_ok 4 0 0 2 ({ v14 with fGone := ((v12.1.tmod 3) == 0) } : T_impl_Write) hv15 (by kernel_rfl) (by kernel_rfl) (by kernel_rfl)) ?_
 refine io 36 [(0, .ref 0 0 0 3 ((x4.set x3.toNat ({ v8 with fKey := x2 } : T_impl_Write)).set x3.toNat ({ v10 with fRow := v12.2 } : T_impl_Write)).length false), (1, I v12.1), (5, I x3), (30, B ((v12.1.tmod 3) == 0))] [some ⟨0, dL (((x4.set x3.toNat ({ v8 with fKey := x2 } : T_impl_Write)).set x3.toNat ({ v10 with fRow := v12.2 } : T_impl_Write)).set x3.toNat ({ v14 with fGone := ((v12.1.tmod 3) == 0) } : T_impl_Write))⟩, some ⟨2, []⟩] ?_
 refine opsP_ren (st' := ⟨36, [(0, .ref 0 0 0 3 (((x4.set x3.toNat ({ v8 with fKey := x2 } : T_impl_Write)).set x3.toNat ({ v10 with fRow := v12.2 } : T_impl_Write)).set x3.toNat ({ v14 with fGone := ((v12.1.tmod 3) == 0) } : T_impl_Write)).length false), (1, I v12.1), (5, I x3), (30, B ((v12.1.tmod 3) == 0))], [some ⟨0, dL (((x4.set x3.toNat ({ v8 with fKey := x2 } : T_impl_Write)).set x3.toNat ({ v10 with fRow := v12.2 } : T_impl_Write)).set x3.toNat ({ v14 with fGone := ((v12.1.tmod 3) == 0) } : T_impl_Write))⟩, some ⟨2, []⟩]⟩) 0 (((x4.set x3.toNat ({ v8 with fKey := x2 } : T_impl_Write)).set x3.toNat ({ v10 with fRow := v12.2 } : T_impl_Write)).set x3.toNat ({ v14 with fGone := ((v12.1.tmod 3) == 0) } : T_impl_Write)).length (renC (ren_ref (List.length_set ..).symm) (renC trivial (renC trivial (renC trivial renC0)))) (by kernel_rfl) ?_
 refine ve 0 36 [(0, .ref 0 0 0 3 (((x4.set x3.toNat ({ v8 with fKey := x2 } : T_impl_Write)).set x3.toNat ({ v10 with fRow := v12.2 } : T_impl_Write)).set x3.toNat ({ v14 with fGone := ((v12.1.tmod 3) == 0) } : T_impl_Write)).length false), (1, I v12.1), (5, I x3)] [some ⟨0, dL (((x4.set x3.toNat ({ v8 with fKey := x2 } : T_impl_Write)).set x3.toNat ({ v10 with fRow := v12.2 } : T_impl_Write)).set x3.toNat ({ v14 with fGone := ((v12.1.tmod 3) == 0) } : T_impl_Write))⟩, some ⟨2, []⟩] ?_
 refine rve 36 [(0, .ref 0 0 0 3 (((x4.set x3.toNat ({ v8 with fKey := x2 } : T_impl_Write)).set x3.toNat ({ v10 with fRow := v12.2 } : T_impl_Write)).set x3.toNat ({ v14 with fGone := ((v12.1.tmod 3) == 0) } : T_impl_Write)).length false), (1, I (w64 (v12.1 + 1))), (5, I x3)] [some ⟨0, dL (((x4.set x3.toNat ({ v8 with fKey := x2 } : T_impl_Write)).set x3.toNat ({ v10 with fRow := v12.2 } : T_impl_Write)).set x3.toNat ({ v14 with fGone := ((v12.1.tmod 3) == 0) } : T_impl_Write))⟩, some ⟨2, []⟩] ?_
 refine rve 36 [(0, .ref 0 0 0 3 (((x4.set x3.toNat ({ v8 with fKey := x2 } : T_impl_Write)).set x3.toNat ({ v10 with fRow := v12.2 } : T_impl_Write)).set x3.toNat ({ v14 with fGone := ((v12.1.tmod 3) == 0) } : T_impl_Write)).length false), (1, I (w64 (v12.1 + 1))), (5, I (w64 (x3 + 1)))] [some ⟨0, dL (((x4.set x3.toNat ({ v8 with fKey := x2 } : T_impl_Write)).set x3.toNat ({ v10 with fRow := v12.2 } : T_impl_Write)).set x3.toNat ({ v14 with fGone := ((v12.1.tmod 3) == 0) } : T_impl_Write))⟩, some ⟨2, []⟩] ?_
 exact ⟨(f5, (w64 (v12.1 + 1)), (w64 (x3 + 1)), (((x4.set x3.toNat ({ v8 with fKey := x2 } : T_impl_Write)).set x3.toNat ({ v10 with fRow := v12.2 } : T_impl_Write)).set x3.toNat ({ v14 with fGone := ((v12.1.tmod 3) == 0) } : T_impl_Write))), h, Nat.lt_succ_self _, (it (st' := ⟨36, [(0, .ref 0 0 0 3 (((x4.set x3.toNat ({ v8 with fKey := x2 } : T_impl_Write)).set x3.toNat ({ v10 with fRow := v12.2 } : T_impl_Write)).set x3.toNat ({ v14 with fGone := ((v12.1.tmod 3) == 0) } : T_impl_Write)).length false), (1, I (w64 (v12.1 + 1))), (5, I (w64 (x3 + 1)))], [some ⟨0, dL (((x4.set x3.toNat ({ v8 with fKey := x2 } : T_impl_Write)).set x3.toNat ({ v10 with fRow := v12.2 } : T_impl_Write)).set x3.toNat ({ v14 with fGone := ((v12.1.tmod 3) == 0) } : T_impl_Write))⟩, some ⟨2, []⟩]⟩) [0, 1, 5]).trans (Imp.truncS 1 (pl hQ) (by kernel_rfl) (allBelow_mem (by exact (And.intro rfl (And.intro rfl (And.intro rfl trivial))))) (by exact (And.intro (dL_below _ _) trivial)) (by kernel_rfl))⟩
 refine pwp_exit ?_
 refine srve 36 [(4, I x2)] [some ⟨0, dL x4⟩] ?_
 have h := si h
 subst h
 exact pwp_ret ⟨.inr rfl, 0, by kernel_rfl, by kernel_rfl⟩
def impl_RowOk (a0 : List T_impl_Value) : Option Bool := bif (decide ((a0.length : Int) ≤ 4)) then (slices_ContainsFunc_impl_Value_impl_Value a0 impl_RowOk_1).bind fun v1 => some (!v1) else some false
theorem ok_impl_RowOk {a0 : List T_impl_Value} {y : Bool} (h : impl_RowOk a0 = some y) : OK Try.prog 54 [A a0] (B y) := by
 refine ow Try.func54 fun Γ hX => ?_
 unfold impl_RowOk at h
 refine srve 11 [(0, A a0)] [] ?_
 refine srv 4 11 [(0, A a0), (6, B (decide ((a0.length : Int) ≤ 4)))] [] ?_
 rcases fk (decide ((a0.length : Int) ≤ 4)) with hc3 | hc3
 replace h := bT hc3 h
 rw [hc3]
 refine v 1 11 [(6, B true), (7, A a0)] [] ?_
 obtain ⟨v1, hv2, h⟩ := bindS h
 refine cF 8 (ok_slices_ContainsFunc_impl_Value_impl_Value (rfl) (fun _ w hw => ok_impl_RowOk_1 hw) hv2) ?_
 refine ve 3 11 [(2, B (!v1))] [] ?_
 cases h
 exact pwp_ret rz
 replace h := bF hc3 h
 rw [hc3]
 refine ve 5 11 [(2, B false)] [] ?_
 cases h
 exact pwp_ret rz
def laws_szWrite (a0 : T_laws_Write) (a1 : Int) : Option Int := (laws_szValueS a0.fRow a1).bind fun v1 => bif (decide (v1 < 0)) then some (-1) else some v1
theorem ok_laws_szWrite {a0 : T_laws_Write} {a1 : Int} {y : Int} (h : laws_szWrite a0 a1 = some y) : OK Try.prog 63 [E a0, I a1] (I y) := by
 refine ow Try.func63 fun Γ hX => ?_
 unfold laws_szWrite at h
 refine srve 12 [(1, I a1), (2, pf a0 0)] [] ?_
 refine srv 3 12 [(6, A a0.fRow), (7, I a1)] [] ?_
 obtain ⟨v1, hv2, h⟩ := bindS h
 refine cF 8 (ok_laws_szValueS hv2) ?_
 refine ve 1 12 [(1, I v1)] [] ?_
 refine pwp_seq ?_
 refine srve 12 [(1, I v1), (10, B (decide (v1 < 0)))] [] ?_
 refine pc h (fun h => ?_) (fun h => ?_)
 refine srve 12 [(4, I (-1))] [] ?_
 cases h
 exact pwp_ret rz
 refine pwp_skip ?_
 refine srve 12 [(4, I v1)] [] ?_
 cases h
 exact pwp_ret rz
def spec_WritesOk_j1 (x1 : Int) (K3 : Int → Option Bool) (x7 : Bool) : Option Bool := bif x7 then some false else K3 (w64 (x1 + 1))
def spec_WritesOk_l0 (a0 : List T_impl_Write) : Nat → Int → Option Bool
 | 0, _ => none
 | f2 + 1, x1 => bif (decide (x1 < (a0.length : Int))) then (getI a0 x1).bind fun v5 => (spec_l1In v5.fKey 0 4).bind fun v9 => bif (!v9) then spec_WritesOk_j1 x1 (spec_WritesOk_l0 a0 f2) true else (spec_RowOk v5.fRow).bind fun v11 => bif (!v11) then spec_WritesOk_j1 x1 (spec_WritesOk_l0 a0 f2) true else bif v5.fGone then bif (decide ((v5.fRow.length : Int) > 0)) then spec_WritesOk_j1 x1 (spec_WritesOk_l0 a0 f2) true else bif (decide (x1 > 0)) then (getI a0 (w64 (x1 - 1))).bind fun v13 => spec_WritesOk_j1 x1 (spec_WritesOk_l0 a0 f2) (decide (v13.fKey ≥ v5.fKey)) else spec_WritesOk_j1 x1 (spec_WritesOk_l0 a0 f2) false else bif (decide (x1 > 0)) then (getI a0 (w64 (x1 - 1))).bind fun v17 => spec_WritesOk_j1 x1 (spec_WritesOk_l0 a0 f2) (decide (v17.fKey ≥ v5.fKey)) else spec_WritesOk_j1 x1 (spec_WritesOk_l0 a0 f2) false else some true
def spec_WritesOk (a0 : List T_impl_Write) : Option Bool := spec_WritesOk_l0 a0 FUEL 0
theorem ok_spec_WritesOk {a0 : List T_impl_Write} {y : Bool} (h : spec_WritesOk a0 = some y) : OK Try.prog 65 [A a0] (B y) := by
 refine ow Try.func65 fun Γ hX => ?_
 unfold spec_WritesOk at h
 refine srveM [4] 50 [(0, A a0)] [] ?_
 refine pwp_seq ?_
 refine srveM [4] 50 [(0, A a0), (3, I 0)] [] ?_
 refine pwp_block ?_
 refine pwp_loop (ι := Nat × Int) (fun (f2, x1) => (⟨50, [(0, A a0), (3, I x1)], []⟩ : St)) (fun (f2, x1) => spec_WritesOk_l0 a0 f2 x1 = some y) Prod.fst (FUEL, 0) h (it [0, 3]) ?_
 rintro ⟨f2, x1⟩ h
 dsimp only at h ⊢
 rcases f2 with _ | f2
 cases h
 rw [spec_WritesOk_l0] at h
 refine pwp_seq ?_
 refine srveM [4] 50 [(0, A a0), (3, I x1), (8, B (decide (x1 < (a0.length : Int))))] [] ?_
 refine pc h (fun h => ?_) (fun h => ?_)
 refine pwp_skip ?_
 refine pwp_seq ?_
 refine pwp_block ?_
 refine srvM [4] 2 50 [(0, A a0), (3, I x1), (11, A a0), (12, I x1)] [] ?_
 obtain ⟨v5, hv6, h⟩ := bindS h
 refine opsP_idx τ_ok 13 hv6 (by kernel_rfl) ?_
 refine veM [4] 3 50 [(0, A a0), (3, I x1), (4, .ptr 0 0 0)] [sc 0 v5] ?_
 refine pwp_seq ?_
 refine pwp_join (σ := Bool) (fun x7 => (⟨50, [(0, A a0), (3, I x1), (49, B x7)], [sc 0 v5]⟩ : St)) (fun x7 => spec_WritesOk_j1 x1 (spec_WritesOk_l0 a0 f2) x7 = some y) ?_ ?_
 refine ip 50 [(0, A a0), (3, I x1), (4, .ptr 0 0 0)] [sc 0 v5] ?_
 refine pwp_any ([[0], [0], [], [], [], [0], [0], [], [], [], [], [0], [0], [], [0], [0], [], [], [], [], [], [], [], [], [], [], [], [], [], [], [0], [0], [], [], []]) ([[], [], [], [], [], [], [], [], [], [], [], [], [], [], [], [], [], [], [], [], [], [], [], [], [], [], [], [], [], [], [], [], [], [], []]) rfl (by kernel_rfl) ?_
 refine qvM [4] [0] (hB trivial) 2 50 [(16, I v5.fKey), (0, A a0), (3, I x1), (4, .ptr 0 0 0)] [sc 0 v5] ?_
 obtain ⟨v9, hv10, h⟩ := bindS h
 refine qX (some 17) (B v9) 50 [(17, B v9), (0, A a0), (3, I x1), (4, .ptr 0 0 0)] [sc 0 v5] (fun Γ' hΓ => CoreE.of_g (callV_sound (τ := τ) (by kernel_rfl) rfl (ok_spec_l1In hv10) (FzTo.frz rfl))) trivial ?_
 refine qvM [4] [] trivial 2 50 [(19, B (!v9)), (0, A a0), (3, I x1), (4, .ptr 0 0 0)] [sc 0 v5] ?_
 rcases fk (!v9) with hc22 | hc22
 replace h := bT hc22 h
 rw [hc22]
 refine qvM [4] [0] (hB trivial) 2 50 [(21, .lit undef), (20, .lit undef), (19, B true), (0, A a0), (3, I x1), (4, .ptr 0 0 0)] [sc 0 v5] ?_
 refine qvM [4] [] trivial 4 50 [(25, B true), (23, .lit undef), (22, .lit undef), (21, .lit undef), (20, .lit undef), (0, A a0), (3, I x1), (4, .ptr 0 0 0)] [sc 0 v5] ?_
 refine qvM [4] [0] (hB trivial) 2 50 [(27, .lit undef), (26, .lit undef), (25, B true), (23, .lit undef), (22, .lit undef), (21, .lit undef), (20, .lit undef), (0, A a0), (3, I x1), (4, .ptr 0 0 0)] [sc 0 v5] ?_
 refine qvM [4] [] trivial 1 50 [(28, .lit undef), (27, .lit undef), (26, .lit undef), (25, B true), (23, .lit undef), (22, .lit undef), (21, .lit undef), (20, .lit undef), (0, A a0), (3, I x1), (4, .ptr 0 0 0)] [sc 0 v5] ?_
 refine qvM [4] [0] (hB trivial) 2 50 [(30, .lit undef), (29, .lit undef), (28, .lit undef), (27, .lit undef), (26, .lit undef), (25, B true), (23, .lit undef), (22, .lit undef), (21, .lit undef), (20, .lit undef), (0, A a0), (3, I x1), (4, .ptr 0 0 0)] [sc 0 v5] ?_
 refine qvM [4] [] trivial 14 50 [(44, .lit undef), (43, .lit undef), (42, .lit undef), (41, .lit undef), (40, .lit undef), (39, .lit undef), (38, .lit undef), (37, .lit undef), (36, .lit undef), (35, B true), (33, .lit undef), (32, .lit undef), (31, .lit undef), (30, .lit undef), (29, .lit undef), (28, .lit undef), (27, .lit undef), (26, .lit undef), (23, .lit undef), (22, .lit undef), (21, .lit undef), (20, .lit undef), (0, A a0), (3, I x1), (4, .ptr 0 0 0)] [sc 0 v5] ?_
 refine qvM [4] [0] (hB trivial) 2 50 [(46, .lit undef), (45, .lit undef), (44, .lit undef), (43, .lit undef), (42, .lit undef), (41, .lit undef), (40, .lit undef), (39, .lit undef), (38, .lit undef), (37, .lit undef), (36, .lit undef), (35, B true), (33, .lit undef), (32, .lit undef), (31, .lit undef), (30, .lit undef), (29, .lit undef), (28, .lit undef), (27, .lit undef), (26, .lit undef), (23, .lit undef), (22, .lit undef), (21, .lit undef), (20, .lit undef), (0, A a0), (3, I x1)] [sc 0 v5] ?_
 refine qvM [4] [] trivial 3 50 [(49, B true), (48, .lit undef), (47, .lit undef), (46, .lit undef), (45, .lit undef), (44, .lit undef), (43, .lit undef), (42, .lit undef), (41, .lit undef), (40, .lit undef), (39, .lit undef), (38, .lit undef), (37, .lit undef), (36, .lit undef), (33, .lit undef), (32, .lit undef), (31, .lit undef), (30, .lit undef), (29, .lit undef), (28, .lit undef), (27, .lit undef), (26, .lit undef), (23, .lit undef), (22, .lit undef), (21, .lit undef), (20, .lit undef), (0, A a0), (3, I x1)] [sc 0 v5] ?_
 refine qn 50 [(0, A a0), (3, I x1), (20, .lit undef), (21, .lit undef), (22, .lit undef), (23, .lit undef), (26, .lit undef), (27, .lit undef), (28, .lit undef), (29, .lit undef), (30, .lit undef), (31, .lit undef), (32, .lit undef), (33, .lit undef), (36, .lit undef), (37, .lit undef), (38, .lit undef), (39, .lit undef), (40, .lit undef), (41, .lit undef), (42, .lit undef), (43, .lit undef), (44, .lit undef), (45, .lit undef), (46, .lit undef), (47, .lit undef), (48, .lit undef), (49, B true)] [sc 0 v5] ?_
 exact ⟨true, h, it [0, 3, 49]⟩
 replace h := bF hc22 h
 rw [hc22]
 refine qvM [4] [0] (hB trivial) 2 50 [(21, A v5.fRow), (20, .ptr 0 0 1), (19, B false), (0, A a0), (3, I x1), (4, .ptr 0 0 0)] [sc 0 v5] ?_
 obtain ⟨v11, hv12, h⟩ := bindS h
 refine qX (some 22) (B v11) 50 [(22, B v11), (21, A v5.fRow), (20, .ptr 0 0 1), (19, B false), (0, A a0), (3, I x1), (4, .ptr 0 0 0)] [sc 0 v5] (fun Γ' hΓ => CoreE.of_g (callV_sound (τ := τ) (by kernel_rfl) rfl (ok_spec_RowOk hv12) (FzTo.frz rfl))) trivial ?_
 refine qvM [4] [] trivial 3 50 [(25, B (!v11)), (23, B (!v11)), (22, B v11), (21, A v5.fRow), (20, .ptr 0 0 1), (0, A a0), (3, I x1), (4, .ptr 0 0 0)] [sc 0 v5] ?_
 rcases fk (!v11) with hc21 | hc21
 replace h := bT hc21 h
 rw [hc21]
 refine qvM [4] [0] (hB trivial) 2 50 [(27, .lit undef), (26, .lit undef), (25, B true), (23, B true), (22, B v11), (21, A v5.fRow), (20, .ptr 0 0 1), (0, A a0), (3, I x1), (4, .ptr 0 0 0)] [sc 0 v5] ?_
 refine qvM [4] [] trivial 1 50 [(28, .lit undef), (27, .lit undef), (26, .lit undef), (25, B true), (23, B true), (22, B v11), (21, A v5.fRow), (20, .ptr 0 0 1), (0, A a0), (3, I x1), (4, .ptr 0 0 0)] [sc 0 v5] ?_
 refine qvM [4] [0] (hB trivial) 2 50 [(30, .lit undef), (29, .lit undef), (28, .lit undef), (27, .lit undef), (26, .lit undef), (25, B true), (23, B true), (22, B v11), (21, A v5.fRow), (20, .ptr 0 0 1), (0, A a0), (3, I x1), (4, .ptr 0 0 0)] [sc 0 v5] ?_
 refine qvM [4] [] trivial 14 50 [(44, .lit undef), (43, .lit undef), (42, .lit undef), (41, .lit undef), (40, .lit undef), (39, .lit undef), (38, .lit undef), (37, .lit undef), (36, .lit undef), (35, B true), (33, .lit undef), (32, .lit undef), (31, .lit undef), (30, .lit undef), (29, .lit undef), (28, .lit undef), (27, .lit undef), (26, .lit undef), (23, B true), (22, B v11), (21, A v5.fRow), (20, .ptr 0 0 1), (0, A a0), (3, I x1), (4, .ptr 0 0 0)] [sc 0 v5] ?_
 refine qvM [4] [0] (hB trivial) 2 50 [(46, .lit undef), (45, .lit undef), (44, .lit undef), (43, .lit undef), (42, .lit undef), (41, .lit undef), (40, .lit undef), (39, .lit undef), (38, .lit undef), (37, .lit undef), (36, .lit undef), (35, B true), (33, .lit undef), (32, .lit undef), (31, .lit undef), (30, .lit undef), (29, .lit undef), (28, .lit undef), (27, .lit undef), (26, .lit undef), (23, B true), (22, B v11), (21, A v5.fRow), (20, .ptr 0 0 1), (0, A a0), (3, I x1)] [sc 0 v5] ?_
 refine qvM [4] [] trivial 3 50 [(49, B true), (48, .lit undef), (47, .lit undef), (46, .lit undef), (45, .lit undef), (44, .lit undef), (43, .lit undef), (42, .lit undef), (41, .lit undef), (40, .lit undef), (39, .lit undef), (38, .lit undef), (37, .lit undef), (36, .lit undef), (33, .lit undef), (32, .lit undef), (31, .lit undef), (30, .lit undef), (29, .lit undef), (28, .lit undef), (27, .lit undef), (26, .lit undef), (23, B true), (22, B v11), (21, A v5.fRow), (20, .ptr 0 0 1), (0, A a0), (3, I x1)] [sc 0 v5] ?_
 refine qn 50 [(0, A a0), (3, I x1), (20, .ptr 0 0 1), (21, A v5.fRow), (22, B v11), (23, B true), (26, .lit undef), (27, .lit undef), (28, .lit undef), (29, .lit undef), (30, .lit undef), (31, .lit undef), (32, .lit undef), (33, .lit undef), (36, .lit undef), (37, .lit undef), (38, .lit undef), (39, .lit undef), (40, .lit undef), (41, .lit undef), (42, .lit undef), (43, .lit undef), (44, .lit undef), (45, .lit undef), (46, .lit undef), (47, .lit undef), (48, .lit undef), (49, B true)] [sc 0 v5] ?_
 exact ⟨true, h, it [0, 3, 49]⟩
 replace h := bF hc21 h
 rw [hc21]
 refine qvM [4] [0] (hB trivial) 2 50 [(27, B v5.fGone), (26, .ptr 0 0 2), (25, B false), (23, B false), (22, B v11), (21, A v5.fRow), (20, .ptr 0 0 1), (0, A a0), (3, I x1), (4, .ptr 0 0 0)] [sc 0 v5] ?_
 refine qvM [4] [] trivial 1 50 [(28, B v5.fGone), (27, B v5.fGone), (26, .ptr 0 0 2), (25, B false), (23, B false), (22, B v11), (21, A v5.fRow), (20, .ptr 0 0 1), (0, A a0), (3, I x1), (4, .ptr 0 0 0)] [sc 0 v5] ?_
 rcases Bool.eq_false_or_eq_true v5.fGone with hc20 | hc20
 replace h := bT hc20 h
 rw [hc20]
 refine qvM [4] [0] (hB trivial) 2 50 [(30, A v5.fRow), (29, .ptr 0 0 1), (28, B true), (27, B true), (26, .ptr 0 0 2), (25, B false), (23, B false), (22, B v11), (21, A v5.fRow), (20, .ptr 0 0 1), (0, A a0), (3, I x1), (4, .ptr 0 0 0)] [sc 0 v5] ?_
 refine qvM [4] [] trivial 5 50 [(35, B (decide ((v5.fRow.length : Int) > 0))), (33, B (decide ((v5.fRow.length : Int) > 0))), (32, B (decide ((v5.fRow.length : Int) > 0))), (31, I (v5.fRow.length : Int)), (30, A v5.fRow), (29, .ptr 0 0 1), (28, B true), (27, B true), (26, .ptr 0 0 2), (23, B false), (22, B v11), (21, A v5.fRow), (20, .ptr 0 0 1), (0, A a0), (3, I x1), (4, .ptr 0 0 0)] [sc 0 v5] ?_
 rcases fk (decide ((v5.fRow.length : Int) > 0)) with hc16 | hc16
 replace h := bT hc16 h
 rw [hc16]
 refine qvM [4] [] trivial 9 50 [(44, .lit undef), (43, .lit undef), (42, .lit undef), (41, .lit undef), (40, .lit undef), (39, .lit undef), (38, .lit undef), (37, .lit undef), (36, .lit undef), (35, B true), (33, B true), (32, B true), (31, I (v5.fRow.length : Int)), (30, A v5.fRow), (29, .ptr 0 0 1), (28, B true), (27, B true), (26, .ptr 0 0 2), (23, B false), (22, B v11), (21, A v5.fRow), (20, .ptr 0 0 1), (0, A a0), (3, I x1), (4, .ptr 0 0 0)] [sc 0 v5] ?_
 refine qvM [4] [0] (hB trivial) 2 50 [(46, .lit undef), (45, .lit undef), (44, .lit undef), (43, .lit undef), (42, .lit undef), (41, .lit undef), (40, .lit undef), (39, .lit undef), (38, .lit undef), (37, .lit undef), (36, .lit undef), (35, B true), (33, B true), (32, B true), (31, I (v5.fRow.length : Int)), (30, A v5.fRow), (29, .ptr 0 0 1), (28, B true), (27, B true), (26, .ptr 0 0 2), (23, B false), (22, B v11), (21, A v5.fRow), (20, .ptr 0 0 1), (0, A a0), (3, I x1)] [sc 0 v5] ?_
 refine qvM [4] [] trivial 3 50 [(49, B true), (48, .lit undef), (47, .lit undef), (46, .lit undef), (45, .lit undef), (44, .lit undef), (43, .lit undef), (42, .lit undef), (41, .lit undef), (40, .lit undef), (39, .lit undef), (38, .lit undef), (37, .lit undef), (36, .lit undef), (33, B true), (32, B true), (31, I (v5.fRow.length : Int)), (30, A v5.fRow), (29, .ptr 0 0 1), (28, B true), (27, B true), (26, .ptr 0 0 2), (23, B false), (22, B v11), (21, A v5.fRow), (20, .ptr 0 0 1), (0, A a0), (3, I x1)] [sc 0 v5] ?_
 refine qn 50 [(0, A a0), (3, I x1), (20, .ptr 0 0 1), (21, A v5.fRow), (22, B v11), (23, B false), (26, .ptr 0 0 2), (27, B true), (28, B true), (29, .ptr 0 0 1), (30, A v5.fRow), (31, I (v5.fRow.length : Int)), (32, B true), (33, B true), (36, .lit undef), (37, .lit undef), (38, .lit undef), (39, .lit undef), (40, .lit undef), (41, .lit undef), (42, .lit undef), (43, .lit undef), (44, .lit undef), (45, .lit undef), (46, .lit undef), (47, .lit undef), (48, .lit undef), (49, B true)] [sc 0 v5] ?_
 exact ⟨true, h, it [0, 3, 49]⟩
 replace h := bF hc16 h
 rw [hc16]
 refine qvM [4] [] trivial 3 50 [(38, B (decide (x1 > 0))), (37, B (decide (x1 > 0))), (36, I x1), (35, B false), (33, B false), (32, B false), (31, I (v5.fRow.length : Int)), (30, A v5.fRow), (29, .ptr 0 0 1), (28, B true), (27, B true), (26, .ptr 0 0 2), (23, B false), (22, B v11), (21, A v5.fRow), (20, .ptr 0 0 1), (0, A a0), (3, I x1), (4, .ptr 0 0 0)] [sc 0 v5] ?_
 rcases fk (decide (x1 > 0)) with hc15 | hc15
 replace h := bT hc15 h
 rw [hc15]
 refine qvM [4] [] trivial 3 50 [(41, I (w64 (x1 - 1))), (40, I x1), (39, A a0), (38, B true), (37, B true), (36, I x1), (35, B false), (33, B false), (32, B false), (31, I (v5.fRow.length : Int)), (30, A v5.fRow), (29, .ptr 0 0 1), (28, B true), (27, B true), (26, .ptr 0 0 2), (23, B false), (22, B v11), (21, A v5.fRow), (20, .ptr 0 0 1), (0, A a0), (3, I x1), (4, .ptr 0 0 0)] [sc 0 v5] ?_
 obtain ⟨v13, hv14, h⟩ := bindS h
 refine qX (some 42) (pf v13 0) 50 [(42, pf v13 0), (41, I (w64 (x1 - 1))), (40, I x1), (39, A a0), (38, B true), (37, B true), (36, I x1), (35, B false), (33, B false), (32, B false), (31, I (v5.fRow.length : Int)), (30, A v5.fRow), (29, .ptr 0 0 1), (28, B true), (27, B true), (26, .ptr 0 0 2), (23, B false), (22, B v11), (21, A v5.fRow), (20, .ptr 0 0 1), (0, A a0), (3, I x1), (4, .ptr 0 0 0)] [sc 0 v5] (fun Γ' hΓ => CoreE.of_y (idxV_sound τ_ok (by kernel_rfl) hv14)) trivial ?_
 refine qvM [4] [] trivial 2 50 [(44, I v13.fKey), (43, pf v13 0), (42, pf v13 0), (41, I (w64 (x1 - 1))), (40, I x1), (39, A a0), (38, B true), (37, B true), (36, I x1), (35, B false), (33, B false), (32, B false), (31, I (v5.fRow.length : Int)), (30, A v5.fRow), (29, .ptr 0 0 1), (28, B true), (27, B true), (26, .ptr 0 0 2), (23, B false), (22, B v11), (21, A v5.fRow), (20, .ptr 0 0 1), (0, A a0), (3, I x1), (4, .ptr 0 0 0)] [sc 0 v5] ?_
 refine qvM [4] [0] (hB trivial) 2 50 [(46, I v5.fKey), (45, .ptr 0 0 0), (44, I v13.fKey), (43, pf v13 0), (42, pf v13 0), (41, I (w64 (x1 - 1))), (40, I x1), (39, A a0), (38, B true), (37, B true), (36, I x1), (35, B false), (33, B false), (32, B false), (31, I (v5.fRow.length : Int)), (30, A v5.fRow), (29, .ptr 0 0 1), (28, B true), (27, B true), (26, .ptr 0 0 2), (23, B false), (22, B v11), (21, A v5.fRow), (20, .ptr 0 0 1), (0, A a0), (3, I x1)] [sc 0 v5] ?_
 refine qvM [4] [] trivial 3 50 [(49, B (decide (v13.fKey ≥ v5.fKey))), (48, B (decide (v13.fKey ≥ v5.fKey))), (47, B (decide (v13.fKey ≥ v5.fKey))), (46, I v5.fKey), (45, .ptr 0 0 0), (44, I v13.fKey), (43, pf v13 0), (42, pf v13 0), (41, I (w64 (x1 - 1))), (40, I x1), (39, A a0), (38, B true), (37, B true), (36, I x1), (33, B false), (32, B false), (31, I (v5.fRow.length : Int)), (30, A v5.fRow), (29, .ptr 0 0 1), (28, B true), (27, B true), (26, .ptr 0 0 2), (23, B false), (22, B v11), (21, A v5.fRow), (20, .ptr 0 0 1), (0, A a0), (3, I x1)] [sc 0 v5] ?_
 refine qn 50 [(0, A a0), (3, I x1), (20, .ptr 0 0 1), (21, A v5.fRow), (22, B v11), (23, B false), (26, .ptr 0 0 2), (27, B true), (28, B true), (29, .ptr 0 0 1), (30, A v5.fRow), (31, I (v5.fRow.length : Int)), (32, B false), (33, B false), (36, I x1), (37, B true), (38, B true), (39, A a0), (40, I x1), (41, I (w64 (x1 - 1))), (42, pf v13 0), (43, pf v13 0), (44, I v13.fKey), (45, .ptr 0 0 0), (46, I v5.fKey), (47, B (decide (v13.fKey ≥ v5.fKey))), (48, B (decide (v13.fKey ≥ v5.fKey))), (49, B (decide (v13.fKey ≥ v5.fKey)))] [sc 0 v5] ?_
 exact ⟨(decide (v13.fKey ≥ v5.fKey)), h, it [0, 3, 49]⟩
 replace h := bF hc15 h
 rw [hc15]
 refine qvM [4] [] trivial 6 50 [(44, .lit undef), (43, .lit undef), (42, .lit undef), (41, .lit undef), (40, .lit undef), (39, .lit undef), (38, B false), (37, B false), (36, I x1), (35, B false), (33, B false), (32, B false), (31, I (v5.fRow.length : Int)), (30, A v5.fRow), (29, .ptr 0 0 1), (28, B true), (27, B true), (26, .ptr 0 0 2), (23, B false), (22, B v11), (21, A v5.fRow), (20, .ptr 0 0 1), (0, A a0), (3, I x1), (4, .ptr 0 0 0)] [sc 0 v5] ?_
 refine qvM [4] [0] (hB trivial) 2 50 [(46, .lit undef), (45, .lit undef), (44, .lit undef), (43, .lit undef), (42, .lit undef), (41, .lit undef), (40, .lit undef), (39, .lit undef), (38, B false), (37, B false), (36, I x1), (35, B false), (33, B false), (32, B false), (31, I (v5.fRow.length : Int)), (30, A v5.fRow), (29, .ptr 0 0 1), (28, B true), (27, B true), (26, .ptr 0 0 2), (23, B false), (22, B v11), (21, A v5.fRow), (20, .ptr 0 0 1), (0, A a0), (3, I x1)] [sc 0 v5] ?_
 refine qvM [4] [] trivial 3 50 [(49, B false), (48, B false), (47, .lit undef), (46, .lit undef), (45, .lit undef), (44, .lit undef), (43, .lit undef), (42, .lit undef), (41, .lit undef), (40, .lit undef), (39, .lit undef), (38, B false), (37, B false), (36, I x1), (33, B false), (32, B false), (31, I (v5.fRow.length : Int)), (30, A v5.fRow), (29, .ptr 0 0 1), (28, B true), (27, B true), (26, .ptr 0 0 2), (23, B false), (22, B v11), (21, A v5.fRow), (20, .ptr 0 0 1), (0, A a0), (3, I x1)] [sc 0 v5] ?_
 refine qn 50 [(0, A a0), (3, I x1), (20, .ptr 0 0 1), (21, A v5.fRow), (22, B v11), (23, B false), (26, .ptr 0 0 2), (27, B true), (28, B true), (29, .ptr 0 0 1), (30, A v5.fRow), (31, I (v5.fRow.length : Int)), (32, B false), (33, B false), (36, I x1), (37, B false), (38, B false), (39, .lit undef), (40, .lit undef), (41, .lit undef), (42, .lit undef), (43, .lit undef), (44, .lit undef), (45, .lit undef), (46, .lit undef), (47, .lit undef), (48, B false), (49, B false)] [sc 0 v5] ?_
 exact ⟨false, h, it [0, 3, 49]⟩
 replace h := bF hc20 h
 rw [hc20]
 refine qvM [4] [0] (hB trivial) 2 50 [(30, .lit undef), (29, .lit undef), (28, B false), (27, B false), (26, .ptr 0 0 2), (25, B false), (23, B false), (22, B v11), (21, A v5.fRow), (20, .ptr 0 0 1), (0, A a0), (3, I x1), (4, .ptr 0 0 0)] [sc 0 v5] ?_
 refine qvM [4] [] trivial 8 50 [(38, B (decide (x1 > 0))), (37, B (decide (x1 > 0))), (36, I x1), (35, B false), (33, B false), (32, .lit undef), (31, .lit undef), (30, .lit undef), (29, .lit undef), (28, B false), (27, B false), (26, .ptr 0 0 2), (23, B false), (22, B v11), (21, A v5.fRow), (20, .ptr 0 0 1), (0, A a0), (3, I x1), (4, .ptr 0 0 0)] [sc 0 v5] ?_
 rcases fk (decide (x1 > 0)) with hc19 | hc19
 replace h := bT hc19 h
 rw [hc19]
 refine qvM [4] [] trivial 3 50 [(41, I (w64 (x1 - 1))), (40, I x1), (39, A a0), (38, B true), (37, B true), (36, I x1), (35, B false), (33, B false), (32, .lit undef), (31, .lit undef), (30, .lit undef), (29, .lit undef), (28, B false), (27, B false), (26, .ptr 0 0 2), (23, B false), (22, B v11), (21, A v5.fRow), (20, .ptr 0 0 1), (0, A a0), (3, I x1), (4, .ptr 0 0 0)] [sc 0 v5] ?_
 obtain ⟨v17, hv18, h⟩ := bindS h
 refine qX (some 42) (pf v17 0) 50 [(42, pf v17 0), (41, I (w64 (x1 - 1))), (40, I x1), (39, A a0), (38, B true), (37, B true), (36, I x1), (35, B false), (33, B false), (32, .lit undef), (31, .lit undef), (30, .lit undef), (29, .lit undef), (28, B false), (27, B false), (26, .ptr 0 0 2), (23, B false), (22, B v11), (21, A v5.fRow), (20, .ptr 0 0 1), (0, A a0), (3, I x1), (4, .ptr 0 0 0)] [sc 0 v5] (fun Γ' hΓ => CoreE.of_y (idxV_sound τ_ok (by kernel_rfl) hv18)) trivial ?_
 refine qvM [4] [] trivial 2 50 [(44, I v17.fKey), (43, pf v17 0), (42, pf v17 0), (41, I (w64 (x1 - 1))), (40, I x1), (39, A a0), (38, B true), (37, B true), (36, I x1), (35, B false), (33, B false), (32, .lit undef), (31, .lit undef), (30, .lit undef), (29, .lit undef), (28, B false), (27, B false), (26, .ptr 0 0 2), (23, B false), (22, B v11), (21, A v5.fRow), (20, .ptr 0 0 1), (0, A a0), (3, I x1), (4, .ptr 0 0 0)] [sc 0 v5] ?_
 refine qvM [4] [0] (hB trivial) 2 50 [(46, I v5.fKey), (45, .ptr 0 0 0), (44, I v17.fKey), (43, pf v17 0), (42, pf v17 0), (41, I (w64 (x1 - 1))), (40, I x1), (39, A a0), (38, B true), (37, B true), (36, I x1), (35, B false), (33, B false), (32, .lit undef), (31, .lit undef), (30, .lit undef), (29, .lit undef), (28, B false), (27, B false), (26, .ptr 0 0 2), (23, B false), (22, B v11), (21, A v5.fRow), (20, .ptr 0 0 1), (0, A a0), (3, I x1)] [sc 0 v5] ?_
 refine qvM [4] [] trivial 3 50 [(49, B (decide (v17.fKey ≥ v5.fKey))), (48, B (decide (v17.fKey ≥ v5.fKey))), (47, B (decide (v17.fKey ≥ v5.fKey))), (46, I v5.fKey), (45, .ptr 0 0 0), (44, I v17.fKey), (43, pf v17 0), (42, pf v17 0), (41, I (w64 (x1 - 1))), (40, I x1), (39, A a0), (38, B true), (37, B true), (36, I x1), (33, B false), (32, .lit undef), (31, .lit undef), (30, .lit undef), (29, .lit undef), (28, B false), (27, B false), (26, .ptr 0 0 2), (23, B false), (22, B v11), (21, A v5.fRow), (20, .ptr 0 0 1), (0, A a0), (3, I x1)] [sc 0 v5] ?_
 refine qn 50 [(0, A a0), (3, I x1), (20, .ptr 0 0 1), (21, A v5.fRow), (22, B v11), (23, B false), (26, .ptr 0 0 2), (27, B false), (28, B false), (29, .lit undef), (30, .lit undef), (31, .lit undef), (32, .lit undef), (33, B false), (36, I x1), (37, B true), (38, B true), (39, A a0), (40, I x1), (41, I (w64 (x1 - 1))), (42, pf v17 0), (43, pf v17 0), (44, I v17.fKey), (45, .ptr 0 0 0), (46, I v5.fKey), (47, B (decide (v17.fKey ≥ v5.fKey))), (48, B (decide (v17.fKey ≥ v5.fKey))), (49, B (decide (v17.fKey ≥ v5.fKey)))] [sc 0 v5] ?_
 exact ⟨(decide (v17.fKey ≥ v5.fKey)), h, it [0, 3, 49]⟩
 replace h := bF hc19 h
 rw [hc19]
 refine qvM [4] [] trivial 6 50 [(44, .lit undef), (43, .lit undef), (42, .lit undef), (41, .lit undef), (40, .lit undef), (39, .lit undef), (38, B false), (37, B false), (36, I x1), (35, B false), (33, B false), (32, .lit undef), (31, .lit undef), (30, .lit undef), (29, .lit undef), (28, B false), (27, B false), (26, .ptr 0 0 2), (23, B false), (22, B v11), (21, A v5.fRow), (20, .ptr 0 0 1), (0, A a0), (3, I x1), (4, .ptr 0 0 0)] [sc 0 v5] ?_
 refine qvM [4] [0] (hB trivial) 2 50 [(46, .lit undef), (45, .lit undef), (44, .lit undef), (43, .lit undef), (42, .lit undef), (41, .lit undef), (40, .lit undef), (39, .lit undef), (38, B false), (37, B false), (36, I x1), (35, B false), (33, B false), (32, .lit undef), (31, .lit undef), (30, .lit undef), (29, .lit undef), (28, B false), (27, B false), (26, .ptr 0 0 2), (23, B false), (22, B v11), (21, A v5.fRow), (20, .ptr 0 0 1), (0, A a0), (3, I x1)] [sc 0 v5] ?_
 refine qvM [4] [] trivial 3 50 [(49, B false), (48, B false), (47, .lit undef), (46, .lit undef), (45, .lit undef), (44, .lit undef), (43, .lit undef), (42, .lit undef), (41, .lit undef), (40, .lit undef), (39, .lit undef), (38, B false), (37, B false), (36, I x1), (33, B false), (32, .lit undef), (31, .lit undef), (30, .lit undef), (29, .lit undef), (28, B false), (27, B false), (26, .ptr 0 0 2), (23, B false), (22, B v11), (21, A v5.fRow), (20, .ptr 0 0 1), (0, A a0), (3, I x1)] [sc 0 v5] ?_
 refine qn 50 [(0, A a0), (3, I x1), (20, .ptr 0 0 1), (21, A v5.fRow), (22, B v11), (23, B false), (26, .ptr 0 0 2), (27, B false), (28, B false), (29, .lit undef), (30, .lit undef), (31, .lit undef), (32, .lit undef), (33, B false), (36, I x1), (37, B false), (38, B false), (39, .lit undef), (40, .lit undef), (41, .lit undef), (42, .lit undef), (43, .lit undef), (44, .lit undef), (45, .lit undef), (46, .lit undef), (47, .lit undef), (48, B false), (49, B false)] [sc 0 v5] ?_
 exact ⟨false, h, it [0, 3, 49]⟩
 rintro x7 h
 unfold spec_WritesOk_j1 at h
 refine pc h (fun h => ?_) (fun h => ?_)
 refine srveM [4] 50 [(2, B false)] [sc 0 v5] ?_
 cases h
 exact pwp_ret rz
 refine pwp_skip ?_
 refine rveM [4] 50 [(0, A a0), (3, I (w64 (x1 + 1)))] [sc 0 v5] ?_
 exact ⟨(f2, (w64 (x1 + 1))), h, Nat.lt_succ_self _, (it (st' := ⟨50, [(0, A a0), (3, I (w64 (x1 + 1)))], [sc 0 v5]⟩) [0, 3]).trans (Imp.truncS 0 (nx hX) (by kernel_rfl) (allBelow_mem (by exact (And.intro rfl (And.intro rfl trivial)))) (by exact trivial) (by kernel_rfl))⟩
 refine pwp_exit ?_
 refine srveM [4] 50 [(2, B true)] [] ?_
 cases h
 exact pwp_ret rz
def impl_WritesOk_j1 (x1 : Int) (K3 : Int → Option Bool) (x7 : Bool) : Option Bool := bif x7 then some false else K3 (w64 (x1 + 1))
def impl_WritesOk_l0 (a0 : List T_impl_Write) : Nat → Int → Option Bool
 | 0, _ => none
 | f2 + 1, x1 => bif (decide (x1 < (a0.length : Int))) then (getI a0 x1).bind fun v5 => (impl_keyOk v5.fKey).bind fun v9 => bif (!v9) then impl_WritesOk_j1 x1 (impl_WritesOk_l0 a0 f2) true else (impl_RowOk v5.fRow).bind fun v11 => bif (!v11) then impl_WritesOk_j1 x1 (impl_WritesOk_l0 a0 f2) true else bif v5.fGone then bif (decide ((v5.fRow.length : Int) > 0)) then impl_WritesOk_j1 x1 (impl_WritesOk_l0 a0 f2) true else bif (decide (x1 > 0)) then (getI a0 (w64 (x1 - 1))).bind fun v13 => impl_WritesOk_j1 x1 (impl_WritesOk_l0 a0 f2) (decide (v13.fKey ≥ v5.fKey)) else impl_WritesOk_j1 x1 (impl_WritesOk_l0 a0 f2) false else bif (decide (x1 > 0)) then (getI a0 (w64 (x1 - 1))).bind fun v17 => impl_WritesOk_j1 x1 (impl_WritesOk_l0 a0 f2) (decide (v17.fKey ≥ v5.fKey)) else impl_WritesOk_j1 x1 (impl_WritesOk_l0 a0 f2) false else some (decide ((a0.length : Int) ≤ 5))
def impl_WritesOk (a0 : List T_impl_Write) : Option Bool := impl_WritesOk_l0 a0 FUEL 0
theorem ok_impl_WritesOk {a0 : List T_impl_Write} {y : Bool} (h : impl_WritesOk a0 = some y) : OK Try.prog 69 [A a0] (B y) := by
 refine ow Try.func69 fun Γ hX => ?_
 unfold impl_WritesOk at h
 refine srveM [4] 51 [(0, A a0)] [] ?_
 refine pwp_seq ?_
 refine srveM [4] 51 [(0, A a0), (5, A a0), (6, I (a0.length : Int)), (7, I 0)] [] ?_
 refine pwp_block ?_
 refine pwp_loop (ι := Nat × Int) (fun (f2, x1) => (⟨51, [(0, A a0), (5, A a0), (6, I (a0.length : Int)), (7, I x1)], []⟩ : St)) (fun (f2, x1) => impl_WritesOk_l0 a0 f2 x1 = some y) Prod.fst (FUEL, 0) h (it [0, 5, 6, 7]) ?_
 rintro ⟨f2, x1⟩ h
 dsimp only at h ⊢
 rcases f2 with _ | f2
 cases h
 rw [impl_WritesOk_l0] at h
 refine srveM [4] 51 [(0, A a0), (5, A a0), (6, I (a0.length : Int)), (7, I x1), (8, B (decide (x1 < (a0.length : Int))))] [] ?_
 refine pwp_seq ?_
 refine pc h (fun h => ?_) (fun h => ?_)
 refine pwp_skip ?_
 refine pwp_seq ?_
 refine pwp_block ?_
 refine srvM [4] 1 51 [(0, A a0), (5, A a0), (6, I (a0.length : Int)), (7, I x1), (9, I x1)] [] ?_
 obtain ⟨v5, hv6, h⟩ := bindS h
 refine opsP_idx τ_ok 10 hv6 (by kernel_rfl) ?_
 refine veM [4] 4 51 [(0, A a0), (3, I x1), (4, .ptr 0 0 0), (5, A a0), (6, I (a0.length : Int)), (7, I x1)] [sc 0 v5] ?_
 refine pwp_seq ?_
 refine pwp_join (σ := Bool) (fun x7 => (⟨51, [(0, A a0), (5, A a0), (6, I (a0.length : Int)), (7, I x1), (46, B x7)], [sc 0 v5]⟩ : St)) (fun x7 => impl_WritesOk_j1 x1 (impl_WritesOk_l0 a0 f2) x7 = some y) ?_ ?_
 refine ip 51 [(0, A a0), (3, I x1), (4, .ptr 0 0 0), (5, A a0), (6, I (a0.length : Int)), (7, I x1)] [sc 0 v5] ?_
 refine pwp_any ([[0], [0], [], [], [], [0], [0], [], [], [], [], [0], [0], [], [0], [0], [], [], [], [], [], [], [], [], [], [], [], [], [], [], [0], [0], [], [], []]) ([[], [], [], [], [], [], [], [], [], [], [], [], [], [], [], [], [], [], [], [], [], [], [], [], [], [], [], [], [], [], [], [], [], [], []]) rfl (by kernel_rfl) ?_
 refine qvM [4] [0] (hB trivial) 2 51 [(13, I v5.fKey), (0, A a0), (3, I x1), (4, .ptr 0 0 0), (5, A a0), (6, I (a0.length : Int)), (7, I x1)] [sc 0 v5] ?_
 obtain ⟨v9, hv10, h⟩ := bindS h
 refine qX (some 14) (B v9) 51 [(14, B v9), (0, A a0), (3, I x1), (4, .ptr 0 0 0), (5, A a0), (6, I (a0.length : Int)), (7, I x1)] [sc 0 v5] (fun Γ' hΓ => CoreE.of_g (callV_sound (τ := τ) (by kernel_rfl) rfl (ok_impl_keyOk hv10) (FzTo.frz rfl))) trivial ?_
 refine qvM [4] [] trivial 2 51 [(16, B (!v9)), (0, A a0), (3, I x1), (4, .ptr 0 0 0), (5, A a0), (6, I (a0.length : Int)), (7, I x1)] [sc 0 v5] ?_
 rcases fk (!v9) with hc22 | hc22
 replace h := bT hc22 h
 rw [hc22]
 refine qvM [4] [0] (hB trivial) 2 51 [(18, .lit undef), (17, .lit undef), (16, B true), (0, A a0), (3, I x1), (4, .ptr 0 0 0), (5, A a0), (6, I (a0.length : Int)), (7, I x1)] [sc 0 v5] ?_
 refine qvM [4] [] trivial 4 51 [(22, B true), (20, .lit undef), (19, .lit undef), (18, .lit undef), (17, .lit undef), (0, A a0), (3, I x1), (4, .ptr 0 0 0), (5, A a0), (6, I (a0.length : Int)), (7, I x1)] [sc 0 v5] ?_
 refine qvM [4] [0] (hB trivial) 2 51 [(24, .lit undef), (23, .lit undef), (22, B true), (20, .lit undef), (19, .lit undef), (18, .lit undef), (17, .lit undef), (0, A a0), (3, I x1), (4, .ptr 0 0 0), (5, A a0), (6, I (a0.length : Int)), (7, I x1)] [sc 0 v5] ?_
 refine qvM [4] [] trivial 1 51 [(25, .lit undef), (24, .lit undef), (23, .lit undef), (22, B true), (20, .lit undef), (19, .lit undef), (18, .lit undef), (17, .lit undef), (0, A a0), (3, I x1), (4, .ptr 0 0 0), (5, A a0), (6, I (a0.length : Int)), (7, I x1)] [sc 0 v5] ?_
 refine qvM [4] [0] (hB trivial) 2 51 [(27, .lit undef), (26, .lit undef), (25, .lit undef), (24, .lit undef), (23, .lit undef), (22, B true), (20, .lit undef), (19, .lit undef), (18, .lit undef), (17, .lit undef), (0, A a0), (3, I x1), (4, .ptr 0 0 0), (5, A a0), (6, I (a0.length : Int)), (7, I x1)] [sc 0 v5] ?_
 refine qvM [4] [] trivial 14 51 [(41, .lit undef), (40, .lit undef), (39, .lit undef), (38, .lit undef), (37, .lit undef), (36, .lit undef), (35, .lit undef), (34, .lit undef), (33, .lit undef), (32, B true), (30, .lit undef), (29, .lit undef), (28, .lit undef), (27, .lit undef), (26, .lit undef), (25, .lit undef), (24, .lit undef), (23, .lit undef), (20, .lit undef), (19, .lit undef), (18, .lit undef), (17, .lit undef), (0, A a0), (4, .ptr 0 0 0), (5, A a0), (6, I (a0.length : Int)), (7, I x1)] [sc 0 v5] ?_
 refine qvM [4] [0] (hB trivial) 2 51 [(43, .lit undef), (42, .lit undef), (41, .lit undef), (40, .lit undef), (39, .lit undef), (38, .lit undef), (37, .lit undef), (36, .lit undef), (35, .lit undef), (34, .lit undef), (33, .lit undef), (32, B true), (30, .lit undef), (29, .lit undef), (28, .lit undef), (27, .lit undef), (26, .lit undef), (25, .lit undef), (24, .lit undef), (23, .lit undef), (20, .lit undef), (19, .lit undef), (18, .lit undef), (17, .lit undef), (0, A a0), (5, A a0), (6, I (a0.length : Int)), (7, I x1)] [sc 0 v5] ?_
 refine qvM [4] [] trivial 3 51 [(46, B true), (45, .lit undef), (44, .lit undef), (43, .lit undef), (42, .lit undef), (41, .lit undef), (40, .lit undef), (39, .lit undef), (38, .lit undef), (37, .lit undef), (36, .lit undef), (35, .lit undef), (34, .lit undef), (33, .lit undef), (30, .lit undef), (29, .lit undef), (28, .lit undef), (27, .lit undef), (26, .lit undef), (25, .lit undef), (24, .lit undef), (23, .lit undef), (20, .lit undef), (19, .lit undef), (18, .lit undef), (17, .lit undef), (0, A a0), (5, A a0), (6, I (a0.length : Int)), (7, I x1)] [sc 0 v5] ?_
 refine qn 51 [(0, A a0), (5, A a0), (6, I (a0.length : Int)), (7, I x1), (17, .lit undef), (18, .lit undef), (19, .lit undef), (20, .lit undef), (23, .lit undef), (24, .lit undef), (25, .lit undef), (26, .lit undef), (27, .lit undef), (28, .lit undef), (29, .lit undef), (30, .lit undef), (33, .lit undef), (34, .lit undef), (35, .lit undef), (36, .lit undef), (37, .lit undef), (38, .lit undef), (39, .lit undef), (40, .lit undef), (41, .lit undef), (42, .lit undef), (43, .lit undef), (44, .lit undef), (45, .lit undef), (46, B true)] [sc 0 v5] ?_
 exact ⟨true, h, it [0, 5, 6, 7, 46]⟩
 replace h := bF hc22 h
 rw [hc22]
 refine qvM [4] [0] (hB trivial) 2 51 [(18, A v5.fRow), (17, .ptr 0 0 1), (16, B false), (0, A a0), (3, I x1), (4, .ptr 0 0 0), (5, A a0), (6, I (a0.length : Int)), (7, I x1)] [sc 0 v5] ?_
 obtain ⟨v11, hv12, h⟩ := bindS h
 refine qX (some 19) (B v11) 51 [(19, B v11), (18, A v5.fRow), (17, .ptr 0 0 1), (16, B false), (0, A a0), (3, I x1), (4, .ptr 0 0 0), (5, A a0), (6, I (a0.length : Int)), (7, I x1)] [sc 0 v5] (fun Γ' hΓ => CoreE.of_g (callV_sound (τ := τ) (by kernel_rfl) rfl (ok_impl_RowOk hv12) (FzTo.frz rfl))) trivial ?_
 refine qvM [4] [] trivial 3 51 [(22, B (!v11)), (20, B (!v11)), (19, B v11), (18, A v5.fRow), (17, .ptr 0 0 1), (0, A a0), (3, I x1), (4, .ptr 0 0 0), (5, A a0), (6, I (a0.length : Int)), (7, I x1)] [sc 0 v5] ?_
 rcases fk (!v11) with hc21 | hc21
 replace h := bT hc21 h
 rw [hc21]
 refine qvM [4] [0] (hB trivial) 2 51 [(24, .lit undef), (23, .lit undef), (22, B true), (20, B true), (19, B v11), (18, A v5.fRow), (17, .ptr 0 0 1), (0, A a0), (3, I x1), (4, .ptr 0 0 0), (5, A a0), (6, I (a0.length : Int)), (7, I x1)] [sc 0 v5] ?_
 refine qvM [4] [] trivial 1 51 [(25, .lit undef), (24, .lit undef), (23, .lit undef), (22, B true), (20, B true), (19, B v11), (18, A v5.fRow), (17, .ptr 0 0 1), (0, A a0), (3, I x1), (4, .ptr 0 0 0), (5, A a0), (6, I (a0.length : Int)), (7, I x1)] [sc 0 v5] ?_
 refine qvM [4] [0] (hB trivial) 2 51 [(27, .lit undef), (26, .lit undef), (25, .lit undef), (24, .lit undef), (23, .lit undef), (22, B true), (20, B true), (19, B v11), (18, A v5.fRow), (17, .ptr 0 0 1), (0, A a0), (3, I x1), (4, .ptr 0 0 0), (5, A a0), (6, I (a0.length : Int)), (7, I x1)] [sc 0 v5] ?_
 refine qvM [4] [] trivial 14 51 [(41, .lit undef), (40, .lit undef), (39, .lit undef), (38, .lit undef), (37, .lit undef), (36, .lit undef), (35, .lit undef), (34, .lit undef), (33, .lit undef), (32, B true), (30, .lit undef), (29, .lit undef), (28, .lit undef), (27, .lit undef), (26, .lit undef), (25, .lit undef), (24, .lit undef), (23, .lit undef), (20, B true), (19, B v11), (18, A v5.fRow), (17, .ptr 0 0 1), (0, A a0), (4, .ptr 0 0 0), (5, A a0), (6, I (a0.length : Int)), (7, I x1)] [sc 0 v5] ?_
 refine qvM [4] [0] (hB trivial) 2 51 [(43, .lit undef), (42, .lit undef), (41, .lit undef), (40, .lit undef), (39, .lit undef), (38, .lit undef), (37, .lit undef), (36, .lit undef), (35, .lit undef), (34, .lit undef), (33, .lit undef), (32, B true), (30, .lit undef), (29, .lit undef), (28, .lit undef), (27, .lit undef), (26, .lit undef), (25, .lit undef), (24, .lit undef), (23, .lit undef), (20, B true), (19, B v11), (18, A v5.fRow), (17, .ptr 0 0 1), (0, A a0), (5, A a0), (6, I (a0.length : Int)), (7, I x1)] [sc 0 v5] ?_
 refine qvM [4] [] trivial 3 51 [(46, B true), (45, .lit undef), (44, .lit undef), (43, .lit undef), (42, .lit undef), (41, .lit undef), (40, .lit undef), (39, .lit undef), (38, .lit undef), (37, .lit undef), (36, .lit undef), (35, .lit undef), (34, .lit undef), (33, .lit undef), (30, .lit undef), (29, .lit undef), (28, .lit undef), (27, .lit undef), (26, .lit undef), (25, .lit undef), (24, .lit undef), (23, .lit undef), (20, B true), (19, B v11), (18, A v5.fRow), (17, .ptr 0 0 1), (0, A a0), (5, A a0), (6, I (a0.length : Int)), (7, I x1)] [sc 0 v5] ?_
 refine qn 51 [(0, A a0), (5, A a0), (6, I (a0.length : Int)), (7, I x1), (17, .ptr 0 0 1), (18, A v5.fRow), (19, B v11), (20, B true), (23, .lit undef), (24, .lit undef), (25, .lit undef), (26, .lit undef), (27, .lit undef), (28, .lit undef), (29, .lit undef), (30, .lit undef), (33, .lit undef), (34, .lit undef), (35, .lit undef), (36, .lit undef), (37, .lit undef), (38, .lit undef), (39, .lit undef), (40, .lit undef), (41, .lit undef), (42, .lit undef), (43, .lit undef), (44, .lit undef), (45, .lit undef), (46, B true)] [sc 0 v5] ?_
 exact ⟨true, h, it [0, 5, 6, 7, 46]⟩
 replace h := bF hc21 h
 rw [hc21]
 refine qvM [4] [0] (hB trivial) 2 51 [(24, B v5.fGone), (23, .ptr 0 0 2), (22, B false), (20, B false), (19, B v11), (18, A v5.fRow), (17, .ptr 0 0 1), (0, A a0), (3, I x1), (4, .ptr 0 0 0), (5, A a0), (6, I (a0.length : Int)), (7, I x1)] [sc 0 v5] ?_
 refine qvM [4] [] trivial 1 51 [(25, B v5.fGone), (24, B v5.fGone), (23, .ptr 0 0 2), (22, B false), (20, B false), (19, B v11), (18, A v5.fRow), (17, .ptr 0 0 1), (0, A a0), (3, I x1), (4, .ptr 0 0 0), (5, A a0), (6, I (a0.length : Int)), (7, I x1)] [sc 0 v5] ?_
 rcases Bool.eq_false_or_eq_true v5.fGone with hc20 | hc20
 replace h := bT hc20 h
 rw [hc20]
 refine qvM [4] [0] (hB trivial) 2 51 [(27, A v5.fRow), (26, .ptr 0 0 1), (25, B true), (24, B true), (23, .ptr 0 0 2), (22, B false), (20, B false), (19, B v11), (18, A v5.fRow), (17, .ptr 0 0 1), (0, A a0), (3, I x1), (4, .ptr 0 0 0), (5, A a0), (6, I (a0.length : Int)), (7, I x1)] [sc 0 v5] ?_
 refine qvM [4] [] trivial 5 51 [(32, B (decide ((v5.fRow.length : Int) > 0))), (30, B (decide ((v5.fRow.length : Int) > 0))), (29, B (decide ((v5.fRow.length : Int) > 0))), (28, I (v5.fRow.length : Int)), (27, A v5.fRow), (26, .ptr 0 0 1), (25, B true), (24, B true), (23, .ptr 0 0 2), (20, B false), (19, B v11), (18, A v5.fRow), (17, .ptr 0 0 1), (0, A a0), (3, I x1), (4, .ptr 0 0 0), (5, A a0), (6, I (a0.length : Int)), (7, I x1)] [sc 0 v5] ?_
 rcases fk (decide ((v5.fRow.length : Int) > 0)) with hc16 | hc16
 replace h := bT hc16 h
 rw [hc16]
 refine qvM [4] [] trivial 9 51 [(41, .lit undef), (40, .lit undef), (39, .lit undef), (38, .lit undef), (37, .lit undef), (36, .lit undef), (35, .lit undef), (34, .lit undef), (33, .lit undef), (32, B true), (30, B true), (29, B true), (28, I (v5.fRow.length : Int)), (27, A v5.fRow), (26, .ptr 0 0 1), (25, B true), (24, B true), (23, .ptr 0 0 2), (20, B false), (19, B v11), (18, A v5.fRow), (17, .ptr 0 0 1), (0, A a0), (4, .ptr 0 0 0), (5, A a0), (6, I (a0.length : Int)), (7, I x1)] [sc 0 v5] ?_
 refine qvM [4] [0] (hB trivial) 2 51 [(43, .lit undef), (42, .lit undef), (41, .lit undef), (40, .lit undef), (39, .lit undef), (38, .lit undef), (37, .lit undef), (36, .lit undef), (35, .lit undef), (34, .lit undef), (33, .lit undef), (32, B true), (30, B true), (29, B true), (28, I (v5.fRow.length : Int)), (27, A v5.fRow), (26, .ptr 0 0 1), (25, B true), (24, B true), (23, .ptr 0 0 2), (20, B false), (19, B v11), (18, A v5.fRow), (17, .ptr 0 0 1), (0, A a0), (5, A a0), (6, I (a0.length : Int)), (7, I x1)] [sc 0 v5] ?_
 refine qvM [4] [] trivial 3 51 [(46, B true), (45, .lit undef), (44, .lit undef), (43, .lit undef), (42, .lit undef), (41, .lit undef), (40, .lit undef), (39, .lit undef), (38, .lit undef), (37, .lit undef), (36, .lit undef), (35, .lit undef), (34, .lit undef), (33, .lit undef), (30, B true), (29, B true), (28, I (v5.fRow.length : Int)), (27, A v5.fRow), (26, .ptr 0 0 1), (25, B true), (24, B true), (23, .ptr 0 0 2), (20, B false), (19, B v11), (18, A v5.fRow), (17, .ptr 0 0 1), (0, A a0), (5, A a0), (6, I (a0.length : Int)), (7, I x1)] [sc 0 v5] ?_
 refine qn 51 [(0, A a0), (5, A a0), (6, I (a0.length : Int)), (7, I x1), (17, .ptr 0 0 1), (18, A v5.fRow), (19, B v11), (20, B false), (23, .ptr 0 0 2), (24, B true), (25, B true), (26, .ptr 0 0 1), (27, A v5.fRow), (28, I (v5.fRow.length : Int)), (29, B true), (30, B true), (33, .lit undef), (34, .lit undef), (35, .lit undef), (36, .lit undef), (37, .lit undef), (38, .lit undef), (39, .lit undef), (40, .lit undef), (41, .lit undef), (42, .lit undef), (43, .lit undef), (44, .lit undef), (45, .lit undef), (46, B true)] [sc 0 v5] ?_
 exact ⟨true, h, it [0, 5, 6, 7, 46]⟩
 replace h := bF hc16 h
 rw [hc16]
 refine qvM [4] [] trivial 3 51 [(35, B (decide (x1 > 0))), (34, B (decide (x1 > 0))), (33, I x1), (32, B false), (30, B false), (29, B false), (28, I (v5.fRow.length : Int)), (27, A v5.fRow), (26, .ptr 0 0 1), (25, B true), (24, B true), (23, .ptr 0 0 2), (20, B false), (19, B v11), (18, A v5.fRow), (17, .ptr 0 0 1), (0, A a0), (3, I x1), (4, .ptr 0 0 0), (5, A a0), (6, I (a0.length : Int)), (7, I x1)] [sc 0 v5] ?_
 rcases fk (decide (x1 > 0)) with hc15 | hc15
 replace h := bT hc15 h
 rw [hc15]
 refine qvM [4] [] trivial 3 51 [(38, I (w64 (x1 - 1))), (37, I x1), (36, A a0), (35, B true), (34, B true), (33, I x1), (32, B false), (30, B false), (29, B false), (28, I (v5.fRow.length : Int)), (27, A v5.fRow), (26, .ptr 0 0 1), (25, B true), (24, B true), (23, .ptr 0 0 2), (20, B false), (19, B v11), (18, A v5.fRow), (17, .ptr 0 0 1), (0, A a0), (4, .ptr 0 0 0), (5, A a0), (6, I (a0.length : Int)), (7, I x1)] [sc 0 v5] ?_
 obtain ⟨v13, hv14, h⟩ := bindS h
 refine qX (some 39) (pf v13 0) 51 [(39, pf v13 0), (38, I (w64 (x1 - 1))), (37, I x1), (36, A a0), (35, B true), (34, B true), (33, I x1), (32, B false), (30, B false), (29, B false), (28, I (v5.fRow.length : Int)), (27, A v5.fRow), (26, .ptr 0 0 1), (25, B true), (24, B true), (23, .ptr 0 0 2), (20, B false), (19, B v11), (18, A v5.fRow), (17, .ptr 0 0 1), (0, A a0), (4, .ptr 0 0 0), (5, A a0), (6, I (a0.length : Int)), (7, I x1)] [sc 0 v5] (fun Γ' hΓ => CoreE.of_y (idxV_sound τ_ok (by kernel_rfl) hv14)) trivial ?_
 refine qvM [4] [] trivial 2 51 [(41, I v13.fKey), (40, pf v13 0), (39, pf v13 0), (38, I (w64 (x1 - 1))), (37, I x1), (36, A a0), (35, B true), (34, B true), (33, I x1), (32, B false), (30, B false), (29, B false), (28, I (v5.fRow.length : Int)), (27, A v5.fRow), (26, .ptr 0 0 1), (25, B true), (24, B true), (23, .ptr 0 0 2), (20, B false), (19, B v11), (18, A v5.fRow), (17, .ptr 0 0 1), (0, A a0), (4, .ptr 0 0 0), (5, A a0), (6, I (a0.length : Int)), (7, I x1)] [sc 0 v5] ?_
 refine qvM [4] [0] (hB trivial) 2 51 [(43, I v5.fKey), (42, .ptr 0 0 0), (41, I v13.fKey), (40, pf v13 0), (39, pf v13 0), (38, I (w64 (x1 - 1))), (37, I x1), (36, A a0), (35, B true), (34, B true), (33, I x1), (32, B false), (30, B false), (29, B false), (28, I (v5.fRow.length : Int)), (27, A v5.fRow), (26, .ptr 0 0 1), (25, B true), (24, B true), (23, .ptr 0 0 2), (20, B false), (19, B v11), (18, A v5.fRow), (17, .ptr 0 0 1), (0, A a0), (5, A a0), (6, I (a0.length : Int)), (7, I x1)] [sc 0 v5] ?_
 refine qvM [4] [] trivial 3 51 [(46, B (decide (v13.fKey ≥ v5.fKey))), (45, B (decide (v13.fKey ≥ v5.fKey))), (44, B (decide (v13.fKey ≥ v5.fKey))), (43, I v5.fKey), (42, .ptr 0 0 0), (41, I v13.fKey), (40, pf v13 0), (39, pf v13 0), (38, I (w64 (x1 - 1))), (37, I x1), (36, A a0), (35, B true), (34, B true), (33, I x1), (30, B false), (29, B false), (28, I (v5.fRow.length : Int)), (27, A v5.fRow), (26, .ptr 0 0 1), (25, B true), (24, B true), (23, .ptr 0 0 2), (20, B false), (19, B v11), (18, A v5.fRow), (17, .ptr 0 0 1), (0, A a0), (5, A a0), (6, I (a0.length : Int)), (7, I x1)] [sc 0 v5] ?_
 refine qn 51 [(0, A a0), (5, A a0), (6, I (a0.length : Int)), (7, I x1), (17, .ptr 0 0 1), (18, A v5.fRow), (19, B v11), (20, B false), (23, .ptr 0 0 2), (24, B true), (25, B true), (26, .ptr 0 0 1), (27, A v5.fRow), (28, I (v5.fRow.length : Int)), (29, B false), (30, B false), (33, I x1), (34, B true), (35, B true), (36, A a0), (37, I x1), (38, I (w64 (x1 - 1))), (39, pf v13 0), (40, pf v13 0), (41, I v13.fKey), (42, .ptr 0 0 0), (43, I v5.fKey), (44, B (decide (v13.fKey ≥ v5.fKey))), (45, B (decide (v13.fKey ≥ v5.fKey))), (46, B (decide (v13.fKey ≥ v5.fKey)))] [sc 0 v5] ?_
 exact ⟨(decide (v13.fKey ≥ v5.fKey)), h, it [0, 5, 6, 7, 46]⟩
 replace h := bF hc15 h
 rw [hc15]
 refine qvM [4] [] trivial 6 51 [(41, .lit undef), (40, .lit undef), (39, .lit undef), (38, .lit undef), (37, .lit undef), (36, .lit undef), (35, B false), (34, B false), (33, I x1), (32, B false), (30, B false), (29, B false), (28, I (v5.fRow.length : Int)), (27, A v5.fRow), (26, .ptr 0 0 1), (25, B true), (24, B true), (23, .ptr 0 0 2), (20, B false), (19, B v11), (18, A v5.fRow), (17, .ptr 0 0 1), (0, A a0), (4, .ptr 0 0 0), (5, A a0), (6, I (a0.length : Int)), (7, I x1)] [sc 0 v5] ?_
 refine qvM [4] [0] (hB trivial) 2 51 [(43, .lit undef), (42, .lit undef), (41, .lit undef), (40, .lit undef), (39, .lit undef), (38, .lit undef), (37, .lit undef), (36, .lit undef), (35, B false), (34, B false), (33, I x1), (32, B false), (30, B false), (29, B false), (28, I (v5.fRow.length : Int)), (27, A v5.fRow), (26, .ptr 0 0 1), (25, B true), (24, B true), (23, .ptr 0 0 2), (20, B false), (19, B v11), (18, A v5.fRow), (17, .ptr 0 0 1), (0, A a0), (5, A a0), (6, I (a0.length : Int)), (7, I x1)] [sc 0 v5] ?_
 refine qvM [4] [] trivial 3 51 [(46, B false), (45, B false), (44, .lit undef), (43, .lit undef), (42, .lit undef), (41, .lit undef), (40, .lit undef), (39, .lit undef), (38, .lit undef), (37, .lit undef), (36, .lit undef), (35, B false), (34, B false), (33, I x1), (30, B false), (29, B false), (28, I (v5.fRow.length : Int)), (27, A v5.fRow), (26, .ptr 0 0 1), (25, B true), (24, B true), (23, .ptr 0 0 2), (20, B false), (19, B v11), (18, A v5.fRow), (17, .ptr 0 0 1), (0, A a0), (5, A a0), (6, I (a0.length : Int)), (7, I x1)] [sc 0 v5] ?_
 refine qn 51 [(0, A a0), (5, A a0), (6, I (a0.length : Int)), (7, I x1), (17, .ptr 0 0 1), (18, A v5.fRow), (19, B v11), (20, B false), (23, .ptr 0 0 2), (24, B true), (25, B true), (26, .ptr 0 0 1), (27, A v5.fRow), (28, I (v5.fRow.length : Int)), (29, B false), (30, B false), (33, I x1), (34, B false), (35, B false), (36, .lit undef), (37, .lit undef), (38, .lit undef), (39, .lit undef), (40, .lit undef), (41, .lit undef), (42, .lit undef), (43, .lit undef), (44, .lit undef), (45, B false), (46, B false)] [sc 0 v5] ?_
 exact ⟨false, h, it [0, 5, 6, 7, 46]⟩
 replace h := bF hc20 h
 rw [hc20]
 refine qvM [4] [0] (hB trivial) 2 51 [(27, .lit undef), (26, .lit undef), (25, B false), (24, B false), (23, .ptr 0 0 2), (22, B false), (20, B false), (19, B v11), (18, A v5.fRow), (17, .ptr 0 0 1), (0, A a0), (3, I x1), (4, .ptr 0 0 0), (5, A a0), (6, I (a0.length : Int)), (7, I x1)] [sc 0 v5] ?_
 refine qvM [4] [] trivial 8 51 [(35, B (decide (x1 > 0))), (34, B (decide (x1 > 0))), (33, I x1), (32, B false), (30, B false), (29, .lit undef), (28, .lit undef), (27, .lit undef), (26, .lit undef), (25, B false), (24, B false), (23, .ptr 0 0 2), (20, B false), (19, B v11), (18, A v5.fRow), (17, .ptr 0 0 1), (0, A a0), (3, I x1), (4, .ptr 0 0 0), (5, A a0), (6, I (a0.length : Int)), (7, I x1)] [sc 0 v5] ?_
 rcases fk (decide (x1 > 0)) with hc19 | hc19
 replace h := bT hc19 h
 rw [hc19]
 refine qvM [4] [] trivial 3 51 [(38, I (w64 (x1 - 1))), (37, I x1), (36, A a0), (35, B true), (34, B true), (33, I x1), (32, B false), (30, B false), (29, .lit undef), (28, .lit undef), (27, .lit undef), (26, .lit undef), (25, B false), (24, B false), (23, .ptr 0 0 2), (20, B false), (19, B v11), (18, A v5.fRow), (17, .ptr 0 0 1), (0, A a0), (4, .ptr 0 0 0), (5, A a0), (6, I (a0.length : Int)), (7, I x1)] [sc 0 v5] ?_
 obtain ⟨v17, hv18, h⟩ := bindS h
 refine qX (some 39) (pf v17 0) 51 [(39, pf v17 0), (38, I (w64 (x1 - 1))), (37, I x1), (36, A a0), (35, B true), (34, B true), (33, I x1), (32, B false), (30, B false), (29, .lit undef), (28, .lit undef), (27, .lit undef), (26, .lit undef), (25, B false), (24, B false), (23, .ptr 0 0 2), (20, B false), (19, B v11), (18, A v5.fRow), (17, .ptr 0 0 1), (0, A a0), (4, .ptr 0 0 0), (5, A a0), (6, I (a0.length : Int)), (7, I x1)] [sc 0 v5] (fun Γ' hΓ => CoreE.of_y (idxV_sound τ_ok (by kernel_rfl) hv18)) trivial ?_
 refine qvM [4] [] trivial 2 51 [(41, I v17.fKey), (40, pf v17 0), (39, pf v17 0), (38, I (w64 (x1 - 1))), (37, I x1), (36, A a0), (35, B true), (34, B true), (33, I x1), (32, B false), (30, B false), (29, .lit undef), (28, .lit undef), (27, .lit undef), (26, .lit undef), (25, B false), (24, B false), (23, .ptr 0 0 2), (20, B false), (19, B v11), (18, A v5.fRow), (17, .ptr 0 0 1), (0, A a0), (4, .ptr 0 0 0), (5, A a0), (6, I (a0.length : Int)), (7, I x1)] [sc 0 v5] ?_
 refine qvM [4] [0] (hB trivial) 2 51 [(43, I v5.fKey), (42, .ptr 0 0 0), (41, I v17.fKey), (40, pf v17 0), (39, pf v17 0), (38, I (w64 (x1 - 1))), (37, I x1), (36, A a0), (35, B true), (34, B true), (33, I x1), (32, B false), (30, B false), (29, .lit undef), (28, .lit undef), (27, .lit undef), (26, .lit undef), (25, B false), (24, B false), (23, .ptr 0 0 2), (20, B false), (19, B v11), (18, A v5.fRow), (17, .ptr 0 0 1), (0, A a0), (5, A a0), (6, I (a0.length : Int)), (7, I x1)] [sc 0 v5] ?_
 refine qvM [4] [] trivial 3 51 [(46, B (decide (v17.fKey ≥ v5.fKey))), (45, B (decide (v17.fKey ≥ v5.fKey))), (44, B (decide (v17.fKey ≥ v5.fKey))), (43, I v5.fKey), (42, .ptr 0 0 0), (41, I v17.fKey), (40, pf v17 0), (39, pf v17 0), (38, I (w64 (x1 - 1))), (37, I x1), (36, A a0), (35, B true), (34, B true), (33, I x1), (30, B false), (29, .lit undef), (28, .lit undef), (27, .lit undef), (26, .lit undef), (25, B false), (24, B false), (23, .ptr 0 0 2), (20, B false), (19, B v11), (18, A v5.fRow), (17, .ptr 0 0 1), (0, A a0), (5, A a0), (6, I (a0.length : Int)), (7, I x1)] [sc 0 v5] ?_
 refine qn 51 [(0, A a0), (5, A a0), (6, I (a0.length : Int)), (7, I x1), (17, .ptr 0 0 1), (18, A v5.fRow), (19, B v11), (20, B false), (23, .ptr 0 0 2), (24, B false), (25, B false), (26, .lit undef), (27, .lit undef), (28, .lit undef), (29, .lit undef), (30, B false), (33, I x1), (34, B true), (35, B true), (36, A a0), (37, I x1), (38, I (w64 (x1 - 1))), (39, pf v17 0), (40, pf v17 0), (41, I v17.fKey), (42, .ptr 0 0 0), (43, I v5.fKey), (44, B (decide (v17.fKey ≥ v5.fKey))), (45, B (decide (v17.fKey ≥ v5.fKey))), (46, B (decide (v17.fKey ≥ v5.fKey)))] [sc 0 v5] ?_
 exact ⟨(decide (v17.fKey ≥ v5.fKey)), h, it [0, 5, 6, 7, 46]⟩
 replace h := bF hc19 h
 rw [hc19]
 refine qvM [4] [] trivial 6 51 [(41, .lit undef), (40, .lit undef), (39, .lit undef), (38, .lit undef), (37, .lit undef), (36, .lit undef), (35, B false), (34, B false), (33, I x1), (32, B false), (30, B false), (29, .lit undef), (28, .lit undef), (27, .lit undef), (26, .lit undef), (25, B false), (24, B false), (23, .ptr 0 0 2), (20, B false), (19, B v11), (18, A v5.fRow), (17, .ptr 0 0 1), (0, A a0), (4, .ptr 0 0 0), (5, A a0), (6, I (a0.length : Int)), (7, I x1)] [sc 0 v5] ?_
 refine qvM [4] [0] (hB trivial) 2 51 [(43, .lit undef), (42, .lit undef), (41, .lit undef), (40, .lit undef), (39, .lit undef), (38, .lit undef), (37, .lit undef), (36, .lit undef), (35, B false), (34, B false), (33, I x1), (32, B false), (30, B false), (29, .lit undef), (28, .lit undef), (27, .lit undef), (26, .lit undef), (25, B false), (24, B false), (23, .ptr 0 0 2), (20, B false), (19, B v11), (18, A v5.fRow), (17, .ptr 0 0 1), (0, A a0), (5, A a0), (6, I (a0.length : Int)), (7, I x1)] [sc 0 v5] ?_
 refine qvM [4] [] trivial 3 51 [(46, B false), (45, B false), (44, .lit undef), (43, .lit undef), (42, .lit undef), (41, .lit undef), (40, .lit undef), (39, .lit undef), (38, .lit undef), (37, .lit undef), (36, .lit undef), (35, B false), (34, B false), (33, I x1), (30, B false), (29, .lit undef), (28, .lit undef), (27, .lit undef), (26, .lit undef), (25, B false), (24, B false), (23, .ptr 0 0 2), (20, B false), (19, B v11), (18, A v5.fRow), (17, .ptr 0 0 1), (0, A a0), (5, A a0), (6, I (a0.length : Int)), (7, I x1)] [sc 0 v5] ?_
 refine qn 51 [(0, A a0), (5, A a0), (6, I (a0.length : Int)), (7, I x1), (17, .ptr 0 0 1), (18, A v5.fRow), (19, B v11), (20, B false), (23, .ptr 0 0 2), (24, B false), (25, B false), (26, .lit undef), (27, .lit undef), (28, .lit undef), (29, .lit undef), (30, B false), (33, I x1), (34, B false), (35, B false), (36, .lit undef), (37, .lit undef), (38, .lit undef), (39, .lit undef), (40, .lit undef), (41, .lit undef), (42, .lit undef), (43, .lit undef), (44, .lit undef), (45, B false), (46, B false)] [sc 0 v5] ?_
 exact ⟨false, h, it [0, 5, 6, 7, 46]⟩
 rintro x7 h
 unfold impl_WritesOk_j1 at h
 refine pc h (fun h => ?_) (fun h => ?_)
 refine srveM [4] 51 [(2, B false)] [sc 0 v5] ?_
 cases h
 exact pwp_ret rz
 refine pwp_skip ?_
 refine rveM [4] 51 [(0, A a0), (5, A a0), (6, I (a0.length : Int)), (7, I (w64 (x1 + 1)))] [sc 0 v5] ?_
 exact ⟨(f2, (w64 (x1 + 1))), h, Nat.lt_succ_self _, (it (st' := ⟨51, [(0, A a0), (5, A a0), (6, I (a0.length : Int)), (7, I (w64 (x1 + 1)))], [sc 0 v5]⟩) [0, 5, 6, 7]).trans (Imp.truncS 0 (nx hX) (by kernel_rfl) (allBelow_mem (by exact (And.intro rfl (And.intro rfl (And.intro rfl (And.intro rfl trivial)))))) (by exact trivial) (by kernel_rfl))⟩
 refine pwp_exit ?_
 refine srveM [4] 51 [(2, B (decide ((a0.length : Int) ≤ 5)))] [] ?_
 cases h
 exact pwp_ret rz
def spec_l13Version (a0 : T_impl_Version) : Option Bool := (spec_l1In a0.fKey 0 4).bind fun v1 => bif v1 then (spec_l1In a0.fBorn 1 40).bind fun v3 => bif v3 then bif (a0.fDied == 0) then (spec_RowOk a0.fRow).bind fun v5 => some v5 else (spec_l1In a0.fDied (w64 (a0.fBorn + 1)) 40).bind fun v7 => bif v7 then (spec_RowOk a0.fRow).bind fun v9 => some v9 else some false else some false else some false
theorem ok_spec_l13Version {a0 : T_impl_Version} {y : Bool} (h : spec_l13Version a0 = some y) : OK Try.prog 74 [E a0] (B y) := by
 refine ow Try.func74 fun Γ hX => ?_
 unfold spec_l13Version at h
 refine srve 29 [(1, pf a0 0)] [] ?_
 refine srv 2 29 [(1, pf a0 0), (4, I a0.fKey)] [] ?_
 obtain ⟨v1, hv2, h⟩ := bindS h
 refine cF 5 (ok_spec_l1In hv2) ?_
 refine v 1 29 [(1, pf a0 0), (6, B v1)] [] ?_
 rcases Bool.eq_false_or_eq_true v1 with hc14 | hc14
 replace h := bT hc14 h
 rw [hc14]
 refine v 2 29 [(1, pf a0 0), (6, B true), (8, I a0.fBorn)] [] ?_
 obtain ⟨v3, hv4, h⟩ := bindS h
 refine cF 9 (ok_spec_l1In hv4) ?_
 refine v 2 29 [(1, pf a0 0), (11, B v3)] [] ?_
 rcases Bool.eq_false_or_eq_true v3 with hc13 | hc13
 replace h := bT hc13 h
 rw [hc13]
 refine v 4 29 [(1, pf a0 0), (11, B true), (15, B (a0.fDied == 0))] [] ?_
 rcases fk (a0.fDied == 0) with hc12 | hc12
 replace h := bT hc12 h
 rw [hc12]
 refine v 11 29 [(24, B true), (26, A a0.fRow)] [] ?_
 obtain ⟨v5, hv6, h⟩ := bindS h
 refine cF 27 (ok_spec_RowOk hv6) ?_
 refine ve 2 29 [(2, B v5)] [] ?_
 cases h
 exact pwp_ret rz
 replace h := bF hc12 h
 rw [hc12]
 refine v 5 29 [(1, pf a0 0), (11, B true), (15, B false), (17, I a0.fDied), (20, I (w64 (a0.fBorn + 1)))] [] ?_
 obtain ⟨v7, hv8, h⟩ := bindS h
 refine cF 21 (ok_spec_l1In hv8) ?_
 refine v 3 29 [(1, pf a0 0), (24, B v7)] [] ?_
 rcases Bool.eq_false_or_eq_true v7 with hc11 | hc11
 replace h := bT hc11 h
 rw [hc11]
 refine v 2 29 [(24, B true), (26, A a0.fRow)] [] ?_
 obtain ⟨v9, hv10, h⟩ := bindS h
 refine cF 27 (ok_spec_RowOk hv10) ?_
 refine ve 2 29 [(2, B v9)] [] ?_
 cases h
 exact pwp_ret rz
 replace h := bF hc11 h
 rw [hc11]
 refine ve 5 29 [(2, B false)] [] ?_
 cases h
 exact pwp_ret rz
 replace h := bF hc13 h
 rw [hc13]
 refine ve 18 29 [(2, B false)] [] ?_
 cases h
 exact pwp_ret rz
 replace h := bF hc14 h
 rw [hc14]
 refine ve 23 29 [(2, B false)] [] ?_
 cases h
 exact pwp_ret rz
def spec_l31Less (a0 : T_impl_Mark) (a1 : T_impl_Mark) : Option Bool := (spec_ValueOrder a0.fV a1.fV).bind fun v1 => bif (!(v1 == 0)) then some (decide (v1 < 0)) else bif (decide (a0.fKey < a1.fKey)) then some true else bif (a0.fKey == a1.fKey) then some (decide (a0.fBorn < a1.fBorn)) else some false
theorem ok_spec_l31Less {a0 : T_impl_Mark} {a1 : T_impl_Mark} {y : Bool} (h : spec_l31Less a0 a1 = some y) : OK Try.prog 75 [E a0, E a1] (B y) := by
 refine ow Try.func75 fun Γ hX => ?_
 unfold spec_l31Less at h
 refine srve 34 [(2, pf a0 0), (3, pf a1 0)] [] ?_
 refine pwp_seq ?_
 refine srv 4 34 [(2, pf a0 0), (3, pf a1 0), (7, E a0.fV), (9, E a1.fV)] [] ?_
 obtain ⟨v1, hv2, h⟩ := bindS h
 refine cF 10 (ok_spec_ValueOrder hv2) ?_
 refine ve 1 34 [(2, pf a0 0), (3, pf a1 0), (5, I v1)] [] ?_
 refine srve 34 [(2, pf a0 0), (3, pf a1 0), (5, I v1), (12, B (!(v1 == 0)))] [] ?_
 refine pc h (fun h => ?_) (fun h => ?_)
 refine srve 34 [(4, B (decide (v1 < 0)))] [] ?_
 cases h
 exact pwp_ret rz
 refine pwp_skip ?_
 refine srv 6 34 [(2, pf a0 0), (3, pf a1 0), (20, B (decide (a0.fKey < a1.fKey)))] [] ?_
 rcases fk (decide (a0.fKey < a1.fKey)) with hc5 | hc5
 replace h := bT hc5 h
 rw [hc5]
 refine ve 14 34 [(4, B true)] [] ?_
 cases h
 exact pwp_ret rz
 replace h := bF hc5 h
 rw [hc5]
 refine v 6 34 [(2, pf a0 0), (3, pf a1 0), (20, B false), (26, B (a0.fKey == a1.fKey))] [] ?_
 rcases fk (a0.fKey == a1.fKey) with hc4 | hc4
 replace h := bT hc4 h
 rw [hc4]
 refine ve 8 34 [(4, B (decide (a0.fBorn < a1.fBorn)))] [] ?_
 cases h
 exact pwp_ret rz
 replace h := bF hc4 h
 rw [hc4]
 refine ve 8 34 [(4, B false)] [] ?_
 cases h
 exact pwp_ret rz
def impl_Value_order (a0 : T_impl_Value) (a1 : T_impl_Value) : Option Int := (cmp_Compare_int a0.fKind a1.fKind).bind fun v1 => (cmp_Compare_int a0.fN a1.fN).bind fun v3 => (cmp_Compare_string a0.fS a1.fS).bind fun v5 => (cmp_Or_int ([v1, v3, v5])).bind fun v7 => some v7
theorem ok_impl_Value_order {a0 : T_impl_Value} {a1 : T_impl_Value} {y : Int} (h : impl_Value_order a0 a1 = some y) : OK Try.prog 80 [E a0, E a1] (I y) := by
 refine ow Try.func80 fun Γ hX => ?_
 unfold impl_Value_order at h
 refine srve 22 [(2, pf a0 0), (3, pf a1 0)] [] ?_
 refine pwp_seq ?_
 refine ip 22 [(2, pf a0 0), (3, pf a1 0)] [] ?_
 refine pN 18 ?_
 refine qv [] trivial 4 22 [(8, I a1.fKind), (6, I a0.fKind), (2, pf a0 0), (3, pf a1 0)] [] ?_
 obtain ⟨v1, hv2, h⟩ := bindS h
 refine qX (some 9) (I v1) 22 [(9, I v1), (2, pf a0 0), (3, pf a1 0)] [] (fun Γ' hΓ => CoreE.of_g (callV_sound (τ := τ) (by kernel_rfl) rfl (ok_cmp_Compare_int hv2) (FzTo.frz rfl))) trivial ?_
 refine qv [] trivial 4 22 [(13, I a1.fN), (11, I a0.fN), (9, I v1), (2, pf a0 0), (3, pf a1 0)] [] ?_
 obtain ⟨v3, hv4, h⟩ := bindS h
 refine qX (some 14) (I v3) 22 [(14, I v3), (9, I v1), (2, pf a0 0), (3, pf a1 0)] [] (fun Γ' hΓ => CoreE.of_g (callV_sound (τ := τ) (by kernel_rfl) rfl (ok_cmp_Compare_int hv4) (FzTo.frz rfl))) trivial ?_
 refine qv [] trivial 4 22 [(18, S a1.fS), (16, S a0.fS), (14, I v3), (9, I v1)] [] ?_
 obtain ⟨v5, hv6, h⟩ := bindS h
 refine qX (some 19) (I v5) 22 [(19, I v5), (14, I v3), (9, I v1)] [] (fun Γ' hΓ => CoreE.of_g (callV_sound (τ := τ) (by kernel_rfl) rfl (ok_cmp_Compare_string hv6) (FzTo.frz rfl))) trivial ?_
 refine qv [] trivial 1 22 [(20, .arr 1 ([v1, v3, v5] : List Int).length (eL ([v1, v3, v5] : List Int)) true)] [] ?_
 obtain ⟨v7, hv8, h⟩ := bindS h
 refine qX (some 21) (I v7) 22 [(21, I v7)] [] (fun Γ' hΓ => CoreE.of_g (callV_sound (τ := τ) (by kernel_rfl) rfl (ok_cmp_Or_int hv8) (FzTo.frz rfl))) trivial ?_
 refine qvn [] trivial 1 22 [(4, I v7)] [] ?_
 cases h
 exact pwp_ret rz
def laws_szWriteS_l0 (a0 : List T_laws_Write) : Nat → Int → Int → Option Int
 | 0, _, _ => none
 | f4 + 1, x2, x3 => bif (decide (x3 < (a0.length : Int))) then (getI a0 x3).bind fun v7 => (laws_szWrite v7 x2).bind fun v9 => bif (decide (v9 < 0)) then some (-1) else (laws_szWriteS_l0 a0 f4) v9 (w64 (x3 + 1)) else some x2
def laws_szWriteS (a0 : List T_laws_Write) (a1 : Int) : Option Int := bif (decide ((w64 (a1 - (a0.length : Int))) < 0)) then some (-1) else laws_szWriteS_l0 a0 FUEL (w64 (a1 - (a0.length : Int))) 0
theorem ok_laws_szWriteS {a0 : List T_laws_Write} {a1 : Int} {y : Int} (h : laws_szWriteS a0 a1 = some y) : OK Try.prog 26 [A a0, I a1] (I y) := by
 refine ow Try.func26 fun Γ hX => ?_
 unfold laws_szWriteS at h
 refine srve 27 [(0, A a0), (1, I a1)] [] ?_
 refine srve 27 [(0, A a0), (1, I (w64 (a1 - (a0.length : Int))))] [] ?_
 refine pwp_seq ?_
 refine srve 27 [(0, A a0), (1, I (w64 (a1 - (a0.length : Int)))), (11, B (decide ((w64 (a1 - (a0.length : Int))) < 0)))] [] ?_
 refine pc h (fun h => ?_) (fun h => ?_)
 refine srve 27 [(4, I (-1))] [] ?_
 cases h
 exact pwp_ret rz
 refine pwp_skip ?_
 refine pwp_seq ?_
 refine srve 27 [(0, A a0), (1, I (w64 (a1 - (a0.length : Int)))), (5, I 0)] [] ?_
 refine pwp_block ?_
 refine pwp_loop (ι := Nat × Int × Int) (fun (f4, x2, x3) => (⟨27, [(0, A a0), (1, I x2), (5, I x3)], []⟩ : St)) (fun (f4, x2, x3) => laws_szWriteS_l0 a0 f4 x2 x3 = some y) Prod.fst (FUEL, (w64 (a1 - (a0.length : Int))), 0) h (it [0, 1, 5]) ?_
 rintro ⟨f4, x2, x3⟩ h
 dsimp only at h ⊢
 rcases f4 with _ | f4
 cases h
 rw [laws_szWriteS_l0] at h
 refine pwp_seq ?_
 refine srve 27 [(0, A a0), (1, I x2), (5, I x3), (15, B (decide (x3 < (a0.length : Int))))] [] ?_
 refine pc h (fun h => ?_) (fun h => ?_)
 refine pwp_skip ?_
 refine pwp_seq ?_
 refine pwp_block ?_
 refine srv 2 27 [(0, A a0), (1, I x2), (5, I x3), (18, A a0), (19, I x3)] [] ?_
 obtain ⟨v7, hv8, h⟩ := bindS h
 refine opsP_idx τ_ok 20 hv8 (by kernel_rfl) ?_
 refine v 2 27 [(0, A a0), (5, I x3), (21, E v7), (22, I x2)] [] ?_
 obtain ⟨v9, hv10, h⟩ := bindS h
 refine cF 23 (ok_laws_szWrite hv10) ?_
 refine ve 1 27 [(0, A a0), (1, I v9), (5, I x3)] [] ?_
 refine srve 27 [(0, A a0), (1, I v9), (5, I x3), (25, B (decide (v9 < 0)))] [] ?_
 refine pc h (fun h => ?_) (fun h => ?_)
 refine srve 27 [(4, I (-1))] [] ?_
 cases h
 exact pwp_ret rz
 refine pwp_skip ?_
 refine rve 27 [(0, A a0), (1, I v9), (5, I (w64 (x3 + 1)))] [] ?_
 exact ⟨(f4, v9, (w64 (x3 + 1))), h, Nat.lt_succ_self _, it [0, 1, 5]⟩
 refine pwp_exit ?_
 refine srve 27 [(4, I x2)] [] ?_
 cases h
 exact pwp_ret rz
def spec_l31Put_j1 (a0 : List T_impl_Mark) (a1 : T_impl_Mark) (x1 : Int) (K3 : Int → Option (List T_impl_Mark)) (x4 : Bool) : Option (List T_impl_Mark) := bif x4 then K3 (w64 (x1 - 1)) else (slI a0 none (some x1) none).bind fun v6 => (app ([] : List T_impl_Mark) v6).bind fun v8 => (app v8 ([a1] : List T_impl_Mark)).bind fun v10 => (slI a0 (some x1) none none).bind fun v12 => (app v10 v12).bind fun v14 => some v14
def spec_l31Put_l0 (a0 : List T_impl_Mark) (a1 : T_impl_Mark) : Nat → Int → Option (List T_impl_Mark)
 | 0, _ => none
 | f2 + 1, x1 => bif (decide (x1 > 0)) then (getI a0 (w64 (x1 - 1))).bind fun v16 => (spec_l31Less a1 v16).bind fun v18 => spec_l31Put_j1 a0 a1 x1 (spec_l31Put_l0 a0 a1 f2) v18 else spec_l31Put_j1 a0 a1 x1 (spec_l31Put_l0 a0 a1 f2) false
def spec_l31Put (a0 : List T_impl_Mark) (a1 : T_impl_Mark) : Option (List T_impl_Mark) := spec_l31Put_l0 a0 a1 FUEL (a0.length : Int)
theorem ok_spec_l31Put {a0 : List T_impl_Mark} {a1 : T_impl_Mark} {y : List T_impl_Mark} (h : spec_l31Put a0 a1 = some y) : OK Try.prog 35 [A a0, E a1] (O y) := by
 refine ow Try.func35 fun Γ hX => ?_
 unfold spec_l31Put at h
 refine srve 35 [(0, A a0), (3, pf a1 0)] [] ?_
 refine srve 35 [(0, A a0), (3, pf a1 0), (5, I (a0.length : Int))] [] ?_
 refine pwp_seq ?_
 refine pwp_block ?_
 refine pwp_loop (ι := Nat × Int) (fun (f2, x1) => (⟨35, [(0, A a0), (3, pf a1 0), (5, I x1)], []⟩ : St)) (fun (f2, x1) => spec_l31Put_l0 a0 a1 f2 x1 = some y) Prod.fst (FUEL, (a0.length : Int)) h (it [0, 3, 5]) ?_
 rintro ⟨f2, x1⟩ h
 dsimp only at h ⊢
 rcases f2 with _ | f2
 cases h
 rw [spec_l31Put_l0] at h
 refine pwp_seq ?_
 refine pwp_seq ?_
 refine pwp_join (σ := Bool) (fun x4 => (⟨35, [(0, A a0), (3, pf a1 0), (5, I x1), (19, B x4)], []⟩ : St)) (fun x4 => spec_l31Put_j1 a0 a1 x1 (spec_l31Put_l0 a0 a1 f2) x4 = some y) ?_ ?_
 refine ip 35 [(0, A a0), (3, pf a1 0), (5, I x1)] [] ?_
 refine pN 11 ?_
 refine qv [] trivial 3 35 [(11, B (decide (x1 > 0))), (0, A a0), (3, pf a1 0), (5, I x1)] [] ?_
 rcases fk (decide (x1 > 0)) with hc20 | hc20
 replace h := bT hc20 h
 rw [hc20]
 refine qv [] trivial 4 35 [(15, I (w64 (x1 - 1))), (14, I x1), (13, A a0), (12, E a1), (11, B true), (0, A a0), (3, pf a1 0), (5, I x1)] [] ?_
 obtain ⟨v16, hv17, h⟩ := bindS h
 refine qX (some 16) (pf v16 0) 35 [(16, pf v16 0), (15, I (w64 (x1 - 1))), (14, I x1), (13, A a0), (12, E a1), (11, B true), (0, A a0), (3, pf a1 0), (5, I x1)] [] (fun Γ' hΓ => CoreE.of_y (idxV_sound τ_ok (by kernel_rfl) hv17)) trivial ?_
 refine qv [] trivial 1 35 [(17, E v16), (16, pf v16 0), (15, I (w64 (x1 - 1))), (14, I x1), (13, A a0), (12, E a1), (11, B true), (0, A a0), (3, pf a1 0), (5, I x1)] [] ?_
 obtain ⟨v18, hv19, h⟩ := bindS h
 refine qX (some 18) (B v18) 35 [(18, B v18), (17, E v16), (16, pf v16 0), (15, I (w64 (x1 - 1))), (14, I x1), (13, A a0), (12, E a1), (11, B true), (0, A a0), (3, pf a1 0), (5, I x1)] [] (fun Γ' hΓ => CoreE.of_g (callV_sound (τ := τ) (by kernel_rfl) rfl (ok_spec_l31Less hv19) (FzTo.frz rfl))) trivial ?_
 refine qvn [] trivial 1 35 [(0, A a0), (3, pf a1 0), (5, I x1), (12, E a1), (13, A a0), (14, I x1), (15, I (w64 (x1 - 1))), (16, pf v16 0), (17, E v16), (18, B v18), (19, B v18)] [] ?_
 exact ⟨v18, h, it [0, 3, 5, 19]⟩
 replace h := bF hc20 h
 rw [hc20]
 refine qvn [] trivial 8 35 [(0, A a0), (3, pf a1 0), (5, I x1), (12, .lit undef), (13, .lit undef), (14, .lit undef), (15, .lit undef), (16, .lit undef), (17, .lit undef), (18, .lit undef), (19, B false)] [] ?_
 exact ⟨false, h, it [0, 3, 5, 19]⟩
 rintro x4 h
 unfold spec_l31Put_j1 at h
 refine pc h (fun h => ?_) (fun h => ?_)
 refine pwp_skip ?_
 refine pwp_block ?_
 refine rve 35 [(0, A a0), (3, pf a1 0), (5, I (w64 (x1 - 1)))] [] ?_
 exact ⟨(f2, (w64 (x1 - 1))), h, Nat.lt_succ_self _, it [0, 3, 5]⟩
 refine pwp_exit ?_
 refine srv 3 35 [(0, A a0), (3, pf a1 0), (5, I x1), (22, .arr 6 0 (eL ([] : List T_impl_Mark)) true), (23, A a0), (24, I x1)] [] ?_
 obtain ⟨v6, hv7, h⟩ := bindS h
 refine opsP_slc τ_ok 25 hv7 (by kernel_rfl) ?_
 refine opsP_thaw 22 6 (by kernel_rfl) ?_
 obtain ⟨v8, hv9, h⟩ := bindS h
 refine opsP_app τ_ok 26 0 0 (nx hX) hv9 (by kernel_rfl) ?_
 refine ve 1 35 [(0, A a0), (3, pf a1 0), (5, I x1), (6, rf 0 1 6 v8)] [sl 1 v8] ?_
 refine pwp_seq ?_
 refine ip 35 [(0, A a0), (3, pf a1 0), (5, I x1), (6, rf 0 1 6 v8)] [sl 1 v8] ?_
 refine pwp_any ([[], [], [], [0], [], [], [], [0], []]) ([[], [], [], [0], [], [], [], [0], []]) rfl (by kernel_rfl) ?_
 refine qA_mv (⟨35, [(27, rf 0 1 6 v8), (0, A a0), (3, pf a1 0), (5, I x1), (6, rf 0 1 6 v8)], [sl 1 v8]⟩) (by kernel_rfl) rfl ?_
 refine qv [] trivial 2 35 [(29, .arr 6 ([a1] : List T_impl_Mark).length (eL ([a1] : List T_impl_Mark)) true), (27, rf 0 1 6 v8), (0, A a0), (5, I x1)] [sl 1 v8] ?_
 obtain ⟨v10, hv11, h⟩ := bindS h
 refine qX (some 30) (rf 0 2 6 v10) 35 [(30, rf 0 2 6 v10), (0, A a0), (5, I x1)] [sl 2 v10] (fun Γ' hΓ => app_Ew τ_ok 30 0 1 (ny hΓ hX) hv11 (by kernel_rfl)) (hL trivial) ?_
 refine qv [] trivial 2 35 [(32, I x1), (31, A a0), (30, rf 0 2 6 v10)] [sl 2 v10] ?_
 obtain ⟨v12, hv13, h⟩ := bindS h
 refine qX (some 33) (A v12) 35 [(33, A v12), (30, rf 0 2 6 v10)] [sl 2 v10] (fun Γ' hΓ => CoreE.of_y (slcV_sound τ_ok (by kernel_rfl) hv13)) trivial ?_
 obtain ⟨v14, hv15, h⟩ := bindS h
 refine qX (some 34) (rf 0 3 6 v14) 35 [(34, rf 0 3 6 v14)] [sl 3 v14] (fun Γ' hΓ => app_Ew τ_ok 34 0 2 (ny hΓ hX) hv15 (by kernel_rfl)) (hL trivial) ?_
 refine qA_mv (⟨35, [(4, rf 0 3 6 v14), (34, rf 0 3 6 v14)], [sl 3 v14]⟩) (by kernel_rfl) rfl ?_
 refine qn 35 [(4, rf 0 3 6 v14)] [sl 3 v14] ?_
 have h := si h
 subst h
 exact pwp_ret (rt (rf 0 3 6 v14) (OutP.list (v := 3) (by kernel_rfl)))
def impl_Mark_order (a0 : T_impl_Mark) (a1 : T_impl_Mark) : Option Int := (impl_Value_order a0.fV a1.fV).bind fun v1 => (cmp_Compare_int a0.fKey a1.fKey).bind fun v3 => (cmp_Compare_int a0.fBorn a1.fBorn).bind fun v5 => (cmp_Or_int ([v1, v3, v5])).bind fun v7 => some v7
theorem ok_impl_Mark_order {a0 : T_impl_Mark} {a1 : T_impl_Mark} {y : Int} (h : impl_Mark_order a0 a1 = some y) : OK Try.prog 40 [E a0, E a1] (I y) := by
 refine ow Try.func40 fun Γ hX => ?_
 unfold impl_Mark_order at h
 refine srve 22 [(2, pf a0 0), (3, pf a1 0)] [] ?_
 refine pwp_seq ?_
 refine ip 22 [(2, pf a0 0), (3, pf a1 0)] [] ?_
 refine pN 18 ?_
 refine qv [] trivial 4 22 [(8, E a1.fV), (6, E a0.fV), (2, pf a0 0), (3, pf a1 0)] [] ?_
 obtain ⟨v1, hv2, h⟩ := bindS h
 refine qX (some 9) (I v1) 22 [(9, I v1), (2, pf a0 0), (3, pf a1 0)] [] (fun Γ' hΓ => CoreE.of_g (callV_sound (τ := τ) (by kernel_rfl) rfl (ok_impl_Value_order hv2) (FzTo.frz rfl))) trivial ?_
 refine qv [] trivial 4 22 [(13, I a1.fKey), (11, I a0.fKey), (9, I v1), (2, pf a0 0), (3, pf a1 0)] [] ?_
 obtain ⟨v3, hv4, h⟩ := bindS h
 refine qX (some 14) (I v3) 22 [(14, I v3), (9, I v1), (2, pf a0 0), (3, pf a1 0)] [] (fun Γ' hΓ => CoreE.of_g (callV_sound (τ := τ) (by kernel_rfl) rfl (ok_cmp_Compare_int hv4) (FzTo.frz rfl))) trivial ?_
 refine qv [] trivial 4 22 [(18, I a1.fBorn), (16, I a0.fBorn), (14, I v3), (9, I v1)] [] ?_
 obtain ⟨v5, hv6, h⟩ := bindS h
 refine qX (some 19) (I v5) 22 [(19, I v5), (14, I v3), (9, I v1)] [] (fun Γ' hΓ => CoreE.of_g (callV_sound (τ := τ) (by kernel_rfl) rfl (ok_cmp_Compare_int hv6) (FzTo.frz rfl))) trivial ?_
 refine qv [] trivial 1 22 [(20, .arr 1 ([v1, v3, v5] : List Int).length (eL ([v1, v3, v5] : List Int)) true)] [] ?_
 obtain ⟨v7, hv8, h⟩ := bindS h
 refine qX (some 21) (I v7) 22 [(21, I v7)] [] (fun Γ' hΓ => CoreE.of_g (callV_sound (τ := τ) (by kernel_rfl) rfl (ok_cmp_Or_int hv8) (FzTo.frz rfl))) trivial ?_
 refine qvn [] trivial 1 22 [(4, I v7)] [] ?_
 cases h
 exact pwp_ret rz
def spec_IndexOk_j3 (x10 : Int) (K12 : Int → Option Bool) (x16 : Bool) : Option Bool := bif x16 then some false else K12 (w64 (x10 + 1))
def spec_IndexOk_l2 (a0 : List T_impl_Mark) (x1 : Int) (K3 : Int → Option Bool) (v5 : T_impl_Mark) : Nat → Int → Option Bool
 | 0, _ => none
 | f11 + 1, x10 => bif (decide (x10 < x1)) then (getI a0 x10).bind fun v14 => bif (v14.fKey == v5.fKey) then bif (v14.fDied == 0) then bif (v5.fDied == 0) then spec_IndexOk_j3 x10 (spec_IndexOk_l2 a0 x1 K3 v5 f11) true else spec_IndexOk_j3 x10 (spec_IndexOk_l2 a0 x1 K3 v5 f11) (decide (v14.fBorn < v5.fDied)) else bif (decide (v5.fBorn < v14.fDied)) then bif (v5.fDied == 0) then spec_IndexOk_j3 x10 (spec_IndexOk_l2 a0 x1 K3 v5 f11) true else spec_IndexOk_j3 x10 (spec_IndexOk_l2 a0 x1 K3 v5 f11) (decide (v14.fBorn < v5.fDied)) else spec_IndexOk_j3 x10 (spec_IndexOk_l2 a0 x1 K3 v5 f11) false else spec_IndexOk_j3 x10 (spec_IndexOk_l2 a0 x1 K3 v5 f11) false else K3 (w64 (x1 + 1))
def spec_IndexOk_j1 (a0 : List T_impl_Mark) (x1 : Int) (K3 : Int → Option Bool) (v5 : T_impl_Mark) (x7 : Bool) : Option Bool := bif x7 then some false else spec_IndexOk_l2 a0 x1 K3 v5 FUEL 0
def spec_IndexOk_l0 (a0 : List T_impl_Mark) : Nat → Int → Option Bool
 | 0, _ => none
 | f2 + 1, x1 => bif (decide (x1 < (a0.length : Int))) then (getI a0 x1).bind fun v5 => (spec_ValueOk v5.fV).bind fun v23 => bif (!v23) then spec_IndexOk_j1 a0 x1 (spec_IndexOk_l0 a0 f2) v5 true else (spec_l13Version (T_impl_Version.mk v5.fKey v5.fBorn v5.fDied [])).bind fun v25 => bif (!v25) then spec_IndexOk_j1 a0 x1 (spec_IndexOk_l0 a0 f2) v5 true else bif (decide (x1 > 0)) then (getI a0 (w64 (x1 - 1))).bind fun v27 => (spec_l31Less v27 v5).bind fun v29 => spec_IndexOk_j1 a0 x1 (spec_IndexOk_l0 a0 f2) v5 (!v29) else spec_IndexOk_j1 a0 x1 (spec_IndexOk_l0 a0 f2) v5 false else some (decide ((a0.length : Int) ≤ 60))
def spec_IndexOk (a0 : List T_impl_Mark) : Option Bool := spec_IndexOk_l0 a0 FUEL 0
theorem ok_spec_IndexOk {a0 : List T_impl_Mark} {y : Bool} (h : spec_IndexOk a0 = some y) : OK Try.prog 64 [A a0] (B y) := by
 refine ow Try.func64 fun Γ hX => ?_
 unfold spec_IndexOk at h
 refine srveM [4, 6] 87 [(0, A a0)] [] ?_
 refine pwp_seq ?_
 refine srveM [4, 6] 87 [(0, A a0), (3, I 0)] [] ?_
 refine pwp_block ?_
 refine pwp_loop (ι := Nat × Int) (fun (f2, x1) => (⟨87, [(0, A a0), (3, I x1)], []⟩ : St)) (fun (f2, x1) => spec_IndexOk_l0 a0 f2 x1 = some y) Prod.fst (FUEL, 0) h (it [0, 3]) ?_
 rintro ⟨f2, x1⟩ h
 dsimp only at h ⊢
 rcases f2 with _ | f2
 cases h
 rw [spec_IndexOk_l0] at h
 refine pwp_seq ?_
 refine srveM [4, 6] 87 [(0, A a0), (3, I x1), (10, B (decide (x1 < (a0.length : Int))))] [] ?_
 refine pc h (fun h => ?_) (fun h => ?_)
 refine pwp_skip ?_
 refine pwp_seq ?_
 refine pwp_block ?_
 refine srvM [4, 6] 2 87 [(0, A a0), (3, I x1), (13, A a0), (14, I x1)] [] ?_
 obtain ⟨v5, hv6, h⟩ := bindS h
 refine opsP_idx τ_ok 15 hv6 (by kernel_rfl) ?_
 refine veM [4, 6] 3 87 [(0, A a0), (3, I x1), (4, .ptr 0 0 0)] [sc 0 v5] ?_
 refine pwp_seq ?_
 refine pwp_seq ?_
 refine pwp_join (σ := Bool) (fun x7 => (⟨87, [(0, A a0), (3, I x1), (4, .ptr 0 0 0), (45, B x7)], [sc 0 v5]⟩ : St)) (fun x7 => spec_IndexOk_j1 a0 x1 (spec_IndexOk_l0 a0 f2) v5 x7 = some y) ?_ ?_
 refine ip 87 [(0, A a0), (3, I x1), (4, .ptr 0 0 0)] [sc 0 v5] ?_
 refine pwp_any ([[0], [0], [], [], [], [0], [0], [0], [0], [0], [0], [], [], [], [], [], [], [], [], [], [], [], [], [], [0], [], [], [], []]) ([[], [], [], [], [], [], [], [], [], [], [], [], [], [], [], [], [], [], [], [], [], [], [], [], [], [], [], [], []]) rfl (by kernel_rfl) ?_
 refine qvM [4, 6] [0] (hB trivial) 2 87 [(18, E v5.fV), (0, A a0), (3, I x1), (4, .ptr 0 0 0)] [sc 0 v5] ?_
 obtain ⟨v23, hv24, h⟩ := bindS h
 refine qX (some 19) (B v23) 87 [(19, B v23), (0, A a0), (3, I x1), (4, .ptr 0 0 0)] [sc 0 v5] (fun Γ' hΓ => CoreE.of_g (callV_sound (τ := τ) (by kernel_rfl) rfl (ok_spec_ValueOk hv24) (FzTo.frz rfl))) trivial ?_
 refine qvM [4, 6] [] trivial 2 87 [(21, B (!v23)), (0, A a0), (3, I x1), (4, .ptr 0 0 0)] [sc 0 v5] ?_
 rcases fk (!v23) with hc33 | hc33
 replace h := bT hc33 h
 rw [hc33]
 refine qvM [4, 6] [0] (hB trivial) 6 87 [(27, .lit undef), (26, .lit undef), (25, .lit undef), (24, .lit undef), (23, .lit undef), (22, .lit undef), (21, B true), (0, A a0), (3, I x1), (4, .ptr 0 0 0)] [sc 0 v5] ?_
 refine qvM [4, 6] [] trivial 13 87 [(40, .lit undef), (39, .lit undef), (38, .lit undef), (37, .lit undef), (36, .lit undef), (35, .lit undef), (34, .lit undef), (33, .lit undef), (32, B true), (30, .lit undef), (29, .lit undef), (28, .lit undef), (27, .lit undef), (26, .lit undef), (25, .lit undef), (24, .lit undef), (23, .lit undef), (22, .lit undef), (0, A a0), (3, I x1), (4, .ptr 0 0 0)] [sc 0 v5] ?_
 refine qvM [4, 6] [0] (hB trivial) 1 87 [(41, .lit undef), (40, .lit undef), (39, .lit undef), (38, .lit undef), (37, .lit undef), (36, .lit undef), (35, .lit undef), (34, .lit undef), (33, .lit undef), (32, B true), (30, .lit undef), (29, .lit undef), (28, .lit undef), (27, .lit undef), (26, .lit undef), (25, .lit undef), (24, .lit undef), (23, .lit undef), (22, .lit undef), (0, A a0), (3, I x1), (4, .ptr 0 0 0)] [sc 0 v5] ?_
 refine qvM [4, 6] [] trivial 4 87 [(45, B true), (44, .lit undef), (43, .lit undef), (42, .lit undef), (41, .lit undef), (40, .lit undef), (39, .lit undef), (38, .lit undef), (37, .lit undef), (36, .lit undef), (35, .lit undef), (34, .lit undef), (33, .lit undef), (30, .lit undef), (29, .lit undef), (28, .lit undef), (27, .lit undef), (26, .lit undef), (25, .lit undef), (24, .lit undef), (23, .lit undef), (22, .lit undef), (0, A a0), (3, I x1), (4, .ptr 0 0 0)] [sc 0 v5] ?_
 refine qn 87 [(0, A a0), (3, I x1), (4, .ptr 0 0 0), (22, .lit undef), (23, .lit undef), (24, .lit undef), (25, .lit undef), (26, .lit undef), (27, .lit undef), (28, .lit undef), (29, .lit undef), (30, .lit undef), (33, .lit undef), (34, .lit undef), (35, .lit undef), (36, .lit undef), (37, .lit undef), (38, .lit undef), (39, .lit undef), (40, .lit undef), (41, .lit undef), (42, .lit undef), (43, .lit undef), (44, .lit undef), (45, B true)] [sc 0 v5] ?_
 exact ⟨true, h, it [0, 3, 4, 45]⟩
 replace h := bF hc33 h
 rw [hc33]
 refine qvM [4, 6] [0] (hB trivial) 6 87 [(27, I v5.fDied), (26, .ptr 0 0 5), (25, I v5.fBorn), (24, .ptr 0 0 4), (23, I v5.fKey), (22, .ptr 0 0 3), (21, B false), (0, A a0), (3, I x1), (4, .ptr 0 0 0)] [sc 0 v5] ?_
 refine qvM [4, 6] [] trivial 1 87 [(28, E (T_impl_Version.mk v5.fKey v5.fBorn v5.fDied [])), (27, I v5.fDied), (26, .ptr 0 0 5), (25, I v5.fBorn), (24, .ptr 0 0 4), (23, I v5.fKey), (22, .ptr 0 0 3), (21, B false), (0, A a0), (3, I x1), (4, .ptr 0 0 0)] [sc 0 v5] ?_
 obtain ⟨v25, hv26, h⟩ := bindS h
 refine qX (some 29) (B v25) 87 [(29, B v25), (28, E (T_impl_Version.mk v5.fKey v5.fBorn v5.fDied [])), (27, I v5.fDied), (26, .ptr 0 0 5), (25, I v5.fBorn), (24, .ptr 0 0 4), (23, I v5.fKey), (22, .ptr 0 0 3), (21, B false), (0, A a0), (3, I x1), (4, .ptr 0 0 0)] [sc 0 v5] (fun Γ' hΓ => CoreE.of_g (callV_sound (τ := τ) (by kernel_rfl) rfl (ok_spec_l13Version hv26) (FzTo.frz rfl))) trivial ?_
 refine qvM [4, 6] [] trivial 3 87 [(32, B (!v25)), (30, B (!v25)), (29, B v25), (28, E (T_impl_Version.mk v5.fKey v5.fBorn v5.fDied [])), (27, I v5.fDied), (26, .ptr 0 0 5), (25, I v5.fBorn), (24, .ptr 0 0 4), (23, I v5.fKey), (22, .ptr 0 0 3), (0, A a0), (3, I x1), (4, .ptr 0 0 0)] [sc 0 v5] ?_
 rcases fk (!v25) with hc32 | hc32
 replace h := bT hc32 h
 rw [hc32]
 refine qvM [4, 6] [] trivial 8 87 [(40, .lit undef), (39, .lit undef), (38, .lit undef), (37, .lit undef), (36, .lit undef), (35, .lit undef), (34, .lit undef), (33, .lit undef), (32, B true), (30, B true), (29, B v25), (28, E (T_impl_Version.mk v5.fKey v5.fBorn v5.fDied [])), (27, I v5.fDied), (26, .ptr 0 0 5), (25, I v5.fBorn), (24, .ptr 0 0 4), (23, I v5.fKey), (22, .ptr 0 0 3), (0, A a0), (3, I x1), (4, .ptr 0 0 0)] [sc 0 v5] ?_
 refine qvM [4, 6] [0] (hB trivial) 1 87 [(41, .lit undef), (40, .lit undef), (39, .lit undef), (38, .lit undef), (37, .lit undef), (36, .lit undef), (35, .lit undef), (34, .lit undef), (33, .lit undef), (32, B true), (30, B true), (29, B v25), (28, E (T_impl_Version.mk v5.fKey v5.fBorn v5.fDied [])), (27, I v5.fDied), (26, .ptr 0 0 5), (25, I v5.fBorn), (24, .ptr 0 0 4), (23, I v5.fKey), (22, .ptr 0 0 3), (0, A a0), (3, I x1), (4, .ptr 0 0 0)] [sc 0 v5] ?_
 refine qvM [4, 6] [] trivial 4 87 [(45, B true), (44, .lit undef), (43, .lit undef), (42, .lit undef), (41, .lit undef), (40, .lit undef), (39, .lit undef), (38, .lit undef), (37, .lit undef), (36, .lit undef), (35, .lit undef), (34, .lit undef), (33, .lit undef), (30, B true), (29, B v25), (28, E (T_impl_Version.mk v5.fKey v5.fBorn v5.fDied [])), (27, I v5.fDied), (26, .ptr 0 0 5), (25, I v5.fBorn), (24, .ptr 0 0 4), (23, I v5.fKey), (22, .ptr 0 0 3), (0, A a0), (3, I x1), (4, .ptr 0 0 0)] [sc 0 v5] ?_
 refine qn 87 [(0, A a0), (3, I x1), (4, .ptr 0 0 0), (22, .ptr 0 0 3), (23, I v5.fKey), (24, .ptr 0 0 4), (25, I v5.fBorn), (26, .ptr 0 0 5), (27, I v5.fDied), (28, E (T_impl_Version.mk v5.fKey v5.fBorn v5.fDied [])), (29, B v25), (30, B true), (33, .lit undef), (34, .lit undef), (35, .lit undef), (36, .lit undef), (37, .lit undef), (38, .lit undef), (39, .lit undef), (40, .lit undef), (41, .lit undef), (42, .lit undef), (43, .lit undef), (44, .lit undef), (45, B true)] [sc 0 v5] ?_
 exact ⟨true, h, it [0, 3, 4, 45]⟩
 replace h := bF hc32 h
 rw [hc32]
 refine qvM [4, 6] [] trivial 3 87 [(35, B (decide (x1 > 0))), (34, B (decide (x1 > 0))), (33, I x1), (32, B false), (30, B false), (29, B v25), (28, E (T_impl_Version.mk v5.fKey v5.fBorn v5.fDied [])), (27, I v5.fDied), (26, .ptr 0 0 5), (25, I v5.fBorn), (24, .ptr 0 0 4), (23, I v5.fKey), (22, .ptr 0 0 3), (0, A a0), (3, I x1), (4, .ptr 0 0 0)] [sc 0 v5] ?_
 rcases fk (decide (x1 > 0)) with hc31 | hc31
 replace h := bT hc31 h
 rw [hc31]
 refine qvM [4, 6] [] trivial 3 87 [(38, I (w64 (x1 - 1))), (37, I x1), (36, A a0), (35, B true), (34, B true), (33, I x1), (32, B false), (30, B false), (29, B v25), (28, E (T_impl_Version.mk v5.fKey v5.fBorn v5.fDied [])), (27, I v5.fDied), (26, .ptr 0 0 5), (25, I v5.fBorn), (24, .ptr 0 0 4), (23, I v5.fKey), (22, .ptr 0 0 3), (0, A a0), (3, I x1), (4, .ptr 0 0 0)] [sc 0 v5] ?_
 obtain ⟨v27, hv28, h⟩ := bindS h
 refine qX (some 39) (pf v27 0) 87 [(39, pf v27 0), (38, I (w64 (x1 - 1))), (37, I x1), (36, A a0), (35, B true), (34, B true), (33, I x1), (32, B false), (30, B false), (29, B v25), (28, E (T_impl_Version.mk v5.fKey v5.fBorn v5.fDied [])), (27, I v5.fDied), (26, .ptr 0 0 5), (25, I v5.fBorn), (24, .ptr 0 0 4), (23, I v5.fKey), (22, .ptr 0 0 3), (0, A a0), (3, I x1), (4, .ptr 0 0 0)] [sc 0 v5] (fun Γ' hΓ => CoreE.of_y (idxV_sound τ_ok (by kernel_rfl) hv28)) trivial ?_
 refine qvM [4, 6] [] trivial 1 87 [(40, E v27), (39, pf v27 0), (38, I (w64 (x1 - 1))), (37, I x1), (36, A a0), (35, B true), (34, B true), (33, I x1), (32, B false), (30, B false), (29, B v25), (28, E (T_impl_Version.mk v5.fKey v5.fBorn v5.fDied [])), (27, I v5.fDied), (26, .ptr 0 0 5), (25, I v5.fBorn), (24, .ptr 0 0 4), (23, I v5.fKey), (22, .ptr 0 0 3), (0, A a0), (3, I x1), (4, .ptr 0 0 0)] [sc 0 v5] ?_
 refine qvM [4, 6] [0] (hB trivial) 1 87 [(41, E v5), (40, E v27), (39, pf v27 0), (38, I (w64 (x1 - 1))), (37, I x1), (36, A a0), (35, B true), (34, B true), (33, I x1), (32, B false), (30, B false), (29, B v25), (28, E (T_impl_Version.mk v5.fKey v5.fBorn v5.fDied [])), (27, I v5.fDied), (26, .ptr 0 0 5), (25, I v5.fBorn), (24, .ptr 0 0 4), (23, I v5.fKey), (22, .ptr 0 0 3), (0, A a0), (3, I x1), (4, .ptr 0 0 0)] [sc 0 v5] ?_
 obtain ⟨v29, hv30, h⟩ := bindS h
 refine qX (some 42) (B v29) 87 [(42, B v29), (41, E v5), (40, E v27), (39, pf v27 0), (38, I (w64 (x1 - 1))), (37, I x1), (36, A a0), (35, B true), (34, B true), (33, I x1), (32, B false), (30, B false), (29, B v25), (28, E (T_impl_Version.mk v5.fKey v5.fBorn v5.fDied [])), (27, I v5.fDied), (26, .ptr 0 0 5), (25, I v5.fBorn), (24, .ptr 0 0 4), (23, I v5.fKey), (22, .ptr 0 0 3), (0, A a0), (3, I x1), (4, .ptr 0 0 0)] [sc 0 v5] (fun Γ' hΓ => CoreE.of_g (callV_sound (τ := τ) (by kernel_rfl) rfl (ok_spec_l31Less hv30) (FzTo.frz rfl))) trivial ?_
 refine qvnM [4, 6] [] trivial 3 87 [(0, A a0), (3, I x1), (4, .ptr 0 0 0), (22, .ptr 0 0 3), (23, I v5.fKey), (24, .ptr 0 0 4), (25, I v5.fBorn), (26, .ptr 0 0 5), (27, I v5.fDied), (28, E (T_impl_Version.mk v5.fKey v5.fBorn v5.fDied [])), (29, B v25), (30, B false), (33, I x1), (34, B true), (35, B true), (36, A a0), (37, I x1), (38, I (w64 (x1 - 1))), (39, pf v27 0), (40, E v27), (41, E v5), (42, B v29), (43, B (!v29)), (44, B (!v29)), (45, B (!v29))] [sc 0 v5] ?_
 exact ⟨(!v29), h, it [0, 3, 4, 45]⟩
 replace h := bF hc31 h
 rw [hc31]
 refine qvM [4, 6] [] trivial 5 87 [(40, .lit undef), (39, .lit undef), (38, .lit undef), (37, .lit undef), (36, .lit undef), (35, B false), (34, B false), (33, I x1), (32, B false), (30, B false), (29, B v25), (28, E (T_impl_Version.mk v5.fKey v5.fBorn v5.fDied [])), (27, I v5.fDied), (26, .ptr 0 0 5), (25, I v5.fBorn), (24, .ptr 0 0 4), (23, I v5.fKey), (22, .ptr 0 0 3), (0, A a0), (3, I x1), (4, .ptr 0 0 0)] [sc 0 v5] ?_
 refine qvM [4, 6] [0] (hB trivial) 1 87 [(41, .lit undef), (40, .lit undef), (39, .lit undef), (38, .lit undef), (37, .lit undef), (36, .lit undef), (35, B false), (34, B false), (33, I x1), (32, B false), (30, B false), (29, B v25), (28, E (T_impl_Version.mk v5.fKey v5.fBorn v5.fDied [])), (27, I v5.fDied), (26, .ptr 0 0 5), (25, I v5.fBorn), (24, .ptr 0 0 4), (23, I v5.fKey), (22, .ptr 0 0 3), (0, A a0), (3, I x1), (4, .ptr 0 0 0)] [sc 0 v5] ?_
 refine qvM [4, 6] [] trivial 4 87 [(45, B false), (44, B false), (43, .lit undef), (42, .lit undef), (41, .lit undef), (40, .lit undef), (39, .lit undef), (38, .lit undef), (37, .lit undef), (36, .lit undef), (35, B false), (34, B false), (33, I x1), (30, B false), (29, B v25), (28, E (T_impl_Version.mk v5.fKey v5.fBorn v5.fDied [])), (27, I v5.fDied), (26, .ptr 0 0 5), (25, I v5.fBorn), (24, .ptr 0 0 4), (23, I v5.fKey), (22, .ptr 0 0 3), (0, A a0), (3, I x1), (4, .ptr 0 0 0)] [sc 0 v5] ?_
 refine qn 87 [(0, A a0), (3, I x1), (4, .ptr 0 0 0), (22, .ptr 0 0 3), (23, I v5.fKey), (24, .ptr 0 0 4), (25, I v5.fBorn), (26, .ptr 0 0 5), (27, I v5.fDied), (28, E (T_impl_Version.mk v5.fKey v5.fBorn v5.fDied [])), (29, B v25), (30, B false), (33, I x1), (34, B false), (35, B false), (36, .lit undef), (37, .lit undef), (38, .lit undef), (39, .lit undef), (40, .lit undef), (41, .lit undef), (42, .lit undef), (43, .lit undef), (44, B false), (45, B false)] [sc 0 v5] ?_
 exact ⟨false, h, it [0, 3, 4, 45]⟩
 rintro x7 h
 unfold spec_IndexOk_j1 at h
 refine pc h (fun h => ?_) (fun h => ?_)
 refine srveM [4, 6] 87 [(2, B false)] [sc 0 v5] ?_
 cases h
 exact pwp_ret rz
 refine pwp_skip ?_
 refine srveM [4, 6] 87 [(0, A a0), (3, I x1), (4, .ptr 0 0 0), (5, I 0)] [sc 0 v5] ?_
 refine pwp_block ?_
 refine pwp_loop (ι := Nat × Int) (fun (f11, x10) => (⟨87, [(0, A a0), (3, I x1), (4, .ptr 0 0 0), (5, I x10)], [sc 0 v5]⟩ : St)) (fun (f11, x10) => spec_IndexOk_l2 a0 x1 (spec_IndexOk_l0 a0 f2) v5 f11 x10 = some y) Prod.fst (FUEL, 0) h (it [0, 3, 4, 5]) ?_
 rintro ⟨f11, x10⟩ h
 dsimp only at h ⊢
 rcases f11 with _ | f11
 cases h
 rw [spec_IndexOk_l2] at h
 refine pwp_seq ?_
 refine srveM [4, 6] 87 [(0, A a0), (3, I x1), (4, .ptr 0 0 0), (5, I x10), (48, B (decide (x10 < x1)))] [sc 0 v5] ?_
 refine pc h (fun h => ?_) (fun h => ?_)
 refine pwp_skip ?_
 refine pwp_seq ?_
 refine pwp_block ?_
 refine srvM [4, 6] 2 87 [(0, A a0), (3, I x1), (4, .ptr 0 0 0), (5, I x10), (51, A a0), (52, I x10)] [sc 0 v5] ?_
 obtain ⟨v14, hv15, h⟩ := bindS h
 refine opsP_idx τ_ok 53 hv15 (by kernel_rfl) ?_
 refine veM [4, 6] 3 87 [(0, A a0), (3, I x1), (4, .ptr 0 0 0), (5, I x10), (6, .ptr 1 0 0)] [sc 0 v5, sc 0 v14] ?_
 refine pwp_seq ?_
 refine pwp_join (σ := Bool) (fun x16 => (⟨87, [(0, A a0), (3, I x1), (4, .ptr 0 0 0), (5, I x10), (83, B x16)], [sc 0 v5, sc 0 v14]⟩ : St)) (fun x16 => spec_IndexOk_j3 x10 (spec_IndexOk_l2 a0 x1 (spec_IndexOk_l0 a0 f2) v5 f11) x16 = some y) ?_ ?_
 refine rvM [4, 6] 6 87 [(0, A a0), (3, I x1), (4, .ptr 0 0 0), (5, I x10), (6, .ptr 1 0 0), (60, B (v14.fKey == v5.fKey))] [sc 0 v5, sc 0 v14] ?_
 rcases fk (v14.fKey == v5.fKey) with hc22 | hc22
 replace h := bT hc22 h
 rw [hc22]
 refine vM [4, 6] 4 87 [(0, A a0), (3, I x1), (4, .ptr 0 0 0), (5, I x10), (6, .ptr 1 0 0), (60, B true), (61, .ptr 1 0 5), (62, I v14.fDied), (63, B (v14.fDied == 0)), (64, B (v14.fDied == 0))] [sc 0 v5, sc 0 v14] ?_
 rcases fk (v14.fDied == 0) with hc21 | hc21
 replace h := bT hc21 h
 rw [hc21]
 refine vM [4, 6] 12 87 [(0, A a0), (3, I x1), (4, .ptr 0 0 0), (5, I x10), (6, .ptr 1 0 0), (61, .ptr 1 0 5), (62, I v14.fDied), (63, B true), (64, B true), (65, .lit undef), (66, .lit undef), (67, .lit undef), (68, .lit undef), (69, .lit undef), (70, B true), (72, B true), (73, .ptr 0 0 5), (74, I v5.fDied), (75, B (v5.fDied == 0)), (76, B (v5.fDied == 0))] [sc 0 v5, sc 0 v14] ?_
 rcases fk (v5.fDied == 0) with hc18 | hc18
 replace h := bT hc18 h
 rw [hc18]
 refine veM [4, 6] 7 87 [(0, A a0), (3, I x1), (4, .ptr 0 0 0), (5, I x10), (61, .ptr 1 0 5), (62, I v14.fDied), (63, B true), (64, B true), (65, .lit undef), (66, .lit undef), (67, .lit undef), (68, .lit undef), (69, .lit undef), (70, B true), (73, .ptr 0 0 5), (74, I v5.fDied), (75, B true), (76, B true), (77, .lit undef), (78, .lit undef), (79, .lit undef), (80, .lit undef), (81, .lit undef), (82, B true), (83, B true)] [sc 0 v5, sc 0 v14] ?_
 exact ⟨true, h, it [0, 3, 4, 5, 83]⟩
 replace h := bF hc18 h
 rw [hc18]
 refine veM [4, 6] 7 87 [(0, A a0), (3, I x1), (4, .ptr 0 0 0), (5, I x10), (61, .ptr 1 0 5), (62, I v14.fDied), (63, B true), (64, B true), (65, .lit undef), (66, .lit undef), (67, .lit undef), (68, .lit undef), (69, .lit undef), (70, B true), (73, .ptr 0 0 5), (74, I v5.fDied), (75, B false), (76, B false), (77, .ptr 1 0 4), (78, I v14.fBorn), (79, .ptr 0 0 5), (80, I v5.fDied), (81, B (decide (v14.fBorn < v5.fDied))), (82, B (decide (v14.fBorn < v5.fDied))), (83, B (decide (v14.fBorn < v5.fDied)))] [sc 0 v5, sc 0 v14] ?_
 exact ⟨(decide (v14.fBorn < v5.fDied)), h, it [0, 3, 4, 5, 83]⟩
 replace h := bF hc21 h
 rw [hc21]
 refine vM [4, 6] 8 87 [(0, A a0), (3, I x1), (4, .ptr 0 0 0), (5, I x10), (6, .ptr 1 0 0), (61, .ptr 1 0 5), (62, I v14.fDied), (63, B false), (64, B false), (65, .ptr 0 0 4), (66, I v5.fBorn), (67, .ptr 1 0 5), (68, I v14.fDied), (69, B (decide (v5.fBorn < v14.fDied))), (70, B (decide (v5.fBorn < v14.fDied))), (72, B (decide (v5.fBorn < v14.fDied)))] [sc 0 v5, sc 0 v14] ?_
 rcases fk (decide (v5.fBorn < v14.fDied)) with hc20 | hc20
 replace h := bT hc20 h
 rw [hc20]
 refine vM [4, 6] 4 87 [(0, A a0), (3, I x1), (4, .ptr 0 0 0), (5, I x10), (6, .ptr 1 0 0), (61, .ptr 1 0 5), (62, I v14.fDied), (63, B false), (64, B false), (65, .ptr 0 0 4), (66, I v5.fBorn), (67, .ptr 1 0 5), (68, I v14.fDied), (69, B true), (70, B true), (72, B true), (73, .ptr 0 0 5), (74, I v5.fDied), (75, B (v5.fDied == 0)), (76, B (v5.fDied == 0))] [sc 0 v5, sc 0 v14] ?_
 rcases fk (v5.fDied == 0) with hc19 | hc19
 replace h := bT hc19 h
 rw [hc19]
 refine veM [4, 6] 7 87 [(0, A a0), (3, I x1), (4, .ptr 0 0 0), (5, I x10), (61, .ptr 1 0 5), (62, I v14.fDied), (63, B false), (64, B false), (65, .ptr 0 0 4), (66, I v5.fBorn), (67, .ptr 1 0 5), (68, I v14.fDied), (69, B true), (70, B true), (73, .ptr 0 0 5), (74, I v5.fDied), (75, B true), (76, B true), (77, .lit undef), (78, .lit undef), (79, .lit undef), (80, .lit undef), (81, .lit undef), (82, B true), (83, B true)] [sc 0 v5, sc 0 v14] ?_
 exact ⟨true, h, it [0, 3, 4, 5, 83]⟩
 replace h := bF hc19 h
 rw [hc19]
 refine veM [4, 6] 7 87 [(0, A a0), (3, I x1), (4, .ptr 0 0 0), (5, I x10), (61, .ptr 1 0 5), (62, I v14.fDied), (63, B false), (64, B false), (65, .ptr 0 0 4), (66, I v5.fBorn), (67, .ptr 1 0 5), (68, I v14.fDied), (69, B true), (70, B true), (73, .ptr 0 0 5), (74, I v5.fDied), (75, B false), (76, B false), (77, .ptr 1 0 4), (78, I v14.fBorn), (79, .ptr 0 0 5), (80, I v5.fDied), (81, B (decide (v14.fBorn < v5.fDied))), (82, B (decide (v14.fBorn < v5.fDied))), (83, B (decide (v14.fBorn < v5.fDied)))] [sc 0 v5, sc 0 v14] ?_
 exact ⟨(decide (v14.fBorn < v5.fDied)), h, it [0, 3, 4, 5, 83]⟩
 replace h := bF hc20 h
 rw [hc20]
 refine veM [4, 6] 11 87 [(0, A a0), (3, I x1), (4, .ptr 0 0 0), (5, I x10), (61, .ptr 1 0 5), (62, I v14.fDied), (63, B false), (64, B false), (65, .ptr 0 0 4), (66, I v5.fBorn), (67, .ptr 1 0 5), (68, I v14.fDied), (69, B false), (70, B false), (73, .lit undef), (74, .lit undef), (75, .lit undef), (76, .lit undef), (77, .lit undef), (78, .lit undef), (79, .lit undef), (80, .lit undef), (81, .lit undef), (82, .lit undef), (83, B false)] [sc 0 v5, sc 0 v14] ?_
 exact ⟨false, h, it [0, 3, 4, 5, 83]⟩
 replace h := bF hc22 h
 rw [hc22]
 refine veM [4, 6] 23 87 [(0, A a0), (3, I x1), (4, .ptr 0 0 0), (5, I x10), (61, .lit undef), (62, .lit undef), (63, .lit undef), (64, .lit undef), (65, .lit undef), (66, .lit undef), (67, .lit undef), (68, .lit undef), (69, .lit undef), (70, .lit undef), (73, .lit undef), (74, .lit undef), (75, .lit undef), (76, .lit undef), (77, .lit undef), (78, .lit undef), (79, .lit undef), (80, .lit undef), (81, .lit undef), (82, .lit undef), (83, B false)] [sc 0 v5, sc 0 v14] ?_
 exact ⟨false, h, it [0, 3, 4, 5, 83]⟩
 rintro x16 h
 unfold spec_IndexOk_j3 at h
 refine pc h (fun h => ?_) (fun h => ?_)
 refine srveM [4, 6] 87 [(2, B false)] [sc 0 v5, sc 0 v14] ?_
 cases h
 exact pwp_ret rz
 refine pwp_skip ?_
 refine rveM [4, 6] 87 [(0, A a0), (3, I x1), (4, .ptr 0 0 0), (5, I (w64 (x10 + 1)))] [sc 0 v5, sc 0 v14] ?_
 exact ⟨(f11, (w64 (x10 + 1))), h, Nat.lt_succ_self _, (it (st' := ⟨87, [(0, A a0), (3, I x1), (4, .ptr 0 0 0), (5, I (w64 (x10 + 1)))], [sc 0 v5, sc 0 v14]⟩) [0, 3, 4, 5]).trans (Imp.truncS 1 (nx hX) (by kernel_rfl) (allBelow_mem (by exact (And.intro rfl (And.intro rfl (And.intro rfl (And.intro rfl trivial)))))) (by exact (And.intro (rfl) trivial)) (by kernel_rfl))⟩
 refine pwp_exit ?_
 refine rveM [4, 6] 87 [(0, A a0), (3, I (w64 (x1 + 1)))] [sc 0 v5] ?_
 exact ⟨(f2, (w64 (x1 + 1))), h, Nat.lt_succ_self _, (it (st' := ⟨87, [(0, A a0), (3, I (w64 (x1 + 1)))], [sc 0 v5]⟩) [0, 3]).trans (Imp.truncS 0 (nx hX) (by kernel_rfl) (allBelow_mem (by exact (And.intro rfl (And.intro rfl trivial)))) (by exact trivial) (by kernel_rfl))⟩
 refine pwp_exit ?_
 refine srveM [4, 6] 87 [(2, B (decide ((a0.length : Int) ≤ 60)))] [] ?_
 cases h
 exact pwp_ret rz
def impl_IndexOk_j1 (a0 : List T_impl_Mark) (x1 : Int) (K3 : Int → Option Bool) (v5 : T_impl_Mark) (x7 : Bool) : Option Bool := bif x7 then some false else (slI a0 none (some x1) none).bind fun v9 => (slices_ContainsFunc_impl_Mark_impl_Mark v9 (fun z0 => impl_IndexOk_1 z0 v5)).bind fun v11 => bif v11 then some false else K3 (w64 (x1 + 1))
def impl_IndexOk_l0 (a0 : List T_impl_Mark) : Nat → Int → Option Bool
 | 0, _ => none
 | f2 + 1, x1 => bif (decide (x1 < (a0.length : Int))) then (getI a0 x1).bind fun v5 => (impl_Value_ok v5.fV).bind fun v14 => bif (!v14) then impl_IndexOk_j1 a0 x1 (impl_IndexOk_l0 a0 f2) v5 true else (impl_keyOk v5.fKey).bind fun v16 => bif (!v16) then impl_IndexOk_j1 a0 x1 (impl_IndexOk_l0 a0 f2) v5 true else (impl_between v5.fBorn 1 40).bind fun v18 => bif (!v18) then impl_IndexOk_j1 a0 x1 (impl_IndexOk_l0 a0 f2) v5 true else bif (!(v5.fDied == 0)) then (impl_between v5.fDied (w64 (v5.fBorn + 1)) 40).bind fun v20 => bif (!v20) then impl_IndexOk_j1 a0 x1 (impl_IndexOk_l0 a0 f2) v5 true else bif (decide (x1 > 0)) then (getI a0 (w64 (x1 - 1))).bind fun v22 => (impl_Mark_order v22 v5).bind fun v24 => impl_IndexOk_j1 a0 x1 (impl_IndexOk_l0 a0 f2) v5 (decide (v24 > 0)) else impl_IndexOk_j1 a0 x1 (impl_IndexOk_l0 a0 f2) v5 false else bif (decide (x1 > 0)) then (getI a0 (w64 (x1 - 1))).bind fun v28 => (impl_Mark_order v28 v5).bind fun v30 => impl_IndexOk_j1 a0 x1 (impl_IndexOk_l0 a0 f2) v5 (decide (v30 > 0)) else impl_IndexOk_j1 a0 x1 (impl_IndexOk_l0 a0 f2) v5 false else some (decide ((a0.length : Int) ≤ 60))
def impl_IndexOk (a0 : List T_impl_Mark) : Option Bool := impl_IndexOk_l0 a0 FUEL 0
theorem ok_impl_IndexOk {a0 : List T_impl_Mark} {y : Bool} (h : impl_IndexOk a0 = some y) : OK Try.prog 18 [A a0] (B y) := by
 refine ow Try.func18 fun Γ hX => ?_
 unfold impl_IndexOk at h
 refine srveM [4] 65 [(0, A a0)] [] ?_
 refine pwp_seq ?_
 refine srveM [4] 65 [(0, A a0), (5, A a0), (6, I (a0.length : Int)), (7, I 0)] [] ?_
 refine pwp_block ?_
 refine pwp_loop (ι := Nat × Int) (fun (f2, x1) => (⟨65, [(0, A a0), (5, A a0), (6, I (a0.length : Int)), (7, I x1)], []⟩ : St)) (fun (f2, x1) => impl_IndexOk_l0 a0 f2 x1 = some y) Prod.fst (FUEL, 0) h (it [0, 5, 6, 7]) ?_
 rintro ⟨f2, x1⟩ h
 dsimp only at h ⊢
 rcases f2 with _ | f2
 cases h
 rw [impl_IndexOk_l0] at h
 refine srveM [4] 65 [(0, A a0), (5, A a0), (6, I (a0.length : Int)), (7, I x1), (8, B (decide (x1 < (a0.length : Int))))] [] ?_
 refine pwp_seq ?_
 refine pc h (fun h => ?_) (fun h => ?_)
 refine pwp_skip ?_
 refine pwp_seq ?_
 refine pwp_block ?_
 refine srvM [4] 1 65 [(0, A a0), (5, A a0), (6, I (a0.length : Int)), (7, I x1), (9, I x1)] [] ?_
 obtain ⟨v5, hv6, h⟩ := bindS h
 refine opsP_idx τ_ok 10 hv6 (by kernel_rfl) ?_
 refine veM [4] 4 65 [(0, A a0), (3, I x1), (4, .ptr 0 0 0), (5, A a0), (6, I (a0.length : Int)), (7, I x1)] [sc 0 v5] ?_
 refine pwp_seq ?_
 refine pwp_seq ?_
 refine pwp_join (σ := Bool) (fun x7 => (⟨65, [(0, A a0), (3, I x1), (4, .ptr 0 0 0), (5, A a0), (6, I (a0.length : Int)), (7, I x1), (55, B x7)], [sc 0 v5]⟩ : St)) (fun x7 => impl_IndexOk_j1 a0 x1 (impl_IndexOk_l0 a0 f2) v5 x7 = some y) ?_ ?_
 refine ip 65 [(0, A a0), (3, I x1), (4, .ptr 0 0 0), (5, A a0), (6, I (a0.length : Int)), (7, I x1)] [sc 0 v5] ?_
 refine pwp_any ([[0], [0], [], [], [], [0], [0], [], [], [], [], [0], [0], [], [], [], [], [0], [0], [], [], [0], [0], [0], [0], [], [], [], [], [], [], [], [], [], [], [], [], [], [], [0], [], [], [], []]) ([[], [], [], [], [], [], [], [], [], [], [], [], [], [], [], [], [], [], [], [], [], [], [], [], [], [], [], [], [], [], [], [], [], [], [], [], [], [], [], [], [], [], [], []]) rfl (by kernel_rfl) ?_
 refine qvM [4] [0] (hB trivial) 2 65 [(13, E v5.fV), (0, A a0), (3, I x1), (4, .ptr 0 0 0), (5, A a0), (6, I (a0.length : Int)), (7, I x1)] [sc 0 v5] ?_
 obtain ⟨v14, hv15, h⟩ := bindS h
 refine qX (some 14) (B v14) 65 [(14, B v14), (0, A a0), (3, I x1), (4, .ptr 0 0 0), (5, A a0), (6, I (a0.length : Int)), (7, I x1)] [sc 0 v5] (fun Γ' hΓ => CoreE.of_g (callV_sound (τ := τ) (by kernel_rfl) rfl (ok_impl_Value_ok hv15) (FzTo.frz rfl))) trivial ?_
 refine qvM [4] [] trivial 2 65 [(16, B (!v14)), (0, A a0), (3, I x1), (4, .ptr 0 0 0), (5, A a0), (6, I (a0.length : Int)), (7, I x1)] [sc 0 v5] ?_
 rcases fk (!v14) with hc36 | hc36
 replace h := bT hc36 h
 rw [hc36]
 refine qvM [4] [0] (hB trivial) 2 65 [(18, .lit undef), (17, .lit undef), (16, B true), (0, A a0), (3, I x1), (4, .ptr 0 0 0), (5, A a0), (6, I (a0.length : Int)), (7, I x1)] [sc 0 v5] ?_
 refine qvM [4] [] trivial 4 65 [(22, B true), (20, .lit undef), (19, .lit undef), (18, .lit undef), (17, .lit undef), (0, A a0), (3, I x1), (4, .ptr 0 0 0), (5, A a0), (6, I (a0.length : Int)), (7, I x1)] [sc 0 v5] ?_
 refine qvM [4] [0] (hB trivial) 2 65 [(24, .lit undef), (23, .lit undef), (22, B true), (20, .lit undef), (19, .lit undef), (18, .lit undef), (17, .lit undef), (0, A a0), (3, I x1), (4, .ptr 0 0 0), (5, A a0), (6, I (a0.length : Int)), (7, I x1)] [sc 0 v5] ?_
 refine qvM [4] [] trivial 4 65 [(28, B true), (26, .lit undef), (25, .lit undef), (24, .lit undef), (23, .lit undef), (20, .lit undef), (19, .lit undef), (18, .lit undef), (17, .lit undef), (0, A a0), (3, I x1), (4, .ptr 0 0 0), (5, A a0), (6, I (a0.length : Int)), (7, I x1)] [sc 0 v5] ?_
 refine qvM [4] [0] (hB trivial) 2 65 [(30, .lit undef), (29, .lit undef), (28, B true), (26, .lit undef), (25, .lit undef), (24, .lit undef), (23, .lit undef), (20, .lit undef), (19, .lit undef), (18, .lit undef), (17, .lit undef), (0, A a0), (3, I x1), (4, .ptr 0 0 0), (5, A a0), (6, I (a0.length : Int)), (7, I x1)] [sc 0 v5] ?_
 refine qvM [4] [] trivial 2 65 [(32, .lit undef), (31, .lit undef), (30, .lit undef), (29, .lit undef), (28, B true), (26, .lit undef), (25, .lit undef), (24, .lit undef), (23, .lit undef), (20, .lit undef), (19, .lit undef), (18, .lit undef), (17, .lit undef), (0, A a0), (3, I x1), (4, .ptr 0 0 0), (5, A a0), (6, I (a0.length : Int)), (7, I x1)] [sc 0 v5] ?_
 refine qvM [4] [0] (hB trivial) 4 65 [(36, .lit undef), (35, .lit undef), (34, .lit undef), (33, .lit undef), (32, .lit undef), (31, .lit undef), (30, .lit undef), (29, .lit undef), (28, B true), (26, .lit undef), (25, .lit undef), (24, .lit undef), (23, .lit undef), (20, .lit undef), (19, .lit undef), (18, .lit undef), (17, .lit undef), (0, A a0), (3, I x1), (4, .ptr 0 0 0), (5, A a0), (6, I (a0.length : Int)), (7, I x1)] [sc 0 v5] ?_
 refine qvM [4] [] trivial 14 65 [(50, .lit undef), (49, .lit undef), (48, .lit undef), (47, .lit undef), (46, .lit undef), (45, .lit undef), (44, .lit undef), (43, .lit undef), (42, B true), (40, .lit undef), (39, .lit undef), (38, .lit undef), (37, .lit undef), (36, .lit undef), (35, .lit undef), (34, .lit undef), (33, .lit undef), (32, .lit undef), (31, .lit undef), (30, .lit undef), (29, .lit undef), (26, .lit undef), (25, .lit undef), (24, .lit undef), (23, .lit undef), (20, .lit undef), (19, .lit undef), (18, .lit undef), (17, .lit undef), (0, A a0), (3, I x1), (4, .ptr 0 0 0), (5, A a0), (6, I (a0.length : Int)), (7, I x1)] [sc 0 v5] ?_
 refine qvM [4] [0] (hB trivial) 1 65 [(51, .lit undef), (50, .lit undef), (49, .lit undef), (48, .lit undef), (47, .lit undef), (46, .lit undef), (45, .lit undef), (44, .lit undef), (43, .lit undef), (42, B true), (40, .lit undef), (39, .lit undef), (38, .lit undef), (37, .lit undef), (36, .lit undef), (35, .lit undef), (34, .lit undef), (33, .lit undef), (32, .lit undef), (31, .lit undef), (30, .lit undef), (29, .lit undef), (26, .lit undef), (25, .lit undef), (24, .lit undef), (23, .lit undef), (20, .lit undef), (19, .lit undef), (18, .lit undef), (17, .lit undef), (0, A a0), (3, I x1), (4, .ptr 0 0 0), (5, A a0), (6, I (a0.length : Int)), (7, I x1)] [sc 0 v5] ?_
 refine qvM [4] [] trivial 4 65 [(55, B true), (54, .lit undef), (53, .lit undef), (52, .lit undef), (51, .lit undef), (50, .lit undef), (49, .lit undef), (48, .lit undef), (47, .lit undef), (46, .lit undef), (45, .lit undef), (44, .lit undef), (43, .lit undef), (40, .lit undef), (39, .lit undef), (38, .lit undef), (37, .lit undef), (36, .lit undef), (35, .lit undef), (34, .lit undef), (33, .lit undef), (32, .lit undef), (31, .lit undef), (30, .lit undef), (29, .lit undef), (26, .lit undef), (25, .lit undef), (24, .lit undef), (23, .lit undef), (20, .lit undef), (19, .lit undef), (18, .lit undef), (17, .lit undef), (0, A a0), (3, I x1), (4, .ptr 0 0 0), (5, A a0), (6, I (a0.length : Int)), (7, I x1)] [sc 0 v5] ?_
 refine qn 65 [(0, A a0), (3, I x1), (4, .ptr 0 0 0), (5, A a0), (6, I (a0.length : Int)), (7, I x1), (17, .lit undef), (18, .lit undef), (19, .lit undef), (20, .lit undef), (23, .lit undef), (24, .lit undef), (25, .lit undef), (26, .lit undef), (29, .lit undef), (30, .lit undef), (31, .lit undef), (32, .lit undef), (33, .lit undef), (34, .lit undef), (35, .lit undef), (36, .lit undef), (37, .lit undef), (38, .lit undef), (39, .lit undef), (40, .lit undef), (43, .lit undef), (44, .lit undef), (45, .lit undef), (46, .lit undef), (47, .lit undef), (48, .lit undef), (49, .lit undef), (50, .lit undef), (51, .lit undef), (52, .lit undef), (53, .lit undef), (54, .lit undef), (55, B true)] [sc 0 v5] ?_
 exact ⟨true, h, it [0, 3, 4, 5, 6, 7, 55]⟩
 replace h := bF hc36 h
 rw [hc36]
 refine qvM [4] [0] (hB trivial) 2 65 [(18, I v5.fKey), (17, .ptr 0 0 3), (16, B false), (0, A a0), (3, I x1), (4, .ptr 0 0 0), (5, A a0), (6, I (a0.length : Int)), (7, I x1)] [sc 0 v5] ?_
 obtain ⟨v16, hv17, h⟩ := bindS h
 refine qX (some 19) (B v16) 65 [(19, B v16), (18, I v5.fKey), (17, .ptr 0 0 3), (16, B false), (0, A a0), (3, I x1), (4, .ptr 0 0 0), (5, A a0), (6, I (a0.length : Int)), (7, I x1)] [sc 0 v5] (fun Γ' hΓ => CoreE.of_g (callV_sound (τ := τ) (by kernel_rfl) rfl (ok_impl_keyOk hv17) (FzTo.frz rfl))) trivial ?_
 refine qvM [4] [] trivial 3 65 [(22, B (!v16)), (20, B (!v16)), (19, B v16), (18, I v5.fKey), (17, .ptr 0 0 3), (0, A a0), (3, I x1), (4, .ptr 0 0 0), (5, A a0), (6, I (a0.length : Int)), (7, I x1)] [sc 0 v5] ?_
 rcases fk (!v16) with hc35 | hc35
 replace h := bT hc35 h
 rw [hc35]
 refine qvM [4] [0] (hB trivial) 2 65 [(24, .lit undef), (23, .lit undef), (22, B true), (20, B true), (19, B v16), (18, I v5.fKey), (17, .ptr 0 0 3), (0, A a0), (3, I x1), (4, .ptr 0 0 0), (5, A a0), (6, I (a0.length : Int)), (7, I x1)] [sc 0 v5] ?_
 refine qvM [4] [] trivial 4 65 [(28, B true), (26, .lit undef), (25, .lit undef), (24, .lit undef), (23, .lit undef), (20, B true), (19, B v16), (18, I v5.fKey), (17, .ptr 0 0 3), (0, A a0), (3, I x1), (4, .ptr 0 0 0), (5, A a0), (6, I (a0.length : Int)), (7, I x1)] [sc 0 v5] ?_
 refine qvM [4] [0] (hB trivial) 2 65 [(30, .lit undef), (29, .lit undef), (28, B true), (26, .lit undef), (25, .lit undef), (24, .lit undef), (23, .lit undef), (20, B true), (19, B v16), (18, I v5.fKey), (17, .ptr 0 0 3), (0, A a0), (3, I x1), (4, .ptr 0 0 0), (5, A a0), (6, I (a0.length : Int)), (7, I x1)] [sc 0 v5] ?_
 refine qvM [4] [] trivial 2 65 [(32, .lit undef), (31, .lit undef), (30, .lit undef), (29, .lit undef), (28, B true), (26, .lit undef), (25, .lit undef), (24, .lit undef), (23, .lit undef), (20, B true), (19, B v16), (18, I v5.fKey), (17, .ptr 0 0 3), (0, A a0), (3, I x1), (4, .ptr 0 0 0), (5, A a0), (6, I (a0.length : Int)), (7, I x1)] [sc 0 v5] ?_
 refine qvM [4] [0] (hB trivial) 4 65 [(36, .lit undef), (35, .lit undef), (34, .lit undef), (33, .lit undef), (32, .lit undef), (31, .lit undef), (30, .lit undef), (29, .lit undef), (28, B true), (26, .lit undef), (25, .lit undef), (24, .lit undef), (23, .lit undef), (20, B true), (19, B v16), (18, I v5.fKey), (17, .ptr 0 0 3), (0, A a0), (3, I x1), (4, .ptr 0 0 0), (5, A a0), (6, I (a0.length : Int)), (7, I x1)] [sc 0 v5] ?_
 refine qvM [4] [] trivial 14 65 [(50, .lit undef), (49, .lit undef), (48, .lit undef), (47, .lit undef), (46, .lit undef), (45, .lit undef), (44, .lit undef), (43, .lit undef), (42, B true), (40, .lit undef), (39, .lit undef), (38, .lit undef), (37, .lit undef), (36, .lit undef), (35, .lit undef), (34, .lit undef), (33, .lit undef), (32, .lit undef), (31, .lit undef), (30, .lit undef), (29, .lit undef), (26, .lit undef), (25, .lit undef), (24, .lit undef), (23, .lit undef), (20, B true), (19, B v16), (18, I v5.fKey), (17, .ptr 0 0 3), (0, A a0), (3, I x1), (4, .ptr 0 0 0), (5, A a0), (6, I (a0.length : Int)), (7, I x1)] [sc 0 v5] ?_
 refine qvM [4] [0] (hB trivial) 1 65 [(51, .lit undef), (50, .lit undef), (49, .lit undef), (48, .lit undef), (47, .lit undef), (46, .lit undef), (45, .lit undef), (44, .lit undef), (43, .lit undef), (42, B true), (40, .lit undef), (39, .lit undef), (38, .lit undef), (37, .lit undef), (36, .lit undef), (35, .lit undef), (34, .lit undef), (33, .lit undef), (32, .lit undef), (31, .lit undef), (30, .lit undef), (29, .lit undef), (26, .lit undef), (25, .lit undef), (24, .lit undef), (23, .lit undef), (20, B true), (19, B v16), (18, I v5.fKey), (17, .ptr 0 0 3), (0, A a0), (3, I x1), (4, .ptr 0 0 0), (5, A a0), (6, I (a0.length : Int)), (7, I x1)] [sc 0 v5] ?_
 refine qvM [4] [] trivial 4 65 [(55, B true), (54, .lit undef), (53, .lit undef), (52, .lit undef), (51, .lit undef), (50, .lit undef), (49, .lit undef), (48, .lit undef), (47, .lit undef), (46, .lit undef), (45, .lit undef), (44, .lit undef), (43, .lit undef), (40, .lit undef), (39, .lit undef), (38, .lit undef), (37, .lit undef), (36, .lit undef), (35, .lit undef), (34, .lit undef), (33, .lit undef), (32, .lit undef), (31, .lit undef), (30, .lit undef), (29, .lit undef), (26, .lit undef), (25, .lit undef), (24, .lit undef), (23, .lit undef), (20, B true), (19, B v16), (18, I v5.fKey), (17, .ptr 0 0 3), (0, A a0), (3, I x1), (4, .ptr 0 0 0), (5, A a0), (6, I (a0.length : Int)), (7, I x1)] [sc 0 v5] ?_
 refine qn 65 [(0, A a0), (3, I x1), (4, .ptr 0 0 0), (5, A a0), (6, I (a0.length : Int)), (7, I x1), (17, .ptr 0 0 3), (18, I v5.fKey), (19, B v16), (20, B true), (23, .lit undef), (24, .lit undef), (25, .lit undef), (26, .lit undef), (29, .lit undef), (30, .lit undef), (31, .lit undef), (32, .lit undef), (33, .lit undef), (34, .lit undef), (35, .lit undef), (36, .lit undef), (37, .lit undef), (38, .lit undef), (39, .lit undef), (40, .lit undef), (43, .lit undef), (44, .lit undef), (45, .lit undef), (46, .lit undef), (47, .lit undef), (48, .lit undef), (49, .lit undef), (50, .lit undef), (51, .lit undef), (52, .lit undef), (53, .lit undef), (54, .lit undef), (55, B true)] [sc 0 v5] ?_
 exact ⟨true, h, it [0, 3, 4, 5, 6, 7, 55]⟩
 replace h := bF hc35 h
 rw [hc35]
 refine qvM [4] [0] (hB trivial) 2 65 [(24, I v5.fBorn), (23, .ptr 0 0 4), (22, B false), (20, B false), (19, B v16), (18, I v5.fKey), (17, .ptr 0 0 3), (0, A a0), (3, I x1), (4, .ptr 0 0 0), (5, A a0), (6, I (a0.length : Int)), (7, I x1)] [sc 0 v5] ?_
 obtain ⟨v18, hv19, h⟩ := bindS h
 refine qX (some 25) (B v18) 65 [(25, B v18), (24, I v5.fBorn), (23, .ptr 0 0 4), (22, B false), (20, B false), (19, B v16), (18, I v5.fKey), (17, .ptr 0 0 3), (0, A a0), (3, I x1), (4, .ptr 0 0 0), (5, A a0), (6, I (a0.length : Int)), (7, I x1)] [sc 0 v5] (fun Γ' hΓ => CoreE.of_g (callV_sound (τ := τ) (by kernel_rfl) rfl (ok_impl_between hv19) (FzTo.frz rfl))) trivial ?_
 refine qvM [4] [] trivial 3 65 [(28, B (!v18)), (26, B (!v18)), (25, B v18), (24, I v5.fBorn), (23, .ptr 0 0 4), (20, B false), (19, B v16), (18, I v5.fKey), (17, .ptr 0 0 3), (0, A a0), (3, I x1), (4, .ptr 0 0 0), (5, A a0), (6, I (a0.length : Int)), (7, I x1)] [sc 0 v5] ?_
 rcases fk (!v18) with hc34 | hc34
 replace h := bT hc34 h
 rw [hc34]
 refine qvM [4] [0] (hB trivial) 2 65 [(30, .lit undef), (29, .lit undef), (28, B true), (26, B true), (25, B v18), (24, I v5.fBorn), (23, .ptr 0 0 4), (20, B false), (19, B v16), (18, I v5.fKey), (17, .ptr 0 0 3), (0, A a0), (3, I x1), (4, .ptr 0 0 0), (5, A a0), (6, I (a0.length : Int)), (7, I x1)] [sc 0 v5] ?_
 refine qvM [4] [] trivial 2 65 [(32, .lit undef), (31, .lit undef), (30, .lit undef), (29, .lit undef), (28, B true), (26, B true), (25, B v18), (24, I v5.fBorn), (23, .ptr 0 0 4), (20, B false), (19, B v16), (18, I v5.fKey), (17, .ptr 0 0 3), (0, A a0), (3, I x1), (4, .ptr 0 0 0), (5, A a0), (6, I (a0.length : Int)), (7, I x1)] [sc 0 v5] ?_
 refine qvM [4] [0] (hB trivial) 4 65 [(36, .lit undef), (35, .lit undef), (34, .lit undef), (33, .lit undef), (32, .lit undef), (31, .lit undef), (30, .lit undef), (29, .lit undef), (28, B true), (26, B true), (25, B v18), (24, I v5.fBorn), (23, .ptr 0 0 4), (20, B false), (19, B v16), (18, I v5.fKey), (17, .ptr 0 0 3), (0, A a0), (3, I x1), (4, .ptr 0 0 0), (5, A a0), (6, I (a0.length : Int)), (7, I x1)] [sc 0 v5] ?_
 refine qvM [4] [] trivial 14 65 [(50, .lit undef), (49, .lit undef), (48, .lit undef), (47, .lit undef), (46, .lit undef), (45, .lit undef), (44, .lit undef), (43, .lit undef), (42, B true), (40, .lit undef), (39, .lit undef), (38, .lit undef), (37, .lit undef), (36, .lit undef), (35, .lit undef), (34, .lit undef), (33, .lit undef), (32, .lit undef), (31, .lit undef), (30, .lit undef), (29, .lit undef), (26, B true), (25, B v18), (24, I v5.fBorn), (23, .ptr 0 0 4), (20, B false), (19, B v16), (18, I v5.fKey), (17, .ptr 0 0 3), (0, A a0), (3, I x1), (4, .ptr 0 0 0), (5, A a0), (6, I (a0.length : Int)), (7, I x1)] [sc 0 v5] ?_
 refine qvM [4] [0] (hB trivial) 1 65 [(51, .lit undef), (50, .lit undef), (49, .lit undef), (48, .lit undef), (47, .lit undef), (46, .lit undef), (45, .lit undef), (44, .lit undef), (43, .lit undef), (42, B true), (40, .lit undef), (39, .lit undef), (38, .lit undef), (37, .lit undef), (36, .lit undef), (35, .lit undef), (34, .lit undef), (33, .lit undef), (32, .lit undef), (31, .lit undef), (30, .lit undef), (29, .lit undef), (26, B true), (25, B v18), (24, I v5.fBorn), (23, .ptr 0 0 4), (20, B false), (19, B v16), (18, I v5.fKey), (17, .ptr 0 0 3), (0, A a0), (3, I x1), (4, .ptr 0 0 0), (5, A a0), (6, I (a0.length : Int)), (7, I x1)] [sc 0 v5] ?_
 refine qvM [4] [] trivial 4 65 [(55, B true), (54, .lit undef), (53, .lit undef), (52, .lit undef), (51, .lit undef), (50, .lit undef), (49, .lit undef), (48, .lit undef), (47, .lit undef), (46, .lit undef), (45, .lit undef), (44, .lit undef), (43, .lit undef), (40, .lit undef), (39, .lit undef), (38, .lit undef), (37, .lit undef), (36, .lit undef), (35, .lit undef), (34, .lit undef), (33, .lit undef), (32, .lit undef), (31, .lit undef), (30, .lit undef), (29, .lit undef), (26, B true), (25, B v18), (24, I v5.fBorn), (23, .ptr 0 0 4), (20, B false), (19, B v16), (18, I v5.fKey), (17, .ptr 0 0 3), (0, A a0), (3, I x1), (4, .ptr 0 0 0), (5, A a0), (6, I (a0.length : Int)), (7, I x1)] [sc 0 v5] ?_
 refine qn 65 [(0, A a0), (3, I x1), (4, .ptr 0 0 0), (5, A a0), (6, I (a0.length : Int)), (7, I x1), (17, .ptr 0 0 3), (18, I v5.fKey), (19, B v16), (20, B false), (23, .ptr 0 0 4), (24, I v5.fBorn), (25, B v18), (26, B true), (29, .lit undef), (30, .lit undef), (31, .lit undef), (32, .lit undef), (33, .lit undef), (34, .lit undef), (35, .lit undef), (36, .lit undef), (37, .lit undef), (38, .lit undef), (39, .lit undef), (40, .lit undef), (43, .lit undef), (44, .lit undef), (45, .lit undef), (46, .lit undef), (47, .lit undef), (48, .lit undef), (49, .lit undef), (50, .lit undef), (51, .lit undef), (52, .lit undef), (53, .lit undef), (54, .lit undef), (55, B true)] [sc 0 v5] ?_
 exact ⟨true, h, it [0, 3, 4, 5, 6, 7, 55]⟩
 replace h := bF hc34 h
 rw [hc34]
 refine qvM [4] [0] (hB trivial) 2 65 [(30, I v5.fDied), (29, .ptr 0 0 5), (28, B false), (26, B false), (25, B v18), (24, I v5.fBorn), (23, .ptr 0 0 4), (20, B false), (19, B v16), (18, I v5.fKey), (17, .ptr 0 0 3), (0, A a0), (3, I x1), (4, .ptr 0 0 0), (5, A a0), (6, I (a0.length : Int)), (7, I x1)] [sc 0 v5] ?_
 refine qvM [4] [] trivial 2 65 [(32, B (!(v5.fDied == 0))), (31, B (!(v5.fDied == 0))), (30, I v5.fDied), (29, .ptr 0 0 5), (28, B false), (26, B false), (25, B v18), (24, I v5.fBorn), (23, .ptr 0 0 4), (20, B false), (19, B v16), (18, I v5.fKey), (17, .ptr 0 0 3), (0, A a0), (3, I x1), (4, .ptr 0 0 0), (5, A a0), (6, I (a0.length : Int)), (7, I x1)] [sc 0 v5] ?_
 rcases fk (!(v5.fDied == 0)) with hc33 | hc33
 replace h := bT hc33 h
 rw [hc33]
 refine qvM [4] [0] (hB trivial) 4 65 [(36, I v5.fBorn), (35, .ptr 0 0 4), (34, I v5.fDied), (33, .ptr 0 0 5), (32, B true), (31, B true), (30, I v5.fDied), (29, .ptr 0 0 5), (28, B false), (26, B false), (25, B v18), (24, I v5.fBorn), (23, .ptr 0 0 4), (20, B false), (19, B v16), (18, I v5.fKey), (17, .ptr 0 0 3), (0, A a0), (3, I x1), (4, .ptr 0 0 0), (5, A a0), (6, I (a0.length : Int)), (7, I x1)] [sc 0 v5] ?_
 refine qvM [4] [] trivial 1 65 [(37, I (w64 (v5.fBorn + 1))), (36, I v5.fBorn), (35, .ptr 0 0 4), (34, I v5.fDied), (33, .ptr 0 0 5), (32, B true), (31, B true), (30, I v5.fDied), (29, .ptr 0 0 5), (28, B false), (26, B false), (25, B v18), (24, I v5.fBorn), (23, .ptr 0 0 4), (20, B false), (19, B v16), (18, I v5.fKey), (17, .ptr 0 0 3), (0, A a0), (3, I x1), (4, .ptr 0 0 0), (5, A a0), (6, I (a0.length : Int)), (7, I x1)] [sc 0 v5] ?_
 obtain ⟨v20, hv21, h⟩ := bindS h
 refine qX (some 38) (B v20) 65 [(38, B v20), (37, I (w64 (v5.fBorn + 1))), (36, I v5.fBorn), (35, .ptr 0 0 4), (34, I v5.fDied), (33, .ptr 0 0 5), (32, B true), (31, B true), (30, I v5.fDied), (29, .ptr 0 0 5), (28, B false), (26, B false), (25, B v18), (24, I v5.fBorn), (23, .ptr 0 0 4), (20, B false), (19, B v16), (18, I v5.fKey), (17, .ptr 0 0 3), (0, A a0), (3, I x1), (4, .ptr 0 0 0), (5, A a0), (6, I (a0.length : Int)), (7, I x1)] [sc 0 v5] (fun Γ' hΓ => CoreE.of_g (callV_sound (τ := τ) (by kernel_rfl) rfl (ok_impl_between hv21) (FzTo.frz rfl))) trivial ?_
 refine qvM [4] [] trivial 4 65 [(42, B (!v20)), (40, B (!v20)), (39, B (!v20)), (38, B v20), (37, I (w64 (v5.fBorn + 1))), (36, I v5.fBorn), (35, .ptr 0 0 4), (34, I v5.fDied), (33, .ptr 0 0 5), (32, B true), (31, B true), (30, I v5.fDied), (29, .ptr 0 0 5), (26, B false), (25, B v18), (24, I v5.fBorn), (23, .ptr 0 0 4), (20, B false), (19, B v16), (18, I v5.fKey), (17, .ptr 0 0 3), (0, A a0), (3, I x1), (4, .ptr 0 0 0), (5, A a0), (6, I (a0.length : Int)), (7, I x1)] [sc 0 v5] ?_
 rcases fk (!v20) with hc27 | hc27
 replace h := bT hc27 h
 rw [hc27]
 refine qvM [4] [] trivial 8 65 [(50, .lit undef), (49, .lit undef), (48, .lit undef), (47, .lit undef), (46, .lit undef), (45, .lit undef), (44, .lit undef), (43, .lit undef), (42, B true), (40, B true), (39, B true), (38, B v20), (37, I (w64 (v5.fBorn + 1))), (36, I v5.fBorn), (35, .ptr 0 0 4), (34, I v5.fDied), (33, .ptr 0 0 5), (32, B true), (31, B true), (30, I v5.fDied), (29, .ptr 0 0 5), (26, B false), (25, B v18), (24, I v5.fBorn), (23, .ptr 0 0 4), (20, B false), (19, B v16), (18, I v5.fKey), (17, .ptr 0 0 3), (0, A a0), (3, I x1), (4, .ptr 0 0 0), (5, A a0), (6, I (a0.length : Int)), (7, I x1)] [sc 0 v5] ?_
 refine qvM [4] [0] (hB trivial) 1 65 [(51, .lit undef), (50, .lit undef), (49, .lit undef), (48, .lit undef), (47, .lit undef), (46, .lit undef), (45, .lit undef), (44, .lit undef), (43, .lit undef), (42, B true), (40, B true), (39, B true), (38, B v20), (37, I (w64 (v5.fBorn + 1))), (36, I v5.fBorn), (35, .ptr 0 0 4), (34, I v5.fDied), (33, .ptr 0 0 5), (32, B true), (31, B true), (30, I v5.fDied), (29, .ptr 0 0 5), (26, B false), (25, B v18), (24, I v5.fBorn), (23, .ptr 0 0 4), (20, B false), (19, B v16), (18, I v5.fKey), (17, .ptr 0 0 3), (0, A a0), (3, I x1), (4, .ptr 0 0 0), (5, A a0), (6, I (a0.length : Int)), (7, I x1)] [sc 0 v5] ?_
 refine qvM [4] [] trivial 4 65 [(55, B true), (54, .lit undef), (53, .lit undef), (52, .lit undef), (51, .lit undef), (50, .lit undef), (49, .lit undef), (48, .lit undef), (47, .lit undef), (46, .lit undef), (45, .lit undef), (44, .lit undef), (43, .lit undef), (40, B true), (39, B true), (38, B v20), (37, I (w64 (v5.fBorn + 1))), (36, I v5.fBorn), (35, .ptr 0 0 4), (34, I v5.fDied), (33, .ptr 0 0 5), (32, B true), (31, B true), (30, I v5.fDied), (29, .ptr 0 0 5), (26, B false), (25, B v18), (24, I v5.fBorn), (23, .ptr 0 0 4), (20, B false), (19, B v16), (18, I v5.fKey), (17, .ptr 0 0 3), (0, A a0), (3, I x1), (4, .ptr 0 0 0), (5, A a0), (6, I (a0.length : Int)), (7, I x1)] [sc 0 v5] ?_
 refine qn 65 [(0, A a0), (3, I x1), (4, .ptr 0 0 0), (5, A a0), (6, I (a0.length : Int)), (7, I x1), (17, .ptr 0 0 3), (18, I v5.fKey), (19, B v16), (20, B false), (23, .ptr 0 0 4), (24, I v5.fBorn), (25, B v18), (26, B false), (29, .ptr 0 0 5), (30, I v5.fDied), (31, B true), (32, B true), (33, .ptr 0 0 5), (34, I v5.fDied), (35, .ptr 0 0 4), (36, I v5.fBorn), (37, I (w64 (v5.fBorn + 1))), (38, B v20), (39, B true), (40, B true), (43, .lit undef), (44, .lit undef), (45, .lit undef), (46, .lit undef), (47, .lit undef), (48, .lit undef), (49, .lit undef), (50, .lit undef), (51, .lit undef), (52, .lit undef), (53, .lit undef), (54, .lit undef), (55, B true)] [sc 0 v5] ?_
 exact ⟨true, h, it [0, 3, 4, 5, 6, 7, 55]⟩
 replace h := bF hc27 h
 rw [hc27]
 refine qvM [4] [] trivial 3 65 [(45, B (decide (x1 > 0))), (44, B (decide (x1 > 0))), (43, I x1), (42, B false), (40, B false), (39, B false), (38, B v20), (37, I (w64 (v5.fBorn + 1))), (36, I v5.fBorn), (35, .ptr 0 0 4), (34, I v5.fDied), (33, .ptr 0 0 5), (32, B true), (31, B true), (30, I v5.fDied), (29, .ptr 0 0 5), (26, B false), (25, B v18), (24, I v5.fBorn), (23, .ptr 0 0 4), (20, B false), (19, B v16), (18, I v5.fKey), (17, .ptr 0 0 3), (0, A a0), (3, I x1), (4, .ptr 0 0 0), (5, A a0), (6, I (a0.length : Int)), (7, I x1)] [sc 0 v5] ?_
 rcases fk (decide (x1 > 0)) with hc26 | hc26
 replace h := bT hc26 h
 rw [hc26]
 refine qvM [4] [] trivial 3 65 [(48, I (w64 (x1 - 1))), (47, I x1), (46, A a0), (45, B true), (44, B true), (43, I x1), (42, B false), (40, B false), (39, B false), (38, B v20), (37, I (w64 (v5.fBorn + 1))), (36, I v5.fBorn), (35, .ptr 0 0 4), (34, I v5.fDied), (33, .ptr 0 0 5), (32, B true), (31, B true), (30, I v5.fDied), (29, .ptr 0 0 5), (26, B false), (25, B v18), (24, I v5.fBorn), (23, .ptr 0 0 4), (20, B false), (19, B v16), (18, I v5.fKey), (17, .ptr 0 0 3), (0, A a0), (3, I x1), (4, .ptr 0 0 0), (5, A a0), (6, I (a0.length : Int)), (7, I x1)] [sc 0 v5] ?_
 obtain ⟨v22, hv23, h⟩ := bindS h
 refine qX (some 49) (pf v22 0) 65 [(49, pf v22 0), (48, I (w64 (x1 - 1))), (47, I x1), (46, A a0), (45, B true), (44, B true), (43, I x1), (42, B false), (40, B false), (39, B false), (38, B v20), (37, I (w64 (v5.fBorn + 1))), (36, I v5.fBorn), (35, .ptr 0 0 4), (34, I v5.fDied), (33, .ptr 0 0 5), (32, B true), (31, B true), (30, I v5.fDied), (29, .ptr 0 0 5), (26, B false), (25, B v18), (24, I v5.fBorn), (23, .ptr 0 0 4), (20, B false), (19, B v16), (18, I v5.fKey), (17, .ptr 0 0 3), (0, A a0), (3, I x1), (4, .ptr 0 0 0), (5, A a0), (6, I (a0.length : Int)), (7, I x1)] [sc 0 v5] (fun Γ' hΓ => CoreE.of_y (idxV_sound τ_ok (by kernel_rfl) hv23)) trivial ?_
 refine qvM [4] [] trivial 1 65 [(50, E v22), (49, pf v22 0), (48, I (w64 (x1 - 1))), (47, I x1), (46, A a0), (45, B true), (44, B true), (43, I x1), (42, B false), (40, B false), (39, B false), (38, B v20), (37, I (w64 (v5.fBorn + 1))), (36, I v5.fBorn), (35, .ptr 0 0 4), (34, I v5.fDied), (33, .ptr 0 0 5), (32, B true), (31, B true), (30, I v5.fDied), (29, .ptr 0 0 5), (26, B false), (25, B v18), (24, I v5.fBorn), (23, .ptr 0 0 4), (20, B false), (19, B v16), (18, I v5.fKey), (17, .ptr 0 0 3), (0, A a0), (3, I x1), (4, .ptr 0 0 0), (5, A a0), (6, I (a0.length : Int)), (7, I x1)] [sc 0 v5] ?_
 refine qvM [4] [0] (hB trivial) 1 65 [(51, E v5), (50, E v22), (49, pf v22 0), (48, I (w64 (x1 - 1))), (47, I x1), (46, A a0), (45, B true), (44, B true), (43, I x1), (42, B false), (40, B false), (39, B false), (38, B v20), (37, I (w64 (v5.fBorn + 1))), (36, I v5.fBorn), (35, .ptr 0 0 4), (34, I v5.fDied), (33, .ptr 0 0 5), (32, B true), (31, B true), (30, I v5.fDied), (29, .ptr 0 0 5), (26, B false), (25, B v18), (24, I v5.fBorn), (23, .ptr 0 0 4), (20, B false), (19, B v16), (18, I v5.fKey), (17, .ptr 0 0 3), (0, A a0), (3, I x1), (4, .ptr 0 0 0), (5, A a0), (6, I (a0.length : Int)), (7, I x1)] [sc 0 v5] ?_
 obtain ⟨v24, hv25, h⟩ := bindS h
 refine qX (some 52) (I v24) 65 [(52, I v24), (51, E v5), (50, E v22), (49, pf v22 0), (48, I (w64 (x1 - 1))), (47, I x1), (46, A a0), (45, B true), (44, B true), (43, I x1), (42, B false), (40, B false), (39, B false), (38, B v20), (37, I (w64 (v5.fBorn + 1))), (36, I v5.fBorn), (35, .ptr 0 0 4), (34, I v5.fDied), (33, .ptr 0 0 5), (32, B true), (31, B true), (30, I v5.fDied), (29, .ptr 0 0 5), (26, B false), (25, B v18), (24, I v5.fBorn), (23, .ptr 0 0 4), (20, B false), (19, B v16), (18, I v5.fKey), (17, .ptr 0 0 3), (0, A a0), (3, I x1), (4, .ptr 0 0 0), (5, A a0), (6, I (a0.length : Int)), (7, I x1)] [sc 0 v5] (fun Γ' hΓ => CoreE.of_g (callV_sound (τ := τ) (by kernel_rfl) rfl (ok_impl_Mark_order hv25) (FzTo.frz rfl))) trivial ?_
 refine qvnM [4] [] trivial 3 65 [(0, A a0), (3, I x1), (4, .ptr 0 0 0), (5, A a0), (6, I (a0.length : Int)), (7, I x1), (17, .ptr 0 0 3), (18, I v5.fKey), (19, B v16), (20, B false), (23, .ptr 0 0 4), (24, I v5.fBorn), (25, B v18), (26, B false), (29, .ptr 0 0 5), (30, I v5.fDied), (31, B true), (32, B true), (33, .ptr 0 0 5), (34, I v5.fDied), (35, .ptr 0 0 4), (36, I v5.fBorn), (37, I (w64 (v5.fBorn + 1))), (38, B v20), (39, B false), (40, B false), (43, I x1), (44, B true), (45, B true), (46, A a0), (47, I x1), (48, I (w64 (x1 - 1))), (49, pf v22 0), (50, E v22), (51, E v5), (52, I v24), (53, B (decide (v24 > 0))), (54, B (decide (v24 > 0))), (55, B (decide (v24 > 0)))] [sc 0 v5] ?_
 exact ⟨(decide (v24 > 0)), h, it [0, 3, 4, 5, 6, 7, 55]⟩
 replace h := bF hc26 h
 rw [hc26]
 refine qvM [4] [] trivial 5 65 [(50, .lit undef), (49, .lit undef), (48, .lit undef), (47, .lit undef), (46, .lit undef), (45, B false), (44, B false), (43, I x1), (42, B false), (40, B false), (39, B false), (38, B v20), (37, I (w64 (v5.fBorn + 1))), (36, I v5.fBorn), (35, .ptr 0 0 4), (34, I v5.fDied), (33, .ptr 0 0 5), (32, B true), (31, B true), (30, I v5.fDied), (29, .ptr 0 0 5), (26, B false), (25, B v18), (24, I v5.fBorn), (23, .ptr 0 0 4), (20, B false), (19, B v16), (18, I v5.fKey), (17, .ptr 0 0 3), (0, A a0), (3, I x1), (4, .ptr 0 0 0), (5, A a0), (6, I (a0.length : Int)), (7, I x1)] [sc 0 v5] ?_
 refine qvM [4] [0] (hB trivial) 1 65 [(51, .lit undef), (50, .lit undef), (49, .lit undef), (48, .lit undef), (47, .lit undef), (46, .lit undef), (45, B false), (44, B false), (43, I x1), (42, B false), (40, B false), (39, B false), (38, B v20), (37, I (w64 (v5.fBorn + 1))), (36, I v5.fBorn), (35, .ptr 0 0 4), (34, I v5.fDied), (33, .ptr 0 0 5), (32, B true), (31, B true), (30, I v5.fDied), (29, .ptr 0 0 5), (26, B false), (25, B v18), (24, I v5.fBorn), (23, .ptr 0 0 4), (20, B false), (19, B v16), (18, I v5.fKey), (17, .ptr 0 0 3), (0, A a0), (3, I x1), (4, .ptr 0 0 0), (5, A a0), (6, I (a0.length : Int)), (7, I x1)] [sc 0 v5] ?_
 refine qvM [4] [] trivial 4 65 [(55, B false), (54, B false), (53, .lit undef), (52, .lit undef), (51, .lit undef), (50, .lit undef), (49, .lit undef), (48, .lit undef), (47, .lit undef), (46, .lit undef), (45, B false), (44, B false), (43, I x1), (40, B false), (39, B false), (38, B v20), (37, I (w64 (v5.fBorn + 1))), (36, I v5.fBorn), (35, .ptr 0 0 4), (34, I v5.fDied), (33, .ptr 0 0 5), (32, B true), (31, B true), (30, I v5.fDied), (29, .ptr 0 0 5), (26, B false), (25, B v18), (24, I v5.fBorn), (23, .ptr 0 0 4), (20, B false), (19, B v16), (18, I v5.fKey), (17, .ptr 0 0 3), (0, A a0), (3, I x1), (4, .ptr 0 0 0), (5, A a0), (6, I (a0.length : Int)), (7, I x1)] [sc 0 v5] ?_
 refine qn 65 [(0, A a0), (3, I x1), (4, .ptr 0 0 0), (5, A a0), (6, I (a0.length : Int)), (7, I x1), (17, .ptr 0 0 3), (18, I v5.fKey), (19, B v16), (20, B false), (23, .ptr 0 0 4), (24, I v5.fBorn), (25, B v18), (26, B false), (29, .ptr 0 0 5), (30, I v5.fDied), (31, B true), (32, B true), (33, .ptr 0 0 5), (34, I v5.fDied), (35, .ptr 0 0 4), (36, I v5.fBorn), (37, I (w64 (v5.fBorn + 1))), (38, B v20), (39, B false), (40, B false), (43, I x1), (44, B false), (45, B false), (46, .lit undef), (47, .lit undef), (48, .lit undef), (49, .lit undef), (50, .lit undef), (51, .lit undef), (52, .lit undef), (53, .lit undef), (54, B false), (55, B false)] [sc 0 v5] ?_
 exact ⟨false, h, it [0, 3, 4, 5, 6, 7, 55]⟩
 replace h := bF hc33 h
 rw [hc33]
 refine qvM [4] [0] (hB trivial) 4 65 [(36, .lit undef), (35, .lit undef), (34, .lit undef), (33, .lit undef), (32, B false), (31, B false), (30, I v5.fDied), (29, .ptr 0 0 5), (28, B false), (26, B false), (25, B v18), (24, I v5.fBorn), (23, .ptr 0 0 4), (20, B false), (19, B v16), (18, I v5.fKey), (17, .ptr 0 0 3), (0, A a0), (3, I x1), (4, .ptr 0 0 0), (5, A a0), (6, I (a0.length : Int)), (7, I x1)] [sc 0 v5] ?_
 refine qvM [4] [] trivial 9 65 [(45, B (decide (x1 > 0))), (44, B (decide (x1 > 0))), (43, I x1), (42, B false), (40, B false), (39, .lit undef), (38, .lit undef), (37, .lit undef), (36, .lit undef), (35, .lit undef), (34, .lit undef), (33, .lit undef), (32, B false), (31, B false), (30, I v5.fDied), (29, .ptr 0 0 5), (26, B false), (25, B v18), (24, I v5.fBorn), (23, .ptr 0 0 4), (20, B false), (19, B v16), (18, I v5.fKey), (17, .ptr 0 0 3), (0, A a0), (3, I x1), (4, .ptr 0 0 0), (5, A a0), (6, I (a0.length : Int)), (7, I x1)] [sc 0 v5] ?_
 rcases fk (decide (x1 > 0)) with hc32 | hc32
 replace h := bT hc32 h
 rw [hc32]
 refine qvM [4] [] trivial 3 65 [(48, I (w64 (x1 - 1))), (47, I x1), (46, A a0), (45, B true), (44, B true), (43, I x1), (42, B false), (40, B false), (39, .lit undef), (38, .lit undef), (37, .lit undef), (36, .lit undef), (35, .lit undef), (34, .lit undef), (33, .lit undef), (32, B false), (31, B false), (30, I v5.fDied), (29, .ptr 0 0 5), (26, B false), (25, B v18), (24, I v5.fBorn), (23, .ptr 0 0 4), (20, B false), (19, B v16), (18, I v5.fKey), (17, .ptr 0 0 3), (0, A a0), (3, I x1), (4, .ptr 0 0 0), (5, A a0), (6, I (a0.length : Int)), (7, I x1)] [sc 0 v5] ?_
 obtain ⟨v28, hv29, h⟩ := bindS h
 refine qX (some 49) (pf v28 0) 65 [(49, pf v28 0), (48, I (w64 (x1 - 1))), (47, I x1), (46, A a0), (45, B true), (44, B true), (43, I x1), (42, B false), (40, B false), (39, .lit undef), (38, .lit undef), (37, .lit undef), (36, .lit undef), (35, .lit undef), (34, .lit undef), (33, .lit undef), (32, B false), (31, B false), (30, I v5.fDied), (29, .ptr 0 0 5), (26, B false), (25, B v18), (24, I v5.fBorn), (23, .ptr 0 0 4), (20, B false), (19, B v16), (18, I v5.fKey), (17, .ptr 0 0 3), (0, A a0), (3, I x1), (4, .ptr 0 0 0), (5, A a0), (6, I (a0.length : Int)), (7, I x1)] [sc 0 v5] (fun Γ' hΓ => CoreE.of_y (idxV_sound τ_ok (by kernel_rfl) hv29)) trivial ?_
 refine qvM [4] [] trivial 1 65 [(50, E v28), (49, pf v28 0), (48, I (w64 (x1 - 1))), (47, I x1), (46, A a0), (45, B true), (44, B true), (43, I x1), (42, B false), (40, B false), (39, .lit undef), (38, .lit undef), (37, .lit undef), (36, .lit undef), (35, .lit undef), (34, .lit undef), (33, .lit undef), (32, B false), (31, B false), (30, I v5.fDied), (29, .ptr 0 0 5), (26, B false), (25, B v18), (24, I v5.fBorn), (23, .ptr 0 0 4), (20, B false), (19, B v16), (18, I v5.fKey), (17, .ptr 0 0 3), (0, A a0), (3, I x1), (4, .ptr 0 0 0), (5, A a0), (6, I (a0.length : Int)), (7, I x1)] [sc 0 v5] ?_
 refine qvM [4] [0] (hB trivial) 1 65 [(51, E v5), (50, E v28), (49, pf v28 0), (48, I (w64 (x1 - 1))), (47, I x1), (46, A a0), (45, B true), (44, B true), (43, I x1), (42, B false), (40, B false), (39, .lit undef), (38, .lit undef), (37, .lit undef), (36, .lit undef), (35, .lit undef), (34, .lit undef), (33, .lit undef), (32, B false), (31, B false), (30, I v5.fDied), (29, .ptr 0 0 5), (26, B false), (25, B v18), (24, I v5.fBorn), (23, .ptr 0 0 4), (20, B false), (19, B v16), (18, I v5.fKey), (17, .ptr 0 0 3), (0, A a0), (3, I x1), (4, .ptr 0 0 0), (5, A a0), (6, I (a0.length : Int)), (7, I x1)] [sc 0 v5] ?_
 obtain ⟨v30, hv31, h⟩ := bindS h
 refine qX (some 52) (I v30) 65 [(52, I v30), (51, E v5), (50, E v28), (49, pf v28 0), (48, I (w64 (x1 - 1))), (47, I x1), (46, A a0), (45, B true), (44, B true), (43, I x1), (42, B false), (40, B false), (39, .lit undef), (38, .lit undef), (37, .lit undef), (36, .lit undef), (35, .lit undef), (34, .lit undef), (33, .lit undef), (32, B false), (31, B false), (30, I v5.fDied), (29, .ptr 0 0 5), (26, B false), (25, B v18), (24, I v5.fBorn), (23, .ptr 0 0 4), (20, B false), (19, B v16), (18, I v5.fKey), (17, .ptr 0 0 3), (0, A a0), (3, I x1), (4, .ptr 0 0 0), (5, A a0), (6, I (a0.length : Int)), (7, I x1)] [sc 0 v5] (fun Γ' hΓ => CoreE.of_g (callV_sound (τ := τ) (by kernel_rfl) rfl (ok_impl_Mark_order hv31) (FzTo.frz rfl))) trivial ?_
 refine qvnM [4] [] trivial 3 65 [(0, A a0), (3, I x1), (4, .ptr 0 0 0), (5, A a0), (6, I (a0.length : Int)), (7, I x1), (17, .ptr 0 0 3), (18, I v5.fKey), (19, B v16), (20, B false), (23, .ptr 0 0 4), (24, I v5.fBorn), (25, B v18), (26, B false), (29, .ptr 0 0 5), (30, I v5.fDied), (31, B false), (32, B false), (33, .lit undef), (34, .lit undef), (35, .lit undef), (36, .lit undef), (37, .lit undef), (38, .lit undef), (39, .lit undef), (40, B false), (43, I x1), (44, B true), (45, B true), (46, A a0), (47, I x1), (48, I (w64 (x1 - 1))), (49, pf v28 0), (50, E v28), (51, E v5), (52, I v30), (53, B (decide (v30 > 0))), (54, B (decide (v30 > 0))), (55, B (decide (v30 > 0)))] [sc 0 v5] ?_
 exact ⟨(decide (v30 > 0)), h, it [0, 3, 4, 5, 6, 7, 55]⟩
 replace h := bF hc32 h
 rw [hc32]
 refine qvM [4] [] trivial 5 65 [(50, .lit undef), (49, .lit undef), (48, .lit undef), (47, .lit undef), (46, .lit undef), (45, B false), (44, B false), (43, I x1), (42, B false), (40, B false), (39, .lit undef), (38, .lit undef), (37, .lit undef), (36, .lit undef), (35, .lit undef), (34, .lit undef), (33, .lit undef), (32, B false), (31, B false), (30, I v5.fDied), (29, .ptr 0 0 5), (26, B false), (25, B v18), (24, I v5.fBorn), (23, .ptr 0 0 4), (20, B false), (19, B v16), (18, I v5.fKey), (17, .ptr 0 0 3), (0, A a0), (3, I x1), (4, .ptr 0 0 0), (5, A a0), (6, I (a0.length : Int)), (7, I x1)] [sc 0 v5] ?_
 refine qvM [4] [0] (hB trivial) 1 65 [(51, .lit undef), (50, .lit undef), (49, .lit undef), (48, .lit undef), (47, .lit undef), (46, .lit undef), (45, B false), (44, B false), (43, I x1), (42, B false), (40, B false), (39, .lit undef), (38, .lit undef), (37, .lit undef), (36, .lit undef), (35, .lit undef), (34, .lit undef), (33, .lit undef), (32, B false), (31, B false), (30, I v5.fDied), (29, .ptr 0 0 5), (26, B false), (25, B v18), (24, I v5.fBorn), (23, .ptr 0 0 4), (20, B false), (19, B v16), (18, I v5.fKey), (17, .ptr 0 0 3), (0, A a0), (3, I x1), (4, .ptr 0 0 0), (5, A a0), (6, I (a0.length : Int)), (7, I x1)] [sc 0 v5] ?_
 refine qvM [4] [] trivial 4 65 [(55, B false), (54, B false), (53, .lit undef), (52, .lit undef), (51, .lit undef), (50, .lit undef), (49, .lit undef), (48, .lit undef), (47, .lit undef), (46, .lit undef), (45, B false), (44, B false), (43, I x1), (40, B false), (39, .lit undef), (38, .lit undef), (37, .lit undef), (36, .lit undef), (35, .lit undef), (34, .lit undef), (33, .lit undef), (32, B false), (31, B false), (30, I v5.fDied), (29, .ptr 0 0 5), (26, B false), (25, B v18), (24, I v5.fBorn), (23, .ptr 0 0 4), (20, B false), (19, B v16), (18, I v5.fKey), (17, .ptr 0 0 3), (0, A a0), (3, I x1), (4, .ptr 0 0 0), (5, A a0), (6, I (a0.length : Int)), (7, I x1)] [sc 0 v5] ?_
 refine qn 65 [(0, A a0), (3, I x1), (4, .ptr 0 0 0), (5, A a0), (6, I (a0.length : Int)), (7, I x1), (17, .ptr 0 0 3), (18, I v5.fKey), (19, B v16), (20, B false), (23, .ptr 0 0 4), (24, I v5.fBorn), (25, B v18), (26, B false), (29, .ptr 0 0 5), (30, I v5.fDied), (31, B false), (32, B false), (33, .lit undef), (34, .lit undef), (35, .lit undef), (36, .lit undef), (37, .lit undef), (38, .lit undef), (39, .lit undef), (40, B false), (43, I x1), (44, B false), (45, B false), (46, .lit undef), (47, .lit undef), (48, .lit undef), (49, .lit undef), (50, .lit undef), (51, .lit undef), (52, .lit undef), (53, .lit undef), (54, B false), (55, B false)] [sc 0 v5] ?_
 exact ⟨false, h, it [0, 3, 4, 5, 6, 7, 55]⟩
 rintro x7 h
 unfold impl_IndexOk_j1 at h
 refine pc h (fun h => ?_) (fun h => ?_)
 refine srveM [4] 65 [(2, B false)] [sc 0 v5] ?_
 cases h
 exact pwp_ret rz
 refine pwp_skip ?_
 refine srvM [4] 2 65 [(0, A a0), (4, .ptr 0 0 0), (5, A a0), (6, I (a0.length : Int)), (7, I x1), (56, A a0), (57, I x1)] [sc 0 v5] ?_
 obtain ⟨v9, hv10, h⟩ := bindS h
 refine opsP_slc τ_ok 58 hv10 (by kernel_rfl) ?_
 refine vM [4] 0 65 [(0, A a0), (4, .ptr 0 0 0), (5, A a0), (6, I (a0.length : Int)), (7, I x1), (58, A v9)] [sc 0 v5] ?_
 refine opsP_imp (Imp.freezeB (v := 0) (cs := Enc.cells v5) (st' := ⟨65, [(0, A a0), (4, pf v5 0), (5, A a0), (6, I (a0.length : Int)), (7, I x1), (58, A v9)], [none]⟩) 0 0 (nx hX) (by kernel_rfl) (Enc.frz _) (wholeC (whole_noRef (by kernel_rfl)) (wholeC (whole_noRef (by kernel_rfl)) (wholeC (whole_noRef (by kernel_rfl)) (wholeC (whole_noRef (by kernel_rfl)) (wholeC (whole_noRef (by kernel_rfl)) (wholeC (whole_noRef (by kernel_rfl)) wholeC0)))))) (HpRel.key HpRel.nil) (by kernel_rfl) rfl (nx hX)) ?_
 refine vM [4] 1 65 [(0, A a0), (5, A a0), (6, I (a0.length : Int)), (7, I x1), (58, A v9), (59, .fn 52 [pf v5 0])] [none] ?_
 obtain ⟨v11, hv12, h⟩ := bindS h
 refine cF 60 (ok_slices_ContainsFunc_impl_Mark_impl_Mark (rfl) (fun _ w hw => ok_impl_IndexOk_1 hw) hv12) ?_
 refine veM [4] 0 65 [(0, A a0), (5, A a0), (6, I (a0.length : Int)), (7, I x1), (60, B v11)] [none] ?_
 refine pc h (fun h => ?_) (fun h => ?_)
 refine srveM [4] 65 [(2, B false)] [none] ?_
 cases h
 exact pwp_ret rz
 refine pwp_skip ?_
 refine rveM [4] 65 [(0, A a0), (5, A a0), (6, I (a0.length : Int)), (7, I (w64 (x1 + 1)))] [none] ?_
 exact ⟨(f2, (w64 (x1 + 1))), h, Nat.lt_succ_self _, (it (st' := ⟨65, [(0, A a0), (5, A a0), (6, I (a0.length : Int)), (7, I (w64 (x1 + 1)))], [none]⟩) [0, 5, 6, 7]).trans (Imp.truncS 0 (nx hX) (by kernel_rfl) (allBelow_mem (by exact (And.intro rfl (And.intro rfl (And.intro rfl (And.intro rfl trivial)))))) (by exact trivial) (by kernel_rfl))⟩
 refine pwp_exit ?_
 refine srveM [4] 65 [(2, B (decide ((a0.length : Int) ≤ 60)))] [] ?_
 cases h
 exact pwp_ret rz
def spec_IndexTurned_j4 (x15 : Int) (K18 : Int → T_impl_Mark → Option ((List T_impl_Mark) × Bool)) (x20 : T_impl_Mark) : Option ((List T_impl_Mark) × Bool) := K18 (w64 (x15 + 1)) x20
def spec_IndexTurned_j5 (a2 : Int) (x15 : Int) (x16 : T_impl_Mark) (K18 : Int → T_impl_Mark → Option ((List T_impl_Mark) × Bool)) (x21 : Bool) : Option ((List T_impl_Mark) × Bool) := bif x21 then spec_IndexTurned_j4 x15 K18 ({ x16 with fDied := a2 }) else spec_IndexTurned_j4 x15 K18 x16
def spec_IndexTurned_l3 (a1 : List T_impl_Write) (a2 : Int) (x4 : Int) (x5 : List T_impl_Mark) (K7 : Int → (List T_impl_Mark) → Option ((List T_impl_Mark) × Bool)) : Nat → Int → T_impl_Mark → Option ((List T_impl_Mark) × Bool)
 | 0, _, _ => none
 | f17 + 1, x15, x16 => bif (decide (x15 < (a1.length : Int))) then (getI a1 x15).bind fun v23 => bif (v23.fKey == x16.fKey) then spec_IndexTurned_j5 a2 x15 x16 (spec_IndexTurned_l3 a1 a2 x4 x5 K7 f17) (x16.fDied == 0) else spec_IndexTurned_j5 a2 x15 x16 (spec_IndexTurned_l3 a1 a2 x4 x5 K7 f17) false else (app x5 ([x16] : List T_impl_Mark)).bind fun v26 => K7 (w64 (x4 + 1)) v26
def spec_IndexTurned_j2 (a1 : List T_impl_Write) (a2 : Int) (x4 : Int) (x5 : List T_impl_Mark) (K7 : Int → (List T_impl_Mark) → Option ((List T_impl_Mark) × Bool)) (v9 : T_impl_Mark) (x11 : Bool) : Option ((List T_impl_Mark) × Bool) := bif x11 then some (([] : List T_impl_Mark), false) else spec_IndexTurned_l3 a1 a2 x4 x5 K7 FUEL 0 v9
def spec_IndexTurned_j7 (x30 : Int) (K33 : Int → (List T_impl_Mark) → Option ((List T_impl_Mark) × Bool)) (x35 : List T_impl_Mark) : Option ((List T_impl_Mark) × Bool) := K33 (w64 (x30 + 1)) x35
def spec_IndexTurned_l6 (a1 : List T_impl_Write) (a2 : Int) : Nat → Int → (List T_impl_Mark) → Option ((List T_impl_Mark) × Bool)
 | 0, _, _ => none
 | f32 + 1, x30, x31 => bif (decide (x30 < (a1.length : Int))) then (getI a1 x30).bind fun v36 => bif (!v36.fGone) then (getI a1 x30).bind fun v39 => (spec_l31Value v39.fRow).bind fun v41 => (getI a1 x30).bind fun v43 => (spec_l31Put x31 (T_impl_Mark.mk v41 v43.fKey a2 0)).bind fun v45 => spec_IndexTurned_j7 x30 (spec_IndexTurned_l6 a1 a2 f32) v45 else spec_IndexTurned_j7 x30 (spec_IndexTurned_l6 a1 a2 f32) x31 else bif (decide ((x31.length : Int) > 60)) then some (([] : List T_impl_Mark), false) else some (x31, true)
def spec_IndexTurned_l1 (a0 : List T_impl_Mark) (a1 : List T_impl_Write) (a2 : Int) : Nat → Int → (List T_impl_Mark) → Option ((List T_impl_Mark) × Bool)
 | 0, _, _ => none
 | f6 + 1, x4, x5 => bif (decide (x4 < (a0.length : Int))) then (getI a0 x4).bind fun v9 => bif (decide (v9.fBorn ≥ a2)) then spec_IndexTurned_j2 a1 a2 x4 x5 (spec_IndexTurned_l1 a0 a1 a2 f6) v9 true else spec_IndexTurned_j2 a1 a2 x4 x5 (spec_IndexTurned_l1 a0 a1 a2 f6) v9 (decide (v9.fDied ≥ a2)) else spec_IndexTurned_l6 a1 a2 FUEL 0 x5
def spec_IndexTurned_j0 (a0 : List T_impl_Mark) (a1 : List T_impl_Write) (a2 : Int) (x1 : Bool) : Option ((List T_impl_Mark) × Bool) := bif x1 then some (([] : List T_impl_Mark), false) else spec_IndexTurned_l1 a0 a1 a2 FUEL 0 ([] : List T_impl_Mark)
def spec_IndexTurned (a0 : List T_impl_Mark) (a1 : List T_impl_Write) (a2 : Int) : Option ((List T_impl_Mark) × Bool) := (spec_IndexOk a0).bind fun v48 => bif (!v48) then spec_IndexTurned_j0 a0 a1 a2 true else (spec_WritesOk a1).bind fun v50 => bif (!v50) then spec_IndexTurned_j0 a0 a1 a2 true else (spec_l1In a2 1 40).bind fun v52 => spec_IndexTurned_j0 a0 a1 a2 (!v52)
end Go.D
