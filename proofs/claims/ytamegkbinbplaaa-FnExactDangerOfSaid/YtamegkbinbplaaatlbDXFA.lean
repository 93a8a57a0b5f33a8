import Derived.Test.YtamegkbinbplaaatlbDMap
import Derived.Test.YtamegkbinbplaaatlbDXT
import Derived.KernelRfl
set_option linter.unusedVariables false
set_option linter.unusedSimpArgs false
namespace Go.D
open Go.Proofs
def laws_eqIntS_l0 (a0 : List Int) (a1 : List Int) : Nat → Int → Option Bool
 | 0, _ => none
 | f3 + 1, x2 => bif (decide (x2 < (a0.length : Int))) then (getI a0 x2).bind fun v6 => (getI a1 x2).bind fun v8 => bif (!(v6 == v8)) then some false else (laws_eqIntS_l0 a0 a1 f3) (w64 (x2 + 1)) else some true
def laws_eqIntS (a0 : List Int) (a1 : List Int) : Option Bool := bif (!((a0.length : Int) == (a1.length : Int))) then some false else laws_eqIntS_l0 a0 a1 FUEL 0
theorem ok_laws_eqIntS {a0 : List Int} {a1 : List Int} {y : Bool} (h : laws_eqIntS a0 a1 = some y) : OK Try.prog 26 [A a0, A a1] (B y) := by
 refine ow Try.func26 fun Γ hX => ?_
 unfold laws_eqIntS at h
 refine srve 26 [(0, A a0), (1, A a1)] [] ?_
 refine pwp_seq ?_
 refine srve 26 [(0, A a0), (1, A a1), (10, B (!((a0.length : Int) == (a1.length : Int))))] [] ?_
 refine pc h (fun h => ?_) (fun h => ?_)
 refine srve 26 [(4, B false)] [] ?_
 cases h
 exact pwp_ret rz
 refine pwp_skip ?_
 refine pwp_seq ?_
 refine srve 26 [(0, A a0), (1, A a1), (5, I 0)] [] ?_
 refine pwp_block ?_
 refine pwp_loop (ι := Nat × Int) (fun (f3, x2) => (⟨26, [(0, A a0), (1, A a1), (5, I x2)], []⟩ : St)) (fun (f3, x2) => laws_eqIntS_l0 a0 a1 f3 x2 = some y) Prod.fst (FUEL, 0) h (it [0, 1, 5]) ?_
 rintro ⟨f3, x2⟩ h
 dsimp only at h ⊢
 rcases f3 with _ | f3
 cases h
 rw [laws_eqIntS_l0] at h
 refine pwp_seq ?_
 refine srve 26 [(0, A a0), (1, A a1), (5, I x2), (14, B (decide (x2 < (a0.length : Int))))] [] ?_
 refine pc h (fun h => ?_) (fun h => ?_)
 refine pwp_skip ?_
 refine pwp_seq ?_
 refine pwp_block ?_
 refine pwp_seq ?_
 refine ip 26 [(0, A a0), (1, A a1), (5, I x2)] [] ?_
 refine pN 9 ?_
 refine qv [] trivial 2 26 [(18, I x2), (17, A a0), (0, A a0), (1, A a1), (5, I x2)] [] ?_
 obtain ⟨v6, hv7, h⟩ := bindS h
 refine qX (some 19) (pf v6 0) 26 [(19, pf v6 0), (0, A a0), (1, A a1), (5, I x2)] [] (fun Γ' hΓ => CoreE.of_y (idxV_sound τ_ok (by kernel_rfl) hv7)) trivial ?_
 refine qv [] trivial 3 26 [(22, I x2), (21, A a1), (20, I v6), (0, A a0), (1, A a1), (5, I x2)] [] ?_
 obtain ⟨v8, hv9, h⟩ := bindS h
 refine qX (some 23) (pf v8 0) 26 [(23, pf v8 0), (20, I v6), (0, A a0), (1, A a1), (5, I x2)] [] (fun Γ' hΓ => CoreE.of_y (idxV_sound τ_ok (by kernel_rfl) hv9)) trivial ?_
 refine qvn [] trivial 2 26 [(0, A a0), (1, A a1), (5, I x2), (25, B (!(v6 == v8)))] [] ?_
 refine pc h (fun h => ?_) (fun h => ?_)
 refine srve 26 [(4, B false)] [] ?_
 cases h
 exact pwp_ret rz
 refine pwp_skip ?_
 refine rve 26 [(0, A a0), (1, A a1), (5, I (w64 (x2 + 1)))] [] ?_
 exact ⟨(f3, (w64 (x2 + 1))), h, Nat.lt_succ_self _, it [0, 1, 5]⟩
 refine pwp_exit ?_
 refine srve 26 [(4, B true)] [] ?_
 cases h
 exact pwp_ret rz
def laws_markIntS_l0 : Nat → Int → Int → (List Int) → Option (Int × List Int)
 | 0, _, _, _ => none
 | f5 + 1, x2, x3, x4 => bif (decide (x3 < (x4.length : Int))) then (getI x4 x3).bind fun v8 => (laws_markIntS_l0 f5) (w64 (x2 + 1)) (w64 (x3 + 1)) (x4.set x3.toNat x2) else some (x2, x4)
def laws_markIntS (a0 : List Int) (a1 : Int) : Option (Int × List Int) := laws_markIntS_l0 FUEL a1 0 a0
theorem len_laws_markIntS_l0 : ∀ (f5 : Nat) (x2 : Int) (x3 : Int) (x4 : List Int) (y : Int × List Int), laws_markIntS_l0 f5 x2 x3 x4 = some y → y.2.length = x4.length
 | 0, _, _, _, _, h => by cases h
 | f5 + 1, x2, x3, x4, y, h => by
  rw [laws_markIntS_l0] at h
  rcases condS h with h | h
  ·obtain ⟨_, _, h⟩ := bindS h
   have h2 := len_laws_markIntS_l0 f5 _ _ _ _ h
   simp only [List.length_set] at h2
   exact h2
  ·cases h; rfl
theorem len_laws_markIntS {a0 : List Int} {a1 : Int} {y : Int × List Int} (h : laws_markIntS a0 a1 = some y) : y.2.length = a0.length := by
 unfold laws_markIntS at h
 exact len_laws_markIntS_l0 _ _ _ _ _ h
theorem ok_laws_markIntS {a0 : List Int} {a1 : Int} {y : Int × List Int} (h : laws_markIntS a0 a1 = some y) : OKd Try.prog 27 1 a0.length (eL a0) [I a1] (.int .i64 y.1) (eL y.2) := by
 refine OKd_of_pwp τ_ok Try.func27 rfl (by kernel_rfl) rfl (O_oc _) (O_oc _) (BlindL.lits (eL_lit DFlat.lit _)) (BlindL.lits (eL_lit DFlat.lit _)) rfl (fun hl => by rw [eL_len, len_laws_markIntS h, ← eL_len]; exact hl) fun Γ hQ => ?_
 refine pwp_imp (Imp.to (st' := ⟨19, [(0, rf 0 0 1 a0), (1, I a1)], [sl 0 a0]⟩) [0, 1] (by kernel_rfl)) ?_
 unfold laws_markIntS at h
 refine srve 19 [(0, rf 0 0 1 a0), (1, I a1)] [sl 0 a0] ?_
 refine pwp_seq ?_
 refine srve 19 [(0, rf 0 0 1 a0), (1, I a1), (5, I 0)] [sl 0 a0] ?_
 refine pwp_block ?_
 refine pwp_loop (ι := Nat × Int × Int × (List Int)) (fun (f5, x2, x3, x4) => (⟨19, [(0, rf 0 0 1 x4), (1, I x2), (5, I x3)], [sl 0 x4]⟩ : St)) (fun (f5, x2, x3, x4) => laws_markIntS_l0 f5 x2 x3 x4 = some y) Prod.fst (FUEL, a1, 0, a0) h (it [0, 1, 5]) ?_
 rintro ⟨f5, x2, x3, x4⟩ h
 dsimp only at h ⊢
 rcases f5 with _ | f5
 cases h
 rw [laws_markIntS_l0] at h
 refine pwp_seq ?_
 refine srve 19 [(0, rf 0 0 1 x4), (1, I x2), (5, I x3), (9, B (decide (x3 < (x4.length : Int))))] [sl 0 x4] ?_
 refine pc h (fun h => ?_) (fun h => ?_)
 refine pwp_skip ?_
 refine pwp_seq ?_
 refine pwp_block ?_
 refine srv 3 19 [(0, rf 0 0 1 x4), (1, I x2), (5, I x3), (12, rf 0 0 1 x4), (13, I x3), (14, I x2)] [sl 0 x4] ?_
 obtain ⟨v8, hv9, h⟩ := bindS h
 refine opsP_idr τ_ok 15 0 0 x4.length hv9 rfl (by kernel_rfl) ?_
 refine v 0 19 [(0, rf 0 0 1 x4), (1, I x2), (5, I x3), (14, I x2), (15, .ptr 0 0 (x3.toNat * 1))] [sl 0 x4] ?_
 refine opsP_ste (vs := [I x2]) τ_ok 3 0 0 0 x2 hv9 (by kernel_rfl) (by kernel_rfl) (by kernel_rfl) (renC (ren_ref (List.length_set ..).symm) (renC trivial (renC trivial (renC trivial (renC trivial renC0))))) ?_
 refine ve 0 19 [(0, .ref 0 0 0 1 (x4.set x3.toNat x2).length false), (1, I x2), (5, I x3)] [some ⟨0, eL (x4.set x3.toNat x2)⟩] ?_
 refine rve 19 [(0, .ref 0 0 0 1 (x4.set x3.toNat x2).length false), (1, I (w64 (x2 + 1))), (5, I x3)] [some ⟨0, eL (x4.set x3.toNat x2)⟩] ?_
 refine rve 19 [(0, .ref 0 0 0 1 (x4.set x3.toNat x2).length false), (1, I (w64 (x2 + 1))), (5, I (w64 (x3 + 1)))] [some ⟨0, eL (x4.set x3.toNat x2)⟩] ?_
 exact ⟨(f5, (w64 (x2 + 1)), (w64 (x3 + 1)), (x4.set x3.toNat x2)), h, Nat.lt_succ_self _, it [0, 1, 5]⟩
 refine pwp_exit ?_
 refine srve 19 [(4, I x2)] [sl 0 x4] ?_
 have h := si h
 subst h
 exact pwp_ret ⟨.inr rfl, 0, by kernel_rfl, by kernel_rfl⟩
def laws_heldIntS_l0 (a0 : List Int) : Nat → Int → Int → Option Int
 | 0, _, _ => none
 | f3 + 1, x1, x2 => bif (decide (x2 < (a0.length : Int))) then (getI a0 x2).bind fun v6 => bif (!(v6 == x1)) then some (-1) else (laws_heldIntS_l0 a0 f3) (w64 (x1 + 1)) (w64 (x2 + 1)) else some x1
def laws_heldIntS (a0 : List Int) (a1 : Int) : Option Int := laws_heldIntS_l0 a0 FUEL a1 0
theorem ok_laws_heldIntS {a0 : List Int} {a1 : Int} {y : Int} (h : laws_heldIntS a0 a1 = some y) : OK Try.prog 28 [A a0, I a1] (I y) := by
 refine ow Try.func28 fun Γ hX => ?_
 unfold laws_heldIntS at h
 refine srve 21 [(0, A a0), (1, I a1)] [] ?_
 refine pwp_seq ?_
 refine srve 21 [(0, A a0), (1, I a1), (5, I 0)] [] ?_
 refine pwp_block ?_
 refine pwp_loop (ι := Nat × Int × Int) (fun (f3, x1, x2) => (⟨21, [(0, A a0), (1, I x1), (5, I x2)], []⟩ : St)) (fun (f3, x1, x2) => laws_heldIntS_l0 a0 f3 x1 x2 = some y) Prod.fst (FUEL, a1, 0) h (it [0, 1, 5]) ?_
 rintro ⟨f3, x1, x2⟩ h
 dsimp only at h ⊢
 rcases f3 with _ | f3
 cases h
 rw [laws_heldIntS_l0] at h
 refine pwp_seq ?_
 refine srve 21 [(0, A a0), (1, I x1), (5, I x2), (9, B (decide (x2 < (a0.length : Int))))] [] ?_
 refine pc h (fun h => ?_) (fun h => ?_)
 refine pwp_skip ?_
 refine pwp_seq ?_
 refine pwp_block ?_
 refine pwp_seq ?_
 refine srv 2 21 [(0, A a0), (1, I x1), (5, I x2), (12, A a0), (13, I x2)] [] ?_
 obtain ⟨v6, hv7, h⟩ := bindS h
 refine opsP_idx τ_ok 14 hv7 (by kernel_rfl) ?_
 refine ve 3 21 [(0, A a0), (1, I x1), (5, I x2), (17, B (!(v6 == x1)))] [] ?_
 refine pc h (fun h => ?_) (fun h => ?_)
 refine srve 21 [(4, I (-1))] [] ?_
 cases h
 exact pwp_ret rz
 refine pwp_skip ?_
 refine rve 21 [(0, A a0), (1, I (w64 (x1 + 1))), (5, I x2)] [] ?_
 refine rve 21 [(0, A a0), (1, I (w64 (x1 + 1))), (5, I (w64 (x2 + 1)))] [] ?_
 exact ⟨(f3, (w64 (x1 + 1)), (w64 (x2 + 1))), h, Nat.lt_succ_self _, it [0, 1, 5]⟩
 refine pwp_exit ?_
 refine srve 21 [(4, I x1)] [] ?_
 cases h
 exact pwp_ret rz
def spec_l15Beside (a0 : T_impl_Txn) (a1 : T_impl_Txn) : Option Bool := bif (decide (a0.fBegin < a1.fEnd)) then some (decide (a1.fBegin < a0.fEnd)) else some false
theorem ok_spec_l15Beside {a0 : T_impl_Txn} {a1 : T_impl_Txn} {y : Bool} (h : spec_l15Beside a0 a1 = some y) : OK Try.prog 64 [E a0, E a1] (B y) := by
 refine ow Try.func64 fun Γ hX => ?_
 unfold spec_l15Beside at h
 refine srve 17 [(2, pf a0 0), (3, pf a1 0)] [] ?_
 refine srv 6 17 [(2, pf a0 0), (3, pf a1 0), (10, B (decide (a0.fBegin < a1.fEnd)))] [] ?_
 rcases fk (decide (a0.fBegin < a1.fEnd)) with hc1 | hc1
 replace h := bT hc1 h
 rw [hc1]
 refine ve 7 17 [(4, B (decide (a1.fBegin < a0.fEnd)))] [] ?_
 cases h
 exact pwp_ret rz
 replace h := bF hc1 h
 rw [hc1]
 refine ve 7 17 [(4, B false)] [] ?_
 cases h
 exact pwp_ret rz
def impl_between (a0 : Int) (a1 : Int) (a2 : Int) : Option Bool := bif (decide (a0 ≥ a1)) then some (decide (a0 ≤ a2)) else some false
theorem ok_impl_between {a0 : Int} {a1 : Int} {a2 : Int} {y : Bool} (h : impl_between a0 a1 a2 = some y) : OK Try.prog 66 [I a0, I a1, I a2] (B y) := by
 refine ow Try.func66 fun Γ hX => ?_
 unfold impl_between at h
 refine srve 15 [(0, I a0), (1, I a1), (2, I a2)] [] ?_
 refine srv 4 15 [(0, I a0), (2, I a2), (10, B (decide (a0 ≥ a1)))] [] ?_
 rcases fk (decide (a0 ≥ a1)) with hc1 | hc1
 replace h := bT hc1 h
 rw [hc1]
 refine ve 5 15 [(6, B (decide (a0 ≤ a2)))] [] ?_
 cases h
 exact pwp_ret rz
 replace h := bF hc1 h
 rw [hc1]
 refine ve 5 15 [(6, B false)] [] ?_
 cases h
 exact pwp_ret rz
def impl_House_beside (a0 : T_impl_House) (a1 : Int) (a2 : Int) : Option Bool := (getI a0.fTxns a1).bind fun v1 => (getI a0.fTxns a2).bind fun v3 => bif (!(a1 == a2)) then bif (v1.fState == 2) then bif (v3.fState == 2) then bif (decide (v1.fBegin < v3.fEnd)) then some (decide (v3.fBegin < v1.fEnd)) else some false else some false else some false else some false
theorem ok_impl_House_beside {a0 : T_impl_House} {a1 : Int} {a2 : Int} {y : Bool} (h : impl_House_beside a0 a1 a2 = some y) : OK Try.prog 67 [E a0, I a1, I a2] (B y) := by
 refine ow Try.func67 fun Γ hX => ?_
 unfold impl_House_beside at h
 refine srveM [7, 8] 46 [(1, I a1), (2, I a2), (3, pf a0 0)] [] ?_
 refine pwp_seq ?_
 refine ip 46 [(1, I a1), (2, I a2), (3, pf a0 0)] [] ?_
 refine pwp_imp (Imp.ghosts 2 (st' := ⟨46, [(1, I a1), (2, I a2), (3, pf a0 0)], [some ⟨0, []⟩, some ⟨0, []⟩]⟩) (by kernel_rfl)) ?_
 refine pwp_any ([[], [], [], [], [], [], [], [], [], [], [0], [1], [0], [1]]) ([[], [], [], [], [], [], [], [], [], [], [0], [1], [0], [1]]) rfl (by kernel_rfl) ?_
 refine qvM [7, 8] [] trivial 3 46 [(11, I a1), (10, A a0.fTxns), (1, I a1), (2, I a2), (3, pf a0 0)] [some ⟨0, []⟩, some ⟨0, []⟩] ?_
 obtain ⟨v1, hv2, h⟩ := bindS h
 refine qX (some 12) (pf v1 0) 46 [(12, pf v1 0), (1, I a1), (2, I a2), (3, pf a0 0)] [some ⟨0, []⟩, some ⟨0, []⟩] (fun Γ' hΓ => CoreE.of_y (idxV_sound τ_ok (by kernel_rfl) hv2)) trivial ?_
 refine qvM [7, 8] [] trivial 4 46 [(16, I a2), (15, A a0.fTxns), (13, E v1), (1, I a1), (2, I a2)] [some ⟨0, []⟩, some ⟨0, []⟩] ?_
 obtain ⟨v3, hv4, h⟩ := bindS h
 refine qX (some 17) (pf v3 0) 46 [(17, pf v3 0), (13, E v1), (1, I a1), (2, I a2)] [some ⟨0, []⟩, some ⟨0, []⟩] (fun Γ' hΓ => CoreE.of_y (idxV_sound τ_ok (by kernel_rfl) hv4)) trivial ?_
 refine qvM [7, 8] [] trivial 1 46 [(18, E v3), (13, E v1), (1, I a1), (2, I a2)] [some ⟨0, []⟩, some ⟨0, []⟩] ?_
 refine qX (Hm' := [some ⟨1, Enc.cells (T_impl_Txn.mk 0 0 0 [] [])⟩, none]) (some 7) (.ptr 0 1 0) 46 [(7, .ptr 0 1 0), (18, E v3), (13, E v1), (1, I a1), (2, I a2)] [some ⟨1, Enc.cells (T_impl_Txn.mk 0 0 0 [] [])⟩, some ⟨0, []⟩] (fun Γ' hΓ => alc_E (blk := ⟨0, []⟩) τ_ok [7, 8] 7 0 0 (ny hΓ hX) (by kernel_rfl) (by kernel_rfl)) (hB trivial) ?_
 refine qX (Hm' := [none, some ⟨1, Enc.cells (T_impl_Txn.mk 0 0 0 [] [])⟩]) (some 8) (.ptr 1 1 0) 46 [(8, .ptr 1 1 0), (7, .ptr 0 1 0), (18, E v3), (13, E v1), (1, I a1), (2, I a2)] [some ⟨1, Enc.cells (T_impl_Txn.mk 0 0 0 [] [])⟩, some ⟨1, Enc.cells (T_impl_Txn.mk 0 0 0 [] [])⟩] (fun Γ' hΓ => alc_E (blk := ⟨0, []⟩) τ_ok [7, 8] 8 1 0 (ny hΓ hX) (by kernel_rfl) (by kernel_rfl)) (hB trivial) ?_
 refine qX (Hm' := [sc 1 v1, none]) none (.any) 46 [(8, .ptr 1 1 0), (7, .ptr 0 1 0), (18, E v3), (1, I a1), (2, I a2)] [sc 1 v1, some ⟨1, Enc.cells (T_impl_Txn.mk 0 0 0 [] [])⟩] (fun Γ' hΓ => sto_E τ_ok 0 1 (by kernel_rfl)) (hB trivial) ?_
 refine qX (Hm' := [none, sc 1 v3]) none (.any) 46 [(8, .ptr 1 1 0), (7, .ptr 0 1 0), (1, I a1), (2, I a2)] [sc 1 v1, sc 1 v3] (fun Γ' hΓ => sto_E τ_ok 1 1 (by kernel_rfl)) (hB trivial) ?_
 refine qn 46 [(1, I a1), (2, I a2), (7, .ptr 0 1 0), (8, .ptr 1 1 0)] [sc 1 v1, sc 1 v3] ?_
 refine srvM [7, 8] 4 46 [(7, .ptr 0 1 0), (8, .ptr 1 1 0), (22, B (!(a1 == a2)))] [sc 1 v1, sc 1 v3] ?_
 rcases fk (!(a1 == a2)) with hc8 | hc8
 replace h := bT hc8 h
 rw [hc8]
 refine vM [7, 8] 5 46 [(7, .ptr 0 1 0), (8, .ptr 1 1 0), (27, B (v1.fState == 2))] [sc 1 v1, sc 1 v3] ?_
 rcases fk (v1.fState == 2) with hc7 | hc7
 replace h := bT hc7 h
 rw [hc7]
 refine vM [7, 8] 5 46 [(7, .ptr 0 1 0), (8, .ptr 1 1 0), (32, B (v3.fState == 2))] [sc 1 v1, sc 1 v3] ?_
 rcases fk (v3.fState == 2) with hc6 | hc6
 replace h := bT hc6 h
 rw [hc6]
 refine vM [7, 8] 7 46 [(7, .ptr 0 1 0), (8, .ptr 1 1 0), (39, B (decide (v1.fBegin < v3.fEnd)))] [sc 1 v1, sc 1 v3] ?_
 rcases fk (decide (v1.fBegin < v3.fEnd)) with hc5 | hc5
 replace h := bT hc5 h
 rw [hc5]
 refine veM [7, 8] 7 46 [(6, B (decide (v3.fBegin < v1.fEnd)))] [sc 1 v1, sc 1 v3] ?_
 cases h
 exact pwp_ret rz
 replace h := bF hc5 h
 rw [hc5]
 refine veM [7, 8] 7 46 [(6, B false)] [sc 1 v1, sc 1 v3] ?_
 cases h
 exact pwp_ret rz
 replace h := bF hc6 h
 rw [hc6]
 refine veM [7, 8] 14 46 [(6, B false)] [sc 1 v1, sc 1 v3] ?_
 cases h
 exact pwp_ret rz
 replace h := bF hc7 h
 rw [hc7]
 refine veM [7, 8] 19 46 [(6, B false)] [sc 1 v1, sc 1 v3] ?_
 cases h
 exact pwp_ret rz
 replace h := bF hc8 h
 rw [hc8]
 refine veM [7, 8] 24 46 [(6, B false)] [sc 1 v1, sc 1 v3] ?_
 cases h
 exact pwp_ret rz
def spec_l1In (a0 : Int) (a1 : Int) (a2 : Int) : Option Bool := bif (decide (a0 ≥ a1)) then some (decide (a0 ≤ a2)) else some false
theorem ok_spec_l1In {a0 : Int} {a1 : Int} {a2 : Int} {y : Bool} (h : spec_l1In a0 a1 a2 = some y) : OK Try.prog 102 [I a0, I a1, I a2] (B y) := by
 refine ow Try.func102 fun Γ hX => ?_
 unfold spec_l1In at h
 refine srve 15 [(0, I a0), (1, I a1), (2, I a2)] [] ?_
 refine srv 4 15 [(0, I a0), (2, I a2), (10, B (decide (a0 ≥ a1)))] [] ?_
 rcases fk (decide (a0 ≥ a1)) with hc1 | hc1
 replace h := bT hc1 h
 rw [hc1]
 refine ve 5 15 [(6, B (decide (a0 ≤ a2)))] [] ?_
 cases h
 exact pwp_ret rz
 replace h := bF hc1 h
 rw [hc1]
 refine ve 5 15 [(6, B false)] [] ?_
 cases h
 exact pwp_ret rz
def slices_Clip_impl_Edge_impl_Edge (a0 : List T_impl_Edge) : Option (List T_impl_Edge) := (slI a0 none (some (a0.length : Int)) (some (a0.length : Int))).bind fun v1 => some v1
theorem ok_slices_Clip_impl_Edge_impl_Edge {a0 : List T_impl_Edge} {y : List T_impl_Edge} (h : slices_Clip_impl_Edge_impl_Edge a0 = some y) : OK Try.prog 112 [A a0] (A y) := by
 refine ow Try.func112 fun Γ hX => ?_
 unfold slices_Clip_impl_Edge_impl_Edge at h
 refine srve 9 [(0, A a0)] [] ?_
 refine srv 5 9 [(3, A a0), (5, I (a0.length : Int)), (7, I (a0.length : Int))] [] ?_
 obtain ⟨v1, hv2, h⟩ := bindS h
 refine opsP_slc τ_ok 8 hv2 (by kernel_rfl) ?_
 refine ve 1 9 [(2, A v1)] [] ?_
 cases h
 exact pwp_ret rz
def slices_Index_int_int_l0 (a0 : List Int) (a1 : Int) : Nat → Int → Option Int
 | 0, _ => none
 | f2 + 1, x1 => bif (decide (x1 < (a0.length : Int))) then (getI a0 x1).bind fun v5 => bif (a1 == v5) then some x1 else (slices_Index_int_int_l0 a0 a1 f2) (w64 (x1 + 1)) else some (-1)
def slices_Index_int_int (a0 : List Int) (a1 : Int) : Option Int := slices_Index_int_int_l0 a0 a1 FUEL 0
theorem ok_slices_Index_int_int {a0 : List Int} {a1 : Int} {y : Int} (h : slices_Index_int_int a0 a1 = some y) : OK Try.prog 125 [A a0, I a1] (I y) := by
 refine ow Try.func125 fun Γ hX => ?_
 unfold slices_Index_int_int at h
 refine srve 19 [(0, A a0), (1, I a1)] [] ?_
 refine pwp_seq ?_
 refine srve 19 [(0, A a0), (1, I a1), (7, I (a0.length : Int)), (8, I 0)] [] ?_
 refine pwp_block ?_
 refine pwp_loop (ι := Nat × Int) (fun (f2, x1) => (⟨19, [(0, A a0), (1, I a1), (7, I (a0.length : Int)), (8, I x1)], []⟩ : St)) (fun (f2, x1) => slices_Index_int_int_l0 a0 a1 f2 x1 = some y) Prod.fst (FUEL, 0) h (it [0, 1, 7, 8]) ?_
 rintro ⟨f2, x1⟩ h
 dsimp only at h ⊢
 rcases f2 with _ | f2
 cases h
 rw [slices_Index_int_int_l0] at h
 refine srve 19 [(0, A a0), (1, I a1), (7, I (a0.length : Int)), (8, I x1), (9, B (decide (x1 < (a0.length : Int))))] [] ?_
 refine pwp_seq ?_
 refine pc h (fun h => ?_) (fun h => ?_)
 refine pwp_skip ?_
 refine pwp_seq ?_
 refine pwp_block ?_
 refine srve 19 [(0, A a0), (1, I a1), (5, I x1), (7, I (a0.length : Int)), (8, I x1)] [] ?_
 refine srv 3 19 [(0, A a0), (1, I a1), (5, I x1), (7, I (a0.length : Int)), (8, I x1), (11, I a1), (12, A a0), (13, I x1)] [] ?_
 obtain ⟨v5, hv6, h⟩ := bindS h
 refine opsP_idx τ_ok 14 hv6 (by kernel_rfl) ?_
 refine ve 2 19 [(0, A a0), (1, I a1), (5, I x1), (7, I (a0.length : Int)), (8, I x1), (16, B (a1 == v5))] [] ?_
 refine pc h (fun h => ?_) (fun h => ?_)
 refine srve 19 [(4, I x1)] [] ?_
 cases h
 exact pwp_ret rz
 refine pwp_skip ?_
 refine rve 19 [(0, A a0), (1, I a1), (7, I (a0.length : Int)), (8, I (w64 (x1 + 1)))] [] ?_
 exact ⟨(f2, (w64 (x1 + 1))), h, Nat.lt_succ_self _, it [0, 1, 7, 8]⟩
 refine pwp_exit ?_
 refine srve 19 [(4, I (-1))] [] ?_
 cases h
 exact pwp_ret rz
def impl_keyOk (a0 : Int) : Option Bool := (impl_between a0 0 4).bind fun v1 => some v1
theorem ok_impl_keyOk {a0 : Int} {y : Bool} (h : impl_keyOk a0 = some y) : OK Try.prog 136 [I a0] (B y) := by
 refine ow Try.func136 fun Γ hX => ?_
 unfold impl_keyOk at h
 refine srve 5 [(0, I a0)] [] ?_
 refine srv 1 5 [(3, I a0)] [] ?_
 obtain ⟨v1, hv2, h⟩ := bindS h
 refine cF 4 (ok_impl_between hv2) ?_
 refine ve 1 5 [(2, B v1)] [] ?_
 cases h
 exact pwp_ret rz
def laws_szIntS (a0 : List Int) (a1 : Int) : Option Int := bif (decide ((w64 (a1 - (a0.length : Int))) < 0)) then some (-1) else some (w64 (a1 - (a0.length : Int)))
theorem ok_laws_szIntS {a0 : List Int} {a1 : Int} {y : Int} (h : laws_szIntS a0 a1 = some y) : OK Try.prog 152 [A a0, I a1] (I y) := by
 refine ow Try.func152 fun Γ hX => ?_
 unfold laws_szIntS at h
 refine srve 12 [(0, A a0), (1, I a1)] [] ?_
 refine srve 12 [(1, I (w64 (a1 - (a0.length : Int))))] [] ?_
 refine pwp_seq ?_
 refine srve 12 [(1, I (w64 (a1 - (a0.length : Int)))), (10, B (decide ((w64 (a1 - (a0.length : Int))) < 0)))] [] ?_
 refine pc h (fun h => ?_) (fun h => ?_)
 refine srve 12 [(4, I (-1))] [] ?_
 cases h
 exact pwp_ret rz
 refine pwp_skip ?_
 refine srve 12 [(4, I (w64 (a1 - (a0.length : Int))))] [] ?_
 cases h
 exact pwp_ret rz
def spec_l14Reads_j1 (x1 : Int) (K3 : Int → Option Bool) (x5 : Bool) : Option Bool := bif x5 then some false else K3 (w64 (x1 + 1))
def spec_l14Reads_l0 (a0 : List Int) : Nat → Int → Option Bool
 | 0, _ => none
 | f2 + 1, x1 => bif (decide (x1 < (a0.length : Int))) then (getI a0 x1).bind fun v7 => (spec_l1In v7 0 4).bind fun v9 => bif (!v9) then spec_l14Reads_j1 x1 (spec_l14Reads_l0 a0 f2) true else bif (decide (x1 > 0)) then (getI a0 (w64 (x1 - 1))).bind fun v11 => (getI a0 x1).bind fun v13 => spec_l14Reads_j1 x1 (spec_l14Reads_l0 a0 f2) (decide (v11 ≥ v13)) else spec_l14Reads_j1 x1 (spec_l14Reads_l0 a0 f2) false else some true
def spec_l14Reads (a0 : List Int) : Option Bool := spec_l14Reads_l0 a0 FUEL 0
theorem ok_spec_l14Reads {a0 : List Int} {y : Bool} (h : spec_l14Reads a0 = some y) : OK Try.prog 155 [A a0] (B y) := by
 refine ow Try.func155 fun Γ hX => ?_
 unfold spec_l14Reads at h
 refine srve 32 [(0, A a0)] [] ?_
 refine pwp_seq ?_
 refine srve 32 [(0, A a0), (3, I 0)] [] ?_
 refine pwp_block ?_
 refine pwp_loop (ι := Nat × Int) (fun (f2, x1) => (⟨32, [(0, A a0), (3, I x1)], []⟩ : St)) (fun (f2, x1) => spec_l14Reads_l0 a0 f2 x1 = some y) Prod.fst (FUEL, 0) h (it [0, 3]) ?_
 rintro ⟨f2, x1⟩ h
 dsimp only at h ⊢
 rcases f2 with _ | f2
 cases h
 rw [spec_l14Reads_l0] at h
 refine pwp_seq ?_
 refine srve 32 [(0, A a0), (3, I x1), (7, B (decide (x1 < (a0.length : Int))))] [] ?_
 refine pc h (fun h => ?_) (fun h => ?_)
 refine pwp_skip ?_
 refine pwp_seq ?_
 refine pwp_block ?_
 refine pwp_seq ?_
 refine pwp_join (σ := Bool) (fun x5 => (⟨32, [(0, A a0), (3, I x1), (31, B x5)], []⟩ : St)) (fun x5 => spec_l14Reads_j1 x1 (spec_l14Reads_l0 a0 f2) x5 = some y) ?_ ?_
 refine ip 32 [(0, A a0), (3, I x1)] [] ?_
 refine pN 22 ?_
 refine qv [] trivial 2 32 [(11, I x1), (10, A a0), (0, A a0), (3, I x1)] [] ?_
 obtain ⟨v7, hv8, h⟩ := bindS h
 refine qX (some 12) (pf v7 0) 32 [(12, pf v7 0), (0, A a0), (3, I x1)] [] (fun Γ' hΓ => CoreE.of_y (idxV_sound τ_ok (by kernel_rfl) hv8)) trivial ?_
 refine qv [] trivial 1 32 [(13, I v7), (0, A a0), (3, I x1)] [] ?_
 obtain ⟨v9, hv10, h⟩ := bindS h
 refine qX (some 14) (B v9) 32 [(14, B v9), (0, A a0), (3, I x1)] [] (fun Γ' hΓ => CoreE.of_g (callV_sound (τ := τ) (by kernel_rfl) rfl (ok_spec_l1In hv10) (FzTo.frz rfl))) trivial ?_
 refine qv [] trivial 2 32 [(16, B (!v9)), (0, A a0), (3, I x1)] [] ?_
 rcases fk (!v9) with hc16 | hc16
 replace h := bT hc16 h
 rw [hc16]
 refine qvn [] trivial 15 32 [(0, A a0), (3, I x1), (17, .lit undef), (18, .lit undef), (19, .lit undef), (20, .lit undef), (21, .lit undef), (22, .lit undef), (23, .lit undef), (24, .lit undef), (25, .lit undef), (26, .lit undef), (27, .lit undef), (28, .lit undef), (29, .lit undef), (30, .lit undef), (31, B true)] [] ?_
 exact ⟨true, h, it [0, 3, 31]⟩
 replace h := bF hc16 h
 rw [hc16]
 refine qv [] trivial 3 32 [(19, B (decide (x1 > 0))), (18, B (decide (x1 > 0))), (17, I x1), (16, B false), (0, A a0), (3, I x1)] [] ?_
 rcases fk (decide (x1 > 0)) with hc15 | hc15
 replace h := bT hc15 h
 rw [hc15]
 refine qv [] trivial 3 32 [(22, I (w64 (x1 - 1))), (21, I x1), (20, A a0), (19, B true), (18, B true), (17, I x1), (16, B false), (0, A a0), (3, I x1)] [] ?_
 obtain ⟨v11, hv12, h⟩ := bindS h
 refine qX (some 23) (pf v11 0) 32 [(23, pf v11 0), (22, I (w64 (x1 - 1))), (21, I x1), (20, A a0), (19, B true), (18, B true), (17, I x1), (16, B false), (0, A a0), (3, I x1)] [] (fun Γ' hΓ => CoreE.of_y (idxV_sound τ_ok (by kernel_rfl) hv12)) trivial ?_
 refine qv [] trivial 3 32 [(26, I x1), (25, A a0), (24, I v11), (23, pf v11 0), (22, I (w64 (x1 - 1))), (21, I x1), (20, A a0), (19, B true), (18, B true), (17, I x1), (16, B false), (0, A a0), (3, I x1)] [] ?_
 obtain ⟨v13, hv14, h⟩ := bindS h
 refine qX (some 27) (pf v13 0) 32 [(27, pf v13 0), (26, I x1), (25, A a0), (24, I v11), (23, pf v11 0), (22, I (w64 (x1 - 1))), (21, I x1), (20, A a0), (19, B true), (18, B true), (17, I x1), (16, B false), (0, A a0), (3, I x1)] [] (fun Γ' hΓ => CoreE.of_y (idxV_sound τ_ok (by kernel_rfl) hv14)) trivial ?_
 refine qvn [] trivial 4 32 [(0, A a0), (3, I x1), (17, I x1), (18, B true), (19, B true), (20, A a0), (21, I x1), (22, I (w64 (x1 - 1))), (23, pf v11 0), (24, I v11), (25, A a0), (26, I x1), (27, pf v13 0), (28, I v13), (29, B (decide (v11 ≥ v13))), (30, B (decide (v11 ≥ v13))), (31, B (decide (v11 ≥ v13)))] [] ?_
 exact ⟨(decide (v11 ≥ v13)), h, it [0, 3, 31]⟩
 replace h := bF hc15 h
 rw [hc15]
 refine qvn [] trivial 12 32 [(0, A a0), (3, I x1), (17, I x1), (18, B false), (19, B false), (20, .lit undef), (21, .lit undef), (22, .lit undef), (23, .lit undef), (24, .lit undef), (25, .lit undef), (26, .lit undef), (27, .lit undef), (28, .lit undef), (29, .lit undef), (30, B false), (31, B false)] [] ?_
 exact ⟨false, h, it [0, 3, 31]⟩
 rintro x5 h
 unfold spec_l14Reads_j1 at h
 refine pc h (fun h => ?_) (fun h => ?_)
 refine srve 32 [(2, B false)] [] ?_
 cases h
 exact pwp_ret rz
 refine pwp_skip ?_
 refine rve 32 [(0, A a0), (3, I (w64 (x1 + 1)))] [] ?_
 exact ⟨(f2, (w64 (x1 + 1))), h, Nat.lt_succ_self _, it [0, 3]⟩
 refine pwp_exit ?_
 refine srve 32 [(2, B true)] [] ?_
 cases h
 exact pwp_ret rz
def spec_l14Own_l0 (a0 : T_impl_Txn) (a1 : Int) : Nat → Int → Option Int
 | 0, _ => none
 | f2 + 1, x1 => bif (decide (x1 < (a0.fWrites.length : Int))) then (getI a0.fWrites x1).bind fun v5 => bif (v5.fKey == a1) then some x1 else (spec_l14Own_l0 a0 a1 f2) (w64 (x1 + 1)) else some (-1)
def spec_l14Own (a0 : T_impl_Txn) (a1 : Int) : Option Int := spec_l14Own_l0 a0 a1 FUEL 0
theorem ok_spec_l14Own {a0 : T_impl_Txn} {a1 : Int} {y : Int} (h : spec_l14Own a0 a1 = some y) : OK Try.prog 157 [E a0, I a1] (I y) := by
 refine ow Try.func157 fun Γ hX => ?_
 unfold spec_l14Own at h
 refine srve 22 [(1, I a1), (2, pf a0 0)] [] ?_
 refine pwp_seq ?_
 refine srve 22 [(1, I a1), (2, pf a0 0), (5, I 0)] [] ?_
 refine pwp_block ?_
 refine pwp_loop (ι := Nat × Int) (fun (f2, x1) => (⟨22, [(1, I a1), (2, pf a0 0), (5, I x1)], []⟩ : St)) (fun (f2, x1) => spec_l14Own_l0 a0 a1 f2 x1 = some y) Prod.fst (FUEL, 0) h (it [1, 2, 5]) ?_
 rintro ⟨f2, x1⟩ h
 dsimp only at h ⊢
 rcases f2 with _ | f2
 cases h
 rw [spec_l14Own_l0] at h
 refine pwp_seq ?_
 refine srve 22 [(1, I a1), (2, pf a0 0), (5, I x1), (10, B (decide (x1 < (a0.fWrites.length : Int))))] [] ?_
 refine pc h (fun h => ?_) (fun h => ?_)
 refine pwp_skip ?_
 refine pwp_seq ?_
 refine pwp_block ?_
 refine srv 3 22 [(1, I a1), (2, pf a0 0), (5, I x1), (14, A a0.fWrites), (15, I x1)] [] ?_
 obtain ⟨v5, hv6, h⟩ := bindS h
 refine opsP_idx τ_ok 16 hv6 (by kernel_rfl) ?_
 refine ve 4 22 [(1, I a1), (2, pf a0 0), (5, I x1), (20, B (v5.fKey == a1))] [] ?_
 refine pc h (fun h => ?_) (fun h => ?_)
 refine srve 22 [(4, I x1)] [] ?_
 cases h
 exact pwp_ret rz
 refine pwp_skip ?_
 refine rve 22 [(1, I a1), (2, pf a0 0), (5, I (w64 (x1 + 1)))] [] ?_
 exact ⟨(f2, (w64 (x1 + 1))), h, Nat.lt_succ_self _, it [1, 2, 5]⟩
 refine pwp_exit ?_
 refine srve 22 [(4, I (-1))] [] ?_
 cases h
 exact pwp_ret rz
def spec_l15Read_l0 (a0 : T_impl_Txn) (a1 : Int) : Nat → Int → Option Bool
 | 0, _ => none
 | f2 + 1, x1 => bif (decide (x1 < (a0.fReads.length : Int))) then (getI a0.fReads x1).bind fun v5 => bif (v5 == a1) then some true else (spec_l15Read_l0 a0 a1 f2) (w64 (x1 + 1)) else some false
def spec_l15Read (a0 : T_impl_Txn) (a1 : Int) : Option Bool := spec_l15Read_l0 a0 a1 FUEL 0
theorem ok_spec_l15Read {a0 : T_impl_Txn} {a1 : Int} {y : Bool} (h : spec_l15Read a0 a1 = some y) : OK Try.prog 158 [E a0, I a1] (B y) := by
 refine ow Try.func158 fun Γ hX => ?_
 unfold spec_l15Read at h
 refine srve 20 [(1, I a1), (2, pf a0 0)] [] ?_
 refine pwp_seq ?_
 refine srve 20 [(1, I a1), (2, pf a0 0), (5, I 0)] [] ?_
 refine pwp_block ?_
 refine pwp_loop (ι := Nat × Int) (fun (f2, x1) => (⟨20, [(1, I a1), (2, pf a0 0), (5, I x1)], []⟩ : St)) (fun (f2, x1) => spec_l15Read_l0 a0 a1 f2 x1 = some y) Prod.fst (FUEL, 0) h (it [1, 2, 5]) ?_
 rintro ⟨f2, x1⟩ h
 dsimp only at h ⊢
 rcases f2 with _ | f2
 cases h
 rw [spec_l15Read_l0] at h
 refine pwp_seq ?_
 refine srve 20 [(1, I a1), (2, pf a0 0), (5, I x1), (10, B (decide (x1 < (a0.fReads.length : Int))))] [] ?_
 refine pc h (fun h => ?_) (fun h => ?_)
 refine pwp_skip ?_
 refine pwp_seq ?_
 refine pwp_block ?_
 refine srv 3 20 [(1, I a1), (2, pf a0 0), (5, I x1), (14, A a0.fReads), (15, I x1)] [] ?_
 obtain ⟨v5, hv6, h⟩ := bindS h
 refine opsP_idx τ_ok 16 hv6 (by kernel_rfl) ?_
 refine ve 3 20 [(1, I a1), (2, pf a0 0), (5, I x1), (19, B (v5 == a1))] [] ?_
 refine pc h (fun h => ?_) (fun h => ?_)
 refine srve 20 [(4, B true)] [] ?_
 cases h
 exact pwp_ret rz
 refine pwp_skip ?_
 refine rve 20 [(1, I a1), (2, pf a0 0), (5, I (w64 (x1 + 1)))] [] ?_
 exact ⟨(f2, (w64 (x1 + 1))), h, Nat.lt_succ_self _, it [1, 2, 5]⟩
 refine pwp_exit ?_
 refine srve 20 [(4, B false)] [] ?_
 cases h
 exact pwp_ret rz
def laws_toIntS_l0 (a0 : List Int) : Nat → Int → (List Int) → Option (List Int)
 | 0, _, _ => none
 | f6 + 1, x4, x5 => bif (decide (x4 < (a0.length : Int))) then (getI a0 x4).bind fun v9 => (getI x5 x4).bind fun v11 => (laws_toIntS_l0 a0 f6) (w64 (x4 + 1)) (x5.set x4.toNat v9) else some x5
def laws_toIntS (a0 : List Int) : Option (List Int) := (mkI (a0.length : Int) (0 : Int)).bind fun v1 => laws_toIntS_l0 a0 FUEL 0 v1
theorem ok_laws_toIntS {a0 : List Int} {y : List Int} (h : laws_toIntS a0 = some y) : OK Try.prog 160 [A a0] (O y) := by
 refine ow Try.func160 fun Γ hX => ?_
 unfold laws_toIntS at h
 refine srve 22 [(0, A a0)] [] ?_
 refine srv 2 22 [(0, A a0), (6, I (a0.length : Int))] [] ?_
 obtain ⟨v1, hv2, h⟩ := bindS h
 refine opsP_mk τ_ok 7 0 _ hv2 (by kernel_rfl) (by kernel_rfl) ?_
 refine ve 1 22 [(0, A a0), (3, rf 0 0 1 v1)] [sl 0 v1] ?_
 refine pwp_seq ?_
 refine srve 22 [(0, A a0), (3, rf 0 0 1 v1), (4, I 0)] [sl 0 v1] ?_
 refine pwp_block ?_
 refine pwp_loop (ι := Nat × Int × (List Int)) (fun (f6, x4, x5) => (⟨22, [(0, A a0), (3, rf 0 0 1 x5), (4, I x4)], [sl 0 x5]⟩ : St)) (fun (f6, x4, x5) => laws_toIntS_l0 a0 f6 x4 x5 = some y) Prod.fst (FUEL, 0, v1) h (it [0, 3, 4]) ?_
 rintro ⟨f6, x4, x5⟩ h
 dsimp only at h ⊢
 rcases f6 with _ | f6
 cases h
 rw [laws_toIntS_l0] at h
 refine pwp_seq ?_
 refine srve 22 [(0, A a0), (3, rf 0 0 1 x5), (4, I x4), (11, B (decide (x4 < (a0.length : Int))))] [sl 0 x5] ?_
 refine pc h (fun h => ?_) (fun h => ?_)
 refine pwp_skip ?_
 refine pwp_seq ?_
 refine pwp_block ?_
 refine rv 4 22 [(0, A a0), (3, rf 0 0 1 x5), (4, I x4), (14, rf 0 0 1 x5), (15, I x4), (16, A a0), (17, I x4)] [sl 0 x5] ?_
 obtain ⟨v9, hv10, h⟩ := bindS h
 refine opsP_idx τ_ok 18 hv10 (by kernel_rfl) ?_
 refine v 1 22 [(0, A a0), (3, rf 0 0 1 x5), (4, I x4), (14, rf 0 0 1 x5), (15, I x4), (19, I v9)] [sl 0 x5] ?_
 obtain ⟨v11, hv12, h⟩ := bindS h
 refine opsP_idr τ_ok 20 0 0 x5.length hv12 rfl (by kernel_rfl) ?_
 refine v 0 22 [(0, A a0), (3, rf 0 0 1 x5), (4, I x4), (19, I v9), (20, .ptr 0 0 (x4.toNat * 1))] [sl 0 x5] ?_
 refine opsP_ste (vs := [I v9]) τ_ok 3 0 0 0 v9 hv12 (by kernel_rfl) (by kernel_rfl) (by kernel_rfl) (renC trivial (renC (ren_ref (List.length_set ..).symm) (renC trivial (renC trivial (renC trivial renC0))))) ?_
 refine ve 0 22 [(0, A a0), (3, .ref 0 0 0 1 (x5.set x4.toNat v9).length false), (4, I x4)] [some ⟨0, eL (x5.set x4.toNat v9)⟩] ?_
 refine rve 22 [(0, A a0), (3, .ref 0 0 0 1 (x5.set x4.toNat v9).length false), (4, I (w64 (x4 + 1)))] [some ⟨0, eL (x5.set x4.toNat v9)⟩] ?_
 exact ⟨(f6, (w64 (x4 + 1)), (x5.set x4.toNat v9)), h, Nat.lt_succ_self _, it [0, 3, 4]⟩
 refine pwp_exit ?_
 refine srve 22 [(2, rf 0 0 1 x5)] [sl 0 x5] ?_
 have h := si h
 subst h
 exact pwp_ret (rt (rf 0 0 1 x5) (OutP.list (v := 0) (by kernel_rfl)))
def impl_lastTurn_l0 (a0 : List T_impl_Version) (a1 : Int) : Nat → Int → Int → Option Int
 | 0, _, _ => none
 | f3 + 1, x1, x2 => bif (decide (x2 < (a0.length : Int))) then (getI a0 x2).bind fun v6 => bif (v6.fKey == a1) then (impl_lastTurn_l0 a0 a1 f3) (maxL x1 [v6.fBorn, v6.fDied]) (w64 (x2 + 1)) else (impl_lastTurn_l0 a0 a1 f3) x1 (w64 (x2 + 1)) else some x1
def impl_lastTurn (a0 : List T_impl_Version) (a1 : Int) : Option Int := impl_lastTurn_l0 a0 a1 FUEL 0 0
theorem ok_impl_lastTurn {a0 : List T_impl_Version} {a1 : Int} {y : Int} (h : impl_lastTurn a0 a1 = some y) : OK Try.prog 163 [A a0, I a1] (I y) := by
 refine ow Try.func163 fun Γ hX => ?_
 unfold impl_lastTurn at h
 refine srveM [7] 26 [(0, A a0), (1, I a1)] [] ?_
 refine srveM [7] 26 [(0, A a0), (1, I a1), (5, I 0)] [] ?_
 refine pwp_seq ?_
 refine srveM [7] 26 [(1, I a1), (5, I 0), (8, A a0), (9, I (a0.length : Int)), (10, I 0)] [] ?_
 refine pwp_block ?_
 refine pwp_loop (ι := Nat × Int × Int) (fun (f3, x1, x2) => (⟨26, [(1, I a1), (5, I x1), (8, A a0), (9, I (a0.length : Int)), (10, I x2)], []⟩ : St)) (fun (f3, x1, x2) => impl_lastTurn_l0 a0 a1 f3 x1 x2 = some y) Prod.fst (FUEL, 0, 0) h (it [1, 5, 8, 9, 10]) ?_
 rintro ⟨f3, x1, x2⟩ h
 dsimp only at h ⊢
 rcases f3 with _ | f3
 cases h
 rw [impl_lastTurn_l0] at h
 refine srveM [7] 26 [(1, I a1), (5, I x1), (8, A a0), (9, I (a0.length : Int)), (10, I x2), (11, B (decide (x2 < (a0.length : Int))))] [] ?_
 refine pwp_seq ?_
 refine pc h (fun h => ?_) (fun h => ?_)
 refine pwp_skip ?_
 refine pwp_seq ?_
 refine pwp_block ?_
 refine pwp_seq ?_
 refine pwp_region ?_
 obtain ⟨v6, hv7, h⟩ := bindS h
 refine opsP_idx τ_ok 12 hv7 (by kernel_rfl) ?_
 refine veM [7] 3 26 [(1, I a1), (5, I x1), (7, .ptr 0 0 0), (8, A a0), (9, I (a0.length : Int)), (10, I x2)] [sc 0 v6] ?_
 refine srveM [7] 26 [(1, I a1), (5, I x1), (7, .ptr 0 0 0), (8, A a0), (9, I (a0.length : Int)), (10, I x2), (17, B (v6.fKey == a1))] [sc 0 v6] ?_
 refine pc h (fun h => ?_) (fun h => ?_)
 refine rvM [7] 5 26 [(1, I a1), (8, A a0), (9, I (a0.length : Int)), (10, I x2), (18, I x1), (20, I v6.fBorn), (22, I v6.fDied)] [sc 0 v6] ?_
 refine opsP_E (dd := some 23) (x := I (maxL x1 [v6.fBorn, v6.fDied])) (CoreE.of_y (mxmV_sound (τ := τ) (m := true) (a := x1) (l := [v6.fBorn, v6.fDied]) (by kernel_rfl))) ?_
 refine veM [7] 1 26 [(1, I a1), (5, I (maxL x1 [v6.fBorn, v6.fDied])), (8, A a0), (9, I (a0.length : Int)), (10, I x2)] [sc 0 v6] ?_
 refine rveM [7] 26 [(1, I a1), (5, I (maxL x1 [v6.fBorn, v6.fDied])), (8, A a0), (9, I (a0.length : Int)), (10, I (w64 (x2 + 1)))] [sc 0 v6] ?_
 exact ⟨(f3, (maxL x1 [v6.fBorn, v6.fDied]), (w64 (x2 + 1))), h, Nat.lt_succ_self _, (it (st' := ⟨26, [(1, I a1), (5, I (maxL x1 [v6.fBorn, v6.fDied])), (8, A a0), (9, I (a0.length : Int)), (10, I (w64 (x2 + 1)))], [sc 0 v6]⟩) [1, 5, 8, 9, 10]).trans (Imp.truncS 0 (nx hX) (by kernel_rfl) (allBelow_mem (by exact (And.intro rfl (And.intro rfl (And.intro rfl (And.intro rfl (And.intro rfl trivial))))))) (by exact trivial) (by kernel_rfl))⟩
 refine pwp_skip ?_
 refine rveM [7] 26 [(1, I a1), (5, I x1), (8, A a0), (9, I (a0.length : Int)), (10, I (w64 (x2 + 1)))] [sc 0 v6] ?_
 exact ⟨(f3, x1, (w64 (x2 + 1))), h, Nat.lt_succ_self _, (it (st' := ⟨26, [(1, I a1), (5, I x1), (8, A a0), (9, I (a0.length : Int)), (10, I (w64 (x2 + 1)))], [sc 0 v6]⟩) [1, 5, 8, 9, 10]).trans (Imp.truncS 0 (nx hX) (by kernel_rfl) (allBelow_mem (by exact (And.intro rfl (And.intro rfl (And.intro rfl (And.intro rfl (And.intro rfl trivial))))))) (by exact trivial) (by kernel_rfl))⟩
 refine pwp_exit ?_
 refine srveM [7] 26 [(4, I x1)] [] ?_
 cases h
 exact pwp_ret rz
def impl_rising_j1 (x1 : Int) (K3 : Int → Option Bool) (x7 : Bool) : Option Bool := bif x7 then some false else K3 (w64 (x1 + 1))
def impl_rising_l0 (a0 : List Int) (a1 : Int) (a2 : Int) : Nat → Int → Option Bool
 | 0, _ => none
 | f2 + 1, x1 => bif (decide (x1 < (a0.length : Int))) then (getI a0 x1).bind fun v5 => (impl_between v5 a1 a2).bind fun v9 => bif (!v9) then impl_rising_j1 x1 (impl_rising_l0 a0 a1 a2 f2) true else bif (decide (x1 > 0)) then (getI a0 (w64 (x1 - 1))).bind fun v11 => impl_rising_j1 x1 (impl_rising_l0 a0 a1 a2 f2) (decide (v11 ≥ v5)) else impl_rising_j1 x1 (impl_rising_l0 a0 a1 a2 f2) false else some true
def impl_rising (a0 : List Int) (a1 : Int) (a2 : Int) : Option Bool := impl_rising_l0 a0 a1 a2 FUEL 0
theorem ok_impl_rising {a0 : List Int} {a1 : Int} {a2 : Int} {y : Bool} (h : impl_rising a0 a1 a2 = some y) : OK Try.prog 164 [A a0, I a1, I a2] (B y) := by
 refine ow Try.func164 fun Γ hX => ?_
 unfold impl_rising at h
 refine srve 35 [(0, A a0), (1, I a1), (2, I a2)] [] ?_
 refine pwp_seq ?_
 refine srve 35 [(0, A a0), (1, I a1), (2, I a2), (9, A a0), (10, I (a0.length : Int)), (11, I 0)] [] ?_
 refine pwp_block ?_
 refine pwp_loop (ι := Nat × Int) (fun (f2, x1) => (⟨35, [(0, A a0), (1, I a1), (2, I a2), (9, A a0), (10, I (a0.length : Int)), (11, I x1)], []⟩ : St)) (fun (f2, x1) => impl_rising_l0 a0 a1 a2 f2 x1 = some y) Prod.fst (FUEL, 0) h (it [0, 1, 2, 9, 10, 11]) ?_
 rintro ⟨f2, x1⟩ h
 dsimp only at h ⊢
 rcases f2 with _ | f2
 cases h
 rw [impl_rising_l0] at h
 refine srve 35 [(0, A a0), (1, I a1), (2, I a2), (9, A a0), (10, I (a0.length : Int)), (11, I x1), (12, B (decide (x1 < (a0.length : Int))))] [] ?_
 refine pwp_seq ?_
 refine pc h (fun h => ?_) (fun h => ?_)
 refine pwp_skip ?_
 refine pwp_seq ?_
 refine pwp_block ?_
 refine srv 1 35 [(0, A a0), (1, I a1), (2, I a2), (9, A a0), (10, I (a0.length : Int)), (11, I x1), (13, I x1)] [] ?_
 obtain ⟨v5, hv6, h⟩ := bindS h
 refine opsP_idx τ_ok 14 hv6 (by kernel_rfl) ?_
 refine ve 3 35 [(0, A a0), (1, I a1), (2, I a2), (7, I x1), (8, I v5), (9, A a0), (10, I (a0.length : Int)), (11, I x1)] [] ?_
 refine pwp_seq ?_
 refine pwp_join (σ := Bool) (fun x7 => (⟨35, [(0, A a0), (1, I a1), (2, I a2), (9, A a0), (10, I (a0.length : Int)), (11, I x1), (33, B x7)], []⟩ : St)) (fun x7 => impl_rising_j1 x1 (impl_rising_l0 a0 a1 a2 f2) x7 = some y) ?_ ?_
 refine rv 3 35 [(0, A a0), (1, I a1), (2, I a2), (7, I x1), (8, I v5), (9, A a0), (10, I (a0.length : Int)), (11, I x1), (16, I v5), (17, I a1), (18, I a2)] [] ?_
 obtain ⟨v9, hv10, h⟩ := bindS h
 refine cF 19 (ok_impl_between hv10) ?_
 refine v 2 35 [(0, A a0), (1, I a1), (2, I a2), (7, I x1), (8, I v5), (9, A a0), (10, I (a0.length : Int)), (11, I x1), (21, B (!v9))] [] ?_
 rcases fk (!v9) with hc14 | hc14
 replace h := bT hc14 h
 rw [hc14]
 refine ve 12 35 [(0, A a0), (1, I a1), (2, I a2), (9, A a0), (10, I (a0.length : Int)), (11, I x1), (22, .lit undef), (23, .lit undef), (24, .lit undef), (25, .lit undef), (26, .lit undef), (27, .lit undef), (28, .lit undef), (29, .lit undef), (30, .lit undef), (31, .lit undef), (32, .lit undef), (33, B true)] [] ?_
 exact ⟨true, h, it [0, 1, 2, 9, 10, 11, 33]⟩
 replace h := bF hc14 h
 rw [hc14]
 refine v 3 35 [(0, A a0), (1, I a1), (2, I a2), (7, I x1), (8, I v5), (9, A a0), (10, I (a0.length : Int)), (11, I x1), (21, B false), (22, I x1), (23, B (decide (x1 > 0))), (24, B (decide (x1 > 0)))] [] ?_
 rcases fk (decide (x1 > 0)) with hc13 | hc13
 replace h := bT hc13 h
 rw [hc13]
 refine v 3 35 [(0, A a0), (1, I a1), (2, I a2), (8, I v5), (9, A a0), (10, I (a0.length : Int)), (11, I x1), (21, B false), (22, I x1), (23, B true), (24, B true), (25, A a0), (26, I x1), (27, I (w64 (x1 - 1)))] [] ?_
 obtain ⟨v11, hv12, h⟩ := bindS h
 refine opsP_idx τ_ok 28 hv12 (by kernel_rfl) ?_
 refine ve 5 35 [(0, A a0), (1, I a1), (2, I a2), (9, A a0), (10, I (a0.length : Int)), (11, I x1), (22, I x1), (23, B true), (24, B true), (25, A a0), (26, I x1), (27, I (w64 (x1 - 1))), (28, pf v11 0), (29, I v11), (30, I v5), (31, B (decide (v11 ≥ v5))), (32, B (decide (v11 ≥ v5))), (33, B (decide (v11 ≥ v5)))] [] ?_
 exact ⟨(decide (v11 ≥ v5)), h, it [0, 1, 2, 9, 10, 11, 33]⟩
 replace h := bF hc13 h
 rw [hc13]
 refine ve 9 35 [(0, A a0), (1, I a1), (2, I a2), (9, A a0), (10, I (a0.length : Int)), (11, I x1), (22, I x1), (23, B false), (24, B false), (25, .lit undef), (26, .lit undef), (27, .lit undef), (28, .lit undef), (29, .lit undef), (30, .lit undef), (31, .lit undef), (32, B false), (33, B false)] [] ?_
 exact ⟨false, h, it [0, 1, 2, 9, 10, 11, 33]⟩
 rintro x7 h
 unfold impl_rising_j1 at h
 refine pc h (fun h => ?_) (fun h => ?_)
 refine srve 35 [(6, B false)] [] ?_
 cases h
 exact pwp_ret rz
 refine pwp_skip ?_
 refine rve 35 [(0, A a0), (1, I a1), (2, I a2), (9, A a0), (10, I (a0.length : Int)), (11, I (w64 (x1 + 1)))] [] ?_
 exact ⟨(f2, (w64 (x1 + 1))), h, Nat.lt_succ_self _, it [0, 1, 2, 9, 10, 11]⟩
 refine pwp_exit ?_
 refine srve 35 [(6, B true)] [] ?_
 cases h
 exact pwp_ret rz
def laws_markText_l0 : Nat → Int → ByteArray → Option ByteArray
 | 0, _, _ => none
 | f4 + 1, x2, x3 => bif (decide (x2 > 0)) then (addS (ByteArray.mk (List.toArray ([(u8 (w64 (48 + (x2.tmod 10))))] : List UInt8))) x3).bind fun v7 => (laws_markText_l0 f4) (w64 (x2.tdiv 10)) v7 else (addS (ByteArray.mk #[109]) x3).bind fun v9 => some v9
def laws_markText (a0 : Int) : Option ByteArray := bif (decide (a0 ≤ 0)) then some (ByteArray.mk #[109, 48]) else laws_markText_l0 FUEL a0 (ByteArray.mk #[])
theorem ok_laws_markText {a0 : Int} {y : ByteArray} (h : laws_markText a0 = some y) : OK Try.prog 173 [I a0] (S y) := by
 refine ow Try.func173 fun Γ hX => ?_
 unfold laws_markText at h
 refine srve 20 [(0, I a0)] [] ?_
 refine pwp_seq ?_
 refine srve 20 [(0, I a0), (5, B (decide (a0 ≤ 0)))] [] ?_
 refine pc h (fun h => ?_) (fun h => ?_)
 refine srve 20 [(2, S (ByteArray.mk #[109, 48]))] [] ?_
 cases h
 exact pwp_ret rz
 refine pwp_skip ?_
 refine srve 20 [(0, I a0), (3, S (ByteArray.mk #[]))] [] ?_
 refine pwp_seq ?_
 refine pwp_block ?_
 refine pwp_loop (ι := Nat × Int × ByteArray) (fun (f4, x2, x3) => (⟨20, [(0, I x2), (3, S x3)], []⟩ : St)) (fun (f4, x2, x3) => laws_markText_l0 f4 x2 x3 = some y) Prod.fst (FUEL, a0, (ByteArray.mk #[])) h (it [0, 3]) ?_
 rintro ⟨f4, x2, x3⟩ h
 dsimp only at h ⊢
 rcases f4 with _ | f4
 cases h
 rw [laws_markText_l0] at h
 refine pwp_seq ?_
 refine srve 20 [(0, I x2), (3, S x3), (7, B (decide (x2 > 0)))] [] ?_
 refine pc h (fun h => ?_) (fun h => ?_)
 refine pwp_skip ?_
 refine pwp_block ?_
 refine srv 3 20 [(0, I x2), (3, S x3), (10, I (w64 (48 + (x2.tmod 10))))] [] ?_
 refine opsP_cv8 τ_ok 11 (w64 (48 + (x2.tmod 10))) (by kernel_rfl) ?_
 refine v 1 20 [(0, I x2), (3, S x3), (12, .arr 1 ([(u8 (w64 (48 + (x2.tmod 10))))] : List UInt8).length (eL ([(u8 (w64 (48 + (x2.tmod 10))))] : List UInt8)) true)] [] ?_
 refine opsP_cvs τ_ok 13 ([(u8 (w64 (48 + (x2.tmod 10))))] : List UInt8) (by kernel_rfl) ?_
 refine v 1 20 [(0, I x2), (13, S (ByteArray.mk (List.toArray ([(u8 (w64 (48 + (x2.tmod 10))))] : List UInt8)))), (14, S x3)] [] ?_
 obtain ⟨v7, hv8, h⟩ := bindS h
 refine opsP_ads τ_ok 15 hv8 (by kernel_rfl) ?_
 refine ve 1 20 [(0, I x2), (3, S v7)] [] ?_
 refine rve 20 [(0, I (w64 (x2.tdiv 10))), (3, S v7)] [] ?_
 exact ⟨(f4, (w64 (x2.tdiv 10)), v7), h, Nat.lt_succ_self _, it [0, 3]⟩
 refine pwp_exit ?_
 refine srv 1 20 [(18, S x3)] [] ?_
 obtain ⟨v9, hv10, h⟩ := bindS h
 refine opsP_ads τ_ok 19 hv10 (by kernel_rfl) ?_
 refine ve 1 20 [(2, S v9)] [] ?_
 cases h
 exact pwp_ret rz
def slices_Index_impl_Edge_impl_Edge_l0 (a0 : List T_impl_Edge) (a1 : T_impl_Edge) : Nat → Int → Option Int
 | 0, _ => none
 | f2 + 1, x1 => bif (decide (x1 < (a0.length : Int))) then (getI a0 x1).bind fun v5 => bif (eq_T_impl_Edge a1 v5) then some x1 else (slices_Index_impl_Edge_impl_Edge_l0 a0 a1 f2) (w64 (x1 + 1)) else some (-1)
def slices_Index_impl_Edge_impl_Edge (a0 : List T_impl_Edge) (a1 : T_impl_Edge) : Option Int := slices_Index_impl_Edge_impl_Edge_l0 a0 a1 FUEL 0
theorem ok_slices_Index_impl_Edge_impl_Edge {a0 : List T_impl_Edge} {a1 : T_impl_Edge} {y : Int} (h : slices_Index_impl_Edge_impl_Edge a0 a1 = some y) : OK Try.prog 178 [A a0, E a1] (I y) := by
 refine ow Try.func178 fun Γ hX => ?_
 unfold slices_Index_impl_Edge_impl_Edge at h
 refine srve 19 [(0, A a0), (3, pf a1 0)] [] ?_
 refine pwp_seq ?_
 refine srve 19 [(0, A a0), (3, pf a1 0), (7, I (a0.length : Int)), (8, I 0)] [] ?_
 refine pwp_block ?_
 refine pwp_loop (ι := Nat × Int) (fun (f2, x1) => (⟨19, [(0, A a0), (3, pf a1 0), (7, I (a0.length : Int)), (8, I x1)], []⟩ : St)) (fun (f2, x1) => slices_Index_impl_Edge_impl_Edge_l0 a0 a1 f2 x1 = some y) Prod.fst (FUEL, 0) h (it [0, 3, 7, 8]) ?_
 rintro ⟨f2, x1⟩ h
 dsimp only at h ⊢
 rcases f2 with _ | f2
 cases h
 rw [slices_Index_impl_Edge_impl_Edge_l0] at h
 refine srve 19 [(0, A a0), (3, pf a1 0), (7, I (a0.length : Int)), (8, I x1), (9, B (decide (x1 < (a0.length : Int))))] [] ?_
 refine pwp_seq ?_
 refine pc h (fun h => ?_) (fun h => ?_)
 refine pwp_skip ?_
 refine pwp_seq ?_
 refine pwp_block ?_
 refine srve 19 [(0, A a0), (3, pf a1 0), (5, I x1), (7, I (a0.length : Int)), (8, I x1)] [] ?_
 refine pwp_seq ?_
 refine ip 19 [(0, A a0), (3, pf a1 0), (5, I x1), (7, I (a0.length : Int)), (8, I x1)] [] ?_
 refine pN 6 ?_
 refine qv [] trivial 3 19 [(13, I x1), (12, A a0), (11, E a1), (0, A a0), (3, pf a1 0), (5, I x1), (7, I (a0.length : Int)), (8, I x1)] [] ?_
 obtain ⟨v5, hv6, h⟩ := bindS h
 refine qX (some 14) (pf v5 0) 19 [(14, pf v5 0), (11, E a1), (0, A a0), (3, pf a1 0), (5, I x1), (7, I (a0.length : Int)), (8, I x1)] [] (fun Γ' hΓ => CoreE.of_y (idxV_sound τ_ok (by kernel_rfl) hv6)) trivial ?_
 refine qvn [] trivial 2 19 [(0, A a0), (3, pf a1 0), (5, I x1), (7, I (a0.length : Int)), (8, I x1), (16, B (eq_T_impl_Edge a1 v5))] [] ?_
 refine pc h (fun h => ?_) (fun h => ?_)
 refine srve 19 [(4, I x1)] [] ?_
 cases h
 exact pwp_ret rz
 refine pwp_skip ?_
 refine rve 19 [(0, A a0), (3, pf a1 0), (7, I (a0.length : Int)), (8, I (w64 (x1 + 1)))] [] ?_
 exact ⟨(f2, (w64 (x1 + 1))), h, Nat.lt_succ_self _, it [0, 3, 7, 8]⟩
 refine pwp_exit ?_
 refine srve 19 [(4, I (-1))] [] ?_
 cases h
 exact pwp_ret rz
def impl_letters_l0 (v1 : List UInt8) : Nat → Int → Option Bool
 | 0, _ => none
 | f4 + 1, x3 => bif (decide (x3 < (v1.length : Int))) then (getI v1 x3).bind fun v7 => (impl_between (w64 (v7.toNat : Int)) 97 122).bind fun v9 => bif (!v9) then some false else (impl_letters_l0 v1 f4) (w64 (x3 + 1)) else some true
def impl_letters (a0 : ByteArray) : Option Bool := (bytesOf a0).bind fun v1 => impl_letters_l0 v1 FUEL 0
theorem ok_impl_letters {a0 : ByteArray} {y : Bool} (h : impl_letters a0 = some y) : OK Try.prog 179 [S a0] (B y) := by
 refine ow Try.func179 fun Γ hX => ?_
 unfold impl_letters at h
 refine srve 17 [(0, S a0)] [] ?_
 refine pwp_seq ?_
 refine srv 1 17 [(5, S a0)] [] ?_
 obtain ⟨v1, hv2, h⟩ := bindS h
 refine opsP_cvb τ_ok 6 hv2 (by kernel_rfl) ?_
 refine ve 2 17 [(6, A v1), (7, I (v1.length : Int)), (8, I 0)] [] ?_
 refine pwp_block ?_
 refine pwp_loop (ι := Nat × Int) (fun (f4, x3) => (⟨17, [(6, A v1), (7, I (v1.length : Int)), (8, I x3)], []⟩ : St)) (fun (f4, x3) => impl_letters_l0 v1 f4 x3 = some y) Prod.fst (FUEL, 0) h (it [6, 7, 8]) ?_
 rintro ⟨f4, x3⟩ h
 dsimp only at h ⊢
 rcases f4 with _ | f4
 cases h
 rw [impl_letters_l0] at h
 refine srve 17 [(6, A v1), (7, I (v1.length : Int)), (8, I x3), (9, B (decide (x3 < (v1.length : Int))))] [] ?_
 refine pwp_seq ?_
 refine pc h (fun h => ?_) (fun h => ?_)
 refine pwp_skip ?_
 refine pwp_seq ?_
 refine pwp_block ?_
 refine pwp_seq ?_
 refine pwp_region ?_
 obtain ⟨v7, hv8, h⟩ := bindS h
 refine opsP_idx τ_ok 10 hv8 (by kernel_rfl) ?_
 refine ve 2 17 [(4, .lit (.int .u8 (v7).toNat)), (6, A v1), (7, I (v1.length : Int)), (8, I x3)] [] ?_
 refine srv 2 17 [(6, A v1), (7, I (v1.length : Int)), (8, I x3), (13, I (w64 (v7.toNat : Int)))] [] ?_
 obtain ⟨v9, hv10, h⟩ := bindS h
 refine cF 14 (ok_impl_between hv10) ?_
 refine ve 1 17 [(6, A v1), (7, I (v1.length : Int)), (8, I x3), (15, B (!v9))] [] ?_
 refine pc h (fun h => ?_) (fun h => ?_)
 refine srve 17 [(2, B false)] [] ?_
 cases h
 exact pwp_ret rz
 refine pwp_skip ?_
 refine rve 17 [(6, A v1), (7, I (v1.length : Int)), (8, I (w64 (x3 + 1)))] [] ?_
 exact ⟨(f4, (w64 (x3 + 1))), h, Nat.lt_succ_self _, it [6, 7, 8]⟩
 refine pwp_exit ?_
 refine srve 17 [(2, B true)] [] ?_
 cases h
 exact pwp_ret rz
def laws_szValue (a0 : T_laws_Value) (a1 : Int) : Option Int := bif (decide ((w64 (a1 - (a0.fS.size : Int))) < 0)) then some (-1) else some (w64 (a1 - (a0.fS.size : Int)))
theorem ok_laws_szValue {a0 : T_laws_Value} {a1 : Int} {y : Int} (h : laws_szValue a0 a1 = some y) : OK Try.prog 185 [E a0, I a1] (I y) := by
 refine ow Try.func185 fun Γ hX => ?_
 unfold laws_szValue at h
 refine srve 13 [(1, I a1), (2, pf a0 0)] [] ?_
 refine srve 13 [(1, I (w64 (a1 - (a0.fS.size : Int))))] [] ?_
 refine pwp_seq ?_
 refine srve 13 [(1, I (w64 (a1 - (a0.fS.size : Int)))), (11, B (decide ((w64 (a1 - (a0.fS.size : Int))) < 0)))] [] ?_
 refine pc h (fun h => ?_) (fun h => ?_)
 refine srve 13 [(4, I (-1))] [] ?_
 cases h
 exact pwp_ret rz
 refine pwp_skip ?_
 refine srve 13 [(4, I (w64 (a1 - (a0.fS.size : Int))))] [] ?_
 cases h
 exact pwp_ret rz
def laws_toValue (a0 : T_laws_Value) : Option T_impl_Value := some (T_impl_Value.mk a0.fKind a0.fN a0.fS)
theorem ok_laws_toValue {a0 : T_laws_Value} {y : T_impl_Value} (h : laws_toValue a0 = some y) : OK Try.prog 188 [E a0] (E y) := by
 refine ow Try.func188 fun Γ hX => ?_
 unfold laws_toValue at h
 refine srveM [2, 3] 14 [(1, pf a0 0), (2, .ptr 0 0 0)] [some ⟨0, Enc.cells (T_impl_Value.mk 0 0 (ByteArray.mk #[]))⟩] ?_
 refine srveM [2, 3] 14 [(1, pf a0 0), (2, .ptr 0 0 0), (3, .ptr 1 0 0)] [some ⟨0, Enc.cells (T_impl_Value.mk 0 0 (ByteArray.mk #[]))⟩, some ⟨0, Enc.cells (T_impl_Value.mk 0 0 (ByteArray.mk #[]))⟩] ?_
 refine srveM [2, 3] 14 [(1, pf a0 0), (2, .ptr 0 0 0), (3, .ptr 1 0 0)] [some ⟨0, Enc.cells (T_impl_Value.mk 0 0 (ByteArray.mk #[]))⟩, some ⟨0, Enc.cells (T_impl_Value.mk a0.fKind 0 (ByteArray.mk #[]))⟩] ?_
 refine srveM [2, 3] 14 [(1, pf a0 0), (2, .ptr 0 0 0), (3, .ptr 1 0 0)] [some ⟨0, Enc.cells (T_impl_Value.mk 0 0 (ByteArray.mk #[]))⟩, some ⟨0, Enc.cells (T_impl_Value.mk a0.fKind a0.fN (ByteArray.mk #[]))⟩] ?_
 refine srveM [2, 3] 14 [(2, .ptr 0 0 0), (3, .ptr 1 0 0)] [some ⟨0, Enc.cells (T_impl_Value.mk 0 0 (ByteArray.mk #[]))⟩, some ⟨0, Enc.cells (T_impl_Value.mk a0.fKind a0.fN a0.fS)⟩] ?_
 refine srveM [2, 3] 14 [(2, .ptr 0 0 0)] [some ⟨0, Enc.cells (T_impl_Value.mk a0.fKind a0.fN a0.fS)⟩, some ⟨0, Enc.cells (T_impl_Value.mk a0.fKind a0.fN a0.fS)⟩] ?_
 cases h
 exact pwp_ret rz
def slices_IndexFunc_impl_Write_impl_Write_l0 (a0 : List T_impl_Write) (a1 : T_impl_Write → Option Bool) : Nat → Int → Option Int
 | 0, _ => none
 | f2 + 1, x1 => bif (decide (x1 < (a0.length : Int))) then (getI a0 x1).bind fun v5 => (a1 v5).bind fun v7 => bif v7 then some x1 else (slices_IndexFunc_impl_Write_impl_Write_l0 a0 a1 f2) (w64 (x1 + 1)) else some (-1)
def slices_IndexFunc_impl_Write_impl_Write (a0 : List T_impl_Write) (a1 : T_impl_Write → Option Bool) : Option Int := slices_IndexFunc_impl_Write_impl_Write_l0 a0 a1 FUEL 0
theorem ok_slices_IndexFunc_impl_Write_impl_Write {a0 : List T_impl_Write} {g1 : FuncId} {c1 : List V} (hz1 : frzL c1 = true) {a1 : T_impl_Write → Option Bool} (hp1 : ∀ x0 y, a1 x0 = some y → OK Try.prog g1 ([E x0] ++ c1) (B y)) {y : Int} (h : slices_IndexFunc_impl_Write_impl_Write a0 a1 = some y) : OK Try.prog 192 [A a0, .fn g1 c1] (I y) := by
 refine ow Try.func192 fun Γ hX => ?_
 unfold slices_IndexFunc_impl_Write_impl_Write at h
 refine srve 19 [(0, A a0), (1, .fn g1 c1)] [] ?_
 refine pwp_seq ?_
 refine srve 19 [(0, A a0), (1, .fn g1 c1), (7, I (a0.length : Int)), (8, I 0)] [] ?_
 refine pwp_block ?_
 refine pwp_loop (ι := Nat × Int) (fun (f2, x1) => (⟨19, [(0, A a0), (1, .fn g1 c1), (7, I (a0.length : Int)), (8, I x1)], []⟩ : St)) (fun (f2, x1) => slices_IndexFunc_impl_Write_impl_Write_l0 a0 a1 f2 x1 = some y) Prod.fst (FUEL, 0) h (it [0, 1, 7, 8]) ?_
 rintro ⟨f2, x1⟩ h
 dsimp only at h ⊢
 rcases f2 with _ | f2
 cases h
 rw [slices_IndexFunc_impl_Write_impl_Write_l0] at h
 refine srve 19 [(0, A a0), (1, .fn g1 c1), (7, I (a0.length : Int)), (8, I x1), (9, B (decide (x1 < (a0.length : Int))))] [] ?_
 refine pwp_seq ?_
 refine pc h (fun h => ?_) (fun h => ?_)
 refine pwp_skip ?_
 refine pwp_seq ?_
 refine pwp_block ?_
 refine srve 19 [(0, A a0), (1, .fn g1 c1), (5, I x1), (7, I (a0.length : Int)), (8, I x1)] [] ?_
 refine srv 3 19 [(0, A a0), (1, .fn g1 c1), (5, I x1), (7, I (a0.length : Int)), (8, I x1), (11, .fn g1 c1), (12, A a0), (13, I x1)] [] ?_
 obtain ⟨v5, hv6, h⟩ := bindS h
 refine opsP_idx τ_ok 14 hv6 (by kernel_rfl) ?_
 refine v 1 19 [(0, A a0), (1, .fn g1 c1), (5, I x1), (7, I (a0.length : Int)), (8, I x1), (11, .fn g1 c1), (15, E v5)] [] ?_
 obtain ⟨v7, hv8, h⟩ := bindS h
 refine opsP_callF τ 16 (hp1 _ _ hv8) (FzTo.frz rfl) (frz_app (xs := [E v5]) rfl hz1) (by kernel_rfl) ?_
 refine ve 0 19 [(0, A a0), (1, .fn g1 c1), (5, I x1), (7, I (a0.length : Int)), (8, I x1), (16, B v7)] [] ?_
 refine pc h (fun h => ?_) (fun h => ?_)
 refine srve 19 [(4, I x1)] [] ?_
 cases h
 exact pwp_ret rz
 refine pwp_skip ?_
 refine rve 19 [(0, A a0), (1, .fn g1 c1), (7, I (a0.length : Int)), (8, I (w64 (x1 + 1)))] [] ?_
 exact ⟨(f2, (w64 (x1 + 1))), h, Nat.lt_succ_self _, it [0, 1, 7, 8]⟩
 refine pwp_exit ?_
 refine srve 19 [(4, I (-1))] [] ?_
 cases h
 exact pwp_ret rz
def laws_eqValue (a0 : T_impl_Value) (a1 : T_impl_Value) : Option Bool := bif (!(a0.fKind == a1.fKind)) then some false else bif (!(a0.fN == a1.fN)) then some false else bif (!(a0.fS.toList == a1.fS.toList)) then some false else some true
theorem ok_laws_eqValue {a0 : T_impl_Value} {a1 : T_impl_Value} {y : Bool} (h : laws_eqValue a0 a1 = some y) : OK Try.prog 194 [E a0, E a1] (B y) := by
 refine ow Try.func194 fun Γ hX => ?_
 unfold laws_eqValue at h
 refine srve 20 [(2, pf a0 0), (3, pf a1 0)] [] ?_
 refine pwp_seq ?_
 refine srve 20 [(2, pf a0 0), (3, pf a1 0), (9, B (!(a0.fKind == a1.fKind)))] [] ?_
 refine pc h (fun h => ?_) (fun h => ?_)
 refine srve 20 [(4, B false)] [] ?_
 cases h
 exact pwp_ret rz
 refine pwp_skip ?_
 refine pwp_seq ?_
 refine srve 20 [(2, pf a0 0), (3, pf a1 0), (14, B (!(a0.fN == a1.fN)))] [] ?_
 refine pc h (fun h => ?_) (fun h => ?_)
 refine srve 20 [(4, B false)] [] ?_
 cases h
 exact pwp_ret rz
 refine pwp_skip ?_
 refine pwp_seq ?_
 refine srve 20 [(19, B (!(a0.fS.toList == a1.fS.toList)))] [] ?_
 refine pc h (fun h => ?_) (fun h => ?_)
 refine srve 20 [(4, B false)] [] ?_
 cases h
 exact pwp_ret rz
 refine pwp_skip ?_
 refine srve 20 [(4, B true)] [] ?_
 cases h
 exact pwp_ret rz
def slices_IndexFunc_impl_Value_impl_Value_l0 (a0 : List T_impl_Value) (a1 : T_impl_Value → Option Bool) : Nat → Int → Option Int
 | 0, _ => none
 | f2 + 1, x1 => bif (decide (x1 < (a0.length : Int))) then (getI a0 x1).bind fun v5 => (a1 v5).bind fun v7 => bif v7 then some x1 else (slices_IndexFunc_impl_Value_impl_Value_l0 a0 a1 f2) (w64 (x1 + 1)) else some (-1)
def slices_IndexFunc_impl_Value_impl_Value (a0 : List T_impl_Value) (a1 : T_impl_Value → Option Bool) : Option Int := slices_IndexFunc_impl_Value_impl_Value_l0 a0 a1 FUEL 0
theorem ok_slices_IndexFunc_impl_Value_impl_Value {a0 : List T_impl_Value} {g1 : FuncId} {c1 : List V} (hz1 : frzL c1 = true) {a1 : T_impl_Value → Option Bool} (hp1 : ∀ x0 y, a1 x0 = some y → OK Try.prog g1 ([E x0] ++ c1) (B y)) {y : Int} (h : slices_IndexFunc_impl_Value_impl_Value a0 a1 = some y) : OK Try.prog 212 [A a0, .fn g1 c1] (I y) := by
 refine ow Try.func212 fun Γ hX => ?_
 unfold slices_IndexFunc_impl_Value_impl_Value at h
 refine srve 19 [(0, A a0), (1, .fn g1 c1)] [] ?_
 refine pwp_seq ?_
 refine srve 19 [(0, A a0), (1, .fn g1 c1), (7, I (a0.length : Int)), (8, I 0)] [] ?_
 refine pwp_block ?_
 refine pwp_loop (ι := Nat × Int) (fun (f2, x1) => (⟨19, [(0, A a0), (1, .fn g1 c1), (7, I (a0.length : Int)), (8, I x1)], []⟩ : St)) (fun (f2, x1) => slices_IndexFunc_impl_Value_impl_Value_l0 a0 a1 f2 x1 = some y) Prod.fst (FUEL, 0) h (it [0, 1, 7, 8]) ?_
 rintro ⟨f2, x1⟩ h
 dsimp only at h ⊢
 rcases f2 with _ | f2
 cases h
 rw [slices_IndexFunc_impl_Value_impl_Value_l0] at h
 refine srve 19 [(0, A a0), (1, .fn g1 c1), (7, I (a0.length : Int)), (8, I x1), (9, B (decide (x1 < (a0.length : Int))))] [] ?_
 refine pwp_seq ?_
 refine pc h (fun h => ?_) (fun h => ?_)
 refine pwp_skip ?_
 refine pwp_seq ?_
 refine pwp_block ?_
 refine srve 19 [(0, A a0), (1, .fn g1 c1), (5, I x1), (7, I (a0.length : Int)), (8, I x1)] [] ?_
 refine srv 3 19 [(0, A a0), (1, .fn g1 c1), (5, I x1), (7, I (a0.length : Int)), (8, I x1), (11, .fn g1 c1), (12, A a0), (13, I x1)] [] ?_
 obtain ⟨v5, hv6, h⟩ := bindS h
 refine opsP_idx τ_ok 14 hv6 (by kernel_rfl) ?_
 refine v 1 19 [(0, A a0), (1, .fn g1 c1), (5, I x1), (7, I (a0.length : Int)), (8, I x1), (11, .fn g1 c1), (15, E v5)] [] ?_
 obtain ⟨v7, hv8, h⟩ := bindS h
 refine opsP_callF τ 16 (hp1 _ _ hv8) (FzTo.frz rfl) (frz_app (xs := [E v5]) rfl hz1) (by kernel_rfl) ?_
 refine ve 0 19 [(0, A a0), (1, .fn g1 c1), (5, I x1), (7, I (a0.length : Int)), (8, I x1), (16, B v7)] [] ?_
 refine pc h (fun h => ?_) (fun h => ?_)
 refine srve 19 [(4, I x1)] [] ?_
 cases h
 exact pwp_ret rz
 refine pwp_skip ?_
 refine rve 19 [(0, A a0), (1, .fn g1 c1), (7, I (a0.length : Int)), (8, I (w64 (x1 + 1)))] [] ?_
 exact ⟨(f2, (w64 (x1 + 1))), h, Nat.lt_succ_self _, it [0, 1, 7, 8]⟩
 refine pwp_exit ?_
 refine srve 19 [(4, I (-1))] [] ?_
 cases h
 exact pwp_ret rz
def impl_Txn_write_1 (a0 : T_impl_Write) (b0 : Int) : Option Bool := some (a0.fKey == b0)
theorem ok_impl_Txn_write_1 {a0 : T_impl_Write} {b0 : Int} {y : Bool} (h : impl_Txn_write_1 a0 b0 = some y) : OK Try.prog 213 [E a0, pf b0 0] (B y) := by
 refine ow Try.func213 fun Γ hX => ?_
 unfold impl_Txn_write_1 at h
 refine srve 8 [(1, pf b0 0), (2, pf a0 0)] [] ?_
 refine srve 8 [(3, B (a0.fKey == b0))] [] ?_
 cases h
 exact pwp_ret rz
def spec_l1Text_j1 (x1 : Int) (K3 : Int → Option Bool) (x5 : Bool) : Option Bool := bif x5 then some false else K3 (w64 (x1 + 1))
def spec_l1Text_l0 (a0 : ByteArray) : Nat → Int → Option Bool
 | 0, _ => none
 | f2 + 1, x1 => bif (decide (x1 < (a0.size : Int))) then (getB a0 x1).bind fun v7 => bif (decide ((v7.toNat : Int) < 97)) then spec_l1Text_j1 x1 (spec_l1Text_l0 a0 f2) true else (getB a0 x1).bind fun v9 => spec_l1Text_j1 x1 (spec_l1Text_l0 a0 f2) (decide ((v9.toNat : Int) > 122)) else some (decide ((a0.size : Int) ≤ 6))
def spec_l1Text (a0 : ByteArray) : Option Bool := spec_l1Text_l0 a0 FUEL 0
theorem ok_spec_l1Text {a0 : ByteArray} {y : Bool} (h : spec_l1Text a0 = some y) : OK Try.prog 229 [S a0] (B y) := by
 refine ow Try.func229 fun Γ hX => ?_
 unfold spec_l1Text at h
 refine srve 23 [(0, S a0)] [] ?_
 refine pwp_seq ?_
 refine srve 23 [(0, S a0), (3, I 0)] [] ?_
 refine pwp_block ?_
 refine pwp_loop (ι := Nat × Int) (fun (f2, x1) => (⟨23, [(0, S a0), (3, I x1)], []⟩ : St)) (fun (f2, x1) => spec_l1Text_l0 a0 f2 x1 = some y) Prod.fst (FUEL, 0) h (it [0, 3]) ?_
 rintro ⟨f2, x1⟩ h
 dsimp only at h ⊢
 rcases f2 with _ | f2
 cases h
 rw [spec_l1Text_l0] at h
 refine pwp_seq ?_
 refine srve 23 [(0, S a0), (3, I x1), (7, B (decide (x1 < (a0.size : Int))))] [] ?_
 refine pc h (fun h => ?_) (fun h => ?_)
 refine pwp_skip ?_
 refine pwp_seq ?_
 refine pwp_block ?_
 refine pwp_seq ?_
 refine pwp_join (σ := Bool) (fun x5 => (⟨23, [(0, S a0), (3, I x1), (19, B x5)], []⟩ : St)) (fun x5 => spec_l1Text_j1 x1 (spec_l1Text_l0 a0 f2) x5 = some y) ?_ ?_
 refine rv 2 23 [(0, S a0), (3, I x1), (10, S a0), (11, I x1)] [] ?_
 obtain ⟨v7, hv8, h⟩ := bindS h
 refine opsP_byt τ_ok 12 hv8 (by kernel_rfl) ?_
 refine v 2 23 [(0, S a0), (3, I x1), (14, B (decide ((v7.toNat : Int) < 97)))] [] ?_
 rcases fk (decide ((v7.toNat : Int) < 97)) with hc11 | hc11
 replace h := bT hc11 h
 rw [hc11]
 refine ve 5 23 [(0, S a0), (3, I x1), (15, .lit undef), (16, .lit undef), (17, .lit undef), (18, .lit undef), (19, B true)] [] ?_
 exact ⟨true, h, it [0, 3, 19]⟩
 replace h := bF hc11 h
 rw [hc11]
 refine v 2 23 [(0, S a0), (3, I x1), (14, B false), (15, S a0), (16, I x1)] [] ?_
 obtain ⟨v9, hv10, h⟩ := bindS h
 refine opsP_byt τ_ok 17 hv10 (by kernel_rfl) ?_
 refine ve 2 23 [(0, S a0), (3, I x1), (15, S a0), (16, I x1), (17, .lit (.int .u8 (v9).toNat)), (18, B (decide ((v9.toNat : Int) > 122))), (19, B (decide ((v9.toNat : Int) > 122)))] [] ?_
 exact ⟨(decide ((v9.toNat : Int) > 122)), h, it [0, 3, 19]⟩
 rintro x5 h
 unfold spec_l1Text_j1 at h
 refine pc h (fun h => ?_) (fun h => ?_)
 refine srve 23 [(2, B false)] [] ?_
 cases h
 exact pwp_ret rz
 refine pwp_skip ?_
 refine rve 23 [(0, S a0), (3, I (w64 (x1 + 1)))] [] ?_
 exact ⟨(f2, (w64 (x1 + 1))), h, Nat.lt_succ_self _, it [0, 3]⟩
 refine pwp_exit ?_
 refine srve 23 [(2, B (decide ((a0.size : Int) ≤ 6)))] [] ?_
 cases h
 exact pwp_ret rz
def slices_Contains_int_int (a0 : List Int) (a1 : Int) : Option Bool := (slices_Index_int_int a0 a1).bind fun v1 => some (decide (v1 ≥ 0))
theorem ok_slices_Contains_int_int {a0 : List Int} {a1 : Int} {y : Bool} (h : slices_Contains_int_int a0 a1 = some y) : OK Try.prog 73 [A a0, I a1] (B y) := by
 refine ow Try.func73 fun Γ hX => ?_
 unfold slices_Contains_int_int at h
 refine srve 9 [(0, A a0), (1, I a1)] [] ?_
 refine srv 2 9 [(5, A a0), (6, I a1)] [] ?_
 obtain ⟨v1, hv2, h⟩ := bindS h
 refine cF 7 (ok_slices_Index_int_int hv2) ?_
 refine ve 2 9 [(4, B (decide (v1 ≥ 0)))] [] ?_
 cases h
 exact pwp_ret rz
def spec_l15Has_j3 (x1 : Int) (K3 : Int → Option Bool) (x15 : Bool) : Option Bool := bif x15 then some true else K3 (w64 (x1 + 1))
def spec_l15Has_j2 (a0 : T_impl_Txn) (a1 : T_impl_Txn) (a2 : Int) (x1 : Int) (K3 : Int → Option Bool) (x10 : Bool) (x13 : Bool) : Option Bool := bif x13 then some true else bif (a2 == 3) then (spec_l15Read a0 x1).bind fun v17 => bif v17 then bif x10 then spec_l15Has_j3 x1 K3 (decide (a1.fEnd > a0.fBegin)) else spec_l15Has_j3 x1 K3 false else spec_l15Has_j3 x1 K3 false else spec_l15Has_j3 x1 K3 false
def spec_l15Has_j1 (a0 : T_impl_Txn) (a1 : T_impl_Txn) (a2 : Int) (x1 : Int) (K3 : Int → Option Bool) (x9 : Bool) (x10 : Bool) (x11 : Bool) : Option Bool := bif x11 then some true else bif (a2 == 2) then bif x9 then (spec_l15Read a1 x1).bind fun v22 => bif v22 then spec_l15Has_j2 a0 a1 a2 x1 K3 x10 (decide (a0.fEnd ≤ a1.fBegin)) else spec_l15Has_j2 a0 a1 a2 x1 K3 x10 false else spec_l15Has_j2 a0 a1 a2 x1 K3 x10 false else spec_l15Has_j2 a0 a1 a2 x1 K3 x10 false
def spec_l15Has_l0 (a0 : T_impl_Txn) (a1 : T_impl_Txn) (a2 : Int) : Nat → Int → Option Bool
 | 0, _ => none
 | f2 + 1, x1 => bif (decide (x1 < 5)) then (spec_l14Own a0 x1).bind fun v5 => (spec_l14Own a1 x1).bind fun v7 => bif (a2 == 1) then bif (decide (v5 ≥ 0)) then bif (decide (v7 ≥ 0)) then spec_l15Has_j1 a0 a1 a2 x1 (spec_l15Has_l0 a0 a1 a2 f2) true true (decide (a0.fEnd < a1.fEnd)) else spec_l15Has_j1 a0 a1 a2 x1 (spec_l15Has_l0 a0 a1 a2 f2) true false false else spec_l15Has_j1 a0 a1 a2 x1 (spec_l15Has_l0 a0 a1 a2 f2) false (decide (v7 ≥ 0)) false else spec_l15Has_j1 a0 a1 a2 x1 (spec_l15Has_l0 a0 a1 a2 f2) (decide (v5 ≥ 0)) (decide (v7 ≥ 0)) false else some false
def spec_l15Has (a0 : T_impl_Txn) (a1 : T_impl_Txn) (a2 : Int) : Option Bool := spec_l15Has_l0 a0 a1 a2 FUEL 0
theorem ok_spec_l15Has {a0 : T_impl_Txn} {a1 : T_impl_Txn} {a2 : Int} {y : Bool} (h : spec_l15Has a0 a1 a2 = some y) : OK Try.prog 105 [E a0, E a1, I a2] (B y) := by
 refine ow Try.func105 fun Γ hX => ?_
 unfold spec_l15Has at h
 refine srve 74 [(2, I a2), (3, pf a0 0), (4, pf a1 0)] [] ?_
 refine pwp_seq ?_
 refine srve 74 [(2, I a2), (3, pf a0 0), (4, pf a1 0), (7, I 0)] [] ?_
 refine pwp_block ?_
 refine pwp_loop (ι := Nat × Int) (fun (f2, x1) => (⟨74, [(2, I a2), (3, pf a0 0), (4, pf a1 0), (7, I x1)], []⟩ : St)) (fun (f2, x1) => spec_l15Has_l0 a0 a1 a2 f2 x1 = some y) Prod.fst (FUEL, 0) h (it [2, 3, 4, 7]) ?_
 rintro ⟨f2, x1⟩ h
 dsimp only at h ⊢
 rcases f2 with _ | f2
 cases h
 rw [spec_l15Has_l0] at h
 refine pwp_seq ?_
 refine srve 74 [(2, I a2), (3, pf a0 0), (4, pf a1 0), (7, I x1), (11, B (decide (x1 < 5)))] [] ?_
 refine pc h (fun h => ?_) (fun h => ?_)
 refine pwp_skip ?_
 refine pwp_seq ?_
 refine pwp_block ?_
 refine srv 2 74 [(2, I a2), (3, pf a0 0), (4, pf a1 0), (7, I x1), (14, E a0), (15, I x1)] [] ?_
 obtain ⟨v5, hv6, h⟩ := bindS h
 refine cF 16 (ok_spec_l14Own hv6) ?_
 refine ve 2 74 [(2, I a2), (3, pf a0 0), (4, pf a1 0), (7, I x1), (8, B (decide (v5 ≥ 0)))] [] ?_
 refine srv 2 74 [(2, I a2), (3, pf a0 0), (4, pf a1 0), (7, I x1), (8, B (decide (v5 ≥ 0))), (18, E a1), (19, I x1)] [] ?_
 obtain ⟨v7, hv8, h⟩ := bindS h
 refine cF 20 (ok_spec_l14Own hv8) ?_
 refine ve 2 74 [(2, I a2), (3, pf a0 0), (4, pf a1 0), (7, I x1), (8, B (decide (v5 ≥ 0))), (9, B (decide (v7 ≥ 0)))] [] ?_
 refine pwp_block ?_
 refine pwp_seq ?_
 refine pwp_join (σ := Bool × Bool × Bool) (fun (x9, x10, x11) => (⟨74, [(2, I a2), (3, pf a0 0), (4, pf a1 0), (7, I x1), (8, B x9), (9, B x10), (22, B x11)], []⟩ : St)) (fun (x9, x10, x11) => spec_l15Has_j1 a0 a1 a2 x1 (spec_l15Has_l0 a0 a1 a2 f2) x9 x10 x11 = some y) ?_ ?_
 refine rv 3 74 [(2, I a2), (3, pf a0 0), (4, pf a1 0), (7, I x1), (8, B (decide (v5 ≥ 0))), (9, B (decide (v7 ≥ 0))), (25, B (a2 == 1))] [] ?_
 rcases fk (a2 == 1) with hc29 | hc29
 replace h := bT hc29 h
 rw [hc29]
 refine v 3 74 [(2, I a2), (3, pf a0 0), (4, pf a1 0), (7, I x1), (8, B (decide (v5 ≥ 0))), (9, B (decide (v7 ≥ 0))), (26, B (decide (v5 ≥ 0))), (28, B (decide (v5 ≥ 0)))] [] ?_
 rcases fk (decide (v5 ≥ 0)) with hc28 | hc28
 replace h := bT hc28 h
 rw [hc28]
 refine v 3 74 [(2, I a2), (3, pf a0 0), (4, pf a1 0), (7, I x1), (8, B true), (9, B (decide (v7 ≥ 0))), (26, B true), (29, B (decide (v7 ≥ 0))), (31, B (decide (v7 ≥ 0)))] [] ?_
 rcases fk (decide (v7 ≥ 0)) with hc27 | hc27
 replace h := bT hc27 h
 rw [hc27]
 refine ve 7 74 [(2, I a2), (3, pf a0 0), (4, pf a1 0), (7, I x1), (8, B true), (9, B true), (22, B (decide (a0.fEnd < a1.fEnd))), (26, B true), (29, B true), (32, pf a0 2), (33, I a0.fEnd), (34, pf a1 2), (35, I a1.fEnd), (36, B (decide (a0.fEnd < a1.fEnd)))] [] ?_
 exact ⟨(true, true, (decide (a0.fEnd < a1.fEnd))), h, it [2, 3, 4, 7, 8, 9, 22]⟩
 replace h := bF hc27 h
 rw [hc27]
 refine ve 7 74 [(2, I a2), (3, pf a0 0), (4, pf a1 0), (7, I x1), (8, B true), (9, B false), (22, B false), (26, B true), (29, B false), (32, .lit undef), (33, .lit undef), (34, .lit undef), (35, .lit undef), (36, .lit undef)] [] ?_
 exact ⟨(true, false, false), h, it [2, 3, 4, 7, 8, 9, 22]⟩
 replace h := bF hc28 h
 rw [hc28]
 refine ve 10 74 [(2, I a2), (3, pf a0 0), (4, pf a1 0), (7, I x1), (8, B false), (9, B (decide (v7 ≥ 0))), (22, B false), (26, B false), (29, .lit undef), (32, .lit undef), (33, .lit undef), (34, .lit undef), (35, .lit undef), (36, .lit undef)] [] ?_
 exact ⟨(false, (decide (v7 ≥ 0)), false), h, it [2, 3, 4, 7, 8, 9, 22]⟩
 replace h := bF hc29 h
 rw [hc29]
 refine ve 13 74 [(2, I a2), (3, pf a0 0), (4, pf a1 0), (7, I x1), (8, B (decide (v5 ≥ 0))), (9, B (decide (v7 ≥ 0))), (22, B false), (26, .lit undef), (29, .lit undef), (32, .lit undef), (33, .lit undef), (34, .lit undef), (35, .lit undef), (36, .lit undef)] [] ?_
 exact ⟨((decide (v5 ≥ 0)), (decide (v7 ≥ 0)), false), h, it [2, 3, 4, 7, 8, 9, 22]⟩
 rintro ⟨x9, x10, x11⟩ h
 dsimp only at h ⊢
 unfold spec_l15Has_j1 at h
 refine pc h (fun h => ?_) (fun h => ?_)
 refine srve 74 [(6, B true)] [] ?_
 cases h
 exact pwp_ret rz
 refine pwp_seq ?_
 refine pwp_join (σ := Bool) (fun x13 => (⟨74, [(2, I a2), (3, pf a0 0), (4, pf a1 0), (7, I x1), (9, B x10), (38, B x13)], []⟩ : St)) (fun x13 => spec_l15Has_j2 a0 a1 a2 x1 (spec_l15Has_l0 a0 a1 a2 f2) x10 x13 = some y) ?_ ?_
 refine rv 3 74 [(2, I a2), (3, pf a0 0), (4, pf a1 0), (7, I x1), (8, B x9), (9, B x10), (41, B (a2 == 2))] [] ?_
 rcases fk (a2 == 2) with hc26 | hc26
 replace h := bT hc26 h
 rw [hc26]
 refine v 3 74 [(2, I a2), (3, pf a0 0), (4, pf a1 0), (7, I x1), (9, B x10), (42, B x9), (44, B x9)] [] ?_
 rcases Bool.eq_false_or_eq_true x9 with hc25 | hc25
 replace h := bT hc25 h
 rw [hc25]
 refine v 2 74 [(2, I a2), (3, pf a0 0), (4, pf a1 0), (7, I x1), (9, B x10), (42, B true), (44, B true), (45, E a1), (46, I x1)] [] ?_
 obtain ⟨v22, hv23, h⟩ := bindS h
 refine cF 47 (ok_spec_l15Read hv23) ?_
 refine v 2 74 [(2, I a2), (3, pf a0 0), (4, pf a1 0), (7, I x1), (9, B x10), (42, B true), (45, E a1), (46, I x1), (47, B v22), (49, B v22)] [] ?_
 rcases Bool.eq_false_or_eq_true v22 with hc24 | hc24
 replace h := bT hc24 h
 rw [hc24]
 refine ve 7 74 [(2, I a2), (3, pf a0 0), (4, pf a1 0), (7, I x1), (9, B x10), (38, B (decide (a0.fEnd ≤ a1.fBegin))), (42, B true), (45, E a1), (46, I x1), (47, B true), (50, pf a0 2), (51, I a0.fEnd), (52, pf a1 1), (53, I a1.fBegin), (54, B (decide (a0.fEnd ≤ a1.fBegin)))] [] ?_
 exact ⟨(decide (a0.fEnd ≤ a1.fBegin)), h, it [2, 3, 4, 7, 9, 38]⟩
 replace h := bF hc24 h
 rw [hc24]
 refine ve 7 74 [(2, I a2), (3, pf a0 0), (4, pf a1 0), (7, I x1), (9, B x10), (38, B false), (42, B true), (45, E a1), (46, I x1), (47, B false), (50, .lit undef), (51, .lit undef), (52, .lit undef), (53, .lit undef), (54, .lit undef)] [] ?_
 exact ⟨false, h, it [2, 3, 4, 7, 9, 38]⟩
 replace h := bF hc25 h
 rw [hc25]
 refine ve 12 74 [(2, I a2), (3, pf a0 0), (4, pf a1 0), (7, I x1), (9, B x10), (38, B false), (42, B false), (45, .lit undef), (46, .lit undef), (47, .lit undef), (50, .lit undef), (51, .lit undef), (52, .lit undef), (53, .lit undef), (54, .lit undef)] [] ?_
 exact ⟨false, h, it [2, 3, 4, 7, 9, 38]⟩
 replace h := bF hc26 h
 rw [hc26]
 refine ve 15 74 [(2, I a2), (3, pf a0 0), (4, pf a1 0), (7, I x1), (9, B x10), (38, B false), (42, .lit undef), (45, .lit undef), (46, .lit undef), (47, .lit undef), (50, .lit undef), (51, .lit undef), (52, .lit undef), (53, .lit undef), (54, .lit undef)] [] ?_
 exact ⟨false, h, it [2, 3, 4, 7, 9, 38]⟩
 rintro x13 h
 unfold spec_l15Has_j2 at h
 refine pc h (fun h => ?_) (fun h => ?_)
 refine srve 74 [(6, B true)] [] ?_
 cases h
 exact pwp_ret rz
 refine pwp_seq ?_
 refine pwp_join (σ := Bool) (fun x15 => (⟨74, [(2, I a2), (3, pf a0 0), (4, pf a1 0), (7, I x1), (56, B x15)], []⟩ : St)) (fun x15 => spec_l15Has_j3 x1 (spec_l15Has_l0 a0 a1 a2 f2) x15 = some y) ?_ ?_
 refine rv 3 74 [(2, I a2), (3, pf a0 0), (4, pf a1 0), (7, I x1), (9, B x10), (59, B (a2 == 3))] [] ?_
 rcases fk (a2 == 3) with hc21 | hc21
 replace h := bT hc21 h
 rw [hc21]
 refine v 2 74 [(2, I a2), (3, pf a0 0), (4, pf a1 0), (7, I x1), (9, B x10), (59, B true), (60, E a0), (61, I x1)] [] ?_
 obtain ⟨v17, hv18, h⟩ := bindS h
 refine cF 62 (ok_spec_l15Read hv18) ?_
 refine v 2 74 [(2, I a2), (3, pf a0 0), (4, pf a1 0), (7, I x1), (9, B x10), (60, E a0), (61, I x1), (62, B v17), (64, B v17)] [] ?_
 rcases Bool.eq_false_or_eq_true v17 with hc20 | hc20
 replace h := bT hc20 h
 rw [hc20]
 refine v 3 74 [(2, I a2), (3, pf a0 0), (4, pf a1 0), (7, I x1), (60, E a0), (61, I x1), (62, B true), (65, B x10), (67, B x10)] [] ?_
 rcases Bool.eq_false_or_eq_true x10 with hc19 | hc19
 replace h := bT hc19 h
 rw [hc19]
 refine ve 7 74 [(2, I a2), (3, pf a0 0), (4, pf a1 0), (7, I x1), (56, B (decide (a1.fEnd > a0.fBegin))), (60, E a0), (61, I x1), (62, B true), (65, B true), (68, pf a1 2), (69, I a1.fEnd), (70, pf a0 1), (71, I a0.fBegin), (72, B (decide (a1.fEnd > a0.fBegin)))] [] ?_
 exact ⟨(decide (a1.fEnd > a0.fBegin)), h, it [2, 3, 4, 7, 56]⟩
 replace h := bF hc19 h
 rw [hc19]
 refine ve 7 74 [(2, I a2), (3, pf a0 0), (4, pf a1 0), (7, I x1), (56, B false), (60, E a0), (61, I x1), (62, B true), (65, B false), (68, .lit undef), (69, .lit undef), (70, .lit undef), (71, .lit undef), (72, .lit undef)] [] ?_
 exact ⟨false, h, it [2, 3, 4, 7, 56]⟩
 replace h := bF hc20 h
 rw [hc20]
 refine ve 10 74 [(2, I a2), (3, pf a0 0), (4, pf a1 0), (7, I x1), (56, B false), (60, E a0), (61, I x1), (62, B false), (65, .lit undef), (68, .lit undef), (69, .lit undef), (70, .lit undef), (71, .lit undef), (72, .lit undef)] [] ?_
 exact ⟨false, h, it [2, 3, 4, 7, 56]⟩
 replace h := bF hc21 h
 rw [hc21]
 refine ve 15 74 [(2, I a2), (3, pf a0 0), (4, pf a1 0), (7, I x1), (56, B false), (60, .lit undef), (61, .lit undef), (62, .lit undef), (65, .lit undef), (68, .lit undef), (69, .lit undef), (70, .lit undef), (71, .lit undef), (72, .lit undef)] [] ?_
 exact ⟨false, h, it [2, 3, 4, 7, 56]⟩
 rintro x15 h
 unfold spec_l15Has_j3 at h
 refine pc h (fun h => ?_) (fun h => ?_)
 refine srve 74 [(6, B true)] [] ?_
 cases h
 exact pwp_ret rz
 refine pwp_skip ?_
 refine rve 74 [(2, I a2), (3, pf a0 0), (4, pf a1 0), (7, I (w64 (x1 + 1)))] [] ?_
 exact ⟨(f2, (w64 (x1 + 1))), h, Nat.lt_succ_self _, it [2, 3, 4, 7]⟩
 refine pwp_exit ?_
 refine srve 74 [(6, B false)] [] ?_
 cases h
 exact pwp_ret rz
def impl_turnAny_l0 (a0 : List T_impl_Version) : Nat → Int → Int → Option Int
 | 0, _, _ => none
 | f3 + 1, x1, x2 => bif (decide (x2 < 5)) then (impl_lastTurn a0 x2).bind fun v6 => (impl_turnAny_l0 a0 f3) (maxL x1 [v6]) (w64 (x2 + 1)) else some x1
def impl_turnAny (a0 : List T_impl_Version) : Option Int := impl_turnAny_l0 a0 FUEL 0 0
theorem ok_impl_turnAny {a0 : List T_impl_Version} {y : Int} (h : impl_turnAny a0 = some y) : OK Try.prog 109 [A a0] (I y) := by
 refine ow Try.func109 fun Γ hX => ?_
 unfold impl_turnAny at h
 refine srve 15 [(0, A a0)] [] ?_
 refine srve 15 [(0, A a0), (3, I 0)] [] ?_
 refine pwp_seq ?_
 refine srve 15 [(0, A a0), (3, I 0), (5, I 0)] [] ?_
 refine pwp_block ?_
 refine pwp_loop (ι := Nat × Int × Int) (fun (f3, x1, x2) => (⟨15, [(0, A a0), (3, I x1), (5, I x2)], []⟩ : St)) (fun (f3, x1, x2) => impl_turnAny_l0 a0 f3 x1 x2 = some y) Prod.fst (FUEL, 0, 0) h (it [0, 3, 5]) ?_
 rintro ⟨f3, x1, x2⟩ h
 dsimp only at h ⊢
 rcases f3 with _ | f3
 cases h
 rw [impl_turnAny_l0] at h
 refine srve 15 [(0, A a0), (3, I x1), (5, I x2), (6, B (decide (x2 < 5)))] [] ?_
 refine pwp_seq ?_
 refine pc h (fun h => ?_) (fun h => ?_)
 refine pwp_skip ?_
 refine pwp_seq ?_
 refine pwp_block ?_
 refine srve 15 [(0, A a0), (3, I x1), (4, I x2), (5, I x2)] [] ?_
 refine rv 3 15 [(0, A a0), (5, I x2), (8, I x1), (9, A a0), (10, I x2)] [] ?_
 obtain ⟨v6, hv7, h⟩ := bindS h
 refine cF 11 (ok_impl_lastTurn hv7) ?_
 refine opsP_E (dd := some 12) (x := I (maxL x1 [v6])) (CoreE.of_y (mxmV_sound (τ := τ) (m := true) (a := x1) (l := [v6]) (by kernel_rfl))) ?_
 refine ve 1 15 [(0, A a0), (3, I (maxL x1 [v6])), (5, I x2)] [] ?_
 refine rve 15 [(0, A a0), (3, I (maxL x1 [v6])), (5, I (w64 (x2 + 1)))] [] ?_
 exact ⟨(f3, (maxL x1 [v6]), (w64 (x2 + 1))), h, Nat.lt_succ_self _, it [0, 3, 5]⟩
 refine pwp_exit ?_
 refine srve 15 [(2, I x1)] [] ?_
 cases h
 exact pwp_ret rz
def laws_markValueS_l0 : Nat → Int → Int → (List T_impl_Value) → Option (Int × List T_impl_Value)
 | 0, _, _, _ => none
 | f5 + 1, x2, x3, x4 => bif (decide (x3 < (x4.length : Int))) then (getI x4 x3).bind fun v8 => (getI (x4.set x3.toNat ({ v8 with fKind := x2 } : T_impl_Value)) x3).bind fun v10 => (laws_markText (w64 ((w64 (x2 + 1)) + 1))).bind fun v12 => (getI ((x4.set x3.toNat ({ v8 with fKind := x2 } : T_impl_Value)).set x3.toNat ({ v10 with fN := (w64 (x2 + 1)) } : T_impl_Value)) x3).bind fun v14 => (laws_markValueS_l0 f5) (w64 ((w64 ((w64 (x2 + 1)) + 1)) + 1)) (w64 (x3 + 1)) (((x4.set x3.toNat ({ v8 with fKind := x2 } : T_impl_Value)).set x3.toNat ({ v10 with fN := (w64 (x2 + 1)) } : T_impl_Value)).set x3.toNat ({ v14 with fS := v12 } : T_impl_Value)) else some (x2, x4)
def laws_markValueS (a0 : List T_impl_Value) (a1 : Int) : Option (Int × List T_impl_Value) := laws_markValueS_l0 FUEL a1 0 a0
theorem len_laws_markValueS_l0 : ∀ (f5 : Nat) (x2 : Int) (x3 : Int) (x4 : List T_impl_Value) (y : Int × List T_impl_Value), laws_markValueS_l0 f5 x2 x3 x4 = some y → y.2.length = x4.length
 | 0, _, _, _, _, h => by cases h
 | f5 + 1, x2, x3, x4, y, h => by
  rw [laws_markValueS_l0] at h
  rcases condS h with h | h
  ·obtain ⟨_, _, h⟩ := bindS h
   obtain ⟨_, _, h⟩ := bindS h
   obtain ⟨_, _, h⟩ := bindS h
   obtain ⟨_, _, h⟩ := bindS h
   have h2 := len_laws_markValueS_l0 f5 _ _ _ _ h
   simp only [List.length_set] at h2
   exact h2
  ·cases h; rfl
theorem len_laws_markValueS {a0 : List T_impl_Value} {a1 : Int} {y : Int × List T_impl_Value} (h : laws_markValueS a0 a1 = some y) : y.2.length = a0.length := by
 unfold laws_markValueS at h
 exact len_laws_markValueS_l0 _ _ _ _ _ h
theorem ok_laws_markValueS {a0 : List T_impl_Value} {a1 : Int} {y : Int × List T_impl_Value} (h : laws_markValueS a0 a1 = some y) : OKd Try.prog 115 3 a0.length (eL a0) [I a1] (.int .i64 y.1) (eL y.2) := by
 refine OKd_of_pwp τ_ok Try.func115 rfl (by kernel_rfl) rfl (O_oc _) (O_oc _) (BlindL.lits (eL_lit DFlat.lit _)) (BlindL.lits (eL_lit DFlat.lit _)) rfl (fun hl => by rw [eL_len, len_laws_markValueS h, ← eL_len]; exact hl) fun Γ hQ => ?_
 refine pwp_imp (Imp.to (st' := ⟨35, [(0, rf 0 0 3 a0), (1, I a1)], [sl 0 a0]⟩) [0, 1] (by kernel_rfl)) ?_
 unfold laws_markValueS at h
 refine srve 35 [(0, rf 0 0 3 a0), (1, I a1)] [sl 0 a0] ?_
 refine pwp_seq ?_
 refine srve 35 [(0, rf 0 0 3 a0), (1, I a1), (5, I 0)] [sl 0 a0] ?_
 refine pwp_block ?_
 refine pwp_loop (ι := Nat × Int × Int × (List T_impl_Value)) (fun (f5, x2, x3, x4) => (⟨35, [(0, rf 0 0 3 x4), (1, I x2), (5, I x3)], [sl 0 x4]⟩ : St)) (fun (f5, x2, x3, x4) => laws_markValueS_l0 f5 x2 x3 x4 = some y) Prod.fst (FUEL, a1, 0, a0) h (it [0, 1, 5]) ?_
 rintro ⟨f5, x2, x3, x4⟩ h
 dsimp only at h ⊢
 rcases f5 with _ | f5
 cases h
 rw [laws_markValueS_l0] at h
 refine pwp_seq ?_
 refine srve 35 [(0, rf 0 0 3 x4), (1, I x2), (5, I x3), (9, B (decide (x3 < (x4.length : Int))))] [sl 0 x4] ?_
 refine pc h (fun h => ?_) (fun h => ?_)
 refine pwp_skip ?_
 refine pwp_seq ?_
 refine pwp_block ?_
 refine srv 3 35 [(0, rf 0 0 3 x4), (1, I x2), (5, I x3), (12, rf 0 0 3 x4), (13, I x3), (14, I x2)] [sl 0 x4] ?_
 obtain ⟨v8, hv9, h⟩ := bindS h
 refine opsP_idr τ_ok 15 0 0 x4.length hv9 rfl (by kernel_rfl) ?_
 refine v 1 35 [(0, rf 0 0 3 x4), (1, I x2), (5, I x3), (14, I x2), (16, .ptr 0 0 (x3.toNat * 3))] [sl 0 x4] ?_
 refine opsP_ste (vs := [I x2]) τ_ok 3 0 0 0 ({ v8 with fKind := x2 } : T_impl_Value) hv9 (by kernel_rfl) (by kernel_rfl) (by kernel_rfl) (renC (ren_ref (List.length_set ..).symm) (renC trivial (renC trivial (renC trivial (renC trivial renC0))))) ?_
 refine ve 0 35 [(0, .ref 0 0 0 3 (x4.set x3.toNat ({ v8 with fKind := x2 } : T_impl_Value)).length false), (1, I x2), (5, I x3)] [some ⟨0, eL (x4.set x3.toNat ({ v8 with fKind := x2 } : T_impl_Value))⟩] ?_
 refine srve 35 [(0, .ref 0 0 0 3 (x4.set x3.toNat ({ v8 with fKind := x2 } : T_impl_Value)).length false), (1, I (w64 (x2 + 1))), (5, I x3)] [some ⟨0, eL (x4.set x3.toNat ({ v8 with fKind := x2 } : T_impl_Value))⟩] ?_
 refine srv 3 35 [(0, .ref 0 0 0 3 (x4.set x3.toNat ({ v8 with fKind := x2 } : T_impl_Value)).length false), (1, I (w64 (x2 + 1))), (5, I x3), (19, .ref 0 0 0 3 (x4.set x3.toNat ({ v8 with fKind := x2 } : T_impl_Value)).length false), (20, I x3), (21, I (w64 (x2 + 1)))] [some ⟨0, eL (x4.set x3.toNat ({ v8 with fKind := x2 } : T_impl_Value))⟩] ?_
 obtain ⟨v10, hv11, h⟩ := bindS h
 refine opsP_idr τ_ok 22 0 0 (x4.set x3.toNat ({ v8 with fKind := x2 } : T_impl_Value)).length hv11 rfl (by kernel_rfl) ?_
 refine v 1 35 [(0, .ref 0 0 0 3 (x4.set x3.toNat ({ v8 with fKind := x2 } : T_impl_Value)).length false), (1, I (w64 (x2 + 1))), (5, I x3), (21, I (w64 (x2 + 1))), (23, .ptr 0 0 (x3.toNat * 3 + 1))] [some ⟨0, eL (x4.set x3.toNat ({ v8 with fKind := x2 } : T_impl_Value))⟩] ?_
 refine opsP_ste (vs := [I (w64 (x2 + 1))]) τ_ok 3 0 0 1 ({ v10 with fN := (w64 (x2 + 1)) } : T_impl_Value) hv11 (by kernel_rfl) (by kernel_rfl) (by kernel_rfl) (renC (ren_ref (List.length_set ..).symm) (renC trivial (renC trivial (renC trivial (renC trivial renC0))))) ?_
 refine ve 0 35 [(0, .ref 0 0 0 3 ((x4.set x3.toNat ({ v8 with fKind := x2 } : T_impl_Value)).set x3.toNat ({ v10 with fN := (w64 (x2 + 1)) } : T_impl_Value)).length false), (1, I (w64 (x2 + 1))), (5, I x3)] [some ⟨0, eL ((x4.set x3.toNat ({ v8 with fKind := x2 } : T_impl_Value)).set x3.toNat ({ v10 with fN := (w64 (x2 + 1)) } : T_impl_Value))⟩] ?_
 refine srve 35 [(0, .ref 0 0 0 3 ((x4.set x3.toNat ({ v8 with fKind := x2 } : T_impl_Value)).set x3.toNat ({ v10 with fN := (w64 (x2 + 1)) } : T_impl_Value)).length false), (1, I (w64 ((w64 (x2 + 1)) + 1))), (5, I x3)] [some ⟨0, eL ((x4.set x3.toNat ({ v8 with fKind := x2 } : T_impl_Value)).set x3.toNat ({ v10 with fN := (w64 (x2 + 1)) } : T_impl_Value))⟩] ?_
 refine srv 3 35 [(0, .ref 0 0 0 3 ((x4.set x3.toNat ({ v8 with fKind := x2 } : T_impl_Value)).set x3.toNat ({ v10 with fN := (w64 (x2 + 1)) } : T_impl_Value)).length false), (1, I (w64 ((w64 (x2 + 1)) + 1))), (5, I x3), (26, .ref 0 0 0 3 ((x4.set x3.toNat ({ v8 with fKind := x2 } : T_impl_Value)).set x3.toNat ({ v10 with fN := (w64 (x2 + 1)) } : T_impl_Value)).length false), (27, I x3), (28, I (w64 ((w64 (x2 + 1)) + 1)))] [some ⟨0, eL ((x4.set x3.toNat ({ v8 with fKind := x2 } : T_impl_Value)).set x3.toNat ({ v10 with fN := (w64 (x2 + 1)) } : T_impl_Value))⟩] ?_
 obtain ⟨v12, hv13, h⟩ := bindS h
 refine cF 29 (ok_laws_markText hv13) ?_
 obtain ⟨v14, hv15, h⟩ := bindS h
 refine opsP_idr τ_ok 30 0 0 ((x4.set x3.toNat ({ v8 with fKind := x2 } : T_impl_Value)).set x3.toNat ({ v10 with fN := (w64 (x2 + 1)) } : T_impl_Value)).length hv15 rfl (by kernel_rfl) ?_
 refine v 1 35 [(0, .ref 0 0 0 3 ((x4.set x3.toNat ({ v8 with fKind := x2 } : T_impl_Value)).set x3.toNat ({ v10 with fN := (w64 (x2 + 1)) } : T_impl_Value)).length false), (1, I (w64 ((w64 (x2 + 1)) + 1))), (5, I x3), (29, S v12), (31, .ptr 0 0 (x3.toNat * 3 + 2))] [some ⟨0, eL ((x4.set x3.toNat ({ v8 with fKind := x2 } : T_impl_Value)).set x3.toNat ({ v10 with fN := (w64 (x2 + 1)) } : T_impl_Value))⟩] ?_
 refine opsP_ste (vs := [S v12]) τ_ok 9 0 0 2 ({ v14 with fS := v12 } : T_impl_Value) hv15 (by kernel_rfl) (by kernel_rfl) (by kernel_rfl) (renC (ren_ref (List.length_set ..).symm) (renC trivial (renC trivial (renC trivial (renC trivial renC0))))) ?_
 refine ve 0 35 [(0, .ref 0 0 0 3 (((x4.set x3.toNat ({ v8 with fKind := x2 } : T_impl_Value)).set x3.toNat ({ v10 with fN := (w64 (x2 + 1)) } : T_impl_Value)).set x3.toNat ({ v14 with fS := v12 } : T_impl_Value)).length false), (1, I (w64 ((w64 (x2 + 1)) + 1))), (5, I x3)] [some ⟨0, eL (((x4.set x3.toNat ({ v8 with fKind := x2 } : T_impl_Value)).set x3.toNat ({ v10 with fN := (w64 (x2 + 1)) } : T_impl_Value)).set x3.toNat ({ v14 with fS := v12 } : T_impl_Value))⟩] ?_
 refine rve 35 [(0, .ref 0 0 0 3 (((x4.set x3.toNat ({ v8 with fKind := x2 } : T_impl_Value)).set x3.toNat ({ v10 with fN := (w64 (x2 + 1)) } : T_impl_Value)).set x3.toNat ({ v14 with fS := v12 } : T_impl_Value)).length false), (1, I (w64 ((w64 ((w64 (x2 + 1)) + 1)) + 1))), (5, I x3)] [some ⟨0, eL (((x4.set x3.toNat ({ v8 with fKind := x2 } : T_impl_Value)).set x3.toNat ({ v10 with fN := (w64 (x2 + 1)) } : T_impl_Value)).set x3.toNat ({ v14 with fS := v12 } : T_impl_Value))⟩] ?_
 refine rve 35 [(0, .ref 0 0 0 3 (((x4.set x3.toNat ({ v8 with fKind := x2 } : T_impl_Value)).set x3.toNat ({ v10 with fN := (w64 (x2 + 1)) } : T_impl_Value)).set x3.toNat ({ v14 with fS := v12 } : T_impl_Value)).length false), (1, I (w64 ((w64 ((w64 (x2 + 1)) + 1)) + 1))), (5, I (w64 (x3 + 1)))] [some ⟨0, eL (((x4.set x3.toNat ({ v8 with fKind := x2 } : T_impl_Value)).set x3.toNat ({ v10 with fN := (w64 (x2 + 1)) } : T_impl_Value)).set x3.toNat ({ v14 with fS := v12 } : T_impl_Value))⟩] ?_
 exact ⟨(f5, (w64 ((w64 ((w64 (x2 + 1)) + 1)) + 1)), (w64 (x3 + 1)), (((x4.set x3.toNat ({ v8 with fKind := x2 } : T_impl_Value)).set x3.toNat ({ v10 with fN := (w64 (x2 + 1)) } : T_impl_Value)).set x3.toNat ({ v14 with fS := v12 } : T_impl_Value))), h, Nat.lt_succ_self _, it [0, 1, 5]⟩
 refine pwp_exit ?_
 refine srve 35 [(4, I x2)] [sl 0 x4] ?_
 have h := si h
 subst h
 exact pwp_ret ⟨.inr rfl, 0, by kernel_rfl, by kernel_rfl⟩
def laws_markWriteS_l0 : Nat → Int → Int → (List T_impl_Write) → Option (Int × List T_impl_Write)
 | 0, _, _, _ => none
 | f5 + 1, x2, x3, x4 => bif (decide (x3 < (x4.length : Int))) then (getI x4 x3).bind fun v8 => (getI (x4.set x3.toNat ({ v8 with fKey := x2 } : T_impl_Write)) x3).bind fun v10 => (laws_markValueS v10.fRow (w64 (x2 + 1))).bind fun v12 => (getI ((x4.set x3.toNat ({ v8 with fKey := x2 } : T_impl_Write)).set x3.toNat ({ v10 with fRow := v12.2 } : T_impl_Write)) x3).bind fun v14 => (laws_markWriteS_l0 f5) (w64 (v12.1 + 1)) (w64 (x3 + 1)) (((x4.set x3.toNat ({ v8 with fKey := x2 } : T_impl_Write)).set x3.toNat ({ v10 with fRow := v12.2 } : T_impl_Write)).set x3.toNat ({ v14 with fGone := ((v12.1.tmod 3) == 0) } : T_impl_Write)) else some (x2, x4)
def laws_markWriteS (a0 : List T_impl_Write) (a1 : Int) : Option (Int × List T_impl_Write) := laws_markWriteS_l0 FUEL a1 0 a0
theorem len_laws_markWriteS_l0 : ∀ (f5 : Nat) (x2 : Int) (x3 : Int) (x4 : List T_impl_Write) (y : Int × List T_impl_Write), laws_markWriteS_l0 f5 x2 x3 x4 = some y → y.2.length = x4.length
 | 0, _, _, _, _, h => by cases h
 | f5 + 1, x2, x3, x4, y, h => by
  rw [laws_markWriteS_l0] at h
  rcases condS h with h | h
  ·obtain ⟨_, _, h⟩ := bindS h
   obtain ⟨_, _, h⟩ := bindS h
   obtain ⟨_, _, h⟩ := bindS h
   obtain ⟨_, _, h⟩ := bindS h
   have h2 := len_laws_markWriteS_l0 f5 _ _ _ _ h
   simp only [List.length_set] at h2
   exact h2
  ·cases h; rfl
theorem len_laws_markWriteS {a0 : List T_impl_Write} {a1 : Int} {y : Int × List T_impl_Write} (h : laws_markWriteS a0 a1 = some y) : y.2.length = a0.length := by
 unfold laws_markWriteS at h
 exact len_laws_markWriteS_l0 _ _ _ _ _ h
theorem ok_laws_markWriteS {a0 : List T_impl_Write} {a1 : Int} {y : Int × List T_impl_Write} (h : laws_markWriteS a0 a1 = some y) : OKd Try.prog 116 3 a0.length (dL a0) [I a1] (.int .i64 y.1) (dL y.2) := by
 refine OKd_of_pwp τ_ok Try.func116 rfl (by kernel_rfl) rfl (dL_oc _) (dL_oc _) (dL_bl _) (dL_bl _) rfl (fun hl => by rw [dL_len, len_laws_markWriteS h, ← dL_len]; exact hl) fun Γ hQ => ?_
 refine pwp_imp (Imp.to (st' := ⟨36, [(0, rf 0 0 3 a0), (1, I a1)], [some ⟨0, dL a0⟩]⟩) [0, 1] (by kernel_rfl)) ?_
 unfold laws_markWriteS at h
 refine srve 36 [(0, rf 0 0 3 a0), (1, I a1)] [some ⟨0, dL a0⟩] ?_
 refine pwp_seq ?_
 refine srve 36 [(0, rf 0 0 3 a0), (1, I a1), (5, I 0)] [some ⟨0, dL a0⟩] ?_
 refine pwp_block ?_
 refine pwp_loop (ι := Nat × Int × Int × (List T_impl_Write)) (fun (f5, x2, x3, x4) => (⟨36, [(0, rf 0 0 3 x4), (1, I x2), (5, I x3)], [some ⟨0, dL x4⟩]⟩ : St)) (fun (f5, x2, x3, x4) => laws_markWriteS_l0 f5 x2 x3 x4 = some y) Prod.fst (FUEL, a1, 0, a0) h (it [0, 1, 5]) ?_
 rintro ⟨f5, x2, x3, x4⟩ h
 dsimp only at h ⊢
 rcases f5 with _ | f5
 cases h
 rw [laws_markWriteS_l0] at h
 refine pwp_seq ?_
 refine srve 36 [(0, rf 0 0 3 x4), (1, I x2), (5, I x3), (9, B (decide (x3 < (x4.length : Int))))] [some ⟨0, dL x4⟩] ?_
 refine pc h (fun h => ?_) (fun h => ?_)
 refine pwp_skip ?_
 refine pwp_seq ?_
 refine pwp_block ?_
 refine srv 3 36 [(0, rf 0 0 3 x4), (1, I x2), (5, I x3), (12, rf 0 0 3 x4), (13, I x3), (14, I x2)] [some ⟨0, dL x4⟩] ?_
 obtain ⟨v8, hv9, h⟩ := bindS h
 refine opsP_idr τ_ok 15 0 0 x4.length hv9 rfl (by kernel_rfl) ?_
 refine v 1 36 [(0, rf 0 0 3 x4), (1, I x2), (5, I x3), (14, I x2), (16, .ptr 0 0 (x3.toNat * 3))] [some ⟨0, dL x4⟩] ?_
 refine opsP_E (dd := none) (x := .any) (stdl_E (xs := x4) (vs := [I x2]) τ_ok 3 0 0 0 ({ v8 with fKey := x2 } : T_impl_Write) hv9 (by kernel_rfl) (by kernel_rfl) (by kernel_rfl)) ?_
 refine io 36 [(0, rf 0 0 3 x4), (1, I x2), (5, I x3), (14, I x2)] [some ⟨0, dL (x4.set x3.toNat ({ v8 with fKey := x2 } : T_impl_Write))⟩] ?_
 refine opsP_ren (st' := ⟨36, [(0, .ref 0 0 0 3 (x4.set x3.toNat ({ v8 with fKey := x2 } : T_impl_Write)).length false), (1, I x2), (5, I x3), (14, I x2)], [some ⟨0, dL (x4.set x3.toNat ({ v8 with fKey := x2 } : T_impl_Write))⟩]⟩) 0 (x4.set x3.toNat ({ v8 with fKey := x2 } : T_impl_Write)).length (renC (ren_ref (List.length_set ..).symm) (renC trivial (renC trivial (renC trivial renC0)))) (by kernel_rfl) ?_
 refine ve 0 36 [(0, .ref 0 0 0 3 (x4.set x3.toNat ({ v8 with fKey := x2 } : T_impl_Write)).length false), (1, I x2), (5, I x3)] [some ⟨0, dL (x4.set x3.toNat ({ v8 with fKey := x2 } : T_impl_Write))⟩] ?_
 refine srve 36 [(0, .ref 0 0 0 3 (x4.set x3.toNat ({ v8 with fKey := x2 } : T_impl_Write)).length false), (1, I (w64 (x2 + 1))), (5, I x3)] [some ⟨0, dL (x4.set x3.toNat ({ v8 with fKey := x2 } : T_impl_Write))⟩] ?_
 refine srv 2 36 [(0, .ref 0 0 0 3 (x4.set x3.toNat ({ v8 with fKey := x2 } : T_impl_Write)).length false), (1, I (w64 (x2 + 1))), (5, I x3), (19, .ref 0 0 0 3 (x4.set x3.toNat ({ v8 with fKey := x2 } : T_impl_Write)).length false), (20, I x3)] [some ⟨0, dL (x4.set x3.toNat ({ v8 with fKey := x2 } : T_impl_Write))⟩] ?_
 obtain ⟨v10, hv11, h⟩ := bindS h
 refine opsP_idr τ_ok 21 0 0 (x4.set x3.toNat ({ v8 with fKey := x2 } : T_impl_Write)).length hv11 rfl (by kernel_rfl) ?_
 refine v 1 36 [(0, .ref 0 0 0 3 (x4.set x3.toNat ({ v8 with fKey := x2 } : T_impl_Write)).length false), (1, I (w64 (x2 + 1))), (5, I x3), (22, .ptr 0 0 (x3.toNat * 3 + 1))] [some ⟨0, dL (x4.set x3.toNat ({ v8 with fKey := x2 } : T_impl_Write))⟩] ?_
 refine io 36 [(0, .ref 0 0 0 3 (x4.set x3.toNat ({ v8 with fKey := x2 } : T_impl_Write)).length false), (1, I (w64 (x2 + 1))), (5, I x3), (22, .ptr 0 0 (x3.toNat * 3 + 1))] [some ⟨0, dL (x4.set x3.toNat ({ v8 with fKey := x2 } : T_impl_Write))⟩] ?_
 refine opsP_imp (Imp.ghosts 1 (st' := ⟨36, [(0, .ref 0 0 0 3 (x4.set x3.toNat ({ v8 with fKey := x2 } : T_impl_Write)).length false), (1, I (w64 (x2 + 1))), (5, I x3), (22, .ptr 0 0 (x3.toNat * 3 + 1))], [some ⟨0, dL (x4.set x3.toNat ({ v8 with fKey := x2 } : T_impl_Write))⟩, some ⟨0, []⟩]⟩) (by kernel_rfl)) ?_
 refine opsP_E (dd := some 23) (x := rf 1 1 3 v10.fRow) (CoreE.pre (H1 := [some ⟨0, setL (dL (x4.set x3.toNat ({ v8 with fKey := x2 } : T_impl_Write))) (x3.toNat * 3 + 1) [rf 1 1 3 v10.fRow]⟩, sl 1 v10.fRow]) (HStep.openL (cs0 := []) (xs := (x4.set x3.toNat ({ v8 with fKey := x2 } : T_impl_Write))) (s := 3) (n := v10.fRow.length) (f := false) (cs := eL v10.fRow) 0 0 1 0 1 hv11 (by kernel_rfl) (by kernel_rfl) (by kernel_rfl) (by kernel_rfl) (by decide) (by first | exact pn hQ | exact pk hQ) (by kernel_rfl)) (ldo_E (xs := (x4.set x3.toNat ({ v8 with fKey := x2 } : T_impl_Write))) τ_ok 23 128 1 hv11 (by kernel_rfl) (by kernel_rfl) (by kernel_rfl))) ?_
 refine v 1 36 [(0, .ref 0 0 0 3 (x4.set x3.toNat ({ v8 with fKey := x2 } : T_impl_Write)).length false), (5, I x3), (23, rf 1 1 3 v10.fRow), (24, I (w64 (x2 + 1)))] [some ⟨0, setL (dL (x4.set x3.toNat ({ v8 with fKey := x2 } : T_impl_Write))) (x3.toNat * 3 + 1) [rf 1 1 3 v10.fRow]⟩, sl 1 v10.fRow] ?_
 obtain ⟨v12, hv13, h⟩ := bindS h
 refine opsP_E (dd := some 25) (x := I v12.1) ((callD_E τ 25 1 1 (ok_laws_markValueS hv13) (by kernel_rfl)).then (H2 := [some ⟨0, dL ((x4.set x3.toNat ({ v8 with fKey := x2 } : T_impl_Write)).set x3.toNat ({ v10 with fRow := v12.2 } : T_impl_Write))⟩, some ⟨2, []⟩]) (HStep.nestL (xs := (x4.set x3.toNat ({ v8 with fKey := x2 } : T_impl_Write))) (vs := [rf 1 1 3 v10.fRow]) 0 0 1 ({ v10 with fRow := v12.2 } : T_impl_Write) hv11 (by kernel_rfl) (OutL.cons (OutP.listn (v := 1) (xs := v12.2) (len_laws_markValueS hv13) (by kernel_rfl)) (OutL.nil _)) (by decide) (by decide) (by first | exact pn hQ | exact pk hQ) (by kernel_rfl) (by kernel_rfl) (by kernel_rfl) (by kernel_rfl))) ?_
 refine io 36 [(0, .ref 0 0 0 3 (x4.set x3.toNat ({ v8 with fKey := x2 } : T_impl_Write)).length false), (5, I x3), (24, I (w64 (x2 + 1))), (25, I v12.1)] [some ⟨0, dL ((x4.set x3.toNat ({ v8 with fKey := x2 } : T_impl_Write)).set x3.toNat ({ v10 with fRow := v12.2 } : T_impl_Write))⟩, some ⟨2, []⟩] ?_
 refine opsP_ren (st' := ⟨36, [(0, .ref 0 0 0 3 ((x4.set x3.toNat ({ v8 with fKey := x2 } : T_impl_Write)).set x3.toNat ({ v10 with fRow := v12.2 } : T_impl_Write)).length false), (5, I x3), (24, I (w64 (x2 + 1))), (25, I v12.1)], [some ⟨0, dL ((x4.set x3.toNat ({ v8 with fKey := x2 } : T_impl_Write)).set x3.toNat ({ v10 with fRow := v12.2 } : T_impl_Write))⟩, some ⟨2, []⟩]⟩) 0 ((x4.set x3.toNat ({ v8 with fKey := x2 } : T_impl_Write)).set x3.toNat ({ v10 with fRow := v12.2 } : T_impl_Write)).length (renC (ren_ref (List.length_set ..).symm) (renC trivial (renC trivial (renC trivial renC0)))) (by kernel_rfl) ?_
 refine ve 1 36 [(0, .ref 0 0 0 3 ((x4.set x3.toNat ({ v8 with fKey := x2 } : T_impl_Write)).set x3.toNat ({ v10 with fRow := v12.2 } : T_impl_Write)).length false), (1, I v12.1), (5, I x3)] [some ⟨0, dL ((x4.set x3.toNat ({ v8 with fKey := x2 } : T_impl_Write)).set x3.toNat ({ v10 with fRow := v12.2 } : T_impl_Write))⟩, some ⟨2, []⟩] ?_
 refine srv 5 36 [(0, .ref 0 0 0 3 ((x4.set x3.toNat ({ v8 with fKey := x2 } : T_impl_Write)).set x3.toNat ({ v10 with fRow := v12.2 } : T_impl_Write)).length false), (1, I v12.1), (5, I x3), (26, .ref 0 0 0 3 ((x4.set x3.toNat ({ v8 with fKey := x2 } : T_impl_Write)).set x3.toNat ({ v10 with fRow := v12.2 } : T_impl_Write)).length false), (27, I x3), (30, B ((v12.1.tmod 3) == 0))] [some ⟨0, dL ((x4.set x3.toNat ({ v8 with fKey := x2 } : T_impl_Write)).set x3.toNat ({ v10 with fRow := v12.2 } : T_impl_Write))⟩, some ⟨2, []⟩] ?_
 obtain ⟨v14, hv15, h⟩ := bindS h
 refine opsP_idr τ_ok 31 0 0 ((x4.set x3.toNat ({ v8 with fKey := x2 } : T_impl_Write)).set x3.toNat ({ v10 with fRow := v12.2 } : T_impl_Write)).length hv15 rfl (by kernel_rfl) ?_
 refine v 1 36 [(0, .ref 0 0 0 3 ((x4.set x3.toNat ({ v8 with fKey := x2 } : T_impl_Write)).set x3.toNat ({ v10 with fRow := v12.2 } : T_impl_Write)).length false), (1, I v12.1), (5, I x3), (30, B ((v12.1.tmod 3) == 0)), (32, .ptr 0 0 (x3.toNat * 3 + 2))] [some ⟨0, dL ((x4.set x3.toNat ({ v8 with fKey := x2 } : T_impl_Write)).set x3.toNat ({ v10 with fRow := v12.2 } : T_impl_Write))⟩, some ⟨2, []⟩] ?_
 refine opsP_E (dd := none) (x := .any) (stdl_E (xs := ((x4.set x3.toNat ({ v8 with fKey := x2 } : T_impl_Write)).set x3.toNat ({ v10 with fRow := v12.2 } : T_impl_Write))) (vs := [B ((v12.1.tmod 3) == 0)]) τ_ok 4 0 0 2 ({ v14 with fGone := ((v12.1.tmod 3) == 0) } : T_impl_Write) hv15 (by kernel_rfl) (by kernel_rfl) (by kernel_rfl)) ?_
 refine io 36 [(0, .ref 0 0 0 3 ((x4.set x3.toNat ({ v8 with fKey := x2 } : T_impl_Write)).set x3.toNat ({ v10 with fRow := v12.2 } : T_impl_Write)).length false), (1, I v12.1), (5, I x3), (30, B ((v12.1.tmod 3) == 0))] [some ⟨0, dL (((x4.set x3.toNat ({ v8 with fKey := x2 } : T_impl_Write)).set x3.toNat ({ v10 with fRow := v12.2 } : T_impl_Write)).set x3.toNat ({ v14 with fGone := ((v12.1.tmod 3) == 0) } : T_impl_Write))⟩, some ⟨2, []⟩] ?_
 refine opsP_ren (st' := ⟨36, [(0, .ref 0 0 0 3 (((x4.set x3.toNat ({ v8 with fKey := x2 } : T_impl_Write)).set x3.toNat ({ v10 with fRow := v12.2 } : T_impl_Write)).set x3.toNat ({ v14 with fGone := ((v12.1.tmod 3) == 0) } : T_impl_Write)).length false), (1, I v12.1), (5, I x3), (30, B ((v12.1.tmod 3) == 0))], [some ⟨0, dL (((x4.set x3.toNat ({ v8 with fKey := x2 } : T_impl_Write)).set x3.toNat ({ v10 with fRow := v12.2 } : T_impl_Write)).set x3.toNat ({ v14 with fGone := ((v12.1.tmod 3) == 0) } : T_impl_Write))⟩, some ⟨2, []⟩]⟩) 0 (((x4.set x3.toNat ({ v8 with fKey := x2 } : T_impl_Write)).set x3.toNat ({ v10 with fRow := v12.2 } : T_impl_Write)).set x3.toNat ({ v14 with fGone := ((v12.1.tmod 3) == 0) } : T_impl_Write)).length (renC (ren_ref (List.length_set ..).symm) (renC trivial (renC trivial (renC trivial renC0)))) (by kernel_rfl) ?_
 refine ve 0 36 [(0, .ref 0 0 0 3 (((x4.set x3.toNat ({ v8 with fKey := x2 } : T_impl_Write)).set x3.toNat ({ v10 with fRow := v12.2 } : T_impl_Write)).set x3.toNat ({ v14 with fGone := ((v12.1.tmod 3) == 0) } : T_impl_Write)).length false), (1, I v12.1), (5, I x3)] [some ⟨0, dL (((x4.set x3.toNat ({ v8 with fKey := x2 } : T_impl_Write)).set x3.toNat ({ v10 with fRow := v12.2 } : T_impl_Write)).set x3.toNat ({ v14 with fGone := ((v12.1.tmod 3) == 0) } : T_impl_Write))⟩, some ⟨2, []⟩] ?_
 refine rve 36 [(0, .ref 0 0 0 3 (((x4.set x3.toNat ({ v8 with fKey := x2 } : T_impl_Write)).set x3.toNat ({ v10 with fRow := v12.2 } : T_impl_Write)).set x3.toNat ({ v14 with fGone := ((v12.1.tmod 3) == 0) } : T_impl_Write)).length false), (1, I (w64 (v12.1 + 1))), (5, I x3)] [some ⟨0, dL (((x4.set x3.toNat ({ v8 with fKey := x2 } : T_impl_Write)).set x3.toNat ({ v10 with fRow := v12.2 } : T_impl_Write)).set x3.toNat ({ v14 with fGone := ((v12.1.tmod 3) == 0) } : T_impl_Write))⟩, some ⟨2, []⟩] ?_
 refine rve 36 [(0, .ref 0 0 0 3 (((x4.set x3.toNat ({ v8 with fKey := x2 } : T_impl_Write)).set x3.toNat ({ v10 with fRow := v12.2 } : T_impl_Write)).set x3.toNat ({ v14 with fGone := ((v12.1.tmod 3) == 0) } : T_impl_Write)).length false), (1, I (w64 (v12.1 + 1))), (5, I (w64 (x3 + 1)))] [some ⟨0, dL (((x4.set x3.toNat ({ v8 with fKey := x2 } : T_impl_Write)).set x3.toNat ({ v10 with fRow := v12.2 } : T_impl_Write)).set x3.toNat ({ v14 with fGone := ((v12.1.tmod 3) == 0) } : T_impl_Write))⟩, some ⟨2, []⟩] ?_
 exact ⟨(f5, (w64 (v12.1 + 1)), (w64 (x3 + 1)), (((x4.set x3.toNat ({ v8 with fKey := x2 } : T_impl_Write)).set x3.toNat ({ v10 with fRow := v12.2 } : T_impl_Write)).set x3.toNat ({ v14 with fGone := ((v12.1.tmod 3) == 0) } : T_impl_Write))), h, Nat.lt_succ_self _, (it (st' := ⟨36, [(0, .ref 0 0 0 3 (((x4.set x3.toNat ({ v8 with fKey := x2 } : T_impl_Write)).set x3.toNat ({ v10 with fRow := v12.2 } : T_impl_Write)).set x3.toNat ({ v14 with fGone := ((v12.1.tmod 3) == 0) } : T_impl_Write)).length false), (1, I (w64 (v12.1 + 1))), (5, I (w64 (x3 + 1)))], [some ⟨0, dL (((x4.set x3.toNat ({ v8 with fKey := x2 } : T_impl_Write)).set x3.toNat ({ v10 with fRow := v12.2 } : T_impl_Write)).set x3.toNat ({ v14 with fGone := ((v12.1.tmod 3) == 0) } : T_impl_Write))⟩, some ⟨2, []⟩]⟩) [0, 1, 5]).trans (Imp.truncS 1 (pl hQ) (by kernel_rfl) (allBelow_mem (by exact (And.intro rfl (And.intro rfl (And.intro rfl trivial))))) (by exact (And.intro (dL_below _ _) trivial)) (by kernel_rfl))⟩
 refine pwp_exit ?_
 refine srve 36 [(4, I x2)] [some ⟨0, dL x4⟩] ?_
 have h := si h
 subst h
 exact pwp_ret ⟨.inr rfl, 0, by kernel_rfl, by kernel_rfl⟩
def slices_Contains_impl_Edge_impl_Edge (a0 : List T_impl_Edge) (a1 : T_impl_Edge) : Option Bool := (slices_Index_impl_Edge_impl_Edge a0 a1).bind fun v1 => some (decide (v1 ≥ 0))
theorem ok_slices_Contains_impl_Edge_impl_Edge {a0 : List T_impl_Edge} {a1 : T_impl_Edge} {y : Bool} (h : slices_Contains_impl_Edge_impl_Edge a0 a1 = some y) : OK Try.prog 122 [A a0, E a1] (B y) := by
 refine ow Try.func122 fun Γ hX => ?_
 unfold slices_Contains_impl_Edge_impl_Edge at h
 refine srve 9 [(0, A a0), (3, pf a1 0)] [] ?_
 refine srv 2 9 [(5, A a0), (6, E a1)] [] ?_
 obtain ⟨v1, hv2, h⟩ := bindS h
 refine cF 7 (ok_slices_Index_impl_Edge_impl_Edge hv2) ?_
 refine ve 2 9 [(4, B (decide (v1 ≥ 0)))] [] ?_
 cases h
 exact pwp_ret rz
def impl_Value_ok (a0 : T_impl_Value) : Option Bool := bif (a0.fKind == 0) then some (eq_T_impl_Value a0 (T_impl_Value.mk 0 0 (ByteArray.mk #[]))) else bif (a0.fKind == 1) then bif (a0.fS.toList == (ByteArray.mk #[]).toList) then (impl_between a0.fN (-9999) 9999).bind fun v3 => some v3 else some false else bif (a0.fKind == 2) then bif (a0.fN == 0) then bif (decide ((a0.fS.size : Int) ≤ 6)) then (impl_letters a0.fS).bind fun v7 => some v7 else some false else some false else bif (a0.fKind == 3) then bif (a0.fS.toList == (ByteArray.mk #[]).toList) then (impl_between a0.fN 0 1).bind fun v12 => some v12 else some false else some false
theorem ok_impl_Value_ok {a0 : T_impl_Value} {y : Bool} (h : impl_Value_ok a0 = some y) : OK Try.prog 123 [E a0] (B y) := by
 refine ow Try.func123 fun Γ hX => ?_
 unfold impl_Value_ok at h
 refine srve 46 [(1, pf a0 0)] [] ?_
 refine pwp_seq ?_
 refine srve 46 [(1, pf a0 0), (4, I a0.fKind)] [] ?_
 refine pwp_block ?_
 refine srve 46 [(1, pf a0 0), (4, I a0.fKind), (5, B (a0.fKind == 0))] [] ?_
 refine pc h (fun h => ?_) (fun h => ?_)
 refine srve 46 [(2, B (eq_T_impl_Value a0 (T_impl_Value.mk 0 0 (ByteArray.mk #[]))))] [] ?_
 cases h
 exact pwp_ret rz
 refine srve 46 [(1, pf a0 0), (4, I a0.fKind), (10, B (a0.fKind == 1))] [] ?_
 refine pc h (fun h => ?_) (fun h => ?_)
 refine srv 4 46 [(1, pf a0 0), (15, B (a0.fS.toList == (ByteArray.mk #[]).toList))] [] ?_
 rcases fk (a0.fS.toList == (ByteArray.mk #[]).toList) with hc5 | hc5
 replace h := bT hc5 h
 rw [hc5]
 refine v 2 46 [(15, B true), (17, I a0.fN)] [] ?_
 obtain ⟨v3, hv4, h⟩ := bindS h
 refine cF 18 (ok_impl_between hv4) ?_
 refine ve 2 46 [(2, B v3)] [] ?_
 cases h
 exact pwp_ret rz
 replace h := bF hc5 h
 rw [hc5]
 refine ve 5 46 [(2, B false)] [] ?_
 cases h
 exact pwp_ret rz
 refine srve 46 [(1, pf a0 0), (4, I a0.fKind), (20, B (a0.fKind == 2))] [] ?_
 refine pc h (fun h => ?_) (fun h => ?_)
 refine srv 4 46 [(1, pf a0 0), (25, B (a0.fN == 0))] [] ?_
 rcases fk (a0.fN == 0) with hc10 | hc10
 replace h := bT hc10 h
 rw [hc10]
 refine v 6 46 [(1, pf a0 0), (31, B (decide ((a0.fS.size : Int) ≤ 6)))] [] ?_
 rcases fk (decide ((a0.fS.size : Int) ≤ 6)) with hc9 | hc9
 replace h := bT hc9 h
 rw [hc9]
 refine v 2 46 [(31, B true), (33, S a0.fS)] [] ?_
 obtain ⟨v7, hv8, h⟩ := bindS h
 refine cF 34 (ok_impl_letters hv8) ?_
 refine ve 2 46 [(2, B v7)] [] ?_
 cases h
 exact pwp_ret rz
 replace h := bF hc9 h
 rw [hc9]
 refine ve 5 46 [(2, B false)] [] ?_
 cases h
 exact pwp_ret rz
 replace h := bF hc10 h
 rw [hc10]
 refine ve 11 46 [(2, B false)] [] ?_
 cases h
 exact pwp_ret rz
 refine srve 46 [(1, pf a0 0), (36, B (a0.fKind == 3))] [] ?_
 refine pc h (fun h => ?_) (fun h => ?_)
 refine srv 4 46 [(1, pf a0 0), (41, B (a0.fS.toList == (ByteArray.mk #[]).toList))] [] ?_
 rcases fk (a0.fS.toList == (ByteArray.mk #[]).toList) with hc14 | hc14
 replace h := bT hc14 h
 rw [hc14]
 refine v 2 46 [(41, B true), (43, I a0.fN)] [] ?_
 obtain ⟨v12, hv13, h⟩ := bindS h
 refine cF 44 (ok_impl_between hv13) ?_
 refine ve 2 46 [(2, B v12)] [] ?_
 cases h
 exact pwp_ret rz
 replace h := bF hc14 h
 rw [hc14]
 refine ve 5 46 [(2, B false)] [] ?_
 cases h
 exact pwp_ret rz
 refine pwp_skip ?_
 refine srve 46 [(2, B false)] [] ?_
 cases h
 exact pwp_ret rz
def laws_szValueS_l0 (a0 : List T_laws_Value) : Nat → Int → Int → Option Int
 | 0, _, _ => none
 | f4 + 1, x2, x3 => bif (decide (x3 < (a0.length : Int))) then (getI a0 x3).bind fun v7 => (laws_szValue v7 x2).bind fun v9 => bif (decide (v9 < 0)) then some (-1) else (laws_szValueS_l0 a0 f4) v9 (w64 (x3 + 1)) else some x2
def laws_szValueS (a0 : List T_laws_Value) (a1 : Int) : Option Int := bif (decide ((w64 (a1 - (a0.length : Int))) < 0)) then some (-1) else laws_szValueS_l0 a0 FUEL (w64 (a1 - (a0.length : Int))) 0
theorem ok_laws_szValueS {a0 : List T_laws_Value} {a1 : Int} {y : Int} (h : laws_szValueS a0 a1 = some y) : OK Try.prog 151 [A a0, I a1] (I y) := by
 refine ow Try.func151 fun Γ hX => ?_
 unfold laws_szValueS at h
 refine srve 27 [(0, A a0), (1, I a1)] [] ?_
 refine srve 27 [(0, A a0), (1, I (w64 (a1 - (a0.length : Int))))] [] ?_
 refine pwp_seq ?_
 refine srve 27 [(0, A a0), (1, I (w64 (a1 - (a0.length : Int)))), (11, B (decide ((w64 (a1 - (a0.length : Int))) < 0)))] [] ?_
 refine pc h (fun h => ?_) (fun h => ?_)
 refine srve 27 [(4, I (-1))] [] ?_
 cases h
 exact pwp_ret rz
 refine pwp_skip ?_
 refine pwp_seq ?_
 refine srve 27 [(0, A a0), (1, I (w64 (a1 - (a0.length : Int)))), (5, I 0)] [] ?_
 refine pwp_block ?_
 refine pwp_loop (ι := Nat × Int × Int) (fun (f4, x2, x3) => (⟨27, [(0, A a0), (1, I x2), (5, I x3)], []⟩ : St)) (fun (f4, x2, x3) => laws_szValueS_l0 a0 f4 x2 x3 = some y) Prod.fst (FUEL, (w64 (a1 - (a0.length : Int))), 0) h (it [0, 1, 5]) ?_
 rintro ⟨f4, x2, x3⟩ h
 dsimp only at h ⊢
 rcases f4 with _ | f4
 cases h
 rw [laws_szValueS_l0] at h
 refine pwp_seq ?_
 refine srve 27 [(0, A a0), (1, I x2), (5, I x3), (15, B (decide (x3 < (a0.length : Int))))] [] ?_
 refine pc h (fun h => ?_) (fun h => ?_)
 refine pwp_skip ?_
 refine pwp_seq ?_
 refine pwp_block ?_
 refine srv 2 27 [(0, A a0), (1, I x2), (5, I x3), (18, A a0), (19, I x3)] [] ?_
 obtain ⟨v7, hv8, h⟩ := bindS h
 refine opsP_idx τ_ok 20 hv8 (by kernel_rfl) ?_
 refine v 2 27 [(0, A a0), (5, I x3), (21, E v7), (22, I x2)] [] ?_
 obtain ⟨v9, hv10, h⟩ := bindS h
 refine cF 23 (ok_laws_szValue hv10) ?_
 refine ve 1 27 [(0, A a0), (1, I v9), (5, I x3)] [] ?_
 refine srve 27 [(0, A a0), (1, I v9), (5, I x3), (25, B (decide (v9 < 0)))] [] ?_
 refine pc h (fun h => ?_) (fun h => ?_)
 refine srve 27 [(4, I (-1))] [] ?_
 cases h
 exact pwp_ret rz
 refine pwp_skip ?_
 refine rve 27 [(0, A a0), (1, I v9), (5, I (w64 (x3 + 1)))] [] ?_
 exact ⟨(f4, v9, (w64 (x3 + 1))), h, Nat.lt_succ_self _, it [0, 1, 5]⟩
 refine pwp_exit ?_
 refine srve 27 [(4, I x2)] [] ?_
 cases h
 exact pwp_ret rz
def laws_toValueS_l0 (a0 : List T_laws_Value) : Nat → Int → (List T_impl_Value) → Option (List T_impl_Value)
 | 0, _, _ => none
 | f6 + 1, x4, x5 => bif (decide (x4 < (a0.length : Int))) then (getI a0 x4).bind fun v9 => (laws_toValue v9).bind fun v11 => (getI x5 x4).bind fun v13 => (laws_toValueS_l0 a0 f6) (w64 (x4 + 1)) (x5.set x4.toNat v11) else some x5
def laws_toValueS (a0 : List T_laws_Value) : Option (List T_impl_Value) := (mkI (a0.length : Int) (T_impl_Value.mk 0 0 (ByteArray.mk #[]))).bind fun v1 => laws_toValueS_l0 a0 FUEL 0 v1
theorem ok_laws_toValueS {a0 : List T_laws_Value} {y : List T_impl_Value} (h : laws_toValueS a0 = some y) : OK Try.prog 159 [A a0] (O y) := by
 refine ow Try.func159 fun Γ hX => ?_
 unfold laws_toValueS at h
 refine srve 23 [(0, A a0)] [] ?_
 refine srv 2 23 [(0, A a0), (6, I (a0.length : Int))] [] ?_
 obtain ⟨v1, hv2, h⟩ := bindS h
 refine opsP_mk τ_ok 7 0 _ hv2 (by kernel_rfl) (by kernel_rfl) ?_
 refine ve 1 23 [(0, A a0), (3, rf 0 0 3 v1)] [sl 0 v1] ?_
 refine pwp_seq ?_
 refine srve 23 [(0, A a0), (3, rf 0 0 3 v1), (4, I 0)] [sl 0 v1] ?_
 refine pwp_block ?_
 refine pwp_loop (ι := Nat × Int × (List T_impl_Value)) (fun (f6, x4, x5) => (⟨23, [(0, A a0), (3, rf 0 0 3 x5), (4, I x4)], [sl 0 x5]⟩ : St)) (fun (f6, x4, x5) => laws_toValueS_l0 a0 f6 x4 x5 = some y) Prod.fst (FUEL, 0, v1) h (it [0, 3, 4]) ?_
 rintro ⟨f6, x4, x5⟩ h
 dsimp only at h ⊢
 rcases f6 with _ | f6
 cases h
 rw [laws_toValueS_l0] at h
 refine pwp_seq ?_
 refine srve 23 [(0, A a0), (3, rf 0 0 3 x5), (4, I x4), (11, B (decide (x4 < (a0.length : Int))))] [sl 0 x5] ?_
 refine pc h (fun h => ?_) (fun h => ?_)
 refine pwp_skip ?_
 refine pwp_seq ?_
 refine pwp_block ?_
 refine rv 4 23 [(0, A a0), (3, rf 0 0 3 x5), (4, I x4), (14, rf 0 0 3 x5), (15, I x4), (16, A a0), (17, I x4)] [sl 0 x5] ?_
 obtain ⟨v9, hv10, h⟩ := bindS h
 refine opsP_idx τ_ok 18 hv10 (by kernel_rfl) ?_
 refine v 1 23 [(0, A a0), (3, rf 0 0 3 x5), (4, I x4), (14, rf 0 0 3 x5), (15, I x4), (19, E v9)] [sl 0 x5] ?_
 obtain ⟨v11, hv12, h⟩ := bindS h
 refine cF 20 (ok_laws_toValue hv12) ?_
 obtain ⟨v13, hv14, h⟩ := bindS h
 refine opsP_idr τ_ok 21 0 0 x5.length hv14 rfl (by kernel_rfl) ?_
 refine v 0 23 [(0, A a0), (3, rf 0 0 3 x5), (4, I x4), (20, E v11), (21, .ptr 0 0 (x4.toNat * 3))] [sl 0 x5] ?_
 refine opsP_ste (vs := [I v11.fKind, I v11.fN, S v11.fS]) τ_ok 93 0 0 0 v11 hv14 (by kernel_rfl) (by kernel_rfl) (by kernel_rfl) (renC trivial (renC (ren_ref (List.length_set ..).symm) (renC trivial (renC trivial (renC trivial renC0))))) ?_
 refine ve 0 23 [(0, A a0), (3, .ref 0 0 0 3 (x5.set x4.toNat v11).length false), (4, I x4)] [some ⟨0, eL (x5.set x4.toNat v11)⟩] ?_
 refine rve 23 [(0, A a0), (3, .ref 0 0 0 3 (x5.set x4.toNat v11).length false), (4, I (w64 (x4 + 1)))] [some ⟨0, eL (x5.set x4.toNat v11)⟩] ?_
 exact ⟨(f6, (w64 (x4 + 1)), (x5.set x4.toNat v11)), h, Nat.lt_succ_self _, it [0, 3, 4]⟩
 refine pwp_exit ?_
 refine srve 23 [(2, rf 0 0 3 x5)] [sl 0 x5] ?_
 have h := si h
 subst h
 exact pwp_ret (rt (rf 0 0 3 x5) (OutP.list (v := 0) (by kernel_rfl)))
def slices_ContainsFunc_impl_Write_impl_Write (a0 : List T_impl_Write) (a1 : T_impl_Write → Option Bool) : Option Bool := (slices_IndexFunc_impl_Write_impl_Write a0 a1).bind fun v1 => some (decide (v1 ≥ 0))
theorem ok_slices_ContainsFunc_impl_Write_impl_Write {a0 : List T_impl_Write} {g1 : FuncId} {c1 : List V} (hz1 : frzL c1 = true) {a1 : T_impl_Write → Option Bool} (hp1 : ∀ x0 y, a1 x0 = some y → OK Try.prog g1 ([E x0] ++ c1) (B y)) {y : Bool} (h : slices_ContainsFunc_impl_Write_impl_Write a0 a1 = some y) : OK Try.prog 167 [A a0, .fn g1 c1] (B y) := by
 refine ow Try.func167 fun Γ hX => ?_
 unfold slices_ContainsFunc_impl_Write_impl_Write at h
 refine srve 9 [(0, A a0), (1, .fn g1 c1)] [] ?_
 refine srv 2 9 [(5, A a0), (6, .fn g1 c1)] [] ?_
 obtain ⟨v1, hv2, h⟩ := bindS h
 refine opsP_callF τ 7 (ok_slices_IndexFunc_impl_Write_impl_Write (hz1) (hp1) hv2) (FzTo.frz rfl) (by simp only [frzL, frz, hz1, Bool.and_true]) (by kernel_rfl) ?_
 refine ve 2 9 [(4, B (decide (v1 ≥ 0)))] [] ?_
 cases h
 exact pwp_ret rz
def impl_Txn_related_1_1 (a0 : T_impl_Write) (b0 : T_impl_Txn) : Option Bool := (slices_Contains_int_int b0.fReads a0.fKey).bind fun v1 => some v1
theorem ok_impl_Txn_related_1_1 {a0 : T_impl_Write} {b0 : T_impl_Txn} {y : Bool} (h : impl_Txn_related_1_1 a0 b0 = some y) : OK Try.prog 168 [E a0, pf b0 0] (B y) := by
 refine ow Try.func168 fun Γ hX => ?_
 unfold impl_Txn_related_1_1 at h
 refine srve 9 [(1, pf b0 0), (2, pf a0 0)] [] ?_
 refine srv 4 9 [(5, A b0.fReads), (7, I a0.fKey)] [] ?_
 obtain ⟨v1, hv2, h⟩ := bindS h
 refine cF 8 (ok_slices_Contains_int_int hv2) ?_
 refine ve 1 9 [(3, B v1)] [] ?_
 cases h
 exact pwp_ret rz
def laws_eqValueS_l0 (a0 : List T_impl_Value) (a1 : List T_impl_Value) : Nat → Int → Option Bool
 | 0, _ => none
 | f3 + 1, x2 => bif (decide (x2 < (a0.length : Int))) then (getI a0 x2).bind fun v6 => (getI a1 x2).bind fun v8 => (laws_eqValue v6 v8).bind fun v10 => bif (!v10) then some false else (laws_eqValueS_l0 a0 a1 f3) (w64 (x2 + 1)) else some true
def laws_eqValueS (a0 : List T_impl_Value) (a1 : List T_impl_Value) : Option Bool := bif (!((a0.length : Int) == (a1.length : Int))) then some false else laws_eqValueS_l0 a0 a1 FUEL 0
theorem ok_laws_eqValueS {a0 : List T_impl_Value} {a1 : List T_impl_Value} {y : Bool} (h : laws_eqValueS a0 a1 = some y) : OK Try.prog 171 [A a0, A a1] (B y) := by
 refine ow Try.func171 fun Γ hX => ?_
 unfold laws_eqValueS at h
 refine srve 27 [(0, A a0), (1, A a1)] [] ?_
 refine pwp_seq ?_
 refine srve 27 [(0, A a0), (1, A a1), (10, B (!((a0.length : Int) == (a1.length : Int))))] [] ?_
 refine pc h (fun h => ?_) (fun h => ?_)
 refine srve 27 [(4, B false)] [] ?_
 cases h
 exact pwp_ret rz
 refine pwp_skip ?_
 refine pwp_seq ?_
 refine srve 27 [(0, A a0), (1, A a1), (5, I 0)] [] ?_
 refine pwp_block ?_
 refine pwp_loop (ι := Nat × Int) (fun (f3, x2) => (⟨27, [(0, A a0), (1, A a1), (5, I x2)], []⟩ : St)) (fun (f3, x2) => laws_eqValueS_l0 a0 a1 f3 x2 = some y) Prod.fst (FUEL, 0) h (it [0, 1, 5]) ?_
 rintro ⟨f3, x2⟩ h
 dsimp only at h ⊢
 rcases f3 with _ | f3
 cases h
 rw [laws_eqValueS_l0] at h
 refine pwp_seq ?_
 refine srve 27 [(0, A a0), (1, A a1), (5, I x2), (14, B (decide (x2 < (a0.length : Int))))] [] ?_
 refine pc h (fun h => ?_) (fun h => ?_)
 refine pwp_skip ?_
 refine pwp_seq ?_
 refine pwp_block ?_
 refine pwp_seq ?_
 refine ip 27 [(0, A a0), (1, A a1), (5, I x2)] [] ?_
 refine pN 10 ?_
 refine qv [] trivial 2 27 [(18, I x2), (17, A a0), (0, A a0), (1, A a1), (5, I x2)] [] ?_
 obtain ⟨v6, hv7, h⟩ := bindS h
 refine qX (some 19) (pf v6 0) 27 [(19, pf v6 0), (0, A a0), (1, A a1), (5, I x2)] [] (fun Γ' hΓ => CoreE.of_y (idxV_sound τ_ok (by kernel_rfl) hv7)) trivial ?_
 refine qv [] trivial 3 27 [(22, I x2), (21, A a1), (20, E v6), (0, A a0), (1, A a1), (5, I x2)] [] ?_
 obtain ⟨v8, hv9, h⟩ := bindS h
 refine qX (some 23) (pf v8 0) 27 [(23, pf v8 0), (20, E v6), (0, A a0), (1, A a1), (5, I x2)] [] (fun Γ' hΓ => CoreE.of_y (idxV_sound τ_ok (by kernel_rfl) hv9)) trivial ?_
 refine qv [] trivial 1 27 [(24, E v8), (20, E v6), (0, A a0), (1, A a1), (5, I x2)] [] ?_
 obtain ⟨v10, hv11, h⟩ := bindS h
 refine qX (some 25) (B v10) 27 [(25, B v10), (0, A a0), (1, A a1), (5, I x2)] [] (fun Γ' hΓ => CoreE.of_g (callV_sound (τ := τ) (by kernel_rfl) rfl (ok_laws_eqValue hv11) (FzTo.frz rfl))) trivial ?_
 refine qvn [] trivial 1 27 [(0, A a0), (1, A a1), (5, I x2), (26, B (!v10))] [] ?_
 refine pc h (fun h => ?_) (fun h => ?_)
 refine srve 27 [(4, B false)] [] ?_
 cases h
 exact pwp_ret rz
 refine pwp_skip ?_
 refine rve 27 [(0, A a0), (1, A a1), (5, I (w64 (x2 + 1)))] [] ?_
 exact ⟨(f3, (w64 (x2 + 1))), h, Nat.lt_succ_self _, it [0, 1, 5]⟩
 refine pwp_exit ?_
 refine srve 27 [(4, B true)] [] ?_
 cases h
 exact pwp_ret rz
def laws_szWrite (a0 : T_laws_Write) (a1 : Int) : Option Int := (laws_szValueS a0.fRow a1).bind fun v1 => bif (decide (v1 < 0)) then some (-1) else some v1
theorem ok_laws_szWrite {a0 : T_laws_Write} {a1 : Int} {y : Int} (h : laws_szWrite a0 a1 = some y) : OK Try.prog 186 [E a0, I a1] (I y) := by
 refine ow Try.func186 fun Γ hX => ?_
 unfold laws_szWrite at h
 refine srve 12 [(1, I a1), (2, pf a0 0)] [] ?_
 refine srv 3 12 [(6, A a0.fRow), (7, I a1)] [] ?_
 obtain ⟨v1, hv2, h⟩ := bindS h
 refine cF 8 (ok_laws_szValueS hv2) ?_
 refine ve 1 12 [(1, I v1)] [] ?_
 refine pwp_seq ?_
 refine srve 12 [(1, I v1), (10, B (decide (v1 < 0)))] [] ?_
 refine pc h (fun h => ?_) (fun h => ?_)
 refine srve 12 [(4, I (-1))] [] ?_
 cases h
 exact pwp_ret rz
 refine pwp_skip ?_
 refine srve 12 [(4, I v1)] [] ?_
 cases h
 exact pwp_ret rz
def slices_ContainsFunc_impl_Value_impl_Value (a0 : List T_impl_Value) (a1 : T_impl_Value → Option Bool) : Option Bool := (slices_IndexFunc_impl_Value_impl_Value a0 a1).bind fun v1 => some (decide (v1 ≥ 0))
theorem ok_slices_ContainsFunc_impl_Value_impl_Value {a0 : List T_impl_Value} {g1 : FuncId} {c1 : List V} (hz1 : frzL c1 = true) {a1 : T_impl_Value → Option Bool} (hp1 : ∀ x0 y, a1 x0 = some y → OK Try.prog g1 ([E x0] ++ c1) (B y)) {y : Bool} (h : slices_ContainsFunc_impl_Value_impl_Value a0 a1 = some y) : OK Try.prog 190 [A a0, .fn g1 c1] (B y) := by
 refine ow Try.func190 fun Γ hX => ?_
 unfold slices_ContainsFunc_impl_Value_impl_Value at h
 refine srve 9 [(0, A a0), (1, .fn g1 c1)] [] ?_
 refine srv 2 9 [(5, A a0), (6, .fn g1 c1)] [] ?_
 obtain ⟨v1, hv2, h⟩ := bindS h
 refine opsP_callF τ 7 (ok_slices_IndexFunc_impl_Value_impl_Value (hz1) (hp1) hv2) (FzTo.frz rfl) (by simp only [frzL, frz, hz1, Bool.and_true]) (by kernel_rfl) ?_
 refine ve 2 9 [(4, B (decide (v1 ≥ 0)))] [] ?_
 cases h
 exact pwp_ret rz
def impl_RowOk_1 (a0 : T_impl_Value) : Option Bool := (impl_Value_ok a0).bind fun v1 => some (!v1)
theorem ok_impl_RowOk_1 {a0 : T_impl_Value} {y : Bool} (h : impl_RowOk_1 a0 = some y) : OK Try.prog 191 [E a0] (B y) := by
 refine ow Try.func191 fun Γ hX => ?_
 unfold impl_RowOk_1 at h
 refine srve 6 [(1, pf a0 0)] [] ?_
 refine srv 1 6 [(3, E a0)] [] ?_
 obtain ⟨v1, hv2, h⟩ := bindS h
 refine cF 4 (ok_impl_Value_ok hv2) ?_
 refine ve 2 6 [(2, B (!v1))] [] ?_
 cases h
 exact pwp_ret rz
def impl_Txn_write (a0 : T_impl_Txn) (a1 : Int) : Option (T_impl_Write × Bool) := (slices_IndexFunc_impl_Write_impl_Write a0.fWrites (fun z0 => impl_Txn_write_1 z0 a1)).bind fun v1 => bif (decide (v1 < 0)) then some ((T_impl_Write.mk 0 [] false), false) else (getI a0.fWrites v1).bind fun v4 => some (v4, true)
theorem ok_impl_Txn_write {a0 : T_impl_Txn} {a1 : Int} {y : T_impl_Write × Bool} (h : impl_Txn_write a0 a1 = some y) : OK Try.prog 193 [E a0, I a1] (.tup [E y.1, B y.2]) := by
 refine ow Try.func193 fun Γ hX => ?_
 unfold impl_Txn_write at h
 refine srveM [4] 19 [(2, pf a0 0), (3, pf a1 0), (4, .ptr 0 0 0)] [some ⟨0, Enc.cells (T_impl_Write.mk 0 [] false)⟩] ?_
 refine srvM [4] 3 19 [(2, pf a0 0), (4, .ptr 0 0 0), (8, A a0.fWrites), (9, .fn 213 [pf a1 0])] [some ⟨0, Enc.cells (T_impl_Write.mk 0 [] false)⟩] ?_
 obtain ⟨v1, hv2, h⟩ := bindS h
 refine cF 10 (ok_slices_IndexFunc_impl_Write_impl_Write (rfl) (fun _ w hw => ok_impl_Txn_write_1 hw) hv2) ?_
 refine veM [4] 1 19 [(2, pf a0 0), (4, .ptr 0 0 0), (6, I v1)] [some ⟨0, Enc.cells (T_impl_Write.mk 0 [] false)⟩] ?_
 refine pwp_seq ?_
 refine srveM [4] 19 [(2, pf a0 0), (4, .ptr 0 0 0), (6, I v1), (12, B (decide (v1 < 0)))] [some ⟨0, Enc.cells (T_impl_Write.mk 0 [] false)⟩] ?_
 refine pc h (fun h => ?_) (fun h => ?_)
 refine srveM [4] 19 [(4, .ptr 0 0 0), (5, B false)] [some ⟨0, Enc.cells (T_impl_Write.mk 0 [] false)⟩] ?_
 have h := si h
 subst h
 exact pwp_ret (rt (.tup [E (T_impl_Write.mk 0 [] false), B false]) (OutP.tup (OutL.cons (OutP.frz (by kernel_rfl)) (OutL.cons (OutP.frz (by kernel_rfl)) (OutL.nil _)))))
 refine pwp_skip ?_
 refine srvM [4] 3 19 [(4, .ptr 0 0 0), (15, A a0.fWrites), (16, I v1)] [some ⟨0, Enc.cells (T_impl_Write.mk 0 [] false)⟩] ?_
 obtain ⟨v4, hv5, h⟩ := bindS h
 refine opsP_idx τ_ok 17 hv5 (by kernel_rfl) ?_
 refine veM [4] 3 19 [(4, .ptr 0 0 0), (5, B true)] [sc 0 v4] ?_
 have h := si h
 subst h
 exact pwp_ret (rt (.tup [E v4, B true]) (OutP.tup (OutL.cons (OutP.frz (by kernel_rfl)) (OutL.cons (OutP.frz (by kernel_rfl)) (OutL.nil _)))))
def laws_eqWrite (a0 : T_impl_Write) (a1 : T_impl_Write) : Option Bool := bif (!(a0.fKey == a1.fKey)) then some false else (laws_eqValueS a0.fRow a1.fRow).bind fun v2 => bif (!v2) then some false else bif (!(a0.fGone == a1.fGone)) then some false else some true
theorem ok_laws_eqWrite {a0 : T_impl_Write} {a1 : T_impl_Write} {y : Bool} (h : laws_eqWrite a0 a1 = some y) : OK Try.prog 195 [E a0, E a1] (B y) := by
 refine ow Try.func195 fun Γ hX => ?_
 unfold laws_eqWrite at h
 refine srve 21 [(2, pf a0 0), (3, pf a1 0)] [] ?_
 refine pwp_seq ?_
 refine srve 21 [(2, pf a0 0), (3, pf a1 0), (9, B (!(a0.fKey == a1.fKey)))] [] ?_
 refine pc h (fun h => ?_) (fun h => ?_)
 refine srve 21 [(4, B false)] [] ?_
 cases h
 exact pwp_ret rz
 refine pwp_skip ?_
 refine pwp_seq ?_
 refine srv 4 21 [(2, pf a0 0), (3, pf a1 0), (11, A a0.fRow), (13, A a1.fRow)] [] ?_
 obtain ⟨v2, hv3, h⟩ := bindS h
 refine cF 14 (ok_laws_eqValueS hv3) ?_
 refine ve 1 21 [(2, pf a0 0), (3, pf a1 0), (15, B (!v2))] [] ?_
 refine pc h (fun h => ?_) (fun h => ?_)
 refine srve 21 [(4, B false)] [] ?_
 cases h
 exact pwp_ret rz
 refine pwp_skip ?_
 refine pwp_seq ?_
 refine srve 21 [(20, B (!(a0.fGone == a1.fGone)))] [] ?_
 refine pc h (fun h => ?_) (fun h => ?_)
 refine srve 21 [(4, B false)] [] ?_
 cases h
 exact pwp_ret rz
 refine pwp_skip ?_
 refine srve 21 [(4, B true)] [] ?_
 cases h
 exact pwp_ret rz
def spec_ValueOk (a0 : T_impl_Value) : Option Bool := bif (a0.fKind == 0) then bif (a0.fN == 0) then some (a0.fS.toList == (ByteArray.mk #[]).toList) else some false else bif (a0.fKind == 1) then (spec_l1In a0.fN (-9999) 9999).bind fun v4 => bif v4 then some (a0.fS.toList == (ByteArray.mk #[]).toList) else some false else bif (a0.fKind == 2) then bif (a0.fN == 0) then (spec_l1Text a0.fS).bind fun v8 => some v8 else some false else bif (a0.fKind == 3) then (spec_l1In a0.fN 0 1).bind fun v12 => bif v12 then some (a0.fS.toList == (ByteArray.mk #[]).toList) else some false else some false
theorem ok_spec_ValueOk {a0 : T_impl_Value} {y : Bool} (h : spec_ValueOk a0 = some y) : OK Try.prog 211 [E a0] (B y) := by
 refine ow Try.func211 fun Γ hX => ?_
 unfold spec_ValueOk at h
 refine srve 45 [(1, pf a0 0)] [] ?_
 refine pwp_seq ?_
 refine srve 45 [(1, pf a0 0), (4, I a0.fKind)] [] ?_
 refine pwp_block ?_
 refine srve 45 [(1, pf a0 0), (4, I a0.fKind), (5, B (a0.fKind == 0))] [] ?_
 refine pc h (fun h => ?_) (fun h => ?_)
 refine srv 4 45 [(1, pf a0 0), (10, B (a0.fN == 0))] [] ?_
 rcases fk (a0.fN == 0) with hc2 | hc2
 replace h := bT hc2 h
 rw [hc2]
 refine ve 5 45 [(2, B (a0.fS.toList == (ByteArray.mk #[]).toList))] [] ?_
 cases h
 exact pwp_ret rz
 replace h := bF hc2 h
 rw [hc2]
 refine ve 5 45 [(2, B false)] [] ?_
 cases h
 exact pwp_ret rz
 refine srve 45 [(1, pf a0 0), (4, I a0.fKind), (15, B (a0.fKind == 1))] [] ?_
 refine pc h (fun h => ?_) (fun h => ?_)
 refine srv 2 45 [(1, pf a0 0), (18, I a0.fN)] [] ?_
 obtain ⟨v4, hv5, h⟩ := bindS h
 refine cF 19 (ok_spec_l1In hv5) ?_
 refine v 1 45 [(1, pf a0 0), (20, B v4)] [] ?_
 rcases Bool.eq_false_or_eq_true v4 with hc6 | hc6
 replace h := bT hc6 h
 rw [hc6]
 refine ve 5 45 [(2, B (a0.fS.toList == (ByteArray.mk #[]).toList))] [] ?_
 cases h
 exact pwp_ret rz
 replace h := bF hc6 h
 rw [hc6]
 refine ve 5 45 [(2, B false)] [] ?_
 cases h
 exact pwp_ret rz
 refine srve 45 [(1, pf a0 0), (4, I a0.fKind), (25, B (a0.fKind == 2))] [] ?_
 refine pc h (fun h => ?_) (fun h => ?_)
 refine srv 4 45 [(1, pf a0 0), (30, B (a0.fN == 0))] [] ?_
 rcases fk (a0.fN == 0) with hc10 | hc10
 replace h := bT hc10 h
 rw [hc10]
 refine v 2 45 [(30, B true), (32, S a0.fS)] [] ?_
 obtain ⟨v8, hv9, h⟩ := bindS h
 refine cF 33 (ok_spec_l1Text hv9) ?_
 refine ve 2 45 [(2, B v8)] [] ?_
 cases h
 exact pwp_ret rz
 replace h := bF hc10 h
 rw [hc10]
 refine ve 5 45 [(2, B false)] [] ?_
 cases h
 exact pwp_ret rz
 refine srve 45 [(1, pf a0 0), (35, B (a0.fKind == 3))] [] ?_
 refine pc h (fun h => ?_) (fun h => ?_)
 refine srv 2 45 [(1, pf a0 0), (38, I a0.fN)] [] ?_
 obtain ⟨v12, hv13, h⟩ := bindS h
 refine cF 39 (ok_spec_l1In hv13) ?_
 refine v 1 45 [(1, pf a0 0), (40, B v12)] [] ?_
 rcases Bool.eq_false_or_eq_true v12 with hc14 | hc14
 replace h := bT hc14 h
 rw [hc14]
 refine ve 5 45 [(2, B (a0.fS.toList == (ByteArray.mk #[]).toList))] [] ?_
 cases h
 exact pwp_ret rz
 replace h := bF hc14 h
 rw [hc14]
 refine ve 5 45 [(2, B false)] [] ?_
 cases h
 exact pwp_ret rz
 refine pwp_skip ?_
 refine srve 45 [(2, B false)] [] ?_
 cases h
 exact pwp_ret rz
def spec_l15Edge (a0 : T_impl_House) (a1 : Int) (a2 : Int) (a3 : Int) : Option Bool := bif (!(a1 == a2)) then (getI a0.fTxns a1).bind fun v1 => bif (v1.fState == 2) then (getI a0.fTxns a2).bind fun v3 => bif (v3.fState == 2) then (getI a0.fTxns a1).bind fun v5 => (getI a0.fTxns a2).bind fun v7 => (spec_l15Has v5 v7 a3).bind fun v9 => some v9 else some false else some false else some false
theorem ok_spec_l15Edge {a0 : T_impl_House} {a1 : Int} {a2 : Int} {a3 : Int} {y : Bool} (h : spec_l15Edge a0 a1 a2 a3 = some y) : OK Try.prog 51 [E a0, I a1, I a2, I a3] (B y) := by
 refine ow Try.func51 fun Γ hX => ?_
 unfold spec_l15Edge at h
 refine srve 44 [(1, I a1), (2, I a2), (3, I a3), (4, pf a0 0)] [] ?_
 refine pwp_seq ?_
 refine ip 44 [(1, I a1), (2, I a2), (3, I a3), (4, pf a0 0)] [] ?_
 refine pN 36 ?_
 refine qv [] trivial 4 44 [(12, B (!(a1 == a2))), (1, I a1), (2, I a2), (3, I a3), (4, pf a0 0)] [] ?_
 rcases fk (!(a1 == a2)) with hc13 | hc13
 replace h := bT hc13 h
 rw [hc13]
 refine qv [] trivial 3 44 [(15, I a1), (14, A a0.fTxns), (12, B true), (1, I a1), (2, I a2), (3, I a3), (4, pf a0 0)] [] ?_
 obtain ⟨v1, hv2, h⟩ := bindS h
 refine qX (some 16) (pf v1 0) 44 [(16, pf v1 0), (12, B true), (1, I a1), (2, I a2), (3, I a3), (4, pf a0 0)] [] (fun Γ' hΓ => CoreE.of_y (idxV_sound τ_ok (by kernel_rfl) hv2)) trivial ?_
 refine qv [] trivial 5 44 [(21, B (v1.fState == 2)), (1, I a1), (2, I a2), (3, I a3), (4, pf a0 0)] [] ?_
 rcases fk (v1.fState == 2) with hc12 | hc12
 replace h := bT hc12 h
 rw [hc12]
 refine qv [] trivial 3 44 [(24, I a2), (23, A a0.fTxns), (21, B true), (1, I a1), (2, I a2), (3, I a3), (4, pf a0 0)] [] ?_
 obtain ⟨v3, hv4, h⟩ := bindS h
 refine qX (some 25) (pf v3 0) 44 [(25, pf v3 0), (21, B true), (1, I a1), (2, I a2), (3, I a3), (4, pf a0 0)] [] (fun Γ' hΓ => CoreE.of_y (idxV_sound τ_ok (by kernel_rfl) hv4)) trivial ?_
 refine qv [] trivial 5 44 [(30, B (v3.fState == 2)), (1, I a1), (2, I a2), (3, I a3), (4, pf a0 0)] [] ?_
 rcases fk (v3.fState == 2) with hc11 | hc11
 replace h := bT hc11 h
 rw [hc11]
 refine qv [] trivial 3 44 [(33, I a1), (32, A a0.fTxns), (30, B true), (2, I a2), (3, I a3), (4, pf a0 0)] [] ?_
 obtain ⟨v5, hv6, h⟩ := bindS h
 refine qX (some 34) (pf v5 0) 44 [(34, pf v5 0), (30, B true), (2, I a2), (3, I a3), (4, pf a0 0)] [] (fun Γ' hΓ => CoreE.of_y (idxV_sound τ_ok (by kernel_rfl) hv6)) trivial ?_
 refine qv [] trivial 4 44 [(38, I a2), (37, A a0.fTxns), (35, E v5), (30, B true), (3, I a3)] [] ?_
 obtain ⟨v7, hv8, h⟩ := bindS h
 refine qX (some 39) (pf v7 0) 44 [(39, pf v7 0), (35, E v5), (30, B true), (3, I a3)] [] (fun Γ' hΓ => CoreE.of_y (idxV_sound τ_ok (by kernel_rfl) hv8)) trivial ?_
 refine qv [] trivial 2 44 [(41, I a3), (40, E v7), (35, E v5), (30, B true)] [] ?_
 obtain ⟨v9, hv10, h⟩ := bindS h
 refine qX (some 42) (B v9) 44 [(42, B v9), (30, B true)] [] (fun Γ' hΓ => CoreE.of_g (callV_sound (τ := τ) (by kernel_rfl) rfl (ok_spec_l15Has hv10) (FzTo.frz rfl))) trivial ?_
 refine qvn [] trivial 2 44 [(8, B v9)] [] ?_
 cases h
 exact pwp_ret rz
 replace h := bF hc11 h
 rw [hc11]
 refine qvn [] trivial 14 44 [(8, B false)] [] ?_
 cases h
 exact pwp_ret rz
 replace h := bF hc12 h
 rw [hc12]
 refine qvn [] trivial 23 44 [(8, B false)] [] ?_
 cases h
 exact pwp_ret rz
 replace h := bF hc13 h
 rw [hc13]
 refine qvn [] trivial 32 44 [(8, B false)] [] ?_
 cases h
 exact pwp_ret rz
def laws_markVersionS_l0 : Nat → Int → Int → (List T_impl_Version) → Option (Int × List T_impl_Version)
 | 0, _, _, _ => none
 | f5 + 1, x2, x3, x4 => bif (decide (x3 < (x4.length : Int))) then (getI x4 x3).bind fun v8 => (getI (x4.set x3.toNat ({ v8 with fKey := x2 } : T_impl_Version)) x3).bind fun v10 => (getI ((x4.set x3.toNat ({ v8 with fKey := x2 } : T_impl_Version)).set x3.toNat ({ v10 with fBorn := (w64 (x2 + 1)) } : T_impl_Version)) x3).bind fun v12 => (getI (((x4.set x3.toNat ({ v8 with fKey := x2 } : T_impl_Version)).set x3.toNat ({ v10 with fBorn := (w64 (x2 + 1)) } : T_impl_Version)).set x3.toNat ({ v12 with fDied := (w64 ((w64 (x2 + 1)) + 1)) } : T_impl_Version)) x3).bind fun v14 => (laws_markValueS v14.fRow (w64 ((w64 ((w64 (x2 + 1)) + 1)) + 1))).bind fun v16 => (laws_markVersionS_l0 f5) v16.1 (w64 (x3 + 1)) ((((x4.set x3.toNat ({ v8 with fKey := x2 } : T_impl_Version)).set x3.toNat ({ v10 with fBorn := (w64 (x2 + 1)) } : T_impl_Version)).set x3.toNat ({ v12 with fDied := (w64 ((w64 (x2 + 1)) + 1)) } : T_impl_Version)).set x3.toNat ({ v14 with fRow := v16.2 } : T_impl_Version)) else some (x2, x4)
def laws_markVersionS (a0 : List T_impl_Version) (a1 : Int) : Option (Int × List T_impl_Version) := laws_markVersionS_l0 FUEL a1 0 a0
theorem len_laws_markVersionS_l0 : ∀ (f5 : Nat) (x2 : Int) (x3 : Int) (x4 : List T_impl_Version) (y : Int × List T_impl_Version), laws_markVersionS_l0 f5 x2 x3 x4 = some y → y.2.length = x4.length
 | 0, _, _, _, _, h => by cases h
 | f5 + 1, x2, x3, x4, y, h => by
  rw [laws_markVersionS_l0] at h
  rcases condS h with h | h
  ·obtain ⟨_, _, h⟩ := bindS h
   obtain ⟨_, _, h⟩ := bindS h
   obtain ⟨_, _, h⟩ := bindS h
   obtain ⟨_, _, h⟩ := bindS h
   obtain ⟨_, _, h⟩ := bindS h
   have h2 := len_laws_markVersionS_l0 f5 _ _ _ _ h
   simp only [List.length_set] at h2
   exact h2
  ·cases h; rfl
theorem len_laws_markVersionS {a0 : List T_impl_Version} {a1 : Int} {y : Int × List T_impl_Version} (h : laws_markVersionS a0 a1 = some y) : y.2.length = a0.length := by
 unfold laws_markVersionS at h
 exact len_laws_markVersionS_l0 _ _ _ _ _ h
theorem ok_laws_markVersionS {a0 : List T_impl_Version} {a1 : Int} {y : Int × List T_impl_Version} (h : laws_markVersionS a0 a1 = some y) : OKd Try.prog 59 4 a0.length (dL a0) [I a1] (.int .i64 y.1) (dL y.2) := by
 refine OKd_of_pwp τ_ok Try.func59 rfl (by kernel_rfl) rfl (dL_oc _) (dL_oc _) (dL_bl _) (dL_bl _) rfl (fun hl => by rw [dL_len, len_laws_markVersionS h, ← dL_len]; exact hl) fun Γ hQ => ?_
 refine pwp_imp (Imp.to (st' := ⟨41, [(0, rf 0 0 4 a0), (1, I a1)], [some ⟨0, dL a0⟩]⟩) [0, 1] (by kernel_rfl)) ?_
 unfold laws_markVersionS at h
 refine srve 41 [(0, rf 0 0 4 a0), (1, I a1)] [some ⟨0, dL a0⟩] ?_
 refine pwp_seq ?_
 refine srve 41 [(0, rf 0 0 4 a0), (1, I a1), (5, I 0)] [some ⟨0, dL a0⟩] ?_
 refine pwp_block ?_
 refine pwp_loop (ι := Nat × Int × Int × (List T_impl_Version)) (fun (f5, x2, x3, x4) => (⟨41, [(0, rf 0 0 4 x4), (1, I x2), (5, I x3)], [some ⟨0, dL x4⟩]⟩ : St)) (fun (f5, x2, x3, x4) => laws_markVersionS_l0 f5 x2 x3 x4 = some y) Prod.fst (FUEL, a1, 0, a0) h (it [0, 1, 5]) ?_
 rintro ⟨f5, x2, x3, x4⟩ h
 dsimp only at h ⊢
 rcases f5 with _ | f5
 cases h
 rw [laws_markVersionS_l0] at h
 refine pwp_seq ?_
 refine srve 41 [(0, rf 0 0 4 x4), (1, I x2), (5, I x3), (9, B (decide (x3 < (x4.length : Int))))] [some ⟨0, dL x4⟩] ?_
 refine pc h (fun h => ?_) (fun h => ?_)
 refine pwp_skip ?_
 refine pwp_seq ?_
 refine pwp_block ?_
 refine srv 3 41 [(0, rf 0 0 4 x4), (1, I x2), (5, I x3), (12, rf 0 0 4 x4), (13, I x3), (14, I x2)] [some ⟨0, dL x4⟩] ?_
 obtain ⟨v8, hv9, h⟩ := bindS h
 refine opsP_idr τ_ok 15 0 0 x4.length hv9 rfl (by kernel_rfl) ?_
 refine v 1 41 [(0, rf 0 0 4 x4), (1, I x2), (5, I x3), (14, I x2), (16, .ptr 0 0 (x3.toNat * 4))] [some ⟨0, dL x4⟩] ?_
 refine opsP_E (dd := none) (x := .any) (stdl_E (xs := x4) (vs := [I x2]) τ_ok 3 0 0 0 ({ v8 with fKey := x2 } : T_impl_Version) hv9 (by kernel_rfl) (by kernel_rfl) (by kernel_rfl)) ?_
 refine io 41 [(0, rf 0 0 4 x4), (1, I x2), (5, I x3), (14, I x2)] [some ⟨0, dL (x4.set x3.toNat ({ v8 with fKey := x2 } : T_impl_Version))⟩] ?_
 refine opsP_ren (st' := ⟨41, [(0, .ref 0 0 0 4 (x4.set x3.toNat ({ v8 with fKey := x2 } : T_impl_Version)).length false), (1, I x2), (5, I x3), (14, I x2)], [some ⟨0, dL (x4.set x3.toNat ({ v8 with fKey := x2 } : T_impl_Version))⟩]⟩) 0 (x4.set x3.toNat ({ v8 with fKey := x2 } : T_impl_Version)).length (renC (ren_ref (List.length_set ..).symm) (renC trivial (renC trivial (renC trivial renC0)))) (by kernel_rfl) ?_
 refine ve 0 41 [(0, .ref 0 0 0 4 (x4.set x3.toNat ({ v8 with fKey := x2 } : T_impl_Version)).length false), (1, I x2), (5, I x3)] [some ⟨0, dL (x4.set x3.toNat ({ v8 with fKey := x2 } : T_impl_Version))⟩] ?_
 refine srve 41 [(0, .ref 0 0 0 4 (x4.set x3.toNat ({ v8 with fKey := x2 } : T_impl_Version)).length false), (1, I (w64 (x2 + 1))), (5, I x3)] [some ⟨0, dL (x4.set x3.toNat ({ v8 with fKey := x2 } : T_impl_Version))⟩] ?_
 refine srv 3 41 [(0, .ref 0 0 0 4 (x4.set x3.toNat ({ v8 with fKey := x2 } : T_impl_Version)).length false), (1, I (w64 (x2 + 1))), (5, I x3), (19, .ref 0 0 0 4 (x4.set x3.toNat ({ v8 with fKey := x2 } : T_impl_Version)).length false), (20, I x3), (21, I (w64 (x2 + 1)))] [some ⟨0, dL (x4.set x3.toNat ({ v8 with fKey := x2 } : T_impl_Version))⟩] ?_
 obtain ⟨v10, hv11, h⟩ := bindS h
 refine opsP_idr τ_ok 22 0 0 (x4.set x3.toNat ({ v8 with fKey := x2 } : T_impl_Version)).length hv11 rfl (by kernel_rfl) ?_
 refine v 1 41 [(0, .ref 0 0 0 4 (x4.set x3.toNat ({ v8 with fKey := x2 } : T_impl_Version)).length false), (1, I (w64 (x2 + 1))), (5, I x3), (21, I (w64 (x2 + 1))), (23, .ptr 0 0 (x3.toNat * 4 + 1))] [some ⟨0, dL (x4.set x3.toNat ({ v8 with fKey := x2 } : T_impl_Version))⟩] ?_
 refine opsP_E (dd := none) (x := .any) (stdl_E (xs := (x4.set x3.toNat ({ v8 with fKey := x2 } : T_impl_Version))) (vs := [I (w64 (x2 + 1))]) τ_ok 3 0 0 1 ({ v10 with fBorn := (w64 (x2 + 1)) } : T_impl_Version) hv11 (by kernel_rfl) (by kernel_rfl) (by kernel_rfl)) ?_
 refine io 41 [(0, .ref 0 0 0 4 (x4.set x3.toNat ({ v8 with fKey := x2 } : T_impl_Version)).length false), (1, I (w64 (x2 + 1))), (5, I x3), (21, I (w64 (x2 + 1)))] [some ⟨0, dL ((x4.set x3.toNat ({ v8 with fKey := x2 } : T_impl_Version)).set x3.toNat ({ v10 with fBorn := (w64 (x2 + 1)) } : T_impl_Version))⟩] ?_
 refine opsP_ren (st' := ⟨41, [(0, .ref 0 0 0 4 ((x4.set x3.toNat ({ v8 with fKey := x2 } : T_impl_Version)).set x3.toNat ({ v10 with fBorn := (w64 (x2 + 1)) } : T_impl_Version)).length false), (1, I (w64 (x2 + 1))), (5, I x3), (21, I (w64 (x2 + 1)))], [some ⟨0, dL ((x4.set x3.toNat ({ v8 with fKey := x2 } : T_impl_Version)).set x3.toNat ({ v10 with fBorn := (w64 (x2 + 1)) } : T_impl_Version))⟩]⟩) 0 ((x4.set x3.toNat ({ v8 with fKey := x2 } : T_impl_Version)).set x3.toNat ({ v10 with fBorn := (w64 (x2 + 1)) } : T_impl_Version)).length (renC (ren_ref (List.length_set ..).symm) (renC trivial (renC trivial (renC trivial renC0)))) (by kernel_rfl) ?_
 refine ve 0 41 [(0, .ref 0 0 0 4 ((x4.set x3.toNat ({ v8 with fKey := x2 } : T_impl_Version)).set x3.toNat ({ v10 with fBorn := (w64 (x2 + 1)) } : T_impl_Version)).length false), (1, I (w64 (x2 + 1))), (5, I x3)] [some ⟨0, dL ((x4.set x3.toNat ({ v8 with fKey := x2 } : T_impl_Version)).set x3.toNat ({ v10 with fBorn := (w64 (x2 + 1)) } : T_impl_Version))⟩] ?_
 refine srve 41 [(0, .ref 0 0 0 4 ((x4.set x3.toNat ({ v8 with fKey := x2 } : T_impl_Version)).set x3.toNat ({ v10 with fBorn := (w64 (x2 + 1)) } : T_impl_Version)).length false), (1, I (w64 ((w64 (x2 + 1)) + 1))), (5, I x3)] [some ⟨0, dL ((x4.set x3.toNat ({ v8 with fKey := x2 } : T_impl_Version)).set x3.toNat ({ v10 with fBorn := (w64 (x2 + 1)) } : T_impl_Version))⟩] ?_
 refine srv 3 41 [(0, .ref 0 0 0 4 ((x4.set x3.toNat ({ v8 with fKey := x2 } : T_impl_Version)).set x3.toNat ({ v10 with fBorn := (w64 (x2 + 1)) } : T_impl_Version)).length false), (1, I (w64 ((w64 (x2 + 1)) + 1))), (5, I x3), (26, .ref 0 0 0 4 ((x4.set x3.toNat ({ v8 with fKey := x2 } : T_impl_Version)).set x3.toNat ({ v10 with fBorn := (w64 (x2 + 1)) } : T_impl_Version)).length false), (27, I x3), (28, I (w64 ((w64 (x2 + 1)) + 1)))] [some ⟨0, dL ((x4.set x3.toNat ({ v8 with fKey := x2 } : T_impl_Version)).set x3.toNat ({ v10 with fBorn := (w64 (x2 + 1)) } : T_impl_Version))⟩] ?_
 obtain ⟨v12, hv13, h⟩ := bindS h
 refine opsP_idr τ_ok 29 0 0 ((x4.set x3.toNat ({ v8 with fKey := x2 } : T_impl_Version)).set x3.toNat ({ v10 with fBorn := (w64 (x2 + 1)) } : T_impl_Version)).length hv13 rfl (by kernel_rfl) ?_
 refine v 1 41 [(0, .ref 0 0 0 4 ((x4.set x3.toNat ({ v8 with fKey := x2 } : T_impl_Version)).set x3.toNat ({ v10 with fBorn := (w64 (x2 + 1)) } : T_impl_Version)).length false), (1, I (w64 ((w64 (x2 + 1)) + 1))), (5, I x3), (28, I (w64 ((w64 (x2 + 1)) + 1))), (30, .ptr 0 0 (x3.toNat * 4 + 2))] [some ⟨0, dL ((x4.set x3.toNat ({ v8 with fKey := x2 } : T_impl_Version)).set x3.toNat ({ v10 with fBorn := (w64 (x2 + 1)) } : T_impl_Version))⟩] ?_
 refine opsP_E (dd := none) (x := .any) (stdl_E (xs := ((x4.set x3.toNat ({ v8 with fKey := x2 } : T_impl_Version)).set x3.toNat ({ v10 with fBorn := (w64 (x2 + 1)) } : T_impl_Version))) (vs := [I (w64 ((w64 (x2 + 1)) + 1))]) τ_ok 3 0 0 2 ({ v12 with fDied := (w64 ((w64 (x2 + 1)) + 1)) } : T_impl_Version) hv13 (by kernel_rfl) (by kernel_rfl) (by kernel_rfl)) ?_
 refine io 41 [(0, .ref 0 0 0 4 ((x4.set x3.toNat ({ v8 with fKey := x2 } : T_impl_Version)).set x3.toNat ({ v10 with fBorn := (w64 (x2 + 1)) } : T_impl_Version)).length false), (1, I (w64 ((w64 (x2 + 1)) + 1))), (5, I x3), (28, I (w64 ((w64 (x2 + 1)) + 1)))] [some ⟨0, dL (((x4.set x3.toNat ({ v8 with fKey := x2 } : T_impl_Version)).set x3.toNat ({ v10 with fBorn := (w64 (x2 + 1)) } : T_impl_Version)).set x3.toNat ({ v12 with fDied := (w64 ((w64 (x2 + 1)) + 1)) } : T_impl_Version))⟩] ?_
 refine opsP_ren (st' := ⟨41, [(0, .ref 0 0 0 4 (((x4.set x3.toNat ({ v8 with fKey := x2 } : T_impl_Version)).set x3.toNat ({ v10 with fBorn := (w64 (x2 + 1)) } : T_impl_Version)).set x3.toNat ({ v12 with fDied := (w64 ((w64 (x2 + 1)) + 1)) } : T_impl_Version)).length false), (1, I (w64 ((w64 (x2 + 1)) + 1))), (5, I x3), (28, I (w64 ((w64 (x2 + 1)) + 1)))], [some ⟨0, dL (((x4.set x3.toNat ({ v8 with fKey := x2 } : T_impl_Version)).set x3.toNat ({ v10 with fBorn := (w64 (x2 + 1)) } : T_impl_Version)).set x3.toNat ({ v12 with fDied := (w64 ((w64 (x2 + 1)) + 1)) } : T_impl_Version))⟩]⟩) 0 (((x4.set x3.toNat ({ v8 with fKey := x2 } : T_impl_Version)).set x3.toNat ({ v10 with fBorn := (w64 (x2 + 1)) } : T_impl_Version)).set x3.toNat ({ v12 with fDied := (w64 ((w64 (x2 + 1)) + 1)) } : T_impl_Version)).length (renC (ren_ref (List.length_set ..).symm) (renC trivial (renC trivial (renC trivial renC0)))) (by kernel_rfl) ?_
 refine ve 0 41 [(0, .ref 0 0 0 4 (((x4.set x3.toNat ({ v8 with fKey := x2 } : T_impl_Version)).set x3.toNat ({ v10 with fBorn := (w64 (x2 + 1)) } : T_impl_Version)).set x3.toNat ({ v12 with fDied := (w64 ((w64 (x2 + 1)) + 1)) } : T_impl_Version)).length false), (1, I (w64 ((w64 (x2 + 1)) + 1))), (5, I x3)] [some ⟨0, dL (((x4.set x3.toNat ({ v8 with fKey := x2 } : T_impl_Version)).set x3.toNat ({ v10 with fBorn := (w64 (x2 + 1)) } : T_impl_Version)).set x3.toNat ({ v12 with fDied := (w64 ((w64 (x2 + 1)) + 1)) } : T_impl_Version))⟩] ?_
 refine srve 41 [(0, .ref 0 0 0 4 (((x4.set x3.toNat ({ v8 with fKey := x2 } : T_impl_Version)).set x3.toNat ({ v10 with fBorn := (w64 (x2 + 1)) } : T_impl_Version)).set x3.toNat ({ v12 with fDied := (w64 ((w64 (x2 + 1)) + 1)) } : T_impl_Version)).length false), (1, I (w64 ((w64 ((w64 (x2 + 1)) + 1)) + 1))), (5, I x3)] [some ⟨0, dL (((x4.set x3.toNat ({ v8 with fKey := x2 } : T_impl_Version)).set x3.toNat ({ v10 with fBorn := (w64 (x2 + 1)) } : T_impl_Version)).set x3.toNat ({ v12 with fDied := (w64 ((w64 (x2 + 1)) + 1)) } : T_impl_Version))⟩] ?_
 refine rv 2 41 [(0, .ref 0 0 0 4 (((x4.set x3.toNat ({ v8 with fKey := x2 } : T_impl_Version)).set x3.toNat ({ v10 with fBorn := (w64 (x2 + 1)) } : T_impl_Version)).set x3.toNat ({ v12 with fDied := (w64 ((w64 (x2 + 1)) + 1)) } : T_impl_Version)).length false), (1, I (w64 ((w64 ((w64 (x2 + 1)) + 1)) + 1))), (5, I x3), (33, .ref 0 0 0 4 (((x4.set x3.toNat ({ v8 with fKey := x2 } : T_impl_Version)).set x3.toNat ({ v10 with fBorn := (w64 (x2 + 1)) } : T_impl_Version)).set x3.toNat ({ v12 with fDied := (w64 ((w64 (x2 + 1)) + 1)) } : T_impl_Version)).length false), (34, I x3)] [some ⟨0, dL (((x4.set x3.toNat ({ v8 with fKey := x2 } : T_impl_Version)).set x3.toNat ({ v10 with fBorn := (w64 (x2 + 1)) } : T_impl_Version)).set x3.toNat ({ v12 with fDied := (w64 ((w64 (x2 + 1)) + 1)) } : T_impl_Version))⟩] ?_
 obtain ⟨v14, hv15, h⟩ := bindS h
 refine opsP_idr τ_ok 35 0 0 (((x4.set x3.toNat ({ v8 with fKey := x2 } : T_impl_Version)).set x3.toNat ({ v10 with fBorn := (w64 (x2 + 1)) } : T_impl_Version)).set x3.toNat ({ v12 with fDied := (w64 ((w64 (x2 + 1)) + 1)) } : T_impl_Version)).length hv15 rfl (by kernel_rfl) ?_
 refine v 1 41 [(0, .ref 0 0 0 4 (((x4.set x3.toNat ({ v8 with fKey := x2 } : T_impl_Version)).set x3.toNat ({ v10 with fBorn := (w64 (x2 + 1)) } : T_impl_Version)).set x3.toNat ({ v12 with fDied := (w64 ((w64 (x2 + 1)) + 1)) } : T_impl_Version)).length false), (1, I (w64 ((w64 ((w64 (x2 + 1)) + 1)) + 1))), (5, I x3), (36, .ptr 0 0 (x3.toNat * 4 + 3))] [some ⟨0, dL (((x4.set x3.toNat ({ v8 with fKey := x2 } : T_impl_Version)).set x3.toNat ({ v10 with fBorn := (w64 (x2 + 1)) } : T_impl_Version)).set x3.toNat ({ v12 with fDied := (w64 ((w64 (x2 + 1)) + 1)) } : T_impl_Version))⟩] ?_
 refine io 41 [(0, .ref 0 0 0 4 (((x4.set x3.toNat ({ v8 with fKey := x2 } : T_impl_Version)).set x3.toNat ({ v10 with fBorn := (w64 (x2 + 1)) } : T_impl_Version)).set x3.toNat ({ v12 with fDied := (w64 ((w64 (x2 + 1)) + 1)) } : T_impl_Version)).length false), (1, I (w64 ((w64 ((w64 (x2 + 1)) + 1)) + 1))), (5, I x3), (36, .ptr 0 0 (x3.toNat * 4 + 3))] [some ⟨0, dL (((x4.set x3.toNat ({ v8 with fKey := x2 } : T_impl_Version)).set x3.toNat ({ v10 with fBorn := (w64 (x2 + 1)) } : T_impl_Version)).set x3.toNat ({ v12 with fDied := (w64 ((w64 (x2 + 1)) + 1)) } : T_impl_Version))⟩] ?_
 refine opsP_imp (Imp.ghosts 1 (st' := ⟨41, [(0, .ref 0 0 0 4 (((x4.set x3.toNat ({ v8 with fKey := x2 } : T_impl_Version)).set x3.toNat ({ v10 with fBorn := (w64 (x2 + 1)) } : T_impl_Version)).set x3.toNat ({ v12 with fDied := (w64 ((w64 (x2 + 1)) + 1)) } : T_impl_Version)).length false), (1, I (w64 ((w64 ((w64 (x2 + 1)) + 1)) + 1))), (5, I x3), (36, .ptr 0 0 (x3.toNat * 4 + 3))], [some ⟨0, dL (((x4.set x3.toNat ({ v8 with fKey := x2 } : T_impl_Version)).set x3.toNat ({ v10 with fBorn := (w64 (x2 + 1)) } : T_impl_Version)).set x3.toNat ({ v12 with fDied := (w64 ((w64 (x2 + 1)) + 1)) } : T_impl_Version))⟩, some ⟨0, []⟩]⟩) (by kernel_rfl)) ?_
 refine opsP_E (dd := some 37) (x := rf 1 1 3 v14.fRow) (CoreE.pre (H1 := [some ⟨0, setL (dL (((x4.set x3.toNat ({ v8 with fKey := x2 } : T_impl_Version)).set x3.toNat ({ v10 with fBorn := (w64 (x2 + 1)) } : T_impl_Version)).set x3.toNat ({ v12 with fDied := (w64 ((w64 (x2 + 1)) + 1)) } : T_impl_Version))) (x3.toNat * 4 + 3) [rf 1 1 3 v14.fRow]⟩, sl 1 v14.fRow]) (HStep.openL (cs0 := []) (xs := (((x4.set x3.toNat ({ v8 with fKey := x2 } : T_impl_Version)).set x3.toNat ({ v10 with fBorn := (w64 (x2 + 1)) } : T_impl_Version)).set x3.toNat ({ v12 with fDied := (w64 ((w64 (x2 + 1)) + 1)) } : T_impl_Version))) (s := 3) (n := v14.fRow.length) (f := false) (cs := eL v14.fRow) 0 0 1 0 3 hv15 (by kernel_rfl) (by kernel_rfl) (by kernel_rfl) (by kernel_rfl) (by decide) (by first | exact pn hQ | exact pk hQ) (by kernel_rfl)) (ldo_E (xs := (((x4.set x3.toNat ({ v8 with fKey := x2 } : T_impl_Version)).set x3.toNat ({ v10 with fBorn := (w64 (x2 + 1)) } : T_impl_Version)).set x3.toNat ({ v12 with fDied := (w64 ((w64 (x2 + 1)) + 1)) } : T_impl_Version))) τ_ok 37 128 3 hv15 (by kernel_rfl) (by kernel_rfl) (by kernel_rfl))) ?_
 refine v 1 41 [(0, .ref 0 0 0 4 (((x4.set x3.toNat ({ v8 with fKey := x2 } : T_impl_Version)).set x3.toNat ({ v10 with fBorn := (w64 (x2 + 1)) } : T_impl_Version)).set x3.toNat ({ v12 with fDied := (w64 ((w64 (x2 + 1)) + 1)) } : T_impl_Version)).length false), (5, I x3), (37, rf 1 1 3 v14.fRow), (38, I (w64 ((w64 ((w64 (x2 + 1)) + 1)) + 1)))] [some ⟨0, setL (dL (((x4.set x3.toNat ({ v8 with fKey := x2 } : T_impl_Version)).set x3.toNat ({ v10 with fBorn := (w64 (x2 + 1)) } : T_impl_Version)).set x3.toNat ({ v12 with fDied := (w64 ((w64 (x2 + 1)) + 1)) } : T_impl_Version))) (x3.toNat * 4 + 3) [rf 1 1 3 v14.fRow]⟩, sl 1 v14.fRow] ?_
 obtain ⟨v16, hv17, h⟩ := bindS h
 refine opsP_E (dd := some 39) (x := I v16.1) ((callD_E τ 39 1 1 (ok_laws_markValueS hv17) (by kernel_rfl)).then (H2 := [some ⟨0, dL ((((x4.set x3.toNat ({ v8 with fKey := x2 } : T_impl_Version)).set x3.toNat ({ v10 with fBorn := (w64 (x2 + 1)) } : T_impl_Version)).set x3.toNat ({ v12 with fDied := (w64 ((w64 (x2 + 1)) + 1)) } : T_impl_Version)).set x3.toNat ({ v14 with fRow := v16.2 } : T_impl_Version))⟩, some ⟨2, []⟩]) (HStep.nestL (xs := (((x4.set x3.toNat ({ v8 with fKey := x2 } : T_impl_Version)).set x3.toNat ({ v10 with fBorn := (w64 (x2 + 1)) } : T_impl_Version)).set x3.toNat ({ v12 with fDied := (w64 ((w64 (x2 + 1)) + 1)) } : T_impl_Version))) (vs := [rf 1 1 3 v14.fRow]) 0 0 3 ({ v14 with fRow := v16.2 } : T_impl_Version) hv15 (by kernel_rfl) (OutL.cons (OutP.listn (v := 1) (xs := v16.2) (len_laws_markValueS hv17) (by kernel_rfl)) (OutL.nil _)) (by decide) (by decide) (by first | exact pn hQ | exact pk hQ) (by kernel_rfl) (by kernel_rfl) (by kernel_rfl) (by kernel_rfl))) ?_
 refine io 41 [(0, .ref 0 0 0 4 (((x4.set x3.toNat ({ v8 with fKey := x2 } : T_impl_Version)).set x3.toNat ({ v10 with fBorn := (w64 (x2 + 1)) } : T_impl_Version)).set x3.toNat ({ v12 with fDied := (w64 ((w64 (x2 + 1)) + 1)) } : T_impl_Version)).length false), (5, I x3), (38, I (w64 ((w64 ((w64 (x2 + 1)) + 1)) + 1))), (39, I v16.1)] [some ⟨0, dL ((((x4.set x3.toNat ({ v8 with fKey := x2 } : T_impl_Version)).set x3.toNat ({ v10 with fBorn := (w64 (x2 + 1)) } : T_impl_Version)).set x3.toNat ({ v12 with fDied := (w64 ((w64 (x2 + 1)) + 1)) } : T_impl_Version)).set x3.toNat ({ v14 with fRow := v16.2 } : T_impl_Version))⟩, some ⟨2, []⟩] ?_
 refine opsP_ren (st' := ⟨41, [(0, .ref 0 0 0 4 ((((x4.set x3.toNat ({ v8 with fKey := x2 } : T_impl_Version)).set x3.toNat ({ v10 with fBorn := (w64 (x2 + 1)) } : T_impl_Version)).set x3.toNat ({ v12 with fDied := (w64 ((w64 (x2 + 1)) + 1)) } : T_impl_Version)).set x3.toNat ({ v14 with fRow := v16.2 } : T_impl_Version)).length false), (5, I x3), (38, I (w64 ((w64 ((w64 (x2 + 1)) + 1)) + 1))), (39, I v16.1)], [some ⟨0, dL ((((x4.set x3.toNat ({ v8 with fKey := x2 } : T_impl_Version)).set x3.toNat ({ v10 with fBorn := (w64 (x2 + 1)) } : T_impl_Version)).set x3.toNat ({ v12 with fDied := (w64 ((w64 (x2 + 1)) + 1)) } : T_impl_Version)).set x3.toNat ({ v14 with fRow := v16.2 } : T_impl_Version))⟩, some ⟨2, []⟩]⟩) 0 ((((x4.set x3.toNat ({ v8 with fKey := x2 } : T_impl_Version)).set x3.toNat ({ v10 with fBorn := (w64 (x2 + 1)) } : T_impl_Version)).set x3.toNat ({ v12 with fDied := (w64 ((w64 (x2 + 1)) + 1)) } : T_impl_Version)).set x3.toNat ({ v14 with fRow := v16.2 } : T_impl_Version)).length (renC (ren_ref (List.length_set ..).symm) (renC trivial (renC trivial (renC trivial renC0)))) (by kernel_rfl) ?_
 refine ve 1 41 [(0, .ref 0 0 0 4 ((((x4.set x3.toNat ({ v8 with fKey := x2 } : T_impl_Version)).set x3.toNat ({ v10 with fBorn := (w64 (x2 + 1)) } : T_impl_Version)).set x3.toNat ({ v12 with fDied := (w64 ((w64 (x2 + 1)) + 1)) } : T_impl_Version)).set x3.toNat ({ v14 with fRow := v16.2 } : T_impl_Version)).length false), (1, I v16.1), (5, I x3)] [some ⟨0, dL ((((x4.set x3.toNat ({ v8 with fKey := x2 } : T_impl_Version)).set x3.toNat ({ v10 with fBorn := (w64 (x2 + 1)) } : T_impl_Version)).set x3.toNat ({ v12 with fDied := (w64 ((w64 (x2 + 1)) + 1)) } : T_impl_Version)).set x3.toNat ({ v14 with fRow := v16.2 } : T_impl_Version))⟩, some ⟨2, []⟩] ?_
 refine rve 41 [(0, .ref 0 0 0 4 ((((x4.set x3.toNat ({ v8 with fKey := x2 } : T_impl_Version)).set x3.toNat ({ v10 with fBorn := (w64 (x2 + 1)) } : T_impl_Version)).set x3.toNat ({ v12 with fDied := (w64 ((w64 (x2 + 1)) + 1)) } : T_impl_Version)).set x3.toNat ({ v14 with fRow := v16.2 } : T_impl_Version)).length false), (1, I v16.1), (5, I (w64 (x3 + 1)))] [some ⟨0, dL ((((x4.set x3.toNat ({ v8 with fKey := x2 } : T_impl_Version)).set x3.toNat ({ v10 with fBorn := (w64 (x2 + 1)) } : T_impl_Version)).set x3.toNat ({ v12 with fDied := (w64 ((w64 (x2 + 1)) + 1)) } : T_impl_Version)).set x3.toNat ({ v14 with fRow := v16.2 } : T_impl_Version))⟩, some ⟨2, []⟩] ?_
 exact ⟨(f5, v16.1, (w64 (x3 + 1)), ((((x4.set x3.toNat ({ v8 with fKey := x2 } : T_impl_Version)).set x3.toNat ({ v10 with fBorn := (w64 (x2 + 1)) } : T_impl_Version)).set x3.toNat ({ v12 with fDied := (w64 ((w64 (x2 + 1)) + 1)) } : T_impl_Version)).set x3.toNat ({ v14 with fRow := v16.2 } : T_impl_Version))), h, Nat.lt_succ_self _, (it (st' := ⟨41, [(0, .ref 0 0 0 4 ((((x4.set x3.toNat ({ v8 with fKey := x2 } : T_impl_Version)).set x3.toNat ({ v10 with fBorn := (w64 (x2 + 1)) } : T_impl_Version)).set x3.toNat ({ v12 with fDied := (w64 ((w64 (x2 + 1)) + 1)) } : T_impl_Version)).set x3.toNat ({ v14 with fRow := v16.2 } : T_impl_Version)).length false), (1, I v16.1), (5, I (w64 (x3 + 1)))], [some ⟨0, dL ((((x4.set x3.toNat ({ v8 with fKey := x2 } : T_impl_Version)).set x3.toNat ({ v10 with fBorn := (w64 (x2 + 1)) } : T_impl_Version)).set x3.toNat ({ v12 with fDied := (w64 ((w64 (x2 + 1)) + 1)) } : T_impl_Version)).set x3.toNat ({ v14 with fRow := v16.2 } : T_impl_Version))⟩, some ⟨2, []⟩]⟩) [0, 1, 5]).trans (Imp.truncS 1 (pl hQ) (by kernel_rfl) (allBelow_mem (by exact (And.intro rfl (And.intro rfl (And.intro rfl trivial))))) (by exact (And.intro (dL_below _ _) trivial)) (by kernel_rfl))⟩
 refine pwp_exit ?_
 refine srve 41 [(4, I x2)] [some ⟨0, dL x4⟩] ?_
 have h := si h
 subst h
 exact pwp_ret ⟨.inr rfl, 0, by kernel_rfl, by kernel_rfl⟩
def laws_markTxnS_l0 : Nat → Int → Int → (List T_impl_Txn) → Option (Int × List T_impl_Txn)
 | 0, _, _, _ => none
 | f5 + 1, x2, x3, x4 => bif (decide (x3 < (x4.length : Int))) then (getI x4 x3).bind fun v8 => (getI (x4.set x3.toNat ({ v8 with fState := x2 } : T_impl_Txn)) x3).bind fun v10 => (getI ((x4.set x3.toNat ({ v8 with fState := x2 } : T_impl_Txn)).set x3.toNat ({ v10 with fBegin := (w64 (x2 + 1)) } : T_impl_Txn)) x3).bind fun v12 => (getI (((x4.set x3.toNat ({ v8 with fState := x2 } : T_impl_Txn)).set x3.toNat ({ v10 with fBegin := (w64 (x2 + 1)) } : T_impl_Txn)).set x3.toNat ({ v12 with fEnd := (w64 ((w64 (x2 + 1)) + 1)) } : T_impl_Txn)) x3).bind fun v14 => (laws_markIntS v14.fReads (w64 ((w64 ((w64 (x2 + 1)) + 1)) + 1))).bind fun v16 => (getI ((((x4.set x3.toNat ({ v8 with fState := x2 } : T_impl_Txn)).set x3.toNat ({ v10 with fBegin := (w64 (x2 + 1)) } : T_impl_Txn)).set x3.toNat ({ v12 with fEnd := (w64 ((w64 (x2 + 1)) + 1)) } : T_impl_Txn)).set x3.toNat ({ v14 with fReads := v16.2 } : T_impl_Txn)) x3).bind fun v18 => (laws_markWriteS v18.fWrites v16.1).bind fun v20 => (laws_markTxnS_l0 f5) v20.1 (w64 (x3 + 1)) (((((x4.set x3.toNat ({ v8 with fState := x2 } : T_impl_Txn)).set x3.toNat ({ v10 with fBegin := (w64 (x2 + 1)) } : T_impl_Txn)).set x3.toNat ({ v12 with fEnd := (w64 ((w64 (x2 + 1)) + 1)) } : T_impl_Txn)).set x3.toNat ({ v14 with fReads := v16.2 } : T_impl_Txn)).set x3.toNat ({ v18 with fWrites := v20.2 } : T_impl_Txn)) else some (x2, x4)
def laws_markTxnS (a0 : List T_impl_Txn) (a1 : Int) : Option (Int × List T_impl_Txn) := laws_markTxnS_l0 FUEL a1 0 a0
theorem len_laws_markTxnS_l0 : ∀ (f5 : Nat) (x2 : Int) (x3 : Int) (x4 : List T_impl_Txn) (y : Int × List T_impl_Txn), laws_markTxnS_l0 f5 x2 x3 x4 = some y → y.2.length = x4.length
 | 0, _, _, _, _, h => by cases h
 | f5 + 1, x2, x3, x4, y, h => by
  rw [laws_markTxnS_l0] at h
  rcases condS h with h | h
  ·obtain ⟨_, _, h⟩ := bindS h
   obtain ⟨_, _, h⟩ := bindS h
   obtain ⟨_, _, h⟩ := bindS h
   obtain ⟨_, _, h⟩ := bindS h
   obtain ⟨_, _, h⟩ := bindS h
   obtain ⟨_, _, h⟩ := bindS h
   obtain ⟨_, _, h⟩ := bindS h
   have h2 := len_laws_markTxnS_l0 f5 _ _ _ _ h
   simp only [List.length_set] at h2
   exact h2
  ·cases h; rfl
theorem len_laws_markTxnS {a0 : List T_impl_Txn} {a1 : Int} {y : Int × List T_impl_Txn} (h : laws_markTxnS a0 a1 = some y) : y.2.length = a0.length := by
 unfold laws_markTxnS at h
 exact len_laws_markTxnS_l0 _ _ _ _ _ h
theorem ok_laws_markTxnS {a0 : List T_impl_Txn} {a1 : Int} {y : Int × List T_impl_Txn} (h : laws_markTxnS a0 a1 = some y) : OKd Try.prog 60 5 a0.length (dL a0) [I a1] (.int .i64 y.1) (dL y.2) := by
 refine OKd_of_pwp τ_ok Try.func60 rfl (by kernel_rfl) rfl (dL_oc _) (dL_oc _) (dL_bl _) (dL_bl _) rfl (fun hl => by rw [dL_len, len_laws_markTxnS h, ← dL_len]; exact hl) fun Γ hQ => ?_
 refine pwp_imp (Imp.to (st' := ⟨48, [(0, rf 0 0 5 a0), (1, I a1)], [some ⟨0, dL a0⟩]⟩) [0, 1] (by kernel_rfl)) ?_
 unfold laws_markTxnS at h
 refine srve 48 [(0, rf 0 0 5 a0), (1, I a1)] [some ⟨0, dL a0⟩] ?_
 refine pwp_seq ?_
 refine srve 48 [(0, rf 0 0 5 a0), (1, I a1), (5, I 0)] [some ⟨0, dL a0⟩] ?_
 refine pwp_block ?_
 refine pwp_loop (ι := Nat × Int × Int × (List T_impl_Txn)) (fun (f5, x2, x3, x4) => (⟨48, [(0, rf 0 0 5 x4), (1, I x2), (5, I x3)], [some ⟨0, dL x4⟩]⟩ : St)) (fun (f5, x2, x3, x4) => laws_markTxnS_l0 f5 x2 x3 x4 = some y) Prod.fst (FUEL, a1, 0, a0) h (it [0, 1, 5]) ?_
 rintro ⟨f5, x2, x3, x4⟩ h
 dsimp only at h ⊢
 rcases f5 with _ | f5
 cases h
 rw [laws_markTxnS_l0] at h
 refine pwp_seq ?_
 refine srve 48 [(0, rf 0 0 5 x4), (1, I x2), (5, I x3), (9, B (decide (x3 < (x4.length : Int))))] [some ⟨0, dL x4⟩] ?_
 refine pc h (fun h => ?_) (fun h => ?_)
 refine pwp_skip ?_
 refine pwp_seq ?_
 refine pwp_block ?_
 refine srv 3 48 [(0, rf 0 0 5 x4), (1, I x2), (5, I x3), (12, rf 0 0 5 x4), (13, I x3), (14, I x2)] [some ⟨0, dL x4⟩] ?_
 obtain ⟨v8, hv9, h⟩ := bindS h
 refine opsP_idr τ_ok 15 0 0 x4.length hv9 rfl (by kernel_rfl) ?_
 refine v 1 48 [(0, rf 0 0 5 x4), (1, I x2), (5, I x3), (14, I x2), (16, .ptr 0 0 (x3.toNat * 5))] [some ⟨0, dL x4⟩] ?_
 refine opsP_E (dd := none) (x := .any) (stdl_E (xs := x4) (vs := [I x2]) τ_ok 3 0 0 0 ({ v8 with fState := x2 } : T_impl_Txn) hv9 (by kernel_rfl) (by kernel_rfl) (by kernel_rfl)) ?_
 refine io 48 [(0, rf 0 0 5 x4), (1, I x2), (5, I x3), (14, I x2)] [some ⟨0, dL (x4.set x3.toNat ({ v8 with fState := x2 } : T_impl_Txn))⟩] ?_
 refine opsP_ren (st' := ⟨48, [(0, .ref 0 0 0 5 (x4.set x3.toNat ({ v8 with fState := x2 } : T_impl_Txn)).length false), (1, I x2), (5, I x3), (14, I x2)], [some ⟨0, dL (x4.set x3.toNat ({ v8 with fState := x2 } : T_impl_Txn))⟩]⟩) 0 (x4.set x3.toNat ({ v8 with fState := x2 } : T_impl_Txn)).length (renC (ren_ref (List.length_set ..).symm) (renC trivial (renC trivial (renC trivial renC0)))) (by kernel_rfl) ?_
 refine ve 0 48 [(0, .ref 0 0 0 5 (x4.set x3.toNat ({ v8 with fState := x2 } : T_impl_Txn)).length false), (1, I x2), (5, I x3)] [some ⟨0, dL (x4.set x3.toNat ({ v8 with fState := x2 } : T_impl_Txn))⟩] ?_
 refine srve 48 [(0, .ref 0 0 0 5 (x4.set x3.toNat ({ v8 with fState := x2 } : T_impl_Txn)).length false), (1, I (w64 (x2 + 1))), (5, I x3)] [some ⟨0, dL (x4.set x3.toNat ({ v8 with fState := x2 } : T_impl_Txn))⟩] ?_
 refine srv 3 48 [(0, .ref 0 0 0 5 (x4.set x3.toNat ({ v8 with fState := x2 } : T_impl_Txn)).length false), (1, I (w64 (x2 + 1))), (5, I x3), (19, .ref 0 0 0 5 (x4.set x3.toNat ({ v8 with fState := x2 } : T_impl_Txn)).length false), (20, I x3), (21, I (w64 (x2 + 1)))] [some ⟨0, dL (x4.set x3.toNat ({ v8 with fState := x2 } : T_impl_Txn))⟩] ?_
 obtain ⟨v10, hv11, h⟩ := bindS h
 refine opsP_idr τ_ok 22 0 0 (x4.set x3.toNat ({ v8 with fState := x2 } : T_impl_Txn)).length hv11 rfl (by kernel_rfl) ?_
 refine v 1 48 [(0, .ref 0 0 0 5 (x4.set x3.toNat ({ v8 with fState := x2 } : T_impl_Txn)).length false), (1, I (w64 (x2 + 1))), (5, I x3), (21, I (w64 (x2 + 1))), (23, .ptr 0 0 (x3.toNat * 5 + 1))] [some ⟨0, dL (x4.set x3.toNat ({ v8 with fState := x2 } : T_impl_Txn))⟩] ?_
 refine opsP_E (dd := none) (x := .any) (stdl_E (xs := (x4.set x3.toNat ({ v8 with fState := x2 } : T_impl_Txn))) (vs := [I (w64 (x2 + 1))]) τ_ok 3 0 0 1 ({ v10 with fBegin := (w64 (x2 + 1)) } : T_impl_Txn) hv11 (by kernel_rfl) (by kernel_rfl) (by kernel_rfl)) ?_
 refine io 48 [(0, .ref 0 0 0 5 (x4.set x3.toNat ({ v8 with fState := x2 } : T_impl_Txn)).length false), (1, I (w64 (x2 + 1))), (5, I x3), (21, I (w64 (x2 + 1)))] [some ⟨0, dL ((x4.set x3.toNat ({ v8 with fState := x2 } : T_impl_Txn)).set x3.toNat ({ v10 with fBegin := (w64 (x2 + 1)) } : T_impl_Txn))⟩] ?_
 refine opsP_ren (st' := ⟨48, [(0, .ref 0 0 0 5 ((x4.set x3.toNat ({ v8 with fState := x2 } : T_impl_Txn)).set x3.toNat ({ v10 with fBegin := (w64 (x2 + 1)) } : T_impl_Txn)).length false), (1, I (w64 (x2 + 1))), (5, I x3), (21, I (w64 (x2 + 1)))], [some ⟨0, dL ((x4.set x3.toNat ({ v8 with fState := x2 } : T_impl_Txn)).set x3.toNat ({ v10 with fBegin := (w64 (x2 + 1)) } : T_impl_Txn))⟩]⟩) 0 ((x4.set x3.toNat ({ v8 with fState := x2 } : T_impl_Txn)).set x3.toNat ({ v10 with fBegin := (w64 (x2 + 1)) } : T_impl_Txn)).length (renC (ren_ref (List.length_set ..).symm) (renC trivial (renC trivial (renC trivial renC0)))) (by kernel_rfl) ?_
 refine ve 0 48 [(0, .ref 0 0 0 5 ((x4.set x3.toNat ({ v8 with fState := x2 } : T_impl_Txn)).set x3.toNat ({ v10 with fBegin := (w64 (x2 + 1)) } : T_impl_Txn)).length false), (1, I (w64 (x2 + 1))), (5, I x3)] [some ⟨0, dL ((x4.set x3.toNat ({ v8 with fState := x2 } : T_impl_Txn)).set x3.toNat ({ v10 with fBegin := (w64 (x2 + 1)) } : T_impl_Txn))⟩] ?_
 refine srve 48 [(0, .ref 0 0 0 5 ((x4.set x3.toNat ({ v8 with fState := x2 } : T_impl_Txn)).set x3.toNat ({ v10 with fBegin := (w64 (x2 + 1)) } : T_impl_Txn)).length false), (1, I (w64 ((w64 (x2 + 1)) + 1))), (5, I x3)] [some ⟨0, dL ((x4.set x3.toNat ({ v8 with fState := x2 } : T_impl_Txn)).set x3.toNat ({ v10 with fBegin := (w64 (x2 + 1)) } : T_impl_Txn))⟩] ?_
 refine srv 3 48 [(0, .ref 0 0 0 5 ((x4.set x3.toNat ({ v8 with fState := x2 } : T_impl_Txn)).set x3.toNat ({ v10 with fBegin := (w64 (x2 + 1)) } : T_impl_Txn)).length false), (1, I (w64 ((w64 (x2 + 1)) + 1))), (5, I x3), (26, .ref 0 0 0 5 ((x4.set x3.toNat ({ v8 with fState := x2 } : T_impl_Txn)).set x3.toNat ({ v10 with fBegin := (w64 (x2 + 1)) } : T_impl_Txn)).length false), (27, I x3), (28, I (w64 ((w64 (x2 + 1)) + 1)))] [some ⟨0, dL ((x4.set x3.toNat ({ v8 with fState := x2 } : T_impl_Txn)).set x3.toNat ({ v10 with fBegin := (w64 (x2 + 1)) } : T_impl_Txn))⟩] ?_
 obtain ⟨v12, hv13, h⟩ := bindS h
 refine opsP_idr τ_ok 29 0 0 ((x4.set x3.toNat ({ v8 with fState := x2 } : T_impl_Txn)).set x3.toNat ({ v10 with fBegin := (w64 (x2 + 1)) } : T_impl_Txn)).length hv13 rfl (by kernel_rfl) ?_
 refine v 1 48 [(0, .ref 0 0 0 5 ((x4.set x3.toNat ({ v8 with fState := x2 } : T_impl_Txn)).set x3.toNat ({ v10 with fBegin := (w64 (x2 + 1)) } : T_impl_Txn)).length false), (1, I (w64 ((w64 (x2 + 1)) + 1))), (5, I x3), (28, I (w64 ((w64 (x2 + 1)) + 1))), (30, .ptr 0 0 (x3.toNat * 5 + 2))] [some ⟨0, dL ((x4.set x3.toNat ({ v8 with fState := x2 } : T_impl_Txn)).set x3.toNat ({ v10 with fBegin := (w64 (x2 + 1)) } : T_impl_Txn))⟩] ?_
 refine opsP_E (dd := none) (x := .any) (stdl_E (xs := ((x4.set x3.toNat ({ v8 with fState := x2 } : T_impl_Txn)).set x3.toNat ({ v10 with fBegin := (w64 (x2 + 1)) } : T_impl_Txn))) (vs := [I (w64 ((w64 (x2 + 1)) + 1))]) τ_ok 3 0 0 2 ({ v12 with fEnd := (w64 ((w64 (x2 + 1)) + 1)) } : T_impl_Txn) hv13 (by kernel_rfl) (by kernel_rfl) (by kernel_rfl)) ?_
 refine io 48 [(0, .ref 0 0 0 5 ((x4.set x3.toNat ({ v8 with fState := x2 } : T_impl_Txn)).set x3.toNat ({ v10 with fBegin := (w64 (x2 + 1)) } : T_impl_Txn)).length false), (1, I (w64 ((w64 (x2 + 1)) + 1))), (5, I x3), (28, I (w64 ((w64 (x2 + 1)) + 1)))] [some ⟨0, dL (((x4.set x3.toNat ({ v8 with fState := x2 } : T_impl_Txn)).set x3.toNat ({ v10 with fBegin := (w64 (x2 + 1)) } : T_impl_Txn)).set x3.toNat ({ v12 with fEnd := (w64 ((w64 (x2 + 1)) + 1)) } : T_impl_Txn))⟩] ?_
 refine opsP_ren (st' := ⟨48, [(0, .ref 0 0 0 5 (((x4.set x3.toNat ({ v8 with fState := x2 } : T_impl_Txn)).set x3.toNat ({ v10 with fBegin := (w64 (x2 + 1)) } : T_impl_Txn)).set x3.toNat ({ v12 with fEnd := (w64 ((w64 (x2 + 1)) + 1)) } : T_impl_Txn)).length false), (1, I (w64 ((w64 (x2 + 1)) + 1))), (5, I x3), (28, I (w64 ((w64 (x2 + 1)) + 1)))], [some ⟨0, dL (((x4.set x3.toNat ({ v8 with fState := x2 } : T_impl_Txn)).set x3.toNat ({ v10 with fBegin := (w64 (x2 + 1)) } : T_impl_Txn)).set x3.toNat ({ v12 with fEnd := (w64 ((w64 (x2 + 1)) + 1)) } : T_impl_Txn))⟩]⟩) 0 (((x4.set x3.toNat ({ v8 with fState := x2 } : T_impl_Txn)).set x3.toNat ({ v10 with fBegin := (w64 (x2 + 1)) } : T_impl_Txn)).set x3.toNat ({ v12 with fEnd := (w64 ((w64 (x2 + 1)) + 1)) } : T_impl_Txn)).length (renC (ren_ref (List.length_set ..).symm) (renC trivial (renC trivial (renC trivial renC0)))) (by kernel_rfl) ?_
 refine ve 0 48 [(0, .ref 0 0 0 5 (((x4.set x3.toNat ({ v8 with fState := x2 } : T_impl_Txn)).set x3.toNat ({ v10 with fBegin := (w64 (x2 + 1)) } : T_impl_Txn)).set x3.toNat ({ v12 with fEnd := (w64 ((w64 (x2 + 1)) + 1)) } : T_impl_Txn)).length false), (1, I (w64 ((w64 (x2 + 1)) + 1))), (5, I x3)] [some ⟨0, dL (((x4.set x3.toNat ({ v8 with fState := x2 } : T_impl_Txn)).set x3.toNat ({ v10 with fBegin := (w64 (x2 + 1)) } : T_impl_Txn)).set x3.toNat ({ v12 with fEnd := (w64 ((w64 (x2 + 1)) + 1)) } : T_impl_Txn))⟩] ?_
 refine srve 48 [(0, .ref 0 0 0 5 (((x4.set x3.toNat ({ v8 with fState := x2 } : T_impl_Txn)).set x3.toNat ({ v10 with fBegin := (w64 (x2 + 1)) } : T_impl_Txn)).set x3.toNat ({ v12 with fEnd := (w64 ((w64 (x2 + 1)) + 1)) } : T_impl_Txn)).length false), (1, I (w64 ((w64 ((w64 (x2 + 1)) + 1)) + 1))), (5, I x3)] [some ⟨0, dL (((x4.set x3.toNat ({ v8 with fState := x2 } : T_impl_Txn)).set x3.toNat ({ v10 with fBegin := (w64 (x2 + 1)) } : T_impl_Txn)).set x3.toNat ({ v12 with fEnd := (w64 ((w64 (x2 + 1)) + 1)) } : T_impl_Txn))⟩] ?_
 refine srv 2 48 [(0, .ref 0 0 0 5 (((x4.set x3.toNat ({ v8 with fState := x2 } : T_impl_Txn)).set x3.toNat ({ v10 with fBegin := (w64 (x2 + 1)) } : T_impl_Txn)).set x3.toNat ({ v12 with fEnd := (w64 ((w64 (x2 + 1)) + 1)) } : T_impl_Txn)).length false), (1, I (w64 ((w64 ((w64 (x2 + 1)) + 1)) + 1))), (5, I x3), (33, .ref 0 0 0 5 (((x4.set x3.toNat ({ v8 with fState := x2 } : T_impl_Txn)).set x3.toNat ({ v10 with fBegin := (w64 (x2 + 1)) } : T_impl_Txn)).set x3.toNat ({ v12 with fEnd := (w64 ((w64 (x2 + 1)) + 1)) } : T_impl_Txn)).length false), (34, I x3)] [some ⟨0, dL (((x4.set x3.toNat ({ v8 with fState := x2 } : T_impl_Txn)).set x3.toNat ({ v10 with fBegin := (w64 (x2 + 1)) } : T_impl_Txn)).set x3.toNat ({ v12 with fEnd := (w64 ((w64 (x2 + 1)) + 1)) } : T_impl_Txn))⟩] ?_
 obtain ⟨v14, hv15, h⟩ := bindS h
 refine opsP_idr τ_ok 35 0 0 (((x4.set x3.toNat ({ v8 with fState := x2 } : T_impl_Txn)).set x3.toNat ({ v10 with fBegin := (w64 (x2 + 1)) } : T_impl_Txn)).set x3.toNat ({ v12 with fEnd := (w64 ((w64 (x2 + 1)) + 1)) } : T_impl_Txn)).length hv15 rfl (by kernel_rfl) ?_
 refine v 1 48 [(0, .ref 0 0 0 5 (((x4.set x3.toNat ({ v8 with fState := x2 } : T_impl_Txn)).set x3.toNat ({ v10 with fBegin := (w64 (x2 + 1)) } : T_impl_Txn)).set x3.toNat ({ v12 with fEnd := (w64 ((w64 (x2 + 1)) + 1)) } : T_impl_Txn)).length false), (1, I (w64 ((w64 ((w64 (x2 + 1)) + 1)) + 1))), (5, I x3), (36, .ptr 0 0 (x3.toNat * 5 + 3))] [some ⟨0, dL (((x4.set x3.toNat ({ v8 with fState := x2 } : T_impl_Txn)).set x3.toNat ({ v10 with fBegin := (w64 (x2 + 1)) } : T_impl_Txn)).set x3.toNat ({ v12 with fEnd := (w64 ((w64 (x2 + 1)) + 1)) } : T_impl_Txn))⟩] ?_
 refine io 48 [(0, .ref 0 0 0 5 (((x4.set x3.toNat ({ v8 with fState := x2 } : T_impl_Txn)).set x3.toNat ({ v10 with fBegin := (w64 (x2 + 1)) } : T_impl_Txn)).set x3.toNat ({ v12 with fEnd := (w64 ((w64 (x2 + 1)) + 1)) } : T_impl_Txn)).length false), (1, I (w64 ((w64 ((w64 (x2 + 1)) + 1)) + 1))), (5, I x3), (36, .ptr 0 0 (x3.toNat * 5 + 3))] [some ⟨0, dL (((x4.set x3.toNat ({ v8 with fState := x2 } : T_impl_Txn)).set x3.toNat ({ v10 with fBegin := (w64 (x2 + 1)) } : T_impl_Txn)).set x3.toNat ({ v12 with fEnd := (w64 ((w64 (x2 + 1)) + 1)) } : T_impl_Txn))⟩] ?_
 refine opsP_imp (Imp.ghosts 1 (st' := ⟨48, [(0, .ref 0 0 0 5 (((x4.set x3.toNat ({ v8 with fState := x2 } : T_impl_Txn)).set x3.toNat ({ v10 with fBegin := (w64 (x2 + 1)) } : T_impl_Txn)).set x3.toNat ({ v12 with fEnd := (w64 ((w64 (x2 + 1)) + 1)) } : T_impl_Txn)).length false), (1, I (w64 ((w64 ((w64 (x2 + 1)) + 1)) + 1))), (5, I x3), (36, .ptr 0 0 (x3.toNat * 5 + 3))], [some ⟨0, dL (((x4.set x3.toNat ({ v8 with fState := x2 } : T_impl_Txn)).set x3.toNat ({ v10 with fBegin := (w64 (x2 + 1)) } : T_impl_Txn)).set x3.toNat ({ v12 with fEnd := (w64 ((w64 (x2 + 1)) + 1)) } : T_impl_Txn))⟩, some ⟨0, []⟩]⟩) (by kernel_rfl)) ?_
 refine opsP_E (dd := some 37) (x := rf 1 1 1 v14.fReads) (CoreE.pre (H1 := [some ⟨0, setL (dL (((x4.set x3.toNat ({ v8 with fState := x2 } : T_impl_Txn)).set x3.toNat ({ v10 with fBegin := (w64 (x2 + 1)) } : T_impl_Txn)).set x3.toNat ({ v12 with fEnd := (w64 ((w64 (x2 + 1)) + 1)) } : T_impl_Txn))) (x3.toNat * 5 + 3) [rf 1 1 1 v14.fReads]⟩, sl 1 v14.fReads]) (HStep.openL (cs0 := []) (xs := (((x4.set x3.toNat ({ v8 with fState := x2 } : T_impl_Txn)).set x3.toNat ({ v10 with fBegin := (w64 (x2 + 1)) } : T_impl_Txn)).set x3.toNat ({ v12 with fEnd := (w64 ((w64 (x2 + 1)) + 1)) } : T_impl_Txn))) (s := 1) (n := v14.fReads.length) (f := false) (cs := eL v14.fReads) 0 0 1 0 3 hv15 (by kernel_rfl) (by kernel_rfl) (by kernel_rfl) (by kernel_rfl) (by decide) (by first | exact pn hQ | exact pk hQ) (by kernel_rfl)) (ldo_E (xs := (((x4.set x3.toNat ({ v8 with fState := x2 } : T_impl_Txn)).set x3.toNat ({ v10 with fBegin := (w64 (x2 + 1)) } : T_impl_Txn)).set x3.toNat ({ v12 with fEnd := (w64 ((w64 (x2 + 1)) + 1)) } : T_impl_Txn))) τ_ok 37 41 3 hv15 (by kernel_rfl) (by kernel_rfl) (by kernel_rfl))) ?_
 refine v 1 48 [(0, .ref 0 0 0 5 (((x4.set x3.toNat ({ v8 with fState := x2 } : T_impl_Txn)).set x3.toNat ({ v10 with fBegin := (w64 (x2 + 1)) } : T_impl_Txn)).set x3.toNat ({ v12 with fEnd := (w64 ((w64 (x2 + 1)) + 1)) } : T_impl_Txn)).length false), (5, I x3), (37, rf 1 1 1 v14.fReads), (38, I (w64 ((w64 ((w64 (x2 + 1)) + 1)) + 1)))] [some ⟨0, setL (dL (((x4.set x3.toNat ({ v8 with fState := x2 } : T_impl_Txn)).set x3.toNat ({ v10 with fBegin := (w64 (x2 + 1)) } : T_impl_Txn)).set x3.toNat ({ v12 with fEnd := (w64 ((w64 (x2 + 1)) + 1)) } : T_impl_Txn))) (x3.toNat * 5 + 3) [rf 1 1 1 v14.fReads]⟩, sl 1 v14.fReads] ?_
 obtain ⟨v16, hv17, h⟩ := bindS h
 refine opsP_E (dd := some 39) (x := I v16.1) ((callD_E τ 39 1 1 (ok_laws_markIntS hv17) (by kernel_rfl)).then (H2 := [some ⟨0, dL ((((x4.set x3.toNat ({ v8 with fState := x2 } : T_impl_Txn)).set x3.toNat ({ v10 with fBegin := (w64 (x2 + 1)) } : T_impl_Txn)).set x3.toNat ({ v12 with fEnd := (w64 ((w64 (x2 + 1)) + 1)) } : T_impl_Txn)).set x3.toNat ({ v14 with fReads := v16.2 } : T_impl_Txn))⟩, some ⟨2, []⟩]) (HStep.nestL (xs := (((x4.set x3.toNat ({ v8 with fState := x2 } : T_impl_Txn)).set x3.toNat ({ v10 with fBegin := (w64 (x2 + 1)) } : T_impl_Txn)).set x3.toNat ({ v12 with fEnd := (w64 ((w64 (x2 + 1)) + 1)) } : T_impl_Txn))) (vs := [rf 1 1 1 v14.fReads]) 0 0 3 ({ v14 with fReads := v16.2 } : T_impl_Txn) hv15 (by kernel_rfl) (OutL.cons (OutP.listn (v := 1) (xs := v16.2) (len_laws_markIntS hv17) (by kernel_rfl)) (OutL.nil _)) (by decide) (by decide) (by first | exact pn hQ | exact pk hQ) (by kernel_rfl) (by kernel_rfl) (by kernel_rfl) (by kernel_rfl))) ?_
 refine io 48 [(0, .ref 0 0 0 5 (((x4.set x3.toNat ({ v8 with fState := x2 } : T_impl_Txn)).set x3.toNat ({ v10 with fBegin := (w64 (x2 + 1)) } : T_impl_Txn)).set x3.toNat ({ v12 with fEnd := (w64 ((w64 (x2 + 1)) + 1)) } : T_impl_Txn)).length false), (5, I x3), (38, I (w64 ((w64 ((w64 (x2 + 1)) + 1)) + 1))), (39, I v16.1)] [some ⟨0, dL ((((x4.set x3.toNat ({ v8 with fState := x2 } : T_impl_Txn)).set x3.toNat ({ v10 with fBegin := (w64 (x2 + 1)) } : T_impl_Txn)).set x3.toNat ({ v12 with fEnd := (w64 ((w64 (x2 + 1)) + 1)) } : T_impl_Txn)).set x3.toNat ({ v14 with fReads := v16.2 } : T_impl_Txn))⟩, some ⟨2, []⟩] ?_
 refine opsP_ren (st' := ⟨48, [(0, .ref 0 0 0 5 ((((x4.set x3.toNat ({ v8 with fState := x2 } : T_impl_Txn)).set x3.toNat ({ v10 with fBegin := (w64 (x2 + 1)) } : T_impl_Txn)).set x3.toNat ({ v12 with fEnd := (w64 ((w64 (x2 + 1)) + 1)) } : T_impl_Txn)).set x3.toNat ({ v14 with fReads := v16.2 } : T_impl_Txn)).length false), (5, I x3), (38, I (w64 ((w64 ((w64 (x2 + 1)) + 1)) + 1))), (39, I v16.1)], [some ⟨0, dL ((((x4.set x3.toNat ({ v8 with fState := x2 } : T_impl_Txn)).set x3.toNat ({ v10 with fBegin := (w64 (x2 + 1)) } : T_impl_Txn)).set x3.toNat ({ v12 with fEnd := (w64 ((w64 (x2 + 1)) + 1)) } : T_impl_Txn)).set x3.toNat ({ v14 with fReads := v16.2 } : T_impl_Txn))⟩, some ⟨2, []⟩]⟩) 0 ((((x4.set x3.toNat ({ v8 with fState := x2 } : T_impl_Txn)).set x3.toNat ({ v10 with fBegin := (w64 (x2 + 1)) } : T_impl_Txn)).set x3.toNat ({ v12 with fEnd := (w64 ((w64 (x2 + 1)) + 1)) } : T_impl_Txn)).set x3.toNat ({ v14 with fReads := v16.2 } : T_impl_Txn)).length (renC (ren_ref (List.length_set ..).symm) (renC trivial (renC trivial (renC trivial renC0)))) (by kernel_rfl) ?_
 refine ve 1 48 [(0, .ref 0 0 0 5 ((((x4.set x3.toNat ({ v8 with fState := x2 } : T_impl_Txn)).set x3.toNat ({ v10 with fBegin := (w64 (x2 + 1)) } : T_impl_Txn)).set x3.toNat ({ v12 with fEnd := (w64 ((w64 (x2 + 1)) + 1)) } : T_impl_Txn)).set x3.toNat ({ v14 with fReads := v16.2 } : T_impl_Txn)).length false), (1, I v16.1), (5, I x3)] [some ⟨0, dL ((((x4.set x3.toNat ({ v8 with fState := x2 } : T_impl_Txn)).set x3.toNat ({ v10 with fBegin := (w64 (x2 + 1)) } : T_impl_Txn)).set x3.toNat ({ v12 with fEnd := (w64 ((w64 (x2 + 1)) + 1)) } : T_impl_Txn)).set x3.toNat ({ v14 with fReads := v16.2 } : T_impl_Txn))⟩, some ⟨2, []⟩] ?_
 refine rv 2 48 [(0, .ref 0 0 0 5 ((((x4.set x3.toNat ({ v8 with fState := x2 } : T_impl_Txn)).set x3.toNat ({ v10 with fBegin := (w64 (x2 + 1)) } : T_impl_Txn)).set x3.toNat ({ v12 with fEnd := (w64 ((w64 (x2 + 1)) + 1)) } : T_impl_Txn)).set x3.toNat ({ v14 with fReads := v16.2 } : T_impl_Txn)).length false), (1, I v16.1), (5, I x3), (40, .ref 0 0 0 5 ((((x4.set x3.toNat ({ v8 with fState := x2 } : T_impl_Txn)).set x3.toNat ({ v10 with fBegin := (w64 (x2 + 1)) } : T_impl_Txn)).set x3.toNat ({ v12 with fEnd := (w64 ((w64 (x2 + 1)) + 1)) } : T_impl_Txn)).set x3.toNat ({ v14 with fReads := v16.2 } : T_impl_Txn)).length false), (41, I x3)] [some ⟨0, dL ((((x4.set x3.toNat ({ v8 with fState := x2 } : T_impl_Txn)).set x3.toNat ({ v10 with fBegin := (w64 (x2 + 1)) } : T_impl_Txn)).set x3.toNat ({ v12 with fEnd := (w64 ((w64 (x2 + 1)) + 1)) } : T_impl_Txn)).set x3.toNat ({ v14 with fReads := v16.2 } : T_impl_Txn))⟩, some ⟨2, []⟩] ?_
 obtain ⟨v18, hv19, h⟩ := bindS h
 refine opsP_idr τ_ok 42 0 0 ((((x4.set x3.toNat ({ v8 with fState := x2 } : T_impl_Txn)).set x3.toNat ({ v10 with fBegin := (w64 (x2 + 1)) } : T_impl_Txn)).set x3.toNat ({ v12 with fEnd := (w64 ((w64 (x2 + 1)) + 1)) } : T_impl_Txn)).set x3.toNat ({ v14 with fReads := v16.2 } : T_impl_Txn)).length hv19 rfl (by kernel_rfl) ?_
 refine v 1 48 [(0, .ref 0 0 0 5 ((((x4.set x3.toNat ({ v8 with fState := x2 } : T_impl_Txn)).set x3.toNat ({ v10 with fBegin := (w64 (x2 + 1)) } : T_impl_Txn)).set x3.toNat ({ v12 with fEnd := (w64 ((w64 (x2 + 1)) + 1)) } : T_impl_Txn)).set x3.toNat ({ v14 with fReads := v16.2 } : T_impl_Txn)).length false), (1, I v16.1), (5, I x3), (43, .ptr 0 0 (x3.toNat * 5 + 4))] [some ⟨0, dL ((((x4.set x3.toNat ({ v8 with fState := x2 } : T_impl_Txn)).set x3.toNat ({ v10 with fBegin := (w64 (x2 + 1)) } : T_impl_Txn)).set x3.toNat ({ v12 with fEnd := (w64 ((w64 (x2 + 1)) + 1)) } : T_impl_Txn)).set x3.toNat ({ v14 with fReads := v16.2 } : T_impl_Txn))⟩, some ⟨2, []⟩] ?_
 refine io 48 [(0, .ref 0 0 0 5 ((((x4.set x3.toNat ({ v8 with fState := x2 } : T_impl_Txn)).set x3.toNat ({ v10 with fBegin := (w64 (x2 + 1)) } : T_impl_Txn)).set x3.toNat ({ v12 with fEnd := (w64 ((w64 (x2 + 1)) + 1)) } : T_impl_Txn)).set x3.toNat ({ v14 with fReads := v16.2 } : T_impl_Txn)).length false), (1, I v16.1), (5, I x3), (43, .ptr 0 0 (x3.toNat * 5 + 4))] [some ⟨0, dL ((((x4.set x3.toNat ({ v8 with fState := x2 } : T_impl_Txn)).set x3.toNat ({ v10 with fBegin := (w64 (x2 + 1)) } : T_impl_Txn)).set x3.toNat ({ v12 with fEnd := (w64 ((w64 (x2 + 1)) + 1)) } : T_impl_Txn)).set x3.toNat ({ v14 with fReads := v16.2 } : T_impl_Txn))⟩, some ⟨2, []⟩] ?_
 refine opsP_imp (Imp.ghosts 1 (st' := ⟨48, [(0, .ref 0 0 0 5 ((((x4.set x3.toNat ({ v8 with fState := x2 } : T_impl_Txn)).set x3.toNat ({ v10 with fBegin := (w64 (x2 + 1)) } : T_impl_Txn)).set x3.toNat ({ v12 with fEnd := (w64 ((w64 (x2 + 1)) + 1)) } : T_impl_Txn)).set x3.toNat ({ v14 with fReads := v16.2 } : T_impl_Txn)).length false), (1, I v16.1), (5, I x3), (43, .ptr 0 0 (x3.toNat * 5 + 4))], [some ⟨0, dL ((((x4.set x3.toNat ({ v8 with fState := x2 } : T_impl_Txn)).set x3.toNat ({ v10 with fBegin := (w64 (x2 + 1)) } : T_impl_Txn)).set x3.toNat ({ v12 with fEnd := (w64 ((w64 (x2 + 1)) + 1)) } : T_impl_Txn)).set x3.toNat ({ v14 with fReads := v16.2 } : T_impl_Txn))⟩, some ⟨2, []⟩, some ⟨0, []⟩]⟩) (by kernel_rfl)) ?_
 refine opsP_E (dd := some 44) (x := rf 2 1 3 v18.fWrites) (CoreE.pre (H1 := [some ⟨0, setL (dL ((((x4.set x3.toNat ({ v8 with fState := x2 } : T_impl_Txn)).set x3.toNat ({ v10 with fBegin := (w64 (x2 + 1)) } : T_impl_Txn)).set x3.toNat ({ v12 with fEnd := (w64 ((w64 (x2 + 1)) + 1)) } : T_impl_Txn)).set x3.toNat ({ v14 with fReads := v16.2 } : T_impl_Txn))) (x3.toNat * 5 + 4) [rf 2 1 3 v18.fWrites]⟩, some ⟨2, []⟩, some ⟨1, dL v18.fWrites⟩]) (HStep.openL (cs0 := []) (xs := ((((x4.set x3.toNat ({ v8 with fState := x2 } : T_impl_Txn)).set x3.toNat ({ v10 with fBegin := (w64 (x2 + 1)) } : T_impl_Txn)).set x3.toNat ({ v12 with fEnd := (w64 ((w64 (x2 + 1)) + 1)) } : T_impl_Txn)).set x3.toNat ({ v14 with fReads := v16.2 } : T_impl_Txn))) (s := 3) (n := v18.fWrites.length) (f := false) (cs := dL v18.fWrites) 0 0 2 0 4 hv19 (by kernel_rfl) (by kernel_rfl) (by kernel_rfl) (by kernel_rfl) (by decide) (by first | exact pn hQ | exact pk hQ) (by kernel_rfl)) (ldo_E (xs := ((((x4.set x3.toNat ({ v8 with fState := x2 } : T_impl_Txn)).set x3.toNat ({ v10 with fBegin := (w64 (x2 + 1)) } : T_impl_Txn)).set x3.toNat ({ v12 with fEnd := (w64 ((w64 (x2 + 1)) + 1)) } : T_impl_Txn)).set x3.toNat ({ v14 with fReads := v16.2 } : T_impl_Txn))) τ_ok 44 48 4 hv19 (by kernel_rfl) (by kernel_rfl) (by kernel_rfl))) ?_
 refine v 1 48 [(0, .ref 0 0 0 5 ((((x4.set x3.toNat ({ v8 with fState := x2 } : T_impl_Txn)).set x3.toNat ({ v10 with fBegin := (w64 (x2 + 1)) } : T_impl_Txn)).set x3.toNat ({ v12 with fEnd := (w64 ((w64 (x2 + 1)) + 1)) } : T_impl_Txn)).set x3.toNat ({ v14 with fReads := v16.2 } : T_impl_Txn)).length false), (5, I x3), (44, rf 2 1 3 v18.fWrites), (45, I v16.1)] [some ⟨0, setL (dL ((((x4.set x3.toNat ({ v8 with fState := x2 } : T_impl_Txn)).set x3.toNat ({ v10 with fBegin := (w64 (x2 + 1)) } : T_impl_Txn)).set x3.toNat ({ v12 with fEnd := (w64 ((w64 (x2 + 1)) + 1)) } : T_impl_Txn)).set x3.toNat ({ v14 with fReads := v16.2 } : T_impl_Txn))) (x3.toNat * 5 + 4) [rf 2 1 3 v18.fWrites]⟩, some ⟨2, []⟩, some ⟨1, dL v18.fWrites⟩] ?_
 obtain ⟨v20, hv21, h⟩ := bindS h
 refine opsP_E (dd := some 46) (x := I v20.1) ((callD_E τ 46 2 1 (ok_laws_markWriteS hv21) (by kernel_rfl)).then (H2 := [some ⟨0, dL (((((x4.set x3.toNat ({ v8 with fState := x2 } : T_impl_Txn)).set x3.toNat ({ v10 with fBegin := (w64 (x2 + 1)) } : T_impl_Txn)).set x3.toNat ({ v12 with fEnd := (w64 ((w64 (x2 + 1)) + 1)) } : T_impl_Txn)).set x3.toNat ({ v14 with fReads := v16.2 } : T_impl_Txn)).set x3.toNat ({ v18 with fWrites := v20.2 } : T_impl_Txn))⟩, some ⟨2, []⟩, some ⟨2, []⟩]) (HStep.nestL (xs := ((((x4.set x3.toNat ({ v8 with fState := x2 } : T_impl_Txn)).set x3.toNat ({ v10 with fBegin := (w64 (x2 + 1)) } : T_impl_Txn)).set x3.toNat ({ v12 with fEnd := (w64 ((w64 (x2 + 1)) + 1)) } : T_impl_Txn)).set x3.toNat ({ v14 with fReads := v16.2 } : T_impl_Txn))) (vs := [rf 2 1 3 v18.fWrites]) 0 0 4 ({ v18 with fWrites := v20.2 } : T_impl_Txn) hv19 (by kernel_rfl) (OutL.cons (OutP.listDn (v := 1) (xs := v20.2) (len_laws_markWriteS hv21) (by kernel_rfl)) (OutL.nil _)) (by decide) (by decide) (by first | exact pn hQ | exact pk hQ) (by kernel_rfl) (by kernel_rfl) (by kernel_rfl) (by kernel_rfl))) ?_
 refine io 48 [(0, .ref 0 0 0 5 ((((x4.set x3.toNat ({ v8 with fState := x2 } : T_impl_Txn)).set x3.toNat ({ v10 with fBegin := (w64 (x2 + 1)) } : T_impl_Txn)).set x3.toNat ({ v12 with fEnd := (w64 ((w64 (x2 + 1)) + 1)) } : T_impl_Txn)).set x3.toNat ({ v14 with fReads := v16.2 } : T_impl_Txn)).length false), (5, I x3), (45, I v16.1), (46, I v20.1)] [some ⟨0, dL (((((x4.set x3.toNat ({ v8 with fState := x2 } : T_impl_Txn)).set x3.toNat ({ v10 with fBegin := (w64 (x2 + 1)) } : T_impl_Txn)).set x3.toNat ({ v12 with fEnd := (w64 ((w64 (x2 + 1)) + 1)) } : T_impl_Txn)).set x3.toNat ({ v14 with fReads := v16.2 } : T_impl_Txn)).set x3.toNat ({ v18 with fWrites := v20.2 } : T_impl_Txn))⟩, some ⟨2, []⟩, some ⟨2, []⟩] ?_
 refine opsP_ren (st' := ⟨48, [(0, .ref 0 0 0 5 (((((x4.set x3.toNat ({ v8 with fState := x2 } : T_impl_Txn)).set x3.toNat ({ v10 with fBegin := (w64 (x2 + 1)) } : T_impl_Txn)).set x3.toNat ({ v12 with fEnd := (w64 ((w64 (x2 + 1)) + 1)) } : T_impl_Txn)).set x3.toNat ({ v14 with fReads := v16.2 } : T_impl_Txn)).set x3.toNat ({ v18 with fWrites := v20.2 } : T_impl_Txn)).length false), (5, I x3), (45, I v16.1), (46, I v20.1)], [some ⟨0, dL (((((x4.set x3.toNat ({ v8 with fState := x2 } : T_impl_Txn)).set x3.toNat ({ v10 with fBegin := (w64 (x2 + 1)) } : T_impl_Txn)).set x3.toNat ({ v12 with fEnd := (w64 ((w64 (x2 + 1)) + 1)) } : T_impl_Txn)).set x3.toNat ({ v14 with fReads := v16.2 } : T_impl_Txn)).set x3.toNat ({ v18 with fWrites := v20.2 } : T_impl_Txn))⟩, some ⟨2, []⟩, some ⟨2, []⟩]⟩) 0 (((((x4.set x3.toNat ({ v8 with fState := x2 } : T_impl_Txn)).set x3.toNat ({ v10 with fBegin := (w64 (x2 + 1)) } : T_impl_Txn)).set x3.toNat ({ v12 with fEnd := (w64 ((w64 (x2 + 1)) + 1)) } : T_impl_Txn)).set x3.toNat ({ v14 with fReads := v16.2 } : T_impl_Txn)).set x3.toNat ({ v18 with fWrites := v20.2 } : T_impl_Txn)).length (renC (ren_ref (List.length_set ..).symm) (renC trivial (renC trivial (renC trivial renC0)))) (by kernel_rfl) ?_
 refine ve 1 48 [(0, .ref 0 0 0 5 (((((x4.set x3.toNat ({ v8 with fState := x2 } : T_impl_Txn)).set x3.toNat ({ v10 with fBegin := (w64 (x2 + 1)) } : T_impl_Txn)).set x3.toNat ({ v12 with fEnd := (w64 ((w64 (x2 + 1)) + 1)) } : T_impl_Txn)).set x3.toNat ({ v14 with fReads := v16.2 } : T_impl_Txn)).set x3.toNat ({ v18 with fWrites := v20.2 } : T_impl_Txn)).length false), (1, I v20.1), (5, I x3)] [some ⟨0, dL (((((x4.set x3.toNat ({ v8 with fState := x2 } : T_impl_Txn)).set x3.toNat ({ v10 with fBegin := (w64 (x2 + 1)) } : T_impl_Txn)).set x3.toNat ({ v12 with fEnd := (w64 ((w64 (x2 + 1)) + 1)) } : T_impl_Txn)).set x3.toNat ({ v14 with fReads := v16.2 } : T_impl_Txn)).set x3.toNat ({ v18 with fWrites := v20.2 } : T_impl_Txn))⟩, some ⟨2, []⟩, some ⟨2, []⟩] ?_
 refine rve 48 [(0, .ref 0 0 0 5 (((((x4.set x3.toNat ({ v8 with fState := x2 } : T_impl_Txn)).set x3.toNat ({ v10 with fBegin := (w64 (x2 + 1)) } : T_impl_Txn)).set x3.toNat ({ v12 with fEnd := (w64 ((w64 (x2 + 1)) + 1)) } : T_impl_Txn)).set x3.toNat ({ v14 with fReads := v16.2 } : T_impl_Txn)).set x3.toNat ({ v18 with fWrites := v20.2 } : T_impl_Txn)).length false), (1, I v20.1), (5, I (w64 (x3 + 1)))] [some ⟨0, dL (((((x4.set x3.toNat ({ v8 with fState := x2 } : T_impl_Txn)).set x3.toNat ({ v10 with fBegin := (w64 (x2 + 1)) } : T_impl_Txn)).set x3.toNat ({ v12 with fEnd := (w64 ((w64 (x2 + 1)) + 1)) } : T_impl_Txn)).set x3.toNat ({ v14 with fReads := v16.2 } : T_impl_Txn)).set x3.toNat ({ v18 with fWrites := v20.2 } : T_impl_Txn))⟩, some ⟨2, []⟩, some ⟨2, []⟩] ?_
 exact ⟨(f5, v20.1, (w64 (x3 + 1)), (((((x4.set x3.toNat ({ v8 with fState := x2 } : T_impl_Txn)).set x3.toNat ({ v10 with fBegin := (w64 (x2 + 1)) } : T_impl_Txn)).set x3.toNat ({ v12 with fEnd := (w64 ((w64 (x2 + 1)) + 1)) } : T_impl_Txn)).set x3.toNat ({ v14 with fReads := v16.2 } : T_impl_Txn)).set x3.toNat ({ v18 with fWrites := v20.2 } : T_impl_Txn))), h, Nat.lt_succ_self _, (it (st' := ⟨48, [(0, .ref 0 0 0 5 (((((x4.set x3.toNat ({ v8 with fState := x2 } : T_impl_Txn)).set x3.toNat ({ v10 with fBegin := (w64 (x2 + 1)) } : T_impl_Txn)).set x3.toNat ({ v12 with fEnd := (w64 ((w64 (x2 + 1)) + 1)) } : T_impl_Txn)).set x3.toNat ({ v14 with fReads := v16.2 } : T_impl_Txn)).set x3.toNat ({ v18 with fWrites := v20.2 } : T_impl_Txn)).length false), (1, I v20.1), (5, I (w64 (x3 + 1)))], [some ⟨0, dL (((((x4.set x3.toNat ({ v8 with fState := x2 } : T_impl_Txn)).set x3.toNat ({ v10 with fBegin := (w64 (x2 + 1)) } : T_impl_Txn)).set x3.toNat ({ v12 with fEnd := (w64 ((w64 (x2 + 1)) + 1)) } : T_impl_Txn)).set x3.toNat ({ v14 with fReads := v16.2 } : T_impl_Txn)).set x3.toNat ({ v18 with fWrites := v20.2 } : T_impl_Txn))⟩, some ⟨2, []⟩, some ⟨2, []⟩]⟩) [0, 1, 5]).trans (Imp.truncS 1 (pl hQ) (by kernel_rfl) (allBelow_mem (by exact (And.intro rfl (And.intro rfl (And.intro rfl trivial))))) (by exact (And.intro (dL_below _ _) trivial)) (by kernel_rfl))⟩
 refine pwp_exit ?_
 refine srve 48 [(4, I x2)] [some ⟨0, dL x4⟩] ?_
 have h := si h
 subst h
 exact pwp_ret ⟨.inr rfl, 0, by kernel_rfl, by kernel_rfl⟩
def laws_szVersion (a0 : T_laws_Version) (a1 : Int) : Option Int := (laws_szValueS a0.fRow a1).bind fun v1 => bif (decide (v1 < 0)) then some (-1) else some v1
theorem ok_laws_szVersion {a0 : T_laws_Version} {a1 : Int} {y : Int} (h : laws_szVersion a0 a1 = some y) : OK Try.prog 99 [E a0, I a1] (I y) := by
 refine ow Try.func99 fun Γ hX => ?_
 unfold laws_szVersion at h
 refine srve 12 [(1, I a1), (2, pf a0 0)] [] ?_
 refine srv 3 12 [(6, A a0.fRow), (7, I a1)] [] ?_
 obtain ⟨v1, hv2, h⟩ := bindS h
 refine cF 8 (ok_laws_szValueS hv2) ?_
 refine ve 1 12 [(1, I v1)] [] ?_
 refine pwp_seq ?_
 refine srve 12 [(1, I v1), (10, B (decide (v1 < 0)))] [] ?_
 refine pc h (fun h => ?_) (fun h => ?_)
 refine srve 12 [(4, I (-1))] [] ?_
 cases h
 exact pwp_ret rz
 refine pwp_skip ?_
 refine srve 12 [(4, I v1)] [] ?_
 cases h
 exact pwp_ret rz
def laws_eqVersion (a0 : T_impl_Version) (a1 : T_impl_Version) : Option Bool := bif (!(a0.fKey == a1.fKey)) then some false else bif (!(a0.fBorn == a1.fBorn)) then some false else bif (!(a0.fDied == a1.fDied)) then some false else (laws_eqValueS a0.fRow a1.fRow).bind fun v4 => bif (!v4) then some false else some true
theorem ok_laws_eqVersion {a0 : T_impl_Version} {a1 : T_impl_Version} {y : Bool} (h : laws_eqVersion a0 a1 = some y) : OK Try.prog 113 [E a0, E a1] (B y) := by
 refine ow Try.func113 fun Γ hX => ?_
 unfold laws_eqVersion at h
 refine srve 26 [(2, pf a0 0), (3, pf a1 0)] [] ?_
 refine pwp_seq ?_
 refine srve 26 [(2, pf a0 0), (3, pf a1 0), (9, B (!(a0.fKey == a1.fKey)))] [] ?_
 refine pc h (fun h => ?_) (fun h => ?_)
 refine srve 26 [(4, B false)] [] ?_
 cases h
 exact pwp_ret rz
 refine pwp_skip ?_
 refine pwp_seq ?_
 refine srve 26 [(2, pf a0 0), (3, pf a1 0), (14, B (!(a0.fBorn == a1.fBorn)))] [] ?_
 refine pc h (fun h => ?_) (fun h => ?_)
 refine srve 26 [(4, B false)] [] ?_
 cases h
 exact pwp_ret rz
 refine pwp_skip ?_
 refine pwp_seq ?_
 refine srve 26 [(2, pf a0 0), (3, pf a1 0), (19, B (!(a0.fDied == a1.fDied)))] [] ?_
 refine pc h (fun h => ?_) (fun h => ?_)
 refine srve 26 [(4, B false)] [] ?_
 cases h
 exact pwp_ret rz
 refine pwp_skip ?_
 refine pwp_seq ?_
 refine srv 4 26 [(21, A a0.fRow), (23, A a1.fRow)] [] ?_
 obtain ⟨v4, hv5, h⟩ := bindS h
 refine cF 24 (ok_laws_eqValueS hv5) ?_
 refine ve 1 26 [(25, B (!v4))] [] ?_
 refine pc h (fun h => ?_) (fun h => ?_)
 refine srve 26 [(4, B false)] [] ?_
 cases h
 exact pwp_ret rz
 refine pwp_skip ?_
 refine srve 26 [(4, B true)] [] ?_
 cases h
 exact pwp_ret rz
def impl_House_danger_1 (a0 : Int) (a1 : Int) (b0 : List T_impl_Edge) : Option Bool := (slices_Contains_impl_Edge_impl_Edge b0 (T_impl_Edge.mk a0 a1 3)).bind fun v1 => some v1
theorem ok_impl_House_danger_1 {a0 : Int} {a1 : Int} {b0 : List T_impl_Edge} {y : Bool} (h : impl_House_danger_1 a0 a1 b0 = some y) : OK Try.prog 121 [I a0, I a1, pf b0 0] (B y) := by
 refine ow Try.func121 fun Γ hX => ?_
 unfold impl_House_danger_1 at h
 refine srve 11 [(0, I a0), (1, I a1), (2, pf b0 0)] [] ?_
 refine srv 4 11 [(6, A b0), (9, E (T_impl_Edge.mk a0 a1 3))] [] ?_
 obtain ⟨v1, hv2, h⟩ := bindS h
 refine cF 10 (ok_slices_Contains_impl_Edge_impl_Edge hv2) ?_
 refine ve 1 11 [(5, B v1)] [] ?_
 cases h
 exact pwp_ret rz
def laws_szWriteS_l0 (a0 : List T_laws_Write) : Nat → Int → Int → Option Int
 | 0, _, _ => none
 | f4 + 1, x2, x3 => bif (decide (x3 < (a0.length : Int))) then (getI a0 x3).bind fun v7 => (laws_szWrite v7 x2).bind fun v9 => bif (decide (v9 < 0)) then some (-1) else (laws_szWriteS_l0 a0 f4) v9 (w64 (x3 + 1)) else some x2
def laws_szWriteS (a0 : List T_laws_Write) (a1 : Int) : Option Int := bif (decide ((w64 (a1 - (a0.length : Int))) < 0)) then some (-1) else laws_szWriteS_l0 a0 FUEL (w64 (a1 - (a0.length : Int))) 0
theorem ok_laws_szWriteS {a0 : List T_laws_Write} {a1 : Int} {y : Int} (h : laws_szWriteS a0 a1 = some y) : OK Try.prog 153 [A a0, I a1] (I y) := by
 refine ow Try.func153 fun Γ hX => ?_
 unfold laws_szWriteS at h
 refine srve 27 [(0, A a0), (1, I a1)] [] ?_
 refine srve 27 [(0, A a0), (1, I (w64 (a1 - (a0.length : Int))))] [] ?_
 refine pwp_seq ?_
 refine srve 27 [(0, A a0), (1, I (w64 (a1 - (a0.length : Int)))), (11, B (decide ((w64 (a1 - (a0.length : Int))) < 0)))] [] ?_
 refine pc h (fun h => ?_) (fun h => ?_)
 refine srve 27 [(4, I (-1))] [] ?_
 cases h
 exact pwp_ret rz
 refine pwp_skip ?_
 refine pwp_seq ?_
 refine srve 27 [(0, A a0), (1, I (w64 (a1 - (a0.length : Int)))), (5, I 0)] [] ?_
 refine pwp_block ?_
 refine pwp_loop (ι := Nat × Int × Int) (fun (f4, x2, x3) => (⟨27, [(0, A a0), (1, I x2), (5, I x3)], []⟩ : St)) (fun (f4, x2, x3) => laws_szWriteS_l0 a0 f4 x2 x3 = some y) Prod.fst (FUEL, (w64 (a1 - (a0.length : Int))), 0) h (it [0, 1, 5]) ?_
 rintro ⟨f4, x2, x3⟩ h
 dsimp only at h ⊢
 rcases f4 with _ | f4
 cases h
 rw [laws_szWriteS_l0] at h
 refine pwp_seq ?_
 refine srve 27 [(0, A a0), (1, I x2), (5, I x3), (15, B (decide (x3 < (a0.length : Int))))] [] ?_
 refine pc h (fun h => ?_) (fun h => ?_)
 refine pwp_skip ?_
 refine pwp_seq ?_
 refine pwp_block ?_
 refine srv 2 27 [(0, A a0), (1, I x2), (5, I x3), (18, A a0), (19, I x3)] [] ?_
 obtain ⟨v7, hv8, h⟩ := bindS h
 refine opsP_idx τ_ok 20 hv8 (by kernel_rfl) ?_
 refine v 2 27 [(0, A a0), (5, I x3), (21, E v7), (22, I x2)] [] ?_
 obtain ⟨v9, hv10, h⟩ := bindS h
 refine cF 23 (ok_laws_szWrite hv10) ?_
 refine ve 1 27 [(0, A a0), (1, I v9), (5, I x3)] [] ?_
 refine srve 27 [(0, A a0), (1, I v9), (5, I x3), (25, B (decide (v9 < 0)))] [] ?_
 refine pc h (fun h => ?_) (fun h => ?_)
 refine srve 27 [(4, I (-1))] [] ?_
 cases h
 exact pwp_ret rz
 refine pwp_skip ?_
 refine rve 27 [(0, A a0), (1, I v9), (5, I (w64 (x3 + 1)))] [] ?_
 exact ⟨(f4, v9, (w64 (x3 + 1))), h, Nat.lt_succ_self _, it [0, 1, 5]⟩
 refine pwp_exit ?_
 refine srve 27 [(4, I x2)] [] ?_
 cases h
 exact pwp_ret rz
def impl_RowOk (a0 : List T_impl_Value) : Option Bool := bif (decide ((a0.length : Int) ≤ 4)) then (slices_ContainsFunc_impl_Value_impl_Value a0 impl_RowOk_1).bind fun v1 => some (!v1) else some false
theorem ok_impl_RowOk {a0 : List T_impl_Value} {y : Bool} (h : impl_RowOk a0 = some y) : OK Try.prog 162 [A a0] (B y) := by
 refine ow Try.func162 fun Γ hX => ?_
 unfold impl_RowOk at h
 refine srve 11 [(0, A a0)] [] ?_
 refine srv 4 11 [(0, A a0), (6, B (decide ((a0.length : Int) ≤ 4)))] [] ?_
 rcases fk (decide ((a0.length : Int) ≤ 4)) with hc3 | hc3
 replace h := bT hc3 h
 rw [hc3]
 refine v 1 11 [(6, B true), (7, A a0)] [] ?_
 obtain ⟨v1, hv2, h⟩ := bindS h
 refine cF 8 (ok_slices_ContainsFunc_impl_Value_impl_Value (rfl) (fun _ w hw => ok_impl_RowOk_1 hw) hv2) ?_
 refine ve 3 11 [(2, B (!v1))] [] ?_
 cases h
 exact pwp_ret rz
 replace h := bF hc3 h
 rw [hc3]
 refine ve 5 11 [(2, B false)] [] ?_
 cases h
 exact pwp_ret rz
def impl_WritesOk_j1 (x1 : Int) (K3 : Int → Option Bool) (x7 : Bool) : Option Bool := bif x7 then some false else K3 (w64 (x1 + 1))
def impl_WritesOk_l0 (a0 : List T_impl_Write) : Nat → Int → Option Bool
 | 0, _ => none
 | f2 + 1, x1 => bif (decide (x1 < (a0.length : Int))) then (getI a0 x1).bind fun v5 => (impl_keyOk v5.fKey).bind fun v9 => bif (!v9) then impl_WritesOk_j1 x1 (impl_WritesOk_l0 a0 f2) true else (impl_RowOk v5.fRow).bind fun v11 => bif (!v11) then impl_WritesOk_j1 x1 (impl_WritesOk_l0 a0 f2) true else bif v5.fGone then bif (decide ((v5.fRow.length : Int) > 0)) then impl_WritesOk_j1 x1 (impl_WritesOk_l0 a0 f2) true else bif (decide (x1 > 0)) then (getI a0 (w64 (x1 - 1))).bind fun v13 => impl_WritesOk_j1 x1 (impl_WritesOk_l0 a0 f2) (decide (v13.fKey ≥ v5.fKey)) else impl_WritesOk_j1 x1 (impl_WritesOk_l0 a0 f2) false else bif (decide (x1 > 0)) then (getI a0 (w64 (x1 - 1))).bind fun v17 => impl_WritesOk_j1 x1 (impl_WritesOk_l0 a0 f2) (decide (v17.fKey ≥ v5.fKey)) else impl_WritesOk_j1 x1 (impl_WritesOk_l0 a0 f2) false else some (decide ((a0.length : Int) ≤ 5))
def impl_WritesOk (a0 : List T_impl_Write) : Option Bool := impl_WritesOk_l0 a0 FUEL 0
theorem ok_impl_WritesOk {a0 : List T_impl_Write} {y : Bool} (h : impl_WritesOk a0 = some y) : OK Try.prog 165 [A a0] (B y) := by
 refine ow Try.func165 fun Γ hX => ?_
 unfold impl_WritesOk at h
 refine srveM [4] 51 [(0, A a0)] [] ?_
 refine pwp_seq ?_
 refine srveM [4] 51 [(0, A a0), (5, A a0), (6, I (a0.length : Int)), (7, I 0)] [] ?_
 refine pwp_block ?_
 refine pwp_loop (ι := Nat × Int) (fun (f2, x1) => (⟨51, [(0, A a0), (5, A a0), (6, I (a0.length : Int)), (7, I x1)], []⟩ : St)) (fun (f2, x1) => impl_WritesOk_l0 a0 f2 x1 = some y) Prod.fst (FUEL, 0) h (it [0, 5, 6, 7]) ?_
 rintro ⟨f2, x1⟩ h
 dsimp only at h ⊢
 rcases f2 with _ | f2
 cases h
 rw [impl_WritesOk_l0] at h
 refine srveM [4] 51 [(0, A a0), (5, A a0), (6, I (a0.length : Int)), (7, I x1), (8, B (decide (x1 < (a0.length : Int))))] [] ?_
 refine pwp_seq ?_
 refine pc h (fun h => ?_) (fun h => ?_)
 refine pwp_skip ?_
 refine pwp_seq ?_
 refine pwp_block ?_
 refine srvM [4] 1 51 [(0, A a0), (5, A a0), (6, I (a0.length : Int)), (7, I x1), (9, I x1)] [] ?_
 obtain ⟨v5, hv6, h⟩ := bindS h
 refine opsP_idx τ_ok 10 hv6 (by kernel_rfl) ?_
 refine veM [4] 4 51 [(0, A a0), (3, I x1), (4, .ptr 0 0 0), (5, A a0), (6, I (a0.length : Int)), (7, I x1)] [sc 0 v5] ?_
 refine pwp_seq ?_
 refine pwp_join (σ := Bool) (fun x7 => (⟨51, [(0, A a0), (5, A a0), (6, I (a0.length : Int)), (7, I x1), (46, B x7)], [sc 0 v5]⟩ : St)) (fun x7 => impl_WritesOk_j1 x1 (impl_WritesOk_l0 a0 f2) x7 = some y) ?_ ?_
 refine ip 51 [(0, A a0), (3, I x1), (4, .ptr 0 0 0), (5, A a0), (6, I (a0.length : Int)), (7, I x1)] [sc 0 v5] ?_
 refine pwp_any ([[0], [0], [], [], [], [0], [0], [], [], [], [], [0], [0], [], [0], [0], [], [], [], [], [], [], [], [], [], [], [], [], [], [], [0], [0], [], [], []]) ([[], [], [], [], [], [], [], [], [], [], [], [], [], [], [], [], [], [], [], [], [], [], [], [], [], [], [], [], [], [], [], [], [], [], []]) rfl (by kernel_rfl) ?_
 refine qvM [4] [0] (hB trivial) 2 51 [(13, I v5.fKey), (0, A a0), (3, I x1), (4, .ptr 0 0 0), (5, A a0), (6, I (a0.length : Int)), (7, I x1)] [sc 0 v5] ?_
 obtain ⟨v9, hv10, h⟩ := bindS h
 refine qX (some 14) (B v9) 51 [(14, B v9), (0, A a0), (3, I x1), (4, .ptr 0 0 0), (5, A a0), (6, I (a0.length : Int)), (7, I x1)] [sc 0 v5] (fun Γ' hΓ => CoreE.of_g (callV_sound (τ := τ) (by kernel_rfl) rfl (ok_impl_keyOk hv10) (FzTo.frz rfl))) trivial ?_
 refine qvM [4] [] trivial 2 51 [(16, B (!v9)), (0, A a0), (3, I x1), (4, .ptr 0 0 0), (5, A a0), (6, I (a0.length : Int)), (7, I x1)] [sc 0 v5] ?_
 rcases fk (!v9) with hc22 | hc22
 replace h := bT hc22 h
 rw [hc22]
 refine qvM [4] [0] (hB trivial) 2 51 [(18, .lit undef), (17, .lit undef), (16, B true), (0, A a0), (3, I x1), (4, .ptr 0 0 0), (5, A a0), (6, I (a0.length : Int)), (7, I x1)] [sc 0 v5] ?_
 refine qvM [4] [] trivial 4 51 [(22, B true), (20, .lit undef), (19, .lit undef), (18, .lit undef), (17, .lit undef), (0, A a0), (3, I x1), (4, .ptr 0 0 0), (5, A a0), (6, I (a0.length : Int)), (7, I x1)] [sc 0 v5] ?_
 refine qvM [4] [0] (hB trivial) 2 51 [(24, .lit undef), (23, .lit undef), (22, B true), (20, .lit undef), (19, .lit undef), (18, .lit undef), (17, .lit undef), (0, A a0), (3, I x1), (4, .ptr 0 0 0), (5, A a0), (6, I (a0.length : Int)), (7, I x1)] [sc 0 v5] ?_
 refine qvM [4] [] trivial 1 51 [(25, .lit undef), (24, .lit undef), (23, .lit undef), (22, B true), (20, .lit undef), (19, .lit undef), (18, .lit undef), (17, .lit undef), (0, A a0), (3, I x1), (4, .ptr 0 0 0), (5, A a0), (6, I (a0.length : Int)), (7, I x1)] [sc 0 v5] ?_
 refine qvM [4] [0] (hB trivial) 2 51 [(27, .lit undef), (26, .lit undef), (25, .lit undef), (24, .lit undef), (23, .lit undef), (22, B true), (20, .lit undef), (19, .lit undef), (18, .lit undef), (17, .lit undef), (0, A a0), (3, I x1), (4, .ptr 0 0 0), (5, A a0), (6, I (a0.length : Int)), (7, I x1)] [sc 0 v5] ?_
 refine qvM [4] [] trivial 14 51 [(41, .lit undef), (40, .lit undef), (39, .lit undef), (38, .lit undef), (37, .lit undef), (36, .lit undef), (35, .lit undef), (34, .lit undef), (33, .lit undef), (32, B true), (30, .lit undef), (29, .lit undef), (28, .lit undef), (27, .lit undef), (26, .lit undef), (25, .lit undef), (24, .lit undef), (23, .lit undef), (20, .lit undef), (19, .lit undef), (18, .lit undef), (17, .lit undef), (0, A a0), (4, .ptr 0 0 0), (5, A a0), (6, I (a0.length : Int)), (7, I x1)] [sc 0 v5] ?_
 refine qvM [4] [0] (hB trivial) 2 51 [(43, .lit undef), (42, .lit undef), (41, .lit undef), (40, .lit undef), (39, .lit undef), (38, .lit undef), (37, .lit undef), (36, .lit undef), (35, .lit undef), (34, .lit undef), (33, .lit undef), (32, B true), (30, .lit undef), (29, .lit undef), (28, .lit undef), (27, .lit undef), (26, .lit undef), (25, .lit undef), (24, .lit undef), (23, .lit undef), (20, .lit undef), (19, .lit undef), (18, .lit undef), (17, .lit undef), (0, A a0), (5, A a0), (6, I (a0.length : Int)), (7, I x1)] [sc 0 v5] ?_
 refine qvM [4] [] trivial 3 51 [(46, B true), (45, .lit undef), (44, .lit undef), (43, .lit undef), (42, .lit undef), (41, .lit undef), (40, .lit undef), (39, .lit undef), (38, .lit undef), (37, .lit undef), (36, .lit undef), (35, .lit undef), (34, .lit undef), (33, .lit undef), (30, .lit undef), (29, .lit undef), (28, .lit undef), (27, .lit undef), (26, .lit undef), (25, .lit undef), (24, .lit undef), (23, .lit undef), (20, .lit undef), (19, .lit undef), (18, .lit undef), (17, .lit undef), (0, A a0), (5, A a0), (6, I (a0.length : Int)), (7, I x1)] [sc 0 v5] ?_
 refine qn 51 [(0, A a0), (5, A a0), (6, I (a0.length : Int)), (7, I x1), (17, .lit undef), (18, .lit undef), (19, .lit undef), (20, .lit undef), (23, .lit undef), (24, .lit undef), (25, .lit undef), (26, .lit undef), (27, .lit undef), (28, .lit undef), (29, .lit undef), (30, .lit undef), (33, .lit undef), (34, .lit undef), (35, .lit undef), (36, .lit undef), (37, .lit undef), (38, .lit undef), (39, .lit undef), (40, .lit undef), (41, .lit undef), (42, .lit undef), (43, .lit undef), (44, .lit undef), (45, .lit undef), (46, B true)] [sc 0 v5] ?_
 exact ⟨true, h, it [0, 5, 6, 7, 46]⟩
 replace h := bF hc22 h
 rw [hc22]
 refine qvM [4] [0] (hB trivial) 2 51 [(18, A v5.fRow), (17, .ptr 0 0 1), (16, B false), (0, A a0), (3, I x1), (4, .ptr 0 0 0), (5, A a0), (6, I (a0.length : Int)), (7, I x1)] [sc 0 v5] ?_
 obtain ⟨v11, hv12, h⟩ := bindS h
 refine qX (some 19) (B v11) 51 [(19, B v11), (18, A v5.fRow), (17, .ptr 0 0 1), (16, B false), (0, A a0), (3, I x1), (4, .ptr 0 0 0), (5, A a0), (6, I (a0.length : Int)), (7, I x1)] [sc 0 v5] (fun Γ' hΓ => CoreE.of_g (callV_sound (τ := τ) (by kernel_rfl) rfl (ok_impl_RowOk hv12) (FzTo.frz rfl))) trivial ?_
 refine qvM [4] [] trivial 3 51 [(22, B (!v11)), (20, B (!v11)), (19, B v11), (18, A v5.fRow), (17, .ptr 0 0 1), (0, A a0), (3, I x1), (4, .ptr 0 0 0), (5, A a0), (6, I (a0.length : Int)), (7, I x1)] [sc 0 v5] ?_
 rcases fk (!v11) with hc21 | hc21
 replace h := bT hc21 h
 rw [hc21]
 refine qvM [4] [0] (hB trivial) 2 51 [(24, .lit undef), (23, .lit undef), (22, B true), (20, B true), (19, B v11), (18, A v5.fRow), (17, .ptr 0 0 1), (0, A a0), (3, I x1), (4, .ptr 0 0 0), (5, A a0), (6, I (a0.length : Int)), (7, I x1)] [sc 0 v5] ?_
 refine qvM [4] [] trivial 1 51 [(25, .lit undef), (24, .lit undef), (23, .lit undef), (22, B true), (20, B true), (19, B v11), (18, A v5.fRow), (17, .ptr 0 0 1), (0, A a0), (3, I x1), (4, .ptr 0 0 0), (5, A a0), (6, I (a0.length : Int)), (7, I x1)] [sc 0 v5] ?_
 refine qvM [4] [0] (hB trivial) 2 51 [(27, .lit undef), (26, .lit undef), (25, .lit undef), (24, .lit undef), (23, .lit undef), (22, B true), (20, B true), (19, B v11), (18, A v5.fRow), (17, .ptr 0 0 1), (0, A a0), (3, I x1), (4, .ptr 0 0 0), (5, A a0), (6, I (a0.length : Int)), (7, I x1)] [sc 0 v5] ?_
 refine qvM [4] [] trivial 14 51 [(41, .lit undef), (40, .lit undef), (39, .lit undef), (38, .lit undef), (37, .lit undef), (36, .lit undef), (35, .lit undef), (34, .lit undef), (33, .lit undef), (32, B true), (30, .lit undef), (29, .lit undef), (28, .lit undef), (27, .lit undef), (26, .lit undef), (25, .lit undef), (24, .lit undef), (23, .lit undef), (20, B true), (19, B v11), (18, A v5.fRow), (17, .ptr 0 0 1), (0, A a0), (4, .ptr 0 0 0), (5, A a0), (6, I (a0.length : Int)), (7, I x1)] [sc 0 v5] ?_
 refine qvM [4] [0] (hB trivial) 2 51 [(43, .lit undef), (42, .lit undef), (41, .lit undef), (40, .lit undef), (39, .lit undef), (38, .lit undef), (37, .lit undef), (36, .lit undef), (35, .lit undef), (34, .lit undef), (33, .lit undef), (32, B true), (30, .lit undef), (29, .lit undef), (28, .lit undef), (27, .lit undef), (26, .lit undef), (25, .lit undef), (24, .lit undef), (23, .lit undef), (20, B true), (19, B v11), (18, A v5.fRow), (17, .ptr 0 0 1), (0, A a0), (5, A a0), (6, I (a0.length : Int)), (7, I x1)] [sc 0 v5] ?_
 refine qvM [4] [] trivial 3 51 [(46, B true), (45, .lit undef), (44, .lit undef), (43, .lit undef), (42, .lit undef), (41, .lit undef), (40, .lit undef), (39, .lit undef), (38, .lit undef), (37, .lit undef), (36, .lit undef), (35, .lit undef), (34, .lit undef), (33, .lit undef), (30, .lit undef), (29, .lit undef), (28, .lit undef), (27, .lit undef), (26, .lit undef), (25, .lit undef), (24, .lit undef), (23, .lit undef), (20, B true), (19, B v11), (18, A v5.fRow), (17, .ptr 0 0 1), (0, A a0), (5, A a0), (6, I (a0.length : Int)), (7, I x1)] [sc 0 v5] ?_
 refine qn 51 [(0, A a0), (5, A a0), (6, I (a0.length : Int)), (7, I x1), (17, .ptr 0 0 1), (18, A v5.fRow), (19, B v11), (20, B true), (23, .lit undef), (24, .lit undef), (25, .lit undef), (26, .lit undef), (27, .lit undef), (28, .lit undef), (29, .lit undef), (30, .lit undef), (33, .lit undef), (34, .lit undef), (35, .lit undef), (36, .lit undef), (37, .lit undef), (38, .lit undef), (39, .lit undef), (40, .lit undef), (41, .lit undef), (42, .lit undef), (43, .lit undef), (44, .lit undef), (45, .lit undef), (46, B true)] [sc 0 v5] ?_
 exact ⟨true, h, it [0, 5, 6, 7, 46]⟩
 replace h := bF hc21 h
 rw [hc21]
 refine qvM [4] [0] (hB trivial) 2 51 [(24, B v5.fGone), (23, .ptr 0 0 2), (22, B false), (20, B false), (19, B v11), (18, A v5.fRow), (17, .ptr 0 0 1), (0, A a0), (3, I x1), (4, .ptr 0 0 0), (5, A a0), (6, I (a0.length : Int)), (7, I x1)] [sc 0 v5] ?_
 refine qvM [4] [] trivial 1 51 [(25, B v5.fGone), (24, B v5.fGone), (23, .ptr 0 0 2), (22, B false), (20, B false), (19, B v11), (18, A v5.fRow), (17, .ptr 0 0 1), (0, A a0), (3, I x1), (4, .ptr 0 0 0), (5, A a0), (6, I (a0.length : Int)), (7, I x1)] [sc 0 v5] ?_
 rcases Bool.eq_false_or_eq_true v5.fGone with hc20 | hc20
 replace h := bT hc20 h
 rw [hc20]
 refine qvM [4] [0] (hB trivial) 2 51 [(27, A v5.fRow), (26, .ptr 0 0 1), (25, B true), (24, B true), (23, .ptr 0 0 2), (22, B false), (20, B false), (19, B v11), (18, A v5.fRow), (17, .ptr 0 0 1), (0, A a0), (3, I x1), (4, .ptr 0 0 0), (5, A a0), (6, I (a0.length : Int)), (7, I x1)] [sc 0 v5] ?_
 refine qvM [4] [] trivial 5 51 [(32, B (decide ((v5.fRow.length : Int) > 0))), (30, B (decide ((v5.fRow.length : Int) > 0))), (29, B (decide ((v5.fRow.length : Int) > 0))), (28, I (v5.fRow.length : Int)), (27, A v5.fRow), (26, .ptr 0 0 1), (25, B true), (24, B true), (23, .ptr 0 0 2), (20, B false), (19, B v11), (18, A v5.fRow), (17, .ptr 0 0 1), (0, A a0), (3, I x1), (4, .ptr 0 0 0), (5, A a0), (6, I (a0.length : Int)), (7, I x1)] [sc 0 v5] ?_
 rcases fk (decide ((v5.fRow.length : Int) > 0)) with hc16 | hc16
 replace h := bT hc16 h
 rw [hc16]
 refine qvM [4] [] trivial 9 51 [(41, .lit undef), (40, .lit undef), (39, .lit undef), (38, .lit undef), (37, .lit undef), (36, .lit undef), (35, .lit undef), (34, .lit undef), (33, .lit undef), (32, B true), (30, B true), (29, B true), (28, I (v5.fRow.length : Int)), (27, A v5.fRow), (26, .ptr 0 0 1), (25, B true), (24, B true), (23, .ptr 0 0 2), (20, B false), (19, B v11), (18, A v5.fRow), (17, .ptr 0 0 1), (0, A a0), (4, .ptr 0 0 0), (5, A a0), (6, I (a0.length : Int)), (7, I x1)] [sc 0 v5] ?_
 refine qvM [4] [0] (hB trivial) 2 51 [(43, .lit undef), (42, .lit undef), (41, .lit undef), (40, .lit undef), (39, .lit undef), (38, .lit undef), (37, .lit undef), (36, .lit undef), (35, .lit undef), (34, .lit undef), (33, .lit undef), (32, B true), (30, B true), (29, B true), (28, I (v5.fRow.length : Int)), (27, A v5.fRow), (26, .ptr 0 0 1), (25, B true), (24, B true), (23, .ptr 0 0 2), (20, B false), (19, B v11), (18, A v5.fRow), (17, .ptr 0 0 1), (0, A a0), (5, A a0), (6, I (a0.length : Int)), (7, I x1)] [sc 0 v5] ?_
 refine qvM [4] [] trivial 3 51 [(46, B true), (45, .lit undef), (44, .lit undef), (43, .lit undef), (42, .lit undef), (41, .lit undef), (40, .lit undef), (39, .lit undef), (38, .lit undef), (37, .lit undef), (36, .lit undef), (35, .lit undef), (34, .lit undef), (33, .lit undef), (30, B true), (29, B true), (28, I (v5.fRow.length : Int)), (27, A v5.fRow), (26, .ptr 0 0 1), (25, B true), (24, B true), (23, .ptr 0 0 2), (20, B false), (19, B v11), (18, A v5.fRow), (17, .ptr 0 0 1), (0, A a0), (5, A a0), (6, I (a0.length : Int)), (7, I x1)] [sc 0 v5] ?_
 refine qn 51 [(0, A a0), (5, A a0), (6, I (a0.length : Int)), (7, I x1), (17, .ptr 0 0 1), (18, A v5.fRow), (19, B v11), (20, B false), (23, .ptr 0 0 2), (24, B true), (25, B true), (26, .ptr 0 0 1), (27, A v5.fRow), (28, I (v5.fRow.length : Int)), (29, B true), (30, B true), (33, .lit undef), (34, .lit undef), (35, .lit undef), (36, .lit undef), (37, .lit undef), (38, .lit undef), (39, .lit undef), (40, .lit undef), (41, .lit undef), (42, .lit undef), (43, .lit undef), (44, .lit undef), (45, .lit undef), (46, B true)] [sc 0 v5] ?_
 exact ⟨true, h, it [0, 5, 6, 7, 46]⟩
 replace h := bF hc16 h
 rw [hc16]
 refine qvM [4] [] trivial 3 51 [(35, B (decide (x1 > 0))), (34, B (decide (x1 > 0))), (33, I x1), (32, B false), (30, B false), (29, B false), (28, I (v5.fRow.length : Int)), (27, A v5.fRow), (26, .ptr 0 0 1), (25, B true), (24, B true), (23, .ptr 0 0 2), (20, B false), (19, B v11), (18, A v5.fRow), (17, .ptr 0 0 1), (0, A a0), (3, I x1), (4, .ptr 0 0 0), (5, A a0), (6, I (a0.length : Int)), (7, I x1)] [sc 0 v5] ?_
 rcases fk (decide (x1 > 0)) with hc15 | hc15
 replace h := bT hc15 h
 rw [hc15]
 refine qvM [4] [] trivial 3 51 [(38, I (w64 (x1 - 1))), (37, I x1), (36, A a0), (35, B true), (34, B true), (33, I x1), (32, B false), (30, B false), (29, B false), (28, I (v5.fRow.length : Int)), (27, A v5.fRow), (26, .ptr 0 0 1), (25, B true), (24, B true), (23, .ptr 0 0 2), (20, B false), (19, B v11), (18, A v5.fRow), (17, .ptr 0 0 1), (0, A a0), (4, .ptr 0 0 0), (5, A a0), (6, I (a0.length : Int)), (7, I x1)] [sc 0 v5] ?_
 obtain ⟨v13, hv14, h⟩ := bindS h
 refine qX (some 39) (pf v13 0) 51 [(39, pf v13 0), (38, I (w64 (x1 - 1))), (37, I x1), (36, A a0), (35, B true), (34, B true), (33, I x1), (32, B false), (30, B false), (29, B false), (28, I (v5.fRow.length : Int)), (27, A v5.fRow), (26, .ptr 0 0 1), (25, B true), (24, B true), (23, .ptr 0 0 2), (20, B false), (19, B v11), (18, A v5.fRow), (17, .ptr 0 0 1), (0, A a0), (4, .ptr 0 0 0), (5, A a0), (6, I (a0.length : Int)), (7, I x1)] [sc 0 v5] (fun Γ' hΓ => CoreE.of_y (idxV_sound τ_ok (by kernel_rfl) hv14)) trivial ?_
 refine qvM [4] [] trivial 2 51 [(41, I v13.fKey), (40, pf v13 0), (39, pf v13 0), (38, I (w64 (x1 - 1))), (37, I x1), (36, A a0), (35, B true), (34, B true), (33, I x1), (32, B false), (30, B false), (29, B false), (28, I (v5.fRow.length : Int)), (27, A v5.fRow), (26, .ptr 0 0 1), (25, B true), (24, B true), (23, .ptr 0 0 2), (20, B false), (19, B v11), (18, A v5.fRow), (17, .ptr 0 0 1), (0, A a0), (4, .ptr 0 0 0), (5, A a0), (6, I (a0.length : Int)), (7, I x1)] [sc 0 v5] ?_
 refine qvM [4] [0] (hB trivial) 2 51 [(43, I v5.fKey), (42, .ptr 0 0 0), (41, I v13.fKey), (40, pf v13 0), (39, pf v13 0), (38, I (w64 (x1 - 1))), (37, I x1), (36, A a0), (35, B true), (34, B true), (33, I x1), (32, B false), (30, B false), (29, B false), (28, I (v5.fRow.length : Int)), (27, A v5.fRow), (26, .ptr 0 0 1), (25, B true), (24, B true), (23, .ptr 0 0 2), (20, B false), (19, B v11), (18, A v5.fRow), (17, .ptr 0 0 1), (0, A a0), (5, A a0), (6, I (a0.length : Int)), (7, I x1)] [sc 0 v5] ?_
 refine qvM [4] [] trivial 3 51 [(46, B (decide (v13.fKey ≥ v5.fKey))), (45, B (decide (v13.fKey ≥ v5.fKey))), (44, B (decide (v13.fKey ≥ v5.fKey))), (43, I v5.fKey), (42, .ptr 0 0 0), (41, I v13.fKey), (40, pf v13 0), (39, pf v13 0), (38, I (w64 (x1 - 1))), (37, I x1), (36, A a0), (35, B true), (34, B true), (33, I x1), (30, B false), (29, B false), (28, I (v5.fRow.length : Int)), (27, A v5.fRow), (26, .ptr 0 0 1), (25, B true), (24, B true), (23, .ptr 0 0 2), (20, B false), (19, B v11), (18, A v5.fRow), (17, .ptr 0 0 1), (0, A a0), (5, A a0), (6, I (a0.length : Int)), (7, I x1)] [sc 0 v5] ?_
 refine qn 51 [(0, A a0), (5, A a0), (6, I (a0.length : Int)), (7, I x1), (17, .ptr 0 0 1), (18, A v5.fRow), (19, B v11), (20, B false), (23, .ptr 0 0 2), (24, B true), (25, B true), (26, .ptr 0 0 1), (27, A v5.fRow), (28, I (v5.fRow.length : Int)), (29, B false), (30, B false), (33, I x1), (34, B true), (35, B true), (36, A a0), (37, I x1), (38, I (w64 (x1 - 1))), (39, pf v13 0), (40, pf v13 0), (41, I v13.fKey), (42, .ptr 0 0 0), (43, I v5.fKey), (44, B (decide (v13.fKey ≥ v5.fKey))), (45, B (decide (v13.fKey ≥ v5.fKey))), (46, B (decide (v13.fKey ≥ v5.fKey)))] [sc 0 v5] ?_
 exact ⟨(decide (v13.fKey ≥ v5.fKey)), h, it [0, 5, 6, 7, 46]⟩
 replace h := bF hc15 h
 rw [hc15]
 refine qvM [4] [] trivial 6 51 [(41, .lit undef), (40, .lit undef), (39, .lit undef), (38, .lit undef), (37, .lit undef), (36, .lit undef), (35, B false), (34, B false), (33, I x1), (32, B false), (30, B false), (29, B false), (28, I (v5.fRow.length : Int)), (27, A v5.fRow), (26, .ptr 0 0 1), (25, B true), (24, B true), (23, .ptr 0 0 2), (20, B false), (19, B v11), (18, A v5.fRow), (17, .ptr 0 0 1), (0, A a0), (4, .ptr 0 0 0), (5, A a0), (6, I (a0.length : Int)), (7, I x1)] [sc 0 v5] ?_
 refine qvM [4] [0] (hB trivial) 2 51 [(43, .lit undef), (42, .lit undef), (41, .lit undef), (40, .lit undef), (39, .lit undef), (38, .lit undef), (37, .lit undef), (36, .lit undef), (35, B false), (34, B false), (33, I x1), (32, B false), (30, B false), (29, B false), (28, I (v5.fRow.length : Int)), (27, A v5.fRow), (26, .ptr 0 0 1), (25, B true), (24, B true), (23, .ptr 0 0 2), (20, B false), (19, B v11), (18, A v5.fRow), (17, .ptr 0 0 1), (0, A a0), (5, A a0), (6, I (a0.length : Int)), (7, I x1)] [sc 0 v5] ?_
 refine qvM [4] [] trivial 3 51 [(46, B false), (45, B false), (44, .lit undef), (43, .lit undef), (42, .lit undef), (41, .lit undef), (40, .lit undef), (39, .lit undef), (38, .lit undef), (37, .lit undef), (36, .lit undef), (35, B false), (34, B false), (33, I x1), (30, B false), (29, B false), (28, I (v5.fRow.length : Int)), (27, A v5.fRow), (26, .ptr 0 0 1), (25, B true), (24, B true), (23, .ptr 0 0 2), (20, B false), (19, B v11), (18, A v5.fRow), (17, .ptr 0 0 1), (0, A a0), (5, A a0), (6, I (a0.length : Int)), (7, I x1)] [sc 0 v5] ?_
 refine qn 51 [(0, A a0), (5, A a0), (6, I (a0.length : Int)), (7, I x1), (17, .ptr 0 0 1), (18, A v5.fRow), (19, B v11), (20, B false), (23, .ptr 0 0 2), (24, B true), (25, B true), (26, .ptr 0 0 1), (27, A v5.fRow), (28, I (v5.fRow.length : Int)), (29, B false), (30, B false), (33, I x1), (34, B false), (35, B false), (36, .lit undef), (37, .lit undef), (38, .lit undef), (39, .lit undef), (40, .lit undef), (41, .lit undef), (42, .lit undef), (43, .lit undef), (44, .lit undef), (45, B false), (46, B false)] [sc 0 v5] ?_
 exact ⟨false, h, it [0, 5, 6, 7, 46]⟩
 replace h := bF hc20 h
 rw [hc20]
 refine qvM [4] [0] (hB trivial) 2 51 [(27, .lit undef), (26, .lit undef), (25, B false), (24, B false), (23, .ptr 0 0 2), (22, B false), (20, B false), (19, B v11), (18, A v5.fRow), (17, .ptr 0 0 1), (0, A a0), (3, I x1), (4, .ptr 0 0 0), (5, A a0), (6, I (a0.length : Int)), (7, I x1)] [sc 0 v5] ?_
 refine qvM [4] [] trivial 8 51 [(35, B (decide (x1 > 0))), (34, B (decide (x1 > 0))), (33, I x1), (32, B false), (30, B false), (29, .lit undef), (28, .lit undef), (27, .lit undef), (26, .lit undef), (25, B false), (24, B false), (23, .ptr 0 0 2), (20, B false), (19, B v11), (18, A v5.fRow), (17, .ptr 0 0 1), (0, A a0), (3, I x1), (4, .ptr 0 0 0), (5, A a0), (6, I (a0.length : Int)), (7, I x1)] [sc 0 v5] ?_
 rcases fk (decide (x1 > 0)) with hc19 | hc19
 replace h := bT hc19 h
 rw [hc19]
 refine qvM [4] [] trivial 3 51 [(38, I (w64 (x1 - 1))), (37, I x1), (36, A a0), (35, B true), (34, B true), (33, I x1), (32, B false), (30, B false), (29, .lit undef), (28, .lit undef), (27, .lit undef), (26, .lit undef), (25, B false), (24, B false), (23, .ptr 0 0 2), (20, B false), (19, B v11), (18, A v5.fRow), (17, .ptr 0 0 1), (0, A a0), (4, .ptr 0 0 0), (5, A a0), (6, I (a0.length : Int)), (7, I x1)] [sc 0 v5] ?_
 obtain ⟨v17, hv18, h⟩ := bindS h
 refine qX (some 39) (pf v17 0) 51 [(39, pf v17 0), (38, I (w64 (x1 - 1))), (37, I x1), (36, A a0), (35, B true), (34, B true), (33, I x1), (32, B false), (30, B false), (29, .lit undef), (28, .lit undef), (27, .lit undef), (26, .lit undef), (25, B false), (24, B false), (23, .ptr 0 0 2), (20, B false), (19, B v11), (18, A v5.fRow), (17, .ptr 0 0 1), (0, A a0), (4, .ptr 0 0 0), (5, A a0), (6, I (a0.length : Int)), (7, I x1)] [sc 0 v5] (fun Γ' hΓ => CoreE.of_y (idxV_sound τ_ok (by kernel_rfl) hv18)) trivial ?_
 refine qvM [4] [] trivial 2 51 [(41, I v17.fKey), (40, pf v17 0), (39, pf v17 0), (38, I (w64 (x1 - 1))), (37, I x1), (36, A a0), (35, B true), (34, B true), (33, I x1), (32, B false), (30, B false), (29, .lit undef), (28, .lit undef), (27, .lit undef), (26, .lit undef), (25, B false), (24, B false), (23, .ptr 0 0 2), (20, B false), (19, B v11), (18, A v5.fRow), (17, .ptr 0 0 1), (0, A a0), (4, .ptr 0 0 0), (5, A a0), (6, I (a0.length : Int)), (7, I x1)] [sc 0 v5] ?_
 refine qvM [4] [0] (hB trivial) 2 51 [(43, I v5.fKey), (42, .ptr 0 0 0), (41, I v17.fKey), (40, pf v17 0), (39, pf v17 0), (38, I (w64 (x1 - 1))), (37, I x1), (36, A a0), (35, B true), (34, B true), (33, I x1), (32, B false), (30, B false), (29, .lit undef), (28, .lit undef), (27, .lit undef), (26, .lit undef), (25, B false), (24, B false), (23, .ptr 0 0 2), (20, B false), (19, B v11), (18, A v5.fRow), (17, .ptr 0 0 1), (0, A a0), (5, A a0), (6, I (a0.length : Int)), (7, I x1)] [sc 0 v5] ?_
 refine qvM [4] [] trivial 3 51 [(46, B (decide (v17.fKey ≥ v5.fKey))), (45, B (decide (v17.fKey ≥ v5.fKey))), (44, B (decide (v17.fKey ≥ v5.fKey))), (43, I v5.fKey), (42, .ptr 0 0 0), (41, I v17.fKey), (40, pf v17 0), (39, pf v17 0), (38, I (w64 (x1 - 1))), (37, I x1), (36, A a0), (35, B true), (34, B true), (33, I x1), (30, B false), (29, .lit undef), (28, .lit undef), (27, .lit undef), (26, .lit undef), (25, B false), (24, B false), (23, .ptr 0 0 2), (20, B false), (19, B v11), (18, A v5.fRow), (17, .ptr 0 0 1), (0, A a0), (5, A a0), (6, I (a0.length : Int)), (7, I x1)] [sc 0 v5] ?_
 refine qn 51 [(0, A a0), (5, A a0), (6, I (a0.length : Int)), (7, I x1), (17, .ptr 0 0 1), (18, A v5.fRow), (19, B v11), (20, B false), (23, .ptr 0 0 2), (24, B false), (25, B false), (26, .lit undef), (27, .lit undef), (28, .lit undef), (29, .lit undef), (30, B false), (33, I x1), (34, B true), (35, B true), (36, A a0), (37, I x1), (38, I (w64 (x1 - 1))), (39, pf v17 0), (40, pf v17 0), (41, I v17.fKey), (42, .ptr 0 0 0), (43, I v5.fKey), (44, B (decide (v17.fKey ≥ v5.fKey))), (45, B (decide (v17.fKey ≥ v5.fKey))), (46, B (decide (v17.fKey ≥ v5.fKey)))] [sc 0 v5] ?_
 exact ⟨(decide (v17.fKey ≥ v5.fKey)), h, it [0, 5, 6, 7, 46]⟩
 replace h := bF hc19 h
 rw [hc19]
 refine qvM [4] [] trivial 6 51 [(41, .lit undef), (40, .lit undef), (39, .lit undef), (38, .lit undef), (37, .lit undef), (36, .lit undef), (35, B false), (34, B false), (33, I x1), (32, B false), (30, B false), (29, .lit undef), (28, .lit undef), (27, .lit undef), (26, .lit undef), (25, B false), (24, B false), (23, .ptr 0 0 2), (20, B false), (19, B v11), (18, A v5.fRow), (17, .ptr 0 0 1), (0, A a0), (4, .ptr 0 0 0), (5, A a0), (6, I (a0.length : Int)), (7, I x1)] [sc 0 v5] ?_
 refine qvM [4] [0] (hB trivial) 2 51 [(43, .lit undef), (42, .lit undef), (41, .lit undef), (40, .lit undef), (39, .lit undef), (38, .lit undef), (37, .lit undef), (36, .lit undef), (35, B false), (34, B false), (33, I x1), (32, B false), (30, B false), (29, .lit undef), (28, .lit undef), (27, .lit undef), (26, .lit undef), (25, B false), (24, B false), (23, .ptr 0 0 2), (20, B false), (19, B v11), (18, A v5.fRow), (17, .ptr 0 0 1), (0, A a0), (5, A a0), (6, I (a0.length : Int)), (7, I x1)] [sc 0 v5] ?_
 refine qvM [4] [] trivial 3 51 [(46, B false), (45, B false), (44, .lit undef), (43, .lit undef), (42, .lit undef), (41, .lit undef), (40, .lit undef), (39, .lit undef), (38, .lit undef), (37, .lit undef), (36, .lit undef), (35, B false), (34, B false), (33, I x1), (30, B false), (29, .lit undef), (28, .lit undef), (27, .lit undef), (26, .lit undef), (25, B false), (24, B false), (23, .ptr 0 0 2), (20, B false), (19, B v11), (18, A v5.fRow), (17, .ptr 0 0 1), (0, A a0), (5, A a0), (6, I (a0.length : Int)), (7, I x1)] [sc 0 v5] ?_
 refine qn 51 [(0, A a0), (5, A a0), (6, I (a0.length : Int)), (7, I x1), (17, .ptr 0 0 1), (18, A v5.fRow), (19, B v11), (20, B false), (23, .ptr 0 0 2), (24, B false), (25, B false), (26, .lit undef), (27, .lit undef), (28, .lit undef), (29, .lit undef), (30, B false), (33, I x1), (34, B false), (35, B false), (36, .lit undef), (37, .lit undef), (38, .lit undef), (39, .lit undef), (40, .lit undef), (41, .lit undef), (42, .lit undef), (43, .lit undef), (44, .lit undef), (45, B false), (46, B false)] [sc 0 v5] ?_
 exact ⟨false, h, it [0, 5, 6, 7, 46]⟩
 rintro x7 h
 unfold impl_WritesOk_j1 at h
 refine pc h (fun h => ?_) (fun h => ?_)
 refine srveM [4] 51 [(2, B false)] [sc 0 v5] ?_
 cases h
 exact pwp_ret rz
 refine pwp_skip ?_
 refine rveM [4] 51 [(0, A a0), (5, A a0), (6, I (a0.length : Int)), (7, I (w64 (x1 + 1)))] [sc 0 v5] ?_
 exact ⟨(f2, (w64 (x1 + 1))), h, Nat.lt_succ_self _, (it (st' := ⟨51, [(0, A a0), (5, A a0), (6, I (a0.length : Int)), (7, I (w64 (x1 + 1)))], [sc 0 v5]⟩) [0, 5, 6, 7]).trans (Imp.truncS 0 (nx hX) (by kernel_rfl) (allBelow_mem (by exact (And.intro rfl (And.intro rfl (And.intro rfl (And.intro rfl trivial)))))) (by exact trivial) (by kernel_rfl))⟩
 refine pwp_exit ?_
 refine srveM [4] 51 [(2, B (decide ((a0.length : Int) ≤ 5)))] [] ?_
 cases h
 exact pwp_ret rz
def impl_Txn_related_1 (a0 : T_impl_Txn) (a1 : T_impl_Txn) : Option Bool := (slices_ContainsFunc_impl_Write_impl_Write a0.fWrites (fun z0 => impl_Txn_related_1_1 z0 a1)).bind fun v1 => some v1
theorem ok_impl_Txn_related_1 {a0 : T_impl_Txn} {a1 : T_impl_Txn} {y : Bool} (h : impl_Txn_related_1 a0 a1 = some y) : OK Try.prog 166 [E a0, E a1] (B y) := by
 refine ow Try.func166 fun Γ hX => ?_
 unfold impl_Txn_related_1 at h
 refine srve 9 [(2, pf a0 0), (3, pf a1 0)] [] ?_
 refine srv 3 9 [(6, A a0.fWrites), (7, .fn 168 [pf a1 0])] [] ?_
 obtain ⟨v1, hv2, h⟩ := bindS h
 refine cF 8 (ok_slices_ContainsFunc_impl_Write_impl_Write (rfl) (fun _ w hw => ok_impl_Txn_related_1_1 hw) hv2) ?_
 refine ve 1 9 [(4, B v1)] [] ?_
 cases h
 exact pwp_ret rz
def impl_Txn_writes (a0 : T_impl_Txn) (a1 : Int) : Option Bool := (impl_Txn_write a0 a1).bind fun v1 => some v1.2
theorem ok_impl_Txn_writes {a0 : T_impl_Txn} {a1 : Int} {y : Bool} (h : impl_Txn_writes a0 a1 = some y) : OK Try.prog 170 [E a0, I a1] (B y) := by
 refine ow Try.func170 fun Γ hX => ?_
 unfold impl_Txn_writes at h
 refine srveM [5] 14 [(1, I a1), (2, pf a0 0)] [] ?_
 refine srvM [5] 2 14 [(8, E a0), (9, I a1)] [] ?_
 obtain ⟨v1, hv2, h⟩ := bindS h
 refine opsP_callF τ 10 (ok_impl_Txn_write hv2) (FzTo.tup (FzToL.cons (FzTo.frz rfl) (FzToL.cons (FzTo.frz rfl) FzToL.nil))) rfl (by kernel_rfl) ?_
 refine veM [5] 6 14 [(6, B v1.2)] [sc 0 v1.1] ?_
 refine srveM [5] 14 [(4, B v1.2)] [sc 0 v1.1] ?_
 cases h
 exact pwp_ret rz
def laws_eqWriteS_l0 (a0 : List T_impl_Write) (a1 : List T_impl_Write) : Nat → Int → Option Bool
 | 0, _ => none
 | f3 + 1, x2 => bif (decide (x2 < (a0.length : Int))) then (getI a0 x2).bind fun v6 => (getI a1 x2).bind fun v8 => (laws_eqWrite v6 v8).bind fun v10 => bif (!v10) then some false else (laws_eqWriteS_l0 a0 a1 f3) (w64 (x2 + 1)) else some true
def laws_eqWriteS (a0 : List T_impl_Write) (a1 : List T_impl_Write) : Option Bool := bif (!((a0.length : Int) == (a1.length : Int))) then some false else laws_eqWriteS_l0 a0 a1 FUEL 0
theorem ok_laws_eqWriteS {a0 : List T_impl_Write} {a1 : List T_impl_Write} {y : Bool} (h : laws_eqWriteS a0 a1 = some y) : OK Try.prog 172 [A a0, A a1] (B y) := by
 refine ow Try.func172 fun Γ hX => ?_
 unfold laws_eqWriteS at h
 refine srve 27 [(0, A a0), (1, A a1)] [] ?_
 refine pwp_seq ?_
 refine srve 27 [(0, A a0), (1, A a1), (10, B (!((a0.length : Int) == (a1.length : Int))))] [] ?_
 refine pc h (fun h => ?_) (fun h => ?_)
 refine srve 27 [(4, B false)] [] ?_
 cases h
 exact pwp_ret rz
 refine pwp_skip ?_
 refine pwp_seq ?_
 refine srve 27 [(0, A a0), (1, A a1), (5, I 0)] [] ?_
 refine pwp_block ?_
 refine pwp_loop (ι := Nat × Int) (fun (f3, x2) => (⟨27, [(0, A a0), (1, A a1), (5, I x2)], []⟩ : St)) (fun (f3, x2) => laws_eqWriteS_l0 a0 a1 f3 x2 = some y) Prod.fst (FUEL, 0) h (it [0, 1, 5]) ?_
 rintro ⟨f3, x2⟩ h
 dsimp only at h ⊢
 rcases f3 with _ | f3
 cases h
 rw [laws_eqWriteS_l0] at h
 refine pwp_seq ?_
 refine srve 27 [(0, A a0), (1, A a1), (5, I x2), (14, B (decide (x2 < (a0.length : Int))))] [] ?_
 refine pc h (fun h => ?_) (fun h => ?_)
 refine pwp_skip ?_
 refine pwp_seq ?_
 refine pwp_block ?_
 refine pwp_seq ?_
 refine ip 27 [(0, A a0), (1, A a1), (5, I x2)] [] ?_
 refine pN 10 ?_
 refine qv [] trivial 2 27 [(18, I x2), (17, A a0), (0, A a0), (1, A a1), (5, I x2)] [] ?_
 obtain ⟨v6, hv7, h⟩ := bindS h
 refine qX (some 19) (pf v6 0) 27 [(19, pf v6 0), (0, A a0), (1, A a1), (5, I x2)] [] (fun Γ' hΓ => CoreE.of_y (idxV_sound τ_ok (by kernel_rfl) hv7)) trivial ?_
 refine qv [] trivial 3 27 [(22, I x2), (21, A a1), (20, E v6), (0, A a0), (1, A a1), (5, I x2)] [] ?_
 obtain ⟨v8, hv9, h⟩ := bindS h
 refine qX (some 23) (pf v8 0) 27 [(23, pf v8 0), (20, E v6), (0, A a0), (1, A a1), (5, I x2)] [] (fun Γ' hΓ => CoreE.of_y (idxV_sound τ_ok (by kernel_rfl) hv9)) trivial ?_
 refine qv [] trivial 1 27 [(24, E v8), (20, E v6), (0, A a0), (1, A a1), (5, I x2)] [] ?_
 obtain ⟨v10, hv11, h⟩ := bindS h
 refine qX (some 25) (B v10) 27 [(25, B v10), (0, A a0), (1, A a1), (5, I x2)] [] (fun Γ' hΓ => CoreE.of_g (callV_sound (τ := τ) (by kernel_rfl) rfl (ok_laws_eqWrite hv11) (FzTo.frz rfl))) trivial ?_
 refine qvn [] trivial 1 27 [(0, A a0), (1, A a1), (5, I x2), (26, B (!v10))] [] ?_
 refine pc h (fun h => ?_) (fun h => ?_)
 refine srve 27 [(4, B false)] [] ?_
 cases h
 exact pwp_ret rz
 refine pwp_skip ?_
 refine rve 27 [(0, A a0), (1, A a1), (5, I (w64 (x2 + 1)))] [] ?_
 exact ⟨(f3, (w64 (x2 + 1))), h, Nat.lt_succ_self _, it [0, 1, 5]⟩
 refine pwp_exit ?_
 refine srve 27 [(4, B true)] [] ?_
 cases h
 exact pwp_ret rz
def spec_RowOk_l0 (a0 : List T_impl_Value) : Nat → Int → Option Bool
 | 0, _ => none
 | f2 + 1, x1 => bif (decide (x1 < (a0.length : Int))) then (getI a0 x1).bind fun v5 => (spec_ValueOk v5).bind fun v7 => bif (!v7) then some false else (spec_RowOk_l0 a0 f2) (w64 (x1 + 1)) else some (decide ((a0.length : Int) ≤ 4))
def spec_RowOk (a0 : List T_impl_Value) : Option Bool := spec_RowOk_l0 a0 FUEL 0
theorem ok_spec_RowOk {a0 : List T_impl_Value} {y : Bool} (h : spec_RowOk a0 = some y) : OK Try.prog 187 [A a0] (B y) := by
 refine ow Try.func187 fun Γ hX => ?_
 unfold spec_RowOk at h
 refine srve 19 [(0, A a0)] [] ?_
 refine pwp_seq ?_
 refine srve 19 [(0, A a0), (3, I 0)] [] ?_
 refine pwp_block ?_
 refine pwp_loop (ι := Nat × Int) (fun (f2, x1) => (⟨19, [(0, A a0), (3, I x1)], []⟩ : St)) (fun (f2, x1) => spec_RowOk_l0 a0 f2 x1 = some y) Prod.fst (FUEL, 0) h (it [0, 3]) ?_
 rintro ⟨f2, x1⟩ h
 dsimp only at h ⊢
 rcases f2 with _ | f2
 cases h
 rw [spec_RowOk_l0] at h
 refine pwp_seq ?_
 refine srve 19 [(0, A a0), (3, I x1), (7, B (decide (x1 < (a0.length : Int))))] [] ?_
 refine pc h (fun h => ?_) (fun h => ?_)
 refine pwp_skip ?_
 refine pwp_seq ?_
 refine pwp_block ?_
 refine srv 2 19 [(0, A a0), (3, I x1), (10, A a0), (11, I x1)] [] ?_
 obtain ⟨v5, hv6, h⟩ := bindS h
 refine opsP_idx τ_ok 12 hv6 (by kernel_rfl) ?_
 refine v 1 19 [(0, A a0), (3, I x1), (13, E v5)] [] ?_
 obtain ⟨v7, hv8, h⟩ := bindS h
 refine cF 14 (ok_spec_ValueOk hv8) ?_
 refine ve 1 19 [(0, A a0), (3, I x1), (15, B (!v7))] [] ?_
 refine pc h (fun h => ?_) (fun h => ?_)
 refine srve 19 [(2, B false)] [] ?_
 cases h
 exact pwp_ret rz
 refine pwp_skip ?_
 refine rve 19 [(0, A a0), (3, I (w64 (x1 + 1)))] [] ?_
 exact ⟨(f2, (w64 (x1 + 1))), h, Nat.lt_succ_self _, it [0, 3]⟩
 refine pwp_exit ?_
 refine srve 19 [(2, B (decide ((a0.length : Int) ≤ 4)))] [] ?_
 cases h
 exact pwp_ret rz
def laws_markHouse (a0 : T_impl_House) (a1 : Int) : Option Int := (laws_markVersionS a0.fList a1).bind fun v1 => (laws_markTxnS a0.fTxns v1.1).bind fun v3 => some v3.1
theorem ok_laws_markHouse {a0 : T_impl_House} {a1 : Int} {y : Int} (h : laws_markHouse a0 a1 = some y) : OKm Try.prog 17 [.agg (DEnc.cells a0), I a1] (I y) := by
 refine OKm_of_pwp (sl := [.agg [rf 0 0 4 a0.fList, I a0.fClock, rf 1 0 5 a0.fTxns], I a1]) (bs := [⟨0, dL a0.fList⟩, ⟨0, dL a0.fTxns⟩]) τ_ok Try.func17 rfl (by kernel_rfl) rfl (by kernel_rfl) fun Γ hX => ?_
 refine pwp_imp (Imp.to (st' := ⟨14, [(0, .agg [rf 0 0 4 a0.fList, I a0.fClock, rf 1 0 5 a0.fTxns]), (1, I a1)], [some ⟨0, dL a0.fList⟩, some ⟨0, dL a0.fTxns⟩]⟩) [0, 1] (by kernel_rfl)) ?_
 unfold laws_markHouse at h
 refine srveM [2] 14 [(1, I a1), (2, .ptr 2 0 0)] [some ⟨0, dL a0.fList⟩, some ⟨0, dL a0.fTxns⟩, some ⟨0, [rf 0 0 4 a0.fList, I a0.fClock, rf 1 0 5 a0.fTxns]⟩] ?_
 refine srvM [2] 3 14 [(2, .ptr 2 0 0), (6, rf 0 0 4 a0.fList), (7, I a1)] [some ⟨0, dL a0.fList⟩, some ⟨0, dL a0.fTxns⟩, some ⟨0, [rf 0 0 4 a0.fList, I a0.fClock, rf 1 0 5 a0.fTxns]⟩] ?_
 obtain ⟨v1, hv2, h⟩ := bindS h
 refine opsP_E (dd := some 8) (x := I v1.1) (callD_E τ 8 0 0 (ok_laws_markVersionS hv2) (by kernel_rfl)) ?_
 refine io 14 [(2, .ptr 2 0 0), (6, rf 0 0 4 a0.fList), (7, I a1), (8, I v1.1)] [some ⟨0, dL v1.2⟩, some ⟨0, dL a0.fTxns⟩, some ⟨0, [rf 0 0 4 a0.fList, I a0.fClock, rf 1 0 5 a0.fTxns]⟩] ?_
 refine opsP_ren (st' := ⟨14, [(2, .ptr 2 0 0), (6, rf 0 0 4 v1.2), (7, I a1), (8, I v1.1)], [some ⟨0, dL v1.2⟩, some ⟨0, dL a0.fTxns⟩, some ⟨0, [rf 0 0 4 a0.fList, I a0.fClock, rf 1 0 5 a0.fTxns]⟩]⟩) 0 v1.2.length (renC trivial (renC (ren_ref (len_laws_markVersionS hv2).symm) (renC trivial (renC trivial renC0)))) (by kernel_rfl) ?_
 refine veM [2] 1 14 [(1, I v1.1), (2, .ptr 2 0 0)] [some ⟨0, dL v1.2⟩, some ⟨0, dL a0.fTxns⟩, some ⟨0, [rf 0 0 4 a0.fList, I a0.fClock, rf 1 0 5 a0.fTxns]⟩] ?_
 refine srvM [2] 3 14 [(10, rf 1 0 5 a0.fTxns), (11, I v1.1)] [some ⟨0, dL v1.2⟩, some ⟨0, dL a0.fTxns⟩, some ⟨0, [rf 0 0 4 a0.fList, I a0.fClock, rf 1 0 5 a0.fTxns]⟩] ?_
 obtain ⟨v3, hv4, h⟩ := bindS h
 refine opsP_E (dd := some 12) (x := I v3.1) (callD_E τ 12 1 0 (ok_laws_markTxnS hv4) (by kernel_rfl)) ?_
 refine io 14 [(10, rf 1 0 5 a0.fTxns), (11, I v1.1), (12, I v3.1)] [some ⟨0, dL v1.2⟩, some ⟨0, dL v3.2⟩, some ⟨0, [rf 0 0 4 a0.fList, I a0.fClock, rf 1 0 5 a0.fTxns]⟩] ?_
 refine opsP_ren (st' := ⟨14, [(10, rf 1 0 5 v3.2), (11, I v1.1), (12, I v3.1)], [some ⟨0, dL v1.2⟩, some ⟨0, dL v3.2⟩, some ⟨0, [rf 0 0 4 a0.fList, I a0.fClock, rf 1 0 5 a0.fTxns]⟩]⟩) 1 v3.2.length (renC (ren_ref (len_laws_markTxnS hv4).symm) (renC trivial (renC trivial renC0))) (by kernel_rfl) ?_
 refine veM [2] 1 14 [(1, I v3.1)] [some ⟨0, dL v1.2⟩, some ⟨0, dL v3.2⟩, some ⟨0, [rf 0 0 4 a0.fList, I a0.fClock, rf 1 0 5 a0.fTxns]⟩] ?_
 refine srveM [2] 14 [(4, I v3.1)] [some ⟨0, dL v1.2⟩, some ⟨0, dL v3.2⟩, some ⟨0, [rf 0 0 4 a0.fList, I a0.fClock, rf 1 0 5 a0.fTxns]⟩] ?_
 cases h
 exact pwp_ret rz
def laws_szVersionS_l0 (a0 : List T_laws_Version) : Nat → Int → Int → Option Int
 | 0, _, _ => none
 | f4 + 1, x2, x3 => bif (decide (x3 < (a0.length : Int))) then (getI a0 x3).bind fun v7 => (laws_szVersion v7 x2).bind fun v9 => bif (decide (v9 < 0)) then some (-1) else (laws_szVersionS_l0 a0 f4) v9 (w64 (x3 + 1)) else some x2
def laws_szVersionS (a0 : List T_laws_Version) (a1 : Int) : Option Int := bif (decide ((w64 (a1 - (a0.length : Int))) < 0)) then some (-1) else laws_szVersionS_l0 a0 FUEL (w64 (a1 - (a0.length : Int))) 0
theorem ok_laws_szVersionS {a0 : List T_laws_Version} {a1 : Int} {y : Int} (h : laws_szVersionS a0 a1 = some y) : OK Try.prog 48 [A a0, I a1] (I y) := by
 refine ow Try.func48 fun Γ hX => ?_
 unfold laws_szVersionS at h
 refine srve 27 [(0, A a0), (1, I a1)] [] ?_
 refine srve 27 [(0, A a0), (1, I (w64 (a1 - (a0.length : Int))))] [] ?_
 refine pwp_seq ?_
 refine srve 27 [(0, A a0), (1, I (w64 (a1 - (a0.length : Int)))), (11, B (decide ((w64 (a1 - (a0.length : Int))) < 0)))] [] ?_
 refine pc h (fun h => ?_) (fun h => ?_)
 refine srve 27 [(4, I (-1))] [] ?_
 cases h
 exact pwp_ret rz
 refine pwp_skip ?_
 refine pwp_seq ?_
 refine srve 27 [(0, A a0), (1, I (w64 (a1 - (a0.length : Int)))), (5, I 0)] [] ?_
 refine pwp_block ?_
 refine pwp_loop (ι := Nat × Int × Int) (fun (f4, x2, x3) => (⟨27, [(0, A a0), (1, I x2), (5, I x3)], []⟩ : St)) (fun (f4, x2, x3) => laws_szVersionS_l0 a0 f4 x2 x3 = some y) Prod.fst (FUEL, (w64 (a1 - (a0.length : Int))), 0) h (it [0, 1, 5]) ?_
 rintro ⟨f4, x2, x3⟩ h
 dsimp only at h ⊢
 rcases f4 with _ | f4
 cases h
 rw [laws_szVersionS_l0] at h
 refine pwp_seq ?_
 refine srve 27 [(0, A a0), (1, I x2), (5, I x3), (15, B (decide (x3 < (a0.length : Int))))] [] ?_
 refine pc h (fun h => ?_) (fun h => ?_)
 refine pwp_skip ?_
 refine pwp_seq ?_
 refine pwp_block ?_
 refine srv 2 27 [(0, A a0), (1, I x2), (5, I x3), (18, A a0), (19, I x3)] [] ?_
 obtain ⟨v7, hv8, h⟩ := bindS h
 refine opsP_idx τ_ok 20 hv8 (by kernel_rfl) ?_
 refine v 2 27 [(0, A a0), (5, I x3), (21, E v7), (22, I x2)] [] ?_
 obtain ⟨v9, hv10, h⟩ := bindS h
 refine cF 23 (ok_laws_szVersion hv10) ?_
 refine ve 1 27 [(0, A a0), (1, I v9), (5, I x3)] [] ?_
 refine srve 27 [(0, A a0), (1, I v9), (5, I x3), (25, B (decide (v9 < 0)))] [] ?_
 refine pc h (fun h => ?_) (fun h => ?_)
 refine srve 27 [(4, I (-1))] [] ?_
 cases h
 exact pwp_ret rz
 refine pwp_skip ?_
 refine rve 27 [(0, A a0), (1, I v9), (5, I (w64 (x3 + 1)))] [] ?_
 exact ⟨(f4, v9, (w64 (x3 + 1))), h, Nat.lt_succ_self _, it [0, 1, 5]⟩
 refine pwp_exit ?_
 refine srve 27 [(4, I x2)] [] ?_
 cases h
 exact pwp_ret rz
def laws_eqVersionS_l0 (a0 : List T_impl_Version) (a1 : List T_impl_Version) : Nat → Int → Option Bool
 | 0, _ => none
 | f3 + 1, x2 => bif (decide (x2 < (a0.length : Int))) then (getI a0 x2).bind fun v6 => (getI a1 x2).bind fun v8 => (laws_eqVersion v6 v8).bind fun v10 => bif (!v10) then some false else (laws_eqVersionS_l0 a0 a1 f3) (w64 (x2 + 1)) else some true
def laws_eqVersionS (a0 : List T_impl_Version) (a1 : List T_impl_Version) : Option Bool := bif (!((a0.length : Int) == (a1.length : Int))) then some false else laws_eqVersionS_l0 a0 a1 FUEL 0
theorem ok_laws_eqVersionS {a0 : List T_impl_Version} {a1 : List T_impl_Version} {y : Bool} (h : laws_eqVersionS a0 a1 = some y) : OK Try.prog 57 [A a0, A a1] (B y) := by
 refine ow Try.func57 fun Γ hX => ?_
 unfold laws_eqVersionS at h
 refine srve 27 [(0, A a0), (1, A a1)] [] ?_
 refine pwp_seq ?_
 refine srve 27 [(0, A a0), (1, A a1), (10, B (!((a0.length : Int) == (a1.length : Int))))] [] ?_
 refine pc h (fun h => ?_) (fun h => ?_)
 refine srve 27 [(4, B false)] [] ?_
 cases h
 exact pwp_ret rz
 refine pwp_skip ?_
 refine pwp_seq ?_
 refine srve 27 [(0, A a0), (1, A a1), (5, I 0)] [] ?_
 refine pwp_block ?_
 refine pwp_loop (ι := Nat × Int) (fun (f3, x2) => (⟨27, [(0, A a0), (1, A a1), (5, I x2)], []⟩ : St)) (fun (f3, x2) => laws_eqVersionS_l0 a0 a1 f3 x2 = some y) Prod.fst (FUEL, 0) h (it [0, 1, 5]) ?_
 rintro ⟨f3, x2⟩ h
 dsimp only at h ⊢
 rcases f3 with _ | f3
 cases h
 rw [laws_eqVersionS_l0] at h
 refine pwp_seq ?_
 refine srve 27 [(0, A a0), (1, A a1), (5, I x2), (14, B (decide (x2 < (a0.length : Int))))] [] ?_
 refine pc h (fun h => ?_) (fun h => ?_)
 refine pwp_skip ?_
 refine pwp_seq ?_
 refine pwp_block ?_
 refine pwp_seq ?_
 refine ip 27 [(0, A a0), (1, A a1), (5, I x2)] [] ?_
 refine pN 10 ?_
 refine qv [] trivial 2 27 [(18, I x2), (17, A a0), (0, A a0), (1, A a1), (5, I x2)] [] ?_
 obtain ⟨v6, hv7, h⟩ := bindS h
 refine qX (some 19) (pf v6 0) 27 [(19, pf v6 0), (0, A a0), (1, A a1), (5, I x2)] [] (fun Γ' hΓ => CoreE.of_y (idxV_sound τ_ok (by kernel_rfl) hv7)) trivial ?_
 refine qv [] trivial 3 27 [(22, I x2), (21, A a1), (20, E v6), (0, A a0), (1, A a1), (5, I x2)] [] ?_
 obtain ⟨v8, hv9, h⟩ := bindS h
 refine qX (some 23) (pf v8 0) 27 [(23, pf v8 0), (20, E v6), (0, A a0), (1, A a1), (5, I x2)] [] (fun Γ' hΓ => CoreE.of_y (idxV_sound τ_ok (by kernel_rfl) hv9)) trivial ?_
 refine qv [] trivial 1 27 [(24, E v8), (20, E v6), (0, A a0), (1, A a1), (5, I x2)] [] ?_
 obtain ⟨v10, hv11, h⟩ := bindS h
 refine qX (some 25) (B v10) 27 [(25, B v10), (0, A a0), (1, A a1), (5, I x2)] [] (fun Γ' hΓ => CoreE.of_g (callV_sound (τ := τ) (by kernel_rfl) rfl (ok_laws_eqVersion hv11) (FzTo.frz rfl))) trivial ?_
 refine qvn [] trivial 1 27 [(0, A a0), (1, A a1), (5, I x2), (26, B (!v10))] [] ?_
 refine pc h (fun h => ?_) (fun h => ?_)
 refine srve 27 [(4, B false)] [] ?_
 cases h
 exact pwp_ret rz
 refine pwp_skip ?_
 refine rve 27 [(0, A a0), (1, A a1), (5, I (w64 (x2 + 1)))] [] ?_
 exact ⟨(f3, (w64 (x2 + 1))), h, Nat.lt_succ_self _, it [0, 1, 5]⟩
 refine pwp_exit ?_
 refine srve 27 [(4, B true)] [] ?_
 cases h
 exact pwp_ret rz
def laws_szTxn (a0 : T_laws_Txn) (a1 : Int) : Option Int := (laws_szIntS a0.fReads a1).bind fun v1 => bif (decide (v1 < 0)) then some (-1) else (laws_szWriteS a0.fWrites v1).bind fun v4 => bif (decide (v4 < 0)) then some (-1) else some v4
theorem ok_laws_szTxn {a0 : T_laws_Txn} {a1 : Int} {y : Int} (h : laws_szTxn a0 a1 = some y) : OK Try.prog 100 [E a0, I a1] (I y) := by
 refine ow Try.func100 fun Γ hX => ?_
 unfold laws_szTxn at h
 refine srve 18 [(1, I a1), (2, pf a0 0)] [] ?_
 refine srv 3 18 [(2, pf a0 0), (6, A a0.fReads), (7, I a1)] [] ?_
 obtain ⟨v1, hv2, h⟩ := bindS h
 refine cF 8 (ok_laws_szIntS hv2) ?_
 refine ve 1 18 [(1, I v1), (2, pf a0 0)] [] ?_
 refine pwp_seq ?_
 refine srve 18 [(1, I v1), (2, pf a0 0), (10, B (decide (v1 < 0)))] [] ?_
 refine pc h (fun h => ?_) (fun h => ?_)
 refine srve 18 [(4, I (-1))] [] ?_
 cases h
 exact pwp_ret rz
 refine pwp_skip ?_
 refine srv 3 18 [(12, A a0.fWrites), (13, I v1)] [] ?_
 obtain ⟨v4, hv5, h⟩ := bindS h
 refine cF 14 (ok_laws_szWriteS hv5) ?_
 refine ve 1 18 [(1, I v4)] [] ?_
 refine pwp_seq ?_
 refine srve 18 [(1, I v4), (16, B (decide (v4 < 0)))] [] ?_
 refine pc h (fun h => ?_) (fun h => ?_)
 refine srve 18 [(4, I (-1))] [] ?_
 cases h
 exact pwp_ret rz
 refine pwp_skip ?_
 refine srve 18 [(4, I v4)] [] ?_
 cases h
 exact pwp_ret rz
def impl_VersionsOk_j2 (x1 : Int) (K3 : Int → Option Bool) (x12 : Bool) : Option Bool := bif x12 then some false else K3 (w64 (x1 + 1))
def impl_VersionsOk_j1 (a0 : List T_impl_Version) (x1 : Int) (K3 : Int → Option Bool) (v5 : T_impl_Version) (x7 : Bool) : Option Bool := bif x7 then some false else bif (x1 == 0) then K3 (w64 (x1 + 1)) else (getI a0 (w64 (x1 - 1))).bind fun v10 => bif (decide (v10.fKey > v5.fKey)) then impl_VersionsOk_j2 x1 K3 true else bif (v10.fKey == v5.fKey) then bif (decide (v10.fBorn ≥ v5.fBorn)) then impl_VersionsOk_j2 x1 K3 true else bif (v10.fDied == 0) then impl_VersionsOk_j2 x1 K3 true else impl_VersionsOk_j2 x1 K3 (decide (v10.fDied > v5.fBorn)) else impl_VersionsOk_j2 x1 K3 false
def impl_VersionsOk_l0 (a0 : List T_impl_Version) : Nat → Int → Option Bool
 | 0, _ => none
 | f2 + 1, x1 => bif (decide (x1 < (a0.length : Int))) then (getI a0 x1).bind fun v5 => (impl_keyOk v5.fKey).bind fun v18 => bif (!v18) then impl_VersionsOk_j1 a0 x1 (impl_VersionsOk_l0 a0 f2) v5 true else (impl_between v5.fBorn 1 40).bind fun v20 => bif (!v20) then impl_VersionsOk_j1 a0 x1 (impl_VersionsOk_l0 a0 f2) v5 true else bif (!(v5.fDied == 0)) then (impl_between v5.fDied (w64 (v5.fBorn + 1)) 40).bind fun v22 => bif (!v22) then impl_VersionsOk_j1 a0 x1 (impl_VersionsOk_l0 a0 f2) v5 true else (impl_RowOk v5.fRow).bind fun v24 => impl_VersionsOk_j1 a0 x1 (impl_VersionsOk_l0 a0 f2) v5 (!v24) else (impl_RowOk v5.fRow).bind fun v27 => impl_VersionsOk_j1 a0 x1 (impl_VersionsOk_l0 a0 f2) v5 (!v27) else some (decide ((a0.length : Int) ≤ 60))
def impl_VersionsOk (a0 : List T_impl_Version) : Option Bool := impl_VersionsOk_l0 a0 FUEL 0
theorem ok_impl_VersionsOk {a0 : List T_impl_Version} {y : Bool} (h : impl_VersionsOk a0 = some y) : OK Try.prog 108 [A a0] (B y) := by
 refine ow Try.func108 fun Γ hX => ?_
 unfold impl_VersionsOk at h
 refine srveM [4, 5] 85 [(0, A a0)] [] ?_
 refine pwp_seq ?_
 refine srveM [4, 5] 85 [(0, A a0), (6, A a0), (7, I (a0.length : Int)), (8, I 0)] [] ?_
 refine pwp_block ?_
 refine pwp_loop (ι := Nat × Int) (fun (f2, x1) => (⟨85, [(0, A a0), (6, A a0), (7, I (a0.length : Int)), (8, I x1)], []⟩ : St)) (fun (f2, x1) => impl_VersionsOk_l0 a0 f2 x1 = some y) Prod.fst (FUEL, 0) h (it [0, 6, 7, 8]) ?_
 rintro ⟨f2, x1⟩ h
 dsimp only at h ⊢
 rcases f2 with _ | f2
 cases h
 rw [impl_VersionsOk_l0] at h
 refine srveM [4, 5] 85 [(0, A a0), (6, A a0), (7, I (a0.length : Int)), (8, I x1), (9, B (decide (x1 < (a0.length : Int))))] [] ?_
 refine pwp_seq ?_
 refine pc h (fun h => ?_) (fun h => ?_)
 refine pwp_skip ?_
 refine pwp_seq ?_
 refine pwp_block ?_
 refine srvM [4, 5] 1 85 [(0, A a0), (6, A a0), (7, I (a0.length : Int)), (8, I x1), (10, I x1)] [] ?_
 obtain ⟨v5, hv6, h⟩ := bindS h
 refine opsP_idx τ_ok 11 hv6 (by kernel_rfl) ?_
 refine veM [4, 5] 4 85 [(0, A a0), (3, I x1), (4, .ptr 0 0 0), (6, A a0), (7, I (a0.length : Int)), (8, I x1)] [sc 0 v5] ?_
 refine pwp_seq ?_
 refine pwp_seq ?_
 refine pwp_join (σ := Bool) (fun x7 => (⟨85, [(0, A a0), (3, I x1), (4, .ptr 0 0 0), (6, A a0), (7, I (a0.length : Int)), (8, I x1), (42, B x7)], [sc 0 v5]⟩ : St)) (fun x7 => impl_VersionsOk_j1 a0 x1 (impl_VersionsOk_l0 a0 f2) v5 x7 = some y) ?_ ?_
 refine rvM [4, 5] 2 85 [(0, A a0), (3, I x1), (4, .ptr 0 0 0), (6, A a0), (7, I (a0.length : Int)), (8, I x1), (14, I v5.fKey)] [sc 0 v5] ?_
 obtain ⟨v18, hv19, h⟩ := bindS h
 refine cF 15 (ok_impl_keyOk hv19) ?_
 refine vM [4, 5] 2 85 [(0, A a0), (3, I x1), (4, .ptr 0 0 0), (6, A a0), (7, I (a0.length : Int)), (8, I x1), (17, B (!v18))] [sc 0 v5] ?_
 rcases fk (!v18) with hc31 | hc31
 replace h := bT hc31 h
 rw [hc31]
 refine veM [4, 5] 25 85 [(0, A a0), (3, I x1), (4, .ptr 0 0 0), (6, A a0), (7, I (a0.length : Int)), (8, I x1), (18, .lit undef), (19, .lit undef), (20, .lit undef), (21, .lit undef), (24, .lit undef), (25, .lit undef), (26, .lit undef), (27, .lit undef), (28, .lit undef), (29, .lit undef), (30, .lit undef), (31, .lit undef), (32, .lit undef), (33, .lit undef), (34, .lit undef), (35, .lit undef), (38, .lit undef), (39, .lit undef), (40, .lit undef), (41, .lit undef), (42, B true)] [sc 0 v5] ?_
 exact ⟨true, h, it [0, 3, 4, 6, 7, 8, 42]⟩
 replace h := bF hc31 h
 rw [hc31]
 refine vM [4, 5] 2 85 [(0, A a0), (3, I x1), (4, .ptr 0 0 0), (6, A a0), (7, I (a0.length : Int)), (8, I x1), (17, B false), (18, .ptr 0 0 1), (19, I v5.fBorn)] [sc 0 v5] ?_
 obtain ⟨v20, hv21, h⟩ := bindS h
 refine cF 20 (ok_impl_between hv21) ?_
 refine vM [4, 5] 3 85 [(0, A a0), (3, I x1), (4, .ptr 0 0 0), (6, A a0), (7, I (a0.length : Int)), (8, I x1), (18, .ptr 0 0 1), (19, I v5.fBorn), (20, B v20), (21, B (!v20)), (23, B (!v20))] [sc 0 v5] ?_
 rcases fk (!v20) with hc30 | hc30
 replace h := bT hc30 h
 rw [hc30]
 refine veM [4, 5] 19 85 [(0, A a0), (3, I x1), (4, .ptr 0 0 0), (6, A a0), (7, I (a0.length : Int)), (8, I x1), (18, .ptr 0 0 1), (19, I v5.fBorn), (20, B v20), (21, B true), (24, .lit undef), (25, .lit undef), (26, .lit undef), (27, .lit undef), (28, .lit undef), (29, .lit undef), (30, .lit undef), (31, .lit undef), (32, .lit undef), (33, .lit undef), (34, .lit undef), (35, .lit undef), (38, .lit undef), (39, .lit undef), (40, .lit undef), (41, .lit undef), (42, B true)] [sc 0 v5] ?_
 exact ⟨true, h, it [0, 3, 4, 6, 7, 8, 42]⟩
 replace h := bF hc30 h
 rw [hc30]
 refine vM [4, 5] 4 85 [(0, A a0), (3, I x1), (4, .ptr 0 0 0), (6, A a0), (7, I (a0.length : Int)), (8, I x1), (18, .ptr 0 0 1), (19, I v5.fBorn), (20, B v20), (21, B false), (23, B false), (24, .ptr 0 0 2), (25, I v5.fDied), (26, B (!(v5.fDied == 0))), (27, B (!(v5.fDied == 0)))] [sc 0 v5] ?_
 rcases fk (!(v5.fDied == 0)) with hc29 | hc29
 replace h := bT hc29 h
 rw [hc29]
 refine vM [4, 5] 5 85 [(0, A a0), (3, I x1), (4, .ptr 0 0 0), (6, A a0), (7, I (a0.length : Int)), (8, I x1), (18, .ptr 0 0 1), (19, I v5.fBorn), (20, B v20), (21, B false), (23, B false), (24, .ptr 0 0 2), (25, I v5.fDied), (26, B true), (27, B true), (28, .ptr 0 0 2), (29, I v5.fDied), (30, .ptr 0 0 1), (31, I v5.fBorn), (32, I (w64 (v5.fBorn + 1)))] [sc 0 v5] ?_
 obtain ⟨v22, hv23, h⟩ := bindS h
 refine cF 33 (ok_impl_between hv23) ?_
 refine vM [4, 5] 4 85 [(0, A a0), (3, I x1), (4, .ptr 0 0 0), (6, A a0), (7, I (a0.length : Int)), (8, I x1), (18, .ptr 0 0 1), (19, I v5.fBorn), (20, B v20), (21, B false), (24, .ptr 0 0 2), (25, I v5.fDied), (26, B true), (27, B true), (28, .ptr 0 0 2), (29, I v5.fDied), (30, .ptr 0 0 1), (31, I v5.fBorn), (32, I (w64 (v5.fBorn + 1))), (33, B v22), (34, B (!v22)), (35, B (!v22)), (37, B (!v22))] [sc 0 v5] ?_
 rcases fk (!v22) with hc26 | hc26
 replace h := bT hc26 h
 rw [hc26]
 refine veM [4, 5] 5 85 [(0, A a0), (3, I x1), (4, .ptr 0 0 0), (6, A a0), (7, I (a0.length : Int)), (8, I x1), (18, .ptr 0 0 1), (19, I v5.fBorn), (20, B v20), (21, B false), (24, .ptr 0 0 2), (25, I v5.fDied), (26, B true), (27, B true), (28, .ptr 0 0 2), (29, I v5.fDied), (30, .ptr 0 0 1), (31, I v5.fBorn), (32, I (w64 (v5.fBorn + 1))), (33, B v22), (34, B true), (35, B true), (38, .lit undef), (39, .lit undef), (40, .lit undef), (41, .lit undef), (42, B true)] [sc 0 v5] ?_
 exact ⟨true, h, it [0, 3, 4, 6, 7, 8, 42]⟩
 replace h := bF hc26 h
 rw [hc26]
 refine vM [4, 5] 2 85 [(0, A a0), (3, I x1), (4, .ptr 0 0 0), (6, A a0), (7, I (a0.length : Int)), (8, I x1), (18, .ptr 0 0 1), (19, I v5.fBorn), (20, B v20), (21, B false), (24, .ptr 0 0 2), (25, I v5.fDied), (26, B true), (27, B true), (28, .ptr 0 0 2), (29, I v5.fDied), (30, .ptr 0 0 1), (31, I v5.fBorn), (32, I (w64 (v5.fBorn + 1))), (33, B v22), (34, B false), (35, B false), (37, B false), (38, .ptr 0 0 3), (39, A v5.fRow)] [sc 0 v5] ?_
 obtain ⟨v24, hv25, h⟩ := bindS h
 refine cF 40 (ok_impl_RowOk hv25) ?_
 refine veM [4, 5] 2 85 [(0, A a0), (3, I x1), (4, .ptr 0 0 0), (6, A a0), (7, I (a0.length : Int)), (8, I x1), (18, .ptr 0 0 1), (19, I v5.fBorn), (20, B v20), (21, B false), (24, .ptr 0 0 2), (25, I v5.fDied), (26, B true), (27, B true), (28, .ptr 0 0 2), (29, I v5.fDied), (30, .ptr 0 0 1), (31, I v5.fBorn), (32, I (w64 (v5.fBorn + 1))), (33, B v22), (34, B false), (35, B false), (38, .ptr 0 0 3), (39, A v5.fRow), (40, B v24), (41, B (!v24)), (42, B (!v24))] [sc 0 v5] ?_
 exact ⟨(!v24), h, it [0, 3, 4, 6, 7, 8, 42]⟩
 replace h := bF hc29 h
 rw [hc29]
 refine vM [4, 5] 12 85 [(0, A a0), (3, I x1), (4, .ptr 0 0 0), (6, A a0), (7, I (a0.length : Int)), (8, I x1), (18, .ptr 0 0 1), (19, I v5.fBorn), (20, B v20), (21, B false), (24, .ptr 0 0 2), (25, I v5.fDied), (26, B false), (27, B false), (28, .lit undef), (29, .lit undef), (30, .lit undef), (31, .lit undef), (32, .lit undef), (33, .lit undef), (34, .lit undef), (35, B false), (37, B false), (38, .ptr 0 0 3), (39, A v5.fRow)] [sc 0 v5] ?_
 obtain ⟨v27, hv28, h⟩ := bindS h
 refine cF 40 (ok_impl_RowOk hv28) ?_
 refine veM [4, 5] 2 85 [(0, A a0), (3, I x1), (4, .ptr 0 0 0), (6, A a0), (7, I (a0.length : Int)), (8, I x1), (18, .ptr 0 0 1), (19, I v5.fBorn), (20, B v20), (21, B false), (24, .ptr 0 0 2), (25, I v5.fDied), (26, B false), (27, B false), (28, .lit undef), (29, .lit undef), (30, .lit undef), (31, .lit undef), (32, .lit undef), (33, .lit undef), (34, .lit undef), (35, B false), (38, .ptr 0 0 3), (39, A v5.fRow), (40, B v27), (41, B (!v27)), (42, B (!v27))] [sc 0 v5] ?_
 exact ⟨(!v27), h, it [0, 3, 4, 6, 7, 8, 42]⟩
 rintro x7 h
 unfold impl_VersionsOk_j1 at h
 refine pc h (fun h => ?_) (fun h => ?_)
 refine srveM [4, 5] 85 [(2, B false)] [sc 0 v5] ?_
 cases h
 exact pwp_ret rz
 refine pwp_skip ?_
 refine pwp_seq ?_
 refine srveM [4, 5] 85 [(0, A a0), (3, I x1), (4, .ptr 0 0 0), (6, A a0), (7, I (a0.length : Int)), (8, I x1), (44, B (x1 == 0))] [sc 0 v5] ?_
 refine pc h (fun h => ?_) (fun h => ?_)
 refine pwp_exit ?_
 refine rveM [4, 5] 85 [(0, A a0), (6, A a0), (7, I (a0.length : Int)), (8, I (w64 (x1 + 1)))] [sc 0 v5] ?_
 exact ⟨(f2, (w64 (x1 + 1))), h, Nat.lt_succ_self _, (it (st' := ⟨85, [(0, A a0), (6, A a0), (7, I (a0.length : Int)), (8, I (w64 (x1 + 1)))], [sc 0 v5]⟩) [0, 6, 7, 8]).trans (Imp.truncS 0 (nx hX) (by kernel_rfl) (allBelow_mem (by exact (And.intro rfl (And.intro rfl (And.intro rfl (And.intro rfl trivial)))))) (by exact trivial) (by kernel_rfl))⟩
 refine pwp_skip ?_
 refine srvM [4, 5] 3 85 [(0, A a0), (4, .ptr 0 0 0), (6, A a0), (7, I (a0.length : Int)), (8, I x1), (45, A a0), (47, I (w64 (x1 - 1)))] [sc 0 v5] ?_
 obtain ⟨v10, hv11, h⟩ := bindS h
 refine opsP_idx τ_ok 48 hv11 (by kernel_rfl) ?_
 refine veM [4, 5] 3 85 [(0, A a0), (4, .ptr 0 0 0), (5, .ptr 1 0 0), (6, A a0), (7, I (a0.length : Int)), (8, I x1)] [sc 0 v5, sc 0 v10] ?_
 refine pwp_seq ?_
 refine pwp_join (σ := Bool) (fun x12 => (⟨85, [(0, A a0), (6, A a0), (7, I (a0.length : Int)), (8, I x1), (80, B x12)], [sc 0 v5, sc 0 v10]⟩ : St)) (fun x12 => impl_VersionsOk_j2 x1 (impl_VersionsOk_l0 a0 f2) x12 = some y) ?_ ?_
 refine rvM [4, 5] 6 85 [(0, A a0), (4, .ptr 0 0 0), (5, .ptr 1 0 0), (6, A a0), (7, I (a0.length : Int)), (8, I x1), (55, B (decide (v10.fKey > v5.fKey)))] [sc 0 v5, sc 0 v10] ?_
 rcases fk (decide (v10.fKey > v5.fKey)) with hc17 | hc17
 replace h := bT hc17 h
 rw [hc17]
 refine veM [4, 5] 25 85 [(0, A a0), (6, A a0), (7, I (a0.length : Int)), (8, I x1), (56, .lit undef), (57, .lit undef), (58, .lit undef), (59, .lit undef), (60, .lit undef), (61, .lit undef), (62, .lit undef), (63, .lit undef), (64, .lit undef), (65, .lit undef), (66, .lit undef), (67, .lit undef), (68, .lit undef), (69, .lit undef), (70, .lit undef), (71, .lit undef), (72, .lit undef), (73, .lit undef), (74, .lit undef), (75, .lit undef), (76, .lit undef), (77, .lit undef), (78, .lit undef), (79, .lit undef), (80, B true)] [sc 0 v5, sc 0 v10] ?_
 exact ⟨true, h, it [0, 6, 7, 8, 80]⟩
 replace h := bF hc17 h
 rw [hc17]
 refine vM [4, 5] 6 85 [(0, A a0), (4, .ptr 0 0 0), (5, .ptr 1 0 0), (6, A a0), (7, I (a0.length : Int)), (8, I x1), (55, B false), (56, .ptr 1 0 0), (57, I v10.fKey), (58, .ptr 0 0 0), (59, I v5.fKey), (60, B (v10.fKey == v5.fKey)), (61, B (v10.fKey == v5.fKey))] [sc 0 v5, sc 0 v10] ?_
 rcases fk (v10.fKey == v5.fKey) with hc16 | hc16
 replace h := bT hc16 h
 rw [hc16]
 refine vM [4, 5] 6 85 [(0, A a0), (4, .ptr 0 0 0), (5, .ptr 1 0 0), (6, A a0), (7, I (a0.length : Int)), (8, I x1), (55, B false), (56, .ptr 1 0 0), (57, I v10.fKey), (58, .ptr 0 0 0), (59, I v5.fKey), (60, B true), (61, B true), (62, .ptr 1 0 1), (63, I v10.fBorn), (64, .ptr 0 0 1), (65, I v5.fBorn), (66, B (decide (v10.fBorn ≥ v5.fBorn))), (67, B (decide (v10.fBorn ≥ v5.fBorn)))] [sc 0 v5, sc 0 v10] ?_
 rcases fk (decide (v10.fBorn ≥ v5.fBorn)) with hc15 | hc15
 replace h := bT hc15 h
 rw [hc15]
 refine veM [4, 5] 13 85 [(0, A a0), (6, A a0), (7, I (a0.length : Int)), (8, I x1), (56, .ptr 1 0 0), (57, I v10.fKey), (58, .ptr 0 0 0), (59, I v5.fKey), (60, B true), (61, B true), (62, .ptr 1 0 1), (63, I v10.fBorn), (64, .ptr 0 0 1), (65, I v5.fBorn), (66, B true), (67, B true), (68, .lit undef), (69, .lit undef), (70, .lit undef), (71, B true), (72, B true), (73, .lit undef), (74, .lit undef), (75, .lit undef), (76, .lit undef), (77, .lit undef), (78, B true), (79, B true), (80, B true)] [sc 0 v5, sc 0 v10] ?_
 exact ⟨true, h, it [0, 6, 7, 8, 80]⟩
 replace h := bF hc15 h
 rw [hc15]
 refine vM [4, 5] 5 85 [(0, A a0), (4, .ptr 0 0 0), (5, .ptr 1 0 0), (6, A a0), (7, I (a0.length : Int)), (8, I x1), (55, B false), (56, .ptr 1 0 0), (57, I v10.fKey), (58, .ptr 0 0 0), (59, I v5.fKey), (60, B true), (61, B true), (62, .ptr 1 0 1), (63, I v10.fBorn), (64, .ptr 0 0 1), (65, I v5.fBorn), (66, B false), (67, B false), (68, .ptr 1 0 2), (69, I v10.fDied), (70, B (v10.fDied == 0)), (71, B (v10.fDied == 0)), (72, B (v10.fDied == 0))] [sc 0 v5, sc 0 v10] ?_
 rcases fk (v10.fDied == 0) with hc14 | hc14
 replace h := bT hc14 h
 rw [hc14]
 refine veM [4, 5] 8 85 [(0, A a0), (6, A a0), (7, I (a0.length : Int)), (8, I x1), (56, .ptr 1 0 0), (57, I v10.fKey), (58, .ptr 0 0 0), (59, I v5.fKey), (60, B true), (61, B true), (62, .ptr 1 0 1), (63, I v10.fBorn), (64, .ptr 0 0 1), (65, I v5.fBorn), (66, B false), (67, B false), (68, .ptr 1 0 2), (69, I v10.fDied), (70, B true), (71, B true), (72, B true), (73, .lit undef), (74, .lit undef), (75, .lit undef), (76, .lit undef), (77, .lit undef), (78, B true), (79, B true), (80, B true)] [sc 0 v5, sc 0 v10] ?_
 exact ⟨true, h, it [0, 6, 7, 8, 80]⟩
 replace h := bF hc14 h
 rw [hc14]
 refine veM [4, 5] 8 85 [(0, A a0), (6, A a0), (7, I (a0.length : Int)), (8, I x1), (56, .ptr 1 0 0), (57, I v10.fKey), (58, .ptr 0 0 0), (59, I v5.fKey), (60, B true), (61, B true), (62, .ptr 1 0 1), (63, I v10.fBorn), (64, .ptr 0 0 1), (65, I v5.fBorn), (66, B false), (67, B false), (68, .ptr 1 0 2), (69, I v10.fDied), (70, B false), (71, B false), (72, B false), (73, .ptr 1 0 2), (74, I v10.fDied), (75, .ptr 0 0 1), (76, I v5.fBorn), (77, B (decide (v10.fDied > v5.fBorn))), (78, B (decide (v10.fDied > v5.fBorn))), (79, B (decide (v10.fDied > v5.fBorn))), (80, B (decide (v10.fDied > v5.fBorn)))] [sc 0 v5, sc 0 v10] ?_
 exact ⟨(decide (v10.fDied > v5.fBorn)), h, it [0, 6, 7, 8, 80]⟩
 replace h := bF hc16 h
 rw [hc16]
 refine veM [4, 5] 19 85 [(0, A a0), (6, A a0), (7, I (a0.length : Int)), (8, I x1), (56, .ptr 1 0 0), (57, I v10.fKey), (58, .ptr 0 0 0), (59, I v5.fKey), (60, B false), (61, B false), (62, .lit undef), (63, .lit undef), (64, .lit undef), (65, .lit undef), (66, .lit undef), (67, .lit undef), (68, .lit undef), (69, .lit undef), (70, .lit undef), (71, .lit undef), (72, .lit undef), (73, .lit undef), (74, .lit undef), (75, .lit undef), (76, .lit undef), (77, .lit undef), (78, .lit undef), (79, B false), (80, B false)] [sc 0 v5, sc 0 v10] ?_
 exact ⟨false, h, it [0, 6, 7, 8, 80]⟩
 rintro x12 h
 unfold impl_VersionsOk_j2 at h
 refine pc h (fun h => ?_) (fun h => ?_)
 refine srveM [4, 5] 85 [(2, B false)] [sc 0 v5, sc 0 v10] ?_
 cases h
 exact pwp_ret rz
 refine pwp_skip ?_
 refine rveM [4, 5] 85 [(0, A a0), (6, A a0), (7, I (a0.length : Int)), (8, I (w64 (x1 + 1)))] [sc 0 v5, sc 0 v10] ?_
 exact ⟨(f2, (w64 (x1 + 1))), h, Nat.lt_succ_self _, (it (st' := ⟨85, [(0, A a0), (6, A a0), (7, I (a0.length : Int)), (8, I (w64 (x1 + 1)))], [sc 0 v5, sc 0 v10]⟩) [0, 6, 7, 8]).trans (Imp.truncS 0 (nx hX) (by kernel_rfl) (allBelow_mem (by exact (And.intro rfl (And.intro rfl (And.intro rfl (And.intro rfl trivial)))))) (by exact trivial) (by kernel_rfl))⟩
 refine pwp_exit ?_
 refine srveM [4, 5] 85 [(2, B (decide ((a0.length : Int) ≤ 60)))] [] ?_
 cases h
 exact pwp_ret rz
def impl_Txn_ok_j0 (a0 : T_impl_Txn) (a1 : Int) : Option Bool := (impl_between a0.fBegin 0 a1).bind fun v1 => bif v1 then (impl_rising a0.fReads 0 4).bind fun v3 => bif v3 then (impl_WritesOk a0.fWrites).bind fun v5 => some v5 else some false else some false
def impl_Txn_ok_j1 (a0 : T_impl_Txn) (a1 : Int) (x17 : Bool) : Option Bool := bif x17 then bif (!(a0.fEnd == 0)) then some false else impl_Txn_ok_j0 a0 a1 else some false
def impl_Txn_ok (a0 : T_impl_Txn) (a1 : Int) : Option Bool := bif (a0.fState == 0) then bif (a0.fBegin == 0) then bif (a0.fEnd == 0) then bif ((a0.fReads.length : Int) == 0) then some ((a0.fWrites.length : Int) == 0) else some false else some false else some false else bif (a0.fState == 2) then (impl_between a0.fEnd (w64 (a0.fBegin + 1)) a1).bind fun v14 => bif (!v14) then some false else impl_Txn_ok_j0 a0 a1 else bif (a0.fState == 1) then impl_Txn_ok_j1 a0 a1 (a0.fState == 1) else impl_Txn_ok_j1 a0 a1 (a0.fState == 3)
theorem ok_impl_Txn_ok {a0 : T_impl_Txn} {a1 : Int} {y : Bool} (h : impl_Txn_ok a0 a1 = some y) : OK Try.prog 110 [E a0, I a1] (B y) := by
 refine ow Try.func110 fun Γ hX => ?_
 unfold impl_Txn_ok at h
 refine srve 59 [(1, I a1), (2, pf a0 0)] [] ?_
 refine pwp_seq ?_
 refine pwp_join (σ := Unit) (fun _ => (⟨59, [(1, I a1), (2, pf a0 0)], []⟩ : St)) (fun _ => impl_Txn_ok_j0 a0 a1 = some y) ?_ ?_
 refine srve 59 [(1, I a1), (2, pf a0 0), (6, I a0.fState)] [] ?_
 refine pwp_block ?_
 refine srve 59 [(1, I a1), (2, pf a0 0), (6, I a0.fState), (7, B (a0.fState == 0))] [] ?_
 refine pc h (fun h => ?_) (fun h => ?_)
 refine srv 4 59 [(2, pf a0 0), (12, B (a0.fBegin == 0))] [] ?_
 rcases fk (a0.fBegin == 0) with hc12 | hc12
 replace h := bT hc12 h
 rw [hc12]
 refine v 5 59 [(2, pf a0 0), (17, B (a0.fEnd == 0))] [] ?_
 rcases fk (a0.fEnd == 0) with hc11 | hc11
 replace h := bT hc11 h
 rw [hc11]
 refine v 6 59 [(2, pf a0 0), (23, B ((a0.fReads.length : Int) == 0))] [] ?_
 rcases fk ((a0.fReads.length : Int) == 0) with hc10 | hc10
 replace h := bT hc10 h
 rw [hc10]
 refine ve 6 59 [(4, B ((a0.fWrites.length : Int) == 0))] [] ?_
 cases h
 exact pwp_ret rz
 replace h := bF hc10 h
 rw [hc10]
 refine ve 6 59 [(4, B false)] [] ?_
 cases h
 exact pwp_ret rz
 replace h := bF hc11 h
 rw [hc11]
 refine ve 12 59 [(4, B false)] [] ?_
 cases h
 exact pwp_ret rz
 replace h := bF hc12 h
 rw [hc12]
 refine ve 17 59 [(4, B false)] [] ?_
 cases h
 exact pwp_ret rz
 refine srve 59 [(1, I a1), (2, pf a0 0), (6, I a0.fState), (29, B (a0.fState == 2))] [] ?_
 refine pc h (fun h => ?_) (fun h => ?_)
 refine srv 6 59 [(1, I a1), (2, pf a0 0), (32, I a0.fEnd), (35, I (w64 (a0.fBegin + 1))), (36, I a1)] [] ?_
 obtain ⟨v14, hv15, h⟩ := bindS h
 refine cF 37 (ok_impl_between hv15) ?_
 refine ve 1 59 [(1, I a1), (2, pf a0 0), (38, B (!v14))] [] ?_
 refine pc h (fun h => ?_) (fun h => ?_)
 refine srve 59 [(4, B false)] [] ?_
 cases h
 exact pwp_ret rz
 refine pwp_skip ?_
 exact ⟨(), h, it [1, 2]⟩
 refine pwp_seq ?_
 refine pwp_join (σ := Bool) (fun x17 => (⟨59, [(1, I a1), (2, pf a0 0), (39, B x17)], []⟩ : St)) (fun x17 => impl_Txn_ok_j1 a0 a1 x17 = some y) ?_ ?_
 refine srve 59 [(1, I a1), (2, pf a0 0), (6, I a0.fState), (39, B (a0.fState == 1))] [] ?_
 refine pc h (fun h => ?_) (fun h => ?_)
 refine pwp_skip ?_
 exact ⟨(a0.fState == 1), h, it [1, 2, 39]⟩
 refine rve 59 [(1, I a1), (2, pf a0 0), (39, B (a0.fState == 3))] [] ?_
 exact ⟨(a0.fState == 3), h, it [1, 2, 39]⟩
 rintro x17 h
 unfold impl_Txn_ok_j1 at h
 refine pc h (fun h => ?_) (fun h => ?_)
 refine srve 59 [(1, I a1), (2, pf a0 0), (44, B (!(a0.fEnd == 0)))] [] ?_
 refine pc h (fun h => ?_) (fun h => ?_)
 refine srve 59 [(4, B false)] [] ?_
 cases h
 exact pwp_ret rz
 refine pwp_skip ?_
 exact ⟨(), h, it [1, 2]⟩
 refine srve 59 [(4, B false)] [] ?_
 cases h
 exact pwp_ret rz
 rintro _ h
 unfold impl_Txn_ok_j0 at h
 refine srv 3 59 [(2, pf a0 0), (46, I a0.fBegin), (47, I a1)] [] ?_
 obtain ⟨v1, hv2, h⟩ := bindS h
 refine cF 48 (ok_impl_between hv2) ?_
 refine v 1 59 [(2, pf a0 0), (49, B v1)] [] ?_
 rcases Bool.eq_false_or_eq_true v1 with hc8 | hc8
 replace h := bT hc8 h
 rw [hc8]
 refine v 2 59 [(2, pf a0 0), (49, B true), (51, A a0.fReads)] [] ?_
 obtain ⟨v3, hv4, h⟩ := bindS h
 refine cF 52 (ok_impl_rising hv4) ?_
 refine v 2 59 [(2, pf a0 0), (54, B v3)] [] ?_
 rcases Bool.eq_false_or_eq_true v3 with hc7 | hc7
 replace h := bT hc7 h
 rw [hc7]
 refine v 2 59 [(54, B true), (56, A a0.fWrites)] [] ?_
 obtain ⟨v5, hv6, h⟩ := bindS h
 refine cF 57 (ok_impl_WritesOk hv6) ?_
 refine ve 2 59 [(4, B v5)] [] ?_
 cases h
 exact pwp_ret rz
 replace h := bF hc7 h
 rw [hc7]
 refine ve 5 59 [(4, B false)] [] ?_
 cases h
 exact pwp_ret rz
 replace h := bF hc8 h
 rw [hc8]
 refine ve 10 59 [(4, B false)] [] ?_
 cases h
 exact pwp_ret rz
def laws_eqTxn (a0 : T_impl_Txn) (a1 : T_impl_Txn) : Option Bool := bif (!(a0.fState == a1.fState)) then some false else bif (!(a0.fBegin == a1.fBegin)) then some false else bif (!(a0.fEnd == a1.fEnd)) then some false else (laws_eqIntS a0.fReads a1.fReads).bind fun v4 => bif (!v4) then some false else (laws_eqWriteS a0.fWrites a1.fWrites).bind fun v7 => bif (!v7) then some false else some true
theorem ok_laws_eqTxn {a0 : T_impl_Txn} {a1 : T_impl_Txn} {y : Bool} (h : laws_eqTxn a0 a1 = some y) : OK Try.prog 114 [E a0, E a1] (B y) := by
 refine ow Try.func114 fun Γ hX => ?_
 unfold laws_eqTxn at h
 refine srve 32 [(2, pf a0 0), (3, pf a1 0)] [] ?_
 refine pwp_seq ?_
 refine srve 32 [(2, pf a0 0), (3, pf a1 0), (9, B (!(a0.fState == a1.fState)))] [] ?_
 refine pc h (fun h => ?_) (fun h => ?_)
 refine srve 32 [(4, B false)] [] ?_
 cases h
 exact pwp_ret rz
 refine pwp_skip ?_
 refine pwp_seq ?_
 refine srve 32 [(2, pf a0 0), (3, pf a1 0), (14, B (!(a0.fBegin == a1.fBegin)))] [] ?_
 refine pc h (fun h => ?_) (fun h => ?_)
 refine srve 32 [(4, B false)] [] ?_
 cases h
 exact pwp_ret rz
 refine pwp_skip ?_
 refine pwp_seq ?_
 refine srve 32 [(2, pf a0 0), (3, pf a1 0), (19, B (!(a0.fEnd == a1.fEnd)))] [] ?_
 refine pc h (fun h => ?_) (fun h => ?_)
 refine srve 32 [(4, B false)] [] ?_
 cases h
 exact pwp_ret rz
 refine pwp_skip ?_
 refine pwp_seq ?_
 refine srv 4 32 [(2, pf a0 0), (3, pf a1 0), (21, A a0.fReads), (23, A a1.fReads)] [] ?_
 obtain ⟨v4, hv5, h⟩ := bindS h
 refine cF 24 (ok_laws_eqIntS hv5) ?_
 refine ve 1 32 [(2, pf a0 0), (3, pf a1 0), (25, B (!v4))] [] ?_
 refine pc h (fun h => ?_) (fun h => ?_)
 refine srve 32 [(4, B false)] [] ?_
 cases h
 exact pwp_ret rz
 refine pwp_skip ?_
 refine pwp_seq ?_
 refine srv 4 32 [(27, A a0.fWrites), (29, A a1.fWrites)] [] ?_
 obtain ⟨v7, hv8, h⟩ := bindS h
 refine cF 30 (ok_laws_eqWriteS hv8) ?_
 refine ve 1 32 [(31, B (!v7))] [] ?_
 refine pc h (fun h => ?_) (fun h => ?_)
 refine srve 32 [(4, B false)] [] ?_
 cases h
 exact pwp_ret rz
 refine pwp_skip ?_
 refine srve 32 [(4, B true)] [] ?_
 cases h
 exact pwp_ret rz
def spec_l13Version (a0 : T_impl_Version) : Option Bool := (spec_l1In a0.fKey 0 4).bind fun v1 => bif v1 then (spec_l1In a0.fBorn 1 40).bind fun v3 => bif v3 then bif (a0.fDied == 0) then (spec_RowOk a0.fRow).bind fun v5 => some v5 else (spec_l1In a0.fDied (w64 (a0.fBorn + 1)) 40).bind fun v7 => bif v7 then (spec_RowOk a0.fRow).bind fun v9 => some v9 else some false else some false else some false
theorem ok_spec_l13Version {a0 : T_impl_Version} {y : Bool} (h : spec_l13Version a0 = some y) : OK Try.prog 154 [E a0] (B y) := by
 refine ow Try.func154 fun Γ hX => ?_
 unfold spec_l13Version at h
 refine srve 29 [(1, pf a0 0)] [] ?_
 refine srv 2 29 [(1, pf a0 0), (4, I a0.fKey)] [] ?_
 obtain ⟨v1, hv2, h⟩ := bindS h
 refine cF 5 (ok_spec_l1In hv2) ?_
 refine v 1 29 [(1, pf a0 0), (6, B v1)] [] ?_
 rcases Bool.eq_false_or_eq_true v1 with hc14 | hc14
 replace h := bT hc14 h
 rw [hc14]
 refine v 2 29 [(1, pf a0 0), (6, B true), (8, I a0.fBorn)] [] ?_
 obtain ⟨v3, hv4, h⟩ := bindS h
 refine cF 9 (ok_spec_l1In hv4) ?_
 refine v 2 29 [(1, pf a0 0), (11, B v3)] [] ?_
 rcases Bool.eq_false_or_eq_true v3 with hc13 | hc13
 replace h := bT hc13 h
 rw [hc13]
 refine v 4 29 [(1, pf a0 0), (11, B true), (15, B (a0.fDied == 0))] [] ?_
 rcases fk (a0.fDied == 0) with hc12 | hc12
 replace h := bT hc12 h
 rw [hc12]
 refine v 11 29 [(24, B true), (26, A a0.fRow)] [] ?_
 obtain ⟨v5, hv6, h⟩ := bindS h
 refine cF 27 (ok_spec_RowOk hv6) ?_
 refine ve 2 29 [(2, B v5)] [] ?_
 cases h
 exact pwp_ret rz
 replace h := bF hc12 h
 rw [hc12]
 refine v 5 29 [(1, pf a0 0), (11, B true), (15, B false), (17, I a0.fDied), (20, I (w64 (a0.fBorn + 1)))] [] ?_
 obtain ⟨v7, hv8, h⟩ := bindS h
 refine cF 21 (ok_spec_l1In hv8) ?_
 refine v 3 29 [(1, pf a0 0), (24, B v7)] [] ?_
 rcases Bool.eq_false_or_eq_true v7 with hc11 | hc11
 replace h := bT hc11 h
 rw [hc11]
 refine v 2 29 [(24, B true), (26, A a0.fRow)] [] ?_
 obtain ⟨v9, hv10, h⟩ := bindS h
 refine cF 27 (ok_spec_RowOk hv10) ?_
 refine ve 2 29 [(2, B v9)] [] ?_
 cases h
 exact pwp_ret rz
 replace h := bF hc11 h
 rw [hc11]
 refine ve 5 29 [(2, B false)] [] ?_
 cases h
 exact pwp_ret rz
 replace h := bF hc13 h
 rw [hc13]
 refine ve 18 29 [(2, B false)] [] ?_
 cases h
 exact pwp_ret rz
 replace h := bF hc14 h
 rw [hc14]
 refine ve 23 29 [(2, B false)] [] ?_
 cases h
 exact pwp_ret rz
def spec_WritesOk_j1 (x1 : Int) (K3 : Int → Option Bool) (x7 : Bool) : Option Bool := bif x7 then some false else K3 (w64 (x1 + 1))
def spec_WritesOk_l0 (a0 : List T_impl_Write) : Nat → Int → Option Bool
 | 0, _ => none
 | f2 + 1, x1 => bif (decide (x1 < (a0.length : Int))) then (getI a0 x1).bind fun v5 => (spec_l1In v5.fKey 0 4).bind fun v9 => bif (!v9) then spec_WritesOk_j1 x1 (spec_WritesOk_l0 a0 f2) true else (spec_RowOk v5.fRow).bind fun v11 => bif (!v11) then spec_WritesOk_j1 x1 (spec_WritesOk_l0 a0 f2) true else bif v5.fGone then bif (decide ((v5.fRow.length : Int) > 0)) then spec_WritesOk_j1 x1 (spec_WritesOk_l0 a0 f2) true else bif (decide (x1 > 0)) then (getI a0 (w64 (x1 - 1))).bind fun v13 => spec_WritesOk_j1 x1 (spec_WritesOk_l0 a0 f2) (decide (v13.fKey ≥ v5.fKey)) else spec_WritesOk_j1 x1 (spec_WritesOk_l0 a0 f2) false else bif (decide (x1 > 0)) then (getI a0 (w64 (x1 - 1))).bind fun v17 => spec_WritesOk_j1 x1 (spec_WritesOk_l0 a0 f2) (decide (v17.fKey ≥ v5.fKey)) else spec_WritesOk_j1 x1 (spec_WritesOk_l0 a0 f2) false else some true
def spec_WritesOk (a0 : List T_impl_Write) : Option Bool := spec_WritesOk_l0 a0 FUEL 0
end Go.D
