import Derived.Test.YtmcciakfjapjeaaExDPrim
import Derived.Test.YtmcciakfjapjeaaExDXT
import Derived.KernelRfl
set_option linter.unusedVariables false
set_option linter.unusedSimpArgs false
namespace Go.D
open Go.Proofs
def laws_szColumnS (a0 : List T_laws_Column) (a1 : Int) : Option Int := bif (decide ((w64 (a1 - (a0.length : Int))) < 0)) then some (-1) else some (w64 (a1 - (a0.length : Int)))
theorem ok_laws_szColumnS {a0 : List T_laws_Column} {a1 : Int} {y : Int} (h : laws_szColumnS a0 a1 = some y) : OK Try.prog 12 [A a0, I a1] (I y) := by
 refine ow Try.func12 fun Γ hX => ?_
 unfold laws_szColumnS at h
 refine srve 12 [(0, A a0), (1, I a1)] [] ?_
 refine srve 12 [(1, I (w64 (a1 - (a0.length : Int))))] [] ?_
 refine pwp_seq ?_
 refine srve 12 [(1, I (w64 (a1 - (a0.length : Int)))), (10, B (decide ((w64 (a1 - (a0.length : Int))) < 0)))] [] ?_
 refine pc h (fun h => ?_) (fun h => ?_)
 refine srve 12 [(4, I (-1))] [] ?_
 cases h
 exact pwp_ret rz
 refine pwp_skip ?_
 refine srve 12 [(4, I (w64 (a1 - (a0.length : Int))))] [] ?_
 cases h
 exact pwp_ret rz
def laws_eqIntS_l0 (a0 : List Int) (a1 : List Int) : Nat → Int → Option Bool
 | 0, _ => none
 | f3 + 1, x2 => bif (decide (x2 < (a0.length : Int))) then (getI a0 x2).bind fun v6 => (getI a1 x2).bind fun v8 => bif (!(v6 == v8)) then some false else (laws_eqIntS_l0 a0 a1 f3) (w64 (x2 + 1)) else some true
def laws_eqIntS (a0 : List Int) (a1 : List Int) : Option Bool := bif (!((a0.length : Int) == (a1.length : Int))) then some false else laws_eqIntS_l0 a0 a1 FUEL 0
theorem ok_laws_eqIntS {a0 : List Int} {a1 : List Int} {y : Bool} (h : laws_eqIntS a0 a1 = some y) : OK Try.prog 16 [A a0, A a1] (B y) := by
 refine ow Try.func16 fun Γ hX => ?_
 unfold laws_eqIntS at h
 refine srve 26 [(0, A a0), (1, A a1)] [] ?_
 refine pwp_seq ?_
 refine srve 26 [(0, A a0), (1, A a1), (10, B (!((a0.length : Int) == (a1.length : Int))))] [] ?_
 refine pc h (fun h => ?_) (fun h => ?_)
 refine srve 26 [(4, B false)] [] ?_
 cases h
 exact pwp_ret rz
 refine pwp_skip ?_
 refine pwp_seq ?_
 refine srve 26 [(0, A a0), (1, A a1), (5, I 0)] [] ?_
 refine pwp_block ?_
 refine pwp_loop (ι := Nat × Int) (fun (f3, x2) => (⟨26, [(0, A a0), (1, A a1), (5, I x2)], []⟩ : St)) (fun (f3, x2) => laws_eqIntS_l0 a0 a1 f3 x2 = some y) Prod.fst (FUEL, 0) h (it [0, 1, 5]) ?_
 rintro ⟨f3, x2⟩ h
 dsimp only at h ⊢
 rcases f3 with _ | f3
 cases h
 rw [laws_eqIntS_l0] at h
 refine pwp_seq ?_
 refine srve 26 [(0, A a0), (1, A a1), (5, I x2), (14, B (decide (x2 < (a0.length : Int))))] [] ?_
 refine pc h (fun h => ?_) (fun h => ?_)
 refine pwp_skip ?_
 refine pwp_seq ?_
 refine pwp_block ?_
 refine pwp_seq ?_
 refine ip 26 [(0, A a0), (1, A a1), (5, I x2)] [] ?_
 refine pN 9 ?_
 refine qv [] trivial 2 26 [(18, I x2), (17, A a0), (0, A a0), (1, A a1), (5, I x2)] [] ?_
 obtain ⟨v6, hv7, h⟩ := bindS h
 refine qX (some 19) (pf v6 0) 26 [(19, pf v6 0), (0, A a0), (1, A a1), (5, I x2)] [] (fun Γ' hΓ => CoreE.of_y (idxV_sound τ_ok (by kernel_rfl) hv7)) trivial ?_
 refine qv [] trivial 3 26 [(22, I x2), (21, A a1), (20, I v6), (0, A a0), (1, A a1), (5, I x2)] [] ?_
 obtain ⟨v8, hv9, h⟩ := bindS h
 refine qX (some 23) (pf v8 0) 26 [(23, pf v8 0), (20, I v6), (0, A a0), (1, A a1), (5, I x2)] [] (fun Γ' hΓ => CoreE.of_y (idxV_sound τ_ok (by kernel_rfl) hv9)) trivial ?_
 refine qvn [] trivial 2 26 [(0, A a0), (1, A a1), (5, I x2), (25, B (!(v6 == v8)))] [] ?_
 refine pc h (fun h => ?_) (fun h => ?_)
 refine srve 26 [(4, B false)] [] ?_
 cases h
 exact pwp_ret rz
 refine pwp_skip ?_
 refine rve 26 [(0, A a0), (1, A a1), (5, I (w64 (x2 + 1)))] [] ?_
 exact ⟨(f3, (w64 (x2 + 1))), h, Nat.lt_succ_self _, it [0, 1, 5]⟩
 refine pwp_exit ?_
 refine srve 26 [(4, B true)] [] ?_
 cases h
 exact pwp_ret rz
def laws_markColumnS_l0 : Nat → Int → Int → (List T_impl_Column) → Option (Int × List T_impl_Column)
 | 0, _, _, _ => none
 | f5 + 1, x2, x3, x4 => bif (decide (x3 < (x4.length : Int))) then (getI x4 x3).bind fun v8 => (getI (x4.set x3.toNat ({ v8 with fKind := x2 } : T_impl_Column)) x3).bind fun v10 => (laws_markColumnS_l0 f5) (w64 ((w64 (x2 + 1)) + 1)) (w64 (x3 + 1)) ((x4.set x3.toNat ({ v8 with fKind := x2 } : T_impl_Column)).set x3.toNat ({ v10 with fEmpty := (((w64 (x2 + 1)).tmod 3) == 0) } : T_impl_Column)) else some (x2, x4)
def laws_markColumnS (a0 : List T_impl_Column) (a1 : Int) : Option (Int × List T_impl_Column) := laws_markColumnS_l0 FUEL a1 0 a0
theorem len_laws_markColumnS_l0 : ∀ (f5 : Nat) (x2 : Int) (x3 : Int) (x4 : List T_impl_Column) (y : Int × List T_impl_Column), laws_markColumnS_l0 f5 x2 x3 x4 = some y → y.2.length = x4.length
 | 0, _, _, _, _, h => by cases h
 | f5 + 1, x2, x3, x4, y, h => by
  rw [laws_markColumnS_l0] at h
  rcases condS h with h | h
  ·obtain ⟨_, _, h⟩ := bindS h
   obtain ⟨_, _, h⟩ := bindS h
   have h2 := len_laws_markColumnS_l0 f5 _ _ _ _ h
   simp only [List.length_set] at h2
   exact h2
  ·cases h; rfl
theorem len_laws_markColumnS {a0 : List T_impl_Column} {a1 : Int} {y : Int × List T_impl_Column} (h : laws_markColumnS a0 a1 = some y) : y.2.length = a0.length := by
 unfold laws_markColumnS at h
 exact len_laws_markColumnS_l0 _ _ _ _ _ h
theorem ok_laws_markColumnS {a0 : List T_impl_Column} {a1 : Int} {y : Int × List T_impl_Column} (h : laws_markColumnS a0 a1 = some y) : OKd Try.prog 19 2 a0.length (eL a0) [I a1] (.int .i64 y.1) (eL y.2) := by
 refine OKd_of_pwp τ_ok Try.func19 rfl (by kernel_rfl) rfl (O_oc _) (O_oc _) (BlindL.lits (eL_lit DFlat.lit _)) (BlindL.lits (eL_lit DFlat.lit _)) rfl (fun hl => by rw [eL_len, len_laws_markColumnS h, ← eL_len]; exact hl) fun Γ hQ => ?_
 refine pwp_imp (Imp.to (st' := ⟨29, [(0, rf 0 0 2 a0), (1, I a1)], [sl 0 a0]⟩) [0, 1] (by kernel_rfl)) ?_
 unfold laws_markColumnS at h
 refine srve 29 [(0, rf 0 0 2 a0), (1, I a1)] [sl 0 a0] ?_
 refine pwp_seq ?_
 refine srve 29 [(0, rf 0 0 2 a0), (1, I a1), (5, I 0)] [sl 0 a0] ?_
 refine pwp_block ?_
 refine pwp_loop (ι := Nat × Int × Int × (List T_impl_Column)) (fun (f5, x2, x3, x4) => (⟨29, [(0, rf 0 0 2 x4), (1, I x2), (5, I x3)], [sl 0 x4]⟩ : St)) (fun (f5, x2, x3, x4) => laws_markColumnS_l0 f5 x2 x3 x4 = some y) Prod.fst (FUEL, a1, 0, a0) h (it [0, 1, 5]) ?_
 rintro ⟨f5, x2, x3, x4⟩ h
 dsimp only at h ⊢
 rcases f5 with _ | f5
 cases h
 rw [laws_markColumnS_l0] at h
 refine pwp_seq ?_
 refine srve 29 [(0, rf 0 0 2 x4), (1, I x2), (5, I x3), (9, B (decide (x3 < (x4.length : Int))))] [sl 0 x4] ?_
 refine pc h (fun h => ?_) (fun h => ?_)
 refine pwp_skip ?_
 refine pwp_seq ?_
 refine pwp_block ?_
 refine srv 3 29 [(0, rf 0 0 2 x4), (1, I x2), (5, I x3), (12, rf 0 0 2 x4), (13, I x3), (14, I x2)] [sl 0 x4] ?_
 obtain ⟨v8, hv9, h⟩ := bindS h
 refine opsP_idr τ_ok 15 0 0 x4.length hv9 rfl (by kernel_rfl) ?_
 refine v 1 29 [(0, rf 0 0 2 x4), (1, I x2), (5, I x3), (14, I x2), (16, .ptr 0 0 (x3.toNat * 2))] [sl 0 x4] ?_
 refine opsP_ste (vs := [I x2]) τ_ok 3 0 0 0 ({ v8 with fKind := x2 } : T_impl_Column) hv9 (by kernel_rfl) (by kernel_rfl) (by kernel_rfl) (renC (ren_ref (List.length_set ..).symm) (renC trivial (renC trivial (renC trivial (renC trivial renC0))))) ?_
 refine ve 0 29 [(0, .ref 0 0 0 2 (x4.set x3.toNat ({ v8 with fKind := x2 } : T_impl_Column)).length false), (1, I x2), (5, I x3)] [some ⟨0, eL (x4.set x3.toNat ({ v8 with fKind := x2 } : T_impl_Column))⟩] ?_
 refine srve 29 [(0, .ref 0 0 0 2 (x4.set x3.toNat ({ v8 with fKind := x2 } : T_impl_Column)).length false), (1, I (w64 (x2 + 1))), (5, I x3)] [some ⟨0, eL (x4.set x3.toNat ({ v8 with fKind := x2 } : T_impl_Column))⟩] ?_
 refine srv 5 29 [(0, .ref 0 0 0 2 (x4.set x3.toNat ({ v8 with fKind := x2 } : T_impl_Column)).length false), (1, I (w64 (x2 + 1))), (5, I x3), (19, .ref 0 0 0 2 (x4.set x3.toNat ({ v8 with fKind := x2 } : T_impl_Column)).length false), (20, I x3), (23, B (((w64 (x2 + 1)).tmod 3) == 0))] [some ⟨0, eL (x4.set x3.toNat ({ v8 with fKind := x2 } : T_impl_Column))⟩] ?_
 obtain ⟨v10, hv11, h⟩ := bindS h
 refine opsP_idr τ_ok 24 0 0 (x4.set x3.toNat ({ v8 with fKind := x2 } : T_impl_Column)).length hv11 rfl (by kernel_rfl) ?_
 refine v 1 29 [(0, .ref 0 0 0 2 (x4.set x3.toNat ({ v8 with fKind := x2 } : T_impl_Column)).length false), (1, I (w64 (x2 + 1))), (5, I x3), (23, B (((w64 (x2 + 1)).tmod 3) == 0)), (25, .ptr 0 0 (x3.toNat * 2 + 1))] [some ⟨0, eL (x4.set x3.toNat ({ v8 with fKind := x2 } : T_impl_Column))⟩] ?_
 refine opsP_ste (vs := [B (((w64 (x2 + 1)).tmod 3) == 0)]) τ_ok 4 0 0 1 ({ v10 with fEmpty := (((w64 (x2 + 1)).tmod 3) == 0) } : T_impl_Column) hv11 (by kernel_rfl) (by kernel_rfl) (by kernel_rfl) (renC (ren_ref (List.length_set ..).symm) (renC trivial (renC trivial (renC trivial (renC trivial renC0))))) ?_
 refine ve 0 29 [(0, .ref 0 0 0 2 ((x4.set x3.toNat ({ v8 with fKind := x2 } : T_impl_Column)).set x3.toNat ({ v10 with fEmpty := (((w64 (x2 + 1)).tmod 3) == 0) } : T_impl_Column)).length false), (1, I (w64 (x2 + 1))), (5, I x3)] [some ⟨0, eL ((x4.set x3.toNat ({ v8 with fKind := x2 } : T_impl_Column)).set x3.toNat ({ v10 with fEmpty := (((w64 (x2 + 1)).tmod 3) == 0) } : T_impl_Column))⟩] ?_
 refine rve 29 [(0, .ref 0 0 0 2 ((x4.set x3.toNat ({ v8 with fKind := x2 } : T_impl_Column)).set x3.toNat ({ v10 with fEmpty := (((w64 (x2 + 1)).tmod 3) == 0) } : T_impl_Column)).length false), (1, I (w64 ((w64 (x2 + 1)) + 1))), (5, I x3)] [some ⟨0, eL ((x4.set x3.toNat ({ v8 with fKind := x2 } : T_impl_Column)).set x3.toNat ({ v10 with fEmpty := (((w64 (x2 + 1)).tmod 3) == 0) } : T_impl_Column))⟩] ?_
 refine rve 29 [(0, .ref 0 0 0 2 ((x4.set x3.toNat ({ v8 with fKind := x2 } : T_impl_Column)).set x3.toNat ({ v10 with fEmpty := (((w64 (x2 + 1)).tmod 3) == 0) } : T_impl_Column)).length false), (1, I (w64 ((w64 (x2 + 1)) + 1))), (5, I (w64 (x3 + 1)))] [some ⟨0, eL ((x4.set x3.toNat ({ v8 with fKind := x2 } : T_impl_Column)).set x3.toNat ({ v10 with fEmpty := (((w64 (x2 + 1)).tmod 3) == 0) } : T_impl_Column))⟩] ?_
 exact ⟨(f5, (w64 ((w64 (x2 + 1)) + 1)), (w64 (x3 + 1)), ((x4.set x3.toNat ({ v8 with fKind := x2 } : T_impl_Column)).set x3.toNat ({ v10 with fEmpty := (((w64 (x2 + 1)).tmod 3) == 0) } : T_impl_Column))), h, Nat.lt_succ_self _, it [0, 1, 5]⟩
 refine pwp_exit ?_
 refine srve 29 [(4, I x2)] [sl 0 x4] ?_
 have h := si h
 subst h
 exact pwp_ret ⟨.inr rfl, 0, by kernel_rfl, by kernel_rfl⟩
def laws_markIntS_l0 : Nat → Int → Int → (List Int) → Option (Int × List Int)
 | 0, _, _, _ => none
 | f5 + 1, x2, x3, x4 => bif (decide (x3 < (x4.length : Int))) then (getI x4 x3).bind fun v8 => (laws_markIntS_l0 f5) (w64 (x2 + 1)) (w64 (x3 + 1)) (x4.set x3.toNat x2) else some (x2, x4)
def laws_markIntS (a0 : List Int) (a1 : Int) : Option (Int × List Int) := laws_markIntS_l0 FUEL a1 0 a0
theorem len_laws_markIntS_l0 : ∀ (f5 : Nat) (x2 : Int) (x3 : Int) (x4 : List Int) (y : Int × List Int), laws_markIntS_l0 f5 x2 x3 x4 = some y → y.2.length = x4.length
 | 0, _, _, _, _, h => by cases h
 | f5 + 1, x2, x3, x4, y, h => by
  rw [laws_markIntS_l0] at h
  rcases condS h with h | h
  ·obtain ⟨_, _, h⟩ := bindS h
   have h2 := len_laws_markIntS_l0 f5 _ _ _ _ h
   simp only [List.length_set] at h2
   exact h2
  ·cases h; rfl
theorem len_laws_markIntS {a0 : List Int} {a1 : Int} {y : Int × List Int} (h : laws_markIntS a0 a1 = some y) : y.2.length = a0.length := by
 unfold laws_markIntS at h
 exact len_laws_markIntS_l0 _ _ _ _ _ h
theorem ok_laws_markIntS {a0 : List Int} {a1 : Int} {y : Int × List Int} (h : laws_markIntS a0 a1 = some y) : OKd Try.prog 21 1 a0.length (eL a0) [I a1] (.int .i64 y.1) (eL y.2) := by
 refine OKd_of_pwp τ_ok Try.func21 rfl (by kernel_rfl) rfl (O_oc _) (O_oc _) (BlindL.lits (eL_lit DFlat.lit _)) (BlindL.lits (eL_lit DFlat.lit _)) rfl (fun hl => by rw [eL_len, len_laws_markIntS h, ← eL_len]; exact hl) fun Γ hQ => ?_
 refine pwp_imp (Imp.to (st' := ⟨19, [(0, rf 0 0 1 a0), (1, I a1)], [sl 0 a0]⟩) [0, 1] (by kernel_rfl)) ?_
 unfold laws_markIntS at h
 refine srve 19 [(0, rf 0 0 1 a0), (1, I a1)] [sl 0 a0] ?_
 refine pwp_seq ?_
 refine srve 19 [(0, rf 0 0 1 a0), (1, I a1), (5, I 0)] [sl 0 a0] ?_
 refine pwp_block ?_
 refine pwp_loop (ι := Nat × Int × Int × (List Int)) (fun (f5, x2, x3, x4) => (⟨19, [(0, rf 0 0 1 x4), (1, I x2), (5, I x3)], [sl 0 x4]⟩ : St)) (fun (f5, x2, x3, x4) => laws_markIntS_l0 f5 x2 x3 x4 = some y) Prod.fst (FUEL, a1, 0, a0) h (it [0, 1, 5]) ?_
 rintro ⟨f5, x2, x3, x4⟩ h
 dsimp only at h ⊢
 rcases f5 with _ | f5
 cases h
 rw [laws_markIntS_l0] at h
 refine pwp_seq ?_
 refine srve 19 [(0, rf 0 0 1 x4), (1, I x2), (5, I x3), (9, B (decide (x3 < (x4.length : Int))))] [sl 0 x4] ?_
 refine pc h (fun h => ?_) (fun h => ?_)
 refine pwp_skip ?_
 refine pwp_seq ?_
 refine pwp_block ?_
 refine srv 3 19 [(0, rf 0 0 1 x4), (1, I x2), (5, I x3), (12, rf 0 0 1 x4), (13, I x3), (14, I x2)] [sl 0 x4] ?_
 obtain ⟨v8, hv9, h⟩ := bindS h
 refine opsP_idr τ_ok 15 0 0 x4.length hv9 rfl (by kernel_rfl) ?_
 refine v 0 19 [(0, rf 0 0 1 x4), (1, I x2), (5, I x3), (14, I x2), (15, .ptr 0 0 (x3.toNat * 1))] [sl 0 x4] ?_
 refine opsP_ste (vs := [I x2]) τ_ok 3 0 0 0 x2 hv9 (by kernel_rfl) (by kernel_rfl) (by kernel_rfl) (renC (ren_ref (List.length_set ..).symm) (renC trivial (renC trivial (renC trivial (renC trivial renC0))))) ?_
 refine ve 0 19 [(0, .ref 0 0 0 1 (x4.set x3.toNat x2).length false), (1, I x2), (5, I x3)] [some ⟨0, eL (x4.set x3.toNat x2)⟩] ?_
 refine rve 19 [(0, .ref 0 0 0 1 (x4.set x3.toNat x2).length false), (1, I (w64 (x2 + 1))), (5, I x3)] [some ⟨0, eL (x4.set x3.toNat x2)⟩] ?_
 refine rve 19 [(0, .ref 0 0 0 1 (x4.set x3.toNat x2).length false), (1, I (w64 (x2 + 1))), (5, I (w64 (x3 + 1)))] [some ⟨0, eL (x4.set x3.toNat x2)⟩] ?_
 exact ⟨(f5, (w64 (x2 + 1)), (w64 (x3 + 1)), (x4.set x3.toNat x2)), h, Nat.lt_succ_self _, it [0, 1, 5]⟩
 refine pwp_exit ?_
 refine srve 19 [(4, I x2)] [sl 0 x4] ?_
 have h := si h
 subst h
 exact pwp_ret ⟨.inr rfl, 0, by kernel_rfl, by kernel_rfl⟩
def laws_heldIntS_l0 (a0 : List Int) : Nat → Int → Int → Option Int
 | 0, _, _ => none
 | f3 + 1, x1, x2 => bif (decide (x2 < (a0.length : Int))) then (getI a0 x2).bind fun v6 => bif (!(v6 == x1)) then some (-1) else (laws_heldIntS_l0 a0 f3) (w64 (x1 + 1)) (w64 (x2 + 1)) else some x1
def laws_heldIntS (a0 : List Int) (a1 : Int) : Option Int := laws_heldIntS_l0 a0 FUEL a1 0
theorem ok_laws_heldIntS {a0 : List Int} {a1 : Int} {y : Int} (h : laws_heldIntS a0 a1 = some y) : OK Try.prog 22 [A a0, I a1] (I y) := by
 refine ow Try.func22 fun Γ hX => ?_
 unfold laws_heldIntS at h
 refine srve 21 [(0, A a0), (1, I a1)] [] ?_
 refine pwp_seq ?_
 refine srve 21 [(0, A a0), (1, I a1), (5, I 0)] [] ?_
 refine pwp_block ?_
 refine pwp_loop (ι := Nat × Int × Int) (fun (f3, x1, x2) => (⟨21, [(0, A a0), (1, I x1), (5, I x2)], []⟩ : St)) (fun (f3, x1, x2) => laws_heldIntS_l0 a0 f3 x1 x2 = some y) Prod.fst (FUEL, a1, 0) h (it [0, 1, 5]) ?_
 rintro ⟨f3, x1, x2⟩ h
 dsimp only at h ⊢
 rcases f3 with _ | f3
 cases h
 rw [laws_heldIntS_l0] at h
 refine pwp_seq ?_
 refine srve 21 [(0, A a0), (1, I x1), (5, I x2), (9, B (decide (x2 < (a0.length : Int))))] [] ?_
 refine pc h (fun h => ?_) (fun h => ?_)
 refine pwp_skip ?_
 refine pwp_seq ?_
 refine pwp_block ?_
 refine pwp_seq ?_
 refine srv 2 21 [(0, A a0), (1, I x1), (5, I x2), (12, A a0), (13, I x2)] [] ?_
 obtain ⟨v6, hv7, h⟩ := bindS h
 refine opsP_idx τ_ok 14 hv7 (by kernel_rfl) ?_
 refine ve 3 21 [(0, A a0), (1, I x1), (5, I x2), (17, B (!(v6 == x1)))] [] ?_
 refine pc h (fun h => ?_) (fun h => ?_)
 refine srve 21 [(4, I (-1))] [] ?_
 cases h
 exact pwp_ret rz
 refine pwp_skip ?_
 refine rve 21 [(0, A a0), (1, I (w64 (x1 + 1))), (5, I x2)] [] ?_
 refine rve 21 [(0, A a0), (1, I (w64 (x1 + 1))), (5, I (w64 (x2 + 1)))] [] ?_
 exact ⟨(f3, (w64 (x1 + 1)), (w64 (x2 + 1))), h, Nat.lt_succ_self _, it [0, 1, 5]⟩
 refine pwp_exit ?_
 refine srve 21 [(4, I x1)] [] ?_
 cases h
 exact pwp_ret rz
def laws_toColumn (a0 : T_laws_Column) : Option T_impl_Column := some (T_impl_Column.mk a0.fKind a0.fEmpty)
theorem ok_laws_toColumn {a0 : T_laws_Column} {y : T_impl_Column} (h : laws_toColumn a0 = some y) : OK Try.prog 32 [E a0] (E y) := by
 refine ow Try.func32 fun Γ hX => ?_
 unfold laws_toColumn at h
 refine srveM [2, 3] 11 [(1, pf a0 0), (2, .ptr 0 0 0)] [some ⟨0, Enc.cells (T_impl_Column.mk 0 false)⟩] ?_
 refine srveM [2, 3] 11 [(1, pf a0 0), (2, .ptr 0 0 0), (3, .ptr 1 0 0)] [some ⟨0, Enc.cells (T_impl_Column.mk 0 false)⟩, some ⟨0, Enc.cells (T_impl_Column.mk 0 false)⟩] ?_
 refine srveM [2, 3] 11 [(1, pf a0 0), (2, .ptr 0 0 0), (3, .ptr 1 0 0)] [some ⟨0, Enc.cells (T_impl_Column.mk 0 false)⟩, some ⟨0, Enc.cells (T_impl_Column.mk a0.fKind false)⟩] ?_
 refine srveM [2, 3] 11 [(2, .ptr 0 0 0), (3, .ptr 1 0 0)] [some ⟨0, Enc.cells (T_impl_Column.mk 0 false)⟩, some ⟨0, Enc.cells (T_impl_Column.mk a0.fKind a0.fEmpty)⟩] ?_
 refine srveM [2, 3] 11 [(2, .ptr 0 0 0)] [some ⟨0, Enc.cells (T_impl_Column.mk a0.fKind a0.fEmpty)⟩, some ⟨0, Enc.cells (T_impl_Column.mk a0.fKind a0.fEmpty)⟩] ?_
 cases h
 exact pwp_ret rz
def laws_eqColumn (a0 : T_impl_Column) (a1 : T_impl_Column) : Option Bool := bif (!(a0.fKind == a1.fKind)) then some false else bif (!(a0.fEmpty == a1.fEmpty)) then some false else some true
theorem ok_laws_eqColumn {a0 : T_impl_Column} {a1 : T_impl_Column} {y : Bool} (h : laws_eqColumn a0 a1 = some y) : OK Try.prog 34 [E a0, E a1] (B y) := by
 refine ow Try.func34 fun Γ hX => ?_
 unfold laws_eqColumn at h
 refine srve 15 [(2, pf a0 0), (3, pf a1 0)] [] ?_
 refine pwp_seq ?_
 refine srve 15 [(2, pf a0 0), (3, pf a1 0), (9, B (!(a0.fKind == a1.fKind)))] [] ?_
 refine pc h (fun h => ?_) (fun h => ?_)
 refine srve 15 [(4, B false)] [] ?_
 cases h
 exact pwp_ret rz
 refine pwp_skip ?_
 refine pwp_seq ?_
 refine srve 15 [(14, B (!(a0.fEmpty == a1.fEmpty)))] [] ?_
 refine pc h (fun h => ?_) (fun h => ?_)
 refine srve 15 [(4, B false)] [] ?_
 cases h
 exact pwp_ret rz
 refine pwp_skip ?_
 refine srve 15 [(4, B true)] [] ?_
 cases h
 exact pwp_ret rz
def laws_markText_l0 : Nat → Int → ByteArray → Option ByteArray
 | 0, _, _ => none
 | f4 + 1, x2, x3 => bif (decide (x2 > 0)) then (addS (ByteArray.mk (List.toArray ([(u8 (w64 (48 + (x2.tmod 10))))] : List UInt8))) x3).bind fun v7 => (laws_markText_l0 f4) (w64 (x2.tdiv 10)) v7 else (addS (ByteArray.mk #[109]) x3).bind fun v9 => some v9
def laws_markText (a0 : Int) : Option ByteArray := bif (decide (a0 ≤ 0)) then some (ByteArray.mk #[109, 48]) else laws_markText_l0 FUEL a0 (ByteArray.mk #[])
theorem ok_laws_markText {a0 : Int} {y : ByteArray} (h : laws_markText a0 = some y) : OK Try.prog 36 [I a0] (S y) := by
 refine ow Try.func36 fun Γ hX => ?_
 unfold laws_markText at h
 refine srve 20 [(0, I a0)] [] ?_
 refine pwp_seq ?_
 refine srve 20 [(0, I a0), (5, B (decide (a0 ≤ 0)))] [] ?_
 refine pc h (fun h => ?_) (fun h => ?_)
 refine srve 20 [(2, S (ByteArray.mk #[109, 48]))] [] ?_
 cases h
 exact pwp_ret rz
 refine pwp_skip ?_
 refine srve 20 [(0, I a0), (3, S (ByteArray.mk #[]))] [] ?_
 refine pwp_seq ?_
 refine pwp_block ?_
 refine pwp_loop (ι := Nat × Int × ByteArray) (fun (f4, x2, x3) => (⟨20, [(0, I x2), (3, S x3)], []⟩ : St)) (fun (f4, x2, x3) => laws_markText_l0 f4 x2 x3 = some y) Prod.fst (FUEL, a0, (ByteArray.mk #[])) h (it [0, 3]) ?_
 rintro ⟨f4, x2, x3⟩ h
 dsimp only at h ⊢
 rcases f4 with _ | f4
 cases h
 rw [laws_markText_l0] at h
 refine pwp_seq ?_
 refine srve 20 [(0, I x2), (3, S x3), (7, B (decide (x2 > 0)))] [] ?_
 refine pc h (fun h => ?_) (fun h => ?_)
 refine pwp_skip ?_
 refine pwp_block ?_
 refine srv 3 20 [(0, I x2), (3, S x3), (10, I (w64 (48 + (x2.tmod 10))))] [] ?_
 refine opsP_cv8 τ_ok 11 (w64 (48 + (x2.tmod 10))) (by kernel_rfl) ?_
 refine v 1 20 [(0, I x2), (3, S x3), (12, .arr 1 ([(u8 (w64 (48 + (x2.tmod 10))))] : List UInt8).length (eL ([(u8 (w64 (48 + (x2.tmod 10))))] : List UInt8)) true)] [] ?_
 refine opsP_cvs τ_ok 13 ([(u8 (w64 (48 + (x2.tmod 10))))] : List UInt8) (by kernel_rfl) ?_
 refine v 1 20 [(0, I x2), (13, S (ByteArray.mk (List.toArray ([(u8 (w64 (48 + (x2.tmod 10))))] : List UInt8)))), (14, S x3)] [] ?_
 obtain ⟨v7, hv8, h⟩ := bindS h
 refine opsP_ads τ_ok 15 hv8 (by kernel_rfl) ?_
 refine ve 1 20 [(0, I x2), (3, S v7)] [] ?_
 refine rve 20 [(0, I (w64 (x2.tdiv 10))), (3, S v7)] [] ?_
 exact ⟨(f4, (w64 (x2.tdiv 10)), v7), h, Nat.lt_succ_self _, it [0, 3]⟩
 refine pwp_exit ?_
 refine srv 1 20 [(18, S x3)] [] ?_
 obtain ⟨v9, hv10, h⟩ := bindS h
 refine opsP_ads τ_ok 19 hv10 (by kernel_rfl) ?_
 refine ve 1 20 [(2, S v9)] [] ?_
 cases h
 exact pwp_ret rz
def impl_Part_takes_j1 (x3 : Bool) : Option Int := bif x3 then some 1 else some 0
def impl_Part_takes_j0 (a0 : T_impl_Part) (x1 : Bool) : Option Int := bif x1 then some 2 else bif (a0.fKind == 7) then impl_Part_takes_j1 (a0.fKind == 7) else impl_Part_takes_j1 (a0.fKind == 8)
def impl_Part_takes (a0 : T_impl_Part) : Option Int := bif (a0.fKind == 3) then impl_Part_takes_j0 a0 (a0.fKind == 3) else bif (a0.fKind == 4) then impl_Part_takes_j0 a0 (a0.fKind == 4) else bif (a0.fKind == 5) then impl_Part_takes_j0 a0 (a0.fKind == 5) else impl_Part_takes_j0 a0 (a0.fKind == 6)
theorem ok_impl_Part_takes {a0 : T_impl_Part} {y : Int} (h : impl_Part_takes a0 = some y) : OK Try.prog 41 [E a0] (I y) := by
 refine ow Try.func41 fun Γ hX => ?_
 unfold impl_Part_takes at h
 refine srve 13 [(1, pf a0 0)] [] ?_
 refine pwp_seq ?_
 refine srve 13 [(4, I a0.fKind)] [] ?_
 refine pwp_block ?_
 refine pwp_seq ?_
 refine pwp_join (σ := Bool) (fun x1 => (⟨13, [(4, I a0.fKind), (5, B x1)], []⟩ : St)) (fun x1 => impl_Part_takes_j0 a0 x1 = some y) ?_ ?_
 refine srve 13 [(4, I a0.fKind), (5, B (a0.fKind == 3))] [] ?_
 refine pc h (fun h => ?_) (fun h => ?_)
 refine pwp_skip ?_
 exact ⟨(a0.fKind == 3), h, it [4, 5]⟩
 refine srve 13 [(4, I a0.fKind), (5, B (a0.fKind == 4))] [] ?_
 refine pc h (fun h => ?_) (fun h => ?_)
 refine pwp_skip ?_
 exact ⟨(a0.fKind == 4), h, it [4, 5]⟩
 refine srve 13 [(4, I a0.fKind), (5, B (a0.fKind == 5))] [] ?_
 refine pc h (fun h => ?_) (fun h => ?_)
 refine pwp_skip ?_
 exact ⟨(a0.fKind == 5), h, it [4, 5]⟩
 refine rve 13 [(4, I a0.fKind), (5, B (a0.fKind == 6))] [] ?_
 exact ⟨(a0.fKind == 6), h, it [4, 5]⟩
 rintro x1 h
 unfold impl_Part_takes_j0 at h
 refine pc h (fun h => ?_) (fun h => ?_)
 refine srve 13 [(2, I 2)] [] ?_
 cases h
 exact pwp_ret rz
 refine pwp_seq ?_
 refine pwp_join (σ := Bool) (fun x3 => (⟨13, [(10, B x3)], []⟩ : St)) (fun x3 => impl_Part_takes_j1 x3 = some y) ?_ ?_
 refine srve 13 [(4, I a0.fKind), (10, B (a0.fKind == 7))] [] ?_
 refine pc h (fun h => ?_) (fun h => ?_)
 refine pwp_skip ?_
 exact ⟨(a0.fKind == 7), h, it [10]⟩
 refine rve 13 [(10, B (a0.fKind == 8))] [] ?_
 exact ⟨(a0.fKind == 8), h, it [10]⟩
 rintro x3 h
 unfold impl_Part_takes_j1 at h
 refine pc h (fun h => ?_) (fun h => ?_)
 refine srve 13 [(2, I 1)] [] ?_
 cases h
 exact pwp_ret rz
 refine pwp_skip ?_
 refine srve 13 [(2, I 0)] [] ?_
 cases h
 exact pwp_ret rz
def laws_szValue (a0 : T_laws_Value) (a1 : Int) : Option Int := bif (decide ((w64 (a1 - (a0.fS.size : Int))) < 0)) then some (-1) else some (w64 (a1 - (a0.fS.size : Int)))
theorem ok_laws_szValue {a0 : T_laws_Value} {a1 : Int} {y : Int} (h : laws_szValue a0 a1 = some y) : OK Try.prog 52 [E a0, I a1] (I y) := by
 refine ow Try.func52 fun Γ hX => ?_
 unfold laws_szValue at h
 refine srve 13 [(1, I a1), (2, pf a0 0)] [] ?_
 refine srve 13 [(1, I (w64 (a1 - (a0.fS.size : Int))))] [] ?_
 refine pwp_seq ?_
 refine srve 13 [(1, I (w64 (a1 - (a0.fS.size : Int)))), (11, B (decide ((w64 (a1 - (a0.fS.size : Int))) < 0)))] [] ?_
 refine pc h (fun h => ?_) (fun h => ?_)
 refine srve 13 [(4, I (-1))] [] ?_
 cases h
 exact pwp_ret rz
 refine pwp_skip ?_
 refine srve 13 [(4, I (w64 (a1 - (a0.fS.size : Int))))] [] ?_
 cases h
 exact pwp_ret rz
def laws_toValue (a0 : T_laws_Value) : Option T_impl_Value := some (T_impl_Value.mk a0.fKind a0.fN a0.fS)
theorem ok_laws_toValue {a0 : T_laws_Value} {y : T_impl_Value} (h : laws_toValue a0 = some y) : OK Try.prog 53 [E a0] (E y) := by
 refine ow Try.func53 fun Γ hX => ?_
 unfold laws_toValue at h
 refine srveM [2, 3] 14 [(1, pf a0 0), (2, .ptr 0 0 0)] [some ⟨0, Enc.cells (T_impl_Value.mk 0 0 (ByteArray.mk #[]))⟩] ?_
 refine srveM [2, 3] 14 [(1, pf a0 0), (2, .ptr 0 0 0), (3, .ptr 1 0 0)] [some ⟨0, Enc.cells (T_impl_Value.mk 0 0 (ByteArray.mk #[]))⟩, some ⟨0, Enc.cells (T_impl_Value.mk 0 0 (ByteArray.mk #[]))⟩] ?_
 refine srveM [2, 3] 14 [(1, pf a0 0), (2, .ptr 0 0 0), (3, .ptr 1 0 0)] [some ⟨0, Enc.cells (T_impl_Value.mk 0 0 (ByteArray.mk #[]))⟩, some ⟨0, Enc.cells (T_impl_Value.mk a0.fKind 0 (ByteArray.mk #[]))⟩] ?_
 refine srveM [2, 3] 14 [(1, pf a0 0), (2, .ptr 0 0 0), (3, .ptr 1 0 0)] [some ⟨0, Enc.cells (T_impl_Value.mk 0 0 (ByteArray.mk #[]))⟩, some ⟨0, Enc.cells (T_impl_Value.mk a0.fKind a0.fN (ByteArray.mk #[]))⟩] ?_
 refine srveM [2, 3] 14 [(2, .ptr 0 0 0), (3, .ptr 1 0 0)] [some ⟨0, Enc.cells (T_impl_Value.mk 0 0 (ByteArray.mk #[]))⟩, some ⟨0, Enc.cells (T_impl_Value.mk a0.fKind a0.fN a0.fS)⟩] ?_
 refine srveM [2, 3] 14 [(2, .ptr 0 0 0)] [some ⟨0, Enc.cells (T_impl_Value.mk a0.fKind a0.fN a0.fS)⟩, some ⟨0, Enc.cells (T_impl_Value.mk a0.fKind a0.fN a0.fS)⟩] ?_
 cases h
 exact pwp_ret rz
def laws_eqValue (a0 : T_impl_Value) (a1 : T_impl_Value) : Option Bool := bif (!(a0.fKind == a1.fKind)) then some false else bif (!(a0.fN == a1.fN)) then some false else bif (!(a0.fS.toList == a1.fS.toList)) then some false else some true
theorem ok_laws_eqValue {a0 : T_impl_Value} {a1 : T_impl_Value} {y : Bool} (h : laws_eqValue a0 a1 = some y) : OK Try.prog 54 [E a0, E a1] (B y) := by
 refine ow Try.func54 fun Γ hX => ?_
 unfold laws_eqValue at h
 refine srve 20 [(2, pf a0 0), (3, pf a1 0)] [] ?_
 refine pwp_seq ?_
 refine srve 20 [(2, pf a0 0), (3, pf a1 0), (9, B (!(a0.fKind == a1.fKind)))] [] ?_
 refine pc h (fun h => ?_) (fun h => ?_)
 refine srve 20 [(4, B false)] [] ?_
 cases h
 exact pwp_ret rz
 refine pwp_skip ?_
 refine pwp_seq ?_
 refine srve 20 [(2, pf a0 0), (3, pf a1 0), (14, B (!(a0.fN == a1.fN)))] [] ?_
 refine pc h (fun h => ?_) (fun h => ?_)
 refine srve 20 [(4, B false)] [] ?_
 cases h
 exact pwp_ret rz
 refine pwp_skip ?_
 refine pwp_seq ?_
 refine srve 20 [(19, B (!(a0.fS.toList == a1.fS.toList)))] [] ?_
 refine pc h (fun h => ?_) (fun h => ?_)
 refine srve 20 [(4, B false)] [] ?_
 cases h
 exact pwp_ret rz
 refine pwp_skip ?_
 refine srve 20 [(4, B true)] [] ?_
 cases h
 exact pwp_ret rz
def impl_between (a0 : Int) (a1 : Int) (a2 : Int) : Option Bool := bif (decide (a0 ≥ a1)) then some (decide (a0 ≤ a2)) else some false
theorem ok_impl_between {a0 : Int} {a1 : Int} {a2 : Int} {y : Bool} (h : impl_between a0 a1 a2 = some y) : OK Try.prog 62 [I a0, I a1, I a2] (B y) := by
 refine ow Try.func62 fun Γ hX => ?_
 unfold impl_between at h
 refine srve 15 [(0, I a0), (1, I a1), (2, I a2)] [] ?_
 refine srv 4 15 [(0, I a0), (2, I a2), (10, B (decide (a0 ≥ a1)))] [] ?_
 rcases fk (decide (a0 ≥ a1)) with hc1 | hc1
 replace h := bT hc1 h
 rw [hc1]
 refine ve 5 15 [(6, B (decide (a0 ≤ a2)))] [] ?_
 cases h
 exact pwp_ret rz
 replace h := bF hc1 h
 rw [hc1]
 refine ve 5 15 [(6, B false)] [] ?_
 cases h
 exact pwp_ret rz
def impl_Part_kind_1_1 (a0 : Int) (b0 : Int) : Option Bool := some (!(a0 == b0))
theorem ok_impl_Part_kind_1_1 {a0 : Int} {b0 : Int} {y : Bool} (h : impl_Part_kind_1_1 a0 b0 = some y) : OK Try.prog 65 [I a0, pf b0 0] (B y) := by
 refine ow Try.func65 fun Γ hX => ?_
 unfold impl_Part_kind_1_1 at h
 refine srve 7 [(0, I a0), (1, pf b0 0)] [] ?_
 refine srve 7 [(3, B (!(a0 == b0)))] [] ?_
 cases h
 exact pwp_ret rz
def spec_l1In (a0 : Int) (a1 : Int) (a2 : Int) : Option Bool := bif (decide (a0 ≥ a1)) then some (decide (a0 ≤ a2)) else some false
theorem ok_spec_l1In {a0 : Int} {a1 : Int} {a2 : Int} {y : Bool} (h : spec_l1In a0 a1 a2 = some y) : OK Try.prog 69 [I a0, I a1, I a2] (B y) := by
 refine ow Try.func69 fun Γ hX => ?_
 unfold spec_l1In at h
 refine srve 15 [(0, I a0), (1, I a1), (2, I a2)] [] ?_
 refine srv 4 15 [(0, I a0), (2, I a2), (10, B (decide (a0 ≥ a1)))] [] ?_
 rcases fk (decide (a0 ≥ a1)) with hc1 | hc1
 replace h := bT hc1 h
 rw [hc1]
 refine ve 5 15 [(6, B (decide (a0 ≤ a2)))] [] ?_
 cases h
 exact pwp_ret rz
 replace h := bF hc1 h
 rw [hc1]
 refine ve 5 15 [(6, B false)] [] ?_
 cases h
 exact pwp_ret rz
def impl_letters_l0 (v1 : List UInt8) : Nat → Int → Option Bool
 | 0, _ => none
 | f4 + 1, x3 => bif (decide (x3 < (v1.length : Int))) then (getI v1 x3).bind fun v7 => (impl_between (w64 (v7.toNat : Int)) 97 122).bind fun v9 => bif (!v9) then some false else (impl_letters_l0 v1 f4) (w64 (x3 + 1)) else some true
def impl_letters (a0 : ByteArray) : Option Bool := (bytesOf a0).bind fun v1 => impl_letters_l0 v1 FUEL 0
theorem ok_impl_letters {a0 : ByteArray} {y : Bool} (h : impl_letters a0 = some y) : OK Try.prog 80 [S a0] (B y) := by
 refine ow Try.func80 fun Γ hX => ?_
 unfold impl_letters at h
 refine srve 17 [(0, S a0)] [] ?_
 refine pwp_seq ?_
 refine srv 1 17 [(5, S a0)] [] ?_
 obtain ⟨v1, hv2, h⟩ := bindS h
 refine opsP_cvb τ_ok 6 hv2 (by kernel_rfl) ?_
 refine ve 2 17 [(6, A v1), (7, I (v1.length : Int)), (8, I 0)] [] ?_
 refine pwp_block ?_
 refine pwp_loop (ι := Nat × Int) (fun (f4, x3) => (⟨17, [(6, A v1), (7, I (v1.length : Int)), (8, I x3)], []⟩ : St)) (fun (f4, x3) => impl_letters_l0 v1 f4 x3 = some y) Prod.fst (FUEL, 0) h (it [6, 7, 8]) ?_
 rintro ⟨f4, x3⟩ h
 dsimp only at h ⊢
 rcases f4 with _ | f4
 cases h
 rw [impl_letters_l0] at h
 refine srve 17 [(6, A v1), (7, I (v1.length : Int)), (8, I x3), (9, B (decide (x3 < (v1.length : Int))))] [] ?_
 refine pwp_seq ?_
 refine pc h (fun h => ?_) (fun h => ?_)
 refine pwp_skip ?_
 refine pwp_seq ?_
 refine pwp_block ?_
 refine pwp_seq ?_
 refine pwp_region ?_
 obtain ⟨v7, hv8, h⟩ := bindS h
 refine opsP_idx τ_ok 10 hv8 (by kernel_rfl) ?_
 refine ve 2 17 [(4, .lit (.int .u8 (v7).toNat)), (6, A v1), (7, I (v1.length : Int)), (8, I x3)] [] ?_
 refine srv 2 17 [(6, A v1), (7, I (v1.length : Int)), (8, I x3), (13, I (w64 (v7.toNat : Int)))] [] ?_
 obtain ⟨v9, hv10, h⟩ := bindS h
 refine cF 14 (ok_impl_between hv10) ?_
 refine ve 1 17 [(6, A v1), (7, I (v1.length : Int)), (8, I x3), (15, B (!v9))] [] ?_
 refine pc h (fun h => ?_) (fun h => ?_)
 refine srve 17 [(2, B false)] [] ?_
 cases h
 exact pwp_ret rz
 refine pwp_skip ?_
 refine rve 17 [(6, A v1), (7, I (v1.length : Int)), (8, I (w64 (x3 + 1)))] [] ?_
 exact ⟨(f4, (w64 (x3 + 1))), h, Nat.lt_succ_self _, it [6, 7, 8]⟩
 refine pwp_exit ?_
 refine srve 17 [(2, B true)] [] ?_
 cases h
 exact pwp_ret rz
def slices_IndexFunc_impl_Column_impl_Column_l0 (a0 : List T_impl_Column) (a1 : T_impl_Column → Option Bool) : Nat → Int → Option Int
 | 0, _ => none
 | f2 + 1, x1 => bif (decide (x1 < (a0.length : Int))) then (getI a0 x1).bind fun v5 => (a1 v5).bind fun v7 => bif v7 then some x1 else (slices_IndexFunc_impl_Column_impl_Column_l0 a0 a1 f2) (w64 (x1 + 1)) else some (-1)
def slices_IndexFunc_impl_Column_impl_Column (a0 : List T_impl_Column) (a1 : T_impl_Column → Option Bool) : Option Int := slices_IndexFunc_impl_Column_impl_Column_l0 a0 a1 FUEL 0
theorem ok_slices_IndexFunc_impl_Column_impl_Column {a0 : List T_impl_Column} {g1 : FuncId} {c1 : List V} (hz1 : frzL c1 = true) {a1 : T_impl_Column → Option Bool} (hp1 : ∀ x0 y, a1 x0 = some y → OK Try.prog g1 ([E x0] ++ c1) (B y)) {y : Int} (h : slices_IndexFunc_impl_Column_impl_Column a0 a1 = some y) : OK Try.prog 82 [A a0, .fn g1 c1] (I y) := by
 refine ow Try.func82 fun Γ hX => ?_
 unfold slices_IndexFunc_impl_Column_impl_Column at h
 refine srve 19 [(0, A a0), (1, .fn g1 c1)] [] ?_
 refine pwp_seq ?_
 refine srve 19 [(0, A a0), (1, .fn g1 c1), (7, I (a0.length : Int)), (8, I 0)] [] ?_
 refine pwp_block ?_
 refine pwp_loop (ι := Nat × Int) (fun (f2, x1) => (⟨19, [(0, A a0), (1, .fn g1 c1), (7, I (a0.length : Int)), (8, I x1)], []⟩ : St)) (fun (f2, x1) => slices_IndexFunc_impl_Column_impl_Column_l0 a0 a1 f2 x1 = some y) Prod.fst (FUEL, 0) h (it [0, 1, 7, 8]) ?_
 rintro ⟨f2, x1⟩ h
 dsimp only at h ⊢
 rcases f2 with _ | f2
 cases h
 rw [slices_IndexFunc_impl_Column_impl_Column_l0] at h
 refine srve 19 [(0, A a0), (1, .fn g1 c1), (7, I (a0.length : Int)), (8, I x1), (9, B (decide (x1 < (a0.length : Int))))] [] ?_
 refine pwp_seq ?_
 refine pc h (fun h => ?_) (fun h => ?_)
 refine pwp_skip ?_
 refine pwp_seq ?_
 refine pwp_block ?_
 refine srve 19 [(0, A a0), (1, .fn g1 c1), (5, I x1), (7, I (a0.length : Int)), (8, I x1)] [] ?_
 refine srv 3 19 [(0, A a0), (1, .fn g1 c1), (5, I x1), (7, I (a0.length : Int)), (8, I x1), (11, .fn g1 c1), (12, A a0), (13, I x1)] [] ?_
 obtain ⟨v5, hv6, h⟩ := bindS h
 refine opsP_idx τ_ok 14 hv6 (by kernel_rfl) ?_
 refine v 1 19 [(0, A a0), (1, .fn g1 c1), (5, I x1), (7, I (a0.length : Int)), (8, I x1), (11, .fn g1 c1), (15, E v5)] [] ?_
 obtain ⟨v7, hv8, h⟩ := bindS h
 refine opsP_callF τ 16 (hp1 _ _ hv8) (FzTo.frz rfl) (frz_app (xs := [E v5]) rfl hz1) (by kernel_rfl) ?_
 refine ve 0 19 [(0, A a0), (1, .fn g1 c1), (5, I x1), (7, I (a0.length : Int)), (8, I x1), (16, B v7)] [] ?_
 refine pc h (fun h => ?_) (fun h => ?_)
 refine srve 19 [(4, I x1)] [] ?_
 cases h
 exact pwp_ret rz
 refine pwp_skip ?_
 refine rve 19 [(0, A a0), (1, .fn g1 c1), (7, I (a0.length : Int)), (8, I (w64 (x1 + 1)))] [] ?_
 exact ⟨(f2, (w64 (x1 + 1))), h, Nat.lt_succ_self _, it [0, 1, 7, 8]⟩
 refine pwp_exit ?_
 refine srve 19 [(4, I (-1))] [] ?_
 cases h
 exact pwp_ret rz
def slices_IndexFunc_int_int_l0 (a0 : List Int) (a1 : Int → Option Bool) : Nat → Int → Option Int
 | 0, _ => none
 | f2 + 1, x1 => bif (decide (x1 < (a0.length : Int))) then (getI a0 x1).bind fun v5 => (a1 v5).bind fun v7 => bif v7 then some x1 else (slices_IndexFunc_int_int_l0 a0 a1 f2) (w64 (x1 + 1)) else some (-1)
def slices_IndexFunc_int_int (a0 : List Int) (a1 : Int → Option Bool) : Option Int := slices_IndexFunc_int_int_l0 a0 a1 FUEL 0
theorem ok_slices_IndexFunc_int_int {a0 : List Int} {g1 : FuncId} {c1 : List V} (hz1 : frzL c1 = true) {a1 : Int → Option Bool} (hp1 : ∀ x0 y, a1 x0 = some y → OK Try.prog g1 ([I x0] ++ c1) (B y)) {y : Int} (h : slices_IndexFunc_int_int a0 a1 = some y) : OK Try.prog 83 [A a0, .fn g1 c1] (I y) := by
 refine ow Try.func83 fun Γ hX => ?_
 unfold slices_IndexFunc_int_int at h
 refine srve 19 [(0, A a0), (1, .fn g1 c1)] [] ?_
 refine pwp_seq ?_
 refine srve 19 [(0, A a0), (1, .fn g1 c1), (7, I (a0.length : Int)), (8, I 0)] [] ?_
 refine pwp_block ?_
 refine pwp_loop (ι := Nat × Int) (fun (f2, x1) => (⟨19, [(0, A a0), (1, .fn g1 c1), (7, I (a0.length : Int)), (8, I x1)], []⟩ : St)) (fun (f2, x1) => slices_IndexFunc_int_int_l0 a0 a1 f2 x1 = some y) Prod.fst (FUEL, 0) h (it [0, 1, 7, 8]) ?_
 rintro ⟨f2, x1⟩ h
 dsimp only at h ⊢
 rcases f2 with _ | f2
 cases h
 rw [slices_IndexFunc_int_int_l0] at h
 refine srve 19 [(0, A a0), (1, .fn g1 c1), (7, I (a0.length : Int)), (8, I x1), (9, B (decide (x1 < (a0.length : Int))))] [] ?_
 refine pwp_seq ?_
 refine pc h (fun h => ?_) (fun h => ?_)
 refine pwp_skip ?_
 refine pwp_seq ?_
 refine pwp_block ?_
 refine srve 19 [(0, A a0), (1, .fn g1 c1), (5, I x1), (7, I (a0.length : Int)), (8, I x1)] [] ?_
 refine srv 3 19 [(0, A a0), (1, .fn g1 c1), (5, I x1), (7, I (a0.length : Int)), (8, I x1), (11, .fn g1 c1), (12, A a0), (13, I x1)] [] ?_
 obtain ⟨v5, hv6, h⟩ := bindS h
 refine opsP_idx τ_ok 14 hv6 (by kernel_rfl) ?_
 refine v 1 19 [(0, A a0), (1, .fn g1 c1), (5, I x1), (7, I (a0.length : Int)), (8, I x1), (11, .fn g1 c1), (15, I v5)] [] ?_
 obtain ⟨v7, hv8, h⟩ := bindS h
 refine opsP_callF τ 16 (hp1 _ _ hv8) (FzTo.frz rfl) (frz_app (xs := [I v5]) rfl hz1) (by kernel_rfl) ?_
 refine ve 0 19 [(0, A a0), (1, .fn g1 c1), (5, I x1), (7, I (a0.length : Int)), (8, I x1), (16, B v7)] [] ?_
 refine pc h (fun h => ?_) (fun h => ?_)
 refine srve 19 [(4, I x1)] [] ?_
 cases h
 exact pwp_ret rz
 refine pwp_skip ?_
 refine rve 19 [(0, A a0), (1, .fn g1 c1), (7, I (a0.length : Int)), (8, I (w64 (x1 + 1)))] [] ?_
 exact ⟨(f2, (w64 (x1 + 1))), h, Nat.lt_succ_self _, it [0, 1, 7, 8]⟩
 refine pwp_exit ?_
 refine srve 19 [(4, I (-1))] [] ?_
 cases h
 exact pwp_ret rz
def spec_l1Text_j1 (x1 : Int) (K3 : Int → Option Bool) (x5 : Bool) : Option Bool := bif x5 then some false else K3 (w64 (x1 + 1))
def spec_l1Text_l0 (a0 : ByteArray) : Nat → Int → Option Bool
 | 0, _ => none
 | f2 + 1, x1 => bif (decide (x1 < (a0.size : Int))) then (getB a0 x1).bind fun v7 => bif (decide ((v7.toNat : Int) < 97)) then spec_l1Text_j1 x1 (spec_l1Text_l0 a0 f2) true else (getB a0 x1).bind fun v9 => spec_l1Text_j1 x1 (spec_l1Text_l0 a0 f2) (decide ((v9.toNat : Int) > 122)) else some (decide ((a0.size : Int) ≤ 6))
def spec_l1Text (a0 : ByteArray) : Option Bool := spec_l1Text_l0 a0 FUEL 0
theorem ok_spec_l1Text {a0 : ByteArray} {y : Bool} (h : spec_l1Text a0 = some y) : OK Try.prog 95 [S a0] (B y) := by
 refine ow Try.func95 fun Γ hX => ?_
 unfold spec_l1Text at h
 refine srve 23 [(0, S a0)] [] ?_
 refine pwp_seq ?_
 refine srve 23 [(0, S a0), (3, I 0)] [] ?_
 refine pwp_block ?_
 refine pwp_loop (ι := Nat × Int) (fun (f2, x1) => (⟨23, [(0, S a0), (3, I x1)], []⟩ : St)) (fun (f2, x1) => spec_l1Text_l0 a0 f2 x1 = some y) Prod.fst (FUEL, 0) h (it [0, 3]) ?_
 rintro ⟨f2, x1⟩ h
 dsimp only at h ⊢
 rcases f2 with _ | f2
 cases h
 rw [spec_l1Text_l0] at h
 refine pwp_seq ?_
 refine srve 23 [(0, S a0), (3, I x1), (7, B (decide (x1 < (a0.size : Int))))] [] ?_
 refine pc h (fun h => ?_) (fun h => ?_)
 refine pwp_skip ?_
 refine pwp_seq ?_
 refine pwp_block ?_
 refine pwp_seq ?_
 refine pwp_join (σ := Bool) (fun x5 => (⟨23, [(0, S a0), (3, I x1), (19, B x5)], []⟩ : St)) (fun x5 => spec_l1Text_j1 x1 (spec_l1Text_l0 a0 f2) x5 = some y) ?_ ?_
 refine rv 2 23 [(0, S a0), (3, I x1), (10, S a0), (11, I x1)] [] ?_
 obtain ⟨v7, hv8, h⟩ := bindS h
 refine opsP_byt τ_ok 12 hv8 (by kernel_rfl) ?_
 refine v 2 23 [(0, S a0), (3, I x1), (14, B (decide ((v7.toNat : Int) < 97)))] [] ?_
 rcases fk (decide ((v7.toNat : Int) < 97)) with hc11 | hc11
 replace h := bT hc11 h
 rw [hc11]
 refine ve 5 23 [(0, S a0), (3, I x1), (15, .lit undef), (16, .lit undef), (17, .lit undef), (18, .lit undef), (19, B true)] [] ?_
 exact ⟨true, h, it [0, 3, 19]⟩
 replace h := bF hc11 h
 rw [hc11]
 refine v 2 23 [(0, S a0), (3, I x1), (14, B false), (15, S a0), (16, I x1)] [] ?_
 obtain ⟨v9, hv10, h⟩ := bindS h
 refine opsP_byt τ_ok 17 hv10 (by kernel_rfl) ?_
 refine ve 2 23 [(0, S a0), (3, I x1), (15, S a0), (16, I x1), (17, .lit (.int .u8 (v9).toNat)), (18, B (decide ((v9.toNat : Int) > 122))), (19, B (decide ((v9.toNat : Int) > 122)))] [] ?_
 exact ⟨(decide ((v9.toNat : Int) > 122)), h, it [0, 3, 19]⟩
 rintro x5 h
 unfold spec_l1Text_j1 at h
 refine pc h (fun h => ?_) (fun h => ?_)
 refine srve 23 [(2, B false)] [] ?_
 cases h
 exact pwp_ret rz
 refine pwp_skip ?_
 refine rve 23 [(0, S a0), (3, I (w64 (x1 + 1)))] [] ?_
 exact ⟨(f2, (w64 (x1 + 1))), h, Nat.lt_succ_self _, it [0, 3]⟩
 refine pwp_exit ?_
 refine srve 23 [(2, B (decide ((a0.size : Int) ≤ 6)))] [] ?_
 cases h
 exact pwp_ret rz
def laws_toColumnS_l0 (a0 : List T_laws_Column) : Nat → Int → (List T_impl_Column) → Option (List T_impl_Column)
 | 0, _, _ => none
 | f6 + 1, x4, x5 => bif (decide (x4 < (a0.length : Int))) then (getI a0 x4).bind fun v9 => (laws_toColumn v9).bind fun v11 => (getI x5 x4).bind fun v13 => (laws_toColumnS_l0 a0 f6) (w64 (x4 + 1)) (x5.set x4.toNat v11) else some x5
def laws_toColumnS (a0 : List T_laws_Column) : Option (List T_impl_Column) := (mkI (a0.length : Int) (T_impl_Column.mk 0 false)).bind fun v1 => laws_toColumnS_l0 a0 FUEL 0 v1
theorem ok_laws_toColumnS {a0 : List T_laws_Column} {y : List T_impl_Column} (h : laws_toColumnS a0 = some y) : OK Try.prog 14 [A a0] (O y) := by
 refine ow Try.func14 fun Γ hX => ?_
 unfold laws_toColumnS at h
 refine srve 23 [(0, A a0)] [] ?_
 refine srv 2 23 [(0, A a0), (6, I (a0.length : Int))] [] ?_
 obtain ⟨v1, hv2, h⟩ := bindS h
 refine opsP_mk τ_ok 7 0 _ hv2 (by kernel_rfl) (by kernel_rfl) ?_
 refine ve 1 23 [(0, A a0), (3, rf 0 0 2 v1)] [sl 0 v1] ?_
 refine pwp_seq ?_
 refine srve 23 [(0, A a0), (3, rf 0 0 2 v1), (4, I 0)] [sl 0 v1] ?_
 refine pwp_block ?_
 refine pwp_loop (ι := Nat × Int × (List T_impl_Column)) (fun (f6, x4, x5) => (⟨23, [(0, A a0), (3, rf 0 0 2 x5), (4, I x4)], [sl 0 x5]⟩ : St)) (fun (f6, x4, x5) => laws_toColumnS_l0 a0 f6 x4 x5 = some y) Prod.fst (FUEL, 0, v1) h (it [0, 3, 4]) ?_
 rintro ⟨f6, x4, x5⟩ h
 dsimp only at h ⊢
 rcases f6 with _ | f6
 cases h
 rw [laws_toColumnS_l0] at h
 refine pwp_seq ?_
 refine srve 23 [(0, A a0), (3, rf 0 0 2 x5), (4, I x4), (11, B (decide (x4 < (a0.length : Int))))] [sl 0 x5] ?_
 refine pc h (fun h => ?_) (fun h => ?_)
 refine pwp_skip ?_
 refine pwp_seq ?_
 refine pwp_block ?_
 refine rv 4 23 [(0, A a0), (3, rf 0 0 2 x5), (4, I x4), (14, rf 0 0 2 x5), (15, I x4), (16, A a0), (17, I x4)] [sl 0 x5] ?_
 obtain ⟨v9, hv10, h⟩ := bindS h
 refine opsP_idx τ_ok 18 hv10 (by kernel_rfl) ?_
 refine v 1 23 [(0, A a0), (3, rf 0 0 2 x5), (4, I x4), (14, rf 0 0 2 x5), (15, I x4), (19, E v9)] [sl 0 x5] ?_
 obtain ⟨v11, hv12, h⟩ := bindS h
 refine cF 20 (ok_laws_toColumn hv12) ?_
 obtain ⟨v13, hv14, h⟩ := bindS h
 refine opsP_idr τ_ok 21 0 0 x5.length hv14 rfl (by kernel_rfl) ?_
 refine v 0 23 [(0, A a0), (3, rf 0 0 2 x5), (4, I x4), (20, E v11), (21, .ptr 0 0 (x4.toNat * 2))] [sl 0 x5] ?_
 refine opsP_ste (vs := [I v11.fKind, B v11.fEmpty]) τ_ok 32 0 0 0 v11 hv14 (by kernel_rfl) (by kernel_rfl) (by kernel_rfl) (renC trivial (renC (ren_ref (List.length_set ..).symm) (renC trivial (renC trivial (renC trivial renC0))))) ?_
 refine ve 0 23 [(0, A a0), (3, .ref 0 0 0 2 (x5.set x4.toNat v11).length false), (4, I x4)] [some ⟨0, eL (x5.set x4.toNat v11)⟩] ?_
 refine rve 23 [(0, A a0), (3, .ref 0 0 0 2 (x5.set x4.toNat v11).length false), (4, I (w64 (x4 + 1)))] [some ⟨0, eL (x5.set x4.toNat v11)⟩] ?_
 exact ⟨(f6, (w64 (x4 + 1)), (x5.set x4.toNat v11)), h, Nat.lt_succ_self _, it [0, 3, 4]⟩
 refine pwp_exit ?_
 refine srve 23 [(2, rf 0 0 2 x5)] [sl 0 x5] ?_
 have h := si h
 subst h
 exact pwp_ret (rt (rf 0 0 2 x5) (OutP.list (v := 0) (by kernel_rfl)))
def laws_eqColumnS_l0 (a0 : List T_impl_Column) (a1 : List T_impl_Column) : Nat → Int → Option Bool
 | 0, _ => none
 | f3 + 1, x2 => bif (decide (x2 < (a0.length : Int))) then (getI a0 x2).bind fun v6 => (getI a1 x2).bind fun v8 => (laws_eqColumn v6 v8).bind fun v10 => bif (!v10) then some false else (laws_eqColumnS_l0 a0 a1 f3) (w64 (x2 + 1)) else some true
def laws_eqColumnS (a0 : List T_impl_Column) (a1 : List T_impl_Column) : Option Bool := bif (!((a0.length : Int) == (a1.length : Int))) then some false else laws_eqColumnS_l0 a0 a1 FUEL 0
theorem ok_laws_eqColumnS {a0 : List T_impl_Column} {a1 : List T_impl_Column} {y : Bool} (h : laws_eqColumnS a0 a1 = some y) : OK Try.prog 17 [A a0, A a1] (B y) := by
 refine ow Try.func17 fun Γ hX => ?_
 unfold laws_eqColumnS at h
 refine srve 27 [(0, A a0), (1, A a1)] [] ?_
 refine pwp_seq ?_
 refine srve 27 [(0, A a0), (1, A a1), (10, B (!((a0.length : Int) == (a1.length : Int))))] [] ?_
 refine pc h (fun h => ?_) (fun h => ?_)
 refine srve 27 [(4, B false)] [] ?_
 cases h
 exact pwp_ret rz
 refine pwp_skip ?_
 refine pwp_seq ?_
 refine srve 27 [(0, A a0), (1, A a1), (5, I 0)] [] ?_
 refine pwp_block ?_
 refine pwp_loop (ι := Nat × Int) (fun (f3, x2) => (⟨27, [(0, A a0), (1, A a1), (5, I x2)], []⟩ : St)) (fun (f3, x2) => laws_eqColumnS_l0 a0 a1 f3 x2 = some y) Prod.fst (FUEL, 0) h (it [0, 1, 5]) ?_
 rintro ⟨f3, x2⟩ h
 dsimp only at h ⊢
 rcases f3 with _ | f3
 cases h
 rw [laws_eqColumnS_l0] at h
 refine pwp_seq ?_
 refine srve 27 [(0, A a0), (1, A a1), (5, I x2), (14, B (decide (x2 < (a0.length : Int))))] [] ?_
 refine pc h (fun h => ?_) (fun h => ?_)
 refine pwp_skip ?_
 refine pwp_seq ?_
 refine pwp_block ?_
 refine pwp_seq ?_
 refine ip 27 [(0, A a0), (1, A a1), (5, I x2)] [] ?_
 refine pN 10 ?_
 refine qv [] trivial 2 27 [(18, I x2), (17, A a0), (0, A a0), (1, A a1), (5, I x2)] [] ?_
 obtain ⟨v6, hv7, h⟩ := bindS h
 refine qX (some 19) (pf v6 0) 27 [(19, pf v6 0), (0, A a0), (1, A a1), (5, I x2)] [] (fun Γ' hΓ => CoreE.of_y (idxV_sound τ_ok (by kernel_rfl) hv7)) trivial ?_
 refine qv [] trivial 3 27 [(22, I x2), (21, A a1), (20, E v6), (0, A a0), (1, A a1), (5, I x2)] [] ?_
 obtain ⟨v8, hv9, h⟩ := bindS h
 refine qX (some 23) (pf v8 0) 27 [(23, pf v8 0), (20, E v6), (0, A a0), (1, A a1), (5, I x2)] [] (fun Γ' hΓ => CoreE.of_y (idxV_sound τ_ok (by kernel_rfl) hv9)) trivial ?_
 refine qv [] trivial 1 27 [(24, E v8), (20, E v6), (0, A a0), (1, A a1), (5, I x2)] [] ?_
 obtain ⟨v10, hv11, h⟩ := bindS h
 refine qX (some 25) (B v10) 27 [(25, B v10), (0, A a0), (1, A a1), (5, I x2)] [] (fun Γ' hΓ => CoreE.of_g (callV_sound (τ := τ) (by kernel_rfl) rfl (ok_laws_eqColumn hv11) (FzTo.frz rfl))) trivial ?_
 refine qvn [] trivial 1 27 [(0, A a0), (1, A a1), (5, I x2), (26, B (!v10))] [] ?_
 refine pc h (fun h => ?_) (fun h => ?_)
 refine srve 27 [(4, B false)] [] ?_
 cases h
 exact pwp_ret rz
 refine pwp_skip ?_
 refine rve 27 [(0, A a0), (1, A a1), (5, I (w64 (x2 + 1)))] [] ?_
 exact ⟨(f3, (w64 (x2 + 1))), h, Nat.lt_succ_self _, it [0, 1, 5]⟩
 refine pwp_exit ?_
 refine srve 27 [(4, B true)] [] ?_
 cases h
 exact pwp_ret rz
def laws_markPartS_l0 : Nat → Int → Int → (List T_impl_Part) → Option (Int × List T_impl_Part)
 | 0, _, _, _ => none
 | f5 + 1, x2, x3, x4 => bif (decide (x3 < (x4.length : Int))) then (getI x4 x3).bind fun v8 => (getI (x4.set x3.toNat ({ v8 with fKind := x2 } : T_impl_Part)) x3).bind fun v10 => (getI ((x4.set x3.toNat ({ v8 with fKind := x2 } : T_impl_Part)).set x3.toNat ({ v10 with fN := (w64 (x2 + 1)) } : T_impl_Part)) x3).bind fun v12 => (getI (((x4.set x3.toNat ({ v8 with fKind := x2 } : T_impl_Part)).set x3.toNat ({ v10 with fN := (w64 (x2 + 1)) } : T_impl_Part)).set x3.toNat ({ v12 with fV := { v12.fV with fKind := (w64 ((w64 (x2 + 1)) + 1)) } } : T_impl_Part)) x3).bind fun v14 => (laws_markText (w64 ((w64 ((w64 ((w64 (x2 + 1)) + 1)) + 1)) + 1))).bind fun v16 => (getI ((((x4.set x3.toNat ({ v8 with fKind := x2 } : T_impl_Part)).set x3.toNat ({ v10 with fN := (w64 (x2 + 1)) } : T_impl_Part)).set x3.toNat ({ v12 with fV := { v12.fV with fKind := (w64 ((w64 (x2 + 1)) + 1)) } } : T_impl_Part)).set x3.toNat ({ v14 with fV := { v14.fV with fN := (w64 ((w64 ((w64 (x2 + 1)) + 1)) + 1)) } } : T_impl_Part)) x3).bind fun v18 => (laws_markPartS_l0 f5) (w64 ((w64 ((w64 ((w64 ((w64 (x2 + 1)) + 1)) + 1)) + 1)) + 1)) (w64 (x3 + 1)) (((((x4.set x3.toNat ({ v8 with fKind := x2 } : T_impl_Part)).set x3.toNat ({ v10 with fN := (w64 (x2 + 1)) } : T_impl_Part)).set x3.toNat ({ v12 with fV := { v12.fV with fKind := (w64 ((w64 (x2 + 1)) + 1)) } } : T_impl_Part)).set x3.toNat ({ v14 with fV := { v14.fV with fN := (w64 ((w64 ((w64 (x2 + 1)) + 1)) + 1)) } } : T_impl_Part)).set x3.toNat ({ v18 with fV := { v18.fV with fS := v16 } } : T_impl_Part)) else some (x2, x4)
def laws_markPartS (a0 : List T_impl_Part) (a1 : Int) : Option (Int × List T_impl_Part) := laws_markPartS_l0 FUEL a1 0 a0
theorem len_laws_markPartS_l0 : ∀ (f5 : Nat) (x2 : Int) (x3 : Int) (x4 : List T_impl_Part) (y : Int × List T_impl_Part), laws_markPartS_l0 f5 x2 x3 x4 = some y → y.2.length = x4.length
 | 0, _, _, _, _, h => by cases h
 | f5 + 1, x2, x3, x4, y, h => by
  rw [laws_markPartS_l0] at h
  rcases condS h with h | h
  ·obtain ⟨_, _, h⟩ := bindS h
   obtain ⟨_, _, h⟩ := bindS h
   obtain ⟨_, _, h⟩ := bindS h
   obtain ⟨_, _, h⟩ := bindS h
   obtain ⟨_, _, h⟩ := bindS h
   obtain ⟨_, _, h⟩ := bindS h
   have h2 := len_laws_markPartS_l0 f5 _ _ _ _ h
   simp only [List.length_set] at h2
   exact h2
  ·cases h; rfl
theorem len_laws_markPartS {a0 : List T_impl_Part} {a1 : Int} {y : Int × List T_impl_Part} (h : laws_markPartS a0 a1 = some y) : y.2.length = a0.length := by
 unfold laws_markPartS at h
 exact len_laws_markPartS_l0 _ _ _ _ _ h
theorem ok_laws_markPartS {a0 : List T_impl_Part} {a1 : Int} {y : Int × List T_impl_Part} (h : laws_markPartS a0 a1 = some y) : OKd Try.prog 20 5 a0.length (eL a0) [I a1] (.int .i64 y.1) (eL y.2) := by
 refine OKd_of_pwp τ_ok Try.func20 rfl (by kernel_rfl) rfl (O_oc _) (O_oc _) (BlindL.lits (eL_lit DFlat.lit _)) (BlindL.lits (eL_lit DFlat.lit _)) rfl (fun hl => by rw [eL_len, len_laws_markPartS h, ← eL_len]; exact hl) fun Γ hQ => ?_
 refine pwp_imp (Imp.to (st' := ⟨52, [(0, rf 0 0 5 a0), (1, I a1)], [sl 0 a0]⟩) [0, 1] (by kernel_rfl)) ?_
 unfold laws_markPartS at h
 refine srve 52 [(0, rf 0 0 5 a0), (1, I a1)] [sl 0 a0] ?_
 refine pwp_seq ?_
 refine srve 52 [(0, rf 0 0 5 a0), (1, I a1), (5, I 0)] [sl 0 a0] ?_
 refine pwp_block ?_
 refine pwp_loop (ι := Nat × Int × Int × (List T_impl_Part)) (fun (f5, x2, x3, x4) => (⟨52, [(0, rf 0 0 5 x4), (1, I x2), (5, I x3)], [sl 0 x4]⟩ : St)) (fun (f5, x2, x3, x4) => laws_markPartS_l0 f5 x2 x3 x4 = some y) Prod.fst (FUEL, a1, 0, a0) h (it [0, 1, 5]) ?_
 rintro ⟨f5, x2, x3, x4⟩ h
 dsimp only at h ⊢
 rcases f5 with _ | f5
 cases h
 rw [laws_markPartS_l0] at h
 refine pwp_seq ?_
 refine srve 52 [(0, rf 0 0 5 x4), (1, I x2), (5, I x3), (9, B (decide (x3 < (x4.length : Int))))] [sl 0 x4] ?_
 refine pc h (fun h => ?_) (fun h => ?_)
 refine pwp_skip ?_
 refine pwp_seq ?_
 refine pwp_block ?_
 refine srv 3 52 [(0, rf 0 0 5 x4), (1, I x2), (5, I x3), (12, rf 0 0 5 x4), (13, I x3), (14, I x2)] [sl 0 x4] ?_
 obtain ⟨v8, hv9, h⟩ := bindS h
 refine opsP_idr τ_ok 15 0 0 x4.length hv9 rfl (by kernel_rfl) ?_
 refine v 1 52 [(0, rf 0 0 5 x4), (1, I x2), (5, I x3), (14, I x2), (16, .ptr 0 0 (x3.toNat * 5))] [sl 0 x4] ?_
 refine opsP_ste (vs := [I x2]) τ_ok 3 0 0 0 ({ v8 with fKind := x2 } : T_impl_Part) hv9 (by kernel_rfl) (by kernel_rfl) (by kernel_rfl) (renC (ren_ref (List.length_set ..).symm) (renC trivial (renC trivial (renC trivial (renC trivial renC0))))) ?_
 refine ve 0 52 [(0, .ref 0 0 0 5 (x4.set x3.toNat ({ v8 with fKind := x2 } : T_impl_Part)).length false), (1, I x2), (5, I x3)] [some ⟨0, eL (x4.set x3.toNat ({ v8 with fKind := x2 } : T_impl_Part))⟩] ?_
 refine srve 52 [(0, .ref 0 0 0 5 (x4.set x3.toNat ({ v8 with fKind := x2 } : T_impl_Part)).length false), (1, I (w64 (x2 + 1))), (5, I x3)] [some ⟨0, eL (x4.set x3.toNat ({ v8 with fKind := x2 } : T_impl_Part))⟩] ?_
 refine srv 3 52 [(0, .ref 0 0 0 5 (x4.set x3.toNat ({ v8 with fKind := x2 } : T_impl_Part)).length false), (1, I (w64 (x2 + 1))), (5, I x3), (19, .ref 0 0 0 5 (x4.set x3.toNat ({ v8 with fKind := x2 } : T_impl_Part)).length false), (20, I x3), (21, I (w64 (x2 + 1)))] [some ⟨0, eL (x4.set x3.toNat ({ v8 with fKind := x2 } : T_impl_Part))⟩] ?_
 obtain ⟨v10, hv11, h⟩ := bindS h
 refine opsP_idr τ_ok 22 0 0 (x4.set x3.toNat ({ v8 with fKind := x2 } : T_impl_Part)).length hv11 rfl (by kernel_rfl) ?_
 refine v 1 52 [(0, .ref 0 0 0 5 (x4.set x3.toNat ({ v8 with fKind := x2 } : T_impl_Part)).length false), (1, I (w64 (x2 + 1))), (5, I x3), (21, I (w64 (x2 + 1))), (23, .ptr 0 0 (x3.toNat * 5 + 1))] [some ⟨0, eL (x4.set x3.toNat ({ v8 with fKind := x2 } : T_impl_Part))⟩] ?_
 refine opsP_ste (vs := [I (w64 (x2 + 1))]) τ_ok 3 0 0 1 ({ v10 with fN := (w64 (x2 + 1)) } : T_impl_Part) hv11 (by kernel_rfl) (by kernel_rfl) (by kernel_rfl) (renC (ren_ref (List.length_set ..).symm) (renC trivial (renC trivial (renC trivial (renC trivial renC0))))) ?_
 refine ve 0 52 [(0, .ref 0 0 0 5 ((x4.set x3.toNat ({ v8 with fKind := x2 } : T_impl_Part)).set x3.toNat ({ v10 with fN := (w64 (x2 + 1)) } : T_impl_Part)).length false), (1, I (w64 (x2 + 1))), (5, I x3)] [some ⟨0, eL ((x4.set x3.toNat ({ v8 with fKind := x2 } : T_impl_Part)).set x3.toNat ({ v10 with fN := (w64 (x2 + 1)) } : T_impl_Part))⟩] ?_
 refine srve 52 [(0, .ref 0 0 0 5 ((x4.set x3.toNat ({ v8 with fKind := x2 } : T_impl_Part)).set x3.toNat ({ v10 with fN := (w64 (x2 + 1)) } : T_impl_Part)).length false), (1, I (w64 ((w64 (x2 + 1)) + 1))), (5, I x3)] [some ⟨0, eL ((x4.set x3.toNat ({ v8 with fKind := x2 } : T_impl_Part)).set x3.toNat ({ v10 with fN := (w64 (x2 + 1)) } : T_impl_Part))⟩] ?_
 refine srv 3 52 [(0, .ref 0 0 0 5 ((x4.set x3.toNat ({ v8 with fKind := x2 } : T_impl_Part)).set x3.toNat ({ v10 with fN := (w64 (x2 + 1)) } : T_impl_Part)).length false), (1, I (w64 ((w64 (x2 + 1)) + 1))), (5, I x3), (26, .ref 0 0 0 5 ((x4.set x3.toNat ({ v8 with fKind := x2 } : T_impl_Part)).set x3.toNat ({ v10 with fN := (w64 (x2 + 1)) } : T_impl_Part)).length false), (27, I x3), (28, I (w64 ((w64 (x2 + 1)) + 1)))] [some ⟨0, eL ((x4.set x3.toNat ({ v8 with fKind := x2 } : T_impl_Part)).set x3.toNat ({ v10 with fN := (w64 (x2 + 1)) } : T_impl_Part))⟩] ?_
 obtain ⟨v12, hv13, h⟩ := bindS h
 refine opsP_idr τ_ok 29 0 0 ((x4.set x3.toNat ({ v8 with fKind := x2 } : T_impl_Part)).set x3.toNat ({ v10 with fN := (w64 (x2 + 1)) } : T_impl_Part)).length hv13 rfl (by kernel_rfl) ?_
 refine v 2 52 [(0, .ref 0 0 0 5 ((x4.set x3.toNat ({ v8 with fKind := x2 } : T_impl_Part)).set x3.toNat ({ v10 with fN := (w64 (x2 + 1)) } : T_impl_Part)).length false), (1, I (w64 ((w64 (x2 + 1)) + 1))), (5, I x3), (28, I (w64 ((w64 (x2 + 1)) + 1))), (31, .ptr 0 0 (x3.toNat * 5 + 2))] [some ⟨0, eL ((x4.set x3.toNat ({ v8 with fKind := x2 } : T_impl_Part)).set x3.toNat ({ v10 with fN := (w64 (x2 + 1)) } : T_impl_Part))⟩] ?_
 refine opsP_ste (vs := [I (w64 ((w64 (x2 + 1)) + 1))]) τ_ok 3 0 0 2 ({ v12 with fV := { v12.fV with fKind := (w64 ((w64 (x2 + 1)) + 1)) } } : T_impl_Part) hv13 (by kernel_rfl) (by kernel_rfl) (by kernel_rfl) (renC (ren_ref (List.length_set ..).symm) (renC trivial (renC trivial (renC trivial (renC trivial renC0))))) ?_
 refine ve 0 52 [(0, .ref 0 0 0 5 (((x4.set x3.toNat ({ v8 with fKind := x2 } : T_impl_Part)).set x3.toNat ({ v10 with fN := (w64 (x2 + 1)) } : T_impl_Part)).set x3.toNat ({ v12 with fV := { v12.fV with fKind := (w64 ((w64 (x2 + 1)) + 1)) } } : T_impl_Part)).length false), (1, I (w64 ((w64 (x2 + 1)) + 1))), (5, I x3)] [some ⟨0, eL (((x4.set x3.toNat ({ v8 with fKind := x2 } : T_impl_Part)).set x3.toNat ({ v10 with fN := (w64 (x2 + 1)) } : T_impl_Part)).set x3.toNat ({ v12 with fV := { v12.fV with fKind := (w64 ((w64 (x2 + 1)) + 1)) } } : T_impl_Part))⟩] ?_
 refine srve 52 [(0, .ref 0 0 0 5 (((x4.set x3.toNat ({ v8 with fKind := x2 } : T_impl_Part)).set x3.toNat ({ v10 with fN := (w64 (x2 + 1)) } : T_impl_Part)).set x3.toNat ({ v12 with fV := { v12.fV with fKind := (w64 ((w64 (x2 + 1)) + 1)) } } : T_impl_Part)).length false), (1, I (w64 ((w64 ((w64 (x2 + 1)) + 1)) + 1))), (5, I x3)] [some ⟨0, eL (((x4.set x3.toNat ({ v8 with fKind := x2 } : T_impl_Part)).set x3.toNat ({ v10 with fN := (w64 (x2 + 1)) } : T_impl_Part)).set x3.toNat ({ v12 with fV := { v12.fV with fKind := (w64 ((w64 (x2 + 1)) + 1)) } } : T_impl_Part))⟩] ?_
 refine srv 3 52 [(0, .ref 0 0 0 5 (((x4.set x3.toNat ({ v8 with fKind := x2 } : T_impl_Part)).set x3.toNat ({ v10 with fN := (w64 (x2 + 1)) } : T_impl_Part)).set x3.toNat ({ v12 with fV := { v12.fV with fKind := (w64 ((w64 (x2 + 1)) + 1)) } } : T_impl_Part)).length false), (1, I (w64 ((w64 ((w64 (x2 + 1)) + 1)) + 1))), (5, I x3), (34, .ref 0 0 0 5 (((x4.set x3.toNat ({ v8 with fKind := x2 } : T_impl_Part)).set x3.toNat ({ v10 with fN := (w64 (x2 + 1)) } : T_impl_Part)).set x3.toNat ({ v12 with fV := { v12.fV with fKind := (w64 ((w64 (x2 + 1)) + 1)) } } : T_impl_Part)).length false), (35, I x3), (36, I (w64 ((w64 ((w64 (x2 + 1)) + 1)) + 1)))] [some ⟨0, eL (((x4.set x3.toNat ({ v8 with fKind := x2 } : T_impl_Part)).set x3.toNat ({ v10 with fN := (w64 (x2 + 1)) } : T_impl_Part)).set x3.toNat ({ v12 with fV := { v12.fV with fKind := (w64 ((w64 (x2 + 1)) + 1)) } } : T_impl_Part))⟩] ?_
 obtain ⟨v14, hv15, h⟩ := bindS h
 refine opsP_idr τ_ok 37 0 0 (((x4.set x3.toNat ({ v8 with fKind := x2 } : T_impl_Part)).set x3.toNat ({ v10 with fN := (w64 (x2 + 1)) } : T_impl_Part)).set x3.toNat ({ v12 with fV := { v12.fV with fKind := (w64 ((w64 (x2 + 1)) + 1)) } } : T_impl_Part)).length hv15 rfl (by kernel_rfl) ?_
 refine v 2 52 [(0, .ref 0 0 0 5 (((x4.set x3.toNat ({ v8 with fKind := x2 } : T_impl_Part)).set x3.toNat ({ v10 with fN := (w64 (x2 + 1)) } : T_impl_Part)).set x3.toNat ({ v12 with fV := { v12.fV with fKind := (w64 ((w64 (x2 + 1)) + 1)) } } : T_impl_Part)).length false), (1, I (w64 ((w64 ((w64 (x2 + 1)) + 1)) + 1))), (5, I x3), (36, I (w64 ((w64 ((w64 (x2 + 1)) + 1)) + 1))), (39, .ptr 0 0 (x3.toNat * 5 + 3))] [some ⟨0, eL (((x4.set x3.toNat ({ v8 with fKind := x2 } : T_impl_Part)).set x3.toNat ({ v10 with fN := (w64 (x2 + 1)) } : T_impl_Part)).set x3.toNat ({ v12 with fV := { v12.fV with fKind := (w64 ((w64 (x2 + 1)) + 1)) } } : T_impl_Part))⟩] ?_
 refine opsP_ste (vs := [I (w64 ((w64 ((w64 (x2 + 1)) + 1)) + 1))]) τ_ok 3 0 0 3 ({ v14 with fV := { v14.fV with fN := (w64 ((w64 ((w64 (x2 + 1)) + 1)) + 1)) } } : T_impl_Part) hv15 (by kernel_rfl) (by kernel_rfl) (by kernel_rfl) (renC (ren_ref (List.length_set ..).symm) (renC trivial (renC trivial (renC trivial (renC trivial renC0))))) ?_
 refine ve 0 52 [(0, .ref 0 0 0 5 ((((x4.set x3.toNat ({ v8 with fKind := x2 } : T_impl_Part)).set x3.toNat ({ v10 with fN := (w64 (x2 + 1)) } : T_impl_Part)).set x3.toNat ({ v12 with fV := { v12.fV with fKind := (w64 ((w64 (x2 + 1)) + 1)) } } : T_impl_Part)).set x3.toNat ({ v14 with fV := { v14.fV with fN := (w64 ((w64 ((w64 (x2 + 1)) + 1)) + 1)) } } : T_impl_Part)).length false), (1, I (w64 ((w64 ((w64 (x2 + 1)) + 1)) + 1))), (5, I x3)] [some ⟨0, eL ((((x4.set x3.toNat ({ v8 with fKind := x2 } : T_impl_Part)).set x3.toNat ({ v10 with fN := (w64 (x2 + 1)) } : T_impl_Part)).set x3.toNat ({ v12 with fV := { v12.fV with fKind := (w64 ((w64 (x2 + 1)) + 1)) } } : T_impl_Part)).set x3.toNat ({ v14 with fV := { v14.fV with fN := (w64 ((w64 ((w64 (x2 + 1)) + 1)) + 1)) } } : T_impl_Part))⟩] ?_
 refine srve 52 [(0, .ref 0 0 0 5 ((((x4.set x3.toNat ({ v8 with fKind := x2 } : T_impl_Part)).set x3.toNat ({ v10 with fN := (w64 (x2 + 1)) } : T_impl_Part)).set x3.toNat ({ v12 with fV := { v12.fV with fKind := (w64 ((w64 (x2 + 1)) + 1)) } } : T_impl_Part)).set x3.toNat ({ v14 with fV := { v14.fV with fN := (w64 ((w64 ((w64 (x2 + 1)) + 1)) + 1)) } } : T_impl_Part)).length false), (1, I (w64 ((w64 ((w64 ((w64 (x2 + 1)) + 1)) + 1)) + 1))), (5, I x3)] [some ⟨0, eL ((((x4.set x3.toNat ({ v8 with fKind := x2 } : T_impl_Part)).set x3.toNat ({ v10 with fN := (w64 (x2 + 1)) } : T_impl_Part)).set x3.toNat ({ v12 with fV := { v12.fV with fKind := (w64 ((w64 (x2 + 1)) + 1)) } } : T_impl_Part)).set x3.toNat ({ v14 with fV := { v14.fV with fN := (w64 ((w64 ((w64 (x2 + 1)) + 1)) + 1)) } } : T_impl_Part))⟩] ?_
 refine srv 3 52 [(0, .ref 0 0 0 5 ((((x4.set x3.toNat ({ v8 with fKind := x2 } : T_impl_Part)).set x3.toNat ({ v10 with fN := (w64 (x2 + 1)) } : T_impl_Part)).set x3.toNat ({ v12 with fV := { v12.fV with fKind := (w64 ((w64 (x2 + 1)) + 1)) } } : T_impl_Part)).set x3.toNat ({ v14 with fV := { v14.fV with fN := (w64 ((w64 ((w64 (x2 + 1)) + 1)) + 1)) } } : T_impl_Part)).length false), (1, I (w64 ((w64 ((w64 ((w64 (x2 + 1)) + 1)) + 1)) + 1))), (5, I x3), (42, .ref 0 0 0 5 ((((x4.set x3.toNat ({ v8 with fKind := x2 } : T_impl_Part)).set x3.toNat ({ v10 with fN := (w64 (x2 + 1)) } : T_impl_Part)).set x3.toNat ({ v12 with fV := { v12.fV with fKind := (w64 ((w64 (x2 + 1)) + 1)) } } : T_impl_Part)).set x3.toNat ({ v14 with fV := { v14.fV with fN := (w64 ((w64 ((w64 (x2 + 1)) + 1)) + 1)) } } : T_impl_Part)).length false), (43, I x3), (44, I (w64 ((w64 ((w64 ((w64 (x2 + 1)) + 1)) + 1)) + 1)))] [some ⟨0, eL ((((x4.set x3.toNat ({ v8 with fKind := x2 } : T_impl_Part)).set x3.toNat ({ v10 with fN := (w64 (x2 + 1)) } : T_impl_Part)).set x3.toNat ({ v12 with fV := { v12.fV with fKind := (w64 ((w64 (x2 + 1)) + 1)) } } : T_impl_Part)).set x3.toNat ({ v14 with fV := { v14.fV with fN := (w64 ((w64 ((w64 (x2 + 1)) + 1)) + 1)) } } : T_impl_Part))⟩] ?_
 obtain ⟨v16, hv17, h⟩ := bindS h
 refine cF 45 (ok_laws_markText hv17) ?_
 obtain ⟨v18, hv19, h⟩ := bindS h
 refine opsP_idr τ_ok 46 0 0 ((((x4.set x3.toNat ({ v8 with fKind := x2 } : T_impl_Part)).set x3.toNat ({ v10 with fN := (w64 (x2 + 1)) } : T_impl_Part)).set x3.toNat ({ v12 with fV := { v12.fV with fKind := (w64 ((w64 (x2 + 1)) + 1)) } } : T_impl_Part)).set x3.toNat ({ v14 with fV := { v14.fV with fN := (w64 ((w64 ((w64 (x2 + 1)) + 1)) + 1)) } } : T_impl_Part)).length hv19 rfl (by kernel_rfl) ?_
 refine v 2 52 [(0, .ref 0 0 0 5 ((((x4.set x3.toNat ({ v8 with fKind := x2 } : T_impl_Part)).set x3.toNat ({ v10 with fN := (w64 (x2 + 1)) } : T_impl_Part)).set x3.toNat ({ v12 with fV := { v12.fV with fKind := (w64 ((w64 (x2 + 1)) + 1)) } } : T_impl_Part)).set x3.toNat ({ v14 with fV := { v14.fV with fN := (w64 ((w64 ((w64 (x2 + 1)) + 1)) + 1)) } } : T_impl_Part)).length false), (1, I (w64 ((w64 ((w64 ((w64 (x2 + 1)) + 1)) + 1)) + 1))), (5, I x3), (45, S v16), (48, .ptr 0 0 (x3.toNat * 5 + 4))] [some ⟨0, eL ((((x4.set x3.toNat ({ v8 with fKind := x2 } : T_impl_Part)).set x3.toNat ({ v10 with fN := (w64 (x2 + 1)) } : T_impl_Part)).set x3.toNat ({ v12 with fV := { v12.fV with fKind := (w64 ((w64 (x2 + 1)) + 1)) } } : T_impl_Part)).set x3.toNat ({ v14 with fV := { v14.fV with fN := (w64 ((w64 ((w64 (x2 + 1)) + 1)) + 1)) } } : T_impl_Part))⟩] ?_
 refine opsP_ste (vs := [S v16]) τ_ok 9 0 0 4 ({ v18 with fV := { v18.fV with fS := v16 } } : T_impl_Part) hv19 (by kernel_rfl) (by kernel_rfl) (by kernel_rfl) (renC (ren_ref (List.length_set ..).symm) (renC trivial (renC trivial (renC trivial (renC trivial renC0))))) ?_
 refine ve 0 52 [(0, .ref 0 0 0 5 (((((x4.set x3.toNat ({ v8 with fKind := x2 } : T_impl_Part)).set x3.toNat ({ v10 with fN := (w64 (x2 + 1)) } : T_impl_Part)).set x3.toNat ({ v12 with fV := { v12.fV with fKind := (w64 ((w64 (x2 + 1)) + 1)) } } : T_impl_Part)).set x3.toNat ({ v14 with fV := { v14.fV with fN := (w64 ((w64 ((w64 (x2 + 1)) + 1)) + 1)) } } : T_impl_Part)).set x3.toNat ({ v18 with fV := { v18.fV with fS := v16 } } : T_impl_Part)).length false), (1, I (w64 ((w64 ((w64 ((w64 (x2 + 1)) + 1)) + 1)) + 1))), (5, I x3)] [some ⟨0, eL (((((x4.set x3.toNat ({ v8 with fKind := x2 } : T_impl_Part)).set x3.toNat ({ v10 with fN := (w64 (x2 + 1)) } : T_impl_Part)).set x3.toNat ({ v12 with fV := { v12.fV with fKind := (w64 ((w64 (x2 + 1)) + 1)) } } : T_impl_Part)).set x3.toNat ({ v14 with fV := { v14.fV with fN := (w64 ((w64 ((w64 (x2 + 1)) + 1)) + 1)) } } : T_impl_Part)).set x3.toNat ({ v18 with fV := { v18.fV with fS := v16 } } : T_impl_Part))⟩] ?_
 refine rve 52 [(0, .ref 0 0 0 5 (((((x4.set x3.toNat ({ v8 with fKind := x2 } : T_impl_Part)).set x3.toNat ({ v10 with fN := (w64 (x2 + 1)) } : T_impl_Part)).set x3.toNat ({ v12 with fV := { v12.fV with fKind := (w64 ((w64 (x2 + 1)) + 1)) } } : T_impl_Part)).set x3.toNat ({ v14 with fV := { v14.fV with fN := (w64 ((w64 ((w64 (x2 + 1)) + 1)) + 1)) } } : T_impl_Part)).set x3.toNat ({ v18 with fV := { v18.fV with fS := v16 } } : T_impl_Part)).length false), (1, I (w64 ((w64 ((w64 ((w64 ((w64 (x2 + 1)) + 1)) + 1)) + 1)) + 1))), (5, I x3)] [some ⟨0, eL (((((x4.set x3.toNat ({ v8 with fKind := x2 } : T_impl_Part)).set x3.toNat ({ v10 with fN := (w64 (x2 + 1)) } : T_impl_Part)).set x3.toNat ({ v12 with fV := { v12.fV with fKind := (w64 ((w64 (x2 + 1)) + 1)) } } : T_impl_Part)).set x3.toNat ({ v14 with fV := { v14.fV with fN := (w64 ((w64 ((w64 (x2 + 1)) + 1)) + 1)) } } : T_impl_Part)).set x3.toNat ({ v18 with fV := { v18.fV with fS := v16 } } : T_impl_Part))⟩] ?_
 refine rve 52 [(0, .ref 0 0 0 5 (((((x4.set x3.toNat ({ v8 with fKind := x2 } : T_impl_Part)).set x3.toNat ({ v10 with fN := (w64 (x2 + 1)) } : T_impl_Part)).set x3.toNat ({ v12 with fV := { v12.fV with fKind := (w64 ((w64 (x2 + 1)) + 1)) } } : T_impl_Part)).set x3.toNat ({ v14 with fV := { v14.fV with fN := (w64 ((w64 ((w64 (x2 + 1)) + 1)) + 1)) } } : T_impl_Part)).set x3.toNat ({ v18 with fV := { v18.fV with fS := v16 } } : T_impl_Part)).length false), (1, I (w64 ((w64 ((w64 ((w64 ((w64 (x2 + 1)) + 1)) + 1)) + 1)) + 1))), (5, I (w64 (x3 + 1)))] [some ⟨0, eL (((((x4.set x3.toNat ({ v8 with fKind := x2 } : T_impl_Part)).set x3.toNat ({ v10 with fN := (w64 (x2 + 1)) } : T_impl_Part)).set x3.toNat ({ v12 with fV := { v12.fV with fKind := (w64 ((w64 (x2 + 1)) + 1)) } } : T_impl_Part)).set x3.toNat ({ v14 with fV := { v14.fV with fN := (w64 ((w64 ((w64 (x2 + 1)) + 1)) + 1)) } } : T_impl_Part)).set x3.toNat ({ v18 with fV := { v18.fV with fS := v16 } } : T_impl_Part))⟩] ?_
 exact ⟨(f5, (w64 ((w64 ((w64 ((w64 ((w64 (x2 + 1)) + 1)) + 1)) + 1)) + 1)), (w64 (x3 + 1)), (((((x4.set x3.toNat ({ v8 with fKind := x2 } : T_impl_Part)).set x3.toNat ({ v10 with fN := (w64 (x2 + 1)) } : T_impl_Part)).set x3.toNat ({ v12 with fV := { v12.fV with fKind := (w64 ((w64 (x2 + 1)) + 1)) } } : T_impl_Part)).set x3.toNat ({ v14 with fV := { v14.fV with fN := (w64 ((w64 ((w64 (x2 + 1)) + 1)) + 1)) } } : T_impl_Part)).set x3.toNat ({ v18 with fV := { v18.fV with fS := v16 } } : T_impl_Part))), h, Nat.lt_succ_self _, it [0, 1, 5]⟩
 refine pwp_exit ?_
 refine srve 52 [(4, I x2)] [sl 0 x4] ?_
 have h := si h
 subst h
 exact pwp_ret ⟨.inr rfl, 0, by kernel_rfl, by kernel_rfl⟩
def laws_szPart (a0 : T_laws_Part) (a1 : Int) : Option Int := (laws_szValue a0.fV a1).bind fun v1 => bif (decide (v1 < 0)) then some (-1) else some v1
theorem ok_laws_szPart {a0 : T_laws_Part} {a1 : Int} {y : Int} (h : laws_szPart a0 a1 = some y) : OK Try.prog 31 [E a0, I a1] (I y) := by
 refine ow Try.func31 fun Γ hX => ?_
 unfold laws_szPart at h
 refine srve 12 [(1, I a1), (2, pf a0 0)] [] ?_
 refine srv 3 12 [(6, E a0.fV), (7, I a1)] [] ?_
 obtain ⟨v1, hv2, h⟩ := bindS h
 refine cF 8 (ok_laws_szValue hv2) ?_
 refine ve 1 12 [(1, I v1)] [] ?_
 refine pwp_seq ?_
 refine srve 12 [(1, I v1), (10, B (decide (v1 < 0)))] [] ?_
 refine pc h (fun h => ?_) (fun h => ?_)
 refine srve 12 [(4, I (-1))] [] ?_
 cases h
 exact pwp_ret rz
 refine pwp_skip ?_
 refine srve 12 [(4, I v1)] [] ?_
 cases h
 exact pwp_ret rz
def laws_toPart (a0 : T_laws_Part) : Option T_impl_Part := (laws_toValue a0.fV).bind fun v1 => some (T_impl_Part.mk a0.fKind a0.fN v1)
theorem ok_laws_toPart {a0 : T_laws_Part} {y : T_impl_Part} (h : laws_toPart a0 = some y) : OK Try.prog 33 [E a0] (E y) := by
 refine ow Try.func33 fun Γ hX => ?_
 unfold laws_toPart at h
 refine srveM [2, 3] 15 [(1, pf a0 0), (2, .ptr 0 0 0)] [some ⟨0, Enc.cells (T_impl_Part.mk 0 0 (T_impl_Value.mk 0 0 (ByteArray.mk #[])))⟩] ?_
 refine srveM [2, 3] 15 [(1, pf a0 0), (2, .ptr 0 0 0), (3, .ptr 1 0 0)] [some ⟨0, Enc.cells (T_impl_Part.mk 0 0 (T_impl_Value.mk 0 0 (ByteArray.mk #[])))⟩, some ⟨0, Enc.cells (T_impl_Part.mk 0 0 (T_impl_Value.mk 0 0 (ByteArray.mk #[])))⟩] ?_
 refine srveM [2, 3] 15 [(1, pf a0 0), (2, .ptr 0 0 0), (3, .ptr 1 0 0)] [some ⟨0, Enc.cells (T_impl_Part.mk 0 0 (T_impl_Value.mk 0 0 (ByteArray.mk #[])))⟩, some ⟨0, Enc.cells (T_impl_Part.mk a0.fKind 0 (T_impl_Value.mk 0 0 (ByteArray.mk #[])))⟩] ?_
 refine srveM [2, 3] 15 [(1, pf a0 0), (2, .ptr 0 0 0), (3, .ptr 1 0 0)] [some ⟨0, Enc.cells (T_impl_Part.mk 0 0 (T_impl_Value.mk 0 0 (ByteArray.mk #[])))⟩, some ⟨0, Enc.cells (T_impl_Part.mk a0.fKind a0.fN (T_impl_Value.mk 0 0 (ByteArray.mk #[])))⟩] ?_
 refine srvM [2, 3] 2 15 [(2, .ptr 0 0 0), (3, .ptr 1 0 0), (11, E a0.fV)] [some ⟨0, Enc.cells (T_impl_Part.mk 0 0 (T_impl_Value.mk 0 0 (ByteArray.mk #[])))⟩, some ⟨0, Enc.cells (T_impl_Part.mk a0.fKind a0.fN (T_impl_Value.mk 0 0 (ByteArray.mk #[])))⟩] ?_
 obtain ⟨v1, hv2, h⟩ := bindS h
 refine cF 12 (ok_laws_toValue hv2) ?_
 refine veM [2, 3] 2 15 [(2, .ptr 0 0 0), (3, .ptr 1 0 0)] [some ⟨0, Enc.cells (T_impl_Part.mk 0 0 (T_impl_Value.mk 0 0 (ByteArray.mk #[])))⟩, some ⟨0, Enc.cells (T_impl_Part.mk a0.fKind a0.fN v1)⟩] ?_
 refine srveM [2, 3] 15 [(2, .ptr 0 0 0)] [some ⟨0, Enc.cells (T_impl_Part.mk a0.fKind a0.fN v1)⟩, some ⟨0, Enc.cells (T_impl_Part.mk a0.fKind a0.fN v1)⟩] ?_
 cases h
 exact pwp_ret rz
def laws_eqPart (a0 : T_impl_Part) (a1 : T_impl_Part) : Option Bool := bif (!(a0.fKind == a1.fKind)) then some false else bif (!(a0.fN == a1.fN)) then some false else (laws_eqValue a0.fV a1.fV).bind fun v3 => bif (!v3) then some false else some true
theorem ok_laws_eqPart {a0 : T_impl_Part} {a1 : T_impl_Part} {y : Bool} (h : laws_eqPart a0 a1 = some y) : OK Try.prog 35 [E a0, E a1] (B y) := by
 refine ow Try.func35 fun Γ hX => ?_
 unfold laws_eqPart at h
 refine srve 21 [(2, pf a0 0), (3, pf a1 0)] [] ?_
 refine pwp_seq ?_
 refine srve 21 [(2, pf a0 0), (3, pf a1 0), (9, B (!(a0.fKind == a1.fKind)))] [] ?_
 refine pc h (fun h => ?_) (fun h => ?_)
 refine srve 21 [(4, B false)] [] ?_
 cases h
 exact pwp_ret rz
 refine pwp_skip ?_
 refine pwp_seq ?_
 refine srve 21 [(2, pf a0 0), (3, pf a1 0), (14, B (!(a0.fN == a1.fN)))] [] ?_
 refine pc h (fun h => ?_) (fun h => ?_)
 refine srve 21 [(4, B false)] [] ?_
 cases h
 exact pwp_ret rz
 refine pwp_skip ?_
 refine pwp_seq ?_
 refine srv 4 21 [(16, E a0.fV), (18, E a1.fV)] [] ?_
 obtain ⟨v3, hv4, h⟩ := bindS h
 refine cF 19 (ok_laws_eqValue hv4) ?_
 refine ve 1 21 [(20, B (!v3))] [] ?_
 refine pc h (fun h => ?_) (fun h => ?_)
 refine srve 21 [(4, B false)] [] ?_
 cases h
 exact pwp_ret rz
 refine pwp_skip ?_
 refine srve 21 [(4, B true)] [] ?_
 cases h
 exact pwp_ret rz
def spec_ColumnsOk_l0 (a0 : List T_impl_Column) : Nat → Int → Option Bool
 | 0, _ => none
 | f2 + 1, x1 => bif (decide (x1 < (a0.length : Int))) then (getI a0 x1).bind fun v5 => (spec_l1In v5.fKind 1 3).bind fun v7 => bif (!v7) then some false else (spec_ColumnsOk_l0 a0 f2) (w64 (x1 + 1)) else some (decide ((a0.length : Int) ≤ 4))
def spec_ColumnsOk (a0 : List T_impl_Column) : Option Bool := spec_ColumnsOk_l0 a0 FUEL 0
theorem ok_spec_ColumnsOk {a0 : List T_impl_Column} {y : Bool} (h : spec_ColumnsOk a0 = some y) : OK Try.prog 47 [A a0] (B y) := by
 refine ow Try.func47 fun Γ hX => ?_
 unfold spec_ColumnsOk at h
 refine srve 20 [(0, A a0)] [] ?_
 refine pwp_seq ?_
 refine srve 20 [(0, A a0), (3, I 0)] [] ?_
 refine pwp_block ?_
 refine pwp_loop (ι := Nat × Int) (fun (f2, x1) => (⟨20, [(0, A a0), (3, I x1)], []⟩ : St)) (fun (f2, x1) => spec_ColumnsOk_l0 a0 f2 x1 = some y) Prod.fst (FUEL, 0) h (it [0, 3]) ?_
 rintro ⟨f2, x1⟩ h
 dsimp only at h ⊢
 rcases f2 with _ | f2
 cases h
 rw [spec_ColumnsOk_l0] at h
 refine pwp_seq ?_
 refine srve 20 [(0, A a0), (3, I x1), (7, B (decide (x1 < (a0.length : Int))))] [] ?_
 refine pc h (fun h => ?_) (fun h => ?_)
 refine pwp_skip ?_
 refine pwp_seq ?_
 refine pwp_block ?_
 refine srv 2 20 [(0, A a0), (3, I x1), (10, A a0), (11, I x1)] [] ?_
 obtain ⟨v5, hv6, h⟩ := bindS h
 refine opsP_idx τ_ok 12 hv6 (by kernel_rfl) ?_
 refine v 2 20 [(0, A a0), (3, I x1), (14, I v5.fKind)] [] ?_
 obtain ⟨v7, hv8, h⟩ := bindS h
 refine cF 15 (ok_spec_l1In hv8) ?_
 refine ve 1 20 [(0, A a0), (3, I x1), (16, B (!v7))] [] ?_
 refine pc h (fun h => ?_) (fun h => ?_)
 refine srve 20 [(2, B false)] [] ?_
 cases h
 exact pwp_ret rz
 refine pwp_skip ?_
 refine rve 20 [(0, A a0), (3, I (w64 (x1 + 1)))] [] ?_
 exact ⟨(f2, (w64 (x1 + 1))), h, Nat.lt_succ_self _, it [0, 3]⟩
 refine pwp_exit ?_
 refine srve 20 [(2, B (decide ((a0.length : Int) ≤ 4)))] [] ?_
 cases h
 exact pwp_ret rz
def impl_Value_ok (a0 : T_impl_Value) : Option Bool := bif (a0.fKind == 0) then some (eq_T_impl_Value a0 (T_impl_Value.mk 0 0 (ByteArray.mk #[]))) else bif (a0.fKind == 1) then bif (a0.fS.toList == (ByteArray.mk #[]).toList) then (impl_between a0.fN (-9999) 9999).bind fun v3 => some v3 else some false else bif (a0.fKind == 2) then bif (a0.fN == 0) then bif (decide ((a0.fS.size : Int) ≤ 6)) then (impl_letters a0.fS).bind fun v7 => some v7 else some false else some false else bif (a0.fKind == 3) then bif (a0.fS.toList == (ByteArray.mk #[]).toList) then (impl_between a0.fN 0 1).bind fun v12 => some v12 else some false else some false
theorem ok_impl_Value_ok {a0 : T_impl_Value} {y : Bool} (h : impl_Value_ok a0 = some y) : OK Try.prog 51 [E a0] (B y) := by
 refine ow Try.func51 fun Γ hX => ?_
 unfold impl_Value_ok at h
 refine srve 46 [(1, pf a0 0)] [] ?_
 refine pwp_seq ?_
 refine srve 46 [(1, pf a0 0), (4, I a0.fKind)] [] ?_
 refine pwp_block ?_
 refine srve 46 [(1, pf a0 0), (4, I a0.fKind), (5, B (a0.fKind == 0))] [] ?_
 refine pc h (fun h => ?_) (fun h => ?_)
 refine srve 46 [(2, B (eq_T_impl_Value a0 (T_impl_Value.mk 0 0 (ByteArray.mk #[]))))] [] ?_
 cases h
 exact pwp_ret rz
 refine srve 46 [(1, pf a0 0), (4, I a0.fKind), (10, B (a0.fKind == 1))] [] ?_
 refine pc h (fun h => ?_) (fun h => ?_)
 refine srv 4 46 [(1, pf a0 0), (15, B (a0.fS.toList == (ByteArray.mk #[]).toList))] [] ?_
 rcases fk (a0.fS.toList == (ByteArray.mk #[]).toList) with hc5 | hc5
 replace h := bT hc5 h
 rw [hc5]
 refine v 2 46 [(15, B true), (17, I a0.fN)] [] ?_
 obtain ⟨v3, hv4, h⟩ := bindS h
 refine cF 18 (ok_impl_between hv4) ?_
 refine ve 2 46 [(2, B v3)] [] ?_
 cases h
 exact pwp_ret rz
 replace h := bF hc5 h
 rw [hc5]
 refine ve 5 46 [(2, B false)] [] ?_
 cases h
 exact pwp_ret rz
 refine srve 46 [(1, pf a0 0), (4, I a0.fKind), (20, B (a0.fKind == 2))] [] ?_
 refine pc h (fun h => ?_) (fun h => ?_)
 refine srv 4 46 [(1, pf a0 0), (25, B (a0.fN == 0))] [] ?_
 rcases fk (a0.fN == 0) with hc10 | hc10
 replace h := bT hc10 h
 rw [hc10]
 refine v 6 46 [(1, pf a0 0), (31, B (decide ((a0.fS.size : Int) ≤ 6)))] [] ?_
 rcases fk (decide ((a0.fS.size : Int) ≤ 6)) with hc9 | hc9
 replace h := bT hc9 h
 rw [hc9]
 refine v 2 46 [(31, B true), (33, S a0.fS)] [] ?_
 obtain ⟨v7, hv8, h⟩ := bindS h
 refine cF 34 (ok_impl_letters hv8) ?_
 refine ve 2 46 [(2, B v7)] [] ?_
 cases h
 exact pwp_ret rz
 replace h := bF hc9 h
 rw [hc9]
 refine ve 5 46 [(2, B false)] [] ?_
 cases h
 exact pwp_ret rz
 replace h := bF hc10 h
 rw [hc10]
 refine ve 11 46 [(2, B false)] [] ?_
 cases h
 exact pwp_ret rz
 refine srve 46 [(1, pf a0 0), (36, B (a0.fKind == 3))] [] ?_
 refine pc h (fun h => ?_) (fun h => ?_)
 refine srv 4 46 [(1, pf a0 0), (41, B (a0.fS.toList == (ByteArray.mk #[]).toList))] [] ?_
 rcases fk (a0.fS.toList == (ByteArray.mk #[]).toList) with hc14 | hc14
 replace h := bT hc14 h
 rw [hc14]
 refine v 2 46 [(41, B true), (43, I a0.fN)] [] ?_
 obtain ⟨v12, hv13, h⟩ := bindS h
 refine cF 44 (ok_impl_between hv13) ?_
 refine ve 2 46 [(2, B v12)] [] ?_
 cases h
 exact pwp_ret rz
 replace h := bF hc14 h
 rw [hc14]
 refine ve 5 46 [(2, B false)] [] ?_
 cases h
 exact pwp_ret rz
 refine pwp_skip ?_
 refine srve 46 [(2, B false)] [] ?_
 cases h
 exact pwp_ret rz
def slices_ContainsFunc_impl_Column_impl_Column (a0 : List T_impl_Column) (a1 : T_impl_Column → Option Bool) : Option Bool := (slices_IndexFunc_impl_Column_impl_Column a0 a1).bind fun v1 => some (decide (v1 ≥ 0))
theorem ok_slices_ContainsFunc_impl_Column_impl_Column {a0 : List T_impl_Column} {g1 : FuncId} {c1 : List V} (hz1 : frzL c1 = true) {a1 : T_impl_Column → Option Bool} (hp1 : ∀ x0 y, a1 x0 = some y → OK Try.prog g1 ([E x0] ++ c1) (B y)) {y : Bool} (h : slices_ContainsFunc_impl_Column_impl_Column a0 a1 = some y) : OK Try.prog 60 [A a0, .fn g1 c1] (B y) := by
 refine ow Try.func60 fun Γ hX => ?_
 unfold slices_ContainsFunc_impl_Column_impl_Column at h
 refine srve 9 [(0, A a0), (1, .fn g1 c1)] [] ?_
 refine srv 2 9 [(5, A a0), (6, .fn g1 c1)] [] ?_
 obtain ⟨v1, hv2, h⟩ := bindS h
 refine opsP_callF τ 7 (ok_slices_IndexFunc_impl_Column_impl_Column (hz1) (hp1) hv2) (FzTo.frz rfl) (by simp only [frzL, frz, hz1, Bool.and_true]) (by kernel_rfl) ?_
 refine ve 2 9 [(4, B (decide (v1 ≥ 0)))] [] ?_
 cases h
 exact pwp_ret rz
def impl_ColumnsOk_1 (a0 : T_impl_Column) : Option Bool := (impl_between a0.fKind 1 3).bind fun v1 => some (!v1)
theorem ok_impl_ColumnsOk_1 {a0 : T_impl_Column} {y : Bool} (h : impl_ColumnsOk_1 a0 = some y) : OK Try.prog 61 [E a0] (B y) := by
 refine ow Try.func61 fun Γ hX => ?_
 unfold impl_ColumnsOk_1 at h
 refine srve 7 [(1, pf a0 0)] [] ?_
 refine srv 2 7 [(4, I a0.fKind)] [] ?_
 obtain ⟨v1, hv2, h⟩ := bindS h
 refine cF 5 (ok_impl_between hv2) ?_
 refine ve 2 7 [(2, B (!v1))] [] ?_
 cases h
 exact pwp_ret rz
def slices_ContainsFunc_int_int (a0 : List Int) (a1 : Int → Option Bool) : Option Bool := (slices_IndexFunc_int_int a0 a1).bind fun v1 => some (decide (v1 ≥ 0))
theorem ok_slices_ContainsFunc_int_int {a0 : List Int} {g1 : FuncId} {c1 : List V} (hz1 : frzL c1 = true) {a1 : Int → Option Bool} (hp1 : ∀ x0 y, a1 x0 = some y → OK Try.prog g1 ([I x0] ++ c1) (B y)) {y : Bool} (h : slices_ContainsFunc_int_int a0 a1 = some y) : OK Try.prog 64 [A a0, .fn g1 c1] (B y) := by
 refine ow Try.func64 fun Γ hX => ?_
 unfold slices_ContainsFunc_int_int at h
 refine srve 9 [(0, A a0), (1, .fn g1 c1)] [] ?_
 refine srv 2 9 [(5, A a0), (6, .fn g1 c1)] [] ?_
 obtain ⟨v1, hv2, h⟩ := bindS h
 refine opsP_callF τ 7 (ok_slices_IndexFunc_int_int (hz1) (hp1) hv2) (FzTo.frz rfl) (by simp only [frzL, frz, hz1, Bool.and_true]) (by kernel_rfl) ?_
 refine ve 2 9 [(4, B (decide (v1 ≥ 0)))] [] ?_
 cases h
 exact pwp_ret rz
def spec_ValueOk (a0 : T_impl_Value) : Option Bool := bif (a0.fKind == 0) then bif (a0.fN == 0) then some (a0.fS.toList == (ByteArray.mk #[]).toList) else some false else bif (a0.fKind == 1) then (spec_l1In a0.fN (-9999) 9999).bind fun v4 => bif v4 then some (a0.fS.toList == (ByteArray.mk #[]).toList) else some false else bif (a0.fKind == 2) then bif (a0.fN == 0) then (spec_l1Text a0.fS).bind fun v8 => some v8 else some false else bif (a0.fKind == 3) then (spec_l1In a0.fN 0 1).bind fun v12 => bif v12 then some (a0.fS.toList == (ByteArray.mk #[]).toList) else some false else some false
theorem ok_spec_ValueOk {a0 : T_impl_Value} {y : Bool} (h : spec_ValueOk a0 = some y) : OK Try.prog 70 [E a0] (B y) := by
 refine ow Try.func70 fun Γ hX => ?_
 unfold spec_ValueOk at h
 refine srve 45 [(1, pf a0 0)] [] ?_
 refine pwp_seq ?_
 refine srve 45 [(1, pf a0 0), (4, I a0.fKind)] [] ?_
 refine pwp_block ?_
 refine srve 45 [(1, pf a0 0), (4, I a0.fKind), (5, B (a0.fKind == 0))] [] ?_
 refine pc h (fun h => ?_) (fun h => ?_)
 refine srv 4 45 [(1, pf a0 0), (10, B (a0.fN == 0))] [] ?_
 rcases fk (a0.fN == 0) with hc2 | hc2
 replace h := bT hc2 h
 rw [hc2]
 refine ve 5 45 [(2, B (a0.fS.toList == (ByteArray.mk #[]).toList))] [] ?_
 cases h
 exact pwp_ret rz
 replace h := bF hc2 h
 rw [hc2]
 refine ve 5 45 [(2, B false)] [] ?_
 cases h
 exact pwp_ret rz
 refine srve 45 [(1, pf a0 0), (4, I a0.fKind), (15, B (a0.fKind == 1))] [] ?_
 refine pc h (fun h => ?_) (fun h => ?_)
 refine srv 2 45 [(1, pf a0 0), (18, I a0.fN)] [] ?_
 obtain ⟨v4, hv5, h⟩ := bindS h
 refine cF 19 (ok_spec_l1In hv5) ?_
 refine v 1 45 [(1, pf a0 0), (20, B v4)] [] ?_
 rcases Bool.eq_false_or_eq_true v4 with hc6 | hc6
 replace h := bT hc6 h
 rw [hc6]
 refine ve 5 45 [(2, B (a0.fS.toList == (ByteArray.mk #[]).toList))] [] ?_
 cases h
 exact pwp_ret rz
 replace h := bF hc6 h
 rw [hc6]
 refine ve 5 45 [(2, B false)] [] ?_
 cases h
 exact pwp_ret rz
 refine srve 45 [(1, pf a0 0), (4, I a0.fKind), (25, B (a0.fKind == 2))] [] ?_
 refine pc h (fun h => ?_) (fun h => ?_)
 refine srv 4 45 [(1, pf a0 0), (30, B (a0.fN == 0))] [] ?_
 rcases fk (a0.fN == 0) with hc10 | hc10
 replace h := bT hc10 h
 rw [hc10]
 refine v 2 45 [(30, B true), (32, S a0.fS)] [] ?_
 obtain ⟨v8, hv9, h⟩ := bindS h
 refine cF 33 (ok_spec_l1Text hv9) ?_
 refine ve 2 45 [(2, B v8)] [] ?_
 cases h
 exact pwp_ret rz
 replace h := bF hc10 h
 rw [hc10]
 refine ve 5 45 [(2, B false)] [] ?_
 cases h
 exact pwp_ret rz
 refine srve 45 [(1, pf a0 0), (35, B (a0.fKind == 3))] [] ?_
 refine pc h (fun h => ?_) (fun h => ?_)
 refine srv 2 45 [(1, pf a0 0), (38, I a0.fN)] [] ?_
 obtain ⟨v12, hv13, h⟩ := bindS h
 refine cF 39 (ok_spec_l1In hv13) ?_
 refine v 1 45 [(1, pf a0 0), (40, B v12)] [] ?_
 rcases Bool.eq_false_or_eq_true v12 with hc14 | hc14
 replace h := bT hc14 h
 rw [hc14]
 refine ve 5 45 [(2, B (a0.fS.toList == (ByteArray.mk #[]).toList))] [] ?_
 cases h
 exact pwp_ret rz
 replace h := bF hc14 h
 rw [hc14]
 refine ve 5 45 [(2, B false)] [] ?_
 cases h
 exact pwp_ret rz
 refine pwp_skip ?_
 refine srve 45 [(2, B false)] [] ?_
 cases h
 exact pwp_ret rz
def laws_szPartS_l0 (a0 : List T_laws_Part) : Nat → Int → Int → Option Int
 | 0, _, _ => none
 | f4 + 1, x2, x3 => bif (decide (x3 < (a0.length : Int))) then (getI a0 x3).bind fun v7 => (laws_szPart v7 x2).bind fun v9 => bif (decide (v9 < 0)) then some (-1) else (laws_szPartS_l0 a0 f4) v9 (w64 (x3 + 1)) else some x2
def laws_szPartS (a0 : List T_laws_Part) (a1 : Int) : Option Int := bif (decide ((w64 (a1 - (a0.length : Int))) < 0)) then some (-1) else laws_szPartS_l0 a0 FUEL (w64 (a1 - (a0.length : Int))) 0
theorem ok_laws_szPartS {a0 : List T_laws_Part} {a1 : Int} {y : Int} (h : laws_szPartS a0 a1 = some y) : OK Try.prog 13 [A a0, I a1] (I y) := by
 refine ow Try.func13 fun Γ hX => ?_
 unfold laws_szPartS at h
 refine srve 27 [(0, A a0), (1, I a1)] [] ?_
 refine srve 27 [(0, A a0), (1, I (w64 (a1 - (a0.length : Int))))] [] ?_
 refine pwp_seq ?_
 refine srve 27 [(0, A a0), (1, I (w64 (a1 - (a0.length : Int)))), (11, B (decide ((w64 (a1 - (a0.length : Int))) < 0)))] [] ?_
 refine pc h (fun h => ?_) (fun h => ?_)
 refine srve 27 [(4, I (-1))] [] ?_
 cases h
 exact pwp_ret rz
 refine pwp_skip ?_
 refine pwp_seq ?_
 refine srve 27 [(0, A a0), (1, I (w64 (a1 - (a0.length : Int)))), (5, I 0)] [] ?_
 refine pwp_block ?_
 refine pwp_loop (ι := Nat × Int × Int) (fun (f4, x2, x3) => (⟨27, [(0, A a0), (1, I x2), (5, I x3)], []⟩ : St)) (fun (f4, x2, x3) => laws_szPartS_l0 a0 f4 x2 x3 = some y) Prod.fst (FUEL, (w64 (a1 - (a0.length : Int))), 0) h (it [0, 1, 5]) ?_
 rintro ⟨f4, x2, x3⟩ h
 dsimp only at h ⊢
 rcases f4 with _ | f4
 cases h
 rw [laws_szPartS_l0] at h
 refine pwp_seq ?_
 refine srve 27 [(0, A a0), (1, I x2), (5, I x3), (15, B (decide (x3 < (a0.length : Int))))] [] ?_
 refine pc h (fun h => ?_) (fun h => ?_)
 refine pwp_skip ?_
 refine pwp_seq ?_
 refine pwp_block ?_
 refine srv 2 27 [(0, A a0), (1, I x2), (5, I x3), (18, A a0), (19, I x3)] [] ?_
 obtain ⟨v7, hv8, h⟩ := bindS h
 refine opsP_idx τ_ok 20 hv8 (by kernel_rfl) ?_
 refine v 2 27 [(0, A a0), (5, I x3), (21, E v7), (22, I x2)] [] ?_
 obtain ⟨v9, hv10, h⟩ := bindS h
 refine cF 23 (ok_laws_szPart hv10) ?_
 refine ve 1 27 [(0, A a0), (1, I v9), (5, I x3)] [] ?_
 refine srve 27 [(0, A a0), (1, I v9), (5, I x3), (25, B (decide (v9 < 0)))] [] ?_
 refine pc h (fun h => ?_) (fun h => ?_)
 refine srve 27 [(4, I (-1))] [] ?_
 cases h
 exact pwp_ret rz
 refine pwp_skip ?_
 refine rve 27 [(0, A a0), (1, I v9), (5, I (w64 (x3 + 1)))] [] ?_
 exact ⟨(f4, v9, (w64 (x3 + 1))), h, Nat.lt_succ_self _, it [0, 1, 5]⟩
 refine pwp_exit ?_
 refine srve 27 [(4, I x2)] [] ?_
 cases h
 exact pwp_ret rz
def laws_toPartS_l0 (a0 : List T_laws_Part) : Nat → Int → (List T_impl_Part) → Option (List T_impl_Part)
 | 0, _, _ => none
 | f6 + 1, x4, x5 => bif (decide (x4 < (a0.length : Int))) then (getI a0 x4).bind fun v9 => (laws_toPart v9).bind fun v11 => (getI x5 x4).bind fun v13 => (laws_toPartS_l0 a0 f6) (w64 (x4 + 1)) (x5.set x4.toNat v11) else some x5
def laws_toPartS (a0 : List T_laws_Part) : Option (List T_impl_Part) := (mkI (a0.length : Int) (T_impl_Part.mk 0 0 (T_impl_Value.mk 0 0 (ByteArray.mk #[])))).bind fun v1 => laws_toPartS_l0 a0 FUEL 0 v1
theorem ok_laws_toPartS {a0 : List T_laws_Part} {y : List T_impl_Part} (h : laws_toPartS a0 = some y) : OK Try.prog 15 [A a0] (O y) := by
 refine ow Try.func15 fun Γ hX => ?_
 unfold laws_toPartS at h
 refine srve 23 [(0, A a0)] [] ?_
 refine srv 2 23 [(0, A a0), (6, I (a0.length : Int))] [] ?_
 obtain ⟨v1, hv2, h⟩ := bindS h
 refine opsP_mk τ_ok 7 0 _ hv2 (by kernel_rfl) (by kernel_rfl) ?_
 refine ve 1 23 [(0, A a0), (3, rf 0 0 5 v1)] [sl 0 v1] ?_
 refine pwp_seq ?_
 refine srve 23 [(0, A a0), (3, rf 0 0 5 v1), (4, I 0)] [sl 0 v1] ?_
 refine pwp_block ?_
 refine pwp_loop (ι := Nat × Int × (List T_impl_Part)) (fun (f6, x4, x5) => (⟨23, [(0, A a0), (3, rf 0 0 5 x5), (4, I x4)], [sl 0 x5]⟩ : St)) (fun (f6, x4, x5) => laws_toPartS_l0 a0 f6 x4 x5 = some y) Prod.fst (FUEL, 0, v1) h (it [0, 3, 4]) ?_
 rintro ⟨f6, x4, x5⟩ h
 dsimp only at h ⊢
 rcases f6 with _ | f6
 cases h
 rw [laws_toPartS_l0] at h
 refine pwp_seq ?_
 refine srve 23 [(0, A a0), (3, rf 0 0 5 x5), (4, I x4), (11, B (decide (x4 < (a0.length : Int))))] [sl 0 x5] ?_
 refine pc h (fun h => ?_) (fun h => ?_)
 refine pwp_skip ?_
 refine pwp_seq ?_
 refine pwp_block ?_
 refine rv 4 23 [(0, A a0), (3, rf 0 0 5 x5), (4, I x4), (14, rf 0 0 5 x5), (15, I x4), (16, A a0), (17, I x4)] [sl 0 x5] ?_
 obtain ⟨v9, hv10, h⟩ := bindS h
 refine opsP_idx τ_ok 18 hv10 (by kernel_rfl) ?_
 refine v 1 23 [(0, A a0), (3, rf 0 0 5 x5), (4, I x4), (14, rf 0 0 5 x5), (15, I x4), (19, E v9)] [sl 0 x5] ?_
 obtain ⟨v11, hv12, h⟩ := bindS h
 refine cF 20 (ok_laws_toPart hv12) ?_
 obtain ⟨v13, hv14, h⟩ := bindS h
 refine opsP_idr τ_ok 21 0 0 x5.length hv14 rfl (by kernel_rfl) ?_
 refine v 0 23 [(0, A a0), (3, rf 0 0 5 x5), (4, I x4), (20, E v11), (21, .ptr 0 0 (x4.toNat * 5))] [sl 0 x5] ?_
 refine opsP_ste (vs := [I v11.fKind, I v11.fN, I v11.fV.fKind, I v11.fV.fN, S v11.fV.fS]) τ_ok 58 0 0 0 v11 hv14 (by kernel_rfl) (by kernel_rfl) (by kernel_rfl) (renC trivial (renC (ren_ref (List.length_set ..).symm) (renC trivial (renC trivial (renC trivial renC0))))) ?_
 refine ve 0 23 [(0, A a0), (3, .ref 0 0 0 5 (x5.set x4.toNat v11).length false), (4, I x4)] [some ⟨0, eL (x5.set x4.toNat v11)⟩] ?_
 refine rve 23 [(0, A a0), (3, .ref 0 0 0 5 (x5.set x4.toNat v11).length false), (4, I (w64 (x4 + 1)))] [some ⟨0, eL (x5.set x4.toNat v11)⟩] ?_
 exact ⟨(f6, (w64 (x4 + 1)), (x5.set x4.toNat v11)), h, Nat.lt_succ_self _, it [0, 3, 4]⟩
 refine pwp_exit ?_
 refine srve 23 [(2, rf 0 0 5 x5)] [sl 0 x5] ?_
 have h := si h
 subst h
 exact pwp_ret (rt (rf 0 0 5 x5) (OutP.list (v := 0) (by kernel_rfl)))
def laws_eqPartS_l0 (a0 : List T_impl_Part) (a1 : List T_impl_Part) : Nat → Int → Option Bool
 | 0, _ => none
 | f3 + 1, x2 => bif (decide (x2 < (a0.length : Int))) then (getI a0 x2).bind fun v6 => (getI a1 x2).bind fun v8 => (laws_eqPart v6 v8).bind fun v10 => bif (!v10) then some false else (laws_eqPartS_l0 a0 a1 f3) (w64 (x2 + 1)) else some true
def laws_eqPartS (a0 : List T_impl_Part) (a1 : List T_impl_Part) : Option Bool := bif (!((a0.length : Int) == (a1.length : Int))) then some false else laws_eqPartS_l0 a0 a1 FUEL 0
theorem ok_laws_eqPartS {a0 : List T_impl_Part} {a1 : List T_impl_Part} {y : Bool} (h : laws_eqPartS a0 a1 = some y) : OK Try.prog 18 [A a0, A a1] (B y) := by
 refine ow Try.func18 fun Γ hX => ?_
 unfold laws_eqPartS at h
 refine srve 27 [(0, A a0), (1, A a1)] [] ?_
 refine pwp_seq ?_
 refine srve 27 [(0, A a0), (1, A a1), (10, B (!((a0.length : Int) == (a1.length : Int))))] [] ?_
 refine pc h (fun h => ?_) (fun h => ?_)
 refine srve 27 [(4, B false)] [] ?_
 cases h
 exact pwp_ret rz
 refine pwp_skip ?_
 refine pwp_seq ?_
 refine srve 27 [(0, A a0), (1, A a1), (5, I 0)] [] ?_
 refine pwp_block ?_
 refine pwp_loop (ι := Nat × Int) (fun (f3, x2) => (⟨27, [(0, A a0), (1, A a1), (5, I x2)], []⟩ : St)) (fun (f3, x2) => laws_eqPartS_l0 a0 a1 f3 x2 = some y) Prod.fst (FUEL, 0) h (it [0, 1, 5]) ?_
 rintro ⟨f3, x2⟩ h
 dsimp only at h ⊢
 rcases f3 with _ | f3
 cases h
 rw [laws_eqPartS_l0] at h
 refine pwp_seq ?_
 refine srve 27 [(0, A a0), (1, A a1), (5, I x2), (14, B (decide (x2 < (a0.length : Int))))] [] ?_
 refine pc h (fun h => ?_) (fun h => ?_)
 refine pwp_skip ?_
 refine pwp_seq ?_
 refine pwp_block ?_
 refine pwp_seq ?_
 refine ip 27 [(0, A a0), (1, A a1), (5, I x2)] [] ?_
 refine pN 10 ?_
 refine qv [] trivial 2 27 [(18, I x2), (17, A a0), (0, A a0), (1, A a1), (5, I x2)] [] ?_
 obtain ⟨v6, hv7, h⟩ := bindS h
 refine qX (some 19) (pf v6 0) 27 [(19, pf v6 0), (0, A a0), (1, A a1), (5, I x2)] [] (fun Γ' hΓ => CoreE.of_y (idxV_sound τ_ok (by kernel_rfl) hv7)) trivial ?_
 refine qv [] trivial 3 27 [(22, I x2), (21, A a1), (20, E v6), (0, A a0), (1, A a1), (5, I x2)] [] ?_
 obtain ⟨v8, hv9, h⟩ := bindS h
 refine qX (some 23) (pf v8 0) 27 [(23, pf v8 0), (20, E v6), (0, A a0), (1, A a1), (5, I x2)] [] (fun Γ' hΓ => CoreE.of_y (idxV_sound τ_ok (by kernel_rfl) hv9)) trivial ?_
 refine qv [] trivial 1 27 [(24, E v8), (20, E v6), (0, A a0), (1, A a1), (5, I x2)] [] ?_
 obtain ⟨v10, hv11, h⟩ := bindS h
 refine qX (some 25) (B v10) 27 [(25, B v10), (0, A a0), (1, A a1), (5, I x2)] [] (fun Γ' hΓ => CoreE.of_g (callV_sound (τ := τ) (by kernel_rfl) rfl (ok_laws_eqPart hv11) (FzTo.frz rfl))) trivial ?_
 refine qvn [] trivial 1 27 [(0, A a0), (1, A a1), (5, I x2), (26, B (!v10))] [] ?_
 refine pc h (fun h => ?_) (fun h => ?_)
 refine srve 27 [(4, B false)] [] ?_
 cases h
 exact pwp_ret rz
 refine pwp_skip ?_
 refine rve 27 [(0, A a0), (1, A a1), (5, I (w64 (x2 + 1)))] [] ?_
 exact ⟨(f3, (w64 (x2 + 1))), h, Nat.lt_succ_self _, it [0, 1, 5]⟩
 refine pwp_exit ?_
 refine srve 27 [(4, B true)] [] ?_
 cases h
 exact pwp_ret rz
def impl_ColumnsOk (a0 : List T_impl_Column) : Option Bool := bif (decide ((a0.length : Int) ≤ 4)) then (slices_ContainsFunc_impl_Column_impl_Column a0 impl_ColumnsOk_1).bind fun v1 => some (!v1) else some false
theorem ok_impl_ColumnsOk {a0 : List T_impl_Column} {y : Bool} (h : impl_ColumnsOk a0 = some y) : OK Try.prog 40 [A a0] (B y) := by
 refine ow Try.func40 fun Γ hX => ?_
 unfold impl_ColumnsOk at h
 refine srve 11 [(0, A a0)] [] ?_
 refine srv 4 11 [(0, A a0), (6, B (decide ((a0.length : Int) ≤ 4)))] [] ?_
 rcases fk (decide ((a0.length : Int) ≤ 4)) with hc3 | hc3
 replace h := bT hc3 h
 rw [hc3]
 refine v 1 11 [(6, B true), (7, A a0)] [] ?_
 obtain ⟨v1, hv2, h⟩ := bindS h
 refine cF 8 (ok_slices_ContainsFunc_impl_Column_impl_Column (rfl) (fun _ w hw => ok_impl_ColumnsOk_1 hw) hv2) ?_
 refine ve 3 11 [(2, B (!v1))] [] ?_
 cases h
 exact pwp_ret rz
 replace h := bF hc3 h
 rw [hc3]
 refine ve 5 11 [(2, B false)] [] ?_
 cases h
 exact pwp_ret rz
def impl_Part_tells_j0 (a0 : T_impl_Part) (x14 : Bool) : Option Bool := bif x14 then bif (a0.fN == 0) then some (eq_T_impl_Value a0.fV (T_impl_Value.mk 0 0 (ByteArray.mk #[]))) else some false else some false
def impl_Part_tells (a0 : T_impl_Part) (a1 : List T_impl_Column) : Option Bool := bif (a0.fKind == 1) then bif (a0.fN == 0) then (impl_Value_ok a0.fV).bind fun v2 => bif v2 then some (!(a0.fV.fKind == 0)) else some false else some false else bif (a0.fKind == 2) then (impl_between a0.fN 0 (w64 ((a1.length : Int) - 1))).bind fun v7 => bif v7 then some (eq_T_impl_Value a0.fV (T_impl_Value.mk 0 0 (ByteArray.mk #[]))) else some false else bif (a0.fKind == 4) then (impl_between a0.fN 1 4).bind fun v11 => bif v11 then some (eq_T_impl_Value a0.fV (T_impl_Value.mk 0 0 (ByteArray.mk #[]))) else some false else bif (a0.fKind == 3) then impl_Part_tells_j0 a0 (a0.fKind == 3) else bif (a0.fKind == 5) then impl_Part_tells_j0 a0 (a0.fKind == 5) else bif (a0.fKind == 6) then impl_Part_tells_j0 a0 (a0.fKind == 6) else bif (a0.fKind == 7) then impl_Part_tells_j0 a0 (a0.fKind == 7) else impl_Part_tells_j0 a0 (a0.fKind == 8)
theorem ok_impl_Part_tells {a0 : T_impl_Part} {a1 : List T_impl_Column} {y : Bool} (h : impl_Part_tells a0 a1 = some y) : OK Try.prog 42 [E a0, A a1] (B y) := by
 refine ow Try.func42 fun Γ hX => ?_
 unfold impl_Part_tells at h
 refine srve 63 [(1, A a1), (2, pf a0 0)] [] ?_
 refine pwp_seq ?_
 refine srve 63 [(1, A a1), (2, pf a0 0), (6, I a0.fKind)] [] ?_
 refine pwp_block ?_
 refine srve 63 [(1, A a1), (2, pf a0 0), (6, I a0.fKind), (7, B (a0.fKind == 1))] [] ?_
 refine pc h (fun h => ?_) (fun h => ?_)
 refine srv 4 63 [(2, pf a0 0), (12, B (a0.fN == 0))] [] ?_
 rcases fk (a0.fN == 0) with hc5 | hc5
 replace h := bT hc5 h
 rw [hc5]
 refine v 2 63 [(2, pf a0 0), (12, B true), (14, E a0.fV)] [] ?_
 obtain ⟨v2, hv3, h⟩ := bindS h
 refine cF 15 (ok_impl_Value_ok hv3) ?_
 refine v 2 63 [(2, pf a0 0), (17, B v2)] [] ?_
 rcases Bool.eq_false_or_eq_true v2 with hc4 | hc4
 replace h := bT hc4 h
 rw [hc4]
 refine ve 6 63 [(4, B (!(a0.fV.fKind == 0)))] [] ?_
 cases h
 exact pwp_ret rz
 replace h := bF hc4 h
 rw [hc4]
 refine ve 6 63 [(4, B false)] [] ?_
 cases h
 exact pwp_ret rz
 replace h := bF hc5 h
 rw [hc5]
 refine ve 11 63 [(4, B false)] [] ?_
 cases h
 exact pwp_ret rz
 refine srve 63 [(1, A a1), (2, pf a0 0), (6, I a0.fKind), (23, B (a0.fKind == 2))] [] ?_
 refine pc h (fun h => ?_) (fun h => ?_)
 refine srv 5 63 [(2, pf a0 0), (26, I a0.fN), (29, I (w64 ((a1.length : Int) - 1)))] [] ?_
 obtain ⟨v7, hv8, h⟩ := bindS h
 refine cF 30 (ok_impl_between hv8) ?_
 refine v 1 63 [(2, pf a0 0), (31, B v7)] [] ?_
 rcases Bool.eq_false_or_eq_true v7 with hc9 | hc9
 replace h := bT hc9 h
 rw [hc9]
 refine ve 6 63 [(4, B (eq_T_impl_Value a0.fV (T_impl_Value.mk 0 0 (ByteArray.mk #[]))))] [] ?_
 cases h
 exact pwp_ret rz
 replace h := bF hc9 h
 rw [hc9]
 refine ve 6 63 [(4, B false)] [] ?_
 cases h
 exact pwp_ret rz
 refine srve 63 [(2, pf a0 0), (6, I a0.fKind), (37, B (a0.fKind == 4))] [] ?_
 refine pc h (fun h => ?_) (fun h => ?_)
 refine srv 2 63 [(2, pf a0 0), (40, I a0.fN)] [] ?_
 obtain ⟨v11, hv12, h⟩ := bindS h
 refine cF 41 (ok_impl_between hv12) ?_
 refine v 1 63 [(2, pf a0 0), (42, B v11)] [] ?_
 rcases Bool.eq_false_or_eq_true v11 with hc13 | hc13
 replace h := bT hc13 h
 rw [hc13]
 refine ve 6 63 [(4, B (eq_T_impl_Value a0.fV (T_impl_Value.mk 0 0 (ByteArray.mk #[]))))] [] ?_
 cases h
 exact pwp_ret rz
 replace h := bF hc13 h
 rw [hc13]
 refine ve 6 63 [(4, B false)] [] ?_
 cases h
 exact pwp_ret rz
 refine pwp_seq ?_
 refine pwp_join (σ := Bool) (fun x14 => (⟨63, [(2, pf a0 0), (48, B x14)], []⟩ : St)) (fun x14 => impl_Part_tells_j0 a0 x14 = some y) ?_ ?_
 refine srve 63 [(2, pf a0 0), (6, I a0.fKind), (48, B (a0.fKind == 3))] [] ?_
 refine pc h (fun h => ?_) (fun h => ?_)
 refine pwp_skip ?_
 exact ⟨(a0.fKind == 3), h, it [2, 48]⟩
 refine srve 63 [(2, pf a0 0), (6, I a0.fKind), (48, B (a0.fKind == 5))] [] ?_
 refine pc h (fun h => ?_) (fun h => ?_)
 refine pwp_skip ?_
 exact ⟨(a0.fKind == 5), h, it [2, 48]⟩
 refine srve 63 [(2, pf a0 0), (6, I a0.fKind), (48, B (a0.fKind == 6))] [] ?_
 refine pc h (fun h => ?_) (fun h => ?_)
 refine pwp_skip ?_
 exact ⟨(a0.fKind == 6), h, it [2, 48]⟩
 refine srve 63 [(2, pf a0 0), (6, I a0.fKind), (48, B (a0.fKind == 7))] [] ?_
 refine pc h (fun h => ?_) (fun h => ?_)
 refine pwp_skip ?_
 exact ⟨(a0.fKind == 7), h, it [2, 48]⟩
 refine rve 63 [(2, pf a0 0), (48, B (a0.fKind == 8))] [] ?_
 exact ⟨(a0.fKind == 8), h, it [2, 48]⟩
 rintro x14 h
 unfold impl_Part_tells_j0 at h
 refine pc h (fun h => ?_) (fun h => ?_)
 refine srv 4 63 [(2, pf a0 0), (57, B (a0.fN == 0))] [] ?_
 rcases fk (a0.fN == 0) with hc16 | hc16
 replace h := bT hc16 h
 rw [hc16]
 refine ve 6 63 [(4, B (eq_T_impl_Value a0.fV (T_impl_Value.mk 0 0 (ByteArray.mk #[]))))] [] ?_
 cases h
 exact pwp_ret rz
 replace h := bF hc16 h
 rw [hc16]
 refine ve 6 63 [(4, B false)] [] ?_
 cases h
 exact pwp_ret rz
 refine pwp_skip ?_
 refine srve 63 [(4, B false)] [] ?_
 cases h
 exact pwp_ret rz
def spec_l4Step_j1 (a1 : List Int) (a2 : T_impl_Part) (x4 : Bool) : Option ((List Int) × Bool) := bif x4 then some (a1, false) else (app a1 ([a2.fV.fKind] : List Int)).bind fun v6 => some (v6, true)
def spec_l4Step_j2 (a1 : List Int) (x20 : Bool) : Option ((List Int) × Bool) := (slI a1 none (some (maxL (w64 ((a1.length : Int) - 2)) [0])) none).bind fun v21 => (appT a1 ([1] : List Int) v21.length).bind fun v23 => some (v23, x20)
def spec_l4Step_j3 (a1 : List Int) (x32 : Bool) : Option ((List Int) × Bool) := (slI a1 none (some (maxL (w64 ((a1.length : Int) - 2)) [0])) none).bind fun v33 => (appT a1 ([3] : List Int) v33.length).bind fun v35 => some (v35, x32)
def spec_l4Step_j5 (a1 : List Int) (x47 : Bool) : Option ((List Int) × Bool) := (slI a1 none (some (maxL (w64 ((a1.length : Int) - 2)) [0])) none).bind fun v48 => (appT a1 ([3] : List Int) v48.length).bind fun v50 => some (v50, x47)
def spec_l4Step_j4 (a1 : List Int) (a2 : T_impl_Part) (x45 : Bool) : Option ((List Int) × Bool) := bif x45 then bif (decide ((a1.length : Int) > 1)) then (getI a1 (w64 ((a1.length : Int) - 1))).bind fun v52 => bif (v52 == 3) then (getI a1 (w64 ((a1.length : Int) - 2))).bind fun v54 => spec_l4Step_j5 a1 (v54 == 3) else spec_l4Step_j5 a1 false else spec_l4Step_j5 a1 false else bif (a2.fKind == 7) then bif (decide ((a1.length : Int) > 0)) then (getI a1 (w64 ((a1.length : Int) - 1))).bind fun v59 => some (a1, (v59 == 3)) else some (a1, false) else bif (a2.fKind == 8) then (slI a1 none (some (maxL (w64 ((a1.length : Int) - 1)) [0])) none).bind fun v63 => (appT a1 ([3] : List Int) v63.length).bind fun v65 => some (v65, (decide ((a1.length : Int) > 0))) else some (a1, false)
def spec_l4Step_j0 (a0 : List T_impl_Column) (a1 : List Int) (a2 : T_impl_Part) (x1 : Bool) : Option ((List Int) × Bool) := bif x1 then some (a1, false) else bif (a2.fKind == 1) then (spec_ValueOk a2.fV).bind fun v8 => bif (!v8) then spec_l4Step_j1 a1 a2 true else spec_l4Step_j1 a1 a2 (a2.fV.fKind == 0) else bif (a2.fKind == 2) then (spec_l1In a2.fN 0 (w64 ((a0.length : Int) - 1))).bind fun v12 => bif (!v12) then some (a1, false) else (getI a0 a2.fN).bind fun v15 => (app a1 ([v15.fKind] : List Int)).bind fun v17 => some (v17, true) else bif (a2.fKind == 3) then bif (decide ((a1.length : Int) > 1)) then (getI a1 (w64 ((a1.length : Int) - 1))).bind fun v25 => bif (v25 == 1) then (getI a1 (w64 ((a1.length : Int) - 2))).bind fun v27 => spec_l4Step_j2 a1 (v27 == 1) else spec_l4Step_j2 a1 false else spec_l4Step_j2 a1 false else bif (a2.fKind == 4) then bif (decide ((a1.length : Int) > 1)) then (getI a1 (w64 ((a1.length : Int) - 1))).bind fun v37 => (getI a1 (w64 ((a1.length : Int) - 2))).bind fun v39 => bif (v37 == v39) then (spec_l1In a2.fN 1 4).bind fun v41 => spec_l4Step_j3 a1 v41 else spec_l4Step_j3 a1 false else spec_l4Step_j3 a1 false else bif (a2.fKind == 5) then spec_l4Step_j4 a1 a2 (a2.fKind == 5) else spec_l4Step_j4 a1 a2 (a2.fKind == 6)
def spec_l4Step (a0 : List T_impl_Column) (a1 : List Int) (a2 : T_impl_Part) : Option ((List Int) × Bool) := bif (!(a2.fKind == 1)) then bif (!(eq_T_impl_Value a2.fV (T_impl_Value.mk 0 0 (ByteArray.mk #[])))) then spec_l4Step_j0 a0 a1 a2 true else bif (!(a2.fKind == 2)) then bif (!(a2.fKind == 4)) then spec_l4Step_j0 a0 a1 a2 (!(a2.fN == 0)) else spec_l4Step_j0 a0 a1 a2 false else spec_l4Step_j0 a0 a1 a2 false else bif (!(a2.fKind == 2)) then bif (!(a2.fKind == 4)) then spec_l4Step_j0 a0 a1 a2 (!(a2.fN == 0)) else spec_l4Step_j0 a0 a1 a2 false else spec_l4Step_j0 a0 a1 a2 false
theorem ok_spec_l4Step {a0 : List T_impl_Column} {a1 : List Int} {a2 : T_impl_Part} {y : (List Int) × Bool} (h : spec_l4Step a0 a1 a2 = some y) : OKm Try.prog 48 [A a0, O a1, E a2] (.tup [O y.1, B y.2]) := by
 refine OKm_of_pwp (sl := [A a0, rf 0 0 1 a1, E a2]) (bs := [⟨0, eL a1⟩]) τ_ok Try.func48 rfl (by kernel_rfl) rfl (by kernel_rfl) fun Γ hX => ?_
 refine pwp_imp (Imp.to (st' := ⟨191, [(0, A a0), (1, rf 0 0 1 a1), (2, E a2)], [sl 0 a1]⟩) [0, 1, 2] (by kernel_rfl)) ?_
 unfold spec_l4Step at h
 refine srve 191 [(0, A a0), (1, rf 0 0 1 a1), (5, pf a2 0)] [sl 0 a1] ?_
 refine srve 191 [(0, A a0), (1, rf 0 0 1 a1), (5, pf a2 0), (8, I (a1.length : Int))] [sl 0 a1] ?_
 refine pwp_seq ?_
 refine pwp_seq ?_
 refine pwp_join (σ := Bool) (fun x1 => (⟨191, [(0, A a0), (1, rf 0 0 1 a1), (5, pf a2 0), (8, I (a1.length : Int)), (37, B x1)], [sl 0 a1]⟩ : St)) (fun x1 => spec_l4Step_j0 a0 a1 a2 x1 = some y) ?_ ?_
 refine rv 4 191 [(0, A a0), (1, rf 0 0 1 a1), (5, pf a2 0), (8, I (a1.length : Int)), (17, B (!(a2.fKind == 1)))] [sl 0 a1] ?_
 rcases fk (!(a2.fKind == 1)) with hc73 | hc73
 replace h := bT hc73 h
 rw [hc73]
 refine v 6 191 [(0, A a0), (1, rf 0 0 1 a1), (5, pf a2 0), (8, I (a1.length : Int)), (23, B (!(eq_T_impl_Value a2.fV (T_impl_Value.mk 0 0 (ByteArray.mk #[])))))] [sl 0 a1] ?_
 rcases fk (!(eq_T_impl_Value a2.fV (T_impl_Value.mk 0 0 (ByteArray.mk #[])))) with hc70 | hc70
 replace h := bT hc70 h
 rw [hc70]
 refine ve 14 191 [(0, A a0), (1, rf 0 0 1 a1), (5, pf a2 0), (8, I (a1.length : Int)), (37, B true)] [sl 0 a1] ?_
 exact ⟨true, h, it [0, 1, 5, 8, 37]⟩
 replace h := bF hc70 h
 rw [hc70]
 refine v 4 191 [(0, A a0), (1, rf 0 0 1 a1), (5, pf a2 0), (8, I (a1.length : Int)), (23, B false), (27, B (!(a2.fKind == 2)))] [sl 0 a1] ?_
 rcases fk (!(a2.fKind == 2)) with hc69 | hc69
 replace h := bT hc69 h
 rw [hc69]
 refine v 5 191 [(0, A a0), (1, rf 0 0 1 a1), (5, pf a2 0), (8, I (a1.length : Int)), (23, B false), (32, B (!(a2.fKind == 4)))] [sl 0 a1] ?_
 rcases fk (!(a2.fKind == 4)) with hc68 | hc68
 replace h := bT hc68 h
 rw [hc68]
 refine ve 5 191 [(0, A a0), (1, rf 0 0 1 a1), (5, pf a2 0), (8, I (a1.length : Int)), (37, B (!(a2.fN == 0)))] [sl 0 a1] ?_
 exact ⟨(!(a2.fN == 0)), h, it [0, 1, 5, 8, 37]⟩
 replace h := bF hc68 h
 rw [hc68]
 refine ve 5 191 [(0, A a0), (1, rf 0 0 1 a1), (5, pf a2 0), (8, I (a1.length : Int)), (37, B false)] [sl 0 a1] ?_
 exact ⟨false, h, it [0, 1, 5, 8, 37]⟩
 replace h := bF hc69 h
 rw [hc69]
 refine ve 10 191 [(0, A a0), (1, rf 0 0 1 a1), (5, pf a2 0), (8, I (a1.length : Int)), (37, B false)] [sl 0 a1] ?_
 exact ⟨false, h, it [0, 1, 5, 8, 37]⟩
 replace h := bF hc73 h
 rw [hc73]
 refine v 10 191 [(0, A a0), (1, rf 0 0 1 a1), (5, pf a2 0), (8, I (a1.length : Int)), (23, B false), (27, B (!(a2.fKind == 2)))] [sl 0 a1] ?_
 rcases fk (!(a2.fKind == 2)) with hc72 | hc72
 replace h := bT hc72 h
 rw [hc72]
 refine v 5 191 [(0, A a0), (1, rf 0 0 1 a1), (5, pf a2 0), (8, I (a1.length : Int)), (23, B false), (32, B (!(a2.fKind == 4)))] [sl 0 a1] ?_
 rcases fk (!(a2.fKind == 4)) with hc71 | hc71
 replace h := bT hc71 h
 rw [hc71]
 refine ve 5 191 [(0, A a0), (1, rf 0 0 1 a1), (5, pf a2 0), (8, I (a1.length : Int)), (37, B (!(a2.fN == 0)))] [sl 0 a1] ?_
 exact ⟨(!(a2.fN == 0)), h, it [0, 1, 5, 8, 37]⟩
 replace h := bF hc71 h
 rw [hc71]
 refine ve 5 191 [(0, A a0), (1, rf 0 0 1 a1), (5, pf a2 0), (8, I (a1.length : Int)), (37, B false)] [sl 0 a1] ?_
 exact ⟨false, h, it [0, 1, 5, 8, 37]⟩
 replace h := bF hc72 h
 rw [hc72]
 refine ve 10 191 [(0, A a0), (1, rf 0 0 1 a1), (5, pf a2 0), (8, I (a1.length : Int)), (37, B false)] [sl 0 a1] ?_
 exact ⟨false, h, it [0, 1, 5, 8, 37]⟩
 rintro x1 h
 unfold spec_l4Step_j0 at h
 refine pc h (fun h => ?_) (fun h => ?_)
 refine srve 191 [(6, rf 0 0 1 a1), (7, B false)] [sl 0 a1] ?_
 have h := si h
 subst h
 exact pwp_ret (rt (.tup [rf 0 0 1 a1, B false]) (OutP.tup (OutL.cons (OutP.list (v := 0) (by kernel_rfl)) (OutL.cons (OutP.frz (by kernel_rfl)) (OutL.nil _)))))
 refine pwp_skip ?_
 refine pwp_seq ?_
 refine srve 191 [(0, A a0), (1, rf 0 0 1 a1), (5, pf a2 0), (8, I (a1.length : Int)), (40, I a2.fKind)] [sl 0 a1] ?_
 refine pwp_block ?_
 refine srve 191 [(0, A a0), (1, rf 0 0 1 a1), (5, pf a2 0), (8, I (a1.length : Int)), (40, I a2.fKind), (41, B (a2.fKind == 1))] [sl 0 a1] ?_
 refine pc h (fun h => ?_) (fun h => ?_)
 refine pwp_seq ?_
 refine pwp_seq ?_
 refine pwp_join (σ := Bool) (fun x4 => (⟨191, [(1, rf 0 0 1 a1), (5, pf a2 0), (52, B x4)], [sl 0 a1]⟩ : St)) (fun x4 => spec_l4Step_j1 a1 a2 x4 = some y) ?_ ?_
 refine rv 2 191 [(1, rf 0 0 1 a1), (5, pf a2 0), (44, E a2.fV)] [sl 0 a1] ?_
 obtain ⟨v8, hv9, h⟩ := bindS h
 refine cF 45 (ok_spec_ValueOk hv9) ?_
 refine v 2 191 [(1, rf 0 0 1 a1), (5, pf a2 0), (47, B (!v8))] [sl 0 a1] ?_
 rcases fk (!v8) with hc10 | hc10
 replace h := bT hc10 h
 rw [hc10]
 refine ve 5 191 [(1, rf 0 0 1 a1), (5, pf a2 0), (52, B true)] [sl 0 a1] ?_
 exact ⟨true, h, it [1, 5, 52]⟩
 replace h := bF hc10 h
 rw [hc10]
 refine ve 5 191 [(1, rf 0 0 1 a1), (5, pf a2 0), (52, B (a2.fV.fKind == 0))] [sl 0 a1] ?_
 exact ⟨(a2.fV.fKind == 0), h, it [1, 5, 52]⟩
 rintro x4 h
 unfold spec_l4Step_j1 at h
 refine pc h (fun h => ?_) (fun h => ?_)
 refine srve 191 [(6, rf 0 0 1 a1), (7, B false)] [sl 0 a1] ?_
 have h := si h
 subst h
 exact pwp_ret (rt (.tup [rf 0 0 1 a1, B false]) (OutP.tup (OutL.cons (OutP.list (v := 0) (by kernel_rfl)) (OutL.cons (OutP.frz (by kernel_rfl)) (OutL.nil _)))))
 refine pwp_skip ?_
 refine srv 5 191 [(54, rf 0 0 1 a1), (58, .arr 1 ([a2.fV.fKind] : List Int).length (eL ([a2.fV.fKind] : List Int)) true)] [sl 0 a1] ?_
 obtain ⟨v6, hv7, h⟩ := bindS h
 refine opsP_app τ_ok 59 0 0 (nx hX) hv7 (by kernel_rfl) ?_
 refine ve 2 191 [(6, rf 0 1 1 v6), (7, B true)] [sl 1 v6] ?_
 have h := si h
 subst h
 exact pwp_ret (rt (.tup [rf 0 1 1 v6, B true]) (OutP.tup (OutL.cons (OutP.list (v := 1) (by kernel_rfl)) (OutL.cons (OutP.frz (by kernel_rfl)) (OutL.nil _)))))
 refine srve 191 [(0, A a0), (1, rf 0 0 1 a1), (5, pf a2 0), (8, I (a1.length : Int)), (40, I a2.fKind), (60, B (a2.fKind == 2))] [sl 0 a1] ?_
 refine pc h (fun h => ?_) (fun h => ?_)
 refine pwp_seq ?_
 refine srv 5 191 [(0, A a0), (1, rf 0 0 1 a1), (5, pf a2 0), (63, I a2.fN), (66, I (w64 ((a0.length : Int) - 1)))] [sl 0 a1] ?_
 obtain ⟨v12, hv13, h⟩ := bindS h
 refine cF 67 (ok_spec_l1In hv13) ?_
 refine ve 1 191 [(0, A a0), (1, rf 0 0 1 a1), (5, pf a2 0), (68, B (!v12))] [sl 0 a1] ?_
 refine pc h (fun h => ?_) (fun h => ?_)
 refine srve 191 [(6, rf 0 0 1 a1), (7, B false)] [sl 0 a1] ?_
 have h := si h
 subst h
 exact pwp_ret (rt (.tup [rf 0 0 1 a1, B false]) (OutP.tup (OutL.cons (OutP.list (v := 0) (by kernel_rfl)) (OutL.cons (OutP.frz (by kernel_rfl)) (OutL.nil _)))))
 refine pwp_skip ?_
 refine srv 4 191 [(70, rf 0 0 1 a1), (71, A a0), (73, I a2.fN)] [sl 0 a1] ?_
 obtain ⟨v15, hv16, h⟩ := bindS h
 refine opsP_idx τ_ok 74 hv16 (by kernel_rfl) ?_
 refine v 3 191 [(70, rf 0 0 1 a1), (77, .arr 1 ([v15.fKind] : List Int).length (eL ([v15.fKind] : List Int)) true)] [sl 0 a1] ?_
 obtain ⟨v17, hv18, h⟩ := bindS h
 refine opsP_app τ_ok 78 0 0 (nx hX) hv18 (by kernel_rfl) ?_
 refine ve 2 191 [(6, rf 0 1 1 v17), (7, B true)] [sl 1 v17] ?_
 have h := si h
 subst h
 exact pwp_ret (rt (.tup [rf 0 1 1 v17, B true]) (OutP.tup (OutL.cons (OutP.list (v := 1) (by kernel_rfl)) (OutL.cons (OutP.frz (by kernel_rfl)) (OutL.nil _)))))
 refine srve 191 [(1, rf 0 0 1 a1), (5, pf a2 0), (8, I (a1.length : Int)), (40, I a2.fKind), (79, B (a2.fKind == 3))] [sl 0 a1] ?_
 refine pc h (fun h => ?_) (fun h => ?_)
 refine pwp_seq ?_
 refine pwp_join (σ := Bool) (fun x20 => (⟨191, [(1, rf 0 0 1 a1), (8, I (a1.length : Int)), (9, B x20)], [sl 0 a1]⟩ : St)) (fun x20 => spec_l4Step_j2 a1 x20 = some y) ?_ ?_
 refine rv 3 191 [(1, rf 0 0 1 a1), (8, I (a1.length : Int)), (83, B (decide ((a1.length : Int) > 1)))] [sl 0 a1] ?_
 rcases fk (decide ((a1.length : Int) > 1)) with hc30 | hc30
 replace h := bT hc30 h
 rw [hc30]
 refine v 3 191 [(1, rf 0 0 1 a1), (8, I (a1.length : Int)), (83, B true), (84, rf 0 0 1 a1), (86, I (w64 ((a1.length : Int) - 1)))] [sl 0 a1] ?_
 obtain ⟨v25, hv26, h⟩ := bindS h
 refine opsP_idr τ_ok 87 0 0 a1.length hv26 rfl (by kernel_rfl) ?_
 refine opsP_lde (r := I v25) τ_ok 88 3 0 hv26 (by kernel_rfl) (by kernel_rfl) ?_
 refine v 3 191 [(1, rf 0 0 1 a1), (8, I (a1.length : Int)), (91, B (v25 == 1))] [sl 0 a1] ?_
 rcases fk (v25 == 1) with hc29 | hc29
 replace h := bT hc29 h
 rw [hc29]
 refine v 3 191 [(1, rf 0 0 1 a1), (8, I (a1.length : Int)), (91, B true), (92, rf 0 0 1 a1), (94, I (w64 ((a1.length : Int) - 2)))] [sl 0 a1] ?_
 obtain ⟨v27, hv28, h⟩ := bindS h
 refine opsP_idr τ_ok 95 0 0 a1.length hv28 rfl (by kernel_rfl) ?_
 refine opsP_lde (r := I v27) τ_ok 96 3 0 hv28 (by kernel_rfl) (by kernel_rfl) ?_
 refine ve 3 191 [(1, rf 0 0 1 a1), (8, I (a1.length : Int)), (9, B (v27 == 1))] [sl 0 a1] ?_
 exact ⟨(v27 == 1), h, it [1, 8, 9]⟩
 replace h := bF hc29 h
 rw [hc29]
 refine ve 8 191 [(1, rf 0 0 1 a1), (8, I (a1.length : Int)), (9, B false)] [sl 0 a1] ?_
 exact ⟨false, h, it [1, 8, 9]⟩
 replace h := bF hc30 h
 rw [hc30]
 refine ve 16 191 [(1, rf 0 0 1 a1), (8, I (a1.length : Int)), (9, B false)] [sl 0 a1] ?_
 exact ⟨false, h, it [1, 8, 9]⟩
 rintro x20 h
 unfold spec_l4Step_j2 at h
 refine srv 3 191 [(9, B x20), (99, rf 0 0 1 a1), (101, I (w64 ((a1.length : Int) - 2)))] [sl 0 a1] ?_
 refine opsP_E (dd := some 102) (x := I (maxL (w64 ((a1.length : Int) - 2)) [0])) (CoreE.of_y (mxmV_sound (τ := τ) (m := true) (a := (w64 ((a1.length : Int) - 2))) (l := [0]) (by kernel_rfl))) ?_
 obtain ⟨v21, hv22, h⟩ := bindS h
 refine opsP_slr τ_ok 103 0 0 a1.length hv22 rfl (by kernel_rfl) ?_
 refine v 1 191 [(9, B x20), (103, rf 0 0 1 v21), (104, .arr 1 ([1] : List Int).length (eL ([1] : List Int)) true)] [sl 0 a1] ?_
 obtain ⟨v23, hv24, h⟩ := bindS h
 refine opsP_apt τ_ok 105 0 0 v21.length (nx hX) hv24 (slI_le hv22) (by kernel_rfl) ?_
 refine ve 3 191 [(6, rf 0 1 1 v23), (7, B x20)] [sl 1 v23] ?_
 have h := si h
 subst h
 exact pwp_ret (rt (.tup [rf 0 1 1 v23, B x20]) (OutP.tup (OutL.cons (OutP.list (v := 1) (by kernel_rfl)) (OutL.cons (OutP.frz (by kernel_rfl)) (OutL.nil _)))))
 refine srve 191 [(1, rf 0 0 1 a1), (5, pf a2 0), (8, I (a1.length : Int)), (40, I a2.fKind), (107, B (a2.fKind == 4))] [sl 0 a1] ?_
 refine pc h (fun h => ?_) (fun h => ?_)
 refine pwp_seq ?_
 refine pwp_join (σ := Bool) (fun x32 => (⟨191, [(1, rf 0 0 1 a1), (8, I (a1.length : Int)), (10, B x32)], [sl 0 a1]⟩ : St)) (fun x32 => spec_l4Step_j3 a1 x32 = some y) ?_ ?_
 refine ip 191 [(1, rf 0 0 1 a1), (5, pf a2 0), (8, I (a1.length : Int))] [sl 0 a1] ?_
 refine pwp_any ([[], [], [], [0], [], [], [0], [0], [0], [], [], [0], [0], [], [], [], [], [], [], [], []]) ([[], [], [], [], [], [], [], [], [], [], [], [], [], [], [], [], [], [], [], [], []]) rfl (by kernel_rfl) ?_
 refine qv [] trivial 3 191 [(111, B (decide ((a1.length : Int) > 1))), (1, rf 0 0 1 a1), (5, pf a2 0), (8, I (a1.length : Int))] [sl 0 a1] ?_
 rcases fk (decide ((a1.length : Int) > 1)) with hc44 | hc44
 replace h := bT hc44 h
 rw [hc44]
 refine qv [0] (hL trivial) 1 191 [(112, rf 0 0 1 a1), (111, B true), (1, rf 0 0 1 a1), (5, pf a2 0), (8, I (a1.length : Int))] [sl 0 a1] ?_
 refine qv [] trivial 2 191 [(114, I (w64 ((a1.length : Int) - 1))), (112, rf 0 0 1 a1), (111, B true), (1, rf 0 0 1 a1), (5, pf a2 0), (8, I (a1.length : Int))] [sl 0 a1] ?_
 obtain ⟨v37, hv38, h⟩ := bindS h
 refine qX (some 115) (.ptr 0 0 ((w64 ((a1.length : Int) - 1)).toNat * 1)) 191 [(115, .ptr 0 0 ((w64 ((a1.length : Int) - 1)).toNat * 1)), (111, B true), (1, rf 0 0 1 a1), (5, pf a2 0), (8, I (a1.length : Int))] [sl 0 a1] (fun Γ' hΓ => CoreE.of_y (idrV_sound (n := a1.length) τ_ok (by kernel_rfl) hv38 rfl)) (hL trivial) ?_
 refine qX (some 116) (I v37) 191 [(116, I v37), (111, B true), (1, rf 0 0 1 a1), (5, pf a2 0), (8, I (a1.length : Int))] [sl 0 a1] (fun Γ' hΓ => CoreE.of_y (ldeV_sound (t := 3) (o' := 0) (r := I v37) τ_ok hv38 (by kernel_rfl) (by kernel_rfl))) (hL trivial) ?_
 refine qv [0] (hL trivial) 1 191 [(117, rf 0 0 1 a1), (116, I v37), (111, B true), (1, rf 0 0 1 a1), (5, pf a2 0), (8, I (a1.length : Int))] [sl 0 a1] ?_
 refine qv [] trivial 2 191 [(119, I (w64 ((a1.length : Int) - 2))), (117, rf 0 0 1 a1), (116, I v37), (111, B true), (1, rf 0 0 1 a1), (5, pf a2 0), (8, I (a1.length : Int))] [sl 0 a1] ?_
 obtain ⟨v39, hv40, h⟩ := bindS h
 refine qX (some 120) (.ptr 0 0 ((w64 ((a1.length : Int) - 2)).toNat * 1)) 191 [(120, .ptr 0 0 ((w64 ((a1.length : Int) - 2)).toNat * 1)), (116, I v37), (111, B true), (1, rf 0 0 1 a1), (5, pf a2 0), (8, I (a1.length : Int))] [sl 0 a1] (fun Γ' hΓ => CoreE.of_y (idrV_sound (n := a1.length) τ_ok (by kernel_rfl) hv40 rfl)) (hL trivial) ?_
 refine qX (some 121) (I v39) 191 [(121, I v39), (116, I v37), (111, B true), (1, rf 0 0 1 a1), (5, pf a2 0), (8, I (a1.length : Int))] [sl 0 a1] (fun Γ' hΓ => CoreE.of_y (ldeV_sound (t := 3) (o' := 0) (r := I v39) τ_ok hv40 (by kernel_rfl) (by kernel_rfl))) (hL trivial) ?_
 refine qv [] trivial 3 191 [(124, B (v37 == v39)), (1, rf 0 0 1 a1), (5, pf a2 0), (8, I (a1.length : Int))] [sl 0 a1] ?_
 rcases fk (v37 == v39) with hc43 | hc43
 replace h := bT hc43 h
 rw [hc43]
 refine qv [] trivial 2 191 [(126, I a2.fN), (124, B true), (1, rf 0 0 1 a1), (8, I (a1.length : Int))] [sl 0 a1] ?_
 obtain ⟨v41, hv42, h⟩ := bindS h
 refine qX (some 127) (B v41) 191 [(127, B v41), (124, B true), (1, rf 0 0 1 a1), (8, I (a1.length : Int))] [sl 0 a1] (fun Γ' hΓ => CoreE.of_g (callV_sound (τ := τ) (by kernel_rfl) rfl (ok_spec_l1In hv42) (FzTo.frz rfl))) trivial ?_
 refine qvn [] trivial 2 191 [(1, rf 0 0 1 a1), (8, I (a1.length : Int)), (10, B v41)] [sl 0 a1] ?_
 exact ⟨v41, h, it [1, 8, 10]⟩
 replace h := bF hc43 h
 rw [hc43]
 refine qvn [] trivial 5 191 [(1, rf 0 0 1 a1), (8, I (a1.length : Int)), (10, B false)] [sl 0 a1] ?_
 exact ⟨false, h, it [1, 8, 10]⟩
 replace h := bF hc44 h
 rw [hc44]
 refine qv [0] (hL trivial) 1 191 [(112, .lit undef), (111, B false), (1, rf 0 0 1 a1), (5, pf a2 0), (8, I (a1.length : Int))] [sl 0 a1] ?_
 refine qv [] trivial 2 191 [(114, .lit undef), (112, .lit undef), (111, B false), (1, rf 0 0 1 a1), (5, pf a2 0), (8, I (a1.length : Int))] [sl 0 a1] ?_
 refine qv [0] (hL trivial) 3 191 [(117, .lit undef), (116, .lit undef), (111, B false), (1, rf 0 0 1 a1), (5, pf a2 0), (8, I (a1.length : Int))] [sl 0 a1] ?_
 refine qv [] trivial 2 191 [(119, .lit undef), (117, .lit undef), (116, .lit undef), (111, B false), (1, rf 0 0 1 a1), (5, pf a2 0), (8, I (a1.length : Int))] [sl 0 a1] ?_
 refine qv [0] (hL trivial) 2 191 [(121, .lit undef), (116, .lit undef), (111, B false), (1, rf 0 0 1 a1), (5, pf a2 0), (8, I (a1.length : Int))] [sl 0 a1] ?_
 refine qv [] trivial 8 191 [(10, B false), (1, rf 0 0 1 a1), (8, I (a1.length : Int))] [sl 0 a1] ?_
 refine qn 191 [(1, rf 0 0 1 a1), (8, I (a1.length : Int)), (10, B false)] [sl 0 a1] ?_
 exact ⟨false, h, it [1, 8, 10]⟩
 rintro x32 h
 unfold spec_l4Step_j3 at h
 refine srv 3 191 [(10, B x32), (129, rf 0 0 1 a1), (131, I (w64 ((a1.length : Int) - 2)))] [sl 0 a1] ?_
 refine opsP_E (dd := some 132) (x := I (maxL (w64 ((a1.length : Int) - 2)) [0])) (CoreE.of_y (mxmV_sound (τ := τ) (m := true) (a := (w64 ((a1.length : Int) - 2))) (l := [0]) (by kernel_rfl))) ?_
 obtain ⟨v33, hv34, h⟩ := bindS h
 refine opsP_slr τ_ok 133 0 0 a1.length hv34 rfl (by kernel_rfl) ?_
 refine v 1 191 [(10, B x32), (133, rf 0 0 1 v33), (134, .arr 1 ([3] : List Int).length (eL ([3] : List Int)) true)] [sl 0 a1] ?_
 obtain ⟨v35, hv36, h⟩ := bindS h
 refine opsP_apt τ_ok 135 0 0 v33.length (nx hX) hv36 (slI_le hv34) (by kernel_rfl) ?_
 refine ve 3 191 [(6, rf 0 1 1 v35), (7, B x32)] [sl 1 v35] ?_
 have h := si h
 subst h
 exact pwp_ret (rt (.tup [rf 0 1 1 v35, B x32]) (OutP.tup (OutL.cons (OutP.list (v := 1) (by kernel_rfl)) (OutL.cons (OutP.frz (by kernel_rfl)) (OutL.nil _)))))
 refine pwp_seq ?_
 refine pwp_join (σ := Bool) (fun x45 => (⟨191, [(1, rf 0 0 1 a1), (8, I (a1.length : Int)), (40, I a2.fKind), (137, B x45)], [sl 0 a1]⟩ : St)) (fun x45 => spec_l4Step_j4 a1 a2 x45 = some y) ?_ ?_
 refine srve 191 [(1, rf 0 0 1 a1), (8, I (a1.length : Int)), (40, I a2.fKind), (137, B (a2.fKind == 5))] [sl 0 a1] ?_
 refine pc h (fun h => ?_) (fun h => ?_)
 refine pwp_skip ?_
 exact ⟨(a2.fKind == 5), h, it [1, 8, 40, 137]⟩
 refine rve 191 [(1, rf 0 0 1 a1), (8, I (a1.length : Int)), (40, I a2.fKind), (137, B (a2.fKind == 6))] [sl 0 a1] ?_
 exact ⟨(a2.fKind == 6), h, it [1, 8, 40, 137]⟩
 rintro x45 h
 unfold spec_l4Step_j4 at h
 refine pc h (fun h => ?_) (fun h => ?_)
 refine pwp_seq ?_
 refine pwp_join (σ := Bool) (fun x47 => (⟨191, [(1, rf 0 0 1 a1), (8, I (a1.length : Int)), (11, B x47)], [sl 0 a1]⟩ : St)) (fun x47 => spec_l4Step_j5 a1 x47 = some y) ?_ ?_
 refine rv 3 191 [(1, rf 0 0 1 a1), (8, I (a1.length : Int)), (142, B (decide ((a1.length : Int) > 1)))] [sl 0 a1] ?_
 rcases fk (decide ((a1.length : Int) > 1)) with hc57 | hc57
 replace h := bT hc57 h
 rw [hc57]
 refine v 3 191 [(1, rf 0 0 1 a1), (8, I (a1.length : Int)), (142, B true), (143, rf 0 0 1 a1), (145, I (w64 ((a1.length : Int) - 1)))] [sl 0 a1] ?_
 obtain ⟨v52, hv53, h⟩ := bindS h
 refine opsP_idr τ_ok 146 0 0 a1.length hv53 rfl (by kernel_rfl) ?_
 refine opsP_lde (r := I v52) τ_ok 147 3 0 hv53 (by kernel_rfl) (by kernel_rfl) ?_
 refine v 3 191 [(1, rf 0 0 1 a1), (8, I (a1.length : Int)), (150, B (v52 == 3))] [sl 0 a1] ?_
 rcases fk (v52 == 3) with hc56 | hc56
 replace h := bT hc56 h
 rw [hc56]
 refine v 3 191 [(1, rf 0 0 1 a1), (8, I (a1.length : Int)), (150, B true), (151, rf 0 0 1 a1), (153, I (w64 ((a1.length : Int) - 2)))] [sl 0 a1] ?_
 obtain ⟨v54, hv55, h⟩ := bindS h
 refine opsP_idr τ_ok 154 0 0 a1.length hv55 rfl (by kernel_rfl) ?_
 refine opsP_lde (r := I v54) τ_ok 155 3 0 hv55 (by kernel_rfl) (by kernel_rfl) ?_
 refine ve 3 191 [(1, rf 0 0 1 a1), (8, I (a1.length : Int)), (11, B (v54 == 3))] [sl 0 a1] ?_
 exact ⟨(v54 == 3), h, it [1, 8, 11]⟩
 replace h := bF hc56 h
 rw [hc56]
 refine ve 8 191 [(1, rf 0 0 1 a1), (8, I (a1.length : Int)), (11, B false)] [sl 0 a1] ?_
 exact ⟨false, h, it [1, 8, 11]⟩
 replace h := bF hc57 h
 rw [hc57]
 refine ve 16 191 [(1, rf 0 0 1 a1), (8, I (a1.length : Int)), (11, B false)] [sl 0 a1] ?_
 exact ⟨false, h, it [1, 8, 11]⟩
 rintro x47 h
 unfold spec_l4Step_j5 at h
 refine srv 3 191 [(11, B x47), (158, rf 0 0 1 a1), (160, I (w64 ((a1.length : Int) - 2)))] [sl 0 a1] ?_
 refine opsP_E (dd := some 161) (x := I (maxL (w64 ((a1.length : Int) - 2)) [0])) (CoreE.of_y (mxmV_sound (τ := τ) (m := true) (a := (w64 ((a1.length : Int) - 2))) (l := [0]) (by kernel_rfl))) ?_
 obtain ⟨v48, hv49, h⟩ := bindS h
 refine opsP_slr τ_ok 162 0 0 a1.length hv49 rfl (by kernel_rfl) ?_
 refine v 1 191 [(11, B x47), (162, rf 0 0 1 v48), (163, .arr 1 ([3] : List Int).length (eL ([3] : List Int)) true)] [sl 0 a1] ?_
 obtain ⟨v50, hv51, h⟩ := bindS h
 refine opsP_apt τ_ok 164 0 0 v48.length (nx hX) hv51 (slI_le hv49) (by kernel_rfl) ?_
 refine ve 3 191 [(6, rf 0 1 1 v50), (7, B x47)] [sl 1 v50] ?_
 have h := si h
 subst h
 exact pwp_ret (rt (.tup [rf 0 1 1 v50, B x47]) (OutP.tup (OutL.cons (OutP.list (v := 1) (by kernel_rfl)) (OutL.cons (OutP.frz (by kernel_rfl)) (OutL.nil _)))))
 refine srve 191 [(1, rf 0 0 1 a1), (8, I (a1.length : Int)), (40, I a2.fKind), (166, B (a2.fKind == 7))] [sl 0 a1] ?_
 refine pc h (fun h => ?_) (fun h => ?_)
 refine pwp_seq ?_
 refine ip 191 [(1, rf 0 0 1 a1), (8, I (a1.length : Int))] [sl 0 a1] ?_
 refine pwp_any ([[0], [], [], [], [0], [], [], [0], [0], [], [], [0], []]) ([[], [], [], [], [], [], [], [], [], [], [], [], []]) rfl (by kernel_rfl) ?_
 refine qv [0] (hL trivial) 1 191 [(168, rf 0 0 1 a1), (1, rf 0 0 1 a1), (8, I (a1.length : Int))] [sl 0 a1] ?_
 refine qv [] trivial 3 191 [(171, B (decide ((a1.length : Int) > 0))), (168, rf 0 0 1 a1), (1, rf 0 0 1 a1), (8, I (a1.length : Int))] [sl 0 a1] ?_
 rcases fk (decide ((a1.length : Int) > 0)) with hc61 | hc61
 replace h := bT hc61 h
 rw [hc61]
 refine qv [0] (hL trivial) 1 191 [(172, rf 0 0 1 a1), (171, B true), (168, rf 0 0 1 a1), (8, I (a1.length : Int))] [sl 0 a1] ?_
 refine qv [] trivial 2 191 [(174, I (w64 ((a1.length : Int) - 1))), (172, rf 0 0 1 a1), (171, B true), (168, rf 0 0 1 a1)] [sl 0 a1] ?_
 obtain ⟨v59, hv60, h⟩ := bindS h
 refine qX (some 175) (.ptr 0 0 ((w64 ((a1.length : Int) - 1)).toNat * 1)) 191 [(175, .ptr 0 0 ((w64 ((a1.length : Int) - 1)).toNat * 1)), (171, B true), (168, rf 0 0 1 a1)] [sl 0 a1] (fun Γ' hΓ => CoreE.of_y (idrV_sound (n := a1.length) τ_ok (by kernel_rfl) hv60 rfl)) (hL trivial) ?_
 refine qX (some 176) (I v59) 191 [(176, I v59), (171, B true), (168, rf 0 0 1 a1)] [sl 0 a1] (fun Γ' hΓ => CoreE.of_y (ldeV_sound (t := 3) (o' := 0) (r := I v59) τ_ok hv60 (by kernel_rfl) (by kernel_rfl))) (hL trivial) ?_
 refine qv [] trivial 2 191 [(178, B (v59 == 3)), (168, rf 0 0 1 a1)] [sl 0 a1] ?_
 refine qv [0] (hL trivial) 1 191 [(6, rf 0 0 1 a1), (178, B (v59 == 3))] [sl 0 a1] ?_
 refine qv [] trivial 1 191 [(7, B (v59 == 3)), (6, rf 0 0 1 a1)] [sl 0 a1] ?_
 refine qn 191 [(6, rf 0 0 1 a1), (7, B (v59 == 3))] [sl 0 a1] ?_
 have h := si h
 subst h
 exact pwp_ret (rt (.tup [rf 0 0 1 a1, B (v59 == 3)]) (OutP.tup (OutL.cons (OutP.list (v := 0) (by kernel_rfl)) (OutL.cons (OutP.frz (by kernel_rfl)) (OutL.nil _)))))
 replace h := bF hc61 h
 rw [hc61]
 refine qv [0] (hL trivial) 1 191 [(172, .lit undef), (171, B false), (168, rf 0 0 1 a1), (8, I (a1.length : Int))] [sl 0 a1] ?_
 refine qv [] trivial 2 191 [(174, .lit undef), (172, .lit undef), (171, B false), (168, rf 0 0 1 a1)] [sl 0 a1] ?_
 refine qv [0] (hL trivial) 2 191 [(176, .lit undef), (171, B false), (168, rf 0 0 1 a1)] [sl 0 a1] ?_
 refine qv [] trivial 2 191 [(178, B false), (168, rf 0 0 1 a1)] [sl 0 a1] ?_
 refine qv [0] (hL trivial) 1 191 [(6, rf 0 0 1 a1), (178, B false)] [sl 0 a1] ?_
 refine qv [] trivial 1 191 [(7, B false), (6, rf 0 0 1 a1)] [sl 0 a1] ?_
 refine qn 191 [(6, rf 0 0 1 a1), (7, B false)] [sl 0 a1] ?_
 have h := si h
 subst h
 exact pwp_ret (rt (.tup [rf 0 0 1 a1, B false]) (OutP.tup (OutL.cons (OutP.list (v := 0) (by kernel_rfl)) (OutL.cons (OutP.frz (by kernel_rfl)) (OutL.nil _)))))
 refine srve 191 [(1, rf 0 0 1 a1), (8, I (a1.length : Int)), (179, B (a2.fKind == 8))] [sl 0 a1] ?_
 refine pc h (fun h => ?_) (fun h => ?_)
 refine srv 3 191 [(8, I (a1.length : Int)), (181, rf 0 0 1 a1), (183, I (w64 ((a1.length : Int) - 1)))] [sl 0 a1] ?_
 refine opsP_E (dd := some 184) (x := I (maxL (w64 ((a1.length : Int) - 1)) [0])) (CoreE.of_y (mxmV_sound (τ := τ) (m := true) (a := (w64 ((a1.length : Int) - 1))) (l := [0]) (by kernel_rfl))) ?_
 obtain ⟨v63, hv64, h⟩ := bindS h
 refine opsP_slr τ_ok 185 0 0 a1.length hv64 rfl (by kernel_rfl) ?_
 refine v 1 191 [(8, I (a1.length : Int)), (185, rf 0 0 1 v63), (186, .arr 1 ([3] : List Int).length (eL ([3] : List Int)) true)] [sl 0 a1] ?_
 obtain ⟨v65, hv66, h⟩ := bindS h
 refine opsP_apt τ_ok 187 0 0 v63.length (nx hX) hv66 (slI_le hv64) (by kernel_rfl) ?_
 refine ve 4 191 [(6, rf 0 1 1 v65), (7, B (decide ((a1.length : Int) > 0)))] [sl 1 v65] ?_
 have h := si h
 subst h
 exact pwp_ret (rt (.tup [rf 0 1 1 v65, B (decide ((a1.length : Int) > 0))]) (OutP.tup (OutL.cons (OutP.list (v := 1) (by kernel_rfl)) (OutL.cons (OutP.frz (by kernel_rfl)) (OutL.nil _)))))
 refine pwp_skip ?_
 refine srve 191 [(6, rf 0 0 1 a1), (7, B false)] [sl 0 a1] ?_
 have h := si h
 subst h
 exact pwp_ret (rt (.tup [rf 0 0 1 a1, B false]) (OutP.tup (OutL.cons (OutP.list (v := 0) (by kernel_rfl)) (OutL.cons (OutP.frz (by kernel_rfl)) (OutL.nil _)))))
def impl_Part_kind_1 (a0 : Int) (b0 : List Int) : Option Bool := (slices_ContainsFunc_int_int b0 (fun z0 => impl_Part_kind_1_1 z0 a0)).bind fun v1 => some (!v1)
theorem ok_impl_Part_kind_1 {a0 : Int} {b0 : List Int} {y : Bool} (h : impl_Part_kind_1 a0 b0 = some y) : OK Try.prog 63 [I a0, pf b0 0] (B y) := by
 refine ow Try.func63 fun Γ hX => ?_
 unfold impl_Part_kind_1 at h
 refine srve 8 [(1, pf b0 0), (2, pf a0 0)] [] ?_
 refine srv 2 8 [(4, A b0), (5, .fn 65 [pf a0 0])] [] ?_
 obtain ⟨v1, hv2, h⟩ := bindS h
 refine cF 6 (ok_slices_ContainsFunc_int_int (rfl) (fun _ w hw => ok_impl_Part_kind_1_1 hw) hv2) ?_
 refine ve 2 8 [(3, B (!v1))] [] ?_
 cases h
 exact pwp_ret rz
def spec_ExprKind_j3 (x6 : List Int) (x15 : Bool) : Option Int := bif x15 then some (-1) else (getI x6 (0 : Int)).bind fun v17 => some v17
def spec_ExprKind_j2 (a0 : List T_impl_Column) (a1 : List T_impl_Part) (x4 : Bool) (x5 : Int) (x6 : List Int) (K8 : Bool → Int → (List Int) → Option Int) (x9 : Bool) : Option Int := bif x9 then (getI a1 x5).bind fun v11 => (spec_l4Step a0 x6 v11).bind fun v13 => K8 v13.2 (w64 (x5 + 1)) v13.1 else bif (!x4) then spec_ExprKind_j3 x6 true else spec_ExprKind_j3 x6 (!((x6.length : Int) == 1))
def spec_ExprKind_l1 (a0 : List T_impl_Column) (a1 : List T_impl_Part) : Nat → Bool → Int → (List Int) → Option Int
 | 0, _, _, _ => none
 | f7 + 1, x4, x5, x6 => bif (decide (x5 < (a1.length : Int))) then spec_ExprKind_j2 a0 a1 x4 x5 x6 (spec_ExprKind_l1 a0 a1 f7) x4 else spec_ExprKind_j2 a0 a1 x4 x5 x6 (spec_ExprKind_l1 a0 a1 f7) false
def spec_ExprKind_j0 (a0 : List T_impl_Column) (a1 : List T_impl_Part) (x1 : Bool) : Option Int := bif x1 then some (-1) else spec_ExprKind_l1 a0 a1 FUEL true 0 ([] : List Int)
def spec_ExprKind (a0 : List T_impl_Column) (a1 : List T_impl_Part) : Option Int := (spec_ColumnsOk a0).bind fun v21 => bif (!v21) then spec_ExprKind_j0 a0 a1 true else spec_ExprKind_j0 a0 a1 (decide ((a1.length : Int) > 12))
theorem ok_spec_ExprKind {a0 : List T_impl_Column} {a1 : List T_impl_Part} {y : Int} (h : spec_ExprKind a0 a1 = some y) : OK Try.prog 27 [A a0, A a1] (I y) := by
 refine ow Try.func27 fun Γ hX => ?_
 unfold spec_ExprKind at h
 refine srve 46 [(0, A a0), (1, A a1)] [] ?_
 refine pwp_seq ?_
 refine pwp_seq ?_
 refine pwp_join (σ := Bool) (fun x1 => (⟨46, [(0, A a0), (1, A a1), (15, B x1)], []⟩ : St)) (fun x1 => spec_ExprKind_j0 a0 a1 x1 = some y) ?_ ?_
 refine rv 1 46 [(0, A a0), (1, A a1), (8, A a0)] [] ?_
 obtain ⟨v21, hv22, h⟩ := bindS h
 refine cF 9 (ok_spec_ColumnsOk hv22) ?_
 refine v 2 46 [(0, A a0), (1, A a1), (11, B (!v21))] [] ?_
 rcases fk (!v21) with hc23 | hc23
 replace h := bT hc23 h
 rw [hc23]
 refine ve 4 46 [(0, A a0), (1, A a1), (15, B true)] [] ?_
 exact ⟨true, h, it [0, 1, 15]⟩
 replace h := bF hc23 h
 rw [hc23]
 refine ve 4 46 [(0, A a0), (1, A a1), (15, B (decide ((a1.length : Int) > 12)))] [] ?_
 exact ⟨(decide ((a1.length : Int) > 12)), h, it [0, 1, 15]⟩
 rintro x1 h
 unfold spec_ExprKind_j0 at h
 refine pc h (fun h => ?_) (fun h => ?_)
 refine srve 46 [(4, I (-1))] [] ?_
 cases h
 exact pwp_ret rz
 refine pwp_skip ?_
 refine srve 46 [(0, A a0), (1, A a1), (5, .arr 1 0 (eL ([] : List Int)) true)] [] ?_
 refine srve 46 [(0, A a0), (1, A a1), (5, .arr 1 0 (eL ([] : List Int)) true), (6, B true)] [] ?_
 refine pwp_seq ?_
 refine srve 46 [(0, A a0), (1, A a1), (5, .arr 1 0 (eL ([] : List Int)) true), (6, B true), (7, I 0)] [] ?_
 refine pwp_block ?_
 refine pwp_loop (ι := Nat × Bool × Int × (List Int)) (fun (f7, x4, x5, x6) => (⟨46, [(0, A a0), (1, A a1), (5, rf 0 0 1 x6), (6, B x4), (7, I x5)], [sl 0 x6]⟩ : St)) (fun (f7, x4, x5, x6) => spec_ExprKind_l1 a0 a1 f7 x4 x5 x6 = some y) Prod.fst (FUEL, true, 0, ([] : List Int)) h (Imp.thawS 5 [0, 1, 5, 6, 7] (by kernel_rfl)) ?_
 rintro ⟨f7, x4, x5, x6⟩ h
 dsimp only at h ⊢
 rcases f7 with _ | f7
 cases h
 rw [spec_ExprKind_l1] at h
 refine pwp_seq ?_
 refine pwp_seq ?_
 refine pwp_join (σ := Bool) (fun x9 => (⟨46, [(0, A a0), (1, A a1), (5, rf 0 0 1 x6), (6, B x4), (7, I x5), (23, B x9)], [sl 0 x6]⟩ : St)) (fun x9 => spec_ExprKind_j2 a0 a1 x4 x5 x6 (spec_ExprKind_l1 a0 a1 f7) x9 = some y) ?_ ?_
 refine rv 5 46 [(0, A a0), (1, A a1), (5, rf 0 0 1 x6), (6, B x4), (7, I x5), (21, B (decide (x5 < (a1.length : Int))))] [sl 0 x6] ?_
 rcases fk (decide (x5 < (a1.length : Int))) with hc20 | hc20
 replace h := bT hc20 h
 rw [hc20]
 refine ve 2 46 [(0, A a0), (1, A a1), (5, rf 0 0 1 x6), (6, B x4), (7, I x5), (22, B x4), (23, B x4)] [sl 0 x6] ?_
 exact ⟨x4, h, it [0, 1, 5, 6, 7, 23]⟩
 replace h := bF hc20 h
 rw [hc20]
 refine ve 2 46 [(0, A a0), (1, A a1), (5, rf 0 0 1 x6), (6, B x4), (7, I x5), (22, .lit undef), (23, B false)] [sl 0 x6] ?_
 exact ⟨false, h, it [0, 1, 5, 6, 7, 23]⟩
 rintro x9 h
 unfold spec_ExprKind_j2 at h
 refine pc h (fun h => ?_) (fun h => ?_)
 refine pwp_skip ?_
 refine pwp_seq ?_
 refine pwp_block ?_
 refine rv 4 46 [(0, A a0), (1, A a1), (7, I x5), (27, A a0), (28, rf 0 0 1 x6), (29, A a1), (30, I x5)] [sl 0 x6] ?_
 obtain ⟨v11, hv12, h⟩ := bindS h
 refine opsP_idx τ_ok 31 hv12 (by kernel_rfl) ?_
 refine v 1 46 [(0, A a0), (1, A a1), (7, I x5), (27, A a0), (28, rf 0 0 1 x6), (32, E v11)] [sl 0 x6] ?_
 obtain ⟨v13, hv14, h⟩ := bindS h
 refine opsP_callM (xs := [A a0, rf 0 0 1 x6, E v11]) (x := .tup [rf 1 0 1 v13.1, B v13.2]) (bs := [⟨0, eL v13.1⟩]) τ 33 [0] (nx hX) (ok_spec_l4Step hv14) (by kernel_rfl) (OutL.cons (OutP.frz rfl) (OutL.cons (OutP.list (v := 0) (by kernel_rfl)) (OutL.cons (OutP.frz rfl) (OutL.nil _)))) (by decide) (by kernel_rfl) ?_
 refine ve 5 46 [(0, A a0), (1, A a1), (5, rf 1 0 1 v13.1), (6, B v13.2), (7, I x5)] [none, sl 0 v13.1] ?_
 refine rve 46 [(0, A a0), (1, A a1), (5, rf 1 0 1 v13.1), (6, B v13.2), (7, I (w64 (x5 + 1)))] [none, sl 0 v13.1] ?_
 exact ⟨(f7, v13.2, (w64 (x5 + 1)), v13.1), h, Nat.lt_succ_self _, qt (it (st' := ⟨46, [(0, A a0), (1, A a1), (5, rf 1 0 1 v13.1), (6, B v13.2), (7, I (w64 (x5 + 1)))], [none, sl 0 v13.1]⟩) [0, 1, 5, 6, 7]) (qt (Imp.mvS (st' := ⟨46, [(0, A a0), (1, A a1), (5, rf 0 0 1 v13.1), (6, B v13.2), (7, I (w64 (x5 + 1)))], [sl 0 v13.1, none]⟩) 1 0 [0, 1, 5, 6, 7] (nx hX) (v := 0) (cs := eL v13.1) (by kernel_rfl) (by kernel_rfl) (by exact (And.intro (eL_frz _) trivial)) (by kernel_rfl) (by kernel_rfl)) (Imp.truncS 1 (nx hX) (by kernel_rfl) (allBelow_mem (by exact (And.intro rfl (And.intro rfl (And.intro rfl (And.intro rfl (And.intro rfl trivial))))))) (by exact (And.intro (frz_below (eL_frz _)) trivial)) (by kernel_rfl)))⟩
 refine pwp_exit ?_
 refine pwp_seq ?_
 refine pwp_seq ?_
 refine pwp_join (σ := Bool) (fun x15 => (⟨46, [(5, rf 0 0 1 x6), (42, B x15)], [sl 0 x6]⟩ : St)) (fun x15 => spec_ExprKind_j3 x6 x15 = some y) ?_ ?_
 refine rv 3 46 [(5, rf 0 0 1 x6), (38, B (!x4))] [sl 0 x6] ?_
 rcases fk (!x4) with hc19 | hc19
 replace h := bT hc19 h
 rw [hc19]
 refine ve 4 46 [(5, rf 0 0 1 x6), (42, B true)] [sl 0 x6] ?_
 exact ⟨true, h, it [5, 42]⟩
 replace h := bF hc19 h
 rw [hc19]
 refine ve 4 46 [(5, rf 0 0 1 x6), (42, B (!((x6.length : Int) == 1)))] [sl 0 x6] ?_
 exact ⟨(!((x6.length : Int) == 1)), h, it [5, 42]⟩
 rintro x15 h
 unfold spec_ExprKind_j3 at h
 refine pc h (fun h => ?_) (fun h => ?_)
 refine srve 46 [(4, I (-1))] [sl 0 x6] ?_
 cases h
 exact pwp_ret rz
 refine pwp_skip ?_
 refine srv 1 46 [(43, rf 0 0 1 x6)] [sl 0 x6] ?_
 obtain ⟨v17, hv18, h⟩ := bindS h
 refine opsP_idr τ_ok 44 0 0 x6.length hv18 rfl (by kernel_rfl) ?_
 refine opsP_lde (r := I v17) τ_ok 45 3 0 hv18 (by kernel_rfl) (by kernel_rfl) ?_
 refine ve 1 46 [(4, I v17)] [sl 0 x6] ?_
 cases h
 exact pwp_ret rz
def impl_Part_kind (a0 : T_impl_Part) (a1 : List T_impl_Column) (a2 : List Int) : Option (Int × Bool) := bif (a0.fKind == 1) then some (a0.fV.fKind, true) else bif (a0.fKind == 2) then (getI a1 a0.fN).bind fun v3 => some (v3.fKind, true) else bif (a0.fKind == 3) then (impl_Part_kind_1 1 a2).bind fun v6 => some (1, v6) else bif (a0.fKind == 4) then (getI a2 0).bind fun v9 => (getI a2 1).bind fun v11 => some (3, (v9 == v11)) else bif (a0.fKind == 8) then some (3, true) else (impl_Part_kind_1 3 a2).bind fun v14 => some (3, v14)
theorem ok_impl_Part_kind {a0 : T_impl_Part} {a1 : List T_impl_Column} {a2 : List Int} {y : Int × Bool} (h : impl_Part_kind a0 a1 a2 = some y) : OK Try.prog 43 [E a0, A a1, A a2] (.tup [I y.1, B y.2]) := by
 refine ow Try.func43 fun Γ hX => ?_
 unfold impl_Part_kind at h
 refine srve 42 [(1, A a1), (3, pf a0 0), (5, pf a2 0)] [] ?_
 refine srve 42 [(1, A a1), (3, pf a0 0), (5, pf a2 0), (8, .fn 63 [pf a2 0])] [] ?_
 refine pwp_seq ?_
 refine srve 42 [(1, A a1), (3, pf a0 0), (5, pf a2 0), (8, .fn 63 [pf a2 0]), (11, I a0.fKind)] [] ?_
 refine pwp_block ?_
 refine srve 42 [(1, A a1), (3, pf a0 0), (5, pf a2 0), (8, .fn 63 [pf a2 0]), (11, I a0.fKind), (12, B (a0.fKind == 1))] [] ?_
 refine pc h (fun h => ?_) (fun h => ?_)
 refine srve 42 [(6, I a0.fV.fKind), (7, B true)] [] ?_
 have h := si h
 subst h
 exact pwp_ret (rt (.tup [I a0.fV.fKind, B true]) (OutP.tup (OutL.cons (OutP.frz (by kernel_rfl)) (OutL.cons (OutP.frz (by kernel_rfl)) (OutL.nil _)))))
 refine srve 42 [(1, A a1), (3, pf a0 0), (5, pf a2 0), (8, .fn 63 [pf a2 0]), (11, I a0.fKind), (17, B (a0.fKind == 2))] [] ?_
 refine pc h (fun h => ?_) (fun h => ?_)
 refine srv 3 42 [(19, A a1), (21, I a0.fN)] [] ?_
 obtain ⟨v3, hv4, h⟩ := bindS h
 refine opsP_idx τ_ok 22 hv4 (by kernel_rfl) ?_
 refine ve 4 42 [(6, I v3.fKind), (7, B true)] [] ?_
 have h := si h
 subst h
 exact pwp_ret (rt (.tup [I v3.fKind, B true]) (OutP.tup (OutL.cons (OutP.frz (by kernel_rfl)) (OutL.cons (OutP.frz (by kernel_rfl)) (OutL.nil _)))))
 refine srve 42 [(5, pf a2 0), (8, .fn 63 [pf a2 0]), (11, I a0.fKind), (25, B (a0.fKind == 3))] [] ?_
 refine pc h (fun h => ?_) (fun h => ?_)
 refine srv 1 42 [(27, .fn 63 [pf a2 0])] [] ?_
 obtain ⟨v6, hv7, h⟩ := bindS h
 refine cF 28 (ok_impl_Part_kind_1 hv7) ?_
 refine ve 2 42 [(6, I 1), (7, B v6)] [] ?_
 have h := si h
 subst h
 exact pwp_ret (rt (.tup [I 1, B v6]) (OutP.tup (OutL.cons (OutP.frz (by kernel_rfl)) (OutL.cons (OutP.frz (by kernel_rfl)) (OutL.nil _)))))
 refine srve 42 [(5, pf a2 0), (8, .fn 63 [pf a2 0]), (11, I a0.fKind), (29, B (a0.fKind == 4))] [] ?_
 refine pc h (fun h => ?_) (fun h => ?_)
 refine pwp_seq ?_
 refine ip 42 [(5, pf a2 0)] [] ?_
 refine pN 9 ?_
 refine qv [] trivial 1 42 [(31, A a2), (5, pf a2 0)] [] ?_
 obtain ⟨v9, hv10, h⟩ := bindS h
 refine qX (some 32) (pf v9 0) 42 [(32, pf v9 0), (5, pf a2 0)] [] (fun Γ' hΓ => CoreE.of_y (idxV_sound τ_ok (by kernel_rfl) hv10)) trivial ?_
 refine qv [] trivial 2 42 [(34, A a2), (33, I v9)] [] ?_
 obtain ⟨v11, hv12, h⟩ := bindS h
 refine qX (some 35) (pf v11 0) 42 [(35, pf v11 0), (33, I v9)] [] (fun Γ' hΓ => CoreE.of_y (idxV_sound τ_ok (by kernel_rfl) hv12)) trivial ?_
 refine qvn [] trivial 4 42 [(6, I 3), (7, B (v9 == v11))] [] ?_
 have h := si h
 subst h
 exact pwp_ret (rt (.tup [I 3, B (v9 == v11)]) (OutP.tup (OutL.cons (OutP.frz (by kernel_rfl)) (OutL.cons (OutP.frz (by kernel_rfl)) (OutL.nil _)))))
 refine srve 42 [(8, .fn 63 [pf a2 0]), (38, B (a0.fKind == 8))] [] ?_
 refine pc h (fun h => ?_) (fun h => ?_)
 refine srve 42 [(6, I 3), (7, B true)] [] ?_
 have h := si h
 subst h
 exact pwp_ret (rt (.tup [I 3, B true]) (OutP.tup (OutL.cons (OutP.frz (by kernel_rfl)) (OutL.cons (OutP.frz (by kernel_rfl)) (OutL.nil _)))))
 refine pwp_skip ?_
 refine srv 1 42 [(40, .fn 63 [pf a2 0])] [] ?_
 obtain ⟨v14, hv15, h⟩ := bindS h
 refine cF 41 (ok_impl_Part_kind_1 hv15) ?_
 refine ve 2 42 [(6, I 3), (7, B v14)] [] ?_
 have h := si h
 subst h
 exact pwp_ret (rt (.tup [I 3, B v14]) (OutP.tup (OutL.cons (OutP.frz (by kernel_rfl)) (OutL.cons (OutP.frz (by kernel_rfl)) (OutL.nil _)))))
def spec_ExprColumns_j2 (x2 : Int) (K5 : Int → (List Int) → Option (List Int)) (x8 : List Int) : Option (List Int) := K5 (w64 (x2 + 1)) x8
def spec_ExprColumns_j4 (x11 : Int) (K13 : Bool → Int → Option (List Int)) (x15 : Bool) : Option (List Int) := K13 x15 (w64 (x11 + 1))
def spec_ExprColumns_l3 (a1 : List T_impl_Part) (x2 : Int) (x3 : List Int) (K5 : Int → (List Int) → Option (List Int)) : Nat → Bool → Int → Option (List Int)
 | 0, _, _ => none
 | f12 + 1, x10, x11 => bif (decide (x11 < (a1.length : Int))) then bif x10 then spec_ExprColumns_j4 x11 (spec_ExprColumns_l3 a1 x2 x3 K5 f12) true else (getI a1 x11).bind fun v16 => bif (v16.fKind == 2) then (getI a1 x11).bind fun v18 => spec_ExprColumns_j4 x11 (spec_ExprColumns_l3 a1 x2 x3 K5 f12) (v18.fN == x2) else spec_ExprColumns_j4 x11 (spec_ExprColumns_l3 a1 x2 x3 K5 f12) false else bif x10 then (app x3 ([x2] : List Int)).bind fun v23 => spec_ExprColumns_j2 x2 K5 v23 else spec_ExprColumns_j2 x2 K5 x3
def spec_ExprColumns_j1 (a1 : List T_impl_Part) (x2 : Int) (x3 : List Int) (K5 : Int → (List Int) → Option (List Int)) (x6 : Bool) : Option (List Int) := bif x6 then spec_ExprColumns_l3 a1 x2 x3 K5 FUEL false 0 else some x3
def spec_ExprColumns_l0 (a0 : List T_impl_Column) (a1 : List T_impl_Part) : Nat → Int → (List Int) → Option (List Int)
 | 0, _, _ => none
 | f4 + 1, x2, x3 => bif (decide (x2 < (a0.length : Int))) then (spec_ExprKind a0 a1).bind fun v25 => spec_ExprColumns_j1 a1 x2 x3 (spec_ExprColumns_l0 a0 a1 f4) (decide (v25 ≥ 0)) else spec_ExprColumns_j1 a1 x2 x3 (spec_ExprColumns_l0 a0 a1 f4) false
def spec_ExprColumns (a0 : List T_impl_Column) (a1 : List T_impl_Part) : Option (List Int) := spec_ExprColumns_l0 a0 a1 FUEL 0 ([] : List Int)
theorem ok_spec_ExprColumns {a0 : List T_impl_Column} {a1 : List T_impl_Part} {y : List Int} (h : spec_ExprColumns a0 a1 = some y) : OK Try.prog 8 [A a0, A a1] (O y) := by
 refine ow Try.func8 fun Γ hX => ?_
 unfold spec_ExprColumns at h
 refine srve 52 [(0, A a0), (1, A a1)] [] ?_
 refine srve 52 [(0, A a0), (1, A a1), (5, .arr 1 0 (eL ([] : List Int)) true)] [] ?_
 refine pwp_seq ?_
 refine srve 52 [(0, A a0), (1, A a1), (5, .arr 1 0 (eL ([] : List Int)) true), (6, I 0)] [] ?_
 refine pwp_block ?_
 refine pwp_loop (ι := Nat × Int × (List Int)) (fun (f4, x2, x3) => (⟨52, [(0, A a0), (1, A a1), (5, rf 0 0 1 x3), (6, I x2)], [sl 0 x3]⟩ : St)) (fun (f4, x2, x3) => spec_ExprColumns_l0 a0 a1 f4 x2 x3 = some y) Prod.fst (FUEL, 0, ([] : List Int)) h (Imp.thawS 5 [0, 1, 5, 6] (by kernel_rfl)) ?_
 rintro ⟨f4, x2, x3⟩ h
 dsimp only at h ⊢
 rcases f4 with _ | f4
 cases h
 rw [spec_ExprColumns_l0] at h
 refine pwp_seq ?_
 refine pwp_seq ?_
 refine pwp_join (σ := Bool) (fun x6 => (⟨52, [(0, A a0), (1, A a1), (5, rf 0 0 1 x3), (6, I x2), (19, B x6)], [sl 0 x3]⟩ : St)) (fun x6 => spec_ExprColumns_j1 a1 x2 x3 (spec_ExprColumns_l0 a0 a1 f4) x6 = some y) ?_ ?_
 refine rv 5 52 [(0, A a0), (1, A a1), (5, rf 0 0 1 x3), (6, I x2), (14, B (decide (x2 < (a0.length : Int))))] [sl 0 x3] ?_
 rcases fk (decide (x2 < (a0.length : Int))) with hc27 | hc27
 replace h := bT hc27 h
 rw [hc27]
 refine v 2 52 [(0, A a0), (1, A a1), (5, rf 0 0 1 x3), (6, I x2), (14, B true), (15, A a0), (16, A a1)] [sl 0 x3] ?_
 obtain ⟨v25, hv26, h⟩ := bindS h
 refine cF 17 (ok_spec_ExprKind hv26) ?_
 refine ve 2 52 [(0, A a0), (1, A a1), (5, rf 0 0 1 x3), (6, I x2), (15, A a0), (16, A a1), (17, I v25), (18, B (decide (v25 ≥ 0))), (19, B (decide (v25 ≥ 0)))] [sl 0 x3] ?_
 exact ⟨(decide (v25 ≥ 0)), h, it [0, 1, 5, 6, 19]⟩
 replace h := bF hc27 h
 rw [hc27]
 refine ve 5 52 [(0, A a0), (1, A a1), (5, rf 0 0 1 x3), (6, I x2), (15, .lit undef), (16, .lit undef), (17, .lit undef), (18, .lit undef), (19, B false)] [sl 0 x3] ?_
 exact ⟨false, h, it [0, 1, 5, 6, 19]⟩
 rintro x6 h
 unfold spec_ExprColumns_j1 at h
 refine pc h (fun h => ?_) (fun h => ?_)
 refine pwp_skip ?_
 refine pwp_seq ?_
 refine pwp_join (σ := (List Int)) (fun x8 => (⟨52, [(0, A a0), (1, A a1), (5, rf 0 0 1 x8), (6, I x2)], [sl 0 x8]⟩ : St)) (fun x8 => spec_ExprColumns_j2 x2 (spec_ExprColumns_l0 a0 a1 f4) x8 = some y) ?_ ?_
 refine pwp_block ?_
 refine srve 52 [(0, A a0), (1, A a1), (5, rf 0 0 1 x3), (6, I x2), (7, B false)] [sl 0 x3] ?_
 refine pwp_seq ?_
 refine srve 52 [(0, A a0), (1, A a1), (5, rf 0 0 1 x3), (6, I x2), (7, B false), (8, I 0)] [sl 0 x3] ?_
 refine pwp_block ?_
 refine pwp_loop (ι := Nat × Bool × Int) (fun (f12, x10, x11) => (⟨52, [(0, A a0), (1, A a1), (5, rf 0 0 1 x3), (6, I x2), (7, B x10), (8, I x11)], [sl 0 x3]⟩ : St)) (fun (f12, x10, x11) => spec_ExprColumns_l3 a1 x2 x3 (spec_ExprColumns_l0 a0 a1 f4) f12 x10 x11 = some y) Prod.fst (FUEL, false, 0) h (it [0, 1, 5, 6, 7, 8]) ?_
 rintro ⟨f12, x10, x11⟩ h
 dsimp only at h ⊢
 rcases f12 with _ | f12
 cases h
 rw [spec_ExprColumns_l3] at h
 refine pwp_seq ?_
 refine srve 52 [(0, A a0), (1, A a1), (5, rf 0 0 1 x3), (6, I x2), (7, B x10), (8, I x11), (25, B (decide (x11 < (a1.length : Int))))] [sl 0 x3] ?_
 refine pc h (fun h => ?_) (fun h => ?_)
 refine pwp_skip ?_
 refine pwp_seq ?_
 refine pwp_join (σ := Bool) (fun x15 => (⟨52, [(0, A a0), (1, A a1), (5, rf 0 0 1 x3), (6, I x2), (7, B x15), (8, I x11)], [sl 0 x3]⟩ : St)) (fun x15 => spec_ExprColumns_j4 x11 (spec_ExprColumns_l3 a1 x2 x3 (spec_ExprColumns_l0 a0 a1 f4) f12) x15 = some y) ?_ ?_
 refine pwp_block ?_
 refine rv 2 52 [(0, A a0), (1, A a1), (5, rf 0 0 1 x3), (6, I x2), (8, I x11), (29, B x10)] [sl 0 x3] ?_
 rcases Bool.eq_false_or_eq_true x10 with hc21 | hc21
 replace h := bT hc21 h
 rw [hc21]
 refine ve 17 52 [(0, A a0), (1, A a1), (5, rf 0 0 1 x3), (6, I x2), (7, B true), (8, I x11), (30, .lit undef), (31, .lit undef), (32, .lit undef), (33, .lit undef), (34, .lit undef), (35, .lit undef), (36, .lit undef), (37, .lit undef), (38, .lit undef), (39, .lit undef), (40, .lit undef), (41, .lit undef), (42, .lit undef), (43, .lit undef), (44, .lit undef)] [sl 0 x3] ?_
 exact ⟨true, h, it [0, 1, 5, 6, 7, 8]⟩
 replace h := bF hc21 h
 rw [hc21]
 refine v 2 52 [(0, A a0), (1, A a1), (5, rf 0 0 1 x3), (6, I x2), (8, I x11), (29, B false), (30, A a1), (31, I x11)] [sl 0 x3] ?_
 obtain ⟨v16, hv17, h⟩ := bindS h
 refine opsP_idx τ_ok 32 hv17 (by kernel_rfl) ?_
 refine v 4 52 [(0, A a0), (1, A a1), (5, rf 0 0 1 x3), (6, I x2), (8, I x11), (29, B false), (30, A a1), (31, I x11), (32, pf v16 0), (33, pf v16 0), (34, I v16.fKind), (35, B (v16.fKind == 2)), (36, B (v16.fKind == 2))] [sl 0 x3] ?_
 rcases fk (v16.fKind == 2) with hc20 | hc20
 replace h := bT hc20 h
 rw [hc20]
 refine v 2 52 [(0, A a0), (1, A a1), (5, rf 0 0 1 x3), (6, I x2), (8, I x11), (29, B false), (30, A a1), (31, I x11), (32, pf v16 0), (33, pf v16 0), (34, I v16.fKind), (35, B true), (36, B true), (37, A a1), (38, I x11)] [sl 0 x3] ?_
 obtain ⟨v18, hv19, h⟩ := bindS h
 refine opsP_idx τ_ok 39 hv19 (by kernel_rfl) ?_
 refine ve 7 52 [(0, A a0), (1, A a1), (5, rf 0 0 1 x3), (6, I x2), (7, B (v18.fN == x2)), (8, I x11), (30, A a1), (31, I x11), (32, pf v16 0), (33, pf v16 0), (34, I v16.fKind), (35, B true), (36, B true), (37, A a1), (38, I x11), (39, pf v18 0), (40, pf v18 1), (41, I v18.fN), (42, I x2), (43, B (v18.fN == x2)), (44, B (v18.fN == x2))] [sl 0 x3] ?_
 exact ⟨(v18.fN == x2), h, it [0, 1, 5, 6, 7, 8]⟩
 replace h := bF hc20 h
 rw [hc20]
 refine ve 10 52 [(0, A a0), (1, A a1), (5, rf 0 0 1 x3), (6, I x2), (7, B false), (8, I x11), (30, A a1), (31, I x11), (32, pf v16 0), (33, pf v16 0), (34, I v16.fKind), (35, B false), (36, B false), (37, .lit undef), (38, .lit undef), (39, .lit undef), (40, .lit undef), (41, .lit undef), (42, .lit undef), (43, .lit undef), (44, B false)] [sl 0 x3] ?_
 exact ⟨false, h, it [0, 1, 5, 6, 7, 8]⟩
 rintro x15 h
 unfold spec_ExprColumns_j4 at h
 refine rve 52 [(0, A a0), (1, A a1), (5, rf 0 0 1 x3), (6, I x2), (7, B x15), (8, I (w64 (x11 + 1)))] [sl 0 x3] ?_
 exact ⟨(f12, x15, (w64 (x11 + 1))), h, Nat.lt_succ_self _, it [0, 1, 5, 6, 7, 8]⟩
 refine pwp_exit ?_
 refine srve 52 [(0, A a0), (1, A a1), (5, rf 0 0 1 x3), (6, I x2), (46, B x10)] [sl 0 x3] ?_
 refine pc h (fun h => ?_) (fun h => ?_)
 refine rv 3 52 [(0, A a0), (1, A a1), (6, I x2), (47, rf 0 0 1 x3), (49, .arr 1 ([x2] : List Int).length (eL ([x2] : List Int)) true)] [sl 0 x3] ?_
 obtain ⟨v23, hv24, h⟩ := bindS h
 refine opsP_app τ_ok 50 0 0 (nx hX) hv24 (by kernel_rfl) ?_
 refine ve 1 52 [(0, A a0), (1, A a1), (5, rf 0 1 1 v23), (6, I x2)] [sl 1 v23] ?_
 exact ⟨v23, h, (it (st' := ⟨52, [(0, A a0), (1, A a1), (5, rf 0 1 1 v23), (6, I x2)], [sl 1 v23]⟩) [0, 1, 5, 6]).trans (Imp.reverS 0 1 (eL v23) [0, 1, 5, 6] (by kernel_rfl) (by exact (And.intro (eL_frz _) trivial)) (by kernel_rfl))⟩
 refine pwp_skip ?_
 exact ⟨x3, h, it [0, 1, 5, 6]⟩
 rintro x8 h
 unfold spec_ExprColumns_j2 at h
 refine rve 52 [(0, A a0), (1, A a1), (5, rf 0 0 1 x8), (6, I (w64 (x2 + 1)))] [sl 0 x8] ?_
 exact ⟨(f4, (w64 (x2 + 1)), x8), h, Nat.lt_succ_self _, it [0, 1, 5, 6]⟩
 refine pwp_exit ?_
 refine srve 52 [(4, rf 0 0 1 x3)] [sl 0 x3] ?_
 have h := si h
 subst h
 exact pwp_ret (rt (rf 0 0 1 x3) (OutP.list (v := 0) (by kernel_rfl)))
def impl_ExprKind_j2 (a0 : List T_impl_Column) (x4 : Int) (x5 : List Int) (K7 : Int → (List Int) → Option Int) (v9 : T_impl_Part) (v11 : Int) (x13 : Bool) : Option Int := bif x13 then some (-1) else (slI x5 (some (w64 ((x5.length : Int) - v11))) none none).bind fun v15 => (impl_Part_kind v9 a0 v15).bind fun v17 => bif (!v17.2) then some (-1) else (slI x5 none (some (w64 ((x5.length : Int) - v11))) none).bind fun v20 => (appT x5 ([v17.1] : List Int) v20.length).bind fun v22 => K7 (w64 (x4 + 1)) v22
def impl_ExprKind_l1 (a0 : List T_impl_Column) (a1 : List T_impl_Part) : Nat → Int → (List Int) → Option Int
 | 0, _, _ => none
 | f6 + 1, x4, x5 => bif (decide (x4 < (a1.length : Int))) then (getI a1 x4).bind fun v9 => (impl_Part_takes v9).bind fun v11 => (impl_Part_tells v9 a0).bind fun v24 => bif (!v24) then impl_ExprKind_j2 a0 x4 x5 (impl_ExprKind_l1 a0 a1 f6) v9 v11 true else impl_ExprKind_j2 a0 x4 x5 (impl_ExprKind_l1 a0 a1 f6) v9 v11 (decide ((x5.length : Int) < v11)) else bif (!((x5.length : Int) == 1)) then some (-1) else (getI x5 (0 : Int)).bind fun v28 => some v28
def impl_ExprKind_j0 (a0 : List T_impl_Column) (a1 : List T_impl_Part) (x1 : Bool) : Option Int := bif x1 then some (-1) else impl_ExprKind_l1 a0 a1 FUEL 0 ([] : List Int)
def impl_ExprKind (a0 : List T_impl_Column) (a1 : List T_impl_Part) : Option Int := (impl_ColumnsOk a0).bind fun v30 => bif (!v30) then impl_ExprKind_j0 a0 a1 true else impl_ExprKind_j0 a0 a1 (decide ((a1.length : Int) > 12))
theorem ok_impl_ExprKind {a0 : List T_impl_Column} {a1 : List T_impl_Part} {y : Int} (h : impl_ExprKind a0 a1 = some y) : OK Try.prog 25 [A a0, A a1] (I y) := by
 refine ow Try.func25 fun Γ hX => ?_
 unfold impl_ExprKind at h
 refine srveM [7] 67 [(0, A a0), (1, A a1)] [] ?_
 refine pwp_seq ?_
 refine pwp_seq ?_
 refine pwp_join (σ := Bool) (fun x1 => (⟨67, [(0, A a0), (1, A a1), (18, B x1)], []⟩ : St)) (fun x1 => impl_ExprKind_j0 a0 a1 x1 = some y) ?_ ?_
 refine rvM [7] 1 67 [(0, A a0), (1, A a1), (11, A a0)] [] ?_
 obtain ⟨v30, hv31, h⟩ := bindS h
 refine cF 12 (ok_impl_ColumnsOk hv31) ?_
 refine vM [7] 2 67 [(0, A a0), (1, A a1), (14, B (!v30))] [] ?_
 rcases fk (!v30) with hc32 | hc32
 replace h := bT hc32 h
 rw [hc32]
 refine veM [7] 4 67 [(0, A a0), (1, A a1), (18, B true)] [] ?_
 exact ⟨true, h, it [0, 1, 18]⟩
 replace h := bF hc32 h
 rw [hc32]
 refine veM [7] 4 67 [(0, A a0), (1, A a1), (18, B (decide ((a1.length : Int) > 12)))] [] ?_
 exact ⟨(decide ((a1.length : Int) > 12)), h, it [0, 1, 18]⟩
 rintro x1 h
 unfold impl_ExprKind_j0 at h
 refine pc h (fun h => ?_) (fun h => ?_)
 refine srveM [7] 67 [(4, I (-1))] [] ?_
 cases h
 exact pwp_ret rz
 refine pwp_skip ?_
 refine srveM [7] 67 [(0, A a0), (1, A a1), (5, .arr 1 0 (eL ([] : List Int)) true)] [] ?_
 refine pwp_seq ?_
 refine srveM [7] 67 [(0, A a0), (5, .arr 1 0 (eL ([] : List Int)) true), (19, A a1), (20, I (a1.length : Int)), (21, I 0)] [] ?_
 refine pwp_block ?_
 refine pwp_loop (ι := Nat × Int × (List Int)) (fun (f6, x4, x5) => (⟨67, [(0, A a0), (5, rf 0 0 1 x5), (19, A a1), (20, I (a1.length : Int)), (21, I x4)], [sl 0 x5]⟩ : St)) (fun (f6, x4, x5) => impl_ExprKind_l1 a0 a1 f6 x4 x5 = some y) Prod.fst (FUEL, 0, ([] : List Int)) h (Imp.thawS 5 [0, 5, 19, 20, 21] (by kernel_rfl)) ?_
 rintro ⟨f6, x4, x5⟩ h
 dsimp only at h ⊢
 rcases f6 with _ | f6
 cases h
 rw [impl_ExprKind_l1] at h
 refine srveM [7] 67 [(0, A a0), (5, rf 0 0 1 x5), (19, A a1), (20, I (a1.length : Int)), (21, I x4), (22, B (decide (x4 < (a1.length : Int))))] [sl 0 x5] ?_
 refine pwp_seq ?_
 refine pc h (fun h => ?_) (fun h => ?_)
 refine pwp_skip ?_
 refine pwp_seq ?_
 refine pwp_block ?_
 refine pwp_seq ?_
 refine pwp_region ?_
 obtain ⟨v9, hv10, h⟩ := bindS h
 refine opsP_idx τ_ok 23 hv10 (by kernel_rfl) ?_
 refine veM [7] 3 67 [(0, A a0), (5, rf 0 0 1 x5), (7, .ptr 1 0 0), (19, A a1), (20, I (a1.length : Int)), (21, I x4)] [sl 0 x5, sc 0 v9] ?_
 refine srvM [7] 1 67 [(0, A a0), (5, rf 0 0 1 x5), (7, .ptr 1 0 0), (19, A a1), (20, I (a1.length : Int)), (21, I x4), (25, E v9)] [sl 0 x5, sc 0 v9] ?_
 obtain ⟨v11, hv12, h⟩ := bindS h
 refine cF 26 (ok_impl_Part_takes hv12) ?_
 refine veM [7] 1 67 [(0, A a0), (5, rf 0 0 1 x5), (7, .ptr 1 0 0), (8, I v11), (19, A a1), (20, I (a1.length : Int)), (21, I x4)] [sl 0 x5, sc 0 v9] ?_
 refine pwp_seq ?_
 refine pwp_seq ?_
 refine pwp_join (σ := Bool) (fun x13 => (⟨67, [(0, A a0), (5, rf 0 0 1 x5), (7, .ptr 1 0 0), (8, I v11), (19, A a1), (20, I (a1.length : Int)), (21, I x4), (36, B x13)], [sl 0 x5, sc 0 v9]⟩ : St)) (fun x13 => impl_ExprKind_j2 a0 x4 x5 (impl_ExprKind_l1 a0 a1 f6) v9 v11 x13 = some y) ?_ ?_
 refine rvM [7] 2 67 [(0, A a0), (5, rf 0 0 1 x5), (7, .ptr 1 0 0), (8, I v11), (19, A a1), (20, I (a1.length : Int)), (21, I x4), (27, E v9), (28, A a0)] [sl 0 x5, sc 0 v9] ?_
 obtain ⟨v24, hv25, h⟩ := bindS h
 refine cF 29 (ok_impl_Part_tells hv25) ?_
 refine vM [7] 2 67 [(0, A a0), (5, rf 0 0 1 x5), (7, .ptr 1 0 0), (8, I v11), (19, A a1), (20, I (a1.length : Int)), (21, I x4), (31, B (!v24))] [sl 0 x5, sc 0 v9] ?_
 rcases fk (!v24) with hc26 | hc26
 replace h := bT hc26 h
 rw [hc26]
 refine veM [7] 5 67 [(0, A a0), (5, rf 0 0 1 x5), (7, .ptr 1 0 0), (8, I v11), (19, A a1), (20, I (a1.length : Int)), (21, I x4), (32, .lit undef), (33, .lit undef), (34, .lit undef), (35, .lit undef), (36, B true)] [sl 0 x5, sc 0 v9] ?_
 exact ⟨true, h, it [0, 5, 7, 8, 19, 20, 21, 36]⟩
 replace h := bF hc26 h
 rw [hc26]
 refine veM [7] 5 67 [(0, A a0), (5, rf 0 0 1 x5), (7, .ptr 1 0 0), (8, I v11), (19, A a1), (20, I (a1.length : Int)), (21, I x4), (32, rf 0 0 1 x5), (33, I (x5.length : Int)), (34, I v11), (35, B (decide ((x5.length : Int) < v11))), (36, B (decide ((x5.length : Int) < v11)))] [sl 0 x5, sc 0 v9] ?_
 exact ⟨(decide ((x5.length : Int) < v11)), h, it [0, 5, 7, 8, 19, 20, 21, 36]⟩
 rintro x13 h
 unfold impl_ExprKind_j2 at h
 refine pc h (fun h => ?_) (fun h => ?_)
 refine srveM [7] 67 [(4, I (-1))] [sl 0 x5, sc 0 v9] ?_
 cases h
 exact pwp_ret rz
 refine pwp_skip ?_
 refine pwp_seq ?_
 refine ip 67 [(0, A a0), (5, rf 0 0 1 x5), (7, .ptr 1 0 0), (8, I v11), (19, A a1), (20, I (a1.length : Int)), (21, I x4)] [sl 0 x5, sc 0 v9] ?_
 refine pwp_any ([[1], [], [0], [0], [0], [], [], [0], [0], [], [], [], [], []]) ([[], [], [], [], [], [], [], [], [], [], [], [], [], []]) rfl (by kernel_rfl) ?_
 refine qvM [7] [1] (hB trivial) 1 67 [(38, E v9), (0, A a0), (5, rf 0 0 1 x5), (8, I v11), (19, A a1), (20, I (a1.length : Int)), (21, I x4)] [sl 0 x5, sc 0 v9] ?_
 refine qvM [7] [] trivial 1 67 [(39, A a0), (38, E v9), (0, A a0), (5, rf 0 0 1 x5), (8, I v11), (19, A a1), (20, I (a1.length : Int)), (21, I x4)] [sl 0 x5, sc 0 v9] ?_
 refine qvM [7] [0] (hL trivial) 3 67 [(42, I (x5.length : Int)), (40, rf 0 0 1 x5), (39, A a0), (38, E v9), (0, A a0), (5, rf 0 0 1 x5), (8, I v11), (19, A a1), (20, I (a1.length : Int)), (21, I x4)] [sl 0 x5, sc 0 v9] ?_
 refine qvM [7] [] trivial 2 67 [(44, I (w64 ((x5.length : Int) - v11))), (40, rf 0 0 1 x5), (39, A a0), (38, E v9), (0, A a0), (5, rf 0 0 1 x5), (8, I v11), (19, A a1), (20, I (a1.length : Int)), (21, I x4)] [sl 0 x5, sc 0 v9] ?_
 obtain ⟨v15, hv16, h⟩ := bindS h
 refine qX (some 45) (.ref 0 0 ((w64 ((x5.length : Int) - v11)).toNat * 1) 1 v15.length false) 67 [(45, .ref 0 0 ((w64 ((x5.length : Int) - v11)).toNat * 1) 1 v15.length false), (39, A a0), (38, E v9), (0, A a0), (5, rf 0 0 1 x5), (8, I v11), (19, A a1), (20, I (a1.length : Int)), (21, I x4)] [sl 0 x5, sc 0 v9] (fun Γ' hΓ => CoreE.of_y (slrV_sound (n := x5.length) τ_ok (by kernel_rfl) rfl hv16)) (hL trivial) ?_
 obtain ⟨v17, hv18, h⟩ := bindS h
 refine qX (some 46) (.tup [I v17.1, B v17.2]) 67 [(46, .tup [I v17.1, B v17.2]), (0, A a0), (5, rf 0 0 1 x5), (8, I v11), (19, A a1), (20, I (a1.length : Int)), (21, I x4)] [sl 0 x5, sc 0 v9] (fun Γ' hΓ => CoreE.of_g (callVV_sound (xs := [E v9, A a0, .ref 0 0 ((w64 ((x5.length : Int) - v11)).toNat * 1) 1 v15.length false]) (τ := τ) (by kernel_rfl) (ViewL.cons (View.frz rfl) (ViewL.cons (View.frz rfl) (ViewL.cons (View.ref (v := 0) (lo := (w64 ((x5.length : Int) - v11)).toNat) x5 v15 (by kernel_rfl) (slI_view hv16) rfl) (ViewL.nil _)))) (ok_impl_Part_kind hv18) (Blind.tup (BlindL.cons (Blind.lit _) (BlindL.cons (Blind.lit _) BlindL.nil))) (FzTo.tup (FzToL.cons (FzTo.frz rfl) (FzToL.cons (FzTo.frz rfl) FzToL.nil))))) (hL trivial) ?_
 refine qvnM [7] [] trivial 5 67 [(0, A a0), (5, rf 0 0 1 x5), (8, I v11), (9, I v17.1), (10, B v17.2), (19, A a1), (20, I (a1.length : Int)), (21, I x4)] [sl 0 x5, sc 0 v9] ?_
 refine pwp_seq ?_
 refine srveM [7] 67 [(0, A a0), (5, rf 0 0 1 x5), (8, I v11), (9, I v17.1), (19, A a1), (20, I (a1.length : Int)), (21, I x4), (50, B (!v17.2))] [sl 0 x5, sc 0 v9] ?_
 refine pc h (fun h => ?_) (fun h => ?_)
 refine srveM [7] 67 [(4, I (-1))] [sl 0 x5, sc 0 v9] ?_
 cases h
 exact pwp_ret rz
 refine pwp_skip ?_
 refine rvM [7] 5 67 [(0, A a0), (9, I v17.1), (19, A a1), (20, I (a1.length : Int)), (21, I x4), (51, rf 0 0 1 x5), (55, I (w64 ((x5.length : Int) - v11)))] [sl 0 x5, sc 0 v9] ?_
 obtain ⟨v20, hv21, h⟩ := bindS h
 refine opsP_slr τ_ok 56 0 0 x5.length hv21 rfl (by kernel_rfl) ?_
 refine vM [7] 2 67 [(0, A a0), (19, A a1), (20, I (a1.length : Int)), (21, I x4), (56, rf 0 0 1 v20), (58, .arr 1 ([v17.1] : List Int).length (eL ([v17.1] : List Int)) true)] [sl 0 x5, sc 0 v9] ?_
 obtain ⟨v22, hv23, h⟩ := bindS h
 refine opsP_apt τ_ok 59 0 0 v20.length (nx hX) hv23 (slI_le hv21) (by kernel_rfl) ?_
 refine veM [7] 1 67 [(0, A a0), (5, rf 0 1 1 v22), (19, A a1), (20, I (a1.length : Int)), (21, I x4)] [sl 1 v22, sc 0 v9] ?_
 refine rveM [7] 67 [(0, A a0), (5, rf 0 1 1 v22), (19, A a1), (20, I (a1.length : Int)), (21, I (w64 (x4 + 1)))] [sl 1 v22, sc 0 v9] ?_
 exact ⟨(f6, (w64 (x4 + 1)), v22), h, Nat.lt_succ_self _, qt (it (st' := ⟨67, [(0, A a0), (5, rf 0 1 1 v22), (19, A a1), (20, I (a1.length : Int)), (21, I (w64 (x4 + 1)))], [sl 1 v22, sc 0 v9]⟩) [0, 5, 19, 20, 21]) (qt (Imp.truncS (st' := ⟨67, [(0, A a0), (5, rf 0 1 1 v22), (19, A a1), (20, I (a1.length : Int)), (21, I (w64 (x4 + 1)))], [sl 1 v22]⟩) 1 (nx hX) (by kernel_rfl) (allBelow_mem (by exact (And.intro rfl (And.intro rfl (And.intro rfl (And.intro rfl (And.intro rfl trivial))))))) (by exact (And.intro (frz_below (eL_frz _)) trivial)) (by kernel_rfl)) (Imp.reverS 0 1 (eL v22) [0, 5, 19, 20, 21] (by kernel_rfl) (by exact (And.intro (eL_frz _) trivial)) (by kernel_rfl)))⟩
 refine pwp_exit ?_
 refine pwp_seq ?_
 refine srveM [7] 67 [(5, rf 0 0 1 x5), (63, B (!((x5.length : Int) == 1)))] [sl 0 x5] ?_
 refine pc h (fun h => ?_) (fun h => ?_)
 refine srveM [7] 67 [(4, I (-1))] [sl 0 x5] ?_
 cases h
 exact pwp_ret rz
 refine pwp_skip ?_
 refine srvM [7] 1 67 [(64, rf 0 0 1 x5)] [sl 0 x5] ?_
 obtain ⟨v28, hv29, h⟩ := bindS h
 refine opsP_idr τ_ok 65 0 0 x5.length hv29 rfl (by kernel_rfl) ?_
 refine opsP_lde (r := I v28) τ_ok 66 3 0 hv29 (by kernel_rfl) (by kernel_rfl) ?_
 refine veM [7] 1 67 [(4, I v28)] [sl 0 x5] ?_
 cases h
 exact pwp_ret rz
def slices_Clip_int_int_R (a0 : List Int) : Option (List Int) := (slI a0 none (some (a0.length : Int)) (some (a0.length : Int))).bind fun v1 => some v1
theorem ok_slices_Clip_int_int_R {a0 : List Int} {y : List Int} (h : slices_Clip_int_int_R a0 = some y) : OKm Try.prog 68 [O a0] (O y) := by
 refine OKm_of_pwp (sl := [rf 0 0 1 a0]) (bs := [⟨0, eL a0⟩]) τ_ok Try.func68 rfl (by kernel_rfl) rfl (by kernel_rfl) fun Γ hX => ?_
 refine pwp_imp (Imp.to (st' := ⟨9, [(0, rf 0 0 1 a0)], [sl 0 a0]⟩) [0] (by kernel_rfl)) ?_
 unfold slices_Clip_int_int_R at h
 refine srve 9 [(0, rf 0 0 1 a0)] [sl 0 a0] ?_
 refine srv 5 9 [(3, rf 0 0 1 a0), (5, I (a0.length : Int)), (7, I (a0.length : Int))] [sl 0 a0] ?_
 obtain ⟨v1, hv2, h⟩ := bindS h
 refine opsP_slr τ_ok 8 0 0 a0.length hv2 rfl (by kernel_rfl) ?_
 refine ve 1 9 [(2, rf 0 0 1 v1)] [sl 0 a0] ?_
 refine ip 9 [(2, rf 0 0 1 v1)] [sl 0 a0] ?_
 refine pwp_imp (Imp.cut (st' := ⟨9, [(2, rf 0 0 1 v1)], [sl 0 v1]⟩) 0 0 a0 v1 (by kernel_rfl) (slI_view hv2) (by kernel_rfl)) ?_
 have h := si h
 subst h
 exact pwp_ret (rt (rf 0 0 1 v1) (OutP.list (v := 0) (by kernel_rfl)))
def impl_clone_int_R (a0 : List Int) : Option (List Int) := bif ((a0.length : Int) == 0) then some ([] : List Int) else (app [] a0).bind fun v2 => (slices_Clip_int_int_R v2).bind fun v4 => some v4
theorem ok_impl_clone_int_R {a0 : List Int} {y : List Int} (h : impl_clone_int_R a0 = some y) : OK Try.prog 45 [A a0] (O y) := by
 refine ow Try.func45 fun Γ hX => ?_
 unfold impl_clone_int_R at h
 refine srve 9 [(0, A a0)] [] ?_
 refine pwp_seq ?_
 refine srve 9 [(0, A a0), (5, B ((a0.length : Int) == 0))] [] ?_
 refine pc h (fun h => ?_) (fun h => ?_)
 refine srve 9 [(2, .arr 1 0 (eL ([] : List Int)) true)] [] ?_
 refine ip 9 [(2, .arr 1 0 (eL ([] : List Int)) true)] [] ?_
 refine pwp_imp (Imp.thawS (st' := ⟨9, [(2, .ref 0 0 0 1 ([] : List Int).length false)], [some ⟨0, eL ([] : List Int)⟩]⟩) 2 [2] (by kernel_rfl)) ?_
 have h := si h
 subst h
 exact pwp_ret (rt (.ref 0 0 0 1 ([] : List Int).length false) (OutP.list (v := 0) (by kernel_rfl)))
 refine pwp_skip ?_
 refine srv 1 9 [(6, A a0)] [] ?_
 obtain ⟨v2, hv3, h⟩ := bindS h
 refine opsP_apn τ_ok 7 0 (nx hX) hv3 (by kernel_rfl) ?_
 obtain ⟨v4, hv5, h⟩ := bindS h
 refine opsP_callM (xs := [rf 0 1 1 v2]) (x := rf 1 0 1 v4) (bs := [⟨0, eL v4⟩]) τ 8 [0] (nx hX) (ok_slices_Clip_int_int_R hv5) (by kernel_rfl) (OutL.cons (OutP.list (v := 1) (by kernel_rfl)) (OutL.nil _)) (by decide) (by kernel_rfl) ?_
 refine ve 1 9 [(2, rf 1 0 1 v4)] [none, sl 0 v4] ?_
 have h := si h
 subst h
 exact pwp_ret (rt (rf 1 0 1 v4) (OutP.list (v := 0) (by kernel_rfl)))
def impl_exprColumns_R_l0 (a0 : List T_impl_Part) : Nat → Int → (List Int) → Option (List Int)
 | 0, _, _ => none
 | f4 + 1, x2, x3 => bif (decide (x2 < (a0.length : Int))) then (getI a0 x2).bind fun v7 => bif (v7.fKind == 2) then (app x3 ([v7.fN] : List Int)).bind fun v10 => (impl_exprColumns_R_l0 a0 f4) (w64 (x2 + 1)) v10 else (impl_exprColumns_R_l0 a0 f4) (w64 (x2 + 1)) x3 else (sortI x3).bind fun v12 => (compactI v12).bind fun v14 => (impl_clone_int_R v14).bind fun v16 => some v16
def impl_exprColumns_R (a0 : List T_impl_Part) : Option (List Int) := impl_exprColumns_R_l0 a0 FUEL 0 ([] : List Int)
theorem ok_impl_exprColumns_R {a0 : List T_impl_Part} {y : List Int} (h : impl_exprColumns_R a0 = some y) : OK Try.prog 26 [A a0] (O y) := by
 refine ow Try.func26 fun Γ hX => ?_
 unfold impl_exprColumns_R at h
 refine srveM [5] 26 [(0, A a0)] [] ?_
 refine srveM [5] 26 [(0, A a0), (3, .arr 1 0 (eL ([] : List Int)) true)] [] ?_
 refine pwp_seq ?_
 refine srveM [5] 26 [(3, .arr 1 0 (eL ([] : List Int)) true), (6, A a0), (7, I (a0.length : Int)), (8, I 0)] [] ?_
 refine pwp_block ?_
 refine pwp_loop (ι := Nat × Int × (List Int)) (fun (f4, x2, x3) => (⟨26, [(3, rf 0 0 1 x3), (6, A a0), (7, I (a0.length : Int)), (8, I x2)], [sl 0 x3]⟩ : St)) (fun (f4, x2, x3) => impl_exprColumns_R_l0 a0 f4 x2 x3 = some y) Prod.fst (FUEL, 0, ([] : List Int)) h (Imp.thawS 3 [3, 6, 7, 8] (by kernel_rfl)) ?_
 rintro ⟨f4, x2, x3⟩ h
 dsimp only at h ⊢
 rcases f4 with _ | f4
 cases h
 rw [impl_exprColumns_R_l0] at h
 refine srveM [5] 26 [(3, rf 0 0 1 x3), (6, A a0), (7, I (a0.length : Int)), (8, I x2), (9, B (decide (x2 < (a0.length : Int))))] [sl 0 x3] ?_
 refine pwp_seq ?_
 refine pc h (fun h => ?_) (fun h => ?_)
 refine pwp_skip ?_
 refine pwp_seq ?_
 refine pwp_block ?_
 refine pwp_seq ?_
 refine pwp_region ?_
 obtain ⟨v7, hv8, h⟩ := bindS h
 refine opsP_idx τ_ok 10 hv8 (by kernel_rfl) ?_
 refine veM [5] 3 26 [(3, rf 0 0 1 x3), (5, .ptr 1 0 0), (6, A a0), (7, I (a0.length : Int)), (8, I x2)] [sl 0 x3, sc 0 v7] ?_
 refine srveM [5] 26 [(3, rf 0 0 1 x3), (5, .ptr 1 0 0), (6, A a0), (7, I (a0.length : Int)), (8, I x2), (14, B (v7.fKind == 2))] [sl 0 x3, sc 0 v7] ?_
 refine pc h (fun h => ?_) (fun h => ?_)
 refine rvM [5] 4 26 [(6, A a0), (7, I (a0.length : Int)), (8, I x2), (15, rf 0 0 1 x3), (18, .arr 1 ([v7.fN] : List Int).length (eL ([v7.fN] : List Int)) true)] [sl 0 x3, sc 0 v7] ?_
 obtain ⟨v10, hv11, h⟩ := bindS h
 refine opsP_app τ_ok 19 0 0 (nx hX) hv11 (by kernel_rfl) ?_
 refine veM [5] 1 26 [(3, rf 0 1 1 v10), (6, A a0), (7, I (a0.length : Int)), (8, I x2)] [sl 1 v10, sc 0 v7] ?_
 refine rveM [5] 26 [(3, rf 0 1 1 v10), (6, A a0), (7, I (a0.length : Int)), (8, I (w64 (x2 + 1)))] [sl 1 v10, sc 0 v7] ?_
 exact ⟨(f4, (w64 (x2 + 1)), v10), h, Nat.lt_succ_self _, qt (it (st' := ⟨26, [(3, rf 0 1 1 v10), (6, A a0), (7, I (a0.length : Int)), (8, I (w64 (x2 + 1)))], [sl 1 v10, sc 0 v7]⟩) [3, 6, 7, 8]) (qt (Imp.truncS (st' := ⟨26, [(3, rf 0 1 1 v10), (6, A a0), (7, I (a0.length : Int)), (8, I (w64 (x2 + 1)))], [sl 1 v10]⟩) 1 (nx hX) (by kernel_rfl) (allBelow_mem (by exact (And.intro rfl (And.intro rfl (And.intro rfl (And.intro rfl trivial)))))) (by exact (And.intro (frz_below (eL_frz _)) trivial)) (by kernel_rfl)) (Imp.reverS 0 1 (eL v10) [3, 6, 7, 8] (by kernel_rfl) (by exact (And.intro (eL_frz _) trivial)) (by kernel_rfl)))⟩
 refine pwp_skip ?_
 refine rveM [5] 26 [(3, rf 0 0 1 x3), (6, A a0), (7, I (a0.length : Int)), (8, I (w64 (x2 + 1)))] [sl 0 x3, sc 0 v7] ?_
 exact ⟨(f4, (w64 (x2 + 1)), x3), h, Nat.lt_succ_self _, (it (st' := ⟨26, [(3, rf 0 0 1 x3), (6, A a0), (7, I (a0.length : Int)), (8, I (w64 (x2 + 1)))], [sl 0 x3, sc 0 v7]⟩) [3, 6, 7, 8]).trans (Imp.truncS 1 (nx hX) (by kernel_rfl) (allBelow_mem (by exact (And.intro rfl (And.intro rfl (And.intro rfl (And.intro rfl trivial)))))) (by exact (And.intro (frz_below (eL_frz _)) trivial)) (by kernel_rfl))⟩
 refine pwp_exit ?_
 refine srvM [5] 1 26 [(3, rf 0 0 1 x3), (21, rf 0 0 1 x3)] [sl 0 x3] ?_
 obtain ⟨v12, hv13, h⟩ := bindS h
 refine opsP_E (dd := some 22) (x := .tup []) (callS_E τ 22 0 0 (ok_sortI hv13) (FzTo.tup FzToL.nil) rfl rfl (by kernel_rfl)) ?_
 refine io 26 [(3, rf 0 0 1 x3), (21, rf 0 0 1 x3), (22, .tup [])] [sl 0 v12] ?_
 refine opsP_ren (st' := ⟨26, [(3, rf 0 0 1 v12), (21, rf 0 0 1 v12), (22, .tup [])], [sl 0 v12]⟩) 0 v12.length (renC (ren_ref (len_sortI hv13).symm) (renC (ren_ref (len_sortI hv13).symm) (renC trivial renC0))) (by kernel_rfl) ?_
 refine veM [5] 0 26 [(3, rf 0 0 1 v12)] [sl 0 v12] ?_
 refine srvM [5] 1 26 [(23, rf 0 0 1 v12)] [sl 0 v12] ?_
 obtain ⟨v14, hv15, h⟩ := bindS h
 refine opsP_callM (xs := [rf 0 0 1 v12]) (x := rf 1 0 1 v14) (bs := [⟨0, eL v14⟩]) τ 24 [0] (nx hX) (ok_compactI hv15) (by kernel_rfl) (OutL.cons (OutP.list (v := 0) (by kernel_rfl)) (OutL.nil _)) (by decide) (by kernel_rfl) ?_
 obtain ⟨v16, hv17, h⟩ := bindS h
 refine opsP_E (dd := some 25) (x := rf 2 0 1 v16) (callVN_E (xs := [rf 1 0 1 v14]) τ 25 2 (nx hX) (by kernel_rfl) (ok_impl_clone_int_R hv17) (Blind.O (fun _ => rfl) _) (by kernel_rfl) (ViewL.cons (View.whole (v := 0) v14 (by kernel_rfl) rfl) (ViewL.nil _))) ?_
 refine veM [5] 1 26 [(2, rf 2 0 1 v16)] [none, sl 0 v14, sl 0 v16] ?_
 have h := si h
 subst h
 exact pwp_ret (rt (rf 2 0 1 v16) (OutP.list (v := 0) (by kernel_rfl)))
def impl_ExprColumns_R (a0 : List T_impl_Column) (a1 : List T_impl_Part) : Option (List Int) := (impl_ExprKind a0 a1).bind fun v1 => bif (decide (v1 < 0)) then some ([] : List Int) else (impl_exprColumns_R a1).bind fun v4 => some v4
theorem ok_impl_ExprColumns_R {a0 : List T_impl_Column} {a1 : List T_impl_Part} {y : List Int} (h : impl_ExprColumns_R a0 a1 = some y) : OK Try.prog 6 [A a0, A a1] (O y) := by
 refine ow Try.func6 fun Γ hX => ?_
 unfold impl_ExprColumns_R at h
 refine srve 11 [(0, A a0), (1, A a1)] [] ?_
 refine pwp_seq ?_
 refine srv 2 11 [(1, A a1), (5, A a0), (6, A a1)] [] ?_
 obtain ⟨v1, hv2, h⟩ := bindS h
 refine cF 7 (ok_impl_ExprKind hv2) ?_
 refine ve 1 11 [(1, A a1), (8, B (decide (v1 < 0)))] [] ?_
 refine pc h (fun h => ?_) (fun h => ?_)
 refine srve 11 [(4, .arr 1 0 (eL ([] : List Int)) true)] [] ?_
 refine ip 11 [(4, .arr 1 0 (eL ([] : List Int)) true)] [] ?_
 refine pwp_imp (Imp.thawS (st' := ⟨11, [(4, .ref 0 0 0 1 ([] : List Int).length false)], [some ⟨0, eL ([] : List Int)⟩]⟩) 4 [4] (by kernel_rfl)) ?_
 have h := si h
 subst h
 exact pwp_ret (rt (.ref 0 0 0 1 ([] : List Int).length false) (OutP.list (v := 0) (by kernel_rfl)))
 refine pwp_skip ?_
 refine srv 1 11 [(9, A a1)] [] ?_
 obtain ⟨v4, hv5, h⟩ := bindS h
 refine opsP_callO τ 10 (ok_impl_exprColumns_R hv5) rfl (by kernel_rfl) ?_
 refine ve 1 11 [(4, rf 0 0 1 v4)] [sl 0 v4] ?_
 have h := si h
 subst h
 exact pwp_ret (rt (rf 0 0 1 v4) (OutP.list (v := 0) (by kernel_rfl)))
def laws_FnExactExprColumns_j0 (a0 : List T_laws_Column) (a1 : List T_laws_Part) (v11 : List Int) (v17 : List Int) (x36 : Bool) : Option Bool := bif x36 then some false else (laws_markIntS v17 1).bind fun v38 => (laws_heldIntS v38.2 1).bind fun v40 => bif (decide (v40 < 0)) then some false else bif (!(v40 == v38.1)) then some false else (laws_toColumnS a0).bind fun v44 => (laws_toPartS a1).bind fun v46 => (impl_ExprColumns_R v44 v46).bind fun v48 => (laws_eqIntS v48 v11).bind fun v50 => bif (!v50) then some false else (laws_heldIntS v38.2 1).bind fun v53 => bif (decide (v53 < 0)) then some false else bif (!(v53 == v38.1)) then some false else some true
def laws_FnExactExprColumns (a0 : List T_laws_Column) (a1 : List T_laws_Part) : Option Bool := (laws_szColumnS a0 1048576).bind fun v1 => bif (decide (v1 < 0)) then some true else (laws_szPartS a1 v1).bind fun v4 => bif (decide (v4 < 0)) then some true else (laws_toColumnS a0).bind fun v7 => (laws_toPartS a1).bind fun v9 => (spec_ExprColumns v7 v9).bind fun v11 => (laws_toColumnS a0).bind fun v13 => (laws_toPartS a1).bind fun v15 => (impl_ExprColumns_R v13 v15).bind fun v17 => (laws_eqIntS v17 v11).bind fun v19 => bif (!v19) then some false else (laws_toColumnS a0).bind fun v22 => (laws_eqColumnS v13 v22).bind fun v24 => bif (!v24) then some false else (laws_toPartS a1).bind fun v27 => (laws_eqPartS v15 v27).bind fun v29 => bif (!v29) then some false else (laws_markColumnS v13 1).bind fun v32 => (laws_markPartS v15 v32.1).bind fun v34 => bif (decide (v34.1 < 0)) then laws_FnExactExprColumns_j0 a0 a1 v11 v17 true else (laws_eqIntS v17 v11).bind fun v57 => laws_FnExactExprColumns_j0 a0 a1 v11 v17 (!v57)
theorem ok_laws_FnExactExprColumns {a0 : List T_laws_Column} {a1 : List T_laws_Part} {y : Bool} (h : laws_FnExactExprColumns a0 a1 = some y) : OK Try.prog 4 [A a0, A a1] (B y) := by
 refine ow Try.func4 fun Γ hX => ?_
 unfold laws_FnExactExprColumns at h
 refine srve 92 [(0, A a0), (1, A a1)] [] ?_
 refine srve 92 [(0, A a0), (1, A a1), (5, I 1048576)] [] ?_
 refine srv 2 92 [(0, A a0), (1, A a1), (14, A a0), (15, I 1048576)] [] ?_
 obtain ⟨v1, hv2, h⟩ := bindS h
 refine cF 16 (ok_laws_szColumnS hv2) ?_
 refine ve 1 92 [(0, A a0), (1, A a1), (5, I v1)] [] ?_
 refine pwp_seq ?_
 refine srve 92 [(0, A a0), (1, A a1), (5, I v1), (18, B (decide (v1 < 0)))] [] ?_
 refine pc h (fun h => ?_) (fun h => ?_)
 refine srve 92 [(4, B true)] [] ?_
 cases h
 exact pwp_ret rz
 refine pwp_skip ?_
 refine srv 2 92 [(0, A a0), (1, A a1), (19, A a1), (20, I v1)] [] ?_
 obtain ⟨v4, hv5, h⟩ := bindS h
 refine cF 21 (ok_laws_szPartS hv5) ?_
 refine ve 1 92 [(0, A a0), (1, A a1), (5, I v4)] [] ?_
 refine pwp_seq ?_
 refine srve 92 [(0, A a0), (1, A a1), (23, B (decide (v4 < 0)))] [] ?_
 refine pc h (fun h => ?_) (fun h => ?_)
 refine srve 92 [(4, B true)] [] ?_
 cases h
 exact pwp_ret rz
 refine pwp_skip ?_
 refine srv 1 92 [(0, A a0), (1, A a1), (24, A a0)] [] ?_
 obtain ⟨v7, hv8, h⟩ := bindS h
 refine cFo 25 (ok_laws_toColumnS hv8) ?_
 refine v 1 92 [(0, A a0), (1, A a1), (25, A v7), (26, A a1)] [] ?_
 obtain ⟨v9, hv10, h⟩ := bindS h
 refine cFo 27 (ok_laws_toPartS hv10) ?_
 obtain ⟨v11, hv12, h⟩ := bindS h
 refine cFo 28 (ok_spec_ExprColumns hv12) ?_
 refine ve 1 92 [(0, A a0), (1, A a1), (6, A v11)] [] ?_
 refine srv 1 92 [(0, A a0), (1, A a1), (6, A v11), (29, A a0)] [] ?_
 obtain ⟨v13, hv14, h⟩ := bindS h
 refine opsP_callO τ 30 (ok_laws_toColumnS hv14) rfl (by kernel_rfl) ?_
 refine ve 1 92 [(0, A a0), (1, A a1), (6, A v11), (7, rf 0 0 2 v13)] [sl 0 v13] ?_
 refine srv 1 92 [(0, A a0), (1, A a1), (6, A v11), (7, rf 0 0 2 v13), (31, A a1)] [sl 0 v13] ?_
 obtain ⟨v15, hv16, h⟩ := bindS h
 refine opsP_callO τ 32 (ok_laws_toPartS hv16) rfl (by kernel_rfl) ?_
 refine ve 1 92 [(0, A a0), (1, A a1), (6, A v11), (7, rf 0 0 2 v13), (8, rf 1 0 5 v15)] [sl 0 v13, sl 0 v15] ?_
 refine srv 2 92 [(0, A a0), (1, A a1), (6, A v11), (7, rf 0 0 2 v13), (8, rf 1 0 5 v15), (33, rf 0 0 2 v13), (34, rf 1 0 5 v15)] [sl 0 v13, sl 0 v15] ?_
 obtain ⟨v17, hv18, h⟩ := bindS h
 refine opsP_E (dd := some 35) (x := rf 2 0 1 v17) (callVN_E (xs := [rf 0 0 2 v13, rf 1 0 5 v15]) τ 35 2 (nx hX) (by kernel_rfl) (ok_impl_ExprColumns_R hv18) (Blind.O (fun _ => rfl) _) (by kernel_rfl) (ViewL.cons (View.whole (v := 0) v13 (by kernel_rfl) rfl) (ViewL.cons (View.whole (v := 0) v15 (by kernel_rfl) rfl) (ViewL.nil _)))) ?_
 refine ve 1 92 [(0, A a0), (1, A a1), (6, A v11), (7, rf 0 0 2 v13), (8, rf 1 0 5 v15), (9, rf 2 0 1 v17)] [sl 0 v13, sl 0 v15, sl 0 v17] ?_
 refine pwp_seq ?_
 refine srv 2 92 [(0, A a0), (1, A a1), (6, A v11), (7, rf 0 0 2 v13), (8, rf 1 0 5 v15), (9, rf 2 0 1 v17), (36, rf 2 0 1 v17), (37, A v11)] [sl 0 v13, sl 0 v15, sl 0 v17] ?_
 obtain ⟨v19, hv20, h⟩ := bindS h
 refine opsP_callV (xs := [rf 2 0 1 v17, A v11]) τ 38 (ok_laws_eqIntS hv20) (Blind.lit _) (FzTo.frz rfl) (by kernel_rfl) (ViewL.cons (View.whole (v := 0) v17 (by kernel_rfl) rfl) (ViewL.cons (View.frz rfl) (ViewL.nil _))) ?_
 refine ve 1 92 [(0, A a0), (1, A a1), (6, A v11), (7, rf 0 0 2 v13), (8, rf 1 0 5 v15), (9, rf 2 0 1 v17), (39, B (!v19))] [sl 0 v13, sl 0 v15, sl 0 v17] ?_
 refine pc h (fun h => ?_) (fun h => ?_)
 refine srve 92 [(4, B false)] [sl 0 v13, sl 0 v15, sl 0 v17] ?_
 cases h
 exact pwp_ret rz
 refine pwp_skip ?_
 refine pwp_seq ?_
 refine srv 2 92 [(0, A a0), (1, A a1), (6, A v11), (7, rf 0 0 2 v13), (8, rf 1 0 5 v15), (9, rf 2 0 1 v17), (40, rf 0 0 2 v13), (41, A a0)] [sl 0 v13, sl 0 v15, sl 0 v17] ?_
 obtain ⟨v22, hv23, h⟩ := bindS h
 refine cFo 42 (ok_laws_toColumnS hv23) ?_
 obtain ⟨v24, hv25, h⟩ := bindS h
 refine opsP_callV (xs := [rf 0 0 2 v13, A v22]) τ 43 (ok_laws_eqColumnS hv25) (Blind.lit _) (FzTo.frz rfl) (by kernel_rfl) (ViewL.cons (View.whole (v := 0) v13 (by kernel_rfl) rfl) (ViewL.cons (View.frz rfl) (ViewL.nil _))) ?_
 refine ve 1 92 [(0, A a0), (1, A a1), (6, A v11), (7, rf 0 0 2 v13), (8, rf 1 0 5 v15), (9, rf 2 0 1 v17), (44, B (!v24))] [sl 0 v13, sl 0 v15, sl 0 v17] ?_
 refine pc h (fun h => ?_) (fun h => ?_)
 refine srve 92 [(4, B false)] [sl 0 v13, sl 0 v15, sl 0 v17] ?_
 cases h
 exact pwp_ret rz
 refine pwp_skip ?_
 refine pwp_seq ?_
 refine srv 2 92 [(0, A a0), (1, A a1), (6, A v11), (7, rf 0 0 2 v13), (8, rf 1 0 5 v15), (9, rf 2 0 1 v17), (45, rf 1 0 5 v15), (46, A a1)] [sl 0 v13, sl 0 v15, sl 0 v17] ?_
 obtain ⟨v27, hv28, h⟩ := bindS h
 refine cFo 47 (ok_laws_toPartS hv28) ?_
 obtain ⟨v29, hv30, h⟩ := bindS h
 refine opsP_callV (xs := [rf 1 0 5 v15, A v27]) τ 48 (ok_laws_eqPartS hv30) (Blind.lit _) (FzTo.frz rfl) (by kernel_rfl) (ViewL.cons (View.whole (v := 0) v15 (by kernel_rfl) rfl) (ViewL.cons (View.frz rfl) (ViewL.nil _))) ?_
 refine ve 1 92 [(0, A a0), (1, A a1), (6, A v11), (7, rf 0 0 2 v13), (8, rf 1 0 5 v15), (9, rf 2 0 1 v17), (49, B (!v29))] [sl 0 v13, sl 0 v15, sl 0 v17] ?_
 refine pc h (fun h => ?_) (fun h => ?_)
 refine srve 92 [(4, B false)] [sl 0 v13, sl 0 v15, sl 0 v17] ?_
 cases h
 exact pwp_ret rz
 refine pwp_skip ?_
 refine srve 92 [(0, A a0), (1, A a1), (6, A v11), (7, rf 0 0 2 v13), (8, rf 1 0 5 v15), (9, rf 2 0 1 v17), (10, I 1)] [sl 0 v13, sl 0 v15, sl 0 v17] ?_
 refine srv 2 92 [(0, A a0), (1, A a1), (6, A v11), (8, rf 1 0 5 v15), (9, rf 2 0 1 v17), (50, rf 0 0 2 v13), (51, I 1)] [sl 0 v13, sl 0 v15, sl 0 v17] ?_
 obtain ⟨v32, hv33, h⟩ := bindS h
 refine opsP_E (dd := some 52) (x := I v32.1) (callD_E τ 52 0 0 (ok_laws_markColumnS hv33) (by kernel_rfl)) ?_
 refine io 92 [(0, A a0), (1, A a1), (6, A v11), (8, rf 1 0 5 v15), (9, rf 2 0 1 v17), (50, rf 0 0 2 v13), (51, I 1), (52, I v32.1)] [sl 0 v32.2, sl 0 v15, sl 0 v17] ?_
 refine opsP_ren (st' := ⟨92, [(0, A a0), (1, A a1), (6, A v11), (8, rf 1 0 5 v15), (9, rf 2 0 1 v17), (50, rf 0 0 2 v32.2), (51, I 1), (52, I v32.1)], [sl 0 v32.2, sl 0 v15, sl 0 v17]⟩) 0 v32.2.length (renC trivial (renC trivial (renC trivial (renC (ren_ne rfl) (renC (ren_ne rfl) (renC (ren_ref (len_laws_markColumnS hv33).symm) (renC trivial (renC trivial renC0)))))))) (by kernel_rfl) ?_
 refine ve 1 92 [(0, A a0), (1, A a1), (6, A v11), (8, rf 1 0 5 v15), (9, rf 2 0 1 v17), (10, I v32.1)] [sl 0 v32.2, sl 0 v15, sl 0 v17] ?_
 refine srv 2 92 [(0, A a0), (1, A a1), (6, A v11), (9, rf 2 0 1 v17), (53, rf 1 0 5 v15), (54, I v32.1)] [sl 0 v32.2, sl 0 v15, sl 0 v17] ?_
 obtain ⟨v34, hv35, h⟩ := bindS h
 refine opsP_E (dd := some 55) (x := I v34.1) (callD_E τ 55 1 0 (ok_laws_markPartS hv35) (by kernel_rfl)) ?_
 refine io 92 [(0, A a0), (1, A a1), (6, A v11), (9, rf 2 0 1 v17), (53, rf 1 0 5 v15), (54, I v32.1), (55, I v34.1)] [sl 0 v32.2, sl 0 v34.2, sl 0 v17] ?_
 refine opsP_ren (st' := ⟨92, [(0, A a0), (1, A a1), (6, A v11), (9, rf 2 0 1 v17), (53, rf 1 0 5 v34.2), (54, I v32.1), (55, I v34.1)], [sl 0 v32.2, sl 0 v34.2, sl 0 v17]⟩) 1 v34.2.length (renC trivial (renC trivial (renC trivial (renC (ren_ne rfl) (renC (ren_ref (len_laws_markPartS hv35).symm) (renC trivial (renC trivial renC0))))))) (by kernel_rfl) ?_
 refine ve 1 92 [(0, A a0), (1, A a1), (6, A v11), (9, rf 2 0 1 v17), (10, I v34.1)] [sl 0 v32.2, sl 0 v34.2, sl 0 v17] ?_
 refine pwp_seq ?_
 refine pwp_seq ?_
 refine pwp_join (σ := Bool) (fun x36 => (⟨92, [(0, A a0), (1, A a1), (6, A v11), (9, rf 2 0 1 v17), (63, B x36)], [sl 0 v32.2, sl 0 v34.2, sl 0 v17]⟩ : St)) (fun x36 => laws_FnExactExprColumns_j0 a0 a1 v11 v17 x36 = some y) ?_ ?_
 refine rv 3 92 [(0, A a0), (1, A a1), (6, A v11), (9, rf 2 0 1 v17), (58, B (decide (v34.1 < 0)))] [sl 0 v32.2, sl 0 v34.2, sl 0 v17] ?_
 rcases fk (decide (v34.1 < 0)) with hc59 | hc59
 replace h := bT hc59 h
 rw [hc59]
 refine ve 5 92 [(0, A a0), (1, A a1), (6, A v11), (9, rf 2 0 1 v17), (63, B true)] [sl 0 v32.2, sl 0 v34.2, sl 0 v17] ?_
 exact ⟨true, h, it [0, 1, 6, 9, 63]⟩
 replace h := bF hc59 h
 rw [hc59]
 refine v 2 92 [(0, A a0), (1, A a1), (6, A v11), (9, rf 2 0 1 v17), (58, B false), (59, rf 2 0 1 v17), (60, A v11)] [sl 0 v32.2, sl 0 v34.2, sl 0 v17] ?_
 obtain ⟨v57, hv58, h⟩ := bindS h
 refine opsP_callV (xs := [rf 2 0 1 v17, A v11]) τ 61 (ok_laws_eqIntS hv58) (Blind.lit _) (FzTo.frz rfl) (by kernel_rfl) (ViewL.cons (View.whole (v := 0) v17 (by kernel_rfl) rfl) (ViewL.cons (View.frz rfl) (ViewL.nil _))) ?_
 refine ve 2 92 [(0, A a0), (1, A a1), (6, A v11), (9, rf 2 0 1 v17), (63, B (!v57))] [sl 0 v32.2, sl 0 v34.2, sl 0 v17] ?_
 exact ⟨(!v57), h, it [0, 1, 6, 9, 63]⟩
 rintro x36 h
 unfold laws_FnExactExprColumns_j0 at h
 refine pc h (fun h => ?_) (fun h => ?_)
 refine srve 92 [(4, B false)] [sl 0 v32.2, sl 0 v34.2, sl 0 v17] ?_
 cases h
 exact pwp_ret rz
 refine pwp_skip ?_
 refine srve 92 [(0, A a0), (1, A a1), (6, A v11), (9, rf 2 0 1 v17), (11, I 1)] [sl 0 v32.2, sl 0 v34.2, sl 0 v17] ?_
 refine srv 2 92 [(0, A a0), (1, A a1), (6, A v11), (9, rf 2 0 1 v17), (64, rf 2 0 1 v17), (65, I 1)] [sl 0 v32.2, sl 0 v34.2, sl 0 v17] ?_
 obtain ⟨v38, hv39, h⟩ := bindS h
 refine opsP_E (dd := some 66) (x := I v38.1) (callD_E τ 66 2 0 (ok_laws_markIntS hv39) (by kernel_rfl)) ?_
 refine io 92 [(0, A a0), (1, A a1), (6, A v11), (9, rf 2 0 1 v17), (64, rf 2 0 1 v17), (65, I 1), (66, I v38.1)] [sl 0 v32.2, sl 0 v34.2, sl 0 v38.2] ?_
 refine opsP_ren (st' := ⟨92, [(0, A a0), (1, A a1), (6, A v11), (9, rf 2 0 1 v38.2), (64, rf 2 0 1 v38.2), (65, I 1), (66, I v38.1)], [sl 0 v32.2, sl 0 v34.2, sl 0 v38.2]⟩) 2 v38.2.length (renC trivial (renC trivial (renC trivial (renC (ren_ref (len_laws_markIntS hv39).symm) (renC (ren_ref (len_laws_markIntS hv39).symm) (renC trivial (renC trivial renC0))))))) (by kernel_rfl) ?_
 refine ve 1 92 [(0, A a0), (1, A a1), (6, A v11), (9, rf 2 0 1 v38.2), (11, I v38.1)] [sl 0 v32.2, sl 0 v34.2, sl 0 v38.2] ?_
 refine srve 92 [(0, A a0), (1, A a1), (6, A v11), (9, rf 2 0 1 v38.2), (11, I v38.1), (12, I 1)] [sl 0 v32.2, sl 0 v34.2, sl 0 v38.2] ?_
 refine srv 2 92 [(0, A a0), (1, A a1), (6, A v11), (9, rf 2 0 1 v38.2), (11, I v38.1), (67, rf 2 0 1 v38.2), (68, I 1)] [sl 0 v32.2, sl 0 v34.2, sl 0 v38.2] ?_
 obtain ⟨v40, hv41, h⟩ := bindS h
 refine opsP_callV (xs := [rf 2 0 1 v38.2, I 1]) τ 69 (ok_laws_heldIntS hv41) (Blind.lit _) (FzTo.frz rfl) (by kernel_rfl) (ViewL.cons (View.whole (v := 0) v38.2 (by kernel_rfl) rfl) (ViewL.cons (View.frz rfl) (ViewL.nil _))) ?_
 refine ve 1 92 [(0, A a0), (1, A a1), (6, A v11), (9, rf 2 0 1 v38.2), (11, I v38.1), (12, I v40)] [sl 0 v32.2, sl 0 v34.2, sl 0 v38.2] ?_
 refine pwp_seq ?_
 refine srve 92 [(0, A a0), (1, A a1), (6, A v11), (9, rf 2 0 1 v38.2), (11, I v38.1), (12, I v40), (71, B (decide (v40 < 0)))] [sl 0 v32.2, sl 0 v34.2, sl 0 v38.2] ?_
 refine pc h (fun h => ?_) (fun h => ?_)
 refine srve 92 [(4, B false)] [sl 0 v32.2, sl 0 v34.2, sl 0 v38.2] ?_
 cases h
 exact pwp_ret rz
 refine pwp_skip ?_
 refine pwp_seq ?_
 refine srve 92 [(0, A a0), (1, A a1), (6, A v11), (9, rf 2 0 1 v38.2), (11, I v38.1), (74, B (!(v40 == v38.1)))] [sl 0 v32.2, sl 0 v34.2, sl 0 v38.2] ?_
 refine pc h (fun h => ?_) (fun h => ?_)
 refine srve 92 [(4, B false)] [sl 0 v32.2, sl 0 v34.2, sl 0 v38.2] ?_
 cases h
 exact pwp_ret rz
 refine pwp_skip ?_
 refine srv 1 92 [(1, A a1), (6, A v11), (9, rf 2 0 1 v38.2), (11, I v38.1), (75, A a0)] [sl 0 v32.2, sl 0 v34.2, sl 0 v38.2] ?_
 obtain ⟨v44, hv45, h⟩ := bindS h
 refine cFo 76 (ok_laws_toColumnS hv45) ?_
 refine v 1 92 [(6, A v11), (9, rf 2 0 1 v38.2), (11, I v38.1), (76, A v44), (77, A a1)] [sl 0 v32.2, sl 0 v34.2, sl 0 v38.2] ?_
 obtain ⟨v46, hv47, h⟩ := bindS h
 refine cFo 78 (ok_laws_toPartS hv47) ?_
 obtain ⟨v48, hv49, h⟩ := bindS h
 refine cFo 79 (ok_impl_ExprColumns_R hv49) ?_
 refine ve 1 92 [(6, A v11), (9, rf 2 0 1 v38.2), (11, I v38.1), (13, A v48)] [sl 0 v32.2, sl 0 v34.2, sl 0 v38.2] ?_
 refine pwp_seq ?_
 refine srv 2 92 [(9, rf 2 0 1 v38.2), (11, I v38.1), (80, A v48), (81, A v11)] [sl 0 v32.2, sl 0 v34.2, sl 0 v38.2] ?_
 obtain ⟨v50, hv51, h⟩ := bindS h
 refine cF 82 (ok_laws_eqIntS hv51) ?_
 refine ve 1 92 [(9, rf 2 0 1 v38.2), (11, I v38.1), (83, B (!v50))] [sl 0 v32.2, sl 0 v34.2, sl 0 v38.2] ?_
 refine pc h (fun h => ?_) (fun h => ?_)
 refine srve 92 [(4, B false)] [sl 0 v32.2, sl 0 v34.2, sl 0 v38.2] ?_
 cases h
 exact pwp_ret rz
 refine pwp_skip ?_
 refine srve 92 [(9, rf 2 0 1 v38.2), (11, I v38.1), (12, I 1)] [sl 0 v32.2, sl 0 v34.2, sl 0 v38.2] ?_
 refine srv 2 92 [(11, I v38.1), (84, rf 2 0 1 v38.2), (85, I 1)] [sl 0 v32.2, sl 0 v34.2, sl 0 v38.2] ?_
 obtain ⟨v53, hv54, h⟩ := bindS h
 refine opsP_callV (xs := [rf 2 0 1 v38.2, I 1]) τ 86 (ok_laws_heldIntS hv54) (Blind.lit _) (FzTo.frz rfl) (by kernel_rfl) (ViewL.cons (View.whole (v := 0) v38.2 (by kernel_rfl) rfl) (ViewL.cons (View.frz rfl) (ViewL.nil _))) ?_
 refine ve 1 92 [(11, I v38.1), (12, I v53)] [sl 0 v32.2, sl 0 v34.2, sl 0 v38.2] ?_
 refine pwp_seq ?_
 refine srve 92 [(11, I v38.1), (12, I v53), (88, B (decide (v53 < 0)))] [sl 0 v32.2, sl 0 v34.2, sl 0 v38.2] ?_
 refine pc h (fun h => ?_) (fun h => ?_)
 refine srve 92 [(4, B false)] [sl 0 v32.2, sl 0 v34.2, sl 0 v38.2] ?_
 cases h
 exact pwp_ret rz
 refine pwp_skip ?_
 refine pwp_seq ?_
 refine srve 92 [(91, B (!(v53 == v38.1)))] [sl 0 v32.2, sl 0 v34.2, sl 0 v38.2] ?_
 refine pc h (fun h => ?_) (fun h => ?_)
 refine srve 92 [(4, B false)] [sl 0 v32.2, sl 0 v34.2, sl 0 v38.2] ?_
 cases h
 exact pwp_ret rz
 refine pwp_skip ?_
 refine srve 92 [(4, B true)] [sl 0 v32.2, sl 0 v34.2, sl 0 v38.2] ?_
 cases h
 exact pwp_ret rz
end Go.D
