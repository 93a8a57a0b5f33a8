import Derived.Test.YtpkclpjdpanekaaGreatBonDXT
import Derived.KernelRfl
set_option linter.unusedVariables false
set_option linter.unusedSimpArgs false
namespace Go.D
open Go.Proofs
def laws_eqIntS_l0 (a0 : List Int) (a1 : List Int) : Nat → Int → Option Bool
  | 0, _ => none
  | f3 + 1, x2 => bif (decide (x2 < ((a0.length : Int)))) then (getI a0 x2).bind fun v6 => (getI a1 x2).bind fun v8 => bif (!(v6 == v8)) then some false else (laws_eqIntS_l0 a0 a1 f3) ((w64 (x2 + 1))) else some true
def laws_eqIntS (a0 : List Int) (a1 : List Int) : Option Bool := bif (!(((a0.length : Int)) == ((a1.length : Int)))) then some false else laws_eqIntS_l0 a0 a1 FUEL 0
theorem ok_laws_eqIntS {a0 : List Int} {a1 : List Int} {y : Bool} (h : laws_eqIntS a0 a1 = some y) : OK Tryz.prog 17 [A a0, A a1] (B y) := by
  refine OK_of_pwp τ_ok Tryz.func17 rfl (by kernel_rfl) rfl fun Γ hX => ?_
  unfold laws_eqIntS at h
  refine srve 26 [(0, A a0), (1, A a1)] [] ?_
  refine pwp_seq ?_
  refine srve 26 [(0, A a0), (1, A a1), (10, B ((!(((a0.length : Int)) == ((a1.length : Int))))))] [] ?_
  refine pc h (fun h => ?_) (fun h => ?_)
  refine srve 26 [(4, B false)] [] ?_
  cases h
  exact pwp_ret rz
  refine pwp_skip ?_
  refine pwp_seq ?_
  refine srve 26 [(0, A a0), (1, A a1), (5, I 0)] [] ?_
  refine pwp_block ?_
  refine pwp_loop (ι := Nat × Int) (fun (f3, x2) => (⟨26, [(0, A a0), (1, A a1), (5, I x2)], []⟩ : St)) (fun (f3, x2) => laws_eqIntS_l0 a0 a1 f3 x2 = some y) (fun (f3, x2) => f3) (FUEL, 0) h ((Imp.to (st' := ⟨26, [(0, A a0), (1, A a1), (5, I 0)], []⟩) [0, 1, 5] (by kernel_rfl)).trans (Imp.to [0, 1, 5] (by kernel_rfl))) ?_
  rintro ⟨f3, x2⟩ h
  dsimp only at h ⊢
  rcases f3 with _ | f3
  cases h
  rw [laws_eqIntS_l0] at h
  refine pwp_seq ?_
  refine srve 26 [(0, A a0), (1, A a1), (5, I x2), (14, B ((decide (x2 < ((a0.length : Int))))))] [] ?_
  refine pc h (fun h => ?_) (fun h => ?_)
  refine pwp_skip ?_
  refine pwp_seq ?_
  refine pwp_block ?_
  refine pwp_seq ?_
  refine pwp_imp (Imp.to (st' := ⟨26, [(0, A a0), (1, A a1), (5, I x2)], []⟩) [0, 1, 5] (by kernel_rfl)) ?_
  refine pwp_any ([[], [], [], [], [], [], [], [], []]) ([[], [], [], [], [], [], [], [], []]) rfl (by kernel_rfl) ?_
  refine qA_ev (st' := ⟨26, [(18, I x2), (17, A a0), (0, A a0), (1, A a1), (5, I x2)], []⟩) τ_ok [] [] 2 (by exact trivial) (by kernel_rfl) ?_
  obtain ⟨v6, hv7, h⟩ := bindS h
  refine qA_E (dd := some 19) (x := .fptr (Enc.cells v6) 0) ([]) (⟨26, [(19, .fptr (Enc.cells v6) 0), (18, I x2), (17, A a0), (0, A a0), (1, A a1), (5, I x2)], []⟩) (fun Γ' hΓ => CoreE.of_y (idxV_sound τ_ok (by kernel_rfl) hv7)) (by kernel_rfl) (by kernel_rfl) (by exact trivial) (.inr (.inr rfl)) (by kernel_rfl) ?_
  refine qA_ev (st' := ⟨26, [(22, I x2), (21, A a1), (20, I v6), (19, .fptr (Enc.cells v6) 0), (18, I x2), (17, A a0), (0, A a0), (1, A a1), (5, I x2)], []⟩) τ_ok [] [] 3 (by exact trivial) (by kernel_rfl) ?_
  obtain ⟨v8, hv9, h⟩ := bindS h
  refine qA_E (dd := some 23) (x := .fptr (Enc.cells v8) 0) ([]) (⟨26, [(23, .fptr (Enc.cells v8) 0), (22, I x2), (21, A a1), (20, I v6), (19, .fptr (Enc.cells v6) 0), (18, I x2), (17, A a0), (0, A a0), (1, A a1), (5, I x2)], []⟩) (fun Γ' hΓ => CoreE.of_y (idxV_sound τ_ok (by kernel_rfl) hv9)) (by kernel_rfl) (by kernel_rfl) (by exact trivial) (.inr (.inr rfl)) (by kernel_rfl) ?_
  refine qA_ev (st' := ⟨26, [(25, B ((!(v6 == v8)))), (24, I v8), (23, .fptr (Enc.cells v8) 0), (22, I x2), (21, A a1), (20, I v6), (19, .fptr (Enc.cells v6) 0), (18, I x2), (17, A a0), (0, A a0), (1, A a1), (5, I x2)], []⟩) τ_ok [] [] 2 (by exact trivial) (by kernel_rfl) ?_
  refine qA_end ?_
  refine opsP_imp (Imp.to (st' := ⟨26, [(0, A a0), (1, A a1), (5, I x2), (25, B ((!(v6 == v8))))], []⟩) [0, 1, 5, 25] (by kernel_rfl)) ?_
  refine opsP_end rfl ?_
  refine pc h (fun h => ?_) (fun h => ?_)
  refine srve 26 [(4, B false)] [] ?_
  cases h
  exact pwp_ret rz
  refine pwp_skip ?_
  refine rve 26 [(0, A a0), (1, A a1), (5, I ((w64 (x2 + 1))))] [] ?_
  exact ⟨(f3, (w64 (x2 + 1))), h, Nat.lt_succ_self _, (Imp.to (st' := ⟨26, [(0, A a0), (1, A a1), (5, I ((w64 (x2 + 1))))], []⟩) [0, 1, 5] (by kernel_rfl)).trans (Imp.to [0, 1, 5] (by kernel_rfl))⟩
  refine pwp_exit ?_
  refine srve 26 [(4, B true)] [] ?_
  cases h
  exact pwp_ret rz
def laws_markIntS_l0 : Nat → Int → Int → (List Int) → Option (Int × List Int)
  | 0, _, _, _ => none
  | f5 + 1, x2, x3, x4 => bif (decide (x3 < ((x4.length : Int)))) then (getI x4 x3).bind fun v8 => (laws_markIntS_l0 f5) ((w64 (x2 + 1))) ((w64 (x3 + 1))) ((x4.set x3.toNat x2)) else some (x2, x4)
def laws_markIntS (a0 : List Int) (a1 : Int) : Option (Int × List Int) := laws_markIntS_l0 FUEL a1 0 a0
theorem len_laws_markIntS_l0 : ∀ (f5 : Nat) (x2 : Int) (x3 : Int) (x4 : List Int) (y : Int × List Int), laws_markIntS_l0 f5 x2 x3 x4 = some y → y.2.length = x4.length
  | 0, _, _, _, _, h => by cases h
  | f5 + 1, x2, x3, x4, y, h => by
    rw [laws_markIntS_l0] at h
    rcases condS h with h | h
    · obtain ⟨_, _, h⟩ := bindS h
      have h2 := len_laws_markIntS_l0 f5 _ _ _ _ h
      simp only [List.length_set] at h2
      exact h2
    · cases h; rfl
theorem len_laws_markIntS {a0 : List Int} {a1 : Int} {y : Int × List Int} (h : laws_markIntS a0 a1 = some y) : y.2.length = a0.length := by
  unfold laws_markIntS at h
  exact len_laws_markIntS_l0 _ _ _ _ _ h
theorem ok_laws_markIntS {a0 : List Int} {a1 : Int} {y : Int × List Int} (h : laws_markIntS a0 a1 = some y) : OKd Tryz.prog 24 1 a0.length (eL a0) [I a1] (.int .i64 y.1) (eL y.2) := by
  refine OKd_of_pwp τ_ok Tryz.func24 rfl (by kernel_rfl) rfl (O_oc _) (O_oc _) (BlindL.lits (eL_lit DFlat.lit _)) (BlindL.lits (eL_lit DFlat.lit _)) rfl (fun hl => by rw [eL_len, len_laws_markIntS h, ← eL_len]; exact hl) fun Γ => ?_
  refine pwp_imp (Imp.to (st' := ⟨19, [(0, .ref 0 0 0 1 a0.length false), (1, I a1)], [some ⟨0, eL a0⟩]⟩) [0, 1] (by kernel_rfl)) ?_
  unfold laws_markIntS at h
  refine srve 19 [(0, .ref 0 0 0 1 a0.length false), (1, I a1)] [some ⟨0, eL a0⟩] ?_
  refine pwp_seq ?_
  refine srve 19 [(0, .ref 0 0 0 1 a0.length false), (1, I a1), (5, I 0)] [some ⟨0, eL a0⟩] ?_
  refine pwp_block ?_
  refine pwp_loop (ι := Nat × Int × Int × (List Int)) (fun (f5, x2, x3, x4) => (⟨19, [(0, .ref 0 0 0 1 x4.length false), (1, I x2), (5, I x3)], [some ⟨0, eL x4⟩]⟩ : St)) (fun (f5, x2, x3, x4) => laws_markIntS_l0 f5 x2 x3 x4 = some y) (fun (f5, x2, x3, x4) => f5) (FUEL, a1, 0, a0) h ((Imp.to (st' := ⟨19, [(0, .ref 0 0 0 1 a0.length false), (1, I a1), (5, I 0)], [some ⟨0, eL a0⟩]⟩) [0, 1, 5] (by kernel_rfl)).trans (Imp.to [0, 1, 5] (by kernel_rfl))) ?_
  rintro ⟨f5, x2, x3, x4⟩ h
  dsimp only at h ⊢
  rcases f5 with _ | f5
  cases h
  rw [laws_markIntS_l0] at h
  refine pwp_seq ?_
  refine srve 19 [(0, .ref 0 0 0 1 x4.length false), (1, I x2), (5, I x3), (9, B ((decide (x3 < ((x4.length : Int))))))] [some ⟨0, eL x4⟩] ?_
  refine pc h (fun h => ?_) (fun h => ?_)
  refine pwp_skip ?_
  refine pwp_seq ?_
  refine pwp_block ?_
  refine srv 3 19 [(0, .ref 0 0 0 1 x4.length false), (1, I x2), (5, I x3), (12, .ref 0 0 0 1 x4.length false), (13, I x3), (14, I x2)] [some ⟨0, eL x4⟩] ?_
  obtain ⟨v8, hv9, h⟩ := bindS h
  refine opsP_idr τ_ok 15 0 0 x4.length hv9 rfl (by kernel_rfl) ?_
  refine v 0 19 [(0, .ref 0 0 0 1 x4.length false), (1, I x2), (5, I x3), (14, I x2), (15, .ptr 0 0 (x3.toNat * 1))] [some ⟨0, eL x4⟩] ?_
  refine opsP_ste (vs := [I x2]) τ_ok 3 0 0 0 x2 hv9 (by kernel_rfl) (by kernel_rfl) (by kernel_rfl) (renC (ren_ref (List.length_set ..).symm) (renC trivial (renC trivial (renC trivial (renC trivial renC0))))) ?_
  refine ve 0 19 [(0, .ref 0 0 0 1 ((x4.set x3.toNat x2)).length false), (1, I x2), (5, I x3)] [some ⟨0, eL ((x4.set x3.toNat x2))⟩] ?_
  refine rve 19 [(0, .ref 0 0 0 1 ((x4.set x3.toNat x2)).length false), (1, I ((w64 (x2 + 1)))), (5, I x3)] [some ⟨0, eL ((x4.set x3.toNat x2))⟩] ?_
  refine rve 19 [(0, .ref 0 0 0 1 ((x4.set x3.toNat x2)).length false), (1, I ((w64 (x2 + 1)))), (5, I ((w64 (x3 + 1))))] [some ⟨0, eL ((x4.set x3.toNat x2))⟩] ?_
  exact ⟨(f5, (w64 (x2 + 1)), (w64 (x3 + 1)), (x4.set x3.toNat x2)), h, Nat.lt_succ_self _, (Imp.to (st' := ⟨19, [(0, .ref 0 0 0 1 ((x4.set x3.toNat x2)).length false), (1, I ((w64 (x2 + 1)))), (5, I ((w64 (x3 + 1))))], [some ⟨0, eL ((x4.set x3.toNat x2))⟩]⟩) [0, 1, 5] (by kernel_rfl)).trans (Imp.to [0, 1, 5] (by kernel_rfl))⟩
  refine pwp_exit ?_
  refine srve 19 [(4, I x2)] [some ⟨0, eL x4⟩] ?_
  have h := si h
  subst h
  exact pwp_ret ⟨.inr rfl, 0, by kernel_rfl, by kernel_rfl⟩
def laws_heldIntS_l0 (a0 : List Int) : Nat → Int → Int → Option Int
  | 0, _, _ => none
  | f3 + 1, x1, x2 => bif (decide (x2 < ((a0.length : Int)))) then (getI a0 x2).bind fun v6 => bif (!(v6 == x1)) then some (-1) else (laws_heldIntS_l0 a0 f3) ((w64 (x1 + 1))) ((w64 (x2 + 1))) else some x1
def laws_heldIntS (a0 : List Int) (a1 : Int) : Option Int := laws_heldIntS_l0 a0 FUEL a1 0
theorem ok_laws_heldIntS {a0 : List Int} {a1 : Int} {y : Int} (h : laws_heldIntS a0 a1 = some y) : OK Tryz.prog 25 [A a0, I a1] (I y) := by
  refine OK_of_pwp τ_ok Tryz.func25 rfl (by kernel_rfl) rfl fun Γ hX => ?_
  unfold laws_heldIntS at h
  refine srve 21 [(0, A a0), (1, I a1)] [] ?_
  refine pwp_seq ?_
  refine srve 21 [(0, A a0), (1, I a1), (5, I 0)] [] ?_
  refine pwp_block ?_
  refine pwp_loop (ι := Nat × Int × Int) (fun (f3, x1, x2) => (⟨21, [(0, A a0), (1, I x1), (5, I x2)], []⟩ : St)) (fun (f3, x1, x2) => laws_heldIntS_l0 a0 f3 x1 x2 = some y) (fun (f3, x1, x2) => f3) (FUEL, a1, 0) h ((Imp.to (st' := ⟨21, [(0, A a0), (1, I a1), (5, I 0)], []⟩) [0, 1, 5] (by kernel_rfl)).trans (Imp.to [0, 1, 5] (by kernel_rfl))) ?_
  rintro ⟨f3, x1, x2⟩ h
  dsimp only at h ⊢
  rcases f3 with _ | f3
  cases h
  rw [laws_heldIntS_l0] at h
  refine pwp_seq ?_
  refine srve 21 [(0, A a0), (1, I x1), (5, I x2), (9, B ((decide (x2 < ((a0.length : Int))))))] [] ?_
  refine pc h (fun h => ?_) (fun h => ?_)
  refine pwp_skip ?_
  refine pwp_seq ?_
  refine pwp_block ?_
  refine pwp_seq ?_
  refine srv 2 21 [(0, A a0), (1, I x1), (5, I x2), (12, A a0), (13, I x2)] [] ?_
  obtain ⟨v6, hv7, h⟩ := bindS h
  refine opsP_idx τ_ok 14 hv7 (by kernel_rfl) ?_
  refine ve 3 21 [(0, A a0), (1, I x1), (5, I x2), (17, B ((!(v6 == x1))))] [] ?_
  refine pc h (fun h => ?_) (fun h => ?_)
  refine srve 21 [(4, I (-1))] [] ?_
  cases h
  exact pwp_ret rz
  refine pwp_skip ?_
  refine rve 21 [(0, A a0), (1, I ((w64 (x1 + 1)))), (5, I x2)] [] ?_
  refine rve 21 [(0, A a0), (1, I ((w64 (x1 + 1)))), (5, I ((w64 (x2 + 1))))] [] ?_
  exact ⟨(f3, (w64 (x1 + 1)), (w64 (x2 + 1))), h, Nat.lt_succ_self _, (Imp.to (st' := ⟨21, [(0, A a0), (1, I ((w64 (x1 + 1)))), (5, I ((w64 (x2 + 1))))], []⟩) [0, 1, 5] (by kernel_rfl)).trans (Imp.to [0, 1, 5] (by kernel_rfl))⟩
  refine pwp_exit ?_
  refine srve 21 [(4, I x1)] [] ?_
  cases h
  exact pwp_ret rz
def laws_szColumnS (a0 : List T_laws_Column) (a1 : Int) : Option Int := bif (decide (((w64 (a1 - ((a0.length : Int))))) < 0)) then some (-1) else some ((w64 (a1 - ((a0.length : Int)))))
theorem ok_laws_szColumnS {a0 : List T_laws_Column} {a1 : Int} {y : Int} (h : laws_szColumnS a0 a1 = some y) : OK Tryz.prog 26 [A a0, I a1] (I y) := by
  refine OK_of_pwp τ_ok Tryz.func26 rfl (by kernel_rfl) rfl fun Γ hX => ?_
  unfold laws_szColumnS at h
  refine srve 12 [(0, A a0), (1, I a1)] [] ?_
  refine srve 12 [(1, I ((w64 (a1 - ((a0.length : Int))))))] [] ?_
  refine pwp_seq ?_
  refine srve 12 [(1, I ((w64 (a1 - ((a0.length : Int)))))), (10, B ((decide (((w64 (a1 - ((a0.length : Int))))) < 0))))] [] ?_
  refine pc h (fun h => ?_) (fun h => ?_)
  refine srve 12 [(4, I (-1))] [] ?_
  cases h
  exact pwp_ret rz
  refine pwp_skip ?_
  refine srve 12 [(4, I ((w64 (a1 - ((a0.length : Int))))))] [] ?_
  cases h
  exact pwp_ret rz
def laws_markColumnS_l0 : Nat → Int → Int → (List T_impl_Column) → Option (Int × List T_impl_Column)
  | 0, _, _, _ => none
  | f5 + 1, x2, x3, x4 => bif (decide (x3 < ((x4.length : Int)))) then (getI x4 x3).bind fun v8 => (getI ((x4.set x3.toNat (({ v8 with fKind := x2 } : T_impl_Column)))) x3).bind fun v10 => (laws_markColumnS_l0 f5) ((w64 (((w64 (x2 + 1))) + 1))) ((w64 (x3 + 1))) ((((x4.set x3.toNat (({ v8 with fKind := x2 } : T_impl_Column)))).set x3.toNat (({ v10 with fEmpty := (((((w64 (x2 + 1))).tmod 3)) == 0) } : T_impl_Column)))) else some (x2, x4)
def laws_markColumnS (a0 : List T_impl_Column) (a1 : Int) : Option (Int × List T_impl_Column) := laws_markColumnS_l0 FUEL a1 0 a0
theorem len_laws_markColumnS_l0 : ∀ (f5 : Nat) (x2 : Int) (x3 : Int) (x4 : List T_impl_Column) (y : Int × List T_impl_Column), laws_markColumnS_l0 f5 x2 x3 x4 = some y → y.2.length = x4.length
  | 0, _, _, _, _, h => by cases h
  | f5 + 1, x2, x3, x4, y, h => by
    rw [laws_markColumnS_l0] at h
    rcases condS h with h | h
    · obtain ⟨_, _, h⟩ := bindS h
      obtain ⟨_, _, h⟩ := bindS h
      have h2 := len_laws_markColumnS_l0 f5 _ _ _ _ h
      simp only [List.length_set] at h2
      exact h2
    · cases h; rfl
theorem len_laws_markColumnS {a0 : List T_impl_Column} {a1 : Int} {y : Int × List T_impl_Column} (h : laws_markColumnS a0 a1 = some y) : y.2.length = a0.length := by
  unfold laws_markColumnS at h
  exact len_laws_markColumnS_l0 _ _ _ _ _ h
theorem ok_laws_markColumnS {a0 : List T_impl_Column} {a1 : Int} {y : Int × List T_impl_Column} (h : laws_markColumnS a0 a1 = some y) : OKd Tryz.prog 38 2 a0.length (eL a0) [I a1] (.int .i64 y.1) (eL y.2) := by
  refine OKd_of_pwp τ_ok Tryz.func38 rfl (by kernel_rfl) rfl (O_oc _) (O_oc _) (BlindL.lits (eL_lit DFlat.lit _)) (BlindL.lits (eL_lit DFlat.lit _)) rfl (fun hl => by rw [eL_len, len_laws_markColumnS h, ← eL_len]; exact hl) fun Γ => ?_
  refine pwp_imp (Imp.to (st' := ⟨29, [(0, .ref 0 0 0 2 a0.length false), (1, I a1)], [some ⟨0, eL a0⟩]⟩) [0, 1] (by kernel_rfl)) ?_
  unfold laws_markColumnS at h
  refine srve 29 [(0, .ref 0 0 0 2 a0.length false), (1, I a1)] [some ⟨0, eL a0⟩] ?_
  refine pwp_seq ?_
  refine srve 29 [(0, .ref 0 0 0 2 a0.length false), (1, I a1), (5, I 0)] [some ⟨0, eL a0⟩] ?_
  refine pwp_block ?_
  refine pwp_loop (ι := Nat × Int × Int × (List T_impl_Column)) (fun (f5, x2, x3, x4) => (⟨29, [(0, .ref 0 0 0 2 x4.length false), (1, I x2), (5, I x3)], [some ⟨0, eL x4⟩]⟩ : St)) (fun (f5, x2, x3, x4) => laws_markColumnS_l0 f5 x2 x3 x4 = some y) (fun (f5, x2, x3, x4) => f5) (FUEL, a1, 0, a0) h ((Imp.to (st' := ⟨29, [(0, .ref 0 0 0 2 a0.length false), (1, I a1), (5, I 0)], [some ⟨0, eL a0⟩]⟩) [0, 1, 5] (by kernel_rfl)).trans (Imp.to [0, 1, 5] (by kernel_rfl))) ?_
  rintro ⟨f5, x2, x3, x4⟩ h
  dsimp only at h ⊢
  rcases f5 with _ | f5
  cases h
  rw [laws_markColumnS_l0] at h
  refine pwp_seq ?_
  refine srve 29 [(0, .ref 0 0 0 2 x4.length false), (1, I x2), (5, I x3), (9, B ((decide (x3 < ((x4.length : Int))))))] [some ⟨0, eL x4⟩] ?_
  refine pc h (fun h => ?_) (fun h => ?_)
  refine pwp_skip ?_
  refine pwp_seq ?_
  refine pwp_block ?_
  refine srv 3 29 [(0, .ref 0 0 0 2 x4.length false), (1, I x2), (5, I x3), (12, .ref 0 0 0 2 x4.length false), (13, I x3), (14, I x2)] [some ⟨0, eL x4⟩] ?_
  obtain ⟨v8, hv9, h⟩ := bindS h
  refine opsP_idr τ_ok 15 0 0 x4.length hv9 rfl (by kernel_rfl) ?_
  refine v 1 29 [(0, .ref 0 0 0 2 x4.length false), (1, I x2), (5, I x3), (14, I x2), (16, .ptr 0 0 (x3.toNat * 2))] [some ⟨0, eL x4⟩] ?_
  refine opsP_ste (vs := [I x2]) τ_ok 3 0 0 0 (({ v8 with fKind := x2 } : T_impl_Column)) hv9 (by kernel_rfl) (by kernel_rfl) (by kernel_rfl) (renC (ren_ref (List.length_set ..).symm) (renC trivial (renC trivial (renC trivial (renC trivial renC0))))) ?_
  refine ve 0 29 [(0, .ref 0 0 0 2 ((x4.set x3.toNat (({ v8 with fKind := x2 } : T_impl_Column)))).length false), (1, I x2), (5, I x3)] [some ⟨0, eL ((x4.set x3.toNat (({ v8 with fKind := x2 } : T_impl_Column))))⟩] ?_
  refine srve 29 [(0, .ref 0 0 0 2 ((x4.set x3.toNat (({ v8 with fKind := x2 } : T_impl_Column)))).length false), (1, I ((w64 (x2 + 1)))), (5, I x3)] [some ⟨0, eL ((x4.set x3.toNat (({ v8 with fKind := x2 } : T_impl_Column))))⟩] ?_
  refine srv 5 29 [(0, .ref 0 0 0 2 ((x4.set x3.toNat (({ v8 with fKind := x2 } : T_impl_Column)))).length false), (1, I ((w64 (x2 + 1)))), (5, I x3), (19, .ref 0 0 0 2 ((x4.set x3.toNat (({ v8 with fKind := x2 } : T_impl_Column)))).length false), (20, I x3), (23, B ((((((w64 (x2 + 1))).tmod 3)) == 0)))] [some ⟨0, eL ((x4.set x3.toNat (({ v8 with fKind := x2 } : T_impl_Column))))⟩] ?_
  obtain ⟨v10, hv11, h⟩ := bindS h
  refine opsP_idr τ_ok 24 0 0 ((x4.set x3.toNat (({ v8 with fKind := x2 } : T_impl_Column)))).length hv11 rfl (by kernel_rfl) ?_
  refine v 1 29 [(0, .ref 0 0 0 2 ((x4.set x3.toNat (({ v8 with fKind := x2 } : T_impl_Column)))).length false), (1, I ((w64 (x2 + 1)))), (5, I x3), (23, B ((((((w64 (x2 + 1))).tmod 3)) == 0))), (25, .ptr 0 0 (x3.toNat * 2 + 1))] [some ⟨0, eL ((x4.set x3.toNat (({ v8 with fKind := x2 } : T_impl_Column))))⟩] ?_
  refine opsP_ste (vs := [B ((((((w64 (x2 + 1))).tmod 3)) == 0))]) τ_ok 4 0 0 1 (({ v10 with fEmpty := (((((w64 (x2 + 1))).tmod 3)) == 0) } : T_impl_Column)) hv11 (by kernel_rfl) (by kernel_rfl) (by kernel_rfl) (renC (ren_ref (List.length_set ..).symm) (renC trivial (renC trivial (renC trivial (renC trivial renC0))))) ?_
  refine ve 0 29 [(0, .ref 0 0 0 2 ((((x4.set x3.toNat (({ v8 with fKind := x2 } : T_impl_Column)))).set x3.toNat (({ v10 with fEmpty := (((((w64 (x2 + 1))).tmod 3)) == 0) } : T_impl_Column)))).length false), (1, I ((w64 (x2 + 1)))), (5, I x3)] [some ⟨0, eL ((((x4.set x3.toNat (({ v8 with fKind := x2 } : T_impl_Column)))).set x3.toNat (({ v10 with fEmpty := (((((w64 (x2 + 1))).tmod 3)) == 0) } : T_impl_Column))))⟩] ?_
  refine rve 29 [(0, .ref 0 0 0 2 ((((x4.set x3.toNat (({ v8 with fKind := x2 } : T_impl_Column)))).set x3.toNat (({ v10 with fEmpty := (((((w64 (x2 + 1))).tmod 3)) == 0) } : T_impl_Column)))).length false), (1, I ((w64 (((w64 (x2 + 1))) + 1)))), (5, I x3)] [some ⟨0, eL ((((x4.set x3.toNat (({ v8 with fKind := x2 } : T_impl_Column)))).set x3.toNat (({ v10 with fEmpty := (((((w64 (x2 + 1))).tmod 3)) == 0) } : T_impl_Column))))⟩] ?_
  refine rve 29 [(0, .ref 0 0 0 2 ((((x4.set x3.toNat (({ v8 with fKind := x2 } : T_impl_Column)))).set x3.toNat (({ v10 with fEmpty := (((((w64 (x2 + 1))).tmod 3)) == 0) } : T_impl_Column)))).length false), (1, I ((w64 (((w64 (x2 + 1))) + 1)))), (5, I ((w64 (x3 + 1))))] [some ⟨0, eL ((((x4.set x3.toNat (({ v8 with fKind := x2 } : T_impl_Column)))).set x3.toNat (({ v10 with fEmpty := (((((w64 (x2 + 1))).tmod 3)) == 0) } : T_impl_Column))))⟩] ?_
  exact ⟨(f5, (w64 (((w64 (x2 + 1))) + 1)), (w64 (x3 + 1)), (((x4.set x3.toNat (({ v8 with fKind := x2 } : T_impl_Column)))).set x3.toNat (({ v10 with fEmpty := (((((w64 (x2 + 1))).tmod 3)) == 0) } : T_impl_Column)))), h, Nat.lt_succ_self _, (Imp.to (st' := ⟨29, [(0, .ref 0 0 0 2 ((((x4.set x3.toNat (({ v8 with fKind := x2 } : T_impl_Column)))).set x3.toNat (({ v10 with fEmpty := (((((w64 (x2 + 1))).tmod 3)) == 0) } : T_impl_Column)))).length false), (1, I ((w64 (((w64 (x2 + 1))) + 1)))), (5, I ((w64 (x3 + 1))))], [some ⟨0, eL ((((x4.set x3.toNat (({ v8 with fKind := x2 } : T_impl_Column)))).set x3.toNat (({ v10 with fEmpty := (((((w64 (x2 + 1))).tmod 3)) == 0) } : T_impl_Column))))⟩]⟩) [0, 1, 5] (by kernel_rfl)).trans (Imp.to [0, 1, 5] (by kernel_rfl))⟩
  refine pwp_exit ?_
  refine srve 29 [(4, I x2)] [some ⟨0, eL x4⟩] ?_
  have h := si h
  subst h
  exact pwp_ret ⟨.inr rfl, 0, by kernel_rfl, by kernel_rfl⟩
def laws_toColumn (a0 : T_laws_Column) : Option T_impl_Column := some ({ (({ ((T_impl_Column.mk 0 false)) with fKind := a0.fKind }) : T_impl_Column) with fEmpty := a0.fEmpty })
theorem ok_laws_toColumn {a0 : T_laws_Column} {y : T_impl_Column} (h : laws_toColumn a0 = some y) : OK Tryz.prog 75 [E a0] (E y) := by
  refine OK_of_pwp τ_ok Tryz.func75 rfl (by kernel_rfl) rfl fun Γ hX => ?_
  unfold laws_toColumn at h
  refine srveM [2, 3] 11 [(1, .fptr (Enc.cells a0) 0), (2, .ptr 0 0 0)] [some ⟨0, Enc.cells ((T_impl_Column.mk 0 false))⟩] ?_
  refine srveM [2, 3] 11 [(1, .fptr (Enc.cells a0) 0), (2, .ptr 0 0 0), (3, .ptr 1 0 0)] [some ⟨0, Enc.cells ((T_impl_Column.mk 0 false))⟩, some ⟨0, Enc.cells ((T_impl_Column.mk 0 false))⟩] ?_
  refine srveM [2, 3] 11 [(1, .fptr (Enc.cells a0) 0), (2, .ptr 0 0 0), (3, .ptr 1 0 0)] [some ⟨0, Enc.cells ((T_impl_Column.mk 0 false))⟩, some ⟨0, Enc.cells ({ ((T_impl_Column.mk 0 false)) with fKind := a0.fKind })⟩] ?_
  refine srveM [2, 3] 11 [(2, .ptr 0 0 0), (3, .ptr 1 0 0)] [some ⟨0, Enc.cells ((T_impl_Column.mk 0 false))⟩, some ⟨0, Enc.cells ({ (({ ((T_impl_Column.mk 0 false)) with fKind := a0.fKind }) : T_impl_Column) with fEmpty := a0.fEmpty })⟩] ?_
  refine srveM [2, 3] 11 [(2, .ptr 0 0 0)] [some ⟨0, Enc.cells ({ (({ ((T_impl_Column.mk 0 false)) with fKind := a0.fKind }) : T_impl_Column) with fEmpty := a0.fEmpty })⟩, some ⟨0, Enc.cells ({ (({ ((T_impl_Column.mk 0 false)) with fKind := a0.fKind }) : T_impl_Column) with fEmpty := a0.fEmpty })⟩] ?_
  cases h
  exact pwp_ret rz
def laws_eqValue (a0 : T_impl_Value) (a1 : T_impl_Value) : Option Bool := bif (!(a0.fKind == a1.fKind)) then some false else bif (!(a0.fN == a1.fN)) then some false else bif (!(a0.fS.toList == a1.fS.toList)) then some false else some true
theorem ok_laws_eqValue {a0 : T_impl_Value} {a1 : T_impl_Value} {y : Bool} (h : laws_eqValue a0 a1 = some y) : OK Tryz.prog 81 [E a0, E a1] (B y) := by
  refine OK_of_pwp τ_ok Tryz.func81 rfl (by kernel_rfl) rfl fun Γ hX => ?_
  unfold laws_eqValue at h
  refine srve 20 [(2, .fptr (Enc.cells a0) 0), (3, .fptr (Enc.cells a1) 0)] [] ?_
  refine pwp_seq ?_
  refine srve 20 [(2, .fptr (Enc.cells a0) 0), (3, .fptr (Enc.cells a1) 0), (9, B ((!(a0.fKind == a1.fKind))))] [] ?_
  refine pc h (fun h => ?_) (fun h => ?_)
  refine srve 20 [(4, B false)] [] ?_
  cases h
  exact pwp_ret rz
  refine pwp_skip ?_
  refine pwp_seq ?_
  refine srve 20 [(2, .fptr (Enc.cells a0) 0), (3, .fptr (Enc.cells a1) 0), (14, B ((!(a0.fN == a1.fN))))] [] ?_
  refine pc h (fun h => ?_) (fun h => ?_)
  refine srve 20 [(4, B false)] [] ?_
  cases h
  exact pwp_ret rz
  refine pwp_skip ?_
  refine pwp_seq ?_
  refine srve 20 [(19, B ((!(a0.fS.toList == a1.fS.toList))))] [] ?_
  refine pc h (fun h => ?_) (fun h => ?_)
  refine srve 20 [(4, B false)] [] ?_
  cases h
  exact pwp_ret rz
  refine pwp_skip ?_
  refine srve 20 [(4, B true)] [] ?_
  cases h
  exact pwp_ret rz
def laws_eqColumn (a0 : T_impl_Column) (a1 : T_impl_Column) : Option Bool := bif (!(a0.fKind == a1.fKind)) then some false else bif (!(a0.fEmpty == a1.fEmpty)) then some false else some true
theorem ok_laws_eqColumn {a0 : T_impl_Column} {a1 : T_impl_Column} {y : Bool} (h : laws_eqColumn a0 a1 = some y) : OK Tryz.prog 82 [E a0, E a1] (B y) := by
  refine OK_of_pwp τ_ok Tryz.func82 rfl (by kernel_rfl) rfl fun Γ hX => ?_
  unfold laws_eqColumn at h
  refine srve 15 [(2, .fptr (Enc.cells a0) 0), (3, .fptr (Enc.cells a1) 0)] [] ?_
  refine pwp_seq ?_
  refine srve 15 [(2, .fptr (Enc.cells a0) 0), (3, .fptr (Enc.cells a1) 0), (9, B ((!(a0.fKind == a1.fKind))))] [] ?_
  refine pc h (fun h => ?_) (fun h => ?_)
  refine srve 15 [(4, B false)] [] ?_
  cases h
  exact pwp_ret rz
  refine pwp_skip ?_
  refine pwp_seq ?_
  refine srve 15 [(14, B ((!(a0.fEmpty == a1.fEmpty))))] [] ?_
  refine pc h (fun h => ?_) (fun h => ?_)
  refine srve 15 [(4, B false)] [] ?_
  cases h
  exact pwp_ret rz
  refine pwp_skip ?_
  refine srve 15 [(4, B true)] [] ?_
  cases h
  exact pwp_ret rz
def laws_eqPart (a0 : T_impl_Part) (a1 : T_impl_Part) : Option Bool := bif (!(a0.fKind == a1.fKind)) then some false else bif (!(a0.fN == a1.fN)) then some false else (laws_eqValue a0.fV a1.fV).bind fun v3 => bif (!v3) then some false else some true
theorem ok_laws_eqPart {a0 : T_impl_Part} {a1 : T_impl_Part} {y : Bool} (h : laws_eqPart a0 a1 = some y) : OK Tryz.prog 84 [E a0, E a1] (B y) := by
  refine OK_of_pwp τ_ok Tryz.func84 rfl (by kernel_rfl) rfl fun Γ hX => ?_
  unfold laws_eqPart at h
  refine srve 21 [(2, .fptr (Enc.cells a0) 0), (3, .fptr (Enc.cells a1) 0)] [] ?_
  refine pwp_seq ?_
  refine srve 21 [(2, .fptr (Enc.cells a0) 0), (3, .fptr (Enc.cells a1) 0), (9, B ((!(a0.fKind == a1.fKind))))] [] ?_
  refine pc h (fun h => ?_) (fun h => ?_)
  refine srve 21 [(4, B false)] [] ?_
  cases h
  exact pwp_ret rz
  refine pwp_skip ?_
  refine pwp_seq ?_
  refine srve 21 [(2, .fptr (Enc.cells a0) 0), (3, .fptr (Enc.cells a1) 0), (14, B ((!(a0.fN == a1.fN))))] [] ?_
  refine pc h (fun h => ?_) (fun h => ?_)
  refine srve 21 [(4, B false)] [] ?_
  cases h
  exact pwp_ret rz
  refine pwp_skip ?_
  refine pwp_seq ?_
  refine srv 4 21 [(16, E a0.fV), (18, E a1.fV)] [] ?_
  obtain ⟨v3, hv4, h⟩ := bindS h
  refine opsP_callF τ 19 (ok_laws_eqValue hv4) (FzTo.frz rfl) rfl (by kernel_rfl) ?_
  refine ve 1 21 [(20, B ((!v3)))] [] ?_
  refine pc h (fun h => ?_) (fun h => ?_)
  refine srve 21 [(4, B false)] [] ?_
  cases h
  exact pwp_ret rz
  refine pwp_skip ?_
  refine srve 21 [(4, B true)] [] ?_
  cases h
  exact pwp_ret rz
def laws_markText_l0 : Nat → Int → ByteArray → Option ByteArray
  | 0, _, _ => none
  | f4 + 1, x2, x3 => bif (decide (x2 > 0)) then (addS ((ByteArray.mk (List.toArray (([(u8 ((w64 (48 + ((x2.tmod 10))))))] : List UInt8))))) x3).bind fun v7 => (laws_markText_l0 f4) ((w64 (x2.tdiv 10))) v7 else (addS ((ByteArray.mk #[109])) x3).bind fun v9 => some v9
def laws_markText (a0 : Int) : Option ByteArray := bif (decide (a0 ≤ 0)) then some ((ByteArray.mk #[109, 48])) else laws_markText_l0 FUEL a0 ((ByteArray.mk #[]))
theorem ok_laws_markText {a0 : Int} {y : ByteArray} (h : laws_markText a0 = some y) : OK Tryz.prog 86 [I a0] (S y) := by
  refine OK_of_pwp τ_ok Tryz.func86 rfl (by kernel_rfl) rfl fun Γ hX => ?_
  unfold laws_markText at h
  refine srve 20 [(0, I a0)] [] ?_
  refine pwp_seq ?_
  refine srve 20 [(0, I a0), (5, B ((decide (a0 ≤ 0))))] [] ?_
  refine pc h (fun h => ?_) (fun h => ?_)
  refine srve 20 [(2, S ((ByteArray.mk #[109, 48])))] [] ?_
  cases h
  exact pwp_ret rz
  refine pwp_skip ?_
  refine srve 20 [(0, I a0), (3, S ((ByteArray.mk #[])))] [] ?_
  refine pwp_seq ?_
  refine pwp_block ?_
  refine pwp_loop (ι := Nat × Int × ByteArray) (fun (f4, x2, x3) => (⟨20, [(0, I x2), (3, S x3)], []⟩ : St)) (fun (f4, x2, x3) => laws_markText_l0 f4 x2 x3 = some y) (fun (f4, x2, x3) => f4) (FUEL, a0, (ByteArray.mk #[])) h ((Imp.to (st' := ⟨20, [(0, I a0), (3, S ((ByteArray.mk #[])))], []⟩) [0, 3] (by kernel_rfl)).trans (Imp.to [0, 3] (by kernel_rfl))) ?_
  rintro ⟨f4, x2, x3⟩ h
  dsimp only at h ⊢
  rcases f4 with _ | f4
  cases h
  rw [laws_markText_l0] at h
  refine pwp_seq ?_
  refine srve 20 [(0, I x2), (3, S x3), (7, B ((decide (x2 > 0))))] [] ?_
  refine pc h (fun h => ?_) (fun h => ?_)
  refine pwp_skip ?_
  refine pwp_block ?_
  refine srv 3 20 [(0, I x2), (3, S x3), (10, I ((w64 (48 + ((x2.tmod 10))))))] [] ?_
  refine opsP_cv8 τ_ok 11 ((w64 (48 + ((x2.tmod 10))))) (by kernel_rfl) ?_
  refine v 1 20 [(0, I x2), (3, S x3), (12, .arr 1 (([(u8 ((w64 (48 + ((x2.tmod 10))))))] : List UInt8)).length (eL ([(u8 ((w64 (48 + ((x2.tmod 10))))))] : List UInt8)) true)] [] ?_
  refine opsP_cvs τ_ok 13 (([(u8 ((w64 (48 + ((x2.tmod 10))))))] : List UInt8)) (by kernel_rfl) ?_
  refine v 1 20 [(0, I x2), (13, S ((ByteArray.mk (List.toArray (([(u8 ((w64 (48 + ((x2.tmod 10))))))] : List UInt8)))))), (14, S x3)] [] ?_
  obtain ⟨v7, hv8, h⟩ := bindS h
  refine opsP_ads τ_ok 15 hv8 (by kernel_rfl) ?_
  refine ve 1 20 [(0, I x2), (3, S v7)] [] ?_
  refine rve 20 [(0, I ((w64 (x2.tdiv 10)))), (3, S v7)] [] ?_
  exact ⟨(f4, (w64 (x2.tdiv 10)), v7), h, Nat.lt_succ_self _, (Imp.to (st' := ⟨20, [(0, I ((w64 (x2.tdiv 10)))), (3, S v7)], []⟩) [0, 3] (by kernel_rfl)).trans (Imp.to [0, 3] (by kernel_rfl))⟩
  refine pwp_exit ?_
  refine srv 1 20 [(18, S x3)] [] ?_
  obtain ⟨v9, hv10, h⟩ := bindS h
  refine opsP_ads τ_ok 19 hv10 (by kernel_rfl) ?_
  refine ve 1 20 [(2, S v9)] [] ?_
  cases h
  exact pwp_ret rz
def laws_szIntS (a0 : List Int) (a1 : Int) : Option Int := bif (decide (((w64 (a1 - ((a0.length : Int))))) < 0)) then some (-1) else some ((w64 (a1 - ((a0.length : Int)))))
theorem ok_laws_szIntS {a0 : List Int} {a1 : Int} {y : Int} (h : laws_szIntS a0 a1 = some y) : OK Tryz.prog 102 [A a0, I a1] (I y) := by
  refine OK_of_pwp τ_ok Tryz.func102 rfl (by kernel_rfl) rfl fun Γ hX => ?_
  unfold laws_szIntS at h
  refine srve 12 [(0, A a0), (1, I a1)] [] ?_
  refine srve 12 [(1, I ((w64 (a1 - ((a0.length : Int))))))] [] ?_
  refine pwp_seq ?_
  refine srve 12 [(1, I ((w64 (a1 - ((a0.length : Int)))))), (10, B ((decide (((w64 (a1 - ((a0.length : Int))))) < 0))))] [] ?_
  refine pc h (fun h => ?_) (fun h => ?_)
  refine srve 12 [(4, I (-1))] [] ?_
  cases h
  exact pwp_ret rz
  refine pwp_skip ?_
  refine srve 12 [(4, I ((w64 (a1 - ((a0.length : Int))))))] [] ?_
  cases h
  exact pwp_ret rz
def laws_szValue (a0 : T_laws_Value) (a1 : Int) : Option Int := bif (decide (((w64 (a1 - ((a0.fS.size : Int))))) < 0)) then some (-1) else some ((w64 (a1 - ((a0.fS.size : Int)))))
theorem ok_laws_szValue {a0 : T_laws_Value} {a1 : Int} {y : Int} (h : laws_szValue a0 a1 = some y) : OK Tryz.prog 103 [E a0, I a1] (I y) := by
  refine OK_of_pwp τ_ok Tryz.func103 rfl (by kernel_rfl) rfl fun Γ hX => ?_
  unfold laws_szValue at h
  refine srve 13 [(1, I a1), (2, .fptr (Enc.cells a0) 0)] [] ?_
  refine srve 13 [(1, I ((w64 (a1 - ((a0.fS.size : Int))))))] [] ?_
  refine pwp_seq ?_
  refine srve 13 [(1, I ((w64 (a1 - ((a0.fS.size : Int)))))), (11, B ((decide (((w64 (a1 - ((a0.fS.size : Int))))) < 0))))] [] ?_
  refine pc h (fun h => ?_) (fun h => ?_)
  refine srve 13 [(4, I (-1))] [] ?_
  cases h
  exact pwp_ret rz
  refine pwp_skip ?_
  refine srve 13 [(4, I ((w64 (a1 - ((a0.fS.size : Int))))))] [] ?_
  cases h
  exact pwp_ret rz
def spec_l1In (a0 : Int) (a1 : Int) (a2 : Int) : Option Bool := bif (decide (a0 ≥ a1)) then some ((decide (a0 ≤ a2))) else some false
theorem ok_spec_l1In {a0 : Int} {a1 : Int} {a2 : Int} {y : Bool} (h : spec_l1In a0 a1 a2 = some y) : OK Tryz.prog 105 [I a0, I a1, I a2] (B y) := by
  refine OK_of_pwp τ_ok Tryz.func105 rfl (by kernel_rfl) rfl fun Γ hX => ?_
  unfold spec_l1In at h
  refine srve 15 [(0, I a0), (1, I a1), (2, I a2)] [] ?_
  refine srv 4 15 [(0, I a0), (2, I a2), (10, B ((decide (a0 ≥ a1))))] [] ?_
  rcases fk ((decide (a0 ≥ a1))) with hc1 | hc1
  replace h := bT hc1 h
  rw [hc1]
  refine ve 5 15 [(6, B ((decide (a0 ≤ a2))))] [] ?_
  cases h
  exact pwp_ret rz
  replace h := bF hc1 h
  rw [hc1]
  refine ve 5 15 [(6, B false)] [] ?_
  cases h
  exact pwp_ret rz
def spec_l12Columns_l0 (a0 : List T_impl_Column) (a1 : List Int) : Nat → Int → Option Bool
  | 0, _ => none
  | f2 + 1, x1 => bif (decide (x1 < ((a1.length : Int)))) then (getI a1 x1).bind fun v5 => (spec_l1In v5 0 ((w64 (((a0.length : Int)) - 1)))).bind fun v7 => bif (!v7) then some false else (spec_l12Columns_l0 a0 a1 f2) ((w64 (x1 + 1))) else (spec_l1In ((a1.length : Int)) 1 4).bind fun v10 => some v10
def spec_l12Columns (a0 : List T_impl_Column) (a1 : List Int) : Option Bool := spec_l12Columns_l0 a0 a1 FUEL 0
theorem ok_spec_l12Columns {a0 : List T_impl_Column} {a1 : List Int} {y : Bool} (h : spec_l12Columns a0 a1 = some y) : OK Tryz.prog 108 [A a0, A a1] (B y) := by
  refine OK_of_pwp τ_ok Tryz.func108 rfl (by kernel_rfl) rfl fun Γ hX => ?_
  unfold spec_l12Columns at h
  refine srve 24 [(0, A a0), (1, A a1)] [] ?_
  refine pwp_seq ?_
  refine srve 24 [(0, A a0), (1, A a1), (5, I 0)] [] ?_
  refine pwp_block ?_
  refine pwp_loop (ι := Nat × Int) (fun (f2, x1) => (⟨24, [(0, A a0), (1, A a1), (5, I x1)], []⟩ : St)) (fun (f2, x1) => spec_l12Columns_l0 a0 a1 f2 x1 = some y) (fun (f2, x1) => f2) (FUEL, 0) h ((Imp.to (st' := ⟨24, [(0, A a0), (1, A a1), (5, I 0)], []⟩) [0, 1, 5] (by kernel_rfl)).trans (Imp.to [0, 1, 5] (by kernel_rfl))) ?_
  rintro ⟨f2, x1⟩ h
  dsimp only at h ⊢
  rcases f2 with _ | f2
  cases h
  rw [spec_l12Columns_l0] at h
  refine pwp_seq ?_
  refine srve 24 [(0, A a0), (1, A a1), (5, I x1), (9, B ((decide (x1 < ((a1.length : Int))))))] [] ?_
  refine pc h (fun h => ?_) (fun h => ?_)
  refine pwp_skip ?_
  refine pwp_seq ?_
  refine pwp_block ?_
  refine srv 2 24 [(0, A a0), (1, A a1), (5, I x1), (12, A a1), (13, I x1)] [] ?_
  obtain ⟨v5, hv6, h⟩ := bindS h
  refine opsP_idx τ_ok 14 hv6 (by kernel_rfl) ?_
  refine v 4 24 [(0, A a0), (1, A a1), (5, I x1), (15, I v5), (18, I ((w64 (((a0.length : Int)) - 1))))] [] ?_
  obtain ⟨v7, hv8, h⟩ := bindS h
  refine opsP_callF τ 19 (ok_spec_l1In hv8) (FzTo.frz rfl) rfl (by kernel_rfl) ?_
  refine ve 1 24 [(0, A a0), (1, A a1), (5, I x1), (20, B ((!v7)))] [] ?_
  refine pc h (fun h => ?_) (fun h => ?_)
  refine srve 24 [(4, B false)] [] ?_
  cases h
  exact pwp_ret rz
  refine pwp_skip ?_
  refine rve 24 [(0, A a0), (1, A a1), (5, I ((w64 (x1 + 1))))] [] ?_
  exact ⟨(f2, (w64 (x1 + 1))), h, Nat.lt_succ_self _, (Imp.to (st' := ⟨24, [(0, A a0), (1, A a1), (5, I ((w64 (x1 + 1))))], []⟩) [0, 1, 5] (by kernel_rfl)).trans (Imp.to [0, 1, 5] (by kernel_rfl))⟩
  refine pwp_exit ?_
  refine srv 2 24 [(22, I ((a1.length : Int)))] [] ?_
  obtain ⟨v10, hv11, h⟩ := bindS h
  refine opsP_callF τ 23 (ok_spec_l1In hv11) (FzTo.frz rfl) rfl (by kernel_rfl) ?_
  refine ve 1 24 [(4, B v10)] [] ?_
  cases h
  exact pwp_ret rz
def laws_toIntS_l0 (a0 : List Int) : Nat → Int → (List Int) → Option (List Int)
  | 0, _, _ => none
  | f6 + 1, x4, x5 => bif (decide (x4 < ((a0.length : Int)))) then (getI a0 x4).bind fun v9 => (getI x5 x4).bind fun v11 => (laws_toIntS_l0 a0 f6) ((w64 (x4 + 1))) ((x5.set x4.toNat v9)) else some x5
def laws_toIntS (a0 : List Int) : Option (List Int) := (mkI ((a0.length : Int)) ((0 : Int))).bind fun v1 => laws_toIntS_l0 a0 FUEL 0 v1
theorem ok_laws_toIntS {a0 : List Int} {y : List Int} (h : laws_toIntS a0 = some y) : OK Tryz.prog 109 [A a0] (O y) := by
  refine OK_of_pwp τ_ok Tryz.func109 rfl (by kernel_rfl) rfl fun Γ hX => ?_
  unfold laws_toIntS at h
  refine srve 22 [(0, A a0)] [] ?_
  refine srv 2 22 [(0, A a0), (6, I ((a0.length : Int)))] [] ?_
  obtain ⟨v1, hv2, h⟩ := bindS h
  refine opsP_mk τ_ok 7 0 _ hv2 (by kernel_rfl) (by kernel_rfl) ?_
  refine ve 1 22 [(0, A a0), (3, .ref 0 0 0 1 v1.length false)] [some ⟨0, eL v1⟩] ?_
  refine pwp_seq ?_
  refine srve 22 [(0, A a0), (3, .ref 0 0 0 1 v1.length false), (4, I 0)] [some ⟨0, eL v1⟩] ?_
  refine pwp_block ?_
  refine pwp_loop (ι := Nat × Int × (List Int)) (fun (f6, x4, x5) => (⟨22, [(0, A a0), (3, .ref 0 0 0 1 x5.length false), (4, I x4)], [some ⟨0, eL x5⟩]⟩ : St)) (fun (f6, x4, x5) => laws_toIntS_l0 a0 f6 x4 x5 = some y) (fun (f6, x4, x5) => f6) (FUEL, 0, v1) h ((Imp.to (st' := ⟨22, [(0, A a0), (3, .ref 0 0 0 1 v1.length false), (4, I 0)], [some ⟨0, eL v1⟩]⟩) [0, 3, 4] (by kernel_rfl)).trans (Imp.to [0, 3, 4] (by kernel_rfl))) ?_
  rintro ⟨f6, x4, x5⟩ h
  dsimp only at h ⊢
  rcases f6 with _ | f6
  cases h
  rw [laws_toIntS_l0] at h
  refine pwp_seq ?_
  refine srve 22 [(0, A a0), (3, .ref 0 0 0 1 x5.length false), (4, I x4), (11, B ((decide (x4 < ((a0.length : Int))))))] [some ⟨0, eL x5⟩] ?_
  refine pc h (fun h => ?_) (fun h => ?_)
  refine pwp_skip ?_
  refine pwp_seq ?_
  refine pwp_block ?_
  refine rv 4 22 [(0, A a0), (3, .ref 0 0 0 1 x5.length false), (4, I x4), (14, .ref 0 0 0 1 x5.length false), (15, I x4), (16, A a0), (17, I x4)] [some ⟨0, eL x5⟩] ?_
  obtain ⟨v9, hv10, h⟩ := bindS h
  refine opsP_idx τ_ok 18 hv10 (by kernel_rfl) ?_
  refine v 1 22 [(0, A a0), (3, .ref 0 0 0 1 x5.length false), (4, I x4), (14, .ref 0 0 0 1 x5.length false), (15, I x4), (19, I v9)] [some ⟨0, eL x5⟩] ?_
  obtain ⟨v11, hv12, h⟩ := bindS h
  refine opsP_idr τ_ok 20 0 0 x5.length hv12 rfl (by kernel_rfl) ?_
  refine v 0 22 [(0, A a0), (3, .ref 0 0 0 1 x5.length false), (4, I x4), (19, I v9), (20, .ptr 0 0 (x4.toNat * 1))] [some ⟨0, eL x5⟩] ?_
  refine opsP_ste (vs := [I v9]) τ_ok 3 0 0 0 v9 hv12 (by kernel_rfl) (by kernel_rfl) (by kernel_rfl) (renC trivial (renC (ren_ref (List.length_set ..).symm) (renC trivial (renC trivial (renC trivial renC0))))) ?_
  refine ve 0 22 [(0, A a0), (3, .ref 0 0 0 1 ((x5.set x4.toNat v9)).length false), (4, I x4)] [some ⟨0, eL ((x5.set x4.toNat v9))⟩] ?_
  refine rve 22 [(0, A a0), (3, .ref 0 0 0 1 ((x5.set x4.toNat v9)).length false), (4, I ((w64 (x4 + 1))))] [some ⟨0, eL ((x5.set x4.toNat v9))⟩] ?_
  exact ⟨(f6, (w64 (x4 + 1)), (x5.set x4.toNat v9)), h, Nat.lt_succ_self _, (Imp.to (st' := ⟨22, [(0, A a0), (3, .ref 0 0 0 1 ((x5.set x4.toNat v9)).length false), (4, I ((w64 (x4 + 1))))], [some ⟨0, eL ((x5.set x4.toNat v9))⟩]⟩) [0, 3, 4] (by kernel_rfl)).trans (Imp.to [0, 3, 4] (by kernel_rfl))⟩
  refine pwp_exit ?_
  refine srve 22 [(2, .ref 0 0 0 1 x5.length false)] [some ⟨0, eL x5⟩] ?_
  have h := si h
  subst h
  exact pwp_ret (rt (.ref 0 0 0 1 x5.length false) (OutP.list (v := 0) (by kernel_rfl)))
def laws_toValue (a0 : T_laws_Value) : Option T_impl_Value := some ({ (({ (({ ((T_impl_Value.mk 0 0 (ByteArray.mk #[]))) with fKind := a0.fKind }) : T_impl_Value) with fN := a0.fN }) : T_impl_Value) with fS := a0.fS })
theorem ok_laws_toValue {a0 : T_laws_Value} {y : T_impl_Value} (h : laws_toValue a0 = some y) : OK Tryz.prog 110 [E a0] (E y) := by
  refine OK_of_pwp τ_ok Tryz.func110 rfl (by kernel_rfl) rfl fun Γ hX => ?_
  unfold laws_toValue at h
  refine srveM [2, 3] 14 [(1, .fptr (Enc.cells a0) 0), (2, .ptr 0 0 0)] [some ⟨0, Enc.cells ((T_impl_Value.mk 0 0 (ByteArray.mk #[])))⟩] ?_
  refine srveM [2, 3] 14 [(1, .fptr (Enc.cells a0) 0), (2, .ptr 0 0 0), (3, .ptr 1 0 0)] [some ⟨0, Enc.cells ((T_impl_Value.mk 0 0 (ByteArray.mk #[])))⟩, some ⟨0, Enc.cells ((T_impl_Value.mk 0 0 (ByteArray.mk #[])))⟩] ?_
  refine srveM [2, 3] 14 [(1, .fptr (Enc.cells a0) 0), (2, .ptr 0 0 0), (3, .ptr 1 0 0)] [some ⟨0, Enc.cells ((T_impl_Value.mk 0 0 (ByteArray.mk #[])))⟩, some ⟨0, Enc.cells ({ ((T_impl_Value.mk 0 0 (ByteArray.mk #[]))) with fKind := a0.fKind })⟩] ?_
  refine srveM [2, 3] 14 [(1, .fptr (Enc.cells a0) 0), (2, .ptr 0 0 0), (3, .ptr 1 0 0)] [some ⟨0, Enc.cells ((T_impl_Value.mk 0 0 (ByteArray.mk #[])))⟩, some ⟨0, Enc.cells ({ (({ ((T_impl_Value.mk 0 0 (ByteArray.mk #[]))) with fKind := a0.fKind }) : T_impl_Value) with fN := a0.fN })⟩] ?_
  refine srveM [2, 3] 14 [(2, .ptr 0 0 0), (3, .ptr 1 0 0)] [some ⟨0, Enc.cells ((T_impl_Value.mk 0 0 (ByteArray.mk #[])))⟩, some ⟨0, Enc.cells ({ (({ (({ ((T_impl_Value.mk 0 0 (ByteArray.mk #[]))) with fKind := a0.fKind }) : T_impl_Value) with fN := a0.fN }) : T_impl_Value) with fS := a0.fS })⟩] ?_
  refine srveM [2, 3] 14 [(2, .ptr 0 0 0)] [some ⟨0, Enc.cells ({ (({ (({ ((T_impl_Value.mk 0 0 (ByteArray.mk #[]))) with fKind := a0.fKind }) : T_impl_Value) with fN := a0.fN }) : T_impl_Value) with fS := a0.fS })⟩, some ⟨0, Enc.cells ({ (({ (({ ((T_impl_Value.mk 0 0 (ByteArray.mk #[]))) with fKind := a0.fKind }) : T_impl_Value) with fN := a0.fN }) : T_impl_Value) with fS := a0.fS })⟩] ?_
  cases h
  exact pwp_ret rz
def impl_between (a0 : Int) (a1 : Int) (a2 : Int) : Option Bool := bif (decide (a0 ≥ a1)) then some ((decide (a0 ≤ a2))) else some false
theorem ok_impl_between {a0 : Int} {a1 : Int} {a2 : Int} {y : Bool} (h : impl_between a0 a1 a2 = some y) : OK Tryz.prog 115 [I a0, I a1, I a2] (B y) := by
  refine OK_of_pwp τ_ok Tryz.func115 rfl (by kernel_rfl) rfl fun Γ hX => ?_
  unfold impl_between at h
  refine srve 15 [(0, I a0), (1, I a1), (2, I a2)] [] ?_
  refine srv 4 15 [(0, I a0), (2, I a2), (10, B ((decide (a0 ≥ a1))))] [] ?_
  rcases fk ((decide (a0 ≥ a1))) with hc1 | hc1
  replace h := bT hc1 h
  rw [hc1]
  refine ve 5 15 [(6, B ((decide (a0 ≤ a2))))] [] ?_
  cases h
  exact pwp_ret rz
  replace h := bF hc1 h
  rw [hc1]
  refine ve 5 15 [(6, B false)] [] ?_
  cases h
  exact pwp_ret rz
def spec_ColumnsOk_l0 (a0 : List T_impl_Column) : Nat → Int → Option Bool
  | 0, _ => none
  | f2 + 1, x1 => bif (decide (x1 < ((a0.length : Int)))) then (getI a0 x1).bind fun v5 => (spec_l1In v5.fKind 1 3).bind fun v7 => bif (!v7) then some false else (spec_ColumnsOk_l0 a0 f2) ((w64 (x1 + 1))) else some ((decide (((a0.length : Int)) ≤ 4)))
def spec_ColumnsOk (a0 : List T_impl_Column) : Option Bool := spec_ColumnsOk_l0 a0 FUEL 0
theorem ok_spec_ColumnsOk {a0 : List T_impl_Column} {y : Bool} (h : spec_ColumnsOk a0 = some y) : OK Tryz.prog 119 [A a0] (B y) := by
  refine OK_of_pwp τ_ok Tryz.func119 rfl (by kernel_rfl) rfl fun Γ hX => ?_
  unfold spec_ColumnsOk at h
  refine srve 20 [(0, A a0)] [] ?_
  refine pwp_seq ?_
  refine srve 20 [(0, A a0), (3, I 0)] [] ?_
  refine pwp_block ?_
  refine pwp_loop (ι := Nat × Int) (fun (f2, x1) => (⟨20, [(0, A a0), (3, I x1)], []⟩ : St)) (fun (f2, x1) => spec_ColumnsOk_l0 a0 f2 x1 = some y) (fun (f2, x1) => f2) (FUEL, 0) h ((Imp.to (st' := ⟨20, [(0, A a0), (3, I 0)], []⟩) [0, 3] (by kernel_rfl)).trans (Imp.to [0, 3] (by kernel_rfl))) ?_
  rintro ⟨f2, x1⟩ h
  dsimp only at h ⊢
  rcases f2 with _ | f2
  cases h
  rw [spec_ColumnsOk_l0] at h
  refine pwp_seq ?_
  refine srve 20 [(0, A a0), (3, I x1), (7, B ((decide (x1 < ((a0.length : Int))))))] [] ?_
  refine pc h (fun h => ?_) (fun h => ?_)
  refine pwp_skip ?_
  refine pwp_seq ?_
  refine pwp_block ?_
  refine srv 2 20 [(0, A a0), (3, I x1), (10, A a0), (11, I x1)] [] ?_
  obtain ⟨v5, hv6, h⟩ := bindS h
  refine opsP_idx τ_ok 12 hv6 (by kernel_rfl) ?_
  refine v 2 20 [(0, A a0), (3, I x1), (14, I v5.fKind)] [] ?_
  obtain ⟨v7, hv8, h⟩ := bindS h
  refine opsP_callF τ 15 (ok_spec_l1In hv8) (FzTo.frz rfl) rfl (by kernel_rfl) ?_
  refine ve 1 20 [(0, A a0), (3, I x1), (16, B ((!v7)))] [] ?_
  refine pc h (fun h => ?_) (fun h => ?_)
  refine srve 20 [(2, B false)] [] ?_
  cases h
  exact pwp_ret rz
  refine pwp_skip ?_
  refine rve 20 [(0, A a0), (3, I ((w64 (x1 + 1))))] [] ?_
  exact ⟨(f2, (w64 (x1 + 1))), h, Nat.lt_succ_self _, (Imp.to (st' := ⟨20, [(0, A a0), (3, I ((w64 (x1 + 1))))], []⟩) [0, 3] (by kernel_rfl)).trans (Imp.to [0, 3] (by kernel_rfl))⟩
  refine pwp_exit ?_
  refine srve 20 [(2, B ((decide (((a0.length : Int)) ≤ 4))))] [] ?_
  cases h
  exact pwp_ret rz
def impl_Part_takes_j1 (x3 : Bool) : Option Int := bif x3 then some 1 else some 0
def impl_Part_takes_j0 (a0 : T_impl_Part) (x1 : Bool) : Option Int := bif x1 then some 2 else bif (a0.fKind == 7) then impl_Part_takes_j1 ((a0.fKind == 7)) else impl_Part_takes_j1 ((a0.fKind == 8))
def impl_Part_takes (a0 : T_impl_Part) : Option Int := bif (a0.fKind == 3) then impl_Part_takes_j0 a0 ((a0.fKind == 3)) else bif (a0.fKind == 4) then impl_Part_takes_j0 a0 ((a0.fKind == 4)) else bif (a0.fKind == 5) then impl_Part_takes_j0 a0 ((a0.fKind == 5)) else impl_Part_takes_j0 a0 ((a0.fKind == 6))
theorem ok_impl_Part_takes {a0 : T_impl_Part} {y : Int} (h : impl_Part_takes a0 = some y) : OK Tryz.prog 125 [E a0] (I y) := by
  refine OK_of_pwp τ_ok Tryz.func125 rfl (by kernel_rfl) rfl fun Γ hX => ?_
  unfold impl_Part_takes at h
  refine srve 13 [(1, .fptr (Enc.cells a0) 0)] [] ?_
  refine pwp_seq ?_
  refine srve 13 [(4, I a0.fKind)] [] ?_
  refine pwp_block ?_
  refine pwp_seq ?_
  refine pwp_join (σ := Bool) (fun x1 => (⟨13, [(4, I a0.fKind), (5, B x1)], []⟩ : St)) (fun x1 => impl_Part_takes_j0 a0 x1 = some y) ?_ ?_
  refine srve 13 [(4, I a0.fKind), (5, B ((a0.fKind == 3)))] [] ?_
  refine pc h (fun h => ?_) (fun h => ?_)
  refine pwp_skip ?_
  exact ⟨(a0.fKind == 3), h, (Imp.to (st' := ⟨13, [(4, I a0.fKind), (5, B ((a0.fKind == 3)))], []⟩) [4, 5] (by kernel_rfl)).trans (Imp.to [4, 5] (by kernel_rfl))⟩
  refine srve 13 [(4, I a0.fKind), (5, B ((a0.fKind == 4)))] [] ?_
  refine pc h (fun h => ?_) (fun h => ?_)
  refine pwp_skip ?_
  exact ⟨(a0.fKind == 4), h, (Imp.to (st' := ⟨13, [(4, I a0.fKind), (5, B ((a0.fKind == 4)))], []⟩) [4, 5] (by kernel_rfl)).trans (Imp.to [4, 5] (by kernel_rfl))⟩
  refine srve 13 [(4, I a0.fKind), (5, B ((a0.fKind == 5)))] [] ?_
  refine pc h (fun h => ?_) (fun h => ?_)
  refine pwp_skip ?_
  exact ⟨(a0.fKind == 5), h, (Imp.to (st' := ⟨13, [(4, I a0.fKind), (5, B ((a0.fKind == 5)))], []⟩) [4, 5] (by kernel_rfl)).trans (Imp.to [4, 5] (by kernel_rfl))⟩
  refine rve 13 [(4, I a0.fKind), (5, B ((a0.fKind == 6)))] [] ?_
  exact ⟨(a0.fKind == 6), h, (Imp.to (st' := ⟨13, [(4, I a0.fKind), (5, B ((a0.fKind == 6)))], []⟩) [4, 5] (by kernel_rfl)).trans (Imp.to [4, 5] (by kernel_rfl))⟩
  rintro x1 h
  unfold impl_Part_takes_j0 at h
  refine pc h (fun h => ?_) (fun h => ?_)
  refine srve 13 [(2, I 2)] [] ?_
  cases h
  exact pwp_ret rz
  refine pwp_seq ?_
  refine pwp_join (σ := Bool) (fun x3 => (⟨13, [(10, B x3)], []⟩ : St)) (fun x3 => impl_Part_takes_j1 x3 = some y) ?_ ?_
  refine srve 13 [(4, I a0.fKind), (10, B ((a0.fKind == 7)))] [] ?_
  refine pc h (fun h => ?_) (fun h => ?_)
  refine pwp_skip ?_
  exact ⟨(a0.fKind == 7), h, (Imp.to (st' := ⟨13, [(10, B ((a0.fKind == 7)))], []⟩) [10] (by kernel_rfl)).trans (Imp.to [10] (by kernel_rfl))⟩
  refine rve 13 [(10, B ((a0.fKind == 8)))] [] ?_
  exact ⟨(a0.fKind == 8), h, (Imp.to (st' := ⟨13, [(10, B ((a0.fKind == 8)))], []⟩) [10] (by kernel_rfl)).trans (Imp.to [10] (by kernel_rfl))⟩
  rintro x3 h
  unfold impl_Part_takes_j1 at h
  refine pc h (fun h => ?_) (fun h => ?_)
  refine srve 13 [(2, I 1)] [] ?_
  cases h
  exact pwp_ret rz
  refine pwp_skip ?_
  refine srve 13 [(2, I 0)] [] ?_
  cases h
  exact pwp_ret rz
def spec_l3Same_l0 (a0 : List T_impl_Value) (a1 : List T_impl_Value) : Nat → Int → Option Bool
  | 0, _ => none
  | f3 + 1, x2 => bif (decide (x2 < ((a0.length : Int)))) then (getI a0 x2).bind fun v6 => (getI a1 x2).bind fun v8 => bif (!(eq_T_impl_Value v6 v8)) then some false else (spec_l3Same_l0 a0 a1 f3) ((w64 (x2 + 1))) else some true
def spec_l3Same (a0 : List T_impl_Value) (a1 : List T_impl_Value) : Option Bool := bif (!(((a0.length : Int)) == ((a1.length : Int)))) then some false else spec_l3Same_l0 a0 a1 FUEL 0
theorem ok_spec_l3Same {a0 : List T_impl_Value} {a1 : List T_impl_Value} {y : Bool} (h : spec_l3Same a0 a1 = some y) : OK Tryz.prog 142 [A a0, A a1] (B y) := by
  refine OK_of_pwp τ_ok Tryz.func142 rfl (by kernel_rfl) rfl fun Γ hX => ?_
  unfold spec_l3Same at h
  refine srve 26 [(0, A a0), (1, A a1)] [] ?_
  refine pwp_seq ?_
  refine srve 26 [(0, A a0), (1, A a1), (10, B ((!(((a0.length : Int)) == ((a1.length : Int))))))] [] ?_
  refine pc h (fun h => ?_) (fun h => ?_)
  refine srve 26 [(4, B false)] [] ?_
  cases h
  exact pwp_ret rz
  refine pwp_skip ?_
  refine pwp_seq ?_
  refine srve 26 [(0, A a0), (1, A a1), (5, I 0)] [] ?_
  refine pwp_block ?_
  refine pwp_loop (ι := Nat × Int) (fun (f3, x2) => (⟨26, [(0, A a0), (1, A a1), (5, I x2)], []⟩ : St)) (fun (f3, x2) => spec_l3Same_l0 a0 a1 f3 x2 = some y) (fun (f3, x2) => f3) (FUEL, 0) h ((Imp.to (st' := ⟨26, [(0, A a0), (1, A a1), (5, I 0)], []⟩) [0, 1, 5] (by kernel_rfl)).trans (Imp.to [0, 1, 5] (by kernel_rfl))) ?_
  rintro ⟨f3, x2⟩ h
  dsimp only at h ⊢
  rcases f3 with _ | f3
  cases h
  rw [spec_l3Same_l0] at h
  refine pwp_seq ?_
  refine srve 26 [(0, A a0), (1, A a1), (5, I x2), (14, B ((decide (x2 < ((a0.length : Int))))))] [] ?_
  refine pc h (fun h => ?_) (fun h => ?_)
  refine pwp_skip ?_
  refine pwp_seq ?_
  refine pwp_block ?_
  refine pwp_seq ?_
  refine pwp_imp (Imp.to (st' := ⟨26, [(0, A a0), (1, A a1), (5, I x2)], []⟩) [0, 1, 5] (by kernel_rfl)) ?_
  refine pwp_any ([[], [], [], [], [], [], [], [], []]) ([[], [], [], [], [], [], [], [], []]) rfl (by kernel_rfl) ?_
  refine qA_ev (st' := ⟨26, [(18, I x2), (17, A a0), (0, A a0), (1, A a1), (5, I x2)], []⟩) τ_ok [] [] 2 (by exact trivial) (by kernel_rfl) ?_
  obtain ⟨v6, hv7, h⟩ := bindS h
  refine qA_E (dd := some 19) (x := .fptr (Enc.cells v6) 0) ([]) (⟨26, [(19, .fptr (Enc.cells v6) 0), (18, I x2), (17, A a0), (0, A a0), (1, A a1), (5, I x2)], []⟩) (fun Γ' hΓ => CoreE.of_y (idxV_sound τ_ok (by kernel_rfl) hv7)) (by kernel_rfl) (by kernel_rfl) (by exact trivial) (.inr (.inr rfl)) (by kernel_rfl) ?_
  refine qA_ev (st' := ⟨26, [(22, I x2), (21, A a1), (20, E v6), (19, .fptr (Enc.cells v6) 0), (18, I x2), (17, A a0), (0, A a0), (1, A a1), (5, I x2)], []⟩) τ_ok [] [] 3 (by exact trivial) (by kernel_rfl) ?_
  obtain ⟨v8, hv9, h⟩ := bindS h
  refine qA_E (dd := some 23) (x := .fptr (Enc.cells v8) 0) ([]) (⟨26, [(23, .fptr (Enc.cells v8) 0), (22, I x2), (21, A a1), (20, E v6), (19, .fptr (Enc.cells v6) 0), (18, I x2), (17, A a0), (0, A a0), (1, A a1), (5, I x2)], []⟩) (fun Γ' hΓ => CoreE.of_y (idxV_sound τ_ok (by kernel_rfl) hv9)) (by kernel_rfl) (by kernel_rfl) (by exact trivial) (.inr (.inr rfl)) (by kernel_rfl) ?_
  refine qA_ev (st' := ⟨26, [(25, B ((!(eq_T_impl_Value v6 v8)))), (24, E v8), (23, .fptr (Enc.cells v8) 0), (22, I x2), (21, A a1), (20, E v6), (19, .fptr (Enc.cells v6) 0), (18, I x2), (17, A a0), (0, A a0), (1, A a1), (5, I x2)], []⟩) τ_ok [] [] 2 (by exact trivial) (by kernel_rfl) ?_
  refine qA_end ?_
  refine opsP_imp (Imp.to (st' := ⟨26, [(0, A a0), (1, A a1), (5, I x2), (25, B ((!(eq_T_impl_Value v6 v8))))], []⟩) [0, 1, 5, 25] (by kernel_rfl)) ?_
  refine opsP_end rfl ?_
  refine pc h (fun h => ?_) (fun h => ?_)
  refine srve 26 [(4, B false)] [] ?_
  cases h
  exact pwp_ret rz
  refine pwp_skip ?_
  refine rve 26 [(0, A a0), (1, A a1), (5, I ((w64 (x2 + 1))))] [] ?_
  exact ⟨(f3, (w64 (x2 + 1))), h, Nat.lt_succ_self _, (Imp.to (st' := ⟨26, [(0, A a0), (1, A a1), (5, I ((w64 (x2 + 1))))], []⟩) [0, 1, 5] (by kernel_rfl)).trans (Imp.to [0, 1, 5] (by kernel_rfl))⟩
  refine pwp_exit ?_
  refine srve 26 [(4, B true)] [] ?_
  cases h
  exact pwp_ret rz
def slices_IndexFunc_impl_Bond_impl_Bond_l0 (a0 : List T_impl_Bond) (a1 : T_impl_Bond → Option Bool) : Nat → Int → Option Int
  | 0, _ => none
  | f2 + 1, x1 => bif (decide (x1 < ((a0.length : Int)))) then (getI a0 x1).bind fun v5 => (a1 v5).bind fun v7 => bif v7 then some x1 else (slices_IndexFunc_impl_Bond_impl_Bond_l0 a0 a1 f2) ((w64 (x1 + 1))) else some (-1)
def slices_IndexFunc_impl_Bond_impl_Bond (a0 : List T_impl_Bond) (a1 : T_impl_Bond → Option Bool) : Option Int := slices_IndexFunc_impl_Bond_impl_Bond_l0 a0 a1 FUEL 0
theorem ok_slices_IndexFunc_impl_Bond_impl_Bond {a0 : List T_impl_Bond} {g1 : FuncId} {c1 : List V} (hz1 : frzL c1 = true) {a1 : T_impl_Bond → Option Bool} (hp1 : ∀ x0 y, a1 x0 = some y → OK Tryz.prog g1 ([E x0] ++ c1) (B y)) {y : Int} (h : slices_IndexFunc_impl_Bond_impl_Bond a0 a1 = some y) : OK Tryz.prog 146 [A a0, .fn g1 c1] (I y) := by
  refine OK_of_pwp τ_ok Tryz.func146 rfl (by kernel_rfl) rfl fun Γ hX => ?_
  unfold slices_IndexFunc_impl_Bond_impl_Bond at h
  refine srve 19 [(0, A a0), (1, .fn g1 c1)] [] ?_
  refine pwp_seq ?_
  refine srve 19 [(0, A a0), (1, .fn g1 c1), (7, I ((a0.length : Int))), (8, I 0)] [] ?_
  refine pwp_block ?_
  refine pwp_loop (ι := Nat × Int) (fun (f2, x1) => (⟨19, [(0, A a0), (1, .fn g1 c1), (7, I ((a0.length : Int))), (8, I x1)], []⟩ : St)) (fun (f2, x1) => slices_IndexFunc_impl_Bond_impl_Bond_l0 a0 a1 f2 x1 = some y) (fun (f2, x1) => f2) (FUEL, 0) h ((Imp.to (st' := ⟨19, [(0, A a0), (1, .fn g1 c1), (7, I ((a0.length : Int))), (8, I 0)], []⟩) [0, 1, 7, 8] (by kernel_rfl)).trans (Imp.to [0, 1, 7, 8] (by kernel_rfl))) ?_
  rintro ⟨f2, x1⟩ h
  dsimp only at h ⊢
  rcases f2 with _ | f2
  cases h
  rw [slices_IndexFunc_impl_Bond_impl_Bond_l0] at h
  refine srve 19 [(0, A a0), (1, .fn g1 c1), (7, I ((a0.length : Int))), (8, I x1), (9, B ((decide (x1 < ((a0.length : Int))))))] [] ?_
  refine pwp_seq ?_
  refine pc h (fun h => ?_) (fun h => ?_)
  refine pwp_skip ?_
  refine pwp_seq ?_
  refine pwp_block ?_
  refine srve 19 [(0, A a0), (1, .fn g1 c1), (5, I x1), (7, I ((a0.length : Int))), (8, I x1)] [] ?_
  refine srv 3 19 [(0, A a0), (1, .fn g1 c1), (5, I x1), (7, I ((a0.length : Int))), (8, I x1), (11, .fn g1 c1), (12, A a0), (13, I x1)] [] ?_
  obtain ⟨v5, hv6, h⟩ := bindS h
  refine opsP_idx τ_ok 14 hv6 (by kernel_rfl) ?_
  refine v 1 19 [(0, A a0), (1, .fn g1 c1), (5, I x1), (7, I ((a0.length : Int))), (8, I x1), (11, .fn g1 c1), (15, E v5)] [] ?_
  obtain ⟨v7, hv8, h⟩ := bindS h
  refine opsP_callF τ 16 (hp1 _ _ hv8) (FzTo.frz rfl) (frz_app (xs := [E v5]) rfl hz1) (by kernel_rfl) ?_
  refine ve 0 19 [(0, A a0), (1, .fn g1 c1), (5, I x1), (7, I ((a0.length : Int))), (8, I x1), (16, B v7)] [] ?_
  refine pc h (fun h => ?_) (fun h => ?_)
  refine srve 19 [(4, I x1)] [] ?_
  cases h
  exact pwp_ret rz
  refine pwp_skip ?_
  refine rve 19 [(0, A a0), (1, .fn g1 c1), (7, I ((a0.length : Int))), (8, I ((w64 (x1 + 1))))] [] ?_
  exact ⟨(f2, (w64 (x1 + 1))), h, Nat.lt_succ_self _, (Imp.to (st' := ⟨19, [(0, A a0), (1, .fn g1 c1), (7, I ((a0.length : Int))), (8, I ((w64 (x1 + 1))))], []⟩) [0, 1, 7, 8] (by kernel_rfl)).trans (Imp.to [0, 1, 7, 8] (by kernel_rfl))⟩
  refine pwp_exit ?_
  refine srve 19 [(4, I (-1))] [] ?_
  cases h
  exact pwp_ret rz
def slices_IndexFunc_impl_Value_impl_Value_s3_l0 (a0 : List (List T_impl_Value)) (a1 : (List T_impl_Value) → Option Bool) : Nat → Int → Option Int
  | 0, _ => none
  | f2 + 1, x1 => bif (decide (x1 < ((a0.length : Int)))) then (getI a0 x1).bind fun v5 => (a1 v5).bind fun v7 => bif v7 then some x1 else (slices_IndexFunc_impl_Value_impl_Value_s3_l0 a0 a1 f2) ((w64 (x1 + 1))) else some (-1)
def slices_IndexFunc_impl_Value_impl_Value_s3 (a0 : List (List T_impl_Value)) (a1 : (List T_impl_Value) → Option Bool) : Option Int := slices_IndexFunc_impl_Value_impl_Value_s3_l0 a0 a1 FUEL 0
theorem ok_slices_IndexFunc_impl_Value_impl_Value_s3 {a0 : List (List T_impl_Value)} {g1 : FuncId} {c1 : List V} (hz1 : frzL c1 = true) {a1 : (List T_impl_Value) → Option Bool} (hp1 : ∀ x0 y, a1 x0 = some y → OK Tryz.prog g1 ([A x0] ++ c1) (B y)) {y : Int} (h : slices_IndexFunc_impl_Value_impl_Value_s3 a0 a1 = some y) : OK Tryz.prog 149 [A a0, .fn g1 c1] (I y) := by
  refine OK_of_pwp τ_ok Tryz.func149 rfl (by kernel_rfl) rfl fun Γ hX => ?_
  unfold slices_IndexFunc_impl_Value_impl_Value_s3 at h
  refine srve 19 [(0, A a0), (1, .fn g1 c1)] [] ?_
  refine pwp_seq ?_
  refine srve 19 [(0, A a0), (1, .fn g1 c1), (7, I ((a0.length : Int))), (8, I 0)] [] ?_
  refine pwp_block ?_
  refine pwp_loop (ι := Nat × Int) (fun (f2, x1) => (⟨19, [(0, A a0), (1, .fn g1 c1), (7, I ((a0.length : Int))), (8, I x1)], []⟩ : St)) (fun (f2, x1) => slices_IndexFunc_impl_Value_impl_Value_s3_l0 a0 a1 f2 x1 = some y) (fun (f2, x1) => f2) (FUEL, 0) h ((Imp.to (st' := ⟨19, [(0, A a0), (1, .fn g1 c1), (7, I ((a0.length : Int))), (8, I 0)], []⟩) [0, 1, 7, 8] (by kernel_rfl)).trans (Imp.to [0, 1, 7, 8] (by kernel_rfl))) ?_
  rintro ⟨f2, x1⟩ h
  dsimp only at h ⊢
  rcases f2 with _ | f2
  cases h
  rw [slices_IndexFunc_impl_Value_impl_Value_s3_l0] at h
  refine srve 19 [(0, A a0), (1, .fn g1 c1), (7, I ((a0.length : Int))), (8, I x1), (9, B ((decide (x1 < ((a0.length : Int))))))] [] ?_
  refine pwp_seq ?_
  refine pc h (fun h => ?_) (fun h => ?_)
  refine pwp_skip ?_
  refine pwp_seq ?_
  refine pwp_block ?_
  refine srve 19 [(0, A a0), (1, .fn g1 c1), (5, I x1), (7, I ((a0.length : Int))), (8, I x1)] [] ?_
  refine srv 3 19 [(0, A a0), (1, .fn g1 c1), (5, I x1), (7, I ((a0.length : Int))), (8, I x1), (11, .fn g1 c1), (12, A a0), (13, I x1)] [] ?_
  obtain ⟨v5, hv6, h⟩ := bindS h
  refine opsP_idx τ_ok 14 hv6 (by kernel_rfl) ?_
  refine v 1 19 [(0, A a0), (1, .fn g1 c1), (5, I x1), (7, I ((a0.length : Int))), (8, I x1), (11, .fn g1 c1), (15, A v5)] [] ?_
  obtain ⟨v7, hv8, h⟩ := bindS h
  refine opsP_callF τ 16 (hp1 _ _ hv8) (FzTo.frz rfl) (frz_app (xs := [A v5]) rfl hz1) (by kernel_rfl) ?_
  refine ve 0 19 [(0, A a0), (1, .fn g1 c1), (5, I x1), (7, I ((a0.length : Int))), (8, I x1), (16, B v7)] [] ?_
  refine pc h (fun h => ?_) (fun h => ?_)
  refine srve 19 [(4, I x1)] [] ?_
  cases h
  exact pwp_ret rz
  refine pwp_skip ?_
  refine rve 19 [(0, A a0), (1, .fn g1 c1), (7, I ((a0.length : Int))), (8, I ((w64 (x1 + 1))))] [] ?_
  exact ⟨(f2, (w64 (x1 + 1))), h, Nat.lt_succ_self _, (Imp.to (st' := ⟨19, [(0, A a0), (1, .fn g1 c1), (7, I ((a0.length : Int))), (8, I ((w64 (x1 + 1))))], []⟩) [0, 1, 7, 8] (by kernel_rfl)).trans (Imp.to [0, 1, 7, 8] (by kernel_rfl))⟩
  refine pwp_exit ?_
  refine srve 19 [(4, I (-1))] [] ?_
  cases h
  exact pwp_ret rz
def slices_Equal_impl_Value_impl_Value_l0 (a0 : List T_impl_Value) (a1 : List T_impl_Value) : Nat → Int → Option Bool
  | 0, _ => none
  | f3 + 1, x2 => bif (decide (x2 < ((a0.length : Int)))) then (getI a0 x2).bind fun v6 => (getI a1 x2).bind fun v8 => bif (!(eq_T_impl_Value v6 v8)) then some false else (slices_Equal_impl_Value_impl_Value_l0 a0 a1 f3) ((w64 (x2 + 1))) else some true
def slices_Equal_impl_Value_impl_Value (a0 : List T_impl_Value) (a1 : List T_impl_Value) : Option Bool := bif (!(((a0.length : Int)) == ((a1.length : Int)))) then some false else slices_Equal_impl_Value_impl_Value_l0 a0 a1 FUEL 0
theorem ok_slices_Equal_impl_Value_impl_Value {a0 : List T_impl_Value} {a1 : List T_impl_Value} {y : Bool} (h : slices_Equal_impl_Value_impl_Value a0 a1 = some y) : OK Tryz.prog 151 [A a0, A a1] (B y) := by
  refine OK_of_pwp τ_ok Tryz.func151 rfl (by kernel_rfl) rfl fun Γ hX => ?_
  unfold slices_Equal_impl_Value_impl_Value at h
  refine srve 26 [(0, A a0), (1, A a1)] [] ?_
  refine pwp_seq ?_
  refine srve 26 [(0, A a0), (1, A a1), (10, B ((!(((a0.length : Int)) == ((a1.length : Int))))))] [] ?_
  refine pc h (fun h => ?_) (fun h => ?_)
  refine srve 26 [(4, B false)] [] ?_
  cases h
  exact pwp_ret rz
  refine pwp_skip ?_
  refine pwp_seq ?_
  refine srve 26 [(0, A a0), (1, A a1), (12, I ((a0.length : Int))), (13, I 0)] [] ?_
  refine pwp_block ?_
  refine pwp_loop (ι := Nat × Int) (fun (f3, x2) => (⟨26, [(0, A a0), (1, A a1), (12, I ((a0.length : Int))), (13, I x2)], []⟩ : St)) (fun (f3, x2) => slices_Equal_impl_Value_impl_Value_l0 a0 a1 f3 x2 = some y) (fun (f3, x2) => f3) (FUEL, 0) h ((Imp.to (st' := ⟨26, [(0, A a0), (1, A a1), (12, I ((a0.length : Int))), (13, I 0)], []⟩) [0, 1, 12, 13] (by kernel_rfl)).trans (Imp.to [0, 1, 12, 13] (by kernel_rfl))) ?_
  rintro ⟨f3, x2⟩ h
  dsimp only at h ⊢
  rcases f3 with _ | f3
  cases h
  rw [slices_Equal_impl_Value_impl_Value_l0] at h
  refine srve 26 [(0, A a0), (1, A a1), (12, I ((a0.length : Int))), (13, I x2), (14, B ((decide (x2 < ((a0.length : Int))))))] [] ?_
  refine pwp_seq ?_
  refine pc h (fun h => ?_) (fun h => ?_)
  refine pwp_skip ?_
  refine pwp_seq ?_
  refine pwp_block ?_
  refine srve 26 [(0, A a0), (1, A a1), (5, I x2), (12, I ((a0.length : Int))), (13, I x2)] [] ?_
  refine pwp_seq ?_
  refine pwp_imp (Imp.to (st' := ⟨26, [(0, A a0), (1, A a1), (5, I x2), (12, I ((a0.length : Int))), (13, I x2)], []⟩) [0, 1, 5, 12, 13] (by kernel_rfl)) ?_
  refine pwp_any ([[], [], [], [], [], [], [], [], []]) ([[], [], [], [], [], [], [], [], []]) rfl (by kernel_rfl) ?_
  refine qA_ev (st' := ⟨26, [(17, I x2), (16, A a0), (0, A a0), (1, A a1), (5, I x2), (12, I ((a0.length : Int))), (13, I x2)], []⟩) τ_ok [] [] 2 (by exact trivial) (by kernel_rfl) ?_
  obtain ⟨v6, hv7, h⟩ := bindS h
  refine qA_E (dd := some 18) (x := .fptr (Enc.cells v6) 0) ([]) (⟨26, [(18, .fptr (Enc.cells v6) 0), (17, I x2), (16, A a0), (0, A a0), (1, A a1), (5, I x2), (12, I ((a0.length : Int))), (13, I x2)], []⟩) (fun Γ' hΓ => CoreE.of_y (idxV_sound τ_ok (by kernel_rfl) hv7)) (by kernel_rfl) (by kernel_rfl) (by exact trivial) (.inr (.inr rfl)) (by kernel_rfl) ?_
  refine qA_ev (st' := ⟨26, [(21, I x2), (20, A a1), (19, E v6), (18, .fptr (Enc.cells v6) 0), (17, I x2), (16, A a0), (0, A a0), (1, A a1), (5, I x2), (12, I ((a0.length : Int))), (13, I x2)], []⟩) τ_ok [] [] 3 (by exact trivial) (by kernel_rfl) ?_
  obtain ⟨v8, hv9, h⟩ := bindS h
  refine qA_E (dd := some 22) (x := .fptr (Enc.cells v8) 0) ([]) (⟨26, [(22, .fptr (Enc.cells v8) 0), (21, I x2), (20, A a1), (19, E v6), (18, .fptr (Enc.cells v6) 0), (17, I x2), (16, A a0), (0, A a0), (1, A a1), (5, I x2), (12, I ((a0.length : Int))), (13, I x2)], []⟩) (fun Γ' hΓ => CoreE.of_y (idxV_sound τ_ok (by kernel_rfl) hv9)) (by kernel_rfl) (by kernel_rfl) (by exact trivial) (.inr (.inr rfl)) (by kernel_rfl) ?_
  refine qA_ev (st' := ⟨26, [(24, B ((!(eq_T_impl_Value v6 v8)))), (23, E v8), (22, .fptr (Enc.cells v8) 0), (21, I x2), (20, A a1), (19, E v6), (18, .fptr (Enc.cells v6) 0), (17, I x2), (16, A a0), (0, A a0), (1, A a1), (5, I x2), (12, I ((a0.length : Int))), (13, I x2)], []⟩) τ_ok [] [] 2 (by exact trivial) (by kernel_rfl) ?_
  refine qA_end ?_
  refine opsP_imp (Imp.to (st' := ⟨26, [(0, A a0), (1, A a1), (12, I ((a0.length : Int))), (13, I x2), (24, B ((!(eq_T_impl_Value v6 v8))))], []⟩) [0, 1, 12, 13, 24] (by kernel_rfl)) ?_
  refine opsP_end rfl ?_
  refine pc h (fun h => ?_) (fun h => ?_)
  refine srve 26 [(4, B false)] [] ?_
  cases h
  exact pwp_ret rz
  refine pwp_skip ?_
  refine rve 26 [(0, A a0), (1, A a1), (12, I ((a0.length : Int))), (13, I ((w64 (x2 + 1))))] [] ?_
  exact ⟨(f3, (w64 (x2 + 1))), h, Nat.lt_succ_self _, (Imp.to (st' := ⟨26, [(0, A a0), (1, A a1), (12, I ((a0.length : Int))), (13, I ((w64 (x2 + 1))))], []⟩) [0, 1, 12, 13] (by kernel_rfl)).trans (Imp.to [0, 1, 12, 13] (by kernel_rfl))⟩
  refine pwp_exit ?_
  refine srve 26 [(4, B true)] [] ?_
  cases h
  exact pwp_ret rz
def impl_ColumnsOk_1 (a0 : T_impl_Column) : Option Bool := (impl_between a0.fKind 1 3).bind fun v1 => some ((!v1))
theorem ok_impl_ColumnsOk_1 {a0 : T_impl_Column} {y : Bool} (h : impl_ColumnsOk_1 a0 = some y) : OK Tryz.prog 161 [E a0] (B y) := by
  refine OK_of_pwp τ_ok Tryz.func161 rfl (by kernel_rfl) rfl fun Γ hX => ?_
  unfold impl_ColumnsOk_1 at h
  refine srve 7 [(1, .fptr (Enc.cells a0) 0)] [] ?_
  refine srv 2 7 [(4, I a0.fKind)] [] ?_
  obtain ⟨v1, hv2, h⟩ := bindS h
  refine opsP_callF τ 5 (ok_impl_between hv2) (FzTo.frz rfl) rfl (by kernel_rfl) ?_
  refine ve 2 7 [(2, B ((!v1)))] [] ?_
  cases h
  exact pwp_ret rz
def impl_Part_kind_1_1 (a0 : Int) (b0 : Int) : Option Bool := some ((!(a0 == b0)))
theorem ok_impl_Part_kind_1_1 {a0 : Int} {b0 : Int} {y : Bool} (h : impl_Part_kind_1_1 a0 b0 = some y) : OK Tryz.prog 165 [I a0, .fptr (Enc.cells b0) 0] (B y) := by
  refine OK_of_pwp τ_ok Tryz.func165 rfl (by kernel_rfl) rfl fun Γ hX => ?_
  unfold impl_Part_kind_1_1 at h
  refine srve 7 [(0, I a0), (1, .fptr (Enc.cells b0) 0)] [] ?_
  refine srve 7 [(3, B ((!(a0 == b0))))] [] ?_
  cases h
  exact pwp_ret rz
def slices_ContainsFunc_impl_Value_impl_Value_s3 (a0 : List (List T_impl_Value)) (a1 : (List T_impl_Value) → Option Bool) : Option Bool := (slices_IndexFunc_impl_Value_impl_Value_s3 a0 a1).bind fun v1 => some ((decide (v1 ≥ 0)))
theorem ok_slices_ContainsFunc_impl_Value_impl_Value_s3 {a0 : List (List T_impl_Value)} {g1 : FuncId} {c1 : List V} (hz1 : frzL c1 = true) {a1 : (List T_impl_Value) → Option Bool} (hp1 : ∀ x0 y, a1 x0 = some y → OK Tryz.prog g1 ([A x0] ++ c1) (B y)) {y : Bool} (h : slices_ContainsFunc_impl_Value_impl_Value_s3 a0 a1 = some y) : OK Tryz.prog 166 [A a0, .fn g1 c1] (B y) := by
  refine OK_of_pwp τ_ok Tryz.func166 rfl (by kernel_rfl) rfl fun Γ hX => ?_
  unfold slices_ContainsFunc_impl_Value_impl_Value_s3 at h
  refine srve 9 [(0, A a0), (1, .fn g1 c1)] [] ?_
  refine srv 2 9 [(5, A a0), (6, .fn g1 c1)] [] ?_
  obtain ⟨v1, hv2, h⟩ := bindS h
  refine opsP_callF τ 7 (ok_slices_IndexFunc_impl_Value_impl_Value_s3 (hz1) (hp1) hv2) (FzTo.frz rfl) (by simp only [frzL, frz, hz1, Bool.and_true]) (by kernel_rfl) ?_
  refine ve 2 9 [(4, B ((decide (v1 ≥ 0))))] [] ?_
  cases h
  exact pwp_ret rz
def slices_IndexFunc_impl_Table_impl_Table_l0 (a0 : List T_impl_Table) (a1 : T_impl_Table → Option Bool) : Nat → Int → Option Int
  | 0, _ => none
  | f2 + 1, x1 => bif (decide (x1 < ((a0.length : Int)))) then (getI a0 x1).bind fun v5 => (a1 v5).bind fun v7 => bif v7 then some x1 else (slices_IndexFunc_impl_Table_impl_Table_l0 a0 a1 f2) ((w64 (x1 + 1))) else some (-1)
def slices_IndexFunc_impl_Table_impl_Table (a0 : List T_impl_Table) (a1 : T_impl_Table → Option Bool) : Option Int := slices_IndexFunc_impl_Table_impl_Table_l0 a0 a1 FUEL 0
theorem ok_slices_IndexFunc_impl_Table_impl_Table {a0 : List T_impl_Table} {g1 : FuncId} {c1 : List V} (hz1 : frzL c1 = true) {a1 : T_impl_Table → Option Bool} (hp1 : ∀ x0 y, a1 x0 = some y → OK Tryz.prog g1 ([E x0] ++ c1) (B y)) {y : Int} (h : slices_IndexFunc_impl_Table_impl_Table a0 a1 = some y) : OK Tryz.prog 181 [A a0, .fn g1 c1] (I y) := by
  refine OK_of_pwp τ_ok Tryz.func181 rfl (by kernel_rfl) rfl fun Γ hX => ?_
  unfold slices_IndexFunc_impl_Table_impl_Table at h
  refine srve 19 [(0, A a0), (1, .fn g1 c1)] [] ?_
  refine pwp_seq ?_
  refine srve 19 [(0, A a0), (1, .fn g1 c1), (7, I ((a0.length : Int))), (8, I 0)] [] ?_
  refine pwp_block ?_
  refine pwp_loop (ι := Nat × Int) (fun (f2, x1) => (⟨19, [(0, A a0), (1, .fn g1 c1), (7, I ((a0.length : Int))), (8, I x1)], []⟩ : St)) (fun (f2, x1) => slices_IndexFunc_impl_Table_impl_Table_l0 a0 a1 f2 x1 = some y) (fun (f2, x1) => f2) (FUEL, 0) h ((Imp.to (st' := ⟨19, [(0, A a0), (1, .fn g1 c1), (7, I ((a0.length : Int))), (8, I 0)], []⟩) [0, 1, 7, 8] (by kernel_rfl)).trans (Imp.to [0, 1, 7, 8] (by kernel_rfl))) ?_
  rintro ⟨f2, x1⟩ h
  dsimp only at h ⊢
  rcases f2 with _ | f2
  cases h
  rw [slices_IndexFunc_impl_Table_impl_Table_l0] at h
  refine srve 19 [(0, A a0), (1, .fn g1 c1), (7, I ((a0.length : Int))), (8, I x1), (9, B ((decide (x1 < ((a0.length : Int))))))] [] ?_
  refine pwp_seq ?_
  refine pc h (fun h => ?_) (fun h => ?_)
  refine pwp_skip ?_
  refine pwp_seq ?_
  refine pwp_block ?_
  refine srve 19 [(0, A a0), (1, .fn g1 c1), (5, I x1), (7, I ((a0.length : Int))), (8, I x1)] [] ?_
  refine srv 3 19 [(0, A a0), (1, .fn g1 c1), (5, I x1), (7, I ((a0.length : Int))), (8, I x1), (11, .fn g1 c1), (12, A a0), (13, I x1)] [] ?_
  obtain ⟨v5, hv6, h⟩ := bindS h
  refine opsP_idx τ_ok 14 hv6 (by kernel_rfl) ?_
  refine v 1 19 [(0, A a0), (1, .fn g1 c1), (5, I x1), (7, I ((a0.length : Int))), (8, I x1), (11, .fn g1 c1), (15, E v5)] [] ?_
  obtain ⟨v7, hv8, h⟩ := bindS h
  refine opsP_callF τ 16 (hp1 _ _ hv8) (FzTo.frz rfl) (frz_app (xs := [E v5]) rfl hz1) (by kernel_rfl) ?_
  refine ve 0 19 [(0, A a0), (1, .fn g1 c1), (5, I x1), (7, I ((a0.length : Int))), (8, I x1), (16, B v7)] [] ?_
  refine pc h (fun h => ?_) (fun h => ?_)
  refine srve 19 [(4, I x1)] [] ?_
  cases h
  exact pwp_ret rz
  refine pwp_skip ?_
  refine rve 19 [(0, A a0), (1, .fn g1 c1), (7, I ((a0.length : Int))), (8, I ((w64 (x1 + 1))))] [] ?_
  exact ⟨(f2, (w64 (x1 + 1))), h, Nat.lt_succ_self _, (Imp.to (st' := ⟨19, [(0, A a0), (1, .fn g1 c1), (7, I ((a0.length : Int))), (8, I ((w64 (x1 + 1))))], []⟩) [0, 1, 7, 8] (by kernel_rfl)).trans (Imp.to [0, 1, 7, 8] (by kernel_rfl))⟩
  refine pwp_exit ?_
  refine srve 19 [(4, I (-1))] [] ?_
  cases h
  exact pwp_ret rz
def impl_listOk_1 (a0 : Int) (b0 : T_impl_Table) : Option Bool := (impl_between a0 0 ((w64 (((b0.fColumns.length : Int)) - 1)))).bind fun v1 => some ((!v1))
theorem ok_impl_listOk_1 {a0 : Int} {b0 : T_impl_Table} {y : Bool} (h : impl_listOk_1 a0 b0 = some y) : OK Tryz.prog 183 [I a0, .fptr (Enc.cells b0) 0] (B y) := by
  refine OK_of_pwp τ_ok Tryz.func183 rfl (by kernel_rfl) rfl fun Γ hX => ?_
  unfold impl_listOk_1 at h
  refine srve 11 [(0, I a0), (1, .fptr (Enc.cells b0) 0)] [] ?_
  refine srv 5 11 [(4, I a0), (8, I ((w64 (((b0.fColumns.length : Int)) - 1))))] [] ?_
  obtain ⟨v1, hv2, h⟩ := bindS h
  refine opsP_callF τ 9 (ok_impl_between hv2) (FzTo.frz rfl) rfl (by kernel_rfl) ?_
  refine ve 2 11 [(3, B ((!v1)))] [] ?_
  cases h
  exact pwp_ret rz
def spec_l1Text_j1 (x1 : Int) (K3 : Int → Option Bool) (x5 : Bool) : Option Bool := bif x5 then some false else K3 ((w64 (x1 + 1)))
def spec_l1Text_l0 (a0 : ByteArray) : Nat → Int → Option Bool
  | 0, _ => none
  | f2 + 1, x1 => bif (decide (x1 < ((a0.size : Int)))) then (getB a0 x1).bind fun v7 => bif (decide ((v7.toNat : Int) < 97)) then spec_l1Text_j1 x1 (spec_l1Text_l0 a0 f2) true else (getB a0 x1).bind fun v9 => spec_l1Text_j1 x1 (spec_l1Text_l0 a0 f2) ((decide ((v9.toNat : Int) > 122))) else some ((decide (((a0.size : Int)) ≤ 6)))
def spec_l1Text (a0 : ByteArray) : Option Bool := spec_l1Text_l0 a0 FUEL 0
theorem ok_spec_l1Text {a0 : ByteArray} {y : Bool} (h : spec_l1Text a0 = some y) : OK Tryz.prog 185 [S a0] (B y) := by
  refine OK_of_pwp τ_ok Tryz.func185 rfl (by kernel_rfl) rfl fun Γ hX => ?_
  unfold spec_l1Text at h
  refine srve 23 [(0, S a0)] [] ?_
  refine pwp_seq ?_
  refine srve 23 [(0, S a0), (3, I 0)] [] ?_
  refine pwp_block ?_
  refine pwp_loop (ι := Nat × Int) (fun (f2, x1) => (⟨23, [(0, S a0), (3, I x1)], []⟩ : St)) (fun (f2, x1) => spec_l1Text_l0 a0 f2 x1 = some y) (fun (f2, x1) => f2) (FUEL, 0) h ((Imp.to (st' := ⟨23, [(0, S a0), (3, I 0)], []⟩) [0, 3] (by kernel_rfl)).trans (Imp.to [0, 3] (by kernel_rfl))) ?_
  rintro ⟨f2, x1⟩ h
  dsimp only at h ⊢
  rcases f2 with _ | f2
  cases h
  rw [spec_l1Text_l0] at h
  refine pwp_seq ?_
  refine srve 23 [(0, S a0), (3, I x1), (7, B ((decide (x1 < ((a0.size : Int))))))] [] ?_
  refine pc h (fun h => ?_) (fun h => ?_)
  refine pwp_skip ?_
  refine pwp_seq ?_
  refine pwp_block ?_
  refine pwp_seq ?_
  refine pwp_join (σ := Bool) (fun x5 => (⟨23, [(0, S a0), (3, I x1), (19, B x5)], []⟩ : St)) (fun x5 => spec_l1Text_j1 x1 (spec_l1Text_l0 a0 f2) x5 = some y) ?_ ?_
  refine rv 2 23 [(0, S a0), (3, I x1), (10, S a0), (11, I x1)] [] ?_
  obtain ⟨v7, hv8, h⟩ := bindS h
  refine opsP_byt τ_ok 12 hv8 (by kernel_rfl) ?_
  refine v 2 23 [(0, S a0), (3, I x1), (14, B ((decide ((v7.toNat : Int) < 97))))] [] ?_
  rcases fk ((decide ((v7.toNat : Int) < 97))) with hc11 | hc11
  replace h := bT hc11 h
  rw [hc11]
  refine ve 5 23 [(0, S a0), (3, I x1), (15, .lit undef), (16, .lit undef), (17, .lit undef), (18, .lit undef), (19, B true)] [] ?_
  exact ⟨true, h, (Imp.to (st' := ⟨23, [(0, S a0), (3, I x1), (19, B true)], []⟩) [0, 3, 19] (by kernel_rfl)).trans (Imp.to [0, 3, 19] (by kernel_rfl))⟩
  replace h := bF hc11 h
  rw [hc11]
  refine v 2 23 [(0, S a0), (3, I x1), (14, B false), (15, S a0), (16, I x1)] [] ?_
  obtain ⟨v9, hv10, h⟩ := bindS h
  refine opsP_byt τ_ok 17 hv10 (by kernel_rfl) ?_
  refine ve 2 23 [(0, S a0), (3, I x1), (15, S a0), (16, I x1), (17, .lit (.int .u8 (v9).toNat)), (18, B ((decide ((v9.toNat : Int) > 122)))), (19, B ((decide ((v9.toNat : Int) > 122))))] [] ?_
  exact ⟨(decide ((v9.toNat : Int) > 122)), h, (Imp.to (st' := ⟨23, [(0, S a0), (3, I x1), (19, B ((decide ((v9.toNat : Int) > 122))))], []⟩) [0, 3, 19] (by kernel_rfl)).trans (Imp.to [0, 3, 19] (by kernel_rfl))⟩
  rintro x5 h
  unfold spec_l1Text_j1 at h
  refine pc h (fun h => ?_) (fun h => ?_)
  refine srve 23 [(2, B false)] [] ?_
  cases h
  exact pwp_ret rz
  refine pwp_skip ?_
  refine rve 23 [(0, S a0), (3, I ((w64 (x1 + 1))))] [] ?_
  exact ⟨(f2, (w64 (x1 + 1))), h, Nat.lt_succ_self _, (Imp.to (st' := ⟨23, [(0, S a0), (3, I ((w64 (x1 + 1))))], []⟩) [0, 3] (by kernel_rfl)).trans (Imp.to [0, 3] (by kernel_rfl))⟩
  refine pwp_exit ?_
  refine srve 23 [(2, B ((decide (((a0.size : Int)) ≤ 6))))] [] ?_
  cases h
  exact pwp_ret rz
def slices_IndexFunc_impl_Column_impl_Column_l0 (a0 : List T_impl_Column) (a1 : T_impl_Column → Option Bool) : Nat → Int → Option Int
  | 0, _ => none
  | f2 + 1, x1 => bif (decide (x1 < ((a0.length : Int)))) then (getI a0 x1).bind fun v5 => (a1 v5).bind fun v7 => bif v7 then some x1 else (slices_IndexFunc_impl_Column_impl_Column_l0 a0 a1 f2) ((w64 (x1 + 1))) else some (-1)
def slices_IndexFunc_impl_Column_impl_Column (a0 : List T_impl_Column) (a1 : T_impl_Column → Option Bool) : Option Int := slices_IndexFunc_impl_Column_impl_Column_l0 a0 a1 FUEL 0
theorem ok_slices_IndexFunc_impl_Column_impl_Column {a0 : List T_impl_Column} {g1 : FuncId} {c1 : List V} (hz1 : frzL c1 = true) {a1 : T_impl_Column → Option Bool} (hp1 : ∀ x0 y, a1 x0 = some y → OK Tryz.prog g1 ([E x0] ++ c1) (B y)) {y : Int} (h : slices_IndexFunc_impl_Column_impl_Column a0 a1 = some y) : OK Tryz.prog 189 [A a0, .fn g1 c1] (I y) := by
  refine OK_of_pwp τ_ok Tryz.func189 rfl (by kernel_rfl) rfl fun Γ hX => ?_
  unfold slices_IndexFunc_impl_Column_impl_Column at h
  refine srve 19 [(0, A a0), (1, .fn g1 c1)] [] ?_
  refine pwp_seq ?_
  refine srve 19 [(0, A a0), (1, .fn g1 c1), (7, I ((a0.length : Int))), (8, I 0)] [] ?_
  refine pwp_block ?_
  refine pwp_loop (ι := Nat × Int) (fun (f2, x1) => (⟨19, [(0, A a0), (1, .fn g1 c1), (7, I ((a0.length : Int))), (8, I x1)], []⟩ : St)) (fun (f2, x1) => slices_IndexFunc_impl_Column_impl_Column_l0 a0 a1 f2 x1 = some y) (fun (f2, x1) => f2) (FUEL, 0) h ((Imp.to (st' := ⟨19, [(0, A a0), (1, .fn g1 c1), (7, I ((a0.length : Int))), (8, I 0)], []⟩) [0, 1, 7, 8] (by kernel_rfl)).trans (Imp.to [0, 1, 7, 8] (by kernel_rfl))) ?_
  rintro ⟨f2, x1⟩ h
  dsimp only at h ⊢
  rcases f2 with _ | f2
  cases h
  rw [slices_IndexFunc_impl_Column_impl_Column_l0] at h
  refine srve 19 [(0, A a0), (1, .fn g1 c1), (7, I ((a0.length : Int))), (8, I x1), (9, B ((decide (x1 < ((a0.length : Int))))))] [] ?_
  refine pwp_seq ?_
  refine pc h (fun h => ?_) (fun h => ?_)
  refine pwp_skip ?_
  refine pwp_seq ?_
  refine pwp_block ?_
  refine srve 19 [(0, A a0), (1, .fn g1 c1), (5, I x1), (7, I ((a0.length : Int))), (8, I x1)] [] ?_
  refine srv 3 19 [(0, A a0), (1, .fn g1 c1), (5, I x1), (7, I ((a0.length : Int))), (8, I x1), (11, .fn g1 c1), (12, A a0), (13, I x1)] [] ?_
  obtain ⟨v5, hv6, h⟩ := bindS h
  refine opsP_idx τ_ok 14 hv6 (by kernel_rfl) ?_
  refine v 1 19 [(0, A a0), (1, .fn g1 c1), (5, I x1), (7, I ((a0.length : Int))), (8, I x1), (11, .fn g1 c1), (15, E v5)] [] ?_
  obtain ⟨v7, hv8, h⟩ := bindS h
  refine opsP_callF τ 16 (hp1 _ _ hv8) (FzTo.frz rfl) (frz_app (xs := [E v5]) rfl hz1) (by kernel_rfl) ?_
  refine ve 0 19 [(0, A a0), (1, .fn g1 c1), (5, I x1), (7, I ((a0.length : Int))), (8, I x1), (16, B v7)] [] ?_
  refine pc h (fun h => ?_) (fun h => ?_)
  refine srve 19 [(4, I x1)] [] ?_
  cases h
  exact pwp_ret rz
  refine pwp_skip ?_
  refine rve 19 [(0, A a0), (1, .fn g1 c1), (7, I ((a0.length : Int))), (8, I ((w64 (x1 + 1))))] [] ?_
  exact ⟨(f2, (w64 (x1 + 1))), h, Nat.lt_succ_self _, (Imp.to (st' := ⟨19, [(0, A a0), (1, .fn g1 c1), (7, I ((a0.length : Int))), (8, I ((w64 (x1 + 1))))], []⟩) [0, 1, 7, 8] (by kernel_rfl)).trans (Imp.to [0, 1, 7, 8] (by kernel_rfl))⟩
  refine pwp_exit ?_
  refine srve 19 [(4, I (-1))] [] ?_
  cases h
  exact pwp_ret rz
def impl_letters_l0 (v1 : List UInt8) : Nat → Int → Option Bool
  | 0, _ => none
  | f4 + 1, x3 => bif (decide (x3 < ((v1.length : Int)))) then (getI v1 x3).bind fun v7 => (impl_between ((w64 (v7.toNat : Int))) 97 122).bind fun v9 => bif (!v9) then some false else (impl_letters_l0 v1 f4) ((w64 (x3 + 1))) else some true
def impl_letters (a0 : ByteArray) : Option Bool := (bytesOf a0).bind fun v1 => impl_letters_l0 v1 FUEL 0
theorem ok_impl_letters {a0 : ByteArray} {y : Bool} (h : impl_letters a0 = some y) : OK Tryz.prog 190 [S a0] (B y) := by
  refine OK_of_pwp τ_ok Tryz.func190 rfl (by kernel_rfl) rfl fun Γ hX => ?_
  unfold impl_letters at h
  refine srve 17 [(0, S a0)] [] ?_
  refine pwp_seq ?_
  refine srv 1 17 [(5, S a0)] [] ?_
  obtain ⟨v1, hv2, h⟩ := bindS h
  refine opsP_cvb τ_ok 6 hv2 (by kernel_rfl) ?_
  refine ve 2 17 [(6, A v1), (7, I ((v1.length : Int))), (8, I 0)] [] ?_
  refine pwp_block ?_
  refine pwp_loop (ι := Nat × Int) (fun (f4, x3) => (⟨17, [(6, A v1), (7, I ((v1.length : Int))), (8, I x3)], []⟩ : St)) (fun (f4, x3) => impl_letters_l0 v1 f4 x3 = some y) (fun (f4, x3) => f4) (FUEL, 0) h ((Imp.to (st' := ⟨17, [(6, A v1), (7, I ((v1.length : Int))), (8, I 0)], []⟩) [6, 7, 8] (by kernel_rfl)).trans (Imp.to [6, 7, 8] (by kernel_rfl))) ?_
  rintro ⟨f4, x3⟩ h
  dsimp only at h ⊢
  rcases f4 with _ | f4
  cases h
  rw [impl_letters_l0] at h
  refine srve 17 [(6, A v1), (7, I ((v1.length : Int))), (8, I x3), (9, B ((decide (x3 < ((v1.length : Int))))))] [] ?_
  refine pwp_seq ?_
  refine pc h (fun h => ?_) (fun h => ?_)
  refine pwp_skip ?_
  refine pwp_seq ?_
  refine pwp_block ?_
  refine pwp_seq ?_
  refine pwp_region ?_
  obtain ⟨v7, hv8, h⟩ := bindS h
  refine opsP_idx τ_ok 10 hv8 (by kernel_rfl) ?_
  refine ve 2 17 [(4, .lit (.int .u8 (v7).toNat)), (6, A v1), (7, I ((v1.length : Int))), (8, I x3)] [] ?_
  refine srv 2 17 [(6, A v1), (7, I ((v1.length : Int))), (8, I x3), (13, I ((w64 (v7.toNat : Int))))] [] ?_
  obtain ⟨v9, hv10, h⟩ := bindS h
  refine opsP_callF τ 14 (ok_impl_between hv10) (FzTo.frz rfl) rfl (by kernel_rfl) ?_
  refine ve 1 17 [(6, A v1), (7, I ((v1.length : Int))), (8, I x3), (15, B ((!v9)))] [] ?_
  refine pc h (fun h => ?_) (fun h => ?_)
  refine srve 17 [(2, B false)] [] ?_
  cases h
  exact pwp_ret rz
  refine pwp_skip ?_
  refine rve 17 [(6, A v1), (7, I ((v1.length : Int))), (8, I ((w64 (x3 + 1))))] [] ?_
  exact ⟨(f4, (w64 (x3 + 1))), h, Nat.lt_succ_self _, (Imp.to (st' := ⟨17, [(6, A v1), (7, I ((v1.length : Int))), (8, I ((w64 (x3 + 1))))], []⟩) [6, 7, 8] (by kernel_rfl)).trans (Imp.to [6, 7, 8] (by kernel_rfl))⟩
  refine pwp_exit ?_
  refine srve 17 [(2, B true)] [] ?_
  cases h
  exact pwp_ret rz
def slices_IndexFunc_int_int_l0 (a0 : List Int) (a1 : Int → Option Bool) : Nat → Int → Option Int
  | 0, _ => none
  | f2 + 1, x1 => bif (decide (x1 < ((a0.length : Int)))) then (getI a0 x1).bind fun v5 => (a1 v5).bind fun v7 => bif v7 then some x1 else (slices_IndexFunc_int_int_l0 a0 a1 f2) ((w64 (x1 + 1))) else some (-1)
def slices_IndexFunc_int_int (a0 : List Int) (a1 : Int → Option Bool) : Option Int := slices_IndexFunc_int_int_l0 a0 a1 FUEL 0
theorem ok_slices_IndexFunc_int_int {a0 : List Int} {g1 : FuncId} {c1 : List V} (hz1 : frzL c1 = true) {a1 : Int → Option Bool} (hp1 : ∀ x0 y, a1 x0 = some y → OK Tryz.prog g1 ([I x0] ++ c1) (B y)) {y : Int} (h : slices_IndexFunc_int_int a0 a1 = some y) : OK Tryz.prog 191 [A a0, .fn g1 c1] (I y) := by
  refine OK_of_pwp τ_ok Tryz.func191 rfl (by kernel_rfl) rfl fun Γ hX => ?_
  unfold slices_IndexFunc_int_int at h
  refine srve 19 [(0, A a0), (1, .fn g1 c1)] [] ?_
  refine pwp_seq ?_
  refine srve 19 [(0, A a0), (1, .fn g1 c1), (7, I ((a0.length : Int))), (8, I 0)] [] ?_
  refine pwp_block ?_
  refine pwp_loop (ι := Nat × Int) (fun (f2, x1) => (⟨19, [(0, A a0), (1, .fn g1 c1), (7, I ((a0.length : Int))), (8, I x1)], []⟩ : St)) (fun (f2, x1) => slices_IndexFunc_int_int_l0 a0 a1 f2 x1 = some y) (fun (f2, x1) => f2) (FUEL, 0) h ((Imp.to (st' := ⟨19, [(0, A a0), (1, .fn g1 c1), (7, I ((a0.length : Int))), (8, I 0)], []⟩) [0, 1, 7, 8] (by kernel_rfl)).trans (Imp.to [0, 1, 7, 8] (by kernel_rfl))) ?_
  rintro ⟨f2, x1⟩ h
  dsimp only at h ⊢
  rcases f2 with _ | f2
  cases h
  rw [slices_IndexFunc_int_int_l0] at h
  refine srve 19 [(0, A a0), (1, .fn g1 c1), (7, I ((a0.length : Int))), (8, I x1), (9, B ((decide (x1 < ((a0.length : Int))))))] [] ?_
  refine pwp_seq ?_
  refine pc h (fun h => ?_) (fun h => ?_)
  refine pwp_skip ?_
  refine pwp_seq ?_
  refine pwp_block ?_
  refine srve 19 [(0, A a0), (1, .fn g1 c1), (5, I x1), (7, I ((a0.length : Int))), (8, I x1)] [] ?_
  refine srv 3 19 [(0, A a0), (1, .fn g1 c1), (5, I x1), (7, I ((a0.length : Int))), (8, I x1), (11, .fn g1 c1), (12, A a0), (13, I x1)] [] ?_
  obtain ⟨v5, hv6, h⟩ := bindS h
  refine opsP_idx τ_ok 14 hv6 (by kernel_rfl) ?_
  refine v 1 19 [(0, A a0), (1, .fn g1 c1), (5, I x1), (7, I ((a0.length : Int))), (8, I x1), (11, .fn g1 c1), (15, I v5)] [] ?_
  obtain ⟨v7, hv8, h⟩ := bindS h
  refine opsP_callF τ 16 (hp1 _ _ hv8) (FzTo.frz rfl) (frz_app (xs := [I v5]) rfl hz1) (by kernel_rfl) ?_
  refine ve 0 19 [(0, A a0), (1, .fn g1 c1), (5, I x1), (7, I ((a0.length : Int))), (8, I x1), (16, B v7)] [] ?_
  refine pc h (fun h => ?_) (fun h => ?_)
  refine srve 19 [(4, I x1)] [] ?_
  cases h
  exact pwp_ret rz
  refine pwp_skip ?_
  refine rve 19 [(0, A a0), (1, .fn g1 c1), (7, I ((a0.length : Int))), (8, I ((w64 (x1 + 1))))] [] ?_
  exact ⟨(f2, (w64 (x1 + 1))), h, Nat.lt_succ_self _, (Imp.to (st' := ⟨19, [(0, A a0), (1, .fn g1 c1), (7, I ((a0.length : Int))), (8, I ((w64 (x1 + 1))))], []⟩) [0, 1, 7, 8] (by kernel_rfl)).trans (Imp.to [0, 1, 7, 8] (by kernel_rfl))⟩
  refine pwp_exit ?_
  refine srve 19 [(4, I (-1))] [] ?_
  cases h
  exact pwp_ret rz
def slices_IndexFunc_impl_Value_impl_Value_l0 (a0 : List T_impl_Value) (a1 : T_impl_Value → Option Bool) : Nat → Int → Option Int
  | 0, _ => none
  | f2 + 1, x1 => bif (decide (x1 < ((a0.length : Int)))) then (getI a0 x1).bind fun v5 => (a1 v5).bind fun v7 => bif v7 then some x1 else (slices_IndexFunc_impl_Value_impl_Value_l0 a0 a1 f2) ((w64 (x1 + 1))) else some (-1)
def slices_IndexFunc_impl_Value_impl_Value (a0 : List T_impl_Value) (a1 : T_impl_Value → Option Bool) : Option Int := slices_IndexFunc_impl_Value_impl_Value_l0 a0 a1 FUEL 0
theorem ok_slices_IndexFunc_impl_Value_impl_Value {a0 : List T_impl_Value} {g1 : FuncId} {c1 : List V} (hz1 : frzL c1 = true) {a1 : T_impl_Value → Option Bool} (hp1 : ∀ x0 y, a1 x0 = some y → OK Tryz.prog g1 ([E x0] ++ c1) (B y)) {y : Int} (h : slices_IndexFunc_impl_Value_impl_Value a0 a1 = some y) : OK Tryz.prog 192 [A a0, .fn g1 c1] (I y) := by
  refine OK_of_pwp τ_ok Tryz.func192 rfl (by kernel_rfl) rfl fun Γ hX => ?_
  unfold slices_IndexFunc_impl_Value_impl_Value at h
  refine srve 19 [(0, A a0), (1, .fn g1 c1)] [] ?_
  refine pwp_seq ?_
  refine srve 19 [(0, A a0), (1, .fn g1 c1), (7, I ((a0.length : Int))), (8, I 0)] [] ?_
  refine pwp_block ?_
  refine pwp_loop (ι := Nat × Int) (fun (f2, x1) => (⟨19, [(0, A a0), (1, .fn g1 c1), (7, I ((a0.length : Int))), (8, I x1)], []⟩ : St)) (fun (f2, x1) => slices_IndexFunc_impl_Value_impl_Value_l0 a0 a1 f2 x1 = some y) (fun (f2, x1) => f2) (FUEL, 0) h ((Imp.to (st' := ⟨19, [(0, A a0), (1, .fn g1 c1), (7, I ((a0.length : Int))), (8, I 0)], []⟩) [0, 1, 7, 8] (by kernel_rfl)).trans (Imp.to [0, 1, 7, 8] (by kernel_rfl))) ?_
  rintro ⟨f2, x1⟩ h
  dsimp only at h ⊢
  rcases f2 with _ | f2
  cases h
  rw [slices_IndexFunc_impl_Value_impl_Value_l0] at h
  refine srve 19 [(0, A a0), (1, .fn g1 c1), (7, I ((a0.length : Int))), (8, I x1), (9, B ((decide (x1 < ((a0.length : Int))))))] [] ?_
  refine pwp_seq ?_
  refine pc h (fun h => ?_) (fun h => ?_)
  refine pwp_skip ?_
  refine pwp_seq ?_
  refine pwp_block ?_
  refine srve 19 [(0, A a0), (1, .fn g1 c1), (5, I x1), (7, I ((a0.length : Int))), (8, I x1)] [] ?_
  refine srv 3 19 [(0, A a0), (1, .fn g1 c1), (5, I x1), (7, I ((a0.length : Int))), (8, I x1), (11, .fn g1 c1), (12, A a0), (13, I x1)] [] ?_
  obtain ⟨v5, hv6, h⟩ := bindS h
  refine opsP_idx τ_ok 14 hv6 (by kernel_rfl) ?_
  refine v 1 19 [(0, A a0), (1, .fn g1 c1), (5, I x1), (7, I ((a0.length : Int))), (8, I x1), (11, .fn g1 c1), (15, E v5)] [] ?_
  obtain ⟨v7, hv8, h⟩ := bindS h
  refine opsP_callF τ 16 (hp1 _ _ hv8) (FzTo.frz rfl) (frz_app (xs := [E v5]) rfl hz1) (by kernel_rfl) ?_
  refine ve 0 19 [(0, A a0), (1, .fn g1 c1), (5, I x1), (7, I ((a0.length : Int))), (8, I x1), (16, B v7)] [] ?_
  refine pc h (fun h => ?_) (fun h => ?_)
  refine srve 19 [(4, I x1)] [] ?_
  cases h
  exact pwp_ret rz
  refine pwp_skip ?_
  refine rve 19 [(0, A a0), (1, .fn g1 c1), (7, I ((a0.length : Int))), (8, I ((w64 (x1 + 1))))] [] ?_
  exact ⟨(f2, (w64 (x1 + 1))), h, Nat.lt_succ_self _, (Imp.to (st' := ⟨19, [(0, A a0), (1, .fn g1 c1), (7, I ((a0.length : Int))), (8, I ((w64 (x1 + 1))))], []⟩) [0, 1, 7, 8] (by kernel_rfl)).trans (Imp.to [0, 1, 7, 8] (by kernel_rfl))⟩
  refine pwp_exit ?_
  refine srve 19 [(4, I (-1))] [] ?_
  cases h
  exact pwp_ret rz
def laws_toColumnS_l0 (a0 : List T_laws_Column) : Nat → Int → (List T_impl_Column) → Option (List T_impl_Column)
  | 0, _, _ => none
  | f6 + 1, x4, x5 => bif (decide (x4 < ((a0.length : Int)))) then (getI a0 x4).bind fun v9 => (laws_toColumn v9).bind fun v11 => (getI x5 x4).bind fun v13 => (laws_toColumnS_l0 a0 f6) ((w64 (x4 + 1))) ((x5.set x4.toNat v11)) else some x5
def laws_toColumnS (a0 : List T_laws_Column) : Option (List T_impl_Column) := (mkI ((a0.length : Int)) ((T_impl_Column.mk 0 false))).bind fun v1 => laws_toColumnS_l0 a0 FUEL 0 v1
theorem ok_laws_toColumnS {a0 : List T_laws_Column} {y : List T_impl_Column} (h : laws_toColumnS a0 = some y) : OK Tryz.prog 30 [A a0] (O y) := by
  refine OK_of_pwp τ_ok Tryz.func30 rfl (by kernel_rfl) rfl fun Γ hX => ?_
  unfold laws_toColumnS at h
  refine srve 23 [(0, A a0)] [] ?_
  refine srv 2 23 [(0, A a0), (6, I ((a0.length : Int)))] [] ?_
  obtain ⟨v1, hv2, h⟩ := bindS h
  refine opsP_mk τ_ok 7 0 _ hv2 (by kernel_rfl) (by kernel_rfl) ?_
  refine ve 1 23 [(0, A a0), (3, .ref 0 0 0 2 v1.length false)] [some ⟨0, eL v1⟩] ?_
  refine pwp_seq ?_
  refine srve 23 [(0, A a0), (3, .ref 0 0 0 2 v1.length false), (4, I 0)] [some ⟨0, eL v1⟩] ?_
  refine pwp_block ?_
  refine pwp_loop (ι := Nat × Int × (List T_impl_Column)) (fun (f6, x4, x5) => (⟨23, [(0, A a0), (3, .ref 0 0 0 2 x5.length false), (4, I x4)], [some ⟨0, eL x5⟩]⟩ : St)) (fun (f6, x4, x5) => laws_toColumnS_l0 a0 f6 x4 x5 = some y) (fun (f6, x4, x5) => f6) (FUEL, 0, v1) h ((Imp.to (st' := ⟨23, [(0, A a0), (3, .ref 0 0 0 2 v1.length false), (4, I 0)], [some ⟨0, eL v1⟩]⟩) [0, 3, 4] (by kernel_rfl)).trans (Imp.to [0, 3, 4] (by kernel_rfl))) ?_
  rintro ⟨f6, x4, x5⟩ h
  dsimp only at h ⊢
  rcases f6 with _ | f6
  cases h
  rw [laws_toColumnS_l0] at h
  refine pwp_seq ?_
  refine srve 23 [(0, A a0), (3, .ref 0 0 0 2 x5.length false), (4, I x4), (11, B ((decide (x4 < ((a0.length : Int))))))] [some ⟨0, eL x5⟩] ?_
  refine pc h (fun h => ?_) (fun h => ?_)
  refine pwp_skip ?_
  refine pwp_seq ?_
  refine pwp_block ?_
  refine rv 4 23 [(0, A a0), (3, .ref 0 0 0 2 x5.length false), (4, I x4), (14, .ref 0 0 0 2 x5.length false), (15, I x4), (16, A a0), (17, I x4)] [some ⟨0, eL x5⟩] ?_
  obtain ⟨v9, hv10, h⟩ := bindS h
  refine opsP_idx τ_ok 18 hv10 (by kernel_rfl) ?_
  refine v 1 23 [(0, A a0), (3, .ref 0 0 0 2 x5.length false), (4, I x4), (14, .ref 0 0 0 2 x5.length false), (15, I x4), (19, E v9)] [some ⟨0, eL x5⟩] ?_
  obtain ⟨v11, hv12, h⟩ := bindS h
  refine opsP_callF τ 20 (ok_laws_toColumn hv12) (FzTo.frz rfl) rfl (by kernel_rfl) ?_
  obtain ⟨v13, hv14, h⟩ := bindS h
  refine opsP_idr τ_ok 21 0 0 x5.length hv14 rfl (by kernel_rfl) ?_
  refine v 0 23 [(0, A a0), (3, .ref 0 0 0 2 x5.length false), (4, I x4), (20, E v11), (21, .ptr 0 0 (x4.toNat * 2))] [some ⟨0, eL x5⟩] ?_
  refine opsP_ste (vs := [I v11.fKind, B v11.fEmpty]) τ_ok 113 0 0 0 v11 hv14 (by kernel_rfl) (by kernel_rfl) (by kernel_rfl) (renC trivial (renC (ren_ref (List.length_set ..).symm) (renC trivial (renC trivial (renC trivial renC0))))) ?_
  refine ve 0 23 [(0, A a0), (3, .ref 0 0 0 2 ((x5.set x4.toNat v11)).length false), (4, I x4)] [some ⟨0, eL ((x5.set x4.toNat v11))⟩] ?_
  refine rve 23 [(0, A a0), (3, .ref 0 0 0 2 ((x5.set x4.toNat v11)).length false), (4, I ((w64 (x4 + 1))))] [some ⟨0, eL ((x5.set x4.toNat v11))⟩] ?_
  exact ⟨(f6, (w64 (x4 + 1)), (x5.set x4.toNat v11)), h, Nat.lt_succ_self _, (Imp.to (st' := ⟨23, [(0, A a0), (3, .ref 0 0 0 2 ((x5.set x4.toNat v11)).length false), (4, I ((w64 (x4 + 1))))], [some ⟨0, eL ((x5.set x4.toNat v11))⟩]⟩) [0, 3, 4] (by kernel_rfl)).trans (Imp.to [0, 3, 4] (by kernel_rfl))⟩
  refine pwp_exit ?_
  refine srve 23 [(2, .ref 0 0 0 2 x5.length false)] [some ⟨0, eL x5⟩] ?_
  have h := si h
  subst h
  exact pwp_ret (rt (.ref 0 0 0 2 x5.length false) (OutP.list (v := 0) (by kernel_rfl)))
def laws_eqValueS_l0 (a0 : List T_impl_Value) (a1 : List T_impl_Value) : Nat → Int → Option Bool
  | 0, _ => none
  | f3 + 1, x2 => bif (decide (x2 < ((a0.length : Int)))) then (getI a0 x2).bind fun v6 => (getI a1 x2).bind fun v8 => (laws_eqValue v6 v8).bind fun v10 => bif (!v10) then some false else (laws_eqValueS_l0 a0 a1 f3) ((w64 (x2 + 1))) else some true
def laws_eqValueS (a0 : List T_impl_Value) (a1 : List T_impl_Value) : Option Bool := bif (!(((a0.length : Int)) == ((a1.length : Int)))) then some false else laws_eqValueS_l0 a0 a1 FUEL 0
theorem ok_laws_eqValueS {a0 : List T_impl_Value} {a1 : List T_impl_Value} {y : Bool} (h : laws_eqValueS a0 a1 = some y) : OK Tryz.prog 34 [A a0, A a1] (B y) := by
  refine OK_of_pwp τ_ok Tryz.func34 rfl (by kernel_rfl) rfl fun Γ hX => ?_
  unfold laws_eqValueS at h
  refine srve 27 [(0, A a0), (1, A a1)] [] ?_
  refine pwp_seq ?_
  refine srve 27 [(0, A a0), (1, A a1), (10, B ((!(((a0.length : Int)) == ((a1.length : Int))))))] [] ?_
  refine pc h (fun h => ?_) (fun h => ?_)
  refine srve 27 [(4, B false)] [] ?_
  cases h
  exact pwp_ret rz
  refine pwp_skip ?_
  refine pwp_seq ?_
  refine srve 27 [(0, A a0), (1, A a1), (5, I 0)] [] ?_
  refine pwp_block ?_
  refine pwp_loop (ι := Nat × Int) (fun (f3, x2) => (⟨27, [(0, A a0), (1, A a1), (5, I x2)], []⟩ : St)) (fun (f3, x2) => laws_eqValueS_l0 a0 a1 f3 x2 = some y) (fun (f3, x2) => f3) (FUEL, 0) h ((Imp.to (st' := ⟨27, [(0, A a0), (1, A a1), (5, I 0)], []⟩) [0, 1, 5] (by kernel_rfl)).trans (Imp.to [0, 1, 5] (by kernel_rfl))) ?_
  rintro ⟨f3, x2⟩ h
  dsimp only at h ⊢
  rcases f3 with _ | f3
  cases h
  rw [laws_eqValueS_l0] at h
  refine pwp_seq ?_
  refine srve 27 [(0, A a0), (1, A a1), (5, I x2), (14, B ((decide (x2 < ((a0.length : Int))))))] [] ?_
  refine pc h (fun h => ?_) (fun h => ?_)
  refine pwp_skip ?_
  refine pwp_seq ?_
  refine pwp_block ?_
  refine pwp_seq ?_
  refine pwp_imp (Imp.to (st' := ⟨27, [(0, A a0), (1, A a1), (5, I x2)], []⟩) [0, 1, 5] (by kernel_rfl)) ?_
  refine pwp_any ([[], [], [], [], [], [], [], [], [], []]) ([[], [], [], [], [], [], [], [], [], []]) rfl (by kernel_rfl) ?_
  refine qA_ev (st' := ⟨27, [(18, I x2), (17, A a0), (0, A a0), (1, A a1), (5, I x2)], []⟩) τ_ok [] [] 2 (by exact trivial) (by kernel_rfl) ?_
  obtain ⟨v6, hv7, h⟩ := bindS h
  refine qA_E (dd := some 19) (x := .fptr (Enc.cells v6) 0) ([]) (⟨27, [(19, .fptr (Enc.cells v6) 0), (18, I x2), (17, A a0), (0, A a0), (1, A a1), (5, I x2)], []⟩) (fun Γ' hΓ => CoreE.of_y (idxV_sound τ_ok (by kernel_rfl) hv7)) (by kernel_rfl) (by kernel_rfl) (by exact trivial) (.inr (.inr rfl)) (by kernel_rfl) ?_
  refine qA_ev (st' := ⟨27, [(22, I x2), (21, A a1), (20, E v6), (19, .fptr (Enc.cells v6) 0), (18, I x2), (17, A a0), (0, A a0), (1, A a1), (5, I x2)], []⟩) τ_ok [] [] 3 (by exact trivial) (by kernel_rfl) ?_
  obtain ⟨v8, hv9, h⟩ := bindS h
  refine qA_E (dd := some 23) (x := .fptr (Enc.cells v8) 0) ([]) (⟨27, [(23, .fptr (Enc.cells v8) 0), (22, I x2), (21, A a1), (20, E v6), (19, .fptr (Enc.cells v6) 0), (18, I x2), (17, A a0), (0, A a0), (1, A a1), (5, I x2)], []⟩) (fun Γ' hΓ => CoreE.of_y (idxV_sound τ_ok (by kernel_rfl) hv9)) (by kernel_rfl) (by kernel_rfl) (by exact trivial) (.inr (.inr rfl)) (by kernel_rfl) ?_
  refine qA_ev (st' := ⟨27, [(24, E v8), (23, .fptr (Enc.cells v8) 0), (22, I x2), (21, A a1), (20, E v6), (19, .fptr (Enc.cells v6) 0), (18, I x2), (17, A a0), (0, A a0), (1, A a1), (5, I x2)], []⟩) τ_ok [] [] 1 (by exact trivial) (by kernel_rfl) ?_
  obtain ⟨v10, hv11, h⟩ := bindS h
  refine qA_E (dd := some 25) (x := B v10) ([]) (⟨27, [(25, B v10), (24, E v8), (23, .fptr (Enc.cells v8) 0), (22, I x2), (21, A a1), (20, E v6), (19, .fptr (Enc.cells v6) 0), (18, I x2), (17, A a0), (0, A a0), (1, A a1), (5, I x2)], []⟩) (fun Γ' hΓ => CoreE.of_g (callV_sound (τ := τ) (by kernel_rfl) rfl (ok_laws_eqValue hv11) (FzTo.frz rfl))) (by kernel_rfl) (by kernel_rfl) (by exact trivial) (.inr (.inr rfl)) (by kernel_rfl) ?_
  refine qA_ev (st' := ⟨27, [(26, B ((!v10))), (25, B v10), (24, E v8), (23, .fptr (Enc.cells v8) 0), (22, I x2), (21, A a1), (20, E v6), (19, .fptr (Enc.cells v6) 0), (18, I x2), (17, A a0), (0, A a0), (1, A a1), (5, I x2)], []⟩) τ_ok [] [] 1 (by exact trivial) (by kernel_rfl) ?_
  refine qA_end ?_
  refine opsP_imp (Imp.to (st' := ⟨27, [(0, A a0), (1, A a1), (5, I x2), (26, B ((!v10)))], []⟩) [0, 1, 5, 26] (by kernel_rfl)) ?_
  refine opsP_end rfl ?_
  refine pc h (fun h => ?_) (fun h => ?_)
  refine srve 27 [(4, B false)] [] ?_
  cases h
  exact pwp_ret rz
  refine pwp_skip ?_
  refine rve 27 [(0, A a0), (1, A a1), (5, I ((w64 (x2 + 1))))] [] ?_
  exact ⟨(f3, (w64 (x2 + 1))), h, Nat.lt_succ_self _, (Imp.to (st' := ⟨27, [(0, A a0), (1, A a1), (5, I ((w64 (x2 + 1))))], []⟩) [0, 1, 5] (by kernel_rfl)).trans (Imp.to [0, 1, 5] (by kernel_rfl))⟩
  refine pwp_exit ?_
  refine srve 27 [(4, B true)] [] ?_
  cases h
  exact pwp_ret rz
def laws_eqColumnS_l0 (a0 : List T_impl_Column) (a1 : List T_impl_Column) : Nat → Int → Option Bool
  | 0, _ => none
  | f3 + 1, x2 => bif (decide (x2 < ((a0.length : Int)))) then (getI a0 x2).bind fun v6 => (getI a1 x2).bind fun v8 => (laws_eqColumn v6 v8).bind fun v10 => bif (!v10) then some false else (laws_eqColumnS_l0 a0 a1 f3) ((w64 (x2 + 1))) else some true
def laws_eqColumnS (a0 : List T_impl_Column) (a1 : List T_impl_Column) : Option Bool := bif (!(((a0.length : Int)) == ((a1.length : Int)))) then some false else laws_eqColumnS_l0 a0 a1 FUEL 0
theorem ok_laws_eqColumnS {a0 : List T_impl_Column} {a1 : List T_impl_Column} {y : Bool} (h : laws_eqColumnS a0 a1 = some y) : OK Tryz.prog 35 [A a0, A a1] (B y) := by
  refine OK_of_pwp τ_ok Tryz.func35 rfl (by kernel_rfl) rfl fun Γ hX => ?_
  unfold laws_eqColumnS at h
  refine srve 27 [(0, A a0), (1, A a1)] [] ?_
  refine pwp_seq ?_
  refine srve 27 [(0, A a0), (1, A a1), (10, B ((!(((a0.length : Int)) == ((a1.length : Int))))))] [] ?_
  refine pc h (fun h => ?_) (fun h => ?_)
  refine srve 27 [(4, B false)] [] ?_
  cases h
  exact pwp_ret rz
  refine pwp_skip ?_
  refine pwp_seq ?_
  refine srve 27 [(0, A a0), (1, A a1), (5, I 0)] [] ?_
  refine pwp_block ?_
  refine pwp_loop (ι := Nat × Int) (fun (f3, x2) => (⟨27, [(0, A a0), (1, A a1), (5, I x2)], []⟩ : St)) (fun (f3, x2) => laws_eqColumnS_l0 a0 a1 f3 x2 = some y) (fun (f3, x2) => f3) (FUEL, 0) h ((Imp.to (st' := ⟨27, [(0, A a0), (1, A a1), (5, I 0)], []⟩) [0, 1, 5] (by kernel_rfl)).trans (Imp.to [0, 1, 5] (by kernel_rfl))) ?_
  rintro ⟨f3, x2⟩ h
  dsimp only at h ⊢
  rcases f3 with _ | f3
  cases h
  rw [laws_eqColumnS_l0] at h
  refine pwp_seq ?_
  refine srve 27 [(0, A a0), (1, A a1), (5, I x2), (14, B ((decide (x2 < ((a0.length : Int))))))] [] ?_
  refine pc h (fun h => ?_) (fun h => ?_)
  refine pwp_skip ?_
  refine pwp_seq ?_
  refine pwp_block ?_
  refine pwp_seq ?_
  refine pwp_imp (Imp.to (st' := ⟨27, [(0, A a0), (1, A a1), (5, I x2)], []⟩) [0, 1, 5] (by kernel_rfl)) ?_
  refine pwp_any ([[], [], [], [], [], [], [], [], [], []]) ([[], [], [], [], [], [], [], [], [], []]) rfl (by kernel_rfl) ?_
  refine qA_ev (st' := ⟨27, [(18, I x2), (17, A a0), (0, A a0), (1, A a1), (5, I x2)], []⟩) τ_ok [] [] 2 (by exact trivial) (by kernel_rfl) ?_
  obtain ⟨v6, hv7, h⟩ := bindS h
  refine qA_E (dd := some 19) (x := .fptr (Enc.cells v6) 0) ([]) (⟨27, [(19, .fptr (Enc.cells v6) 0), (18, I x2), (17, A a0), (0, A a0), (1, A a1), (5, I x2)], []⟩) (fun Γ' hΓ => CoreE.of_y (idxV_sound τ_ok (by kernel_rfl) hv7)) (by kernel_rfl) (by kernel_rfl) (by exact trivial) (.inr (.inr rfl)) (by kernel_rfl) ?_
  refine qA_ev (st' := ⟨27, [(22, I x2), (21, A a1), (20, E v6), (19, .fptr (Enc.cells v6) 0), (18, I x2), (17, A a0), (0, A a0), (1, A a1), (5, I x2)], []⟩) τ_ok [] [] 3 (by exact trivial) (by kernel_rfl) ?_
  obtain ⟨v8, hv9, h⟩ := bindS h
  refine qA_E (dd := some 23) (x := .fptr (Enc.cells v8) 0) ([]) (⟨27, [(23, .fptr (Enc.cells v8) 0), (22, I x2), (21, A a1), (20, E v6), (19, .fptr (Enc.cells v6) 0), (18, I x2), (17, A a0), (0, A a0), (1, A a1), (5, I x2)], []⟩) (fun Γ' hΓ => CoreE.of_y (idxV_sound τ_ok (by kernel_rfl) hv9)) (by kernel_rfl) (by kernel_rfl) (by exact trivial) (.inr (.inr rfl)) (by kernel_rfl) ?_
  refine qA_ev (st' := ⟨27, [(24, E v8), (23, .fptr (Enc.cells v8) 0), (22, I x2), (21, A a1), (20, E v6), (19, .fptr (Enc.cells v6) 0), (18, I x2), (17, A a0), (0, A a0), (1, A a1), (5, I x2)], []⟩) τ_ok [] [] 1 (by exact trivial) (by kernel_rfl) ?_
  obtain ⟨v10, hv11, h⟩ := bindS h
  refine qA_E (dd := some 25) (x := B v10) ([]) (⟨27, [(25, B v10), (24, E v8), (23, .fptr (Enc.cells v8) 0), (22, I x2), (21, A a1), (20, E v6), (19, .fptr (Enc.cells v6) 0), (18, I x2), (17, A a0), (0, A a0), (1, A a1), (5, I x2)], []⟩) (fun Γ' hΓ => CoreE.of_g (callV_sound (τ := τ) (by kernel_rfl) rfl (ok_laws_eqColumn hv11) (FzTo.frz rfl))) (by kernel_rfl) (by kernel_rfl) (by exact trivial) (.inr (.inr rfl)) (by kernel_rfl) ?_
  refine qA_ev (st' := ⟨27, [(26, B ((!v10))), (25, B v10), (24, E v8), (23, .fptr (Enc.cells v8) 0), (22, I x2), (21, A a1), (20, E v6), (19, .fptr (Enc.cells v6) 0), (18, I x2), (17, A a0), (0, A a0), (1, A a1), (5, I x2)], []⟩) τ_ok [] [] 1 (by exact trivial) (by kernel_rfl) ?_
  refine qA_end ?_
  refine opsP_imp (Imp.to (st' := ⟨27, [(0, A a0), (1, A a1), (5, I x2), (26, B ((!v10)))], []⟩) [0, 1, 5, 26] (by kernel_rfl)) ?_
  refine opsP_end rfl ?_
  refine pc h (fun h => ?_) (fun h => ?_)
  refine srve 27 [(4, B false)] [] ?_
  cases h
  exact pwp_ret rz
  refine pwp_skip ?_
  refine rve 27 [(0, A a0), (1, A a1), (5, I ((w64 (x2 + 1))))] [] ?_
  exact ⟨(f3, (w64 (x2 + 1))), h, Nat.lt_succ_self _, (Imp.to (st' := ⟨27, [(0, A a0), (1, A a1), (5, I ((w64 (x2 + 1))))], []⟩) [0, 1, 5] (by kernel_rfl)).trans (Imp.to [0, 1, 5] (by kernel_rfl))⟩
  refine pwp_exit ?_
  refine srve 27 [(4, B true)] [] ?_
  cases h
  exact pwp_ret rz
def laws_eqPartS_l0 (a0 : List T_impl_Part) (a1 : List T_impl_Part) : Nat → Int → Option Bool
  | 0, _ => none
  | f3 + 1, x2 => bif (decide (x2 < ((a0.length : Int)))) then (getI a0 x2).bind fun v6 => (getI a1 x2).bind fun v8 => (laws_eqPart v6 v8).bind fun v10 => bif (!v10) then some false else (laws_eqPartS_l0 a0 a1 f3) ((w64 (x2 + 1))) else some true
def laws_eqPartS (a0 : List T_impl_Part) (a1 : List T_impl_Part) : Option Bool := bif (!(((a0.length : Int)) == ((a1.length : Int)))) then some false else laws_eqPartS_l0 a0 a1 FUEL 0
theorem ok_laws_eqPartS {a0 : List T_impl_Part} {a1 : List T_impl_Part} {y : Bool} (h : laws_eqPartS a0 a1 = some y) : OK Tryz.prog 37 [A a0, A a1] (B y) := by
  refine OK_of_pwp τ_ok Tryz.func37 rfl (by kernel_rfl) rfl fun Γ hX => ?_
  unfold laws_eqPartS at h
  refine srve 27 [(0, A a0), (1, A a1)] [] ?_
  refine pwp_seq ?_
  refine srve 27 [(0, A a0), (1, A a1), (10, B ((!(((a0.length : Int)) == ((a1.length : Int))))))] [] ?_
  refine pc h (fun h => ?_) (fun h => ?_)
  refine srve 27 [(4, B false)] [] ?_
  cases h
  exact pwp_ret rz
  refine pwp_skip ?_
  refine pwp_seq ?_
  refine srve 27 [(0, A a0), (1, A a1), (5, I 0)] [] ?_
  refine pwp_block ?_
  refine pwp_loop (ι := Nat × Int) (fun (f3, x2) => (⟨27, [(0, A a0), (1, A a1), (5, I x2)], []⟩ : St)) (fun (f3, x2) => laws_eqPartS_l0 a0 a1 f3 x2 = some y) (fun (f3, x2) => f3) (FUEL, 0) h ((Imp.to (st' := ⟨27, [(0, A a0), (1, A a1), (5, I 0)], []⟩) [0, 1, 5] (by kernel_rfl)).trans (Imp.to [0, 1, 5] (by kernel_rfl))) ?_
  rintro ⟨f3, x2⟩ h
  dsimp only at h ⊢
  rcases f3 with _ | f3
  cases h
  rw [laws_eqPartS_l0] at h
  refine pwp_seq ?_
  refine srve 27 [(0, A a0), (1, A a1), (5, I x2), (14, B ((decide (x2 < ((a0.length : Int))))))] [] ?_
  refine pc h (fun h => ?_) (fun h => ?_)
  refine pwp_skip ?_
  refine pwp_seq ?_
  refine pwp_block ?_
  refine pwp_seq ?_
  refine pwp_imp (Imp.to (st' := ⟨27, [(0, A a0), (1, A a1), (5, I x2)], []⟩) [0, 1, 5] (by kernel_rfl)) ?_
  refine pwp_any ([[], [], [], [], [], [], [], [], [], []]) ([[], [], [], [], [], [], [], [], [], []]) rfl (by kernel_rfl) ?_
  refine qA_ev (st' := ⟨27, [(18, I x2), (17, A a0), (0, A a0), (1, A a1), (5, I x2)], []⟩) τ_ok [] [] 2 (by exact trivial) (by kernel_rfl) ?_
  obtain ⟨v6, hv7, h⟩ := bindS h
  refine qA_E (dd := some 19) (x := .fptr (Enc.cells v6) 0) ([]) (⟨27, [(19, .fptr (Enc.cells v6) 0), (18, I x2), (17, A a0), (0, A a0), (1, A a1), (5, I x2)], []⟩) (fun Γ' hΓ => CoreE.of_y (idxV_sound τ_ok (by kernel_rfl) hv7)) (by kernel_rfl) (by kernel_rfl) (by exact trivial) (.inr (.inr rfl)) (by kernel_rfl) ?_
  refine qA_ev (st' := ⟨27, [(22, I x2), (21, A a1), (20, E v6), (19, .fptr (Enc.cells v6) 0), (18, I x2), (17, A a0), (0, A a0), (1, A a1), (5, I x2)], []⟩) τ_ok [] [] 3 (by exact trivial) (by kernel_rfl) ?_
  obtain ⟨v8, hv9, h⟩ := bindS h
  refine qA_E (dd := some 23) (x := .fptr (Enc.cells v8) 0) ([]) (⟨27, [(23, .fptr (Enc.cells v8) 0), (22, I x2), (21, A a1), (20, E v6), (19, .fptr (Enc.cells v6) 0), (18, I x2), (17, A a0), (0, A a0), (1, A a1), (5, I x2)], []⟩) (fun Γ' hΓ => CoreE.of_y (idxV_sound τ_ok (by kernel_rfl) hv9)) (by kernel_rfl) (by kernel_rfl) (by exact trivial) (.inr (.inr rfl)) (by kernel_rfl) ?_
  refine qA_ev (st' := ⟨27, [(24, E v8), (23, .fptr (Enc.cells v8) 0), (22, I x2), (21, A a1), (20, E v6), (19, .fptr (Enc.cells v6) 0), (18, I x2), (17, A a0), (0, A a0), (1, A a1), (5, I x2)], []⟩) τ_ok [] [] 1 (by exact trivial) (by kernel_rfl) ?_
  obtain ⟨v10, hv11, h⟩ := bindS h
  refine qA_E (dd := some 25) (x := B v10) ([]) (⟨27, [(25, B v10), (24, E v8), (23, .fptr (Enc.cells v8) 0), (22, I x2), (21, A a1), (20, E v6), (19, .fptr (Enc.cells v6) 0), (18, I x2), (17, A a0), (0, A a0), (1, A a1), (5, I x2)], []⟩) (fun Γ' hΓ => CoreE.of_g (callV_sound (τ := τ) (by kernel_rfl) rfl (ok_laws_eqPart hv11) (FzTo.frz rfl))) (by kernel_rfl) (by kernel_rfl) (by exact trivial) (.inr (.inr rfl)) (by kernel_rfl) ?_
  refine qA_ev (st' := ⟨27, [(26, B ((!v10))), (25, B v10), (24, E v8), (23, .fptr (Enc.cells v8) 0), (22, I x2), (21, A a1), (20, E v6), (19, .fptr (Enc.cells v6) 0), (18, I x2), (17, A a0), (0, A a0), (1, A a1), (5, I x2)], []⟩) τ_ok [] [] 1 (by exact trivial) (by kernel_rfl) ?_
  refine qA_end ?_
  refine opsP_imp (Imp.to (st' := ⟨27, [(0, A a0), (1, A a1), (5, I x2), (26, B ((!v10)))], []⟩) [0, 1, 5, 26] (by kernel_rfl)) ?_
  refine opsP_end rfl ?_
  refine pc h (fun h => ?_) (fun h => ?_)
  refine srve 27 [(4, B false)] [] ?_
  cases h
  exact pwp_ret rz
  refine pwp_skip ?_
  refine rve 27 [(0, A a0), (1, A a1), (5, I ((w64 (x2 + 1))))] [] ?_
  exact ⟨(f3, (w64 (x2 + 1))), h, Nat.lt_succ_self _, (Imp.to (st' := ⟨27, [(0, A a0), (1, A a1), (5, I ((w64 (x2 + 1))))], []⟩) [0, 1, 5] (by kernel_rfl)).trans (Imp.to [0, 1, 5] (by kernel_rfl))⟩
  refine pwp_exit ?_
  refine srve 27 [(4, B true)] [] ?_
  cases h
  exact pwp_ret rz
def laws_markPartS_l0 : Nat → Int → Int → (List T_impl_Part) → Option (Int × List T_impl_Part)
  | 0, _, _, _ => none
  | f5 + 1, x2, x3, x4 => bif (decide (x3 < ((x4.length : Int)))) then (getI x4 x3).bind fun v8 => (getI ((x4.set x3.toNat (({ v8 with fKind := x2 } : T_impl_Part)))) x3).bind fun v10 => (getI ((((x4.set x3.toNat (({ v8 with fKind := x2 } : T_impl_Part)))).set x3.toNat (({ v10 with fN := (w64 (x2 + 1)) } : T_impl_Part)))) x3).bind fun v12 => (getI ((((((x4.set x3.toNat (({ v8 with fKind := x2 } : T_impl_Part)))).set x3.toNat (({ v10 with fN := (w64 (x2 + 1)) } : T_impl_Part)))).set x3.toNat (({ v12 with fV := { v12.fV with fKind := (w64 (((w64 (x2 + 1))) + 1)) } } : T_impl_Part)))) x3).bind fun v14 => (laws_markText ((w64 (((w64 (((w64 (((w64 (x2 + 1))) + 1))) + 1))) + 1)))).bind fun v16 => (getI ((((((((x4.set x3.toNat (({ v8 with fKind := x2 } : T_impl_Part)))).set x3.toNat (({ v10 with fN := (w64 (x2 + 1)) } : T_impl_Part)))).set x3.toNat (({ v12 with fV := { v12.fV with fKind := (w64 (((w64 (x2 + 1))) + 1)) } } : T_impl_Part)))).set x3.toNat (({ v14 with fV := { v14.fV with fN := (w64 (((w64 (((w64 (x2 + 1))) + 1))) + 1)) } } : T_impl_Part)))) x3).bind fun v18 => (laws_markPartS_l0 f5) ((w64 (((w64 (((w64 (((w64 (((w64 (x2 + 1))) + 1))) + 1))) + 1))) + 1))) ((w64 (x3 + 1))) ((((((((((x4.set x3.toNat (({ v8 with fKind := x2 } : T_impl_Part)))).set x3.toNat (({ v10 with fN := (w64 (x2 + 1)) } : T_impl_Part)))).set x3.toNat (({ v12 with fV := { v12.fV with fKind := (w64 (((w64 (x2 + 1))) + 1)) } } : T_impl_Part)))).set x3.toNat (({ v14 with fV := { v14.fV with fN := (w64 (((w64 (((w64 (x2 + 1))) + 1))) + 1)) } } : T_impl_Part)))).set x3.toNat (({ v18 with fV := { v18.fV with fS := v16 } } : T_impl_Part)))) else some (x2, x4)
def laws_markPartS (a0 : List T_impl_Part) (a1 : Int) : Option (Int × List T_impl_Part) := laws_markPartS_l0 FUEL a1 0 a0
theorem len_laws_markPartS_l0 : ∀ (f5 : Nat) (x2 : Int) (x3 : Int) (x4 : List T_impl_Part) (y : Int × List T_impl_Part), laws_markPartS_l0 f5 x2 x3 x4 = some y → y.2.length = x4.length
  | 0, _, _, _, _, h => by cases h
  | f5 + 1, x2, x3, x4, y, h => by
    rw [laws_markPartS_l0] at h
    rcases condS h with h | h
    · obtain ⟨_, _, h⟩ := bindS h
      obtain ⟨_, _, h⟩ := bindS h
      obtain ⟨_, _, h⟩ := bindS h
      obtain ⟨_, _, h⟩ := bindS h
      obtain ⟨_, _, h⟩ := bindS h
      obtain ⟨_, _, h⟩ := bindS h
      have h2 := len_laws_markPartS_l0 f5 _ _ _ _ h
      simp only [List.length_set] at h2
      exact h2
    · cases h; rfl
theorem len_laws_markPartS {a0 : List T_impl_Part} {a1 : Int} {y : Int × List T_impl_Part} (h : laws_markPartS a0 a1 = some y) : y.2.length = a0.length := by
  unfold laws_markPartS at h
  exact len_laws_markPartS_l0 _ _ _ _ _ h
theorem ok_laws_markPartS {a0 : List T_impl_Part} {a1 : Int} {y : Int × List T_impl_Part} (h : laws_markPartS a0 a1 = some y) : OKd Tryz.prog 40 5 a0.length (eL a0) [I a1] (.int .i64 y.1) (eL y.2) := by
  refine OKd_of_pwp τ_ok Tryz.func40 rfl (by kernel_rfl) rfl (O_oc _) (O_oc _) (BlindL.lits (eL_lit DFlat.lit _)) (BlindL.lits (eL_lit DFlat.lit _)) rfl (fun hl => by rw [eL_len, len_laws_markPartS h, ← eL_len]; exact hl) fun Γ => ?_
  refine pwp_imp (Imp.to (st' := ⟨52, [(0, .ref 0 0 0 5 a0.length false), (1, I a1)], [some ⟨0, eL a0⟩]⟩) [0, 1] (by kernel_rfl)) ?_
  unfold laws_markPartS at h
  refine srve 52 [(0, .ref 0 0 0 5 a0.length false), (1, I a1)] [some ⟨0, eL a0⟩] ?_
  refine pwp_seq ?_
  refine srve 52 [(0, .ref 0 0 0 5 a0.length false), (1, I a1), (5, I 0)] [some ⟨0, eL a0⟩] ?_
  refine pwp_block ?_
  refine pwp_loop (ι := Nat × Int × Int × (List T_impl_Part)) (fun (f5, x2, x3, x4) => (⟨52, [(0, .ref 0 0 0 5 x4.length false), (1, I x2), (5, I x3)], [some ⟨0, eL x4⟩]⟩ : St)) (fun (f5, x2, x3, x4) => laws_markPartS_l0 f5 x2 x3 x4 = some y) (fun (f5, x2, x3, x4) => f5) (FUEL, a1, 0, a0) h ((Imp.to (st' := ⟨52, [(0, .ref 0 0 0 5 a0.length false), (1, I a1), (5, I 0)], [some ⟨0, eL a0⟩]⟩) [0, 1, 5] (by kernel_rfl)).trans (Imp.to [0, 1, 5] (by kernel_rfl))) ?_
  rintro ⟨f5, x2, x3, x4⟩ h
  dsimp only at h ⊢
  rcases f5 with _ | f5
  cases h
  rw [laws_markPartS_l0] at h
  refine pwp_seq ?_
  refine srve 52 [(0, .ref 0 0 0 5 x4.length false), (1, I x2), (5, I x3), (9, B ((decide (x3 < ((x4.length : Int))))))] [some ⟨0, eL x4⟩] ?_
  refine pc h (fun h => ?_) (fun h => ?_)
  refine pwp_skip ?_
  refine pwp_seq ?_
  refine pwp_block ?_
  refine srv 3 52 [(0, .ref 0 0 0 5 x4.length false), (1, I x2), (5, I x3), (12, .ref 0 0 0 5 x4.length false), (13, I x3), (14, I x2)] [some ⟨0, eL x4⟩] ?_
  obtain ⟨v8, hv9, h⟩ := bindS h
  refine opsP_idr τ_ok 15 0 0 x4.length hv9 rfl (by kernel_rfl) ?_
  refine v 1 52 [(0, .ref 0 0 0 5 x4.length false), (1, I x2), (5, I x3), (14, I x2), (16, .ptr 0 0 (x3.toNat * 5))] [some ⟨0, eL x4⟩] ?_
  refine opsP_ste (vs := [I x2]) τ_ok 3 0 0 0 (({ v8 with fKind := x2 } : T_impl_Part)) hv9 (by kernel_rfl) (by kernel_rfl) (by kernel_rfl) (renC (ren_ref (List.length_set ..).symm) (renC trivial (renC trivial (renC trivial (renC trivial renC0))))) ?_
  refine ve 0 52 [(0, .ref 0 0 0 5 ((x4.set x3.toNat (({ v8 with fKind := x2 } : T_impl_Part)))).length false), (1, I x2), (5, I x3)] [some ⟨0, eL ((x4.set x3.toNat (({ v8 with fKind := x2 } : T_impl_Part))))⟩] ?_
  refine srve 52 [(0, .ref 0 0 0 5 ((x4.set x3.toNat (({ v8 with fKind := x2 } : T_impl_Part)))).length false), (1, I ((w64 (x2 + 1)))), (5, I x3)] [some ⟨0, eL ((x4.set x3.toNat (({ v8 with fKind := x2 } : T_impl_Part))))⟩] ?_
  refine srv 3 52 [(0, .ref 0 0 0 5 ((x4.set x3.toNat (({ v8 with fKind := x2 } : T_impl_Part)))).length false), (1, I ((w64 (x2 + 1)))), (5, I x3), (19, .ref 0 0 0 5 ((x4.set x3.toNat (({ v8 with fKind := x2 } : T_impl_Part)))).length false), (20, I x3), (21, I ((w64 (x2 + 1))))] [some ⟨0, eL ((x4.set x3.toNat (({ v8 with fKind := x2 } : T_impl_Part))))⟩] ?_
  obtain ⟨v10, hv11, h⟩ := bindS h
  refine opsP_idr τ_ok 22 0 0 ((x4.set x3.toNat (({ v8 with fKind := x2 } : T_impl_Part)))).length hv11 rfl (by kernel_rfl) ?_
  refine v 1 52 [(0, .ref 0 0 0 5 ((x4.set x3.toNat (({ v8 with fKind := x2 } : T_impl_Part)))).length false), (1, I ((w64 (x2 + 1)))), (5, I x3), (21, I ((w64 (x2 + 1)))), (23, .ptr 0 0 (x3.toNat * 5 + 1))] [some ⟨0, eL ((x4.set x3.toNat (({ v8 with fKind := x2 } : T_impl_Part))))⟩] ?_
  refine opsP_ste (vs := [I ((w64 (x2 + 1)))]) τ_ok 3 0 0 1 (({ v10 with fN := (w64 (x2 + 1)) } : T_impl_Part)) hv11 (by kernel_rfl) (by kernel_rfl) (by kernel_rfl) (renC (ren_ref (List.length_set ..).symm) (renC trivial (renC trivial (renC trivial (renC trivial renC0))))) ?_
  refine ve 0 52 [(0, .ref 0 0 0 5 ((((x4.set x3.toNat (({ v8 with fKind := x2 } : T_impl_Part)))).set x3.toNat (({ v10 with fN := (w64 (x2 + 1)) } : T_impl_Part)))).length false), (1, I ((w64 (x2 + 1)))), (5, I x3)] [some ⟨0, eL ((((x4.set x3.toNat (({ v8 with fKind := x2 } : T_impl_Part)))).set x3.toNat (({ v10 with fN := (w64 (x2 + 1)) } : T_impl_Part))))⟩] ?_
  refine srve 52 [(0, .ref 0 0 0 5 ((((x4.set x3.toNat (({ v8 with fKind := x2 } : T_impl_Part)))).set x3.toNat (({ v10 with fN := (w64 (x2 + 1)) } : T_impl_Part)))).length false), (1, I ((w64 (((w64 (x2 + 1))) + 1)))), (5, I x3)] [some ⟨0, eL ((((x4.set x3.toNat (({ v8 with fKind := x2 } : T_impl_Part)))).set x3.toNat (({ v10 with fN := (w64 (x2 + 1)) } : T_impl_Part))))⟩] ?_
  refine srv 3 52 [(0, .ref 0 0 0 5 ((((x4.set x3.toNat (({ v8 with fKind := x2 } : T_impl_Part)))).set x3.toNat (({ v10 with fN := (w64 (x2 + 1)) } : T_impl_Part)))).length false), (1, I ((w64 (((w64 (x2 + 1))) + 1)))), (5, I x3), (26, .ref 0 0 0 5 ((((x4.set x3.toNat (({ v8 with fKind := x2 } : T_impl_Part)))).set x3.toNat (({ v10 with fN := (w64 (x2 + 1)) } : T_impl_Part)))).length false), (27, I x3), (28, I ((w64 (((w64 (x2 + 1))) + 1))))] [some ⟨0, eL ((((x4.set x3.toNat (({ v8 with fKind := x2 } : T_impl_Part)))).set x3.toNat (({ v10 with fN := (w64 (x2 + 1)) } : T_impl_Part))))⟩] ?_
  obtain ⟨v12, hv13, h⟩ := bindS h
  refine opsP_idr τ_ok 29 0 0 ((((x4.set x3.toNat (({ v8 with fKind := x2 } : T_impl_Part)))).set x3.toNat (({ v10 with fN := (w64 (x2 + 1)) } : T_impl_Part)))).length hv13 rfl (by kernel_rfl) ?_
  refine v 2 52 [(0, .ref 0 0 0 5 ((((x4.set x3.toNat (({ v8 with fKind := x2 } : T_impl_Part)))).set x3.toNat (({ v10 with fN := (w64 (x2 + 1)) } : T_impl_Part)))).length false), (1, I ((w64 (((w64 (x2 + 1))) + 1)))), (5, I x3), (28, I ((w64 (((w64 (x2 + 1))) + 1)))), (31, .ptr 0 0 (x3.toNat * 5 + 2))] [some ⟨0, eL ((((x4.set x3.toNat (({ v8 with fKind := x2 } : T_impl_Part)))).set x3.toNat (({ v10 with fN := (w64 (x2 + 1)) } : T_impl_Part))))⟩] ?_
  refine opsP_ste (vs := [I ((w64 (((w64 (x2 + 1))) + 1)))]) τ_ok 3 0 0 2 (({ v12 with fV := { v12.fV with fKind := (w64 (((w64 (x2 + 1))) + 1)) } } : T_impl_Part)) hv13 (by kernel_rfl) (by kernel_rfl) (by kernel_rfl) (renC (ren_ref (List.length_set ..).symm) (renC trivial (renC trivial (renC trivial (renC trivial renC0))))) ?_
  refine ve 0 52 [(0, .ref 0 0 0 5 ((((((x4.set x3.toNat (({ v8 with fKind := x2 } : T_impl_Part)))).set x3.toNat (({ v10 with fN := (w64 (x2 + 1)) } : T_impl_Part)))).set x3.toNat (({ v12 with fV := { v12.fV with fKind := (w64 (((w64 (x2 + 1))) + 1)) } } : T_impl_Part)))).length false), (1, I ((w64 (((w64 (x2 + 1))) + 1)))), (5, I x3)] [some ⟨0, eL ((((((x4.set x3.toNat (({ v8 with fKind := x2 } : T_impl_Part)))).set x3.toNat (({ v10 with fN := (w64 (x2 + 1)) } : T_impl_Part)))).set x3.toNat (({ v12 with fV := { v12.fV with fKind := (w64 (((w64 (x2 + 1))) + 1)) } } : T_impl_Part))))⟩] ?_
  refine srve 52 [(0, .ref 0 0 0 5 ((((((x4.set x3.toNat (({ v8 with fKind := x2 } : T_impl_Part)))).set x3.toNat (({ v10 with fN := (w64 (x2 + 1)) } : T_impl_Part)))).set x3.toNat (({ v12 with fV := { v12.fV with fKind := (w64 (((w64 (x2 + 1))) + 1)) } } : T_impl_Part)))).length false), (1, I ((w64 (((w64 (((w64 (x2 + 1))) + 1))) + 1)))), (5, I x3)] [some ⟨0, eL ((((((x4.set x3.toNat (({ v8 with fKind := x2 } : T_impl_Part)))).set x3.toNat (({ v10 with fN := (w64 (x2 + 1)) } : T_impl_Part)))).set x3.toNat (({ v12 with fV := { v12.fV with fKind := (w64 (((w64 (x2 + 1))) + 1)) } } : T_impl_Part))))⟩] ?_
  refine srv 3 52 [(0, .ref 0 0 0 5 ((((((x4.set x3.toNat (({ v8 with fKind := x2 } : T_impl_Part)))).set x3.toNat (({ v10 with fN := (w64 (x2 + 1)) } : T_impl_Part)))).set x3.toNat (({ v12 with fV := { v12.fV with fKind := (w64 (((w64 (x2 + 1))) + 1)) } } : T_impl_Part)))).length false), (1, I ((w64 (((w64 (((w64 (x2 + 1))) + 1))) + 1)))), (5, I x3), (34, .ref 0 0 0 5 ((((((x4.set x3.toNat (({ v8 with fKind := x2 } : T_impl_Part)))).set x3.toNat (({ v10 with fN := (w64 (x2 + 1)) } : T_impl_Part)))).set x3.toNat (({ v12 with fV := { v12.fV with fKind := (w64 (((w64 (x2 + 1))) + 1)) } } : T_impl_Part)))).length false), (35, I x3), (36, I ((w64 (((w64 (((w64 (x2 + 1))) + 1))) + 1))))] [some ⟨0, eL ((((((x4.set x3.toNat (({ v8 with fKind := x2 } : T_impl_Part)))).set x3.toNat (({ v10 with fN := (w64 (x2 + 1)) } : T_impl_Part)))).set x3.toNat (({ v12 with fV := { v12.fV with fKind := (w64 (((w64 (x2 + 1))) + 1)) } } : T_impl_Part))))⟩] ?_
  obtain ⟨v14, hv15, h⟩ := bindS h
  refine opsP_idr τ_ok 37 0 0 ((((((x4.set x3.toNat (({ v8 with fKind := x2 } : T_impl_Part)))).set x3.toNat (({ v10 with fN := (w64 (x2 + 1)) } : T_impl_Part)))).set x3.toNat (({ v12 with fV := { v12.fV with fKind := (w64 (((w64 (x2 + 1))) + 1)) } } : T_impl_Part)))).length hv15 rfl (by kernel_rfl) ?_
  refine v 2 52 [(0, .ref 0 0 0 5 ((((((x4.set x3.toNat (({ v8 with fKind := x2 } : T_impl_Part)))).set x3.toNat (({ v10 with fN := (w64 (x2 + 1)) } : T_impl_Part)))).set x3.toNat (({ v12 with fV := { v12.fV with fKind := (w64 (((w64 (x2 + 1))) + 1)) } } : T_impl_Part)))).length false), (1, I ((w64 (((w64 (((w64 (x2 + 1))) + 1))) + 1)))), (5, I x3), (36, I ((w64 (((w64 (((w64 (x2 + 1))) + 1))) + 1)))), (39, .ptr 0 0 (x3.toNat * 5 + 3))] [some ⟨0, eL ((((((x4.set x3.toNat (({ v8 with fKind := x2 } : T_impl_Part)))).set x3.toNat (({ v10 with fN := (w64 (x2 + 1)) } : T_impl_Part)))).set x3.toNat (({ v12 with fV := { v12.fV with fKind := (w64 (((w64 (x2 + 1))) + 1)) } } : T_impl_Part))))⟩] ?_
  refine opsP_ste (vs := [I ((w64 (((w64 (((w64 (x2 + 1))) + 1))) + 1)))]) τ_ok 3 0 0 3 (({ v14 with fV := { v14.fV with fN := (w64 (((w64 (((w64 (x2 + 1))) + 1))) + 1)) } } : T_impl_Part)) hv15 (by kernel_rfl) (by kernel_rfl) (by kernel_rfl) (renC (ren_ref (List.length_set ..).symm) (renC trivial (renC trivial (renC trivial (renC trivial renC0))))) ?_
  refine ve 0 52 [(0, .ref 0 0 0 5 ((((((((x4.set x3.toNat (({ v8 with fKind := x2 } : T_impl_Part)))).set x3.toNat (({ v10 with fN := (w64 (x2 + 1)) } : T_impl_Part)))).set x3.toNat (({ v12 with fV := { v12.fV with fKind := (w64 (((w64 (x2 + 1))) + 1)) } } : T_impl_Part)))).set x3.toNat (({ v14 with fV := { v14.fV with fN := (w64 (((w64 (((w64 (x2 + 1))) + 1))) + 1)) } } : T_impl_Part)))).length false), (1, I ((w64 (((w64 (((w64 (x2 + 1))) + 1))) + 1)))), (5, I x3)] [some ⟨0, eL ((((((((x4.set x3.toNat (({ v8 with fKind := x2 } : T_impl_Part)))).set x3.toNat (({ v10 with fN := (w64 (x2 + 1)) } : T_impl_Part)))).set x3.toNat (({ v12 with fV := { v12.fV with fKind := (w64 (((w64 (x2 + 1))) + 1)) } } : T_impl_Part)))).set x3.toNat (({ v14 with fV := { v14.fV with fN := (w64 (((w64 (((w64 (x2 + 1))) + 1))) + 1)) } } : T_impl_Part))))⟩] ?_
  refine srve 52 [(0, .ref 0 0 0 5 ((((((((x4.set x3.toNat (({ v8 with fKind := x2 } : T_impl_Part)))).set x3.toNat (({ v10 with fN := (w64 (x2 + 1)) } : T_impl_Part)))).set x3.toNat (({ v12 with fV := { v12.fV with fKind := (w64 (((w64 (x2 + 1))) + 1)) } } : T_impl_Part)))).set x3.toNat (({ v14 with fV := { v14.fV with fN := (w64 (((w64 (((w64 (x2 + 1))) + 1))) + 1)) } } : T_impl_Part)))).length false), (1, I ((w64 (((w64 (((w64 (((w64 (x2 + 1))) + 1))) + 1))) + 1)))), (5, I x3)] [some ⟨0, eL ((((((((x4.set x3.toNat (({ v8 with fKind := x2 } : T_impl_Part)))).set x3.toNat (({ v10 with fN := (w64 (x2 + 1)) } : T_impl_Part)))).set x3.toNat (({ v12 with fV := { v12.fV with fKind := (w64 (((w64 (x2 + 1))) + 1)) } } : T_impl_Part)))).set x3.toNat (({ v14 with fV := { v14.fV with fN := (w64 (((w64 (((w64 (x2 + 1))) + 1))) + 1)) } } : T_impl_Part))))⟩] ?_
  refine srv 3 52 [(0, .ref 0 0 0 5 ((((((((x4.set x3.toNat (({ v8 with fKind := x2 } : T_impl_Part)))).set x3.toNat (({ v10 with fN := (w64 (x2 + 1)) } : T_impl_Part)))).set x3.toNat (({ v12 with fV := { v12.fV with fKind := (w64 (((w64 (x2 + 1))) + 1)) } } : T_impl_Part)))).set x3.toNat (({ v14 with fV := { v14.fV with fN := (w64 (((w64 (((w64 (x2 + 1))) + 1))) + 1)) } } : T_impl_Part)))).length false), (1, I ((w64 (((w64 (((w64 (((w64 (x2 + 1))) + 1))) + 1))) + 1)))), (5, I x3), (42, .ref 0 0 0 5 ((((((((x4.set x3.toNat (({ v8 with fKind := x2 } : T_impl_Part)))).set x3.toNat (({ v10 with fN := (w64 (x2 + 1)) } : T_impl_Part)))).set x3.toNat (({ v12 with fV := { v12.fV with fKind := (w64 (((w64 (x2 + 1))) + 1)) } } : T_impl_Part)))).set x3.toNat (({ v14 with fV := { v14.fV with fN := (w64 (((w64 (((w64 (x2 + 1))) + 1))) + 1)) } } : T_impl_Part)))).length false), (43, I x3), (44, I ((w64 (((w64 (((w64 (((w64 (x2 + 1))) + 1))) + 1))) + 1))))] [some ⟨0, eL ((((((((x4.set x3.toNat (({ v8 with fKind := x2 } : T_impl_Part)))).set x3.toNat (({ v10 with fN := (w64 (x2 + 1)) } : T_impl_Part)))).set x3.toNat (({ v12 with fV := { v12.fV with fKind := (w64 (((w64 (x2 + 1))) + 1)) } } : T_impl_Part)))).set x3.toNat (({ v14 with fV := { v14.fV with fN := (w64 (((w64 (((w64 (x2 + 1))) + 1))) + 1)) } } : T_impl_Part))))⟩] ?_
  obtain ⟨v16, hv17, h⟩ := bindS h
  refine opsP_callF τ 45 (ok_laws_markText hv17) (FzTo.frz rfl) rfl (by kernel_rfl) ?_
  obtain ⟨v18, hv19, h⟩ := bindS h
  refine opsP_idr τ_ok 46 0 0 ((((((((x4.set x3.toNat (({ v8 with fKind := x2 } : T_impl_Part)))).set x3.toNat (({ v10 with fN := (w64 (x2 + 1)) } : T_impl_Part)))).set x3.toNat (({ v12 with fV := { v12.fV with fKind := (w64 (((w64 (x2 + 1))) + 1)) } } : T_impl_Part)))).set x3.toNat (({ v14 with fV := { v14.fV with fN := (w64 (((w64 (((w64 (x2 + 1))) + 1))) + 1)) } } : T_impl_Part)))).length hv19 rfl (by kernel_rfl) ?_
  refine v 2 52 [(0, .ref 0 0 0 5 ((((((((x4.set x3.toNat (({ v8 with fKind := x2 } : T_impl_Part)))).set x3.toNat (({ v10 with fN := (w64 (x2 + 1)) } : T_impl_Part)))).set x3.toNat (({ v12 with fV := { v12.fV with fKind := (w64 (((w64 (x2 + 1))) + 1)) } } : T_impl_Part)))).set x3.toNat (({ v14 with fV := { v14.fV with fN := (w64 (((w64 (((w64 (x2 + 1))) + 1))) + 1)) } } : T_impl_Part)))).length false), (1, I ((w64 (((w64 (((w64 (((w64 (x2 + 1))) + 1))) + 1))) + 1)))), (5, I x3), (45, S v16), (48, .ptr 0 0 (x3.toNat * 5 + 4))] [some ⟨0, eL ((((((((x4.set x3.toNat (({ v8 with fKind := x2 } : T_impl_Part)))).set x3.toNat (({ v10 with fN := (w64 (x2 + 1)) } : T_impl_Part)))).set x3.toNat (({ v12 with fV := { v12.fV with fKind := (w64 (((w64 (x2 + 1))) + 1)) } } : T_impl_Part)))).set x3.toNat (({ v14 with fV := { v14.fV with fN := (w64 (((w64 (((w64 (x2 + 1))) + 1))) + 1)) } } : T_impl_Part))))⟩] ?_
  refine opsP_ste (vs := [S v16]) τ_ok 9 0 0 4 (({ v18 with fV := { v18.fV with fS := v16 } } : T_impl_Part)) hv19 (by kernel_rfl) (by kernel_rfl) (by kernel_rfl) (renC (ren_ref (List.length_set ..).symm) (renC trivial (renC trivial (renC trivial (renC trivial renC0))))) ?_
  refine ve 0 52 [(0, .ref 0 0 0 5 ((((((((((x4.set x3.toNat (({ v8 with fKind := x2 } : T_impl_Part)))).set x3.toNat (({ v10 with fN := (w64 (x2 + 1)) } : T_impl_Part)))).set x3.toNat (({ v12 with fV := { v12.fV with fKind := (w64 (((w64 (x2 + 1))) + 1)) } } : T_impl_Part)))).set x3.toNat (({ v14 with fV := { v14.fV with fN := (w64 (((w64 (((w64 (x2 + 1))) + 1))) + 1)) } } : T_impl_Part)))).set x3.toNat (({ v18 with fV := { v18.fV with fS := v16 } } : T_impl_Part)))).length false), (1, I ((w64 (((w64 (((w64 (((w64 (x2 + 1))) + 1))) + 1))) + 1)))), (5, I x3)] [some ⟨0, eL ((((((((((x4.set x3.toNat (({ v8 with fKind := x2 } : T_impl_Part)))).set x3.toNat (({ v10 with fN := (w64 (x2 + 1)) } : T_impl_Part)))).set x3.toNat (({ v12 with fV := { v12.fV with fKind := (w64 (((w64 (x2 + 1))) + 1)) } } : T_impl_Part)))).set x3.toNat (({ v14 with fV := { v14.fV with fN := (w64 (((w64 (((w64 (x2 + 1))) + 1))) + 1)) } } : T_impl_Part)))).set x3.toNat (({ v18 with fV := { v18.fV with fS := v16 } } : T_impl_Part))))⟩] ?_
  refine rve 52 [(0, .ref 0 0 0 5 ((((((((((x4.set x3.toNat (({ v8 with fKind := x2 } : T_impl_Part)))).set x3.toNat (({ v10 with fN := (w64 (x2 + 1)) } : T_impl_Part)))).set x3.toNat (({ v12 with fV := { v12.fV with fKind := (w64 (((w64 (x2 + 1))) + 1)) } } : T_impl_Part)))).set x3.toNat (({ v14 with fV := { v14.fV with fN := (w64 (((w64 (((w64 (x2 + 1))) + 1))) + 1)) } } : T_impl_Part)))).set x3.toNat (({ v18 with fV := { v18.fV with fS := v16 } } : T_impl_Part)))).length false), (1, I ((w64 (((w64 (((w64 (((w64 (((w64 (x2 + 1))) + 1))) + 1))) + 1))) + 1)))), (5, I x3)] [some ⟨0, eL ((((((((((x4.set x3.toNat (({ v8 with fKind := x2 } : T_impl_Part)))).set x3.toNat (({ v10 with fN := (w64 (x2 + 1)) } : T_impl_Part)))).set x3.toNat (({ v12 with fV := { v12.fV with fKind := (w64 (((w64 (x2 + 1))) + 1)) } } : T_impl_Part)))).set x3.toNat (({ v14 with fV := { v14.fV with fN := (w64 (((w64 (((w64 (x2 + 1))) + 1))) + 1)) } } : T_impl_Part)))).set x3.toNat (({ v18 with fV := { v18.fV with fS := v16 } } : T_impl_Part))))⟩] ?_
  refine rve 52 [(0, .ref 0 0 0 5 ((((((((((x4.set x3.toNat (({ v8 with fKind := x2 } : T_impl_Part)))).set x3.toNat (({ v10 with fN := (w64 (x2 + 1)) } : T_impl_Part)))).set x3.toNat (({ v12 with fV := { v12.fV with fKind := (w64 (((w64 (x2 + 1))) + 1)) } } : T_impl_Part)))).set x3.toNat (({ v14 with fV := { v14.fV with fN := (w64 (((w64 (((w64 (x2 + 1))) + 1))) + 1)) } } : T_impl_Part)))).set x3.toNat (({ v18 with fV := { v18.fV with fS := v16 } } : T_impl_Part)))).length false), (1, I ((w64 (((w64 (((w64 (((w64 (((w64 (x2 + 1))) + 1))) + 1))) + 1))) + 1)))), (5, I ((w64 (x3 + 1))))] [some ⟨0, eL ((((((((((x4.set x3.toNat (({ v8 with fKind := x2 } : T_impl_Part)))).set x3.toNat (({ v10 with fN := (w64 (x2 + 1)) } : T_impl_Part)))).set x3.toNat (({ v12 with fV := { v12.fV with fKind := (w64 (((w64 (x2 + 1))) + 1)) } } : T_impl_Part)))).set x3.toNat (({ v14 with fV := { v14.fV with fN := (w64 (((w64 (((w64 (x2 + 1))) + 1))) + 1)) } } : T_impl_Part)))).set x3.toNat (({ v18 with fV := { v18.fV with fS := v16 } } : T_impl_Part))))⟩] ?_
  exact ⟨(f5, (w64 (((w64 (((w64 (((w64 (((w64 (x2 + 1))) + 1))) + 1))) + 1))) + 1)), (w64 (x3 + 1)), (((((((((x4.set x3.toNat (({ v8 with fKind := x2 } : T_impl_Part)))).set x3.toNat (({ v10 with fN := (w64 (x2 + 1)) } : T_impl_Part)))).set x3.toNat (({ v12 with fV := { v12.fV with fKind := (w64 (((w64 (x2 + 1))) + 1)) } } : T_impl_Part)))).set x3.toNat (({ v14 with fV := { v14.fV with fN := (w64 (((w64 (((w64 (x2 + 1))) + 1))) + 1)) } } : T_impl_Part)))).set x3.toNat (({ v18 with fV := { v18.fV with fS := v16 } } : T_impl_Part)))), h, Nat.lt_succ_self _, (Imp.to (st' := ⟨52, [(0, .ref 0 0 0 5 ((((((((((x4.set x3.toNat (({ v8 with fKind := x2 } : T_impl_Part)))).set x3.toNat (({ v10 with fN := (w64 (x2 + 1)) } : T_impl_Part)))).set x3.toNat (({ v12 with fV := { v12.fV with fKind := (w64 (((w64 (x2 + 1))) + 1)) } } : T_impl_Part)))).set x3.toNat (({ v14 with fV := { v14.fV with fN := (w64 (((w64 (((w64 (x2 + 1))) + 1))) + 1)) } } : T_impl_Part)))).set x3.toNat (({ v18 with fV := { v18.fV with fS := v16 } } : T_impl_Part)))).length false), (1, I ((w64 (((w64 (((w64 (((w64 (((w64 (x2 + 1))) + 1))) + 1))) + 1))) + 1)))), (5, I ((w64 (x3 + 1))))], [some ⟨0, eL ((((((((((x4.set x3.toNat (({ v8 with fKind := x2 } : T_impl_Part)))).set x3.toNat (({ v10 with fN := (w64 (x2 + 1)) } : T_impl_Part)))).set x3.toNat (({ v12 with fV := { v12.fV with fKind := (w64 (((w64 (x2 + 1))) + 1)) } } : T_impl_Part)))).set x3.toNat (({ v14 with fV := { v14.fV with fN := (w64 (((w64 (((w64 (x2 + 1))) + 1))) + 1)) } } : T_impl_Part)))).set x3.toNat (({ v18 with fV := { v18.fV with fS := v16 } } : T_impl_Part))))⟩]⟩) [0, 1, 5] (by kernel_rfl)).trans (Imp.to [0, 1, 5] (by kernel_rfl))⟩
  refine pwp_exit ?_
  refine srve 52 [(4, I x2)] [some ⟨0, eL x4⟩] ?_
  have h := si h
  subst h
  exact pwp_ret ⟨.inr rfl, 0, by kernel_rfl, by kernel_rfl⟩
def laws_markValueS_l0 : Nat → Int → Int → (List T_impl_Value) → Option (Int × List T_impl_Value)
  | 0, _, _, _ => none
  | f5 + 1, x2, x3, x4 => bif (decide (x3 < ((x4.length : Int)))) then (getI x4 x3).bind fun v8 => (getI ((x4.set x3.toNat (({ v8 with fKind := x2 } : T_impl_Value)))) x3).bind fun v10 => (laws_markText ((w64 (((w64 (x2 + 1))) + 1)))).bind fun v12 => (getI ((((x4.set x3.toNat (({ v8 with fKind := x2 } : T_impl_Value)))).set x3.toNat (({ v10 with fN := (w64 (x2 + 1)) } : T_impl_Value)))) x3).bind fun v14 => (laws_markValueS_l0 f5) ((w64 (((w64 (((w64 (x2 + 1))) + 1))) + 1))) ((w64 (x3 + 1))) ((((((x4.set x3.toNat (({ v8 with fKind := x2 } : T_impl_Value)))).set x3.toNat (({ v10 with fN := (w64 (x2 + 1)) } : T_impl_Value)))).set x3.toNat (({ v14 with fS := v12 } : T_impl_Value)))) else some (x2, x4)
def laws_markValueS (a0 : List T_impl_Value) (a1 : Int) : Option (Int × List T_impl_Value) := laws_markValueS_l0 FUEL a1 0 a0
theorem len_laws_markValueS_l0 : ∀ (f5 : Nat) (x2 : Int) (x3 : Int) (x4 : List T_impl_Value) (y : Int × List T_impl_Value), laws_markValueS_l0 f5 x2 x3 x4 = some y → y.2.length = x4.length
  | 0, _, _, _, _, h => by cases h
  | f5 + 1, x2, x3, x4, y, h => by
    rw [laws_markValueS_l0] at h
    rcases condS h with h | h
    · obtain ⟨_, _, h⟩ := bindS h
      obtain ⟨_, _, h⟩ := bindS h
      obtain ⟨_, _, h⟩ := bindS h
      obtain ⟨_, _, h⟩ := bindS h
      have h2 := len_laws_markValueS_l0 f5 _ _ _ _ h
      simp only [List.length_set] at h2
      exact h2
    · cases h; rfl
theorem len_laws_markValueS {a0 : List T_impl_Value} {a1 : Int} {y : Int × List T_impl_Value} (h : laws_markValueS a0 a1 = some y) : y.2.length = a0.length := by
  unfold laws_markValueS at h
  exact len_laws_markValueS_l0 _ _ _ _ _ h
theorem ok_laws_markValueS {a0 : List T_impl_Value} {a1 : Int} {y : Int × List T_impl_Value} (h : laws_markValueS a0 a1 = some y) : OKd Tryz.prog 41 3 a0.length (eL a0) [I a1] (.int .i64 y.1) (eL y.2) := by
  refine OKd_of_pwp τ_ok Tryz.func41 rfl (by kernel_rfl) rfl (O_oc _) (O_oc _) (BlindL.lits (eL_lit DFlat.lit _)) (BlindL.lits (eL_lit DFlat.lit _)) rfl (fun hl => by rw [eL_len, len_laws_markValueS h, ← eL_len]; exact hl) fun Γ => ?_
  refine pwp_imp (Imp.to (st' := ⟨35, [(0, .ref 0 0 0 3 a0.length false), (1, I a1)], [some ⟨0, eL a0⟩]⟩) [0, 1] (by kernel_rfl)) ?_
  unfold laws_markValueS at h
  refine srve 35 [(0, .ref 0 0 0 3 a0.length false), (1, I a1)] [some ⟨0, eL a0⟩] ?_
  refine pwp_seq ?_
  refine srve 35 [(0, .ref 0 0 0 3 a0.length false), (1, I a1), (5, I 0)] [some ⟨0, eL a0⟩] ?_
  refine pwp_block ?_
  refine pwp_loop (ι := Nat × Int × Int × (List T_impl_Value)) (fun (f5, x2, x3, x4) => (⟨35, [(0, .ref 0 0 0 3 x4.length false), (1, I x2), (5, I x3)], [some ⟨0, eL x4⟩]⟩ : St)) (fun (f5, x2, x3, x4) => laws_markValueS_l0 f5 x2 x3 x4 = some y) (fun (f5, x2, x3, x4) => f5) (FUEL, a1, 0, a0) h ((Imp.to (st' := ⟨35, [(0, .ref 0 0 0 3 a0.length false), (1, I a1), (5, I 0)], [some ⟨0, eL a0⟩]⟩) [0, 1, 5] (by kernel_rfl)).trans (Imp.to [0, 1, 5] (by kernel_rfl))) ?_
  rintro ⟨f5, x2, x3, x4⟩ h
  dsimp only at h ⊢
  rcases f5 with _ | f5
  cases h
  rw [laws_markValueS_l0] at h
  refine pwp_seq ?_
  refine srve 35 [(0, .ref 0 0 0 3 x4.length false), (1, I x2), (5, I x3), (9, B ((decide (x3 < ((x4.length : Int))))))] [some ⟨0, eL x4⟩] ?_
  refine pc h (fun h => ?_) (fun h => ?_)
  refine pwp_skip ?_
  refine pwp_seq ?_
  refine pwp_block ?_
  refine srv 3 35 [(0, .ref 0 0 0 3 x4.length false), (1, I x2), (5, I x3), (12, .ref 0 0 0 3 x4.length false), (13, I x3), (14, I x2)] [some ⟨0, eL x4⟩] ?_
  obtain ⟨v8, hv9, h⟩ := bindS h
  refine opsP_idr τ_ok 15 0 0 x4.length hv9 rfl (by kernel_rfl) ?_
  refine v 1 35 [(0, .ref 0 0 0 3 x4.length false), (1, I x2), (5, I x3), (14, I x2), (16, .ptr 0 0 (x3.toNat * 3))] [some ⟨0, eL x4⟩] ?_
  refine opsP_ste (vs := [I x2]) τ_ok 3 0 0 0 (({ v8 with fKind := x2 } : T_impl_Value)) hv9 (by kernel_rfl) (by kernel_rfl) (by kernel_rfl) (renC (ren_ref (List.length_set ..).symm) (renC trivial (renC trivial (renC trivial (renC trivial renC0))))) ?_
  refine ve 0 35 [(0, .ref 0 0 0 3 ((x4.set x3.toNat (({ v8 with fKind := x2 } : T_impl_Value)))).length false), (1, I x2), (5, I x3)] [some ⟨0, eL ((x4.set x3.toNat (({ v8 with fKind := x2 } : T_impl_Value))))⟩] ?_
  refine srve 35 [(0, .ref 0 0 0 3 ((x4.set x3.toNat (({ v8 with fKind := x2 } : T_impl_Value)))).length false), (1, I ((w64 (x2 + 1)))), (5, I x3)] [some ⟨0, eL ((x4.set x3.toNat (({ v8 with fKind := x2 } : T_impl_Value))))⟩] ?_
  refine srv 3 35 [(0, .ref 0 0 0 3 ((x4.set x3.toNat (({ v8 with fKind := x2 } : T_impl_Value)))).length false), (1, I ((w64 (x2 + 1)))), (5, I x3), (19, .ref 0 0 0 3 ((x4.set x3.toNat (({ v8 with fKind := x2 } : T_impl_Value)))).length false), (20, I x3), (21, I ((w64 (x2 + 1))))] [some ⟨0, eL ((x4.set x3.toNat (({ v8 with fKind := x2 } : T_impl_Value))))⟩] ?_
  obtain ⟨v10, hv11, h⟩ := bindS h
  refine opsP_idr τ_ok 22 0 0 ((x4.set x3.toNat (({ v8 with fKind := x2 } : T_impl_Value)))).length hv11 rfl (by kernel_rfl) ?_
  refine v 1 35 [(0, .ref 0 0 0 3 ((x4.set x3.toNat (({ v8 with fKind := x2 } : T_impl_Value)))).length false), (1, I ((w64 (x2 + 1)))), (5, I x3), (21, I ((w64 (x2 + 1)))), (23, .ptr 0 0 (x3.toNat * 3 + 1))] [some ⟨0, eL ((x4.set x3.toNat (({ v8 with fKind := x2 } : T_impl_Value))))⟩] ?_
  refine opsP_ste (vs := [I ((w64 (x2 + 1)))]) τ_ok 3 0 0 1 (({ v10 with fN := (w64 (x2 + 1)) } : T_impl_Value)) hv11 (by kernel_rfl) (by kernel_rfl) (by kernel_rfl) (renC (ren_ref (List.length_set ..).symm) (renC trivial (renC trivial (renC trivial (renC trivial renC0))))) ?_
  refine ve 0 35 [(0, .ref 0 0 0 3 ((((x4.set x3.toNat (({ v8 with fKind := x2 } : T_impl_Value)))).set x3.toNat (({ v10 with fN := (w64 (x2 + 1)) } : T_impl_Value)))).length false), (1, I ((w64 (x2 + 1)))), (5, I x3)] [some ⟨0, eL ((((x4.set x3.toNat (({ v8 with fKind := x2 } : T_impl_Value)))).set x3.toNat (({ v10 with fN := (w64 (x2 + 1)) } : T_impl_Value))))⟩] ?_
  refine srve 35 [(0, .ref 0 0 0 3 ((((x4.set x3.toNat (({ v8 with fKind := x2 } : T_impl_Value)))).set x3.toNat (({ v10 with fN := (w64 (x2 + 1)) } : T_impl_Value)))).length false), (1, I ((w64 (((w64 (x2 + 1))) + 1)))), (5, I x3)] [some ⟨0, eL ((((x4.set x3.toNat (({ v8 with fKind := x2 } : T_impl_Value)))).set x3.toNat (({ v10 with fN := (w64 (x2 + 1)) } : T_impl_Value))))⟩] ?_
  refine srv 3 35 [(0, .ref 0 0 0 3 ((((x4.set x3.toNat (({ v8 with fKind := x2 } : T_impl_Value)))).set x3.toNat (({ v10 with fN := (w64 (x2 + 1)) } : T_impl_Value)))).length false), (1, I ((w64 (((w64 (x2 + 1))) + 1)))), (5, I x3), (26, .ref 0 0 0 3 ((((x4.set x3.toNat (({ v8 with fKind := x2 } : T_impl_Value)))).set x3.toNat (({ v10 with fN := (w64 (x2 + 1)) } : T_impl_Value)))).length false), (27, I x3), (28, I ((w64 (((w64 (x2 + 1))) + 1))))] [some ⟨0, eL ((((x4.set x3.toNat (({ v8 with fKind := x2 } : T_impl_Value)))).set x3.toNat (({ v10 with fN := (w64 (x2 + 1)) } : T_impl_Value))))⟩] ?_
  obtain ⟨v12, hv13, h⟩ := bindS h
  refine opsP_callF τ 29 (ok_laws_markText hv13) (FzTo.frz rfl) rfl (by kernel_rfl) ?_
  obtain ⟨v14, hv15, h⟩ := bindS h
  refine opsP_idr τ_ok 30 0 0 ((((x4.set x3.toNat (({ v8 with fKind := x2 } : T_impl_Value)))).set x3.toNat (({ v10 with fN := (w64 (x2 + 1)) } : T_impl_Value)))).length hv15 rfl (by kernel_rfl) ?_
  refine v 1 35 [(0, .ref 0 0 0 3 ((((x4.set x3.toNat (({ v8 with fKind := x2 } : T_impl_Value)))).set x3.toNat (({ v10 with fN := (w64 (x2 + 1)) } : T_impl_Value)))).length false), (1, I ((w64 (((w64 (x2 + 1))) + 1)))), (5, I x3), (29, S v12), (31, .ptr 0 0 (x3.toNat * 3 + 2))] [some ⟨0, eL ((((x4.set x3.toNat (({ v8 with fKind := x2 } : T_impl_Value)))).set x3.toNat (({ v10 with fN := (w64 (x2 + 1)) } : T_impl_Value))))⟩] ?_
  refine opsP_ste (vs := [S v12]) τ_ok 9 0 0 2 (({ v14 with fS := v12 } : T_impl_Value)) hv15 (by kernel_rfl) (by kernel_rfl) (by kernel_rfl) (renC (ren_ref (List.length_set ..).symm) (renC trivial (renC trivial (renC trivial (renC trivial renC0))))) ?_
  refine ve 0 35 [(0, .ref 0 0 0 3 ((((((x4.set x3.toNat (({ v8 with fKind := x2 } : T_impl_Value)))).set x3.toNat (({ v10 with fN := (w64 (x2 + 1)) } : T_impl_Value)))).set x3.toNat (({ v14 with fS := v12 } : T_impl_Value)))).length false), (1, I ((w64 (((w64 (x2 + 1))) + 1)))), (5, I x3)] [some ⟨0, eL ((((((x4.set x3.toNat (({ v8 with fKind := x2 } : T_impl_Value)))).set x3.toNat (({ v10 with fN := (w64 (x2 + 1)) } : T_impl_Value)))).set x3.toNat (({ v14 with fS := v12 } : T_impl_Value))))⟩] ?_
  refine rve 35 [(0, .ref 0 0 0 3 ((((((x4.set x3.toNat (({ v8 with fKind := x2 } : T_impl_Value)))).set x3.toNat (({ v10 with fN := (w64 (x2 + 1)) } : T_impl_Value)))).set x3.toNat (({ v14 with fS := v12 } : T_impl_Value)))).length false), (1, I ((w64 (((w64 (((w64 (x2 + 1))) + 1))) + 1)))), (5, I x3)] [some ⟨0, eL ((((((x4.set x3.toNat (({ v8 with fKind := x2 } : T_impl_Value)))).set x3.toNat (({ v10 with fN := (w64 (x2 + 1)) } : T_impl_Value)))).set x3.toNat (({ v14 with fS := v12 } : T_impl_Value))))⟩] ?_
  refine rve 35 [(0, .ref 0 0 0 3 ((((((x4.set x3.toNat (({ v8 with fKind := x2 } : T_impl_Value)))).set x3.toNat (({ v10 with fN := (w64 (x2 + 1)) } : T_impl_Value)))).set x3.toNat (({ v14 with fS := v12 } : T_impl_Value)))).length false), (1, I ((w64 (((w64 (((w64 (x2 + 1))) + 1))) + 1)))), (5, I ((w64 (x3 + 1))))] [some ⟨0, eL ((((((x4.set x3.toNat (({ v8 with fKind := x2 } : T_impl_Value)))).set x3.toNat (({ v10 with fN := (w64 (x2 + 1)) } : T_impl_Value)))).set x3.toNat (({ v14 with fS := v12 } : T_impl_Value))))⟩] ?_
  exact ⟨(f5, (w64 (((w64 (((w64 (x2 + 1))) + 1))) + 1)), (w64 (x3 + 1)), (((((x4.set x3.toNat (({ v8 with fKind := x2 } : T_impl_Value)))).set x3.toNat (({ v10 with fN := (w64 (x2 + 1)) } : T_impl_Value)))).set x3.toNat (({ v14 with fS := v12 } : T_impl_Value)))), h, Nat.lt_succ_self _, (Imp.to (st' := ⟨35, [(0, .ref 0 0 0 3 ((((((x4.set x3.toNat (({ v8 with fKind := x2 } : T_impl_Value)))).set x3.toNat (({ v10 with fN := (w64 (x2 + 1)) } : T_impl_Value)))).set x3.toNat (({ v14 with fS := v12 } : T_impl_Value)))).length false), (1, I ((w64 (((w64 (((w64 (x2 + 1))) + 1))) + 1)))), (5, I ((w64 (x3 + 1))))], [some ⟨0, eL ((((((x4.set x3.toNat (({ v8 with fKind := x2 } : T_impl_Value)))).set x3.toNat (({ v10 with fN := (w64 (x2 + 1)) } : T_impl_Value)))).set x3.toNat (({ v14 with fS := v12 } : T_impl_Value))))⟩]⟩) [0, 1, 5] (by kernel_rfl)).trans (Imp.to [0, 1, 5] (by kernel_rfl))⟩
  refine pwp_exit ?_
  refine srve 35 [(4, I x2)] [some ⟨0, eL x4⟩] ?_
  have h := si h
  subst h
  exact pwp_ret ⟨.inr rfl, 0, by kernel_rfl, by kernel_rfl⟩
def laws_eqValueSS_l0 (a0 : List (List T_impl_Value)) (a1 : List (List T_impl_Value)) : Nat → Int → Option Bool
  | 0, _ => none
  | f3 + 1, x2 => bif (decide (x2 < ((a0.length : Int)))) then (getI a0 x2).bind fun v6 => (getI a1 x2).bind fun v8 => (laws_eqValueS v6 v8).bind fun v10 => bif (!v10) then some false else (laws_eqValueSS_l0 a0 a1 f3) ((w64 (x2 + 1))) else some true
def laws_eqValueSS (a0 : List (List T_impl_Value)) (a1 : List (List T_impl_Value)) : Option Bool := bif (!(((a0.length : Int)) == ((a1.length : Int)))) then some false else laws_eqValueSS_l0 a0 a1 FUEL 0
theorem ok_laws_eqValueSS {a0 : List (List T_impl_Value)} {a1 : List (List T_impl_Value)} {y : Bool} (h : laws_eqValueSS a0 a1 = some y) : OK Tryz.prog 50 [A a0, A a1] (B y) := by
  refine OK_of_pwp τ_ok Tryz.func50 rfl (by kernel_rfl) rfl fun Γ hX => ?_
  unfold laws_eqValueSS at h
  refine srve 27 [(0, A a0), (1, A a1)] [] ?_
  refine pwp_seq ?_
  refine srve 27 [(0, A a0), (1, A a1), (10, B ((!(((a0.length : Int)) == ((a1.length : Int))))))] [] ?_
  refine pc h (fun h => ?_) (fun h => ?_)
  refine srve 27 [(4, B false)] [] ?_
  cases h
  exact pwp_ret rz
  refine pwp_skip ?_
  refine pwp_seq ?_
  refine srve 27 [(0, A a0), (1, A a1), (5, I 0)] [] ?_
  refine pwp_block ?_
  refine pwp_loop (ι := Nat × Int) (fun (f3, x2) => (⟨27, [(0, A a0), (1, A a1), (5, I x2)], []⟩ : St)) (fun (f3, x2) => laws_eqValueSS_l0 a0 a1 f3 x2 = some y) (fun (f3, x2) => f3) (FUEL, 0) h ((Imp.to (st' := ⟨27, [(0, A a0), (1, A a1), (5, I 0)], []⟩) [0, 1, 5] (by kernel_rfl)).trans (Imp.to [0, 1, 5] (by kernel_rfl))) ?_
  rintro ⟨f3, x2⟩ h
  dsimp only at h ⊢
  rcases f3 with _ | f3
  cases h
  rw [laws_eqValueSS_l0] at h
  refine pwp_seq ?_
  refine srve 27 [(0, A a0), (1, A a1), (5, I x2), (14, B ((decide (x2 < ((a0.length : Int))))))] [] ?_
  refine pc h (fun h => ?_) (fun h => ?_)
  refine pwp_skip ?_
  refine pwp_seq ?_
  refine pwp_block ?_
  refine pwp_seq ?_
  refine pwp_imp (Imp.to (st' := ⟨27, [(0, A a0), (1, A a1), (5, I x2)], []⟩) [0, 1, 5] (by kernel_rfl)) ?_
  refine pwp_any ([[], [], [], [], [], [], [], [], [], []]) ([[], [], [], [], [], [], [], [], [], []]) rfl (by kernel_rfl) ?_
  refine qA_ev (st' := ⟨27, [(18, I x2), (17, A a0), (0, A a0), (1, A a1), (5, I x2)], []⟩) τ_ok [] [] 2 (by exact trivial) (by kernel_rfl) ?_
  obtain ⟨v6, hv7, h⟩ := bindS h
  refine qA_E (dd := some 19) (x := .fptr (Enc.cells v6) 0) ([]) (⟨27, [(19, .fptr (Enc.cells v6) 0), (18, I x2), (17, A a0), (0, A a0), (1, A a1), (5, I x2)], []⟩) (fun Γ' hΓ => CoreE.of_y (idxV_sound τ_ok (by kernel_rfl) hv7)) (by kernel_rfl) (by kernel_rfl) (by exact trivial) (.inr (.inr rfl)) (by kernel_rfl) ?_
  refine qA_ev (st' := ⟨27, [(22, I x2), (21, A a1), (20, A v6), (19, .fptr (Enc.cells v6) 0), (18, I x2), (17, A a0), (0, A a0), (1, A a1), (5, I x2)], []⟩) τ_ok [] [] 3 (by exact trivial) (by kernel_rfl) ?_
  obtain ⟨v8, hv9, h⟩ := bindS h
  refine qA_E (dd := some 23) (x := .fptr (Enc.cells v8) 0) ([]) (⟨27, [(23, .fptr (Enc.cells v8) 0), (22, I x2), (21, A a1), (20, A v6), (19, .fptr (Enc.cells v6) 0), (18, I x2), (17, A a0), (0, A a0), (1, A a1), (5, I x2)], []⟩) (fun Γ' hΓ => CoreE.of_y (idxV_sound τ_ok (by kernel_rfl) hv9)) (by kernel_rfl) (by kernel_rfl) (by exact trivial) (.inr (.inr rfl)) (by kernel_rfl) ?_
  refine qA_ev (st' := ⟨27, [(24, A v8), (23, .fptr (Enc.cells v8) 0), (22, I x2), (21, A a1), (20, A v6), (19, .fptr (Enc.cells v6) 0), (18, I x2), (17, A a0), (0, A a0), (1, A a1), (5, I x2)], []⟩) τ_ok [] [] 1 (by exact trivial) (by kernel_rfl) ?_
  obtain ⟨v10, hv11, h⟩ := bindS h
  refine qA_E (dd := some 25) (x := B v10) ([]) (⟨27, [(25, B v10), (24, A v8), (23, .fptr (Enc.cells v8) 0), (22, I x2), (21, A a1), (20, A v6), (19, .fptr (Enc.cells v6) 0), (18, I x2), (17, A a0), (0, A a0), (1, A a1), (5, I x2)], []⟩) (fun Γ' hΓ => CoreE.of_g (callV_sound (τ := τ) (by kernel_rfl) rfl (ok_laws_eqValueS hv11) (FzTo.frz rfl))) (by kernel_rfl) (by kernel_rfl) (by exact trivial) (.inr (.inr rfl)) (by kernel_rfl) ?_
  refine qA_ev (st' := ⟨27, [(26, B ((!v10))), (25, B v10), (24, A v8), (23, .fptr (Enc.cells v8) 0), (22, I x2), (21, A a1), (20, A v6), (19, .fptr (Enc.cells v6) 0), (18, I x2), (17, A a0), (0, A a0), (1, A a1), (5, I x2)], []⟩) τ_ok [] [] 1 (by exact trivial) (by kernel_rfl) ?_
  refine qA_end ?_
  refine opsP_imp (Imp.to (st' := ⟨27, [(0, A a0), (1, A a1), (5, I x2), (26, B ((!v10)))], []⟩) [0, 1, 5, 26] (by kernel_rfl)) ?_
  refine opsP_end rfl ?_
  refine pc h (fun h => ?_) (fun h => ?_)
  refine srve 27 [(4, B false)] [] ?_
  cases h
  exact pwp_ret rz
  refine pwp_skip ?_
  refine rve 27 [(0, A a0), (1, A a1), (5, I ((w64 (x2 + 1))))] [] ?_
  exact ⟨(f3, (w64 (x2 + 1))), h, Nat.lt_succ_self _, (Imp.to (st' := ⟨27, [(0, A a0), (1, A a1), (5, I ((w64 (x2 + 1))))], []⟩) [0, 1, 5] (by kernel_rfl)).trans (Imp.to [0, 1, 5] (by kernel_rfl))⟩
  refine pwp_exit ?_
  refine srve 27 [(4, B true)] [] ?_
  cases h
  exact pwp_ret rz
def laws_markValueSS_l0 : Nat → Int → Int → (List (List T_impl_Value)) → Option (Int × List (List T_impl_Value))
  | 0, _, _, _ => none
  | f5 + 1, x2, x3, x4 => bif (decide (x3 < ((x4.length : Int)))) then (getI x4 x3).bind fun v8 => (laws_markValueS v8 x2).bind fun v10 => (laws_markValueSS_l0 f5) v10.1 ((w64 (x3 + 1))) ((x4.set x3.toNat v10.2)) else some (x2, x4)
def laws_markValueSS (a0 : List (List T_impl_Value)) (a1 : Int) : Option (Int × List (List T_impl_Value)) := laws_markValueSS_l0 FUEL a1 0 a0
theorem len_laws_markValueSS_l0 : ∀ (f5 : Nat) (x2 : Int) (x3 : Int) (x4 : List (List T_impl_Value)) (y : Int × List (List T_impl_Value)), laws_markValueSS_l0 f5 x2 x3 x4 = some y → y.2.length = x4.length
  | 0, _, _, _, _, h => by cases h
  | f5 + 1, x2, x3, x4, y, h => by
    rw [laws_markValueSS_l0] at h
    rcases condS h with h | h
    · obtain ⟨_, _, h⟩ := bindS h
      obtain ⟨_, _, h⟩ := bindS h
      have h2 := len_laws_markValueSS_l0 f5 _ _ _ _ h
      simp only [List.length_set] at h2
      exact h2
    · cases h; rfl
theorem len_laws_markValueSS {a0 : List (List T_impl_Value)} {a1 : Int} {y : Int × List (List T_impl_Value)} (h : laws_markValueSS a0 a1 = some y) : y.2.length = a0.length := by
  unfold laws_markValueSS at h
  exact len_laws_markValueSS_l0 _ _ _ _ _ h
theorem ok_laws_markValueSS {a0 : List (List T_impl_Value)} {a1 : Int} {y : Int × List (List T_impl_Value)} (h : laws_markValueSS a0 a1 = some y) : OKd Tryz.prog 51 1 a0.length (dL a0) [I a1] (.int .i64 y.1) (dL y.2) := by
  refine OKd_of_pwp τ_ok Tryz.func51 rfl (by kernel_rfl) rfl (dL_oc _) (dL_oc _) (dL_bl _) (dL_bl _) rfl (fun hl => by rw [dL_len, len_laws_markValueSS h, ← dL_len]; exact hl) fun Γ => ?_
  refine pwp_imp (Imp.to (st' := ⟨19, [(0, .ref 0 0 0 1 a0.length false), (1, I a1)], [some ⟨0, dL a0⟩]⟩) [0, 1] (by kernel_rfl)) ?_
  unfold laws_markValueSS at h
  refine srve 19 [(0, .ref 0 0 0 1 a0.length false), (1, I a1)] [some ⟨0, dL a0⟩] ?_
  refine pwp_seq ?_
  refine srve 19 [(0, .ref 0 0 0 1 a0.length false), (1, I a1), (5, I 0)] [some ⟨0, dL a0⟩] ?_
  refine pwp_block ?_
  refine pwp_loop (ι := Nat × Int × Int × (List (List T_impl_Value))) (fun (f5, x2, x3, x4) => (⟨19, [(0, .ref 0 0 0 1 x4.length false), (1, I x2), (5, I x3)], [some ⟨0, dL x4⟩]⟩ : St)) (fun (f5, x2, x3, x4) => laws_markValueSS_l0 f5 x2 x3 x4 = some y) (fun (f5, x2, x3, x4) => f5) (FUEL, a1, 0, a0) h ((Imp.to (st' := ⟨19, [(0, .ref 0 0 0 1 a0.length false), (1, I a1), (5, I 0)], [some ⟨0, dL a0⟩]⟩) [0, 1, 5] (by kernel_rfl)).trans (Imp.to [0, 1, 5] (by kernel_rfl))) ?_
  rintro ⟨f5, x2, x3, x4⟩ h
  dsimp only at h ⊢
  rcases f5 with _ | f5
  cases h
  rw [laws_markValueSS_l0] at h
  refine pwp_seq ?_
  refine srve 19 [(0, .ref 0 0 0 1 x4.length false), (1, I x2), (5, I x3), (9, B ((decide (x3 < ((x4.length : Int))))))] [some ⟨0, dL x4⟩] ?_
  refine pc h (fun h => ?_) (fun h => ?_)
  refine pwp_skip ?_
  refine pwp_seq ?_
  refine pwp_block ?_
  refine rv 2 19 [(0, .ref 0 0 0 1 x4.length false), (1, I x2), (5, I x3), (12, .ref 0 0 0 1 x4.length false), (13, I x3)] [some ⟨0, dL x4⟩] ?_
  obtain ⟨v8, hv9, h⟩ := bindS h
  refine opsP_idr τ_ok 14 0 0 x4.length hv9 rfl (by kernel_rfl) ?_
  refine opsP_imp (Imp.to (st' := ⟨19, [(0, .ref 0 0 0 1 x4.length false), (1, I x2), (5, I x3), (12, .ref 0 0 0 1 x4.length false), (13, I x3), (14, .ptr 0 0 (x3.toNat * 1))], [some ⟨0, dL x4⟩]⟩) [0, 1, 5, 12, 13, 14] (by kernel_rfl)) ?_
  refine opsP_imp (Imp.ghosts 1 (st' := ⟨19, [(0, .ref 0 0 0 1 x4.length false), (1, I x2), (5, I x3), (12, .ref 0 0 0 1 x4.length false), (13, I x3), (14, .ptr 0 0 (x3.toNat * 1))], [some ⟨0, dL x4⟩, some ⟨0, []⟩]⟩) (by kernel_rfl)) ?_
  refine opsP_E (dd := some 15) (x := .ref 1 1 0 3 v8.length false) (CoreE.pre (H1 := [some ⟨0, setL (dL x4) (x3.toNat * 1 + 0) [.ref 1 1 0 3 v8.length false]⟩, some ⟨1, eL v8⟩]) (HStep.openL (cs0 := []) (xs := x4) (s := 3) (n := v8.length) (f := false) (cs := eL v8) 0 0 1 0 0 hv9 (by kernel_rfl) (by kernel_rfl) (by kernel_rfl) (by kernel_rfl) (by decide) (fun _ _ => by decide) (by kernel_rfl)) (ldo_E (xs := x4) τ_ok 15 36 0 hv9 (by kernel_rfl) (by kernel_rfl) (by kernel_rfl))) ?_
  refine v 1 19 [(0, .ref 0 0 0 1 x4.length false), (5, I x3), (15, .ref 1 1 0 3 v8.length false), (16, I x2)] [some ⟨0, setL (dL x4) (x3.toNat * 1 + 0) [.ref 1 1 0 3 v8.length false]⟩, some ⟨1, eL v8⟩] ?_
  obtain ⟨v10, hv11, h⟩ := bindS h
  refine opsP_E (dd := some 17) (x := I v10.1) ((callD_E τ 17 1 1 (ok_laws_markValueS hv11) (by kernel_rfl)).then (H2 := [some ⟨0, dL ((x4.set x3.toNat v10.2))⟩, some ⟨2, []⟩]) (HStep.nestL (xs := x4) (vs := [.ref 1 1 0 3 v8.length false]) 0 0 0 v10.2 hv9 (by kernel_rfl) (OutL.cons (OutP.listn (v := 1) (xs := v10.2) (len_laws_markValueS hv11) (by kernel_rfl)) (OutL.nil _)) (by decide) (by decide) (fun _ _ => by decide) (by kernel_rfl) (by kernel_rfl) (by kernel_rfl) (by kernel_rfl))) ?_
  refine opsP_imp (Imp.to (st' := ⟨19, [(0, .ref 0 0 0 1 x4.length false), (5, I x3), (16, I x2), (17, I v10.1)], [some ⟨0, dL ((x4.set x3.toNat v10.2))⟩, some ⟨2, []⟩]⟩) [0, 5, 16, 17] (by kernel_rfl)) ?_
  refine opsP_ren (st' := ⟨19, [(0, .ref 0 0 0 1 ((x4.set x3.toNat v10.2)).length false), (5, I x3), (16, I x2), (17, I v10.1)], [some ⟨0, dL ((x4.set x3.toNat v10.2))⟩, some ⟨2, []⟩]⟩) 0 ((x4.set x3.toNat v10.2)).length (renC (ren_ref (List.length_set ..).symm) (renC trivial (renC trivial (renC trivial renC0)))) (by kernel_rfl) ?_
  refine ve 1 19 [(0, .ref 0 0 0 1 ((x4.set x3.toNat v10.2)).length false), (1, I v10.1), (5, I x3)] [some ⟨0, dL ((x4.set x3.toNat v10.2))⟩, some ⟨2, []⟩] ?_
  refine rve 19 [(0, .ref 0 0 0 1 ((x4.set x3.toNat v10.2)).length false), (1, I v10.1), (5, I ((w64 (x3 + 1))))] [some ⟨0, dL ((x4.set x3.toNat v10.2))⟩, some ⟨2, []⟩] ?_
  exact ⟨(f5, v10.1, (w64 (x3 + 1)), (x4.set x3.toNat v10.2)), h, Nat.lt_succ_self _, (Imp.to (st' := ⟨19, [(0, .ref 0 0 0 1 ((x4.set x3.toNat v10.2)).length false), (1, I v10.1), (5, I ((w64 (x3 + 1))))], [some ⟨0, dL ((x4.set x3.toNat v10.2))⟩, some ⟨2, []⟩]⟩) [0, 1, 5] (by kernel_rfl)).trans ((Imp.truncS (st' := ⟨19, [(0, .ref 0 0 0 1 ((x4.set x3.toNat v10.2)).length false), (1, I v10.1), (5, I ((w64 (x3 + 1))))], [some ⟨0, dL ((x4.set x3.toNat v10.2))⟩]⟩) 1 (fun _ _ => by decide) (by kernel_rfl) (allBelow_mem (by exact (And.intro rfl (And.intro rfl (And.intro rfl trivial))))) (by exact (And.intro (dL_below _ _) trivial)) (by kernel_rfl)).trans (Imp.to [0, 1, 5] (by kernel_rfl)))⟩
  refine pwp_exit ?_
  refine srve 19 [(4, I x2)] [some ⟨0, dL x4⟩] ?_
  have h := si h
  subst h
  exact pwp_ret ⟨.inr rfl, 0, by kernel_rfl, by kernel_rfl⟩
def laws_szValueS_l0 (a0 : List T_laws_Value) : Nat → Int → Int → Option Int
  | 0, _, _ => none
  | f4 + 1, x2, x3 => bif (decide (x3 < ((a0.length : Int)))) then (getI a0 x3).bind fun v7 => (laws_szValue v7 x2).bind fun v9 => bif (decide (v9 < 0)) then some (-1) else (laws_szValueS_l0 a0 f4) v9 ((w64 (x3 + 1))) else some x2
def laws_szValueS (a0 : List T_laws_Value) (a1 : Int) : Option Int := bif (decide (((w64 (a1 - ((a0.length : Int))))) < 0)) then some (-1) else laws_szValueS_l0 a0 FUEL ((w64 (a1 - ((a0.length : Int))))) 0
theorem ok_laws_szValueS {a0 : List T_laws_Value} {a1 : Int} {y : Int} (h : laws_szValueS a0 a1 = some y) : OK Tryz.prog 59 [A a0, I a1] (I y) := by
  refine OK_of_pwp τ_ok Tryz.func59 rfl (by kernel_rfl) rfl fun Γ hX => ?_
  unfold laws_szValueS at h
  refine srve 27 [(0, A a0), (1, I a1)] [] ?_
  refine srve 27 [(0, A a0), (1, I ((w64 (a1 - ((a0.length : Int))))))] [] ?_
  refine pwp_seq ?_
  refine srve 27 [(0, A a0), (1, I ((w64 (a1 - ((a0.length : Int)))))), (11, B ((decide (((w64 (a1 - ((a0.length : Int))))) < 0))))] [] ?_
  refine pc h (fun h => ?_) (fun h => ?_)
  refine srve 27 [(4, I (-1))] [] ?_
  cases h
  exact pwp_ret rz
  refine pwp_skip ?_
  refine pwp_seq ?_
  refine srve 27 [(0, A a0), (1, I ((w64 (a1 - ((a0.length : Int)))))), (5, I 0)] [] ?_
  refine pwp_block ?_
  refine pwp_loop (ι := Nat × Int × Int) (fun (f4, x2, x3) => (⟨27, [(0, A a0), (1, I x2), (5, I x3)], []⟩ : St)) (fun (f4, x2, x3) => laws_szValueS_l0 a0 f4 x2 x3 = some y) (fun (f4, x2, x3) => f4) (FUEL, (w64 (a1 - ((a0.length : Int)))), 0) h ((Imp.to (st' := ⟨27, [(0, A a0), (1, I ((w64 (a1 - ((a0.length : Int)))))), (5, I 0)], []⟩) [0, 1, 5] (by kernel_rfl)).trans (Imp.to [0, 1, 5] (by kernel_rfl))) ?_
  rintro ⟨f4, x2, x3⟩ h
  dsimp only at h ⊢
  rcases f4 with _ | f4
  cases h
  rw [laws_szValueS_l0] at h
  refine pwp_seq ?_
  refine srve 27 [(0, A a0), (1, I x2), (5, I x3), (15, B ((decide (x3 < ((a0.length : Int))))))] [] ?_
  refine pc h (fun h => ?_) (fun h => ?_)
  refine pwp_skip ?_
  refine pwp_seq ?_
  refine pwp_block ?_
  refine srv 2 27 [(0, A a0), (1, I x2), (5, I x3), (18, A a0), (19, I x3)] [] ?_
  obtain ⟨v7, hv8, h⟩ := bindS h
  refine opsP_idx τ_ok 20 hv8 (by kernel_rfl) ?_
  refine v 2 27 [(0, A a0), (5, I x3), (21, E v7), (22, I x2)] [] ?_
  obtain ⟨v9, hv10, h⟩ := bindS h
  refine opsP_callF τ 23 (ok_laws_szValue hv10) (FzTo.frz rfl) rfl (by kernel_rfl) ?_
  refine ve 1 27 [(0, A a0), (1, I v9), (5, I x3)] [] ?_
  refine srve 27 [(0, A a0), (1, I v9), (5, I x3), (25, B ((decide (v9 < 0))))] [] ?_
  refine pc h (fun h => ?_) (fun h => ?_)
  refine srve 27 [(4, I (-1))] [] ?_
  cases h
  exact pwp_ret rz
  refine pwp_skip ?_
  refine rve 27 [(0, A a0), (1, I v9), (5, I ((w64 (x3 + 1))))] [] ?_
  exact ⟨(f4, v9, (w64 (x3 + 1))), h, Nat.lt_succ_self _, (Imp.to (st' := ⟨27, [(0, A a0), (1, I v9), (5, I ((w64 (x3 + 1))))], []⟩) [0, 1, 5] (by kernel_rfl)).trans (Imp.to [0, 1, 5] (by kernel_rfl))⟩
  refine pwp_exit ?_
  refine srve 27 [(4, I x2)] [] ?_
  cases h
  exact pwp_ret rz
def laws_toValueS_l0 (a0 : List T_laws_Value) : Nat → Int → (List T_impl_Value) → Option (List T_impl_Value)
  | 0, _, _ => none
  | f6 + 1, x4, x5 => bif (decide (x4 < ((a0.length : Int)))) then (getI a0 x4).bind fun v9 => (laws_toValue v9).bind fun v11 => (getI x5 x4).bind fun v13 => (laws_toValueS_l0 a0 f6) ((w64 (x4 + 1))) ((x5.set x4.toNat v11)) else some x5
def laws_toValueS (a0 : List T_laws_Value) : Option (List T_impl_Value) := (mkI ((a0.length : Int)) ((T_impl_Value.mk 0 0 (ByteArray.mk #[])))).bind fun v1 => laws_toValueS_l0 a0 FUEL 0 v1
theorem ok_laws_toValueS {a0 : List T_laws_Value} {y : List T_impl_Value} (h : laws_toValueS a0 = some y) : OK Tryz.prog 64 [A a0] (O y) := by
  refine OK_of_pwp τ_ok Tryz.func64 rfl (by kernel_rfl) rfl fun Γ hX => ?_
  unfold laws_toValueS at h
  refine srve 23 [(0, A a0)] [] ?_
  refine srv 2 23 [(0, A a0), (6, I ((a0.length : Int)))] [] ?_
  obtain ⟨v1, hv2, h⟩ := bindS h
  refine opsP_mk τ_ok 7 0 _ hv2 (by kernel_rfl) (by kernel_rfl) ?_
  refine ve 1 23 [(0, A a0), (3, .ref 0 0 0 3 v1.length false)] [some ⟨0, eL v1⟩] ?_
  refine pwp_seq ?_
  refine srve 23 [(0, A a0), (3, .ref 0 0 0 3 v1.length false), (4, I 0)] [some ⟨0, eL v1⟩] ?_
  refine pwp_block ?_
  refine pwp_loop (ι := Nat × Int × (List T_impl_Value)) (fun (f6, x4, x5) => (⟨23, [(0, A a0), (3, .ref 0 0 0 3 x5.length false), (4, I x4)], [some ⟨0, eL x5⟩]⟩ : St)) (fun (f6, x4, x5) => laws_toValueS_l0 a0 f6 x4 x5 = some y) (fun (f6, x4, x5) => f6) (FUEL, 0, v1) h ((Imp.to (st' := ⟨23, [(0, A a0), (3, .ref 0 0 0 3 v1.length false), (4, I 0)], [some ⟨0, eL v1⟩]⟩) [0, 3, 4] (by kernel_rfl)).trans (Imp.to [0, 3, 4] (by kernel_rfl))) ?_
  rintro ⟨f6, x4, x5⟩ h
  dsimp only at h ⊢
  rcases f6 with _ | f6
  cases h
  rw [laws_toValueS_l0] at h
  refine pwp_seq ?_
  refine srve 23 [(0, A a0), (3, .ref 0 0 0 3 x5.length false), (4, I x4), (11, B ((decide (x4 < ((a0.length : Int))))))] [some ⟨0, eL x5⟩] ?_
  refine pc h (fun h => ?_) (fun h => ?_)
  refine pwp_skip ?_
  refine pwp_seq ?_
  refine pwp_block ?_
  refine rv 4 23 [(0, A a0), (3, .ref 0 0 0 3 x5.length false), (4, I x4), (14, .ref 0 0 0 3 x5.length false), (15, I x4), (16, A a0), (17, I x4)] [some ⟨0, eL x5⟩] ?_
  obtain ⟨v9, hv10, h⟩ := bindS h
  refine opsP_idx τ_ok 18 hv10 (by kernel_rfl) ?_
  refine v 1 23 [(0, A a0), (3, .ref 0 0 0 3 x5.length false), (4, I x4), (14, .ref 0 0 0 3 x5.length false), (15, I x4), (19, E v9)] [some ⟨0, eL x5⟩] ?_
  obtain ⟨v11, hv12, h⟩ := bindS h
  refine opsP_callF τ 20 (ok_laws_toValue hv12) (FzTo.frz rfl) rfl (by kernel_rfl) ?_
  obtain ⟨v13, hv14, h⟩ := bindS h
  refine opsP_idr τ_ok 21 0 0 x5.length hv14 rfl (by kernel_rfl) ?_
  refine v 0 23 [(0, A a0), (3, .ref 0 0 0 3 x5.length false), (4, I x4), (20, E v11), (21, .ptr 0 0 (x4.toNat * 3))] [some ⟨0, eL x5⟩] ?_
  refine opsP_ste (vs := [I v11.fKind, I v11.fN, S v11.fS]) τ_ok 117 0 0 0 v11 hv14 (by kernel_rfl) (by kernel_rfl) (by kernel_rfl) (renC trivial (renC (ren_ref (List.length_set ..).symm) (renC trivial (renC trivial (renC trivial renC0))))) ?_
  refine ve 0 23 [(0, A a0), (3, .ref 0 0 0 3 ((x5.set x4.toNat v11)).length false), (4, I x4)] [some ⟨0, eL ((x5.set x4.toNat v11))⟩] ?_
  refine rve 23 [(0, A a0), (3, .ref 0 0 0 3 ((x5.set x4.toNat v11)).length false), (4, I ((w64 (x4 + 1))))] [some ⟨0, eL ((x5.set x4.toNat v11))⟩] ?_
  exact ⟨(f6, (w64 (x4 + 1)), (x5.set x4.toNat v11)), h, Nat.lt_succ_self _, (Imp.to (st' := ⟨23, [(0, A a0), (3, .ref 0 0 0 3 ((x5.set x4.toNat v11)).length false), (4, I ((w64 (x4 + 1))))], [some ⟨0, eL ((x5.set x4.toNat v11))⟩]⟩) [0, 3, 4] (by kernel_rfl)).trans (Imp.to [0, 3, 4] (by kernel_rfl))⟩
  refine pwp_exit ?_
  refine srve 23 [(2, .ref 0 0 0 3 x5.length false)] [some ⟨0, eL x5⟩] ?_
  have h := si h
  subst h
  exact pwp_ret (rt (.ref 0 0 0 3 x5.length false) (OutP.list (v := 0) (by kernel_rfl)))
def laws_eqTable (a0 : T_impl_Table) (a1 : T_impl_Table) : Option Bool := (laws_eqColumnS a0.fColumns a1.fColumns).bind fun v1 => bif (!v1) then some false else (laws_eqValueSS a0.fRows a1.fRows).bind fun v4 => bif (!v4) then some false else some true
theorem ok_laws_eqTable {a0 : T_impl_Table} {a1 : T_impl_Table} {y : Bool} (h : laws_eqTable a0 a1 = some y) : OK Tryz.prog 68 [E a0, E a1] (B y) := by
  refine OK_of_pwp τ_ok Tryz.func68 rfl (by kernel_rfl) rfl fun Γ hX => ?_
  unfold laws_eqTable at h
  refine srve 17 [(2, .fptr (Enc.cells a0) 0), (3, .fptr (Enc.cells a1) 0)] [] ?_
  refine pwp_seq ?_
  refine srv 4 17 [(2, .fptr (Enc.cells a0) 0), (3, .fptr (Enc.cells a1) 0), (6, A a0.fColumns), (8, A a1.fColumns)] [] ?_
  obtain ⟨v1, hv2, h⟩ := bindS h
  refine opsP_callF τ 9 (ok_laws_eqColumnS hv2) (FzTo.frz rfl) rfl (by kernel_rfl) ?_
  refine ve 1 17 [(2, .fptr (Enc.cells a0) 0), (3, .fptr (Enc.cells a1) 0), (10, B ((!v1)))] [] ?_
  refine pc h (fun h => ?_) (fun h => ?_)
  refine srve 17 [(4, B false)] [] ?_
  cases h
  exact pwp_ret rz
  refine pwp_skip ?_
  refine pwp_seq ?_
  refine srv 4 17 [(12, A a0.fRows), (14, A a1.fRows)] [] ?_
  obtain ⟨v4, hv5, h⟩ := bindS h
  refine opsP_callF τ 15 (ok_laws_eqValueSS hv5) (FzTo.frz rfl) rfl (by kernel_rfl) ?_
  refine ve 1 17 [(16, B ((!v4)))] [] ?_
  refine pc h (fun h => ?_) (fun h => ?_)
  refine srve 17 [(4, B false)] [] ?_
  cases h
  exact pwp_ret rz
  refine pwp_skip ?_
  refine srve 17 [(4, B true)] [] ?_
  cases h
  exact pwp_ret rz
def laws_eqBond (a0 : T_impl_Bond) (a1 : T_impl_Bond) : Option Bool := bif (!(a0.fKind == a1.fKind)) then some false else bif (!(a0.fIn == a1.fIn)) then some false else (laws_eqIntS a0.fList a1.fList).bind fun v3 => bif (!v3) then some false else bif (!(a0.fOf == a1.fOf)) then some false else (laws_eqIntS a0.fTo a1.fTo).bind fun v7 => bif (!v7) then some false else bif (!(a0.fFollow == a1.fFollow)) then some false else (laws_eqPartS a0.fE a1.fE).bind fun v11 => bif (!v11) then some false else some true
theorem ok_laws_eqBond {a0 : T_impl_Bond} {a1 : T_impl_Bond} {y : Bool} (h : laws_eqBond a0 a1 = some y) : OK Tryz.prog 69 [E a0, E a1] (B y) := by
  refine OK_of_pwp τ_ok Tryz.func69 rfl (by kernel_rfl) rfl fun Γ hX => ?_
  unfold laws_eqBond at h
  refine srve 43 [(2, .fptr (Enc.cells a0) 0), (3, .fptr (Enc.cells a1) 0)] [] ?_
  refine pwp_seq ?_
  refine srve 43 [(2, .fptr (Enc.cells a0) 0), (3, .fptr (Enc.cells a1) 0), (9, B ((!(a0.fKind == a1.fKind))))] [] ?_
  refine pc h (fun h => ?_) (fun h => ?_)
  refine srve 43 [(4, B false)] [] ?_
  cases h
  exact pwp_ret rz
  refine pwp_skip ?_
  refine pwp_seq ?_
  refine srve 43 [(2, .fptr (Enc.cells a0) 0), (3, .fptr (Enc.cells a1) 0), (14, B ((!(a0.fIn == a1.fIn))))] [] ?_
  refine pc h (fun h => ?_) (fun h => ?_)
  refine srve 43 [(4, B false)] [] ?_
  cases h
  exact pwp_ret rz
  refine pwp_skip ?_
  refine pwp_seq ?_
  refine srv 4 43 [(2, .fptr (Enc.cells a0) 0), (3, .fptr (Enc.cells a1) 0), (16, A a0.fList), (18, A a1.fList)] [] ?_
  obtain ⟨v3, hv4, h⟩ := bindS h
  refine opsP_callF τ 19 (ok_laws_eqIntS hv4) (FzTo.frz rfl) rfl (by kernel_rfl) ?_
  refine ve 1 43 [(2, .fptr (Enc.cells a0) 0), (3, .fptr (Enc.cells a1) 0), (20, B ((!v3)))] [] ?_
  refine pc h (fun h => ?_) (fun h => ?_)
  refine srve 43 [(4, B false)] [] ?_
  cases h
  exact pwp_ret rz
  refine pwp_skip ?_
  refine pwp_seq ?_
  refine srve 43 [(2, .fptr (Enc.cells a0) 0), (3, .fptr (Enc.cells a1) 0), (25, B ((!(a0.fOf == a1.fOf))))] [] ?_
  refine pc h (fun h => ?_) (fun h => ?_)
  refine srve 43 [(4, B false)] [] ?_
  cases h
  exact pwp_ret rz
  refine pwp_skip ?_
  refine pwp_seq ?_
  refine srv 4 43 [(2, .fptr (Enc.cells a0) 0), (3, .fptr (Enc.cells a1) 0), (27, A a0.fTo), (29, A a1.fTo)] [] ?_
  obtain ⟨v7, hv8, h⟩ := bindS h
  refine opsP_callF τ 30 (ok_laws_eqIntS hv8) (FzTo.frz rfl) rfl (by kernel_rfl) ?_
  refine ve 1 43 [(2, .fptr (Enc.cells a0) 0), (3, .fptr (Enc.cells a1) 0), (31, B ((!v7)))] [] ?_
  refine pc h (fun h => ?_) (fun h => ?_)
  refine srve 43 [(4, B false)] [] ?_
  cases h
  exact pwp_ret rz
  refine pwp_skip ?_
  refine pwp_seq ?_
  refine srve 43 [(2, .fptr (Enc.cells a0) 0), (3, .fptr (Enc.cells a1) 0), (36, B ((!(a0.fFollow == a1.fFollow))))] [] ?_
  refine pc h (fun h => ?_) (fun h => ?_)
  refine srve 43 [(4, B false)] [] ?_
  cases h
  exact pwp_ret rz
  refine pwp_skip ?_
  refine pwp_seq ?_
  refine srv 4 43 [(38, A a0.fE), (40, A a1.fE)] [] ?_
  obtain ⟨v11, hv12, h⟩ := bindS h
  refine opsP_callF τ 41 (ok_laws_eqPartS hv12) (FzTo.frz rfl) rfl (by kernel_rfl) ?_
  refine ve 1 43 [(42, B ((!v11)))] [] ?_
  refine pc h (fun h => ?_) (fun h => ?_)
  refine srve 43 [(4, B false)] [] ?_
  cases h
  exact pwp_ret rz
  refine pwp_skip ?_
  refine srve 43 [(4, B true)] [] ?_
  cases h
  exact pwp_ret rz
def laws_szPart (a0 : T_laws_Part) (a1 : Int) : Option Int := (laws_szValue a0.fV a1).bind fun v1 => bif (decide (v1 < 0)) then some (-1) else some v1
theorem ok_laws_szPart {a0 : T_laws_Part} {a1 : Int} {y : Int} (h : laws_szPart a0 a1 = some y) : OK Tryz.prog 71 [E a0, I a1] (I y) := by
  refine OK_of_pwp τ_ok Tryz.func71 rfl (by kernel_rfl) rfl fun Γ hX => ?_
  unfold laws_szPart at h
  refine srve 12 [(1, I a1), (2, .fptr (Enc.cells a0) 0)] [] ?_
  refine srv 3 12 [(6, E a0.fV), (7, I a1)] [] ?_
  obtain ⟨v1, hv2, h⟩ := bindS h
  refine opsP_callF τ 8 (ok_laws_szValue hv2) (FzTo.frz rfl) rfl (by kernel_rfl) ?_
  refine ve 1 12 [(1, I v1)] [] ?_
  refine pwp_seq ?_
  refine srve 12 [(1, I v1), (10, B ((decide (v1 < 0))))] [] ?_
  refine pc h (fun h => ?_) (fun h => ?_)
  refine srve 12 [(4, I (-1))] [] ?_
  cases h
  exact pwp_ret rz
  refine pwp_skip ?_
  refine srve 12 [(4, I v1)] [] ?_
  cases h
  exact pwp_ret rz
def laws_toPart (a0 : T_laws_Part) : Option T_impl_Part := (laws_toValue a0.fV).bind fun v1 => some ({ (({ (({ ((T_impl_Part.mk 0 0 (T_impl_Value.mk 0 0 (ByteArray.mk #[])))) with fKind := a0.fKind }) : T_impl_Part) with fN := a0.fN }) : T_impl_Part) with fV := v1 })
theorem ok_laws_toPart {a0 : T_laws_Part} {y : T_impl_Part} (h : laws_toPart a0 = some y) : OK Tryz.prog 77 [E a0] (E y) := by
  refine OK_of_pwp τ_ok Tryz.func77 rfl (by kernel_rfl) rfl fun Γ hX => ?_
  unfold laws_toPart at h
  refine srveM [2, 3] 15 [(1, .fptr (Enc.cells a0) 0), (2, .ptr 0 0 0)] [some ⟨0, Enc.cells ((T_impl_Part.mk 0 0 (T_impl_Value.mk 0 0 (ByteArray.mk #[]))))⟩] ?_
  refine srveM [2, 3] 15 [(1, .fptr (Enc.cells a0) 0), (2, .ptr 0 0 0), (3, .ptr 1 0 0)] [some ⟨0, Enc.cells ((T_impl_Part.mk 0 0 (T_impl_Value.mk 0 0 (ByteArray.mk #[]))))⟩, some ⟨0, Enc.cells ((T_impl_Part.mk 0 0 (T_impl_Value.mk 0 0 (ByteArray.mk #[]))))⟩] ?_
  refine srveM [2, 3] 15 [(1, .fptr (Enc.cells a0) 0), (2, .ptr 0 0 0), (3, .ptr 1 0 0)] [some ⟨0, Enc.cells ((T_impl_Part.mk 0 0 (T_impl_Value.mk 0 0 (ByteArray.mk #[]))))⟩, some ⟨0, Enc.cells ({ ((T_impl_Part.mk 0 0 (T_impl_Value.mk 0 0 (ByteArray.mk #[])))) with fKind := a0.fKind })⟩] ?_
  refine srveM [2, 3] 15 [(1, .fptr (Enc.cells a0) 0), (2, .ptr 0 0 0), (3, .ptr 1 0 0)] [some ⟨0, Enc.cells ((T_impl_Part.mk 0 0 (T_impl_Value.mk 0 0 (ByteArray.mk #[]))))⟩, some ⟨0, Enc.cells ({ (({ ((T_impl_Part.mk 0 0 (T_impl_Value.mk 0 0 (ByteArray.mk #[])))) with fKind := a0.fKind }) : T_impl_Part) with fN := a0.fN })⟩] ?_
  refine srvM [2, 3] 2 15 [(2, .ptr 0 0 0), (3, .ptr 1 0 0), (11, E a0.fV)] [some ⟨0, Enc.cells ((T_impl_Part.mk 0 0 (T_impl_Value.mk 0 0 (ByteArray.mk #[]))))⟩, some ⟨0, Enc.cells ({ (({ ((T_impl_Part.mk 0 0 (T_impl_Value.mk 0 0 (ByteArray.mk #[])))) with fKind := a0.fKind }) : T_impl_Part) with fN := a0.fN })⟩] ?_
  obtain ⟨v1, hv2, h⟩ := bindS h
  refine opsP_callF τ 12 (ok_laws_toValue hv2) (FzTo.frz rfl) rfl (by kernel_rfl) ?_
  refine veM [2, 3] 2 15 [(2, .ptr 0 0 0), (3, .ptr 1 0 0)] [some ⟨0, Enc.cells ((T_impl_Part.mk 0 0 (T_impl_Value.mk 0 0 (ByteArray.mk #[]))))⟩, some ⟨0, Enc.cells ({ (({ (({ ((T_impl_Part.mk 0 0 (T_impl_Value.mk 0 0 (ByteArray.mk #[])))) with fKind := a0.fKind }) : T_impl_Part) with fN := a0.fN }) : T_impl_Part) with fV := v1 })⟩] ?_
  refine srveM [2, 3] 15 [(2, .ptr 0 0 0)] [some ⟨0, Enc.cells ({ (({ (({ ((T_impl_Part.mk 0 0 (T_impl_Value.mk 0 0 (ByteArray.mk #[])))) with fKind := a0.fKind }) : T_impl_Part) with fN := a0.fN }) : T_impl_Part) with fV := v1 })⟩, some ⟨0, Enc.cells ({ (({ (({ ((T_impl_Part.mk 0 0 (T_impl_Value.mk 0 0 (ByteArray.mk #[])))) with fKind := a0.fKind }) : T_impl_Part) with fN := a0.fN }) : T_impl_Part) with fV := v1 })⟩] ?_
  cases h
  exact pwp_ret rz
def spec_RowMany_j1 (x2 : Int) (K4 : Int → Int → Option Int) (x6 : Int) : Option Int := K4 x6 ((w64 (x2 + 1)))
def spec_RowMany_l0 (a0 : List (List T_impl_Value)) (a1 : List T_impl_Value) : Nat → Int → Int → Option Int
  | 0, _, _ => none
  | f3 + 1, x1, x2 => bif (decide (x2 < ((a0.length : Int)))) then (getI a0 x2).bind fun v7 => (spec_l3Same v7 a1).bind fun v9 => bif v9 then spec_RowMany_j1 x2 (spec_RowMany_l0 a0 a1 f3) ((w64 (x1 + 1))) else spec_RowMany_j1 x2 (spec_RowMany_l0 a0 a1 f3) x1 else some x1
def spec_RowMany (a0 : List (List T_impl_Value)) (a1 : List T_impl_Value) : Option Int := spec_RowMany_l0 a0 a1 FUEL 0 0
theorem ok_spec_RowMany {a0 : List (List T_impl_Value)} {a1 : List T_impl_Value} {y : Int} (h : spec_RowMany a0 a1 = some y) : OK Tryz.prog 107 [A a0, A a1] (I y) := by
  refine OK_of_pwp τ_ok Tryz.func107 rfl (by kernel_rfl) rfl fun Γ hX => ?_
  unfold spec_RowMany at h
  refine srve 22 [(0, A a0), (1, A a1)] [] ?_
  refine srve 22 [(0, A a0), (1, A a1), (5, I 0)] [] ?_
  refine pwp_seq ?_
  refine srve 22 [(0, A a0), (1, A a1), (5, I 0), (6, I 0)] [] ?_
  refine pwp_block ?_
  refine pwp_loop (ι := Nat × Int × Int) (fun (f3, x1, x2) => (⟨22, [(0, A a0), (1, A a1), (5, I x1), (6, I x2)], []⟩ : St)) (fun (f3, x1, x2) => spec_RowMany_l0 a0 a1 f3 x1 x2 = some y) (fun (f3, x1, x2) => f3) (FUEL, 0, 0) h ((Imp.to (st' := ⟨22, [(0, A a0), (1, A a1), (5, I 0), (6, I 0)], []⟩) [0, 1, 5, 6] (by kernel_rfl)).trans (Imp.to [0, 1, 5, 6] (by kernel_rfl))) ?_
  rintro ⟨f3, x1, x2⟩ h
  dsimp only at h ⊢
  rcases f3 with _ | f3
  cases h
  rw [spec_RowMany_l0] at h
  refine pwp_seq ?_
  refine srve 22 [(0, A a0), (1, A a1), (5, I x1), (6, I x2), (10, B ((decide (x2 < ((a0.length : Int))))))] [] ?_
  refine pc h (fun h => ?_) (fun h => ?_)
  refine pwp_skip ?_
  refine pwp_seq ?_
  refine pwp_join (σ := Int) (fun x6 => (⟨22, [(0, A a0), (1, A a1), (5, I x6), (6, I x2)], []⟩ : St)) (fun x6 => spec_RowMany_j1 x2 (spec_RowMany_l0 a0 a1 f3) x6 = some y) ?_ ?_
  refine pwp_block ?_
  refine srv 2 22 [(0, A a0), (1, A a1), (5, I x1), (6, I x2), (13, A a0), (14, I x2)] [] ?_
  obtain ⟨v7, hv8, h⟩ := bindS h
  refine opsP_idx τ_ok 15 hv8 (by kernel_rfl) ?_
  refine v 2 22 [(0, A a0), (1, A a1), (5, I x1), (6, I x2), (16, A v7), (17, A a1)] [] ?_
  obtain ⟨v9, hv10, h⟩ := bindS h
  refine opsP_callF τ 18 (ok_spec_l3Same hv10) (FzTo.frz rfl) rfl (by kernel_rfl) ?_
  refine ve 0 22 [(0, A a0), (1, A a1), (5, I x1), (6, I x2), (18, B v9)] [] ?_
  refine pc h (fun h => ?_) (fun h => ?_)
  refine rve 22 [(0, A a0), (1, A a1), (5, I ((w64 (x1 + 1)))), (6, I x2)] [] ?_
  exact ⟨(w64 (x1 + 1)), h, (Imp.to (st' := ⟨22, [(0, A a0), (1, A a1), (5, I ((w64 (x1 + 1)))), (6, I x2)], []⟩) [0, 1, 5, 6] (by kernel_rfl)).trans (Imp.to [0, 1, 5, 6] (by kernel_rfl))⟩
  refine pwp_skip ?_
  exact ⟨x1, h, (Imp.to (st' := ⟨22, [(0, A a0), (1, A a1), (5, I x1), (6, I x2)], []⟩) [0, 1, 5, 6] (by kernel_rfl)).trans (Imp.to [0, 1, 5, 6] (by kernel_rfl))⟩
  rintro x6 h
  unfold spec_RowMany_j1 at h
  refine rve 22 [(0, A a0), (1, A a1), (5, I x6), (6, I ((w64 (x2 + 1))))] [] ?_
  exact ⟨(f3, x6, (w64 (x2 + 1))), h, Nat.lt_succ_self _, (Imp.to (st' := ⟨22, [(0, A a0), (1, A a1), (5, I x6), (6, I ((w64 (x2 + 1))))], []⟩) [0, 1, 5, 6] (by kernel_rfl)).trans (Imp.to [0, 1, 5, 6] (by kernel_rfl))⟩
  refine pwp_exit ?_
  refine srve 22 [(4, I x1)] [] ?_
  cases h
  exact pwp_ret rz
def slices_ContainsFunc_impl_Bond_impl_Bond (a0 : List T_impl_Bond) (a1 : T_impl_Bond → Option Bool) : Option Bool := (slices_IndexFunc_impl_Bond_impl_Bond a0 a1).bind fun v1 => some ((decide (v1 ≥ 0)))
theorem ok_slices_ContainsFunc_impl_Bond_impl_Bond {a0 : List T_impl_Bond} {g1 : FuncId} {c1 : List V} (hz1 : frzL c1 = true) {a1 : T_impl_Bond → Option Bool} (hp1 : ∀ x0 y, a1 x0 = some y → OK Tryz.prog g1 ([E x0] ++ c1) (B y)) {y : Bool} (h : slices_ContainsFunc_impl_Bond_impl_Bond a0 a1 = some y) : OK Tryz.prog 112 [A a0, .fn g1 c1] (B y) := by
  refine OK_of_pwp τ_ok Tryz.func112 rfl (by kernel_rfl) rfl fun Γ hX => ?_
  unfold slices_ContainsFunc_impl_Bond_impl_Bond at h
  refine srve 9 [(0, A a0), (1, .fn g1 c1)] [] ?_
  refine srv 2 9 [(5, A a0), (6, .fn g1 c1)] [] ?_
  obtain ⟨v1, hv2, h⟩ := bindS h
  refine opsP_callF τ 7 (ok_slices_IndexFunc_impl_Bond_impl_Bond (hz1) (hp1) hv2) (FzTo.frz rfl) (by simp only [frzL, frz, hz1, Bool.and_true]) (by kernel_rfl) ?_
  refine ve 2 9 [(4, B ((decide (v1 ≥ 0))))] [] ?_
  cases h
  exact pwp_ret rz
def slices_ContainsFunc_impl_Table_impl_Table (a0 : List T_impl_Table) (a1 : T_impl_Table → Option Bool) : Option Bool := (slices_IndexFunc_impl_Table_impl_Table a0 a1).bind fun v1 => some ((decide (v1 ≥ 0)))
theorem ok_slices_ContainsFunc_impl_Table_impl_Table {a0 : List T_impl_Table} {g1 : FuncId} {c1 : List V} (hz1 : frzL c1 = true) {a1 : T_impl_Table → Option Bool} (hp1 : ∀ x0 y, a1 x0 = some y → OK Tryz.prog g1 ([E x0] ++ c1) (B y)) {y : Bool} (h : slices_ContainsFunc_impl_Table_impl_Table a0 a1 = some y) : OK Tryz.prog 143 [A a0, .fn g1 c1] (B y) := by
  refine OK_of_pwp τ_ok Tryz.func143 rfl (by kernel_rfl) rfl fun Γ hX => ?_
  unfold slices_ContainsFunc_impl_Table_impl_Table at h
  refine srve 9 [(0, A a0), (1, .fn g1 c1)] [] ?_
  refine srv 2 9 [(5, A a0), (6, .fn g1 c1)] [] ?_
  obtain ⟨v1, hv2, h⟩ := bindS h
  refine opsP_callF τ 7 (ok_slices_IndexFunc_impl_Table_impl_Table (hz1) (hp1) hv2) (FzTo.frz rfl) (by simp only [frzL, frz, hz1, Bool.and_true]) (by kernel_rfl) ?_
  refine ve 2 9 [(4, B ((decide (v1 ≥ 0))))] [] ?_
  cases h
  exact pwp_ret rz
def impl_rowAt_1 (a0 : List T_impl_Value) (b0 : List T_impl_Value) : Option Bool := (slices_Equal_impl_Value_impl_Value a0 b0).bind fun v1 => some v1
theorem ok_impl_rowAt_1 {a0 : List T_impl_Value} {b0 : List T_impl_Value} {y : Bool} (h : impl_rowAt_1 a0 b0 = some y) : OK Tryz.prog 150 [A a0, .fptr (Enc.cells b0) 0] (B y) := by
  refine OK_of_pwp τ_ok Tryz.func150 rfl (by kernel_rfl) rfl fun Γ hX => ?_
  unfold impl_rowAt_1 at h
  refine srve 7 [(0, A a0), (1, .fptr (Enc.cells b0) 0)] [] ?_
  refine srv 2 7 [(4, A a0), (5, A b0)] [] ?_
  obtain ⟨v1, hv2, h⟩ := bindS h
  refine opsP_callF τ 6 (ok_slices_Equal_impl_Value_impl_Value hv2) (FzTo.frz rfl) rfl (by kernel_rfl) ?_
  refine ve 1 7 [(3, B v1)] [] ?_
  cases h
  exact pwp_ret rz
def spec_ValueOk (a0 : T_impl_Value) : Option Bool := bif (a0.fKind == 0) then bif (a0.fN == 0) then some ((a0.fS.toList == ((ByteArray.mk #[])).toList)) else some false else bif (a0.fKind == 1) then (spec_l1In a0.fN (-9999) 9999).bind fun v4 => bif v4 then some ((a0.fS.toList == ((ByteArray.mk #[])).toList)) else some false else bif (a0.fKind == 2) then bif (a0.fN == 0) then (spec_l1Text a0.fS).bind fun v8 => some v8 else some false else bif (a0.fKind == 3) then (spec_l1In a0.fN 0 1).bind fun v12 => bif v12 then some ((a0.fS.toList == ((ByteArray.mk #[])).toList)) else some false else some false
theorem ok_spec_ValueOk {a0 : T_impl_Value} {y : Bool} (h : spec_ValueOk a0 = some y) : OK Tryz.prog 152 [E a0] (B y) := by
  refine OK_of_pwp τ_ok Tryz.func152 rfl (by kernel_rfl) rfl fun Γ hX => ?_
  unfold spec_ValueOk at h
  refine srve 45 [(1, .fptr (Enc.cells a0) 0)] [] ?_
  refine pwp_seq ?_
  refine srve 45 [(1, .fptr (Enc.cells a0) 0), (4, I a0.fKind)] [] ?_
  refine pwp_block ?_
  refine srve 45 [(1, .fptr (Enc.cells a0) 0), (4, I a0.fKind), (5, B ((a0.fKind == 0)))] [] ?_
  refine pc h (fun h => ?_) (fun h => ?_)
  refine srv 4 45 [(1, .fptr (Enc.cells a0) 0), (10, B ((a0.fN == 0)))] [] ?_
  rcases fk ((a0.fN == 0)) with hc2 | hc2
  replace h := bT hc2 h
  rw [hc2]
  refine ve 5 45 [(2, B ((a0.fS.toList == ((ByteArray.mk #[])).toList)))] [] ?_
  cases h
  exact pwp_ret rz
  replace h := bF hc2 h
  rw [hc2]
  refine ve 5 45 [(2, B false)] [] ?_
  cases h
  exact pwp_ret rz
  refine srve 45 [(1, .fptr (Enc.cells a0) 0), (4, I a0.fKind), (15, B ((a0.fKind == 1)))] [] ?_
  refine pc h (fun h => ?_) (fun h => ?_)
  refine srv 2 45 [(1, .fptr (Enc.cells a0) 0), (18, I a0.fN)] [] ?_
  obtain ⟨v4, hv5, h⟩ := bindS h
  refine opsP_callF τ 19 (ok_spec_l1In hv5) (FzTo.frz rfl) rfl (by kernel_rfl) ?_
  refine v 1 45 [(1, .fptr (Enc.cells a0) 0), (20, B v4)] [] ?_
  rcases Bool.eq_false_or_eq_true v4 with hc6 | hc6
  replace h := bT hc6 h
  rw [hc6]
  refine ve 5 45 [(2, B ((a0.fS.toList == ((ByteArray.mk #[])).toList)))] [] ?_
  cases h
  exact pwp_ret rz
  replace h := bF hc6 h
  rw [hc6]
  refine ve 5 45 [(2, B false)] [] ?_
  cases h
  exact pwp_ret rz
  refine srve 45 [(1, .fptr (Enc.cells a0) 0), (4, I a0.fKind), (25, B ((a0.fKind == 2)))] [] ?_
  refine pc h (fun h => ?_) (fun h => ?_)
  refine srv 4 45 [(1, .fptr (Enc.cells a0) 0), (30, B ((a0.fN == 0)))] [] ?_
  rcases fk ((a0.fN == 0)) with hc10 | hc10
  replace h := bT hc10 h
  rw [hc10]
  refine v 2 45 [(30, B true), (32, S a0.fS)] [] ?_
  obtain ⟨v8, hv9, h⟩ := bindS h
  refine opsP_callF τ 33 (ok_spec_l1Text hv9) (FzTo.frz rfl) rfl (by kernel_rfl) ?_
  refine ve 2 45 [(2, B v8)] [] ?_
  cases h
  exact pwp_ret rz
  replace h := bF hc10 h
  rw [hc10]
  refine ve 5 45 [(2, B false)] [] ?_
  cases h
  exact pwp_ret rz
  refine srve 45 [(1, .fptr (Enc.cells a0) 0), (35, B ((a0.fKind == 3)))] [] ?_
  refine pc h (fun h => ?_) (fun h => ?_)
  refine srv 2 45 [(1, .fptr (Enc.cells a0) 0), (38, I a0.fN)] [] ?_
  obtain ⟨v12, hv13, h⟩ := bindS h
  refine opsP_callF τ 39 (ok_spec_l1In hv13) (FzTo.frz rfl) rfl (by kernel_rfl) ?_
  refine v 1 45 [(1, .fptr (Enc.cells a0) 0), (40, B v12)] [] ?_
  rcases Bool.eq_false_or_eq_true v12 with hc14 | hc14
  replace h := bT hc14 h
  rw [hc14]
  refine ve 5 45 [(2, B ((a0.fS.toList == ((ByteArray.mk #[])).toList)))] [] ?_
  cases h
  exact pwp_ret rz
  replace h := bF hc14 h
  rw [hc14]
  refine ve 5 45 [(2, B false)] [] ?_
  cases h
  exact pwp_ret rz
  refine pwp_skip ?_
  refine srve 45 [(2, B false)] [] ?_
  cases h
  exact pwp_ret rz
def slices_ContainsFunc_impl_Column_impl_Column (a0 : List T_impl_Column) (a1 : T_impl_Column → Option Bool) : Option Bool := (slices_IndexFunc_impl_Column_impl_Column a0 a1).bind fun v1 => some ((decide (v1 ≥ 0)))
theorem ok_slices_ContainsFunc_impl_Column_impl_Column {a0 : List T_impl_Column} {g1 : FuncId} {c1 : List V} (hz1 : frzL c1 = true) {a1 : T_impl_Column → Option Bool} (hp1 : ∀ x0 y, a1 x0 = some y → OK Tryz.prog g1 ([E x0] ++ c1) (B y)) {y : Bool} (h : slices_ContainsFunc_impl_Column_impl_Column a0 a1 = some y) : OK Tryz.prog 160 [A a0, .fn g1 c1] (B y) := by
  refine OK_of_pwp τ_ok Tryz.func160 rfl (by kernel_rfl) rfl fun Γ hX => ?_
  unfold slices_ContainsFunc_impl_Column_impl_Column at h
  refine srve 9 [(0, A a0), (1, .fn g1 c1)] [] ?_
  refine srv 2 9 [(5, A a0), (6, .fn g1 c1)] [] ?_
  obtain ⟨v1, hv2, h⟩ := bindS h
  refine opsP_callF τ 7 (ok_slices_IndexFunc_impl_Column_impl_Column (hz1) (hp1) hv2) (FzTo.frz rfl) (by simp only [frzL, frz, hz1, Bool.and_true]) (by kernel_rfl) ?_
  refine ve 2 9 [(4, B ((decide (v1 ≥ 0))))] [] ?_
  cases h
  exact pwp_ret rz
def impl_Value_ok (a0 : T_impl_Value) : Option Bool := bif (a0.fKind == 0) then some ((eq_T_impl_Value a0 ((T_impl_Value.mk 0 0 (ByteArray.mk #[]))))) else bif (a0.fKind == 1) then bif (a0.fS.toList == ((ByteArray.mk #[])).toList) then (impl_between a0.fN (-9999) 9999).bind fun v3 => some v3 else some false else bif (a0.fKind == 2) then bif (a0.fN == 0) then bif (decide (((a0.fS.size : Int)) ≤ 6)) then (impl_letters a0.fS).bind fun v7 => some v7 else some false else some false else bif (a0.fKind == 3) then bif (a0.fS.toList == ((ByteArray.mk #[])).toList) then (impl_between a0.fN 0 1).bind fun v12 => some v12 else some false else some false
theorem ok_impl_Value_ok {a0 : T_impl_Value} {y : Bool} (h : impl_Value_ok a0 = some y) : OK Tryz.prog 162 [E a0] (B y) := by
  refine OK_of_pwp τ_ok Tryz.func162 rfl (by kernel_rfl) rfl fun Γ hX => ?_
  unfold impl_Value_ok at h
  refine srve 46 [(1, .fptr (Enc.cells a0) 0)] [] ?_
  refine pwp_seq ?_
  refine srve 46 [(1, .fptr (Enc.cells a0) 0), (4, I a0.fKind)] [] ?_
  refine pwp_block ?_
  refine srve 46 [(1, .fptr (Enc.cells a0) 0), (4, I a0.fKind), (5, B ((a0.fKind == 0)))] [] ?_
  refine pc h (fun h => ?_) (fun h => ?_)
  refine srve 46 [(2, B ((eq_T_impl_Value a0 ((T_impl_Value.mk 0 0 (ByteArray.mk #[]))))))] [] ?_
  cases h
  exact pwp_ret rz
  refine srve 46 [(1, .fptr (Enc.cells a0) 0), (4, I a0.fKind), (10, B ((a0.fKind == 1)))] [] ?_
  refine pc h (fun h => ?_) (fun h => ?_)
  refine srv 4 46 [(1, .fptr (Enc.cells a0) 0), (15, B ((a0.fS.toList == ((ByteArray.mk #[])).toList)))] [] ?_
  rcases fk ((a0.fS.toList == ((ByteArray.mk #[])).toList)) with hc5 | hc5
  replace h := bT hc5 h
  rw [hc5]
  refine v 2 46 [(15, B true), (17, I a0.fN)] [] ?_
  obtain ⟨v3, hv4, h⟩ := bindS h
  refine opsP_callF τ 18 (ok_impl_between hv4) (FzTo.frz rfl) rfl (by kernel_rfl) ?_
  refine ve 2 46 [(2, B v3)] [] ?_
  cases h
  exact pwp_ret rz
  replace h := bF hc5 h
  rw [hc5]
  refine ve 5 46 [(2, B false)] [] ?_
  cases h
  exact pwp_ret rz
  refine srve 46 [(1, .fptr (Enc.cells a0) 0), (4, I a0.fKind), (20, B ((a0.fKind == 2)))] [] ?_
  refine pc h (fun h => ?_) (fun h => ?_)
  refine srv 4 46 [(1, .fptr (Enc.cells a0) 0), (25, B ((a0.fN == 0)))] [] ?_
  rcases fk ((a0.fN == 0)) with hc10 | hc10
  replace h := bT hc10 h
  rw [hc10]
  refine v 6 46 [(1, .fptr (Enc.cells a0) 0), (31, B ((decide (((a0.fS.size : Int)) ≤ 6))))] [] ?_
  rcases fk ((decide (((a0.fS.size : Int)) ≤ 6))) with hc9 | hc9
  replace h := bT hc9 h
  rw [hc9]
  refine v 2 46 [(31, B true), (33, S a0.fS)] [] ?_
  obtain ⟨v7, hv8, h⟩ := bindS h
  refine opsP_callF τ 34 (ok_impl_letters hv8) (FzTo.frz rfl) rfl (by kernel_rfl) ?_
  refine ve 2 46 [(2, B v7)] [] ?_
  cases h
  exact pwp_ret rz
  replace h := bF hc9 h
  rw [hc9]
  refine ve 5 46 [(2, B false)] [] ?_
  cases h
  exact pwp_ret rz
  replace h := bF hc10 h
  rw [hc10]
  refine ve 11 46 [(2, B false)] [] ?_
  cases h
  exact pwp_ret rz
  refine srve 46 [(1, .fptr (Enc.cells a0) 0), (36, B ((a0.fKind == 3)))] [] ?_
  refine pc h (fun h => ?_) (fun h => ?_)
  refine srv 4 46 [(1, .fptr (Enc.cells a0) 0), (41, B ((a0.fS.toList == ((ByteArray.mk #[])).toList)))] [] ?_
  rcases fk ((a0.fS.toList == ((ByteArray.mk #[])).toList)) with hc14 | hc14
  replace h := bT hc14 h
  rw [hc14]
  refine v 2 46 [(41, B true), (43, I a0.fN)] [] ?_
  obtain ⟨v12, hv13, h⟩ := bindS h
  refine opsP_callF τ 44 (ok_impl_between hv13) (FzTo.frz rfl) rfl (by kernel_rfl) ?_
  refine ve 2 46 [(2, B v12)] [] ?_
  cases h
  exact pwp_ret rz
  replace h := bF hc14 h
  rw [hc14]
  refine ve 5 46 [(2, B false)] [] ?_
  cases h
  exact pwp_ret rz
  refine pwp_skip ?_
  refine srve 46 [(2, B false)] [] ?_
  cases h
  exact pwp_ret rz
def slices_ContainsFunc_int_int (a0 : List Int) (a1 : Int → Option Bool) : Option Bool := (slices_IndexFunc_int_int a0 a1).bind fun v1 => some ((decide (v1 ≥ 0)))
theorem ok_slices_ContainsFunc_int_int {a0 : List Int} {g1 : FuncId} {c1 : List V} (hz1 : frzL c1 = true) {a1 : Int → Option Bool} (hp1 : ∀ x0 y, a1 x0 = some y → OK Tryz.prog g1 ([I x0] ++ c1) (B y)) {y : Bool} (h : slices_ContainsFunc_int_int a0 a1 = some y) : OK Tryz.prog 164 [A a0, .fn g1 c1] (B y) := by
  refine OK_of_pwp τ_ok Tryz.func164 rfl (by kernel_rfl) rfl fun Γ hX => ?_
  unfold slices_ContainsFunc_int_int at h
  refine srve 9 [(0, A a0), (1, .fn g1 c1)] [] ?_
  refine srv 2 9 [(5, A a0), (6, .fn g1 c1)] [] ?_
  obtain ⟨v1, hv2, h⟩ := bindS h
  refine opsP_callF τ 7 (ok_slices_IndexFunc_int_int (hz1) (hp1) hv2) (FzTo.frz rfl) (by simp only [frzL, frz, hz1, Bool.and_true]) (by kernel_rfl) ?_
  refine ve 2 9 [(4, B ((decide (v1 ≥ 0))))] [] ?_
  cases h
  exact pwp_ret rz
def slices_ContainsFunc_impl_Value_impl_Value (a0 : List T_impl_Value) (a1 : T_impl_Value → Option Bool) : Option Bool := (slices_IndexFunc_impl_Value_impl_Value a0 a1).bind fun v1 => some ((decide (v1 ≥ 0)))
theorem ok_slices_ContainsFunc_impl_Value_impl_Value {a0 : List T_impl_Value} {g1 : FuncId} {c1 : List V} (hz1 : frzL c1 = true) {a1 : T_impl_Value → Option Bool} (hp1 : ∀ x0 y, a1 x0 = some y → OK Tryz.prog g1 ([E x0] ++ c1) (B y)) {y : Bool} (h : slices_ContainsFunc_impl_Value_impl_Value a0 a1 = some y) : OK Tryz.prog 168 [A a0, .fn g1 c1] (B y) := by
  refine OK_of_pwp τ_ok Tryz.func168 rfl (by kernel_rfl) rfl fun Γ hX => ?_
  unfold slices_ContainsFunc_impl_Value_impl_Value at h
  refine srve 9 [(0, A a0), (1, .fn g1 c1)] [] ?_
  refine srv 2 9 [(5, A a0), (6, .fn g1 c1)] [] ?_
  obtain ⟨v1, hv2, h⟩ := bindS h
  refine opsP_callF τ 7 (ok_slices_IndexFunc_impl_Value_impl_Value (hz1) (hp1) hv2) (FzTo.frz rfl) (by simp only [frzL, frz, hz1, Bool.and_true]) (by kernel_rfl) ?_
  refine ve 2 9 [(4, B ((decide (v1 ≥ 0))))] [] ?_
  cases h
  exact pwp_ret rz
def impl_RowOk_1 (a0 : T_impl_Value) : Option Bool := (impl_Value_ok a0).bind fun v1 => some ((!v1))
theorem ok_impl_RowOk_1 {a0 : T_impl_Value} {y : Bool} (h : impl_RowOk_1 a0 = some y) : OK Tryz.prog 184 [E a0] (B y) := by
  refine OK_of_pwp τ_ok Tryz.func184 rfl (by kernel_rfl) rfl fun Γ hX => ?_
  unfold impl_RowOk_1 at h
  refine srve 6 [(1, .fptr (Enc.cells a0) 0)] [] ?_
  refine srv 1 6 [(3, E a0)] [] ?_
  obtain ⟨v1, hv2, h⟩ := bindS h
  refine opsP_callF τ 4 (ok_impl_Value_ok hv2) (FzTo.frz rfl) rfl (by kernel_rfl) ?_
  refine ve 2 6 [(2, B ((!v1)))] [] ?_
  cases h
  exact pwp_ret rz
def laws_szChange (a0 : T_laws_Change) (a1 : Int) : Option Int := (laws_szValueS a0.fRow a1).bind fun v1 => bif (decide (v1 < 0)) then some (-1) else some v1
theorem ok_laws_szChange {a0 : T_laws_Change} {a1 : Int} {y : Int} (h : laws_szChange a0 a1 = some y) : OK Tryz.prog 11 [E a0, I a1] (I y) := by
  refine OK_of_pwp τ_ok Tryz.func11 rfl (by kernel_rfl) rfl fun Γ hX => ?_
  unfold laws_szChange at h
  refine srve 12 [(1, I a1), (2, .fptr (Enc.cells a0) 0)] [] ?_
  refine srv 3 12 [(6, A a0.fRow), (7, I a1)] [] ?_
  obtain ⟨v1, hv2, h⟩ := bindS h
  refine opsP_callF τ 8 (ok_laws_szValueS hv2) (FzTo.frz rfl) rfl (by kernel_rfl) ?_
  refine ve 1 12 [(1, I v1)] [] ?_
  refine pwp_seq ?_
  refine srve 12 [(1, I v1), (10, B ((decide (v1 < 0))))] [] ?_
  refine pc h (fun h => ?_) (fun h => ?_)
  refine srve 12 [(4, I (-1))] [] ?_
  cases h
  exact pwp_ret rz
  refine pwp_skip ?_
  refine srve 12 [(4, I v1)] [] ?_
  cases h
  exact pwp_ret rz
def laws_eqTableS_l0 (a0 : List T_impl_Table) (a1 : List T_impl_Table) : Nat → Int → Option Bool
  | 0, _ => none
  | f3 + 1, x2 => bif (decide (x2 < ((a0.length : Int)))) then (getI a0 x2).bind fun v6 => (getI a1 x2).bind fun v8 => (laws_eqTable v6 v8).bind fun v10 => bif (!v10) then some false else (laws_eqTableS_l0 a0 a1 f3) ((w64 (x2 + 1))) else some true
def laws_eqTableS (a0 : List T_impl_Table) (a1 : List T_impl_Table) : Option Bool := bif (!(((a0.length : Int)) == ((a1.length : Int)))) then some false else laws_eqTableS_l0 a0 a1 FUEL 0
theorem ok_laws_eqTableS {a0 : List T_impl_Table} {a1 : List T_impl_Table} {y : Bool} (h : laws_eqTableS a0 a1 = some y) : OK Tryz.prog 18 [A a0, A a1] (B y) := by
  refine OK_of_pwp τ_ok Tryz.func18 rfl (by kernel_rfl) rfl fun Γ hX => ?_
  unfold laws_eqTableS at h
  refine srve 27 [(0, A a0), (1, A a1)] [] ?_
  refine pwp_seq ?_
  refine srve 27 [(0, A a0), (1, A a1), (10, B ((!(((a0.length : Int)) == ((a1.length : Int))))))] [] ?_
  refine pc h (fun h => ?_) (fun h => ?_)
  refine srve 27 [(4, B false)] [] ?_
  cases h
  exact pwp_ret rz
  refine pwp_skip ?_
  refine pwp_seq ?_
  refine srve 27 [(0, A a0), (1, A a1), (5, I 0)] [] ?_
  refine pwp_block ?_
  refine pwp_loop (ι := Nat × Int) (fun (f3, x2) => (⟨27, [(0, A a0), (1, A a1), (5, I x2)], []⟩ : St)) (fun (f3, x2) => laws_eqTableS_l0 a0 a1 f3 x2 = some y) (fun (f3, x2) => f3) (FUEL, 0) h ((Imp.to (st' := ⟨27, [(0, A a0), (1, A a1), (5, I 0)], []⟩) [0, 1, 5] (by kernel_rfl)).trans (Imp.to [0, 1, 5] (by kernel_rfl))) ?_
  rintro ⟨f3, x2⟩ h
  dsimp only at h ⊢
  rcases f3 with _ | f3
  cases h
  rw [laws_eqTableS_l0] at h
  refine pwp_seq ?_
  refine srve 27 [(0, A a0), (1, A a1), (5, I x2), (14, B ((decide (x2 < ((a0.length : Int))))))] [] ?_
  refine pc h (fun h => ?_) (fun h => ?_)
  refine pwp_skip ?_
  refine pwp_seq ?_
  refine pwp_block ?_
  refine pwp_seq ?_
  refine pwp_imp (Imp.to (st' := ⟨27, [(0, A a0), (1, A a1), (5, I x2)], []⟩) [0, 1, 5] (by kernel_rfl)) ?_
  refine pwp_any ([[], [], [], [], [], [], [], [], [], []]) ([[], [], [], [], [], [], [], [], [], []]) rfl (by kernel_rfl) ?_
  refine qA_ev (st' := ⟨27, [(18, I x2), (17, A a0), (0, A a0), (1, A a1), (5, I x2)], []⟩) τ_ok [] [] 2 (by exact trivial) (by kernel_rfl) ?_
  obtain ⟨v6, hv7, h⟩ := bindS h
  refine qA_E (dd := some 19) (x := .fptr (Enc.cells v6) 0) ([]) (⟨27, [(19, .fptr (Enc.cells v6) 0), (18, I x2), (17, A a0), (0, A a0), (1, A a1), (5, I x2)], []⟩) (fun Γ' hΓ => CoreE.of_y (idxV_sound τ_ok (by kernel_rfl) hv7)) (by kernel_rfl) (by kernel_rfl) (by exact trivial) (.inr (.inr rfl)) (by kernel_rfl) ?_
  refine qA_ev (st' := ⟨27, [(22, I x2), (21, A a1), (20, E v6), (19, .fptr (Enc.cells v6) 0), (18, I x2), (17, A a0), (0, A a0), (1, A a1), (5, I x2)], []⟩) τ_ok [] [] 3 (by exact trivial) (by kernel_rfl) ?_
  obtain ⟨v8, hv9, h⟩ := bindS h
  refine qA_E (dd := some 23) (x := .fptr (Enc.cells v8) 0) ([]) (⟨27, [(23, .fptr (Enc.cells v8) 0), (22, I x2), (21, A a1), (20, E v6), (19, .fptr (Enc.cells v6) 0), (18, I x2), (17, A a0), (0, A a0), (1, A a1), (5, I x2)], []⟩) (fun Γ' hΓ => CoreE.of_y (idxV_sound τ_ok (by kernel_rfl) hv9)) (by kernel_rfl) (by kernel_rfl) (by exact trivial) (.inr (.inr rfl)) (by kernel_rfl) ?_
  refine qA_ev (st' := ⟨27, [(24, E v8), (23, .fptr (Enc.cells v8) 0), (22, I x2), (21, A a1), (20, E v6), (19, .fptr (Enc.cells v6) 0), (18, I x2), (17, A a0), (0, A a0), (1, A a1), (5, I x2)], []⟩) τ_ok [] [] 1 (by exact trivial) (by kernel_rfl) ?_
  obtain ⟨v10, hv11, h⟩ := bindS h
  refine qA_E (dd := some 25) (x := B v10) ([]) (⟨27, [(25, B v10), (24, E v8), (23, .fptr (Enc.cells v8) 0), (22, I x2), (21, A a1), (20, E v6), (19, .fptr (Enc.cells v6) 0), (18, I x2), (17, A a0), (0, A a0), (1, A a1), (5, I x2)], []⟩) (fun Γ' hΓ => CoreE.of_g (callV_sound (τ := τ) (by kernel_rfl) rfl (ok_laws_eqTable hv11) (FzTo.frz rfl))) (by kernel_rfl) (by kernel_rfl) (by exact trivial) (.inr (.inr rfl)) (by kernel_rfl) ?_
  refine qA_ev (st' := ⟨27, [(26, B ((!v10))), (25, B v10), (24, E v8), (23, .fptr (Enc.cells v8) 0), (22, I x2), (21, A a1), (20, E v6), (19, .fptr (Enc.cells v6) 0), (18, I x2), (17, A a0), (0, A a0), (1, A a1), (5, I x2)], []⟩) τ_ok [] [] 1 (by exact trivial) (by kernel_rfl) ?_
  refine qA_end ?_
  refine opsP_imp (Imp.to (st' := ⟨27, [(0, A a0), (1, A a1), (5, I x2), (26, B ((!v10)))], []⟩) [0, 1, 5, 26] (by kernel_rfl)) ?_
  refine opsP_end rfl ?_
  refine pc h (fun h => ?_) (fun h => ?_)
  refine srve 27 [(4, B false)] [] ?_
  cases h
  exact pwp_ret rz
  refine pwp_skip ?_
  refine rve 27 [(0, A a0), (1, A a1), (5, I ((w64 (x2 + 1))))] [] ?_
  exact ⟨(f3, (w64 (x2 + 1))), h, Nat.lt_succ_self _, (Imp.to (st' := ⟨27, [(0, A a0), (1, A a1), (5, I ((w64 (x2 + 1))))], []⟩) [0, 1, 5] (by kernel_rfl)).trans (Imp.to [0, 1, 5] (by kernel_rfl))⟩
  refine pwp_exit ?_
  refine srve 27 [(4, B true)] [] ?_
  cases h
  exact pwp_ret rz
def laws_eqBondS_l0 (a0 : List T_impl_Bond) (a1 : List T_impl_Bond) : Nat → Int → Option Bool
  | 0, _ => none
  | f3 + 1, x2 => bif (decide (x2 < ((a0.length : Int)))) then (getI a0 x2).bind fun v6 => (getI a1 x2).bind fun v8 => (laws_eqBond v6 v8).bind fun v10 => bif (!v10) then some false else (laws_eqBondS_l0 a0 a1 f3) ((w64 (x2 + 1))) else some true
def laws_eqBondS (a0 : List T_impl_Bond) (a1 : List T_impl_Bond) : Option Bool := bif (!(((a0.length : Int)) == ((a1.length : Int)))) then some false else laws_eqBondS_l0 a0 a1 FUEL 0
theorem ok_laws_eqBondS {a0 : List T_impl_Bond} {a1 : List T_impl_Bond} {y : Bool} (h : laws_eqBondS a0 a1 = some y) : OK Tryz.prog 19 [A a0, A a1] (B y) := by
  refine OK_of_pwp τ_ok Tryz.func19 rfl (by kernel_rfl) rfl fun Γ hX => ?_
  unfold laws_eqBondS at h
  refine srve 27 [(0, A a0), (1, A a1)] [] ?_
  refine pwp_seq ?_
  refine srve 27 [(0, A a0), (1, A a1), (10, B ((!(((a0.length : Int)) == ((a1.length : Int))))))] [] ?_
  refine pc h (fun h => ?_) (fun h => ?_)
  refine srve 27 [(4, B false)] [] ?_
  cases h
  exact pwp_ret rz
  refine pwp_skip ?_
  refine pwp_seq ?_
  refine srve 27 [(0, A a0), (1, A a1), (5, I 0)] [] ?_
  refine pwp_block ?_
  refine pwp_loop (ι := Nat × Int) (fun (f3, x2) => (⟨27, [(0, A a0), (1, A a1), (5, I x2)], []⟩ : St)) (fun (f3, x2) => laws_eqBondS_l0 a0 a1 f3 x2 = some y) (fun (f3, x2) => f3) (FUEL, 0) h ((Imp.to (st' := ⟨27, [(0, A a0), (1, A a1), (5, I 0)], []⟩) [0, 1, 5] (by kernel_rfl)).trans (Imp.to [0, 1, 5] (by kernel_rfl))) ?_
  rintro ⟨f3, x2⟩ h
  dsimp only at h ⊢
  rcases f3 with _ | f3
  cases h
  rw [laws_eqBondS_l0] at h
  refine pwp_seq ?_
  refine srve 27 [(0, A a0), (1, A a1), (5, I x2), (14, B ((decide (x2 < ((a0.length : Int))))))] [] ?_
  refine pc h (fun h => ?_) (fun h => ?_)
  refine pwp_skip ?_
  refine pwp_seq ?_
  refine pwp_block ?_
  refine pwp_seq ?_
  refine pwp_imp (Imp.to (st' := ⟨27, [(0, A a0), (1, A a1), (5, I x2)], []⟩) [0, 1, 5] (by kernel_rfl)) ?_
  refine pwp_any ([[], [], [], [], [], [], [], [], [], []]) ([[], [], [], [], [], [], [], [], [], []]) rfl (by kernel_rfl) ?_
  refine qA_ev (st' := ⟨27, [(18, I x2), (17, A a0), (0, A a0), (1, A a1), (5, I x2)], []⟩) τ_ok [] [] 2 (by exact trivial) (by kernel_rfl) ?_
  obtain ⟨v6, hv7, h⟩ := bindS h
  refine qA_E (dd := some 19) (x := .fptr (Enc.cells v6) 0) ([]) (⟨27, [(19, .fptr (Enc.cells v6) 0), (18, I x2), (17, A a0), (0, A a0), (1, A a1), (5, I x2)], []⟩) (fun Γ' hΓ => CoreE.of_y (idxV_sound τ_ok (by kernel_rfl) hv7)) (by kernel_rfl) (by kernel_rfl) (by exact trivial) (.inr (.inr rfl)) (by kernel_rfl) ?_
  refine qA_ev (st' := ⟨27, [(22, I x2), (21, A a1), (20, E v6), (19, .fptr (Enc.cells v6) 0), (18, I x2), (17, A a0), (0, A a0), (1, A a1), (5, I x2)], []⟩) τ_ok [] [] 3 (by exact trivial) (by kernel_rfl) ?_
  obtain ⟨v8, hv9, h⟩ := bindS h
  refine qA_E (dd := some 23) (x := .fptr (Enc.cells v8) 0) ([]) (⟨27, [(23, .fptr (Enc.cells v8) 0), (22, I x2), (21, A a1), (20, E v6), (19, .fptr (Enc.cells v6) 0), (18, I x2), (17, A a0), (0, A a0), (1, A a1), (5, I x2)], []⟩) (fun Γ' hΓ => CoreE.of_y (idxV_sound τ_ok (by kernel_rfl) hv9)) (by kernel_rfl) (by kernel_rfl) (by exact trivial) (.inr (.inr rfl)) (by kernel_rfl) ?_
  refine qA_ev (st' := ⟨27, [(24, E v8), (23, .fptr (Enc.cells v8) 0), (22, I x2), (21, A a1), (20, E v6), (19, .fptr (Enc.cells v6) 0), (18, I x2), (17, A a0), (0, A a0), (1, A a1), (5, I x2)], []⟩) τ_ok [] [] 1 (by exact trivial) (by kernel_rfl) ?_
  obtain ⟨v10, hv11, h⟩ := bindS h
  refine qA_E (dd := some 25) (x := B v10) ([]) (⟨27, [(25, B v10), (24, E v8), (23, .fptr (Enc.cells v8) 0), (22, I x2), (21, A a1), (20, E v6), (19, .fptr (Enc.cells v6) 0), (18, I x2), (17, A a0), (0, A a0), (1, A a1), (5, I x2)], []⟩) (fun Γ' hΓ => CoreE.of_g (callV_sound (τ := τ) (by kernel_rfl) rfl (ok_laws_eqBond hv11) (FzTo.frz rfl))) (by kernel_rfl) (by kernel_rfl) (by exact trivial) (.inr (.inr rfl)) (by kernel_rfl) ?_
  refine qA_ev (st' := ⟨27, [(26, B ((!v10))), (25, B v10), (24, E v8), (23, .fptr (Enc.cells v8) 0), (22, I x2), (21, A a1), (20, E v6), (19, .fptr (Enc.cells v6) 0), (18, I x2), (17, A a0), (0, A a0), (1, A a1), (5, I x2)], []⟩) τ_ok [] [] 1 (by exact trivial) (by kernel_rfl) ?_
  refine qA_end ?_
  refine opsP_imp (Imp.to (st' := ⟨27, [(0, A a0), (1, A a1), (5, I x2), (26, B ((!v10)))], []⟩) [0, 1, 5, 26] (by kernel_rfl)) ?_
  refine opsP_end rfl ?_
  refine pc h (fun h => ?_) (fun h => ?_)
  refine srve 27 [(4, B false)] [] ?_
  cases h
  exact pwp_ret rz
  refine pwp_skip ?_
  refine rve 27 [(0, A a0), (1, A a1), (5, I ((w64 (x2 + 1))))] [] ?_
  exact ⟨(f3, (w64 (x2 + 1))), h, Nat.lt_succ_self _, (Imp.to (st' := ⟨27, [(0, A a0), (1, A a1), (5, I ((w64 (x2 + 1))))], []⟩) [0, 1, 5] (by kernel_rfl)).trans (Imp.to [0, 1, 5] (by kernel_rfl))⟩
  refine pwp_exit ?_
  refine srve 27 [(4, B true)] [] ?_
  cases h
  exact pwp_ret rz
def laws_eqChange (a0 : T_impl_Change) (a1 : T_impl_Change) : Option Bool := bif (!(a0.fIn == a1.fIn)) then some false else (laws_eqValueS a0.fRow a1.fRow).bind fun v2 => bif (!v2) then some false else bif (!(a0.fCome == a1.fCome)) then some false else some true
theorem ok_laws_eqChange {a0 : T_impl_Change} {a1 : T_impl_Change} {y : Bool} (h : laws_eqChange a0 a1 = some y) : OK Tryz.prog 20 [E a0, E a1] (B y) := by
  refine OK_of_pwp τ_ok Tryz.func20 rfl (by kernel_rfl) rfl fun Γ hX => ?_
  unfold laws_eqChange at h
  refine srve 21 [(2, .fptr (Enc.cells a0) 0), (3, .fptr (Enc.cells a1) 0)] [] ?_
  refine pwp_seq ?_
  refine srve 21 [(2, .fptr (Enc.cells a0) 0), (3, .fptr (Enc.cells a1) 0), (9, B ((!(a0.fIn == a1.fIn))))] [] ?_
  refine pc h (fun h => ?_) (fun h => ?_)
  refine srve 21 [(4, B false)] [] ?_
  cases h
  exact pwp_ret rz
  refine pwp_skip ?_
  refine pwp_seq ?_
  refine srv 4 21 [(2, .fptr (Enc.cells a0) 0), (3, .fptr (Enc.cells a1) 0), (11, A a0.fRow), (13, A a1.fRow)] [] ?_
  obtain ⟨v2, hv3, h⟩ := bindS h
  refine opsP_callF τ 14 (ok_laws_eqValueS hv3) (FzTo.frz rfl) rfl (by kernel_rfl) ?_
  refine ve 1 21 [(2, .fptr (Enc.cells a0) 0), (3, .fptr (Enc.cells a1) 0), (15, B ((!v2)))] [] ?_
  refine pc h (fun h => ?_) (fun h => ?_)
  refine srve 21 [(4, B false)] [] ?_
  cases h
  exact pwp_ret rz
  refine pwp_skip ?_
  refine pwp_seq ?_
  refine srve 21 [(20, B ((!(a0.fCome == a1.fCome))))] [] ?_
  refine pc h (fun h => ?_) (fun h => ?_)
  refine srve 21 [(4, B false)] [] ?_
  cases h
  exact pwp_ret rz
  refine pwp_skip ?_
  refine srve 21 [(4, B true)] [] ?_
  cases h
  exact pwp_ret rz
def laws_markTableS_l0 : Nat → Int → Int → (List T_impl_Table) → Option (Int × List T_impl_Table)
  | 0, _, _, _ => none
  | f5 + 1, x2, x3, x4 => bif (decide (x3 < ((x4.length : Int)))) then (getI x4 x3).bind fun v8 => (laws_markColumnS v8.fColumns x2).bind fun v10 => (getI ((x4.set x3.toNat (({ v8 with fColumns := v10.2 } : T_impl_Table)))) x3).bind fun v12 => (laws_markValueSS v12.fRows v10.1).bind fun v14 => (laws_markTableS_l0 f5) v14.1 ((w64 (x3 + 1))) ((((x4.set x3.toNat (({ v8 with fColumns := v10.2 } : T_impl_Table)))).set x3.toNat (({ v12 with fRows := v14.2 } : T_impl_Table)))) else some (x2, x4)
def laws_markTableS (a0 : List T_impl_Table) (a1 : Int) : Option (Int × List T_impl_Table) := laws_markTableS_l0 FUEL a1 0 a0
theorem len_laws_markTableS_l0 : ∀ (f5 : Nat) (x2 : Int) (x3 : Int) (x4 : List T_impl_Table) (y : Int × List T_impl_Table), laws_markTableS_l0 f5 x2 x3 x4 = some y → y.2.length = x4.length
  | 0, _, _, _, _, h => by cases h
  | f5 + 1, x2, x3, x4, y, h => by
    rw [laws_markTableS_l0] at h
    rcases condS h with h | h
    · obtain ⟨_, _, h⟩ := bindS h
      obtain ⟨_, _, h⟩ := bindS h
      obtain ⟨_, _, h⟩ := bindS h
      obtain ⟨_, _, h⟩ := bindS h
      have h2 := len_laws_markTableS_l0 f5 _ _ _ _ h
      simp only [List.length_set] at h2
      exact h2
    · cases h; rfl
theorem len_laws_markTableS {a0 : List T_impl_Table} {a1 : Int} {y : Int × List T_impl_Table} (h : laws_markTableS a0 a1 = some y) : y.2.length = a0.length := by
  unfold laws_markTableS at h
  exact len_laws_markTableS_l0 _ _ _ _ _ h
theorem ok_laws_markTableS {a0 : List T_impl_Table} {a1 : Int} {y : Int × List T_impl_Table} (h : laws_markTableS a0 a1 = some y) : OKd Tryz.prog 21 2 a0.length (dL a0) [I a1] (.int .i64 y.1) (dL y.2) := by
  refine OKd_of_pwp τ_ok Tryz.func21 rfl (by kernel_rfl) rfl (dL_oc _) (dL_oc _) (dL_bl _) (dL_bl _) rfl (fun hl => by rw [dL_len, len_laws_markTableS h, ← dL_len]; exact hl) fun Γ => ?_
  refine pwp_imp (Imp.to (st' := ⟨27, [(0, .ref 0 0 0 2 a0.length false), (1, I a1)], [some ⟨0, dL a0⟩]⟩) [0, 1] (by kernel_rfl)) ?_
  unfold laws_markTableS at h
  refine srve 27 [(0, .ref 0 0 0 2 a0.length false), (1, I a1)] [some ⟨0, dL a0⟩] ?_
  refine pwp_seq ?_
  refine srve 27 [(0, .ref 0 0 0 2 a0.length false), (1, I a1), (5, I 0)] [some ⟨0, dL a0⟩] ?_
  refine pwp_block ?_
  refine pwp_loop (ι := Nat × Int × Int × (List T_impl_Table)) (fun (f5, x2, x3, x4) => (⟨27, [(0, .ref 0 0 0 2 x4.length false), (1, I x2), (5, I x3)], [some ⟨0, dL x4⟩]⟩ : St)) (fun (f5, x2, x3, x4) => laws_markTableS_l0 f5 x2 x3 x4 = some y) (fun (f5, x2, x3, x4) => f5) (FUEL, a1, 0, a0) h ((Imp.to (st' := ⟨27, [(0, .ref 0 0 0 2 a0.length false), (1, I a1), (5, I 0)], [some ⟨0, dL a0⟩]⟩) [0, 1, 5] (by kernel_rfl)).trans (Imp.to [0, 1, 5] (by kernel_rfl))) ?_
  rintro ⟨f5, x2, x3, x4⟩ h
  dsimp only at h ⊢
  rcases f5 with _ | f5
  cases h
  rw [laws_markTableS_l0] at h
  refine pwp_seq ?_
  refine srve 27 [(0, .ref 0 0 0 2 x4.length false), (1, I x2), (5, I x3), (9, B ((decide (x3 < ((x4.length : Int))))))] [some ⟨0, dL x4⟩] ?_
  refine pc h (fun h => ?_) (fun h => ?_)
  refine pwp_skip ?_
  refine pwp_seq ?_
  refine pwp_block ?_
  refine srv 2 27 [(0, .ref 0 0 0 2 x4.length false), (1, I x2), (5, I x3), (12, .ref 0 0 0 2 x4.length false), (13, I x3)] [some ⟨0, dL x4⟩] ?_
  obtain ⟨v8, hv9, h⟩ := bindS h
  refine opsP_idr τ_ok 14 0 0 x4.length hv9 rfl (by kernel_rfl) ?_
  refine v 1 27 [(0, .ref 0 0 0 2 x4.length false), (1, I x2), (5, I x3), (15, .ptr 0 0 (x3.toNat * 2))] [some ⟨0, dL x4⟩] ?_
  refine opsP_imp (Imp.to (st' := ⟨27, [(0, .ref 0 0 0 2 x4.length false), (1, I x2), (5, I x3), (15, .ptr 0 0 (x3.toNat * 2))], [some ⟨0, dL x4⟩]⟩) [0, 1, 5, 15] (by kernel_rfl)) ?_
  refine opsP_imp (Imp.ghosts 1 (st' := ⟨27, [(0, .ref 0 0 0 2 x4.length false), (1, I x2), (5, I x3), (15, .ptr 0 0 (x3.toNat * 2))], [some ⟨0, dL x4⟩, some ⟨0, []⟩]⟩) (by kernel_rfl)) ?_
  refine opsP_E (dd := some 16) (x := .ref 1 1 0 2 v8.fColumns.length false) (CoreE.pre (H1 := [some ⟨0, setL (dL x4) (x3.toNat * 2 + 0) [.ref 1 1 0 2 v8.fColumns.length false]⟩, some ⟨1, eL v8.fColumns⟩]) (HStep.openL (cs0 := []) (xs := x4) (s := 2) (n := v8.fColumns.length) (f := false) (cs := eL v8.fColumns) 0 0 1 0 0 hv9 (by kernel_rfl) (by kernel_rfl) (by kernel_rfl) (by kernel_rfl) (by decide) (fun _ _ => by decide) (by kernel_rfl)) (ldo_E (xs := x4) τ_ok 16 59 0 hv9 (by kernel_rfl) (by kernel_rfl) (by kernel_rfl))) ?_
  refine v 1 27 [(0, .ref 0 0 0 2 x4.length false), (5, I x3), (16, .ref 1 1 0 2 v8.fColumns.length false), (17, I x2)] [some ⟨0, setL (dL x4) (x3.toNat * 2 + 0) [.ref 1 1 0 2 v8.fColumns.length false]⟩, some ⟨1, eL v8.fColumns⟩] ?_
  obtain ⟨v10, hv11, h⟩ := bindS h
  refine opsP_E (dd := some 18) (x := I v10.1) ((callD_E τ 18 1 1 (ok_laws_markColumnS hv11) (by kernel_rfl)).then (H2 := [some ⟨0, dL ((x4.set x3.toNat (({ v8 with fColumns := v10.2 } : T_impl_Table))))⟩, some ⟨2, []⟩]) (HStep.nestL (xs := x4) (vs := [.ref 1 1 0 2 v8.fColumns.length false]) 0 0 0 (({ v8 with fColumns := v10.2 } : T_impl_Table)) hv9 (by kernel_rfl) (OutL.cons (OutP.listn (v := 1) (xs := v10.2) (len_laws_markColumnS hv11) (by kernel_rfl)) (OutL.nil _)) (by decide) (by decide) (fun _ _ => by decide) (by kernel_rfl) (by kernel_rfl) (by kernel_rfl) (by kernel_rfl))) ?_
  refine opsP_imp (Imp.to (st' := ⟨27, [(0, .ref 0 0 0 2 x4.length false), (5, I x3), (17, I x2), (18, I v10.1)], [some ⟨0, dL ((x4.set x3.toNat (({ v8 with fColumns := v10.2 } : T_impl_Table))))⟩, some ⟨2, []⟩]⟩) [0, 5, 17, 18] (by kernel_rfl)) ?_
  refine opsP_ren (st' := ⟨27, [(0, .ref 0 0 0 2 ((x4.set x3.toNat (({ v8 with fColumns := v10.2 } : T_impl_Table)))).length false), (5, I x3), (17, I x2), (18, I v10.1)], [some ⟨0, dL ((x4.set x3.toNat (({ v8 with fColumns := v10.2 } : T_impl_Table))))⟩, some ⟨2, []⟩]⟩) 0 ((x4.set x3.toNat (({ v8 with fColumns := v10.2 } : T_impl_Table)))).length (renC (ren_ref (List.length_set ..).symm) (renC trivial (renC trivial (renC trivial renC0)))) (by kernel_rfl) ?_
  refine ve 1 27 [(0, .ref 0 0 0 2 ((x4.set x3.toNat (({ v8 with fColumns := v10.2 } : T_impl_Table)))).length false), (1, I v10.1), (5, I x3)] [some ⟨0, dL ((x4.set x3.toNat (({ v8 with fColumns := v10.2 } : T_impl_Table))))⟩, some ⟨2, []⟩] ?_
  refine rv 2 27 [(0, .ref 0 0 0 2 ((x4.set x3.toNat (({ v8 with fColumns := v10.2 } : T_impl_Table)))).length false), (1, I v10.1), (5, I x3), (19, .ref 0 0 0 2 ((x4.set x3.toNat (({ v8 with fColumns := v10.2 } : T_impl_Table)))).length false), (20, I x3)] [some ⟨0, dL ((x4.set x3.toNat (({ v8 with fColumns := v10.2 } : T_impl_Table))))⟩, some ⟨2, []⟩] ?_
  obtain ⟨v12, hv13, h⟩ := bindS h
  refine opsP_idr τ_ok 21 0 0 ((x4.set x3.toNat (({ v8 with fColumns := v10.2 } : T_impl_Table)))).length hv13 rfl (by kernel_rfl) ?_
  refine v 1 27 [(0, .ref 0 0 0 2 ((x4.set x3.toNat (({ v8 with fColumns := v10.2 } : T_impl_Table)))).length false), (1, I v10.1), (5, I x3), (22, .ptr 0 0 (x3.toNat * 2 + 1))] [some ⟨0, dL ((x4.set x3.toNat (({ v8 with fColumns := v10.2 } : T_impl_Table))))⟩, some ⟨2, []⟩] ?_
  refine opsP_imp (Imp.to (st' := ⟨27, [(0, .ref 0 0 0 2 ((x4.set x3.toNat (({ v8 with fColumns := v10.2 } : T_impl_Table)))).length false), (1, I v10.1), (5, I x3), (22, .ptr 0 0 (x3.toNat * 2 + 1))], [some ⟨0, dL ((x4.set x3.toNat (({ v8 with fColumns := v10.2 } : T_impl_Table))))⟩, some ⟨2, []⟩]⟩) [0, 1, 5, 22] (by kernel_rfl)) ?_
  refine opsP_imp (Imp.ghosts 1 (st' := ⟨27, [(0, .ref 0 0 0 2 ((x4.set x3.toNat (({ v8 with fColumns := v10.2 } : T_impl_Table)))).length false), (1, I v10.1), (5, I x3), (22, .ptr 0 0 (x3.toNat * 2 + 1))], [some ⟨0, dL ((x4.set x3.toNat (({ v8 with fColumns := v10.2 } : T_impl_Table))))⟩, some ⟨2, []⟩, some ⟨0, []⟩]⟩) (by kernel_rfl)) ?_
  refine opsP_E (dd := some 23) (x := .ref 2 1 0 1 v12.fRows.length false) (CoreE.pre (H1 := [some ⟨0, setL (dL ((x4.set x3.toNat (({ v8 with fColumns := v10.2 } : T_impl_Table))))) (x3.toNat * 2 + 1) [.ref 2 1 0 1 v12.fRows.length false]⟩, some ⟨2, []⟩, some ⟨1, dL v12.fRows⟩]) (HStep.openL (cs0 := []) (xs := (x4.set x3.toNat (({ v8 with fColumns := v10.2 } : T_impl_Table)))) (s := 1) (n := v12.fRows.length) (f := false) (cs := dL v12.fRows) 0 0 2 0 1 hv13 (by kernel_rfl) (by kernel_rfl) (by kernel_rfl) (by kernel_rfl) (by decide) (fun _ _ => by decide) (by kernel_rfl)) (ldo_E (xs := (x4.set x3.toNat (({ v8 with fColumns := v10.2 } : T_impl_Table)))) τ_ok 23 61 1 hv13 (by kernel_rfl) (by kernel_rfl) (by kernel_rfl))) ?_
  refine v 1 27 [(0, .ref 0 0 0 2 ((x4.set x3.toNat (({ v8 with fColumns := v10.2 } : T_impl_Table)))).length false), (5, I x3), (23, .ref 2 1 0 1 v12.fRows.length false), (24, I v10.1)] [some ⟨0, setL (dL ((x4.set x3.toNat (({ v8 with fColumns := v10.2 } : T_impl_Table))))) (x3.toNat * 2 + 1) [.ref 2 1 0 1 v12.fRows.length false]⟩, some ⟨2, []⟩, some ⟨1, dL v12.fRows⟩] ?_
  obtain ⟨v14, hv15, h⟩ := bindS h
  refine opsP_E (dd := some 25) (x := I v14.1) ((callD_E τ 25 2 1 (ok_laws_markValueSS hv15) (by kernel_rfl)).then (H2 := [some ⟨0, dL ((((x4.set x3.toNat (({ v8 with fColumns := v10.2 } : T_impl_Table)))).set x3.toNat (({ v12 with fRows := v14.2 } : T_impl_Table))))⟩, some ⟨2, []⟩, some ⟨2, []⟩]) (HStep.nestL (xs := (x4.set x3.toNat (({ v8 with fColumns := v10.2 } : T_impl_Table)))) (vs := [.ref 2 1 0 1 v12.fRows.length false]) 0 0 1 (({ v12 with fRows := v14.2 } : T_impl_Table)) hv13 (by kernel_rfl) (OutL.cons (OutP.listDn (v := 1) (xs := v14.2) (len_laws_markValueSS hv15) (by kernel_rfl)) (OutL.nil _)) (by decide) (by decide) (fun _ _ => by decide) (by kernel_rfl) (by kernel_rfl) (by kernel_rfl) (by kernel_rfl))) ?_
  refine opsP_imp (Imp.to (st' := ⟨27, [(0, .ref 0 0 0 2 ((x4.set x3.toNat (({ v8 with fColumns := v10.2 } : T_impl_Table)))).length false), (5, I x3), (24, I v10.1), (25, I v14.1)], [some ⟨0, dL ((((x4.set x3.toNat (({ v8 with fColumns := v10.2 } : T_impl_Table)))).set x3.toNat (({ v12 with fRows := v14.2 } : T_impl_Table))))⟩, some ⟨2, []⟩, some ⟨2, []⟩]⟩) [0, 5, 24, 25] (by kernel_rfl)) ?_
  refine opsP_ren (st' := ⟨27, [(0, .ref 0 0 0 2 ((((x4.set x3.toNat (({ v8 with fColumns := v10.2 } : T_impl_Table)))).set x3.toNat (({ v12 with fRows := v14.2 } : T_impl_Table)))).length false), (5, I x3), (24, I v10.1), (25, I v14.1)], [some ⟨0, dL ((((x4.set x3.toNat (({ v8 with fColumns := v10.2 } : T_impl_Table)))).set x3.toNat (({ v12 with fRows := v14.2 } : T_impl_Table))))⟩, some ⟨2, []⟩, some ⟨2, []⟩]⟩) 0 ((((x4.set x3.toNat (({ v8 with fColumns := v10.2 } : T_impl_Table)))).set x3.toNat (({ v12 with fRows := v14.2 } : T_impl_Table)))).length (renC (ren_ref (List.length_set ..).symm) (renC trivial (renC trivial (renC trivial renC0)))) (by kernel_rfl) ?_
  refine ve 1 27 [(0, .ref 0 0 0 2 ((((x4.set x3.toNat (({ v8 with fColumns := v10.2 } : T_impl_Table)))).set x3.toNat (({ v12 with fRows := v14.2 } : T_impl_Table)))).length false), (1, I v14.1), (5, I x3)] [some ⟨0, dL ((((x4.set x3.toNat (({ v8 with fColumns := v10.2 } : T_impl_Table)))).set x3.toNat (({ v12 with fRows := v14.2 } : T_impl_Table))))⟩, some ⟨2, []⟩, some ⟨2, []⟩] ?_
  refine rve 27 [(0, .ref 0 0 0 2 ((((x4.set x3.toNat (({ v8 with fColumns := v10.2 } : T_impl_Table)))).set x3.toNat (({ v12 with fRows := v14.2 } : T_impl_Table)))).length false), (1, I v14.1), (5, I ((w64 (x3 + 1))))] [some ⟨0, dL ((((x4.set x3.toNat (({ v8 with fColumns := v10.2 } : T_impl_Table)))).set x3.toNat (({ v12 with fRows := v14.2 } : T_impl_Table))))⟩, some ⟨2, []⟩, some ⟨2, []⟩] ?_
  exact ⟨(f5, v14.1, (w64 (x3 + 1)), (((x4.set x3.toNat (({ v8 with fColumns := v10.2 } : T_impl_Table)))).set x3.toNat (({ v12 with fRows := v14.2 } : T_impl_Table)))), h, Nat.lt_succ_self _, (Imp.to (st' := ⟨27, [(0, .ref 0 0 0 2 ((((x4.set x3.toNat (({ v8 with fColumns := v10.2 } : T_impl_Table)))).set x3.toNat (({ v12 with fRows := v14.2 } : T_impl_Table)))).length false), (1, I v14.1), (5, I ((w64 (x3 + 1))))], [some ⟨0, dL ((((x4.set x3.toNat (({ v8 with fColumns := v10.2 } : T_impl_Table)))).set x3.toNat (({ v12 with fRows := v14.2 } : T_impl_Table))))⟩, some ⟨2, []⟩, some ⟨2, []⟩]⟩) [0, 1, 5] (by kernel_rfl)).trans ((Imp.truncS (st' := ⟨27, [(0, .ref 0 0 0 2 ((((x4.set x3.toNat (({ v8 with fColumns := v10.2 } : T_impl_Table)))).set x3.toNat (({ v12 with fRows := v14.2 } : T_impl_Table)))).length false), (1, I v14.1), (5, I ((w64 (x3 + 1))))], [some ⟨0, dL ((((x4.set x3.toNat (({ v8 with fColumns := v10.2 } : T_impl_Table)))).set x3.toNat (({ v12 with fRows := v14.2 } : T_impl_Table))))⟩]⟩) 1 (fun _ _ => by decide) (by kernel_rfl) (allBelow_mem (by exact (And.intro rfl (And.intro rfl (And.intro rfl trivial))))) (by exact (And.intro (dL_below _ _) trivial)) (by kernel_rfl)).trans (Imp.to [0, 1, 5] (by kernel_rfl)))⟩
  refine pwp_exit ?_
  refine srve 27 [(4, I x2)] [some ⟨0, dL x4⟩] ?_
  have h := si h
  subst h
  exact pwp_ret ⟨.inr rfl, 0, by kernel_rfl, by kernel_rfl⟩
def laws_markBondS_l0 : Nat → Int → Int → (List T_impl_Bond) → Option (Int × List T_impl_Bond)
  | 0, _, _, _ => none
  | f5 + 1, x2, x3, x4 => bif (decide (x3 < ((x4.length : Int)))) then (getI x4 x3).bind fun v8 => (getI ((x4.set x3.toNat (({ v8 with fKind := x2 } : T_impl_Bond)))) x3).bind fun v10 => (getI ((((x4.set x3.toNat (({ v8 with fKind := x2 } : T_impl_Bond)))).set x3.toNat (({ v10 with fIn := (w64 (x2 + 1)) } : T_impl_Bond)))) x3).bind fun v12 => (laws_markIntS v12.fList ((w64 (((w64 (x2 + 1))) + 1)))).bind fun v14 => (getI ((((((x4.set x3.toNat (({ v8 with fKind := x2 } : T_impl_Bond)))).set x3.toNat (({ v10 with fIn := (w64 (x2 + 1)) } : T_impl_Bond)))).set x3.toNat (({ v12 with fList := v14.2 } : T_impl_Bond)))) x3).bind fun v16 => (getI ((((((((x4.set x3.toNat (({ v8 with fKind := x2 } : T_impl_Bond)))).set x3.toNat (({ v10 with fIn := (w64 (x2 + 1)) } : T_impl_Bond)))).set x3.toNat (({ v12 with fList := v14.2 } : T_impl_Bond)))).set x3.toNat (({ v16 with fOf := v14.1 } : T_impl_Bond)))) x3).bind fun v18 => (laws_markIntS v18.fTo ((w64 (v14.1 + 1)))).bind fun v20 => (getI ((((((((((x4.set x3.toNat (({ v8 with fKind := x2 } : T_impl_Bond)))).set x3.toNat (({ v10 with fIn := (w64 (x2 + 1)) } : T_impl_Bond)))).set x3.toNat (({ v12 with fList := v14.2 } : T_impl_Bond)))).set x3.toNat (({ v16 with fOf := v14.1 } : T_impl_Bond)))).set x3.toNat (({ v18 with fTo := v20.2 } : T_impl_Bond)))) x3).bind fun v22 => (getI ((((((((((((x4.set x3.toNat (({ v8 with fKind := x2 } : T_impl_Bond)))).set x3.toNat (({ v10 with fIn := (w64 (x2 + 1)) } : T_impl_Bond)))).set x3.toNat (({ v12 with fList := v14.2 } : T_impl_Bond)))).set x3.toNat (({ v16 with fOf := v14.1 } : T_impl_Bond)))).set x3.toNat (({ v18 with fTo := v20.2 } : T_impl_Bond)))).set x3.toNat (({ v22 with fFollow := (((v20.1.tmod 3)) == 0) } : T_impl_Bond)))) x3).bind fun v24 => (laws_markPartS v24.fE ((w64 (v20.1 + 1)))).bind fun v26 => (laws_markBondS_l0 f5) v26.1 ((w64 (x3 + 1))) ((((((((((((((x4.set x3.toNat (({ v8 with fKind := x2 } : T_impl_Bond)))).set x3.toNat (({ v10 with fIn := (w64 (x2 + 1)) } : T_impl_Bond)))).set x3.toNat (({ v12 with fList := v14.2 } : T_impl_Bond)))).set x3.toNat (({ v16 with fOf := v14.1 } : T_impl_Bond)))).set x3.toNat (({ v18 with fTo := v20.2 } : T_impl_Bond)))).set x3.toNat (({ v22 with fFollow := (((v20.1.tmod 3)) == 0) } : T_impl_Bond)))).set x3.toNat (({ v24 with fE := v26.2 } : T_impl_Bond)))) else some (x2, x4)
def laws_markBondS (a0 : List T_impl_Bond) (a1 : Int) : Option (Int × List T_impl_Bond) := laws_markBondS_l0 FUEL a1 0 a0
theorem len_laws_markBondS_l0 : ∀ (f5 : Nat) (x2 : Int) (x3 : Int) (x4 : List T_impl_Bond) (y : Int × List T_impl_Bond), laws_markBondS_l0 f5 x2 x3 x4 = some y → y.2.length = x4.length
  | 0, _, _, _, _, h => by cases h
  | f5 + 1, x2, x3, x4, y, h => by
    rw [laws_markBondS_l0] at h
    rcases condS h with h | h
    · obtain ⟨_, _, h⟩ := bindS h
      obtain ⟨_, _, h⟩ := bindS h
      obtain ⟨_, _, h⟩ := bindS h
      obtain ⟨_, _, h⟩ := bindS h
      obtain ⟨_, _, h⟩ := bindS h
      obtain ⟨_, _, h⟩ := bindS h
      obtain ⟨_, _, h⟩ := bindS h
      obtain ⟨_, _, h⟩ := bindS h
      obtain ⟨_, _, h⟩ := bindS h
      obtain ⟨_, _, h⟩ := bindS h
      have h2 := len_laws_markBondS_l0 f5 _ _ _ _ h
      simp only [List.length_set] at h2
      exact h2
    · cases h; rfl
theorem len_laws_markBondS {a0 : List T_impl_Bond} {a1 : Int} {y : Int × List T_impl_Bond} (h : laws_markBondS a0 a1 = some y) : y.2.length = a0.length := by
  unfold laws_markBondS at h
  exact len_laws_markBondS_l0 _ _ _ _ _ h
theorem ok_laws_markBondS {a0 : List T_impl_Bond} {a1 : Int} {y : Int × List T_impl_Bond} (h : laws_markBondS a0 a1 = some y) : OKd Tryz.prog 22 7 a0.length (dL a0) [I a1] (.int .i64 y.1) (dL y.2) := by
  refine OKd_of_pwp τ_ok Tryz.func22 rfl (by kernel_rfl) rfl (dL_oc _) (dL_oc _) (dL_bl _) (dL_bl _) rfl (fun hl => by rw [dL_len, len_laws_markBondS h, ← dL_len]; exact hl) fun Γ => ?_
  refine pwp_imp (Imp.to (st' := ⟨64, [(0, .ref 0 0 0 7 a0.length false), (1, I a1)], [some ⟨0, dL a0⟩]⟩) [0, 1] (by kernel_rfl)) ?_
  unfold laws_markBondS at h
  refine srve 64 [(0, .ref 0 0 0 7 a0.length false), (1, I a1)] [some ⟨0, dL a0⟩] ?_
  refine pwp_seq ?_
  refine srve 64 [(0, .ref 0 0 0 7 a0.length false), (1, I a1), (5, I 0)] [some ⟨0, dL a0⟩] ?_
  refine pwp_block ?_
  refine pwp_loop (ι := Nat × Int × Int × (List T_impl_Bond)) (fun (f5, x2, x3, x4) => (⟨64, [(0, .ref 0 0 0 7 x4.length false), (1, I x2), (5, I x3)], [some ⟨0, dL x4⟩]⟩ : St)) (fun (f5, x2, x3, x4) => laws_markBondS_l0 f5 x2 x3 x4 = some y) (fun (f5, x2, x3, x4) => f5) (FUEL, a1, 0, a0) h ((Imp.to (st' := ⟨64, [(0, .ref 0 0 0 7 a0.length false), (1, I a1), (5, I 0)], [some ⟨0, dL a0⟩]⟩) [0, 1, 5] (by kernel_rfl)).trans (Imp.to [0, 1, 5] (by kernel_rfl))) ?_
  rintro ⟨f5, x2, x3, x4⟩ h
  dsimp only at h ⊢
  rcases f5 with _ | f5
  cases h
  rw [laws_markBondS_l0] at h
  refine pwp_seq ?_
  refine srve 64 [(0, .ref 0 0 0 7 x4.length false), (1, I x2), (5, I x3), (9, B ((decide (x3 < ((x4.length : Int))))))] [some ⟨0, dL x4⟩] ?_
  refine pc h (fun h => ?_) (fun h => ?_)
  refine pwp_skip ?_
  refine pwp_seq ?_
  refine pwp_block ?_
  refine srv 3 64 [(0, .ref 0 0 0 7 x4.length false), (1, I x2), (5, I x3), (12, .ref 0 0 0 7 x4.length false), (13, I x3), (14, I x2)] [some ⟨0, dL x4⟩] ?_
  obtain ⟨v8, hv9, h⟩ := bindS h
  refine opsP_idr τ_ok 15 0 0 x4.length hv9 rfl (by kernel_rfl) ?_
  refine v 1 64 [(0, .ref 0 0 0 7 x4.length false), (1, I x2), (5, I x3), (14, I x2), (16, .ptr 0 0 (x3.toNat * 7))] [some ⟨0, dL x4⟩] ?_
  refine opsP_E (dd := none) (x := .any) (stdl_E (xs := x4) (vs := [I x2]) τ_ok 3 0 0 0 (({ v8 with fKind := x2 } : T_impl_Bond)) hv9 (by kernel_rfl) (by kernel_rfl) (by kernel_rfl)) ?_
  refine opsP_imp (Imp.to (st' := ⟨64, [(0, .ref 0 0 0 7 x4.length false), (1, I x2), (5, I x3), (14, I x2)], [some ⟨0, dL ((x4.set x3.toNat (({ v8 with fKind := x2 } : T_impl_Bond))))⟩]⟩) [0, 1, 5, 14] (by kernel_rfl)) ?_
  refine opsP_ren (st' := ⟨64, [(0, .ref 0 0 0 7 ((x4.set x3.toNat (({ v8 with fKind := x2 } : T_impl_Bond)))).length false), (1, I x2), (5, I x3), (14, I x2)], [some ⟨0, dL ((x4.set x3.toNat (({ v8 with fKind := x2 } : T_impl_Bond))))⟩]⟩) 0 ((x4.set x3.toNat (({ v8 with fKind := x2 } : T_impl_Bond)))).length (renC (ren_ref (List.length_set ..).symm) (renC trivial (renC trivial (renC trivial renC0)))) (by kernel_rfl) ?_
  refine ve 0 64 [(0, .ref 0 0 0 7 ((x4.set x3.toNat (({ v8 with fKind := x2 } : T_impl_Bond)))).length false), (1, I x2), (5, I x3)] [some ⟨0, dL ((x4.set x3.toNat (({ v8 with fKind := x2 } : T_impl_Bond))))⟩] ?_
  refine srve 64 [(0, .ref 0 0 0 7 ((x4.set x3.toNat (({ v8 with fKind := x2 } : T_impl_Bond)))).length false), (1, I ((w64 (x2 + 1)))), (5, I x3)] [some ⟨0, dL ((x4.set x3.toNat (({ v8 with fKind := x2 } : T_impl_Bond))))⟩] ?_
  refine srv 3 64 [(0, .ref 0 0 0 7 ((x4.set x3.toNat (({ v8 with fKind := x2 } : T_impl_Bond)))).length false), (1, I ((w64 (x2 + 1)))), (5, I x3), (19, .ref 0 0 0 7 ((x4.set x3.toNat (({ v8 with fKind := x2 } : T_impl_Bond)))).length false), (20, I x3), (21, I ((w64 (x2 + 1))))] [some ⟨0, dL ((x4.set x3.toNat (({ v8 with fKind := x2 } : T_impl_Bond))))⟩] ?_
  obtain ⟨v10, hv11, h⟩ := bindS h
  refine opsP_idr τ_ok 22 0 0 ((x4.set x3.toNat (({ v8 with fKind := x2 } : T_impl_Bond)))).length hv11 rfl (by kernel_rfl) ?_
  refine v 1 64 [(0, .ref 0 0 0 7 ((x4.set x3.toNat (({ v8 with fKind := x2 } : T_impl_Bond)))).length false), (1, I ((w64 (x2 + 1)))), (5, I x3), (21, I ((w64 (x2 + 1)))), (23, .ptr 0 0 (x3.toNat * 7 + 1))] [some ⟨0, dL ((x4.set x3.toNat (({ v8 with fKind := x2 } : T_impl_Bond))))⟩] ?_
  refine opsP_E (dd := none) (x := .any) (stdl_E (xs := (x4.set x3.toNat (({ v8 with fKind := x2 } : T_impl_Bond)))) (vs := [I ((w64 (x2 + 1)))]) τ_ok 3 0 0 1 (({ v10 with fIn := (w64 (x2 + 1)) } : T_impl_Bond)) hv11 (by kernel_rfl) (by kernel_rfl) (by kernel_rfl)) ?_
  refine opsP_imp (Imp.to (st' := ⟨64, [(0, .ref 0 0 0 7 ((x4.set x3.toNat (({ v8 with fKind := x2 } : T_impl_Bond)))).length false), (1, I ((w64 (x2 + 1)))), (5, I x3), (21, I ((w64 (x2 + 1))))], [some ⟨0, dL ((((x4.set x3.toNat (({ v8 with fKind := x2 } : T_impl_Bond)))).set x3.toNat (({ v10 with fIn := (w64 (x2 + 1)) } : T_impl_Bond))))⟩]⟩) [0, 1, 5, 21] (by kernel_rfl)) ?_
  refine opsP_ren (st' := ⟨64, [(0, .ref 0 0 0 7 ((((x4.set x3.toNat (({ v8 with fKind := x2 } : T_impl_Bond)))).set x3.toNat (({ v10 with fIn := (w64 (x2 + 1)) } : T_impl_Bond)))).length false), (1, I ((w64 (x2 + 1)))), (5, I x3), (21, I ((w64 (x2 + 1))))], [some ⟨0, dL ((((x4.set x3.toNat (({ v8 with fKind := x2 } : T_impl_Bond)))).set x3.toNat (({ v10 with fIn := (w64 (x2 + 1)) } : T_impl_Bond))))⟩]⟩) 0 ((((x4.set x3.toNat (({ v8 with fKind := x2 } : T_impl_Bond)))).set x3.toNat (({ v10 with fIn := (w64 (x2 + 1)) } : T_impl_Bond)))).length (renC (ren_ref (List.length_set ..).symm) (renC trivial (renC trivial (renC trivial renC0)))) (by kernel_rfl) ?_
  refine ve 0 64 [(0, .ref 0 0 0 7 ((((x4.set x3.toNat (({ v8 with fKind := x2 } : T_impl_Bond)))).set x3.toNat (({ v10 with fIn := (w64 (x2 + 1)) } : T_impl_Bond)))).length false), (1, I ((w64 (x2 + 1)))), (5, I x3)] [some ⟨0, dL ((((x4.set x3.toNat (({ v8 with fKind := x2 } : T_impl_Bond)))).set x3.toNat (({ v10 with fIn := (w64 (x2 + 1)) } : T_impl_Bond))))⟩] ?_
  refine srve 64 [(0, .ref 0 0 0 7 ((((x4.set x3.toNat (({ v8 with fKind := x2 } : T_impl_Bond)))).set x3.toNat (({ v10 with fIn := (w64 (x2 + 1)) } : T_impl_Bond)))).length false), (1, I ((w64 (((w64 (x2 + 1))) + 1)))), (5, I x3)] [some ⟨0, dL ((((x4.set x3.toNat (({ v8 with fKind := x2 } : T_impl_Bond)))).set x3.toNat (({ v10 with fIn := (w64 (x2 + 1)) } : T_impl_Bond))))⟩] ?_
  refine srv 2 64 [(0, .ref 0 0 0 7 ((((x4.set x3.toNat (({ v8 with fKind := x2 } : T_impl_Bond)))).set x3.toNat (({ v10 with fIn := (w64 (x2 + 1)) } : T_impl_Bond)))).length false), (1, I ((w64 (((w64 (x2 + 1))) + 1)))), (5, I x3), (26, .ref 0 0 0 7 ((((x4.set x3.toNat (({ v8 with fKind := x2 } : T_impl_Bond)))).set x3.toNat (({ v10 with fIn := (w64 (x2 + 1)) } : T_impl_Bond)))).length false), (27, I x3)] [some ⟨0, dL ((((x4.set x3.toNat (({ v8 with fKind := x2 } : T_impl_Bond)))).set x3.toNat (({ v10 with fIn := (w64 (x2 + 1)) } : T_impl_Bond))))⟩] ?_
  obtain ⟨v12, hv13, h⟩ := bindS h
  refine opsP_idr τ_ok 28 0 0 ((((x4.set x3.toNat (({ v8 with fKind := x2 } : T_impl_Bond)))).set x3.toNat (({ v10 with fIn := (w64 (x2 + 1)) } : T_impl_Bond)))).length hv13 rfl (by kernel_rfl) ?_
  refine v 1 64 [(0, .ref 0 0 0 7 ((((x4.set x3.toNat (({ v8 with fKind := x2 } : T_impl_Bond)))).set x3.toNat (({ v10 with fIn := (w64 (x2 + 1)) } : T_impl_Bond)))).length false), (1, I ((w64 (((w64 (x2 + 1))) + 1)))), (5, I x3), (29, .ptr 0 0 (x3.toNat * 7 + 2))] [some ⟨0, dL ((((x4.set x3.toNat (({ v8 with fKind := x2 } : T_impl_Bond)))).set x3.toNat (({ v10 with fIn := (w64 (x2 + 1)) } : T_impl_Bond))))⟩] ?_
  refine opsP_imp (Imp.to (st' := ⟨64, [(0, .ref 0 0 0 7 ((((x4.set x3.toNat (({ v8 with fKind := x2 } : T_impl_Bond)))).set x3.toNat (({ v10 with fIn := (w64 (x2 + 1)) } : T_impl_Bond)))).length false), (1, I ((w64 (((w64 (x2 + 1))) + 1)))), (5, I x3), (29, .ptr 0 0 (x3.toNat * 7 + 2))], [some ⟨0, dL ((((x4.set x3.toNat (({ v8 with fKind := x2 } : T_impl_Bond)))).set x3.toNat (({ v10 with fIn := (w64 (x2 + 1)) } : T_impl_Bond))))⟩]⟩) [0, 1, 5, 29] (by kernel_rfl)) ?_
  refine opsP_imp (Imp.ghosts 1 (st' := ⟨64, [(0, .ref 0 0 0 7 ((((x4.set x3.toNat (({ v8 with fKind := x2 } : T_impl_Bond)))).set x3.toNat (({ v10 with fIn := (w64 (x2 + 1)) } : T_impl_Bond)))).length false), (1, I ((w64 (((w64 (x2 + 1))) + 1)))), (5, I x3), (29, .ptr 0 0 (x3.toNat * 7 + 2))], [some ⟨0, dL ((((x4.set x3.toNat (({ v8 with fKind := x2 } : T_impl_Bond)))).set x3.toNat (({ v10 with fIn := (w64 (x2 + 1)) } : T_impl_Bond))))⟩, some ⟨0, []⟩]⟩) (by kernel_rfl)) ?_
  refine opsP_E (dd := some 30) (x := .ref 1 1 0 1 v12.fList.length false) (CoreE.pre (H1 := [some ⟨0, setL (dL ((((x4.set x3.toNat (({ v8 with fKind := x2 } : T_impl_Bond)))).set x3.toNat (({ v10 with fIn := (w64 (x2 + 1)) } : T_impl_Bond))))) (x3.toNat * 7 + 2) [.ref 1 1 0 1 v12.fList.length false]⟩, some ⟨1, eL v12.fList⟩]) (HStep.openL (cs0 := []) (xs := (((x4.set x3.toNat (({ v8 with fKind := x2 } : T_impl_Bond)))).set x3.toNat (({ v10 with fIn := (w64 (x2 + 1)) } : T_impl_Bond)))) (s := 1) (n := v12.fList.length) (f := false) (cs := eL v12.fList) 0 0 1 0 2 hv13 (by kernel_rfl) (by kernel_rfl) (by kernel_rfl) (by kernel_rfl) (by decide) (fun _ _ => by decide) (by kernel_rfl)) (ldo_E (xs := (((x4.set x3.toNat (({ v8 with fKind := x2 } : T_impl_Bond)))).set x3.toNat (({ v10 with fIn := (w64 (x2 + 1)) } : T_impl_Bond)))) τ_ok 30 30 2 hv13 (by kernel_rfl) (by kernel_rfl) (by kernel_rfl))) ?_
  refine v 1 64 [(0, .ref 0 0 0 7 ((((x4.set x3.toNat (({ v8 with fKind := x2 } : T_impl_Bond)))).set x3.toNat (({ v10 with fIn := (w64 (x2 + 1)) } : T_impl_Bond)))).length false), (5, I x3), (30, .ref 1 1 0 1 v12.fList.length false), (31, I ((w64 (((w64 (x2 + 1))) + 1))))] [some ⟨0, setL (dL ((((x4.set x3.toNat (({ v8 with fKind := x2 } : T_impl_Bond)))).set x3.toNat (({ v10 with fIn := (w64 (x2 + 1)) } : T_impl_Bond))))) (x3.toNat * 7 + 2) [.ref 1 1 0 1 v12.fList.length false]⟩, some ⟨1, eL v12.fList⟩] ?_
  obtain ⟨v14, hv15, h⟩ := bindS h
  refine opsP_E (dd := some 32) (x := I v14.1) ((callD_E τ 32 1 1 (ok_laws_markIntS hv15) (by kernel_rfl)).then (H2 := [some ⟨0, dL ((((((x4.set x3.toNat (({ v8 with fKind := x2 } : T_impl_Bond)))).set x3.toNat (({ v10 with fIn := (w64 (x2 + 1)) } : T_impl_Bond)))).set x3.toNat (({ v12 with fList := v14.2 } : T_impl_Bond))))⟩, some ⟨2, []⟩]) (HStep.nestL (xs := (((x4.set x3.toNat (({ v8 with fKind := x2 } : T_impl_Bond)))).set x3.toNat (({ v10 with fIn := (w64 (x2 + 1)) } : T_impl_Bond)))) (vs := [.ref 1 1 0 1 v12.fList.length false]) 0 0 2 (({ v12 with fList := v14.2 } : T_impl_Bond)) hv13 (by kernel_rfl) (OutL.cons (OutP.listn (v := 1) (xs := v14.2) (len_laws_markIntS hv15) (by kernel_rfl)) (OutL.nil _)) (by decide) (by decide) (fun _ _ => by decide) (by kernel_rfl) (by kernel_rfl) (by kernel_rfl) (by kernel_rfl))) ?_
  refine opsP_imp (Imp.to (st' := ⟨64, [(0, .ref 0 0 0 7 ((((x4.set x3.toNat (({ v8 with fKind := x2 } : T_impl_Bond)))).set x3.toNat (({ v10 with fIn := (w64 (x2 + 1)) } : T_impl_Bond)))).length false), (5, I x3), (31, I ((w64 (((w64 (x2 + 1))) + 1)))), (32, I v14.1)], [some ⟨0, dL ((((((x4.set x3.toNat (({ v8 with fKind := x2 } : T_impl_Bond)))).set x3.toNat (({ v10 with fIn := (w64 (x2 + 1)) } : T_impl_Bond)))).set x3.toNat (({ v12 with fList := v14.2 } : T_impl_Bond))))⟩, some ⟨2, []⟩]⟩) [0, 5, 31, 32] (by kernel_rfl)) ?_
  refine opsP_ren (st' := ⟨64, [(0, .ref 0 0 0 7 ((((((x4.set x3.toNat (({ v8 with fKind := x2 } : T_impl_Bond)))).set x3.toNat (({ v10 with fIn := (w64 (x2 + 1)) } : T_impl_Bond)))).set x3.toNat (({ v12 with fList := v14.2 } : T_impl_Bond)))).length false), (5, I x3), (31, I ((w64 (((w64 (x2 + 1))) + 1)))), (32, I v14.1)], [some ⟨0, dL ((((((x4.set x3.toNat (({ v8 with fKind := x2 } : T_impl_Bond)))).set x3.toNat (({ v10 with fIn := (w64 (x2 + 1)) } : T_impl_Bond)))).set x3.toNat (({ v12 with fList := v14.2 } : T_impl_Bond))))⟩, some ⟨2, []⟩]⟩) 0 ((((((x4.set x3.toNat (({ v8 with fKind := x2 } : T_impl_Bond)))).set x3.toNat (({ v10 with fIn := (w64 (x2 + 1)) } : T_impl_Bond)))).set x3.toNat (({ v12 with fList := v14.2 } : T_impl_Bond)))).length (renC (ren_ref (List.length_set ..).symm) (renC trivial (renC trivial (renC trivial renC0)))) (by kernel_rfl) ?_
  refine ve 1 64 [(0, .ref 0 0 0 7 ((((((x4.set x3.toNat (({ v8 with fKind := x2 } : T_impl_Bond)))).set x3.toNat (({ v10 with fIn := (w64 (x2 + 1)) } : T_impl_Bond)))).set x3.toNat (({ v12 with fList := v14.2 } : T_impl_Bond)))).length false), (1, I v14.1), (5, I x3)] [some ⟨0, dL ((((((x4.set x3.toNat (({ v8 with fKind := x2 } : T_impl_Bond)))).set x3.toNat (({ v10 with fIn := (w64 (x2 + 1)) } : T_impl_Bond)))).set x3.toNat (({ v12 with fList := v14.2 } : T_impl_Bond))))⟩, some ⟨2, []⟩] ?_
  refine srv 3 64 [(0, .ref 0 0 0 7 ((((((x4.set x3.toNat (({ v8 with fKind := x2 } : T_impl_Bond)))).set x3.toNat (({ v10 with fIn := (w64 (x2 + 1)) } : T_impl_Bond)))).set x3.toNat (({ v12 with fList := v14.2 } : T_impl_Bond)))).length false), (1, I v14.1), (5, I x3), (33, .ref 0 0 0 7 ((((((x4.set x3.toNat (({ v8 with fKind := x2 } : T_impl_Bond)))).set x3.toNat (({ v10 with fIn := (w64 (x2 + 1)) } : T_impl_Bond)))).set x3.toNat (({ v12 with fList := v14.2 } : T_impl_Bond)))).length false), (34, I x3), (35, I v14.1)] [some ⟨0, dL ((((((x4.set x3.toNat (({ v8 with fKind := x2 } : T_impl_Bond)))).set x3.toNat (({ v10 with fIn := (w64 (x2 + 1)) } : T_impl_Bond)))).set x3.toNat (({ v12 with fList := v14.2 } : T_impl_Bond))))⟩, some ⟨2, []⟩] ?_
  obtain ⟨v16, hv17, h⟩ := bindS h
  refine opsP_idr τ_ok 36 0 0 ((((((x4.set x3.toNat (({ v8 with fKind := x2 } : T_impl_Bond)))).set x3.toNat (({ v10 with fIn := (w64 (x2 + 1)) } : T_impl_Bond)))).set x3.toNat (({ v12 with fList := v14.2 } : T_impl_Bond)))).length hv17 rfl (by kernel_rfl) ?_
  refine v 1 64 [(0, .ref 0 0 0 7 ((((((x4.set x3.toNat (({ v8 with fKind := x2 } : T_impl_Bond)))).set x3.toNat (({ v10 with fIn := (w64 (x2 + 1)) } : T_impl_Bond)))).set x3.toNat (({ v12 with fList := v14.2 } : T_impl_Bond)))).length false), (1, I v14.1), (5, I x3), (35, I v14.1), (37, .ptr 0 0 (x3.toNat * 7 + 3))] [some ⟨0, dL ((((((x4.set x3.toNat (({ v8 with fKind := x2 } : T_impl_Bond)))).set x3.toNat (({ v10 with fIn := (w64 (x2 + 1)) } : T_impl_Bond)))).set x3.toNat (({ v12 with fList := v14.2 } : T_impl_Bond))))⟩, some ⟨2, []⟩] ?_
  refine opsP_E (dd := none) (x := .any) (stdl_E (xs := (((((x4.set x3.toNat (({ v8 with fKind := x2 } : T_impl_Bond)))).set x3.toNat (({ v10 with fIn := (w64 (x2 + 1)) } : T_impl_Bond)))).set x3.toNat (({ v12 with fList := v14.2 } : T_impl_Bond)))) (vs := [I v14.1]) τ_ok 3 0 0 3 (({ v16 with fOf := v14.1 } : T_impl_Bond)) hv17 (by kernel_rfl) (by kernel_rfl) (by kernel_rfl)) ?_
  refine opsP_imp (Imp.to (st' := ⟨64, [(0, .ref 0 0 0 7 ((((((x4.set x3.toNat (({ v8 with fKind := x2 } : T_impl_Bond)))).set x3.toNat (({ v10 with fIn := (w64 (x2 + 1)) } : T_impl_Bond)))).set x3.toNat (({ v12 with fList := v14.2 } : T_impl_Bond)))).length false), (1, I v14.1), (5, I x3), (35, I v14.1)], [some ⟨0, dL ((((((((x4.set x3.toNat (({ v8 with fKind := x2 } : T_impl_Bond)))).set x3.toNat (({ v10 with fIn := (w64 (x2 + 1)) } : T_impl_Bond)))).set x3.toNat (({ v12 with fList := v14.2 } : T_impl_Bond)))).set x3.toNat (({ v16 with fOf := v14.1 } : T_impl_Bond))))⟩, some ⟨2, []⟩]⟩) [0, 1, 5, 35] (by kernel_rfl)) ?_
  refine opsP_ren (st' := ⟨64, [(0, .ref 0 0 0 7 ((((((((x4.set x3.toNat (({ v8 with fKind := x2 } : T_impl_Bond)))).set x3.toNat (({ v10 with fIn := (w64 (x2 + 1)) } : T_impl_Bond)))).set x3.toNat (({ v12 with fList := v14.2 } : T_impl_Bond)))).set x3.toNat (({ v16 with fOf := v14.1 } : T_impl_Bond)))).length false), (1, I v14.1), (5, I x3), (35, I v14.1)], [some ⟨0, dL ((((((((x4.set x3.toNat (({ v8 with fKind := x2 } : T_impl_Bond)))).set x3.toNat (({ v10 with fIn := (w64 (x2 + 1)) } : T_impl_Bond)))).set x3.toNat (({ v12 with fList := v14.2 } : T_impl_Bond)))).set x3.toNat (({ v16 with fOf := v14.1 } : T_impl_Bond))))⟩, some ⟨2, []⟩]⟩) 0 ((((((((x4.set x3.toNat (({ v8 with fKind := x2 } : T_impl_Bond)))).set x3.toNat (({ v10 with fIn := (w64 (x2 + 1)) } : T_impl_Bond)))).set x3.toNat (({ v12 with fList := v14.2 } : T_impl_Bond)))).set x3.toNat (({ v16 with fOf := v14.1 } : T_impl_Bond)))).length (renC (ren_ref (List.length_set ..).symm) (renC trivial (renC trivial (renC trivial renC0)))) (by kernel_rfl) ?_
  refine ve 0 64 [(0, .ref 0 0 0 7 ((((((((x4.set x3.toNat (({ v8 with fKind := x2 } : T_impl_Bond)))).set x3.toNat (({ v10 with fIn := (w64 (x2 + 1)) } : T_impl_Bond)))).set x3.toNat (({ v12 with fList := v14.2 } : T_impl_Bond)))).set x3.toNat (({ v16 with fOf := v14.1 } : T_impl_Bond)))).length false), (1, I v14.1), (5, I x3)] [some ⟨0, dL ((((((((x4.set x3.toNat (({ v8 with fKind := x2 } : T_impl_Bond)))).set x3.toNat (({ v10 with fIn := (w64 (x2 + 1)) } : T_impl_Bond)))).set x3.toNat (({ v12 with fList := v14.2 } : T_impl_Bond)))).set x3.toNat (({ v16 with fOf := v14.1 } : T_impl_Bond))))⟩, some ⟨2, []⟩] ?_
  refine srve 64 [(0, .ref 0 0 0 7 ((((((((x4.set x3.toNat (({ v8 with fKind := x2 } : T_impl_Bond)))).set x3.toNat (({ v10 with fIn := (w64 (x2 + 1)) } : T_impl_Bond)))).set x3.toNat (({ v12 with fList := v14.2 } : T_impl_Bond)))).set x3.toNat (({ v16 with fOf := v14.1 } : T_impl_Bond)))).length false), (1, I ((w64 (v14.1 + 1)))), (5, I x3)] [some ⟨0, dL ((((((((x4.set x3.toNat (({ v8 with fKind := x2 } : T_impl_Bond)))).set x3.toNat (({ v10 with fIn := (w64 (x2 + 1)) } : T_impl_Bond)))).set x3.toNat (({ v12 with fList := v14.2 } : T_impl_Bond)))).set x3.toNat (({ v16 with fOf := v14.1 } : T_impl_Bond))))⟩, some ⟨2, []⟩] ?_
  refine srv 2 64 [(0, .ref 0 0 0 7 ((((((((x4.set x3.toNat (({ v8 with fKind := x2 } : T_impl_Bond)))).set x3.toNat (({ v10 with fIn := (w64 (x2 + 1)) } : T_impl_Bond)))).set x3.toNat (({ v12 with fList := v14.2 } : T_impl_Bond)))).set x3.toNat (({ v16 with fOf := v14.1 } : T_impl_Bond)))).length false), (1, I ((w64 (v14.1 + 1)))), (5, I x3), (40, .ref 0 0 0 7 ((((((((x4.set x3.toNat (({ v8 with fKind := x2 } : T_impl_Bond)))).set x3.toNat (({ v10 with fIn := (w64 (x2 + 1)) } : T_impl_Bond)))).set x3.toNat (({ v12 with fList := v14.2 } : T_impl_Bond)))).set x3.toNat (({ v16 with fOf := v14.1 } : T_impl_Bond)))).length false), (41, I x3)] [some ⟨0, dL ((((((((x4.set x3.toNat (({ v8 with fKind := x2 } : T_impl_Bond)))).set x3.toNat (({ v10 with fIn := (w64 (x2 + 1)) } : T_impl_Bond)))).set x3.toNat (({ v12 with fList := v14.2 } : T_impl_Bond)))).set x3.toNat (({ v16 with fOf := v14.1 } : T_impl_Bond))))⟩, some ⟨2, []⟩] ?_
  obtain ⟨v18, hv19, h⟩ := bindS h
  refine opsP_idr τ_ok 42 0 0 ((((((((x4.set x3.toNat (({ v8 with fKind := x2 } : T_impl_Bond)))).set x3.toNat (({ v10 with fIn := (w64 (x2 + 1)) } : T_impl_Bond)))).set x3.toNat (({ v12 with fList := v14.2 } : T_impl_Bond)))).set x3.toNat (({ v16 with fOf := v14.1 } : T_impl_Bond)))).length hv19 rfl (by kernel_rfl) ?_
  refine v 1 64 [(0, .ref 0 0 0 7 ((((((((x4.set x3.toNat (({ v8 with fKind := x2 } : T_impl_Bond)))).set x3.toNat (({ v10 with fIn := (w64 (x2 + 1)) } : T_impl_Bond)))).set x3.toNat (({ v12 with fList := v14.2 } : T_impl_Bond)))).set x3.toNat (({ v16 with fOf := v14.1 } : T_impl_Bond)))).length false), (1, I ((w64 (v14.1 + 1)))), (5, I x3), (43, .ptr 0 0 (x3.toNat * 7 + 4))] [some ⟨0, dL ((((((((x4.set x3.toNat (({ v8 with fKind := x2 } : T_impl_Bond)))).set x3.toNat (({ v10 with fIn := (w64 (x2 + 1)) } : T_impl_Bond)))).set x3.toNat (({ v12 with fList := v14.2 } : T_impl_Bond)))).set x3.toNat (({ v16 with fOf := v14.1 } : T_impl_Bond))))⟩, some ⟨2, []⟩] ?_
  refine opsP_imp (Imp.to (st' := ⟨64, [(0, .ref 0 0 0 7 ((((((((x4.set x3.toNat (({ v8 with fKind := x2 } : T_impl_Bond)))).set x3.toNat (({ v10 with fIn := (w64 (x2 + 1)) } : T_impl_Bond)))).set x3.toNat (({ v12 with fList := v14.2 } : T_impl_Bond)))).set x3.toNat (({ v16 with fOf := v14.1 } : T_impl_Bond)))).length false), (1, I ((w64 (v14.1 + 1)))), (5, I x3), (43, .ptr 0 0 (x3.toNat * 7 + 4))], [some ⟨0, dL ((((((((x4.set x3.toNat (({ v8 with fKind := x2 } : T_impl_Bond)))).set x3.toNat (({ v10 with fIn := (w64 (x2 + 1)) } : T_impl_Bond)))).set x3.toNat (({ v12 with fList := v14.2 } : T_impl_Bond)))).set x3.toNat (({ v16 with fOf := v14.1 } : T_impl_Bond))))⟩, some ⟨2, []⟩]⟩) [0, 1, 5, 43] (by kernel_rfl)) ?_
  refine opsP_imp (Imp.ghosts 1 (st' := ⟨64, [(0, .ref 0 0 0 7 ((((((((x4.set x3.toNat (({ v8 with fKind := x2 } : T_impl_Bond)))).set x3.toNat (({ v10 with fIn := (w64 (x2 + 1)) } : T_impl_Bond)))).set x3.toNat (({ v12 with fList := v14.2 } : T_impl_Bond)))).set x3.toNat (({ v16 with fOf := v14.1 } : T_impl_Bond)))).length false), (1, I ((w64 (v14.1 + 1)))), (5, I x3), (43, .ptr 0 0 (x3.toNat * 7 + 4))], [some ⟨0, dL ((((((((x4.set x3.toNat (({ v8 with fKind := x2 } : T_impl_Bond)))).set x3.toNat (({ v10 with fIn := (w64 (x2 + 1)) } : T_impl_Bond)))).set x3.toNat (({ v12 with fList := v14.2 } : T_impl_Bond)))).set x3.toNat (({ v16 with fOf := v14.1 } : T_impl_Bond))))⟩, some ⟨2, []⟩, some ⟨0, []⟩]⟩) (by kernel_rfl)) ?_
  refine opsP_E (dd := some 44) (x := .ref 2 1 0 1 v18.fTo.length false) (CoreE.pre (H1 := [some ⟨0, setL (dL ((((((((x4.set x3.toNat (({ v8 with fKind := x2 } : T_impl_Bond)))).set x3.toNat (({ v10 with fIn := (w64 (x2 + 1)) } : T_impl_Bond)))).set x3.toNat (({ v12 with fList := v14.2 } : T_impl_Bond)))).set x3.toNat (({ v16 with fOf := v14.1 } : T_impl_Bond))))) (x3.toNat * 7 + 4) [.ref 2 1 0 1 v18.fTo.length false]⟩, some ⟨2, []⟩, some ⟨1, eL v18.fTo⟩]) (HStep.openL (cs0 := []) (xs := (((((((x4.set x3.toNat (({ v8 with fKind := x2 } : T_impl_Bond)))).set x3.toNat (({ v10 with fIn := (w64 (x2 + 1)) } : T_impl_Bond)))).set x3.toNat (({ v12 with fList := v14.2 } : T_impl_Bond)))).set x3.toNat (({ v16 with fOf := v14.1 } : T_impl_Bond)))) (s := 1) (n := v18.fTo.length) (f := false) (cs := eL v18.fTo) 0 0 2 0 4 hv19 (by kernel_rfl) (by kernel_rfl) (by kernel_rfl) (by kernel_rfl) (by decide) (fun _ _ => by decide) (by kernel_rfl)) (ldo_E (xs := (((((((x4.set x3.toNat (({ v8 with fKind := x2 } : T_impl_Bond)))).set x3.toNat (({ v10 with fIn := (w64 (x2 + 1)) } : T_impl_Bond)))).set x3.toNat (({ v12 with fList := v14.2 } : T_impl_Bond)))).set x3.toNat (({ v16 with fOf := v14.1 } : T_impl_Bond)))) τ_ok 44 30 4 hv19 (by kernel_rfl) (by kernel_rfl) (by kernel_rfl))) ?_
  refine v 1 64 [(0, .ref 0 0 0 7 ((((((((x4.set x3.toNat (({ v8 with fKind := x2 } : T_impl_Bond)))).set x3.toNat (({ v10 with fIn := (w64 (x2 + 1)) } : T_impl_Bond)))).set x3.toNat (({ v12 with fList := v14.2 } : T_impl_Bond)))).set x3.toNat (({ v16 with fOf := v14.1 } : T_impl_Bond)))).length false), (5, I x3), (44, .ref 2 1 0 1 v18.fTo.length false), (45, I ((w64 (v14.1 + 1))))] [some ⟨0, setL (dL ((((((((x4.set x3.toNat (({ v8 with fKind := x2 } : T_impl_Bond)))).set x3.toNat (({ v10 with fIn := (w64 (x2 + 1)) } : T_impl_Bond)))).set x3.toNat (({ v12 with fList := v14.2 } : T_impl_Bond)))).set x3.toNat (({ v16 with fOf := v14.1 } : T_impl_Bond))))) (x3.toNat * 7 + 4) [.ref 2 1 0 1 v18.fTo.length false]⟩, some ⟨2, []⟩, some ⟨1, eL v18.fTo⟩] ?_
  obtain ⟨v20, hv21, h⟩ := bindS h
  refine opsP_E (dd := some 46) (x := I v20.1) ((callD_E τ 46 2 1 (ok_laws_markIntS hv21) (by kernel_rfl)).then (H2 := [some ⟨0, dL ((((((((((x4.set x3.toNat (({ v8 with fKind := x2 } : T_impl_Bond)))).set x3.toNat (({ v10 with fIn := (w64 (x2 + 1)) } : T_impl_Bond)))).set x3.toNat (({ v12 with fList := v14.2 } : T_impl_Bond)))).set x3.toNat (({ v16 with fOf := v14.1 } : T_impl_Bond)))).set x3.toNat (({ v18 with fTo := v20.2 } : T_impl_Bond))))⟩, some ⟨2, []⟩, some ⟨2, []⟩]) (HStep.nestL (xs := (((((((x4.set x3.toNat (({ v8 with fKind := x2 } : T_impl_Bond)))).set x3.toNat (({ v10 with fIn := (w64 (x2 + 1)) } : T_impl_Bond)))).set x3.toNat (({ v12 with fList := v14.2 } : T_impl_Bond)))).set x3.toNat (({ v16 with fOf := v14.1 } : T_impl_Bond)))) (vs := [.ref 2 1 0 1 v18.fTo.length false]) 0 0 4 (({ v18 with fTo := v20.2 } : T_impl_Bond)) hv19 (by kernel_rfl) (OutL.cons (OutP.listn (v := 1) (xs := v20.2) (len_laws_markIntS hv21) (by kernel_rfl)) (OutL.nil _)) (by decide) (by decide) (fun _ _ => by decide) (by kernel_rfl) (by kernel_rfl) (by kernel_rfl) (by kernel_rfl))) ?_
  refine opsP_imp (Imp.to (st' := ⟨64, [(0, .ref 0 0 0 7 ((((((((x4.set x3.toNat (({ v8 with fKind := x2 } : T_impl_Bond)))).set x3.toNat (({ v10 with fIn := (w64 (x2 + 1)) } : T_impl_Bond)))).set x3.toNat (({ v12 with fList := v14.2 } : T_impl_Bond)))).set x3.toNat (({ v16 with fOf := v14.1 } : T_impl_Bond)))).length false), (5, I x3), (45, I ((w64 (v14.1 + 1)))), (46, I v20.1)], [some ⟨0, dL ((((((((((x4.set x3.toNat (({ v8 with fKind := x2 } : T_impl_Bond)))).set x3.toNat (({ v10 with fIn := (w64 (x2 + 1)) } : T_impl_Bond)))).set x3.toNat (({ v12 with fList := v14.2 } : T_impl_Bond)))).set x3.toNat (({ v16 with fOf := v14.1 } : T_impl_Bond)))).set x3.toNat (({ v18 with fTo := v20.2 } : T_impl_Bond))))⟩, some ⟨2, []⟩, some ⟨2, []⟩]⟩) [0, 5, 45, 46] (by kernel_rfl)) ?_
  refine opsP_ren (st' := ⟨64, [(0, .ref 0 0 0 7 ((((((((((x4.set x3.toNat (({ v8 with fKind := x2 } : T_impl_Bond)))).set x3.toNat (({ v10 with fIn := (w64 (x2 + 1)) } : T_impl_Bond)))).set x3.toNat (({ v12 with fList := v14.2 } : T_impl_Bond)))).set x3.toNat (({ v16 with fOf := v14.1 } : T_impl_Bond)))).set x3.toNat (({ v18 with fTo := v20.2 } : T_impl_Bond)))).length false), (5, I x3), (45, I ((w64 (v14.1 + 1)))), (46, I v20.1)], [some ⟨0, dL ((((((((((x4.set x3.toNat (({ v8 with fKind := x2 } : T_impl_Bond)))).set x3.toNat (({ v10 with fIn := (w64 (x2 + 1)) } : T_impl_Bond)))).set x3.toNat (({ v12 with fList := v14.2 } : T_impl_Bond)))).set x3.toNat (({ v16 with fOf := v14.1 } : T_impl_Bond)))).set x3.toNat (({ v18 with fTo := v20.2 } : T_impl_Bond))))⟩, some ⟨2, []⟩, some ⟨2, []⟩]⟩) 0 ((((((((((x4.set x3.toNat (({ v8 with fKind := x2 } : T_impl_Bond)))).set x3.toNat (({ v10 with fIn := (w64 (x2 + 1)) } : T_impl_Bond)))).set x3.toNat (({ v12 with fList := v14.2 } : T_impl_Bond)))).set x3.toNat (({ v16 with fOf := v14.1 } : T_impl_Bond)))).set x3.toNat (({ v18 with fTo := v20.2 } : T_impl_Bond)))).length (renC (ren_ref (List.length_set ..).symm) (renC trivial (renC trivial (renC trivial renC0)))) (by kernel_rfl) ?_
  refine ve 1 64 [(0, .ref 0 0 0 7 ((((((((((x4.set x3.toNat (({ v8 with fKind := x2 } : T_impl_Bond)))).set x3.toNat (({ v10 with fIn := (w64 (x2 + 1)) } : T_impl_Bond)))).set x3.toNat (({ v12 with fList := v14.2 } : T_impl_Bond)))).set x3.toNat (({ v16 with fOf := v14.1 } : T_impl_Bond)))).set x3.toNat (({ v18 with fTo := v20.2 } : T_impl_Bond)))).length false), (1, I v20.1), (5, I x3)] [some ⟨0, dL ((((((((((x4.set x3.toNat (({ v8 with fKind := x2 } : T_impl_Bond)))).set x3.toNat (({ v10 with fIn := (w64 (x2 + 1)) } : T_impl_Bond)))).set x3.toNat (({ v12 with fList := v14.2 } : T_impl_Bond)))).set x3.toNat (({ v16 with fOf := v14.1 } : T_impl_Bond)))).set x3.toNat (({ v18 with fTo := v20.2 } : T_impl_Bond))))⟩, some ⟨2, []⟩, some ⟨2, []⟩] ?_
  refine srv 5 64 [(0, .ref 0 0 0 7 ((((((((((x4.set x3.toNat (({ v8 with fKind := x2 } : T_impl_Bond)))).set x3.toNat (({ v10 with fIn := (w64 (x2 + 1)) } : T_impl_Bond)))).set x3.toNat (({ v12 with fList := v14.2 } : T_impl_Bond)))).set x3.toNat (({ v16 with fOf := v14.1 } : T_impl_Bond)))).set x3.toNat (({ v18 with fTo := v20.2 } : T_impl_Bond)))).length false), (1, I v20.1), (5, I x3), (47, .ref 0 0 0 7 ((((((((((x4.set x3.toNat (({ v8 with fKind := x2 } : T_impl_Bond)))).set x3.toNat (({ v10 with fIn := (w64 (x2 + 1)) } : T_impl_Bond)))).set x3.toNat (({ v12 with fList := v14.2 } : T_impl_Bond)))).set x3.toNat (({ v16 with fOf := v14.1 } : T_impl_Bond)))).set x3.toNat (({ v18 with fTo := v20.2 } : T_impl_Bond)))).length false), (48, I x3), (51, B ((((v20.1.tmod 3)) == 0)))] [some ⟨0, dL ((((((((((x4.set x3.toNat (({ v8 with fKind := x2 } : T_impl_Bond)))).set x3.toNat (({ v10 with fIn := (w64 (x2 + 1)) } : T_impl_Bond)))).set x3.toNat (({ v12 with fList := v14.2 } : T_impl_Bond)))).set x3.toNat (({ v16 with fOf := v14.1 } : T_impl_Bond)))).set x3.toNat (({ v18 with fTo := v20.2 } : T_impl_Bond))))⟩, some ⟨2, []⟩, some ⟨2, []⟩] ?_
  obtain ⟨v22, hv23, h⟩ := bindS h
  refine opsP_idr τ_ok 52 0 0 ((((((((((x4.set x3.toNat (({ v8 with fKind := x2 } : T_impl_Bond)))).set x3.toNat (({ v10 with fIn := (w64 (x2 + 1)) } : T_impl_Bond)))).set x3.toNat (({ v12 with fList := v14.2 } : T_impl_Bond)))).set x3.toNat (({ v16 with fOf := v14.1 } : T_impl_Bond)))).set x3.toNat (({ v18 with fTo := v20.2 } : T_impl_Bond)))).length hv23 rfl (by kernel_rfl) ?_
  refine v 1 64 [(0, .ref 0 0 0 7 ((((((((((x4.set x3.toNat (({ v8 with fKind := x2 } : T_impl_Bond)))).set x3.toNat (({ v10 with fIn := (w64 (x2 + 1)) } : T_impl_Bond)))).set x3.toNat (({ v12 with fList := v14.2 } : T_impl_Bond)))).set x3.toNat (({ v16 with fOf := v14.1 } : T_impl_Bond)))).set x3.toNat (({ v18 with fTo := v20.2 } : T_impl_Bond)))).length false), (1, I v20.1), (5, I x3), (51, B ((((v20.1.tmod 3)) == 0))), (53, .ptr 0 0 (x3.toNat * 7 + 5))] [some ⟨0, dL ((((((((((x4.set x3.toNat (({ v8 with fKind := x2 } : T_impl_Bond)))).set x3.toNat (({ v10 with fIn := (w64 (x2 + 1)) } : T_impl_Bond)))).set x3.toNat (({ v12 with fList := v14.2 } : T_impl_Bond)))).set x3.toNat (({ v16 with fOf := v14.1 } : T_impl_Bond)))).set x3.toNat (({ v18 with fTo := v20.2 } : T_impl_Bond))))⟩, some ⟨2, []⟩, some ⟨2, []⟩] ?_
  refine opsP_E (dd := none) (x := .any) (stdl_E (xs := (((((((((x4.set x3.toNat (({ v8 with fKind := x2 } : T_impl_Bond)))).set x3.toNat (({ v10 with fIn := (w64 (x2 + 1)) } : T_impl_Bond)))).set x3.toNat (({ v12 with fList := v14.2 } : T_impl_Bond)))).set x3.toNat (({ v16 with fOf := v14.1 } : T_impl_Bond)))).set x3.toNat (({ v18 with fTo := v20.2 } : T_impl_Bond)))) (vs := [B ((((v20.1.tmod 3)) == 0))]) τ_ok 4 0 0 5 (({ v22 with fFollow := (((v20.1.tmod 3)) == 0) } : T_impl_Bond)) hv23 (by kernel_rfl) (by kernel_rfl) (by kernel_rfl)) ?_
  refine opsP_imp (Imp.to (st' := ⟨64, [(0, .ref 0 0 0 7 ((((((((((x4.set x3.toNat (({ v8 with fKind := x2 } : T_impl_Bond)))).set x3.toNat (({ v10 with fIn := (w64 (x2 + 1)) } : T_impl_Bond)))).set x3.toNat (({ v12 with fList := v14.2 } : T_impl_Bond)))).set x3.toNat (({ v16 with fOf := v14.1 } : T_impl_Bond)))).set x3.toNat (({ v18 with fTo := v20.2 } : T_impl_Bond)))).length false), (1, I v20.1), (5, I x3), (51, B ((((v20.1.tmod 3)) == 0)))], [some ⟨0, dL ((((((((((((x4.set x3.toNat (({ v8 with fKind := x2 } : T_impl_Bond)))).set x3.toNat (({ v10 with fIn := (w64 (x2 + 1)) } : T_impl_Bond)))).set x3.toNat (({ v12 with fList := v14.2 } : T_impl_Bond)))).set x3.toNat (({ v16 with fOf := v14.1 } : T_impl_Bond)))).set x3.toNat (({ v18 with fTo := v20.2 } : T_impl_Bond)))).set x3.toNat (({ v22 with fFollow := (((v20.1.tmod 3)) == 0) } : T_impl_Bond))))⟩, some ⟨2, []⟩, some ⟨2, []⟩]⟩) [0, 1, 5, 51] (by kernel_rfl)) ?_
  refine opsP_ren (st' := ⟨64, [(0, .ref 0 0 0 7 ((((((((((((x4.set x3.toNat (({ v8 with fKind := x2 } : T_impl_Bond)))).set x3.toNat (({ v10 with fIn := (w64 (x2 + 1)) } : T_impl_Bond)))).set x3.toNat (({ v12 with fList := v14.2 } : T_impl_Bond)))).set x3.toNat (({ v16 with fOf := v14.1 } : T_impl_Bond)))).set x3.toNat (({ v18 with fTo := v20.2 } : T_impl_Bond)))).set x3.toNat (({ v22 with fFollow := (((v20.1.tmod 3)) == 0) } : T_impl_Bond)))).length false), (1, I v20.1), (5, I x3), (51, B ((((v20.1.tmod 3)) == 0)))], [some ⟨0, dL ((((((((((((x4.set x3.toNat (({ v8 with fKind := x2 } : T_impl_Bond)))).set x3.toNat (({ v10 with fIn := (w64 (x2 + 1)) } : T_impl_Bond)))).set x3.toNat (({ v12 with fList := v14.2 } : T_impl_Bond)))).set x3.toNat (({ v16 with fOf := v14.1 } : T_impl_Bond)))).set x3.toNat (({ v18 with fTo := v20.2 } : T_impl_Bond)))).set x3.toNat (({ v22 with fFollow := (((v20.1.tmod 3)) == 0) } : T_impl_Bond))))⟩, some ⟨2, []⟩, some ⟨2, []⟩]⟩) 0 ((((((((((((x4.set x3.toNat (({ v8 with fKind := x2 } : T_impl_Bond)))).set x3.toNat (({ v10 with fIn := (w64 (x2 + 1)) } : T_impl_Bond)))).set x3.toNat (({ v12 with fList := v14.2 } : T_impl_Bond)))).set x3.toNat (({ v16 with fOf := v14.1 } : T_impl_Bond)))).set x3.toNat (({ v18 with fTo := v20.2 } : T_impl_Bond)))).set x3.toNat (({ v22 with fFollow := (((v20.1.tmod 3)) == 0) } : T_impl_Bond)))).length (renC (ren_ref (List.length_set ..).symm) (renC trivial (renC trivial (renC trivial renC0)))) (by kernel_rfl) ?_
  refine ve 0 64 [(0, .ref 0 0 0 7 ((((((((((((x4.set x3.toNat (({ v8 with fKind := x2 } : T_impl_Bond)))).set x3.toNat (({ v10 with fIn := (w64 (x2 + 1)) } : T_impl_Bond)))).set x3.toNat (({ v12 with fList := v14.2 } : T_impl_Bond)))).set x3.toNat (({ v16 with fOf := v14.1 } : T_impl_Bond)))).set x3.toNat (({ v18 with fTo := v20.2 } : T_impl_Bond)))).set x3.toNat (({ v22 with fFollow := (((v20.1.tmod 3)) == 0) } : T_impl_Bond)))).length false), (1, I v20.1), (5, I x3)] [some ⟨0, dL ((((((((((((x4.set x3.toNat (({ v8 with fKind := x2 } : T_impl_Bond)))).set x3.toNat (({ v10 with fIn := (w64 (x2 + 1)) } : T_impl_Bond)))).set x3.toNat (({ v12 with fList := v14.2 } : T_impl_Bond)))).set x3.toNat (({ v16 with fOf := v14.1 } : T_impl_Bond)))).set x3.toNat (({ v18 with fTo := v20.2 } : T_impl_Bond)))).set x3.toNat (({ v22 with fFollow := (((v20.1.tmod 3)) == 0) } : T_impl_Bond))))⟩, some ⟨2, []⟩, some ⟨2, []⟩] ?_
  refine srve 64 [(0, .ref 0 0 0 7 ((((((((((((x4.set x3.toNat (({ v8 with fKind := x2 } : T_impl_Bond)))).set x3.toNat (({ v10 with fIn := (w64 (x2 + 1)) } : T_impl_Bond)))).set x3.toNat (({ v12 with fList := v14.2 } : T_impl_Bond)))).set x3.toNat (({ v16 with fOf := v14.1 } : T_impl_Bond)))).set x3.toNat (({ v18 with fTo := v20.2 } : T_impl_Bond)))).set x3.toNat (({ v22 with fFollow := (((v20.1.tmod 3)) == 0) } : T_impl_Bond)))).length false), (1, I ((w64 (v20.1 + 1)))), (5, I x3)] [some ⟨0, dL ((((((((((((x4.set x3.toNat (({ v8 with fKind := x2 } : T_impl_Bond)))).set x3.toNat (({ v10 with fIn := (w64 (x2 + 1)) } : T_impl_Bond)))).set x3.toNat (({ v12 with fList := v14.2 } : T_impl_Bond)))).set x3.toNat (({ v16 with fOf := v14.1 } : T_impl_Bond)))).set x3.toNat (({ v18 with fTo := v20.2 } : T_impl_Bond)))).set x3.toNat (({ v22 with fFollow := (((v20.1.tmod 3)) == 0) } : T_impl_Bond))))⟩, some ⟨2, []⟩, some ⟨2, []⟩] ?_
  refine rv 2 64 [(0, .ref 0 0 0 7 ((((((((((((x4.set x3.toNat (({ v8 with fKind := x2 } : T_impl_Bond)))).set x3.toNat (({ v10 with fIn := (w64 (x2 + 1)) } : T_impl_Bond)))).set x3.toNat (({ v12 with fList := v14.2 } : T_impl_Bond)))).set x3.toNat (({ v16 with fOf := v14.1 } : T_impl_Bond)))).set x3.toNat (({ v18 with fTo := v20.2 } : T_impl_Bond)))).set x3.toNat (({ v22 with fFollow := (((v20.1.tmod 3)) == 0) } : T_impl_Bond)))).length false), (1, I ((w64 (v20.1 + 1)))), (5, I x3), (56, .ref 0 0 0 7 ((((((((((((x4.set x3.toNat (({ v8 with fKind := x2 } : T_impl_Bond)))).set x3.toNat (({ v10 with fIn := (w64 (x2 + 1)) } : T_impl_Bond)))).set x3.toNat (({ v12 with fList := v14.2 } : T_impl_Bond)))).set x3.toNat (({ v16 with fOf := v14.1 } : T_impl_Bond)))).set x3.toNat (({ v18 with fTo := v20.2 } : T_impl_Bond)))).set x3.toNat (({ v22 with fFollow := (((v20.1.tmod 3)) == 0) } : T_impl_Bond)))).length false), (57, I x3)] [some ⟨0, dL ((((((((((((x4.set x3.toNat (({ v8 with fKind := x2 } : T_impl_Bond)))).set x3.toNat (({ v10 with fIn := (w64 (x2 + 1)) } : T_impl_Bond)))).set x3.toNat (({ v12 with fList := v14.2 } : T_impl_Bond)))).set x3.toNat (({ v16 with fOf := v14.1 } : T_impl_Bond)))).set x3.toNat (({ v18 with fTo := v20.2 } : T_impl_Bond)))).set x3.toNat (({ v22 with fFollow := (((v20.1.tmod 3)) == 0) } : T_impl_Bond))))⟩, some ⟨2, []⟩, some ⟨2, []⟩] ?_
  obtain ⟨v24, hv25, h⟩ := bindS h
  refine opsP_idr τ_ok 58 0 0 ((((((((((((x4.set x3.toNat (({ v8 with fKind := x2 } : T_impl_Bond)))).set x3.toNat (({ v10 with fIn := (w64 (x2 + 1)) } : T_impl_Bond)))).set x3.toNat (({ v12 with fList := v14.2 } : T_impl_Bond)))).set x3.toNat (({ v16 with fOf := v14.1 } : T_impl_Bond)))).set x3.toNat (({ v18 with fTo := v20.2 } : T_impl_Bond)))).set x3.toNat (({ v22 with fFollow := (((v20.1.tmod 3)) == 0) } : T_impl_Bond)))).length hv25 rfl (by kernel_rfl) ?_
  refine v 1 64 [(0, .ref 0 0 0 7 ((((((((((((x4.set x3.toNat (({ v8 with fKind := x2 } : T_impl_Bond)))).set x3.toNat (({ v10 with fIn := (w64 (x2 + 1)) } : T_impl_Bond)))).set x3.toNat (({ v12 with fList := v14.2 } : T_impl_Bond)))).set x3.toNat (({ v16 with fOf := v14.1 } : T_impl_Bond)))).set x3.toNat (({ v18 with fTo := v20.2 } : T_impl_Bond)))).set x3.toNat (({ v22 with fFollow := (((v20.1.tmod 3)) == 0) } : T_impl_Bond)))).length false), (1, I ((w64 (v20.1 + 1)))), (5, I x3), (59, .ptr 0 0 (x3.toNat * 7 + 6))] [some ⟨0, dL ((((((((((((x4.set x3.toNat (({ v8 with fKind := x2 } : T_impl_Bond)))).set x3.toNat (({ v10 with fIn := (w64 (x2 + 1)) } : T_impl_Bond)))).set x3.toNat (({ v12 with fList := v14.2 } : T_impl_Bond)))).set x3.toNat (({ v16 with fOf := v14.1 } : T_impl_Bond)))).set x3.toNat (({ v18 with fTo := v20.2 } : T_impl_Bond)))).set x3.toNat (({ v22 with fFollow := (((v20.1.tmod 3)) == 0) } : T_impl_Bond))))⟩, some ⟨2, []⟩, some ⟨2, []⟩] ?_
  refine opsP_imp (Imp.to (st' := ⟨64, [(0, .ref 0 0 0 7 ((((((((((((x4.set x3.toNat (({ v8 with fKind := x2 } : T_impl_Bond)))).set x3.toNat (({ v10 with fIn := (w64 (x2 + 1)) } : T_impl_Bond)))).set x3.toNat (({ v12 with fList := v14.2 } : T_impl_Bond)))).set x3.toNat (({ v16 with fOf := v14.1 } : T_impl_Bond)))).set x3.toNat (({ v18 with fTo := v20.2 } : T_impl_Bond)))).set x3.toNat (({ v22 with fFollow := (((v20.1.tmod 3)) == 0) } : T_impl_Bond)))).length false), (1, I ((w64 (v20.1 + 1)))), (5, I x3), (59, .ptr 0 0 (x3.toNat * 7 + 6))], [some ⟨0, dL ((((((((((((x4.set x3.toNat (({ v8 with fKind := x2 } : T_impl_Bond)))).set x3.toNat (({ v10 with fIn := (w64 (x2 + 1)) } : T_impl_Bond)))).set x3.toNat (({ v12 with fList := v14.2 } : T_impl_Bond)))).set x3.toNat (({ v16 with fOf := v14.1 } : T_impl_Bond)))).set x3.toNat (({ v18 with fTo := v20.2 } : T_impl_Bond)))).set x3.toNat (({ v22 with fFollow := (((v20.1.tmod 3)) == 0) } : T_impl_Bond))))⟩, some ⟨2, []⟩, some ⟨2, []⟩]⟩) [0, 1, 5, 59] (by kernel_rfl)) ?_
  refine opsP_imp (Imp.ghosts 1 (st' := ⟨64, [(0, .ref 0 0 0 7 ((((((((((((x4.set x3.toNat (({ v8 with fKind := x2 } : T_impl_Bond)))).set x3.toNat (({ v10 with fIn := (w64 (x2 + 1)) } : T_impl_Bond)))).set x3.toNat (({ v12 with fList := v14.2 } : T_impl_Bond)))).set x3.toNat (({ v16 with fOf := v14.1 } : T_impl_Bond)))).set x3.toNat (({ v18 with fTo := v20.2 } : T_impl_Bond)))).set x3.toNat (({ v22 with fFollow := (((v20.1.tmod 3)) == 0) } : T_impl_Bond)))).length false), (1, I ((w64 (v20.1 + 1)))), (5, I x3), (59, .ptr 0 0 (x3.toNat * 7 + 6))], [some ⟨0, dL ((((((((((((x4.set x3.toNat (({ v8 with fKind := x2 } : T_impl_Bond)))).set x3.toNat (({ v10 with fIn := (w64 (x2 + 1)) } : T_impl_Bond)))).set x3.toNat (({ v12 with fList := v14.2 } : T_impl_Bond)))).set x3.toNat (({ v16 with fOf := v14.1 } : T_impl_Bond)))).set x3.toNat (({ v18 with fTo := v20.2 } : T_impl_Bond)))).set x3.toNat (({ v22 with fFollow := (((v20.1.tmod 3)) == 0) } : T_impl_Bond))))⟩, some ⟨2, []⟩, some ⟨2, []⟩, some ⟨0, []⟩]⟩) (by kernel_rfl)) ?_
  refine opsP_E (dd := some 60) (x := .ref 3 1 0 5 v24.fE.length false) (CoreE.pre (H1 := [some ⟨0, setL (dL ((((((((((((x4.set x3.toNat (({ v8 with fKind := x2 } : T_impl_Bond)))).set x3.toNat (({ v10 with fIn := (w64 (x2 + 1)) } : T_impl_Bond)))).set x3.toNat (({ v12 with fList := v14.2 } : T_impl_Bond)))).set x3.toNat (({ v16 with fOf := v14.1 } : T_impl_Bond)))).set x3.toNat (({ v18 with fTo := v20.2 } : T_impl_Bond)))).set x3.toNat (({ v22 with fFollow := (((v20.1.tmod 3)) == 0) } : T_impl_Bond))))) (x3.toNat * 7 + 6) [.ref 3 1 0 5 v24.fE.length false]⟩, some ⟨2, []⟩, some ⟨2, []⟩, some ⟨1, eL v24.fE⟩]) (HStep.openL (cs0 := []) (xs := (((((((((((x4.set x3.toNat (({ v8 with fKind := x2 } : T_impl_Bond)))).set x3.toNat (({ v10 with fIn := (w64 (x2 + 1)) } : T_impl_Bond)))).set x3.toNat (({ v12 with fList := v14.2 } : T_impl_Bond)))).set x3.toNat (({ v16 with fOf := v14.1 } : T_impl_Bond)))).set x3.toNat (({ v18 with fTo := v20.2 } : T_impl_Bond)))).set x3.toNat (({ v22 with fFollow := (((v20.1.tmod 3)) == 0) } : T_impl_Bond)))) (s := 5) (n := v24.fE.length) (f := false) (cs := eL v24.fE) 0 0 3 0 6 hv25 (by kernel_rfl) (by kernel_rfl) (by kernel_rfl) (by kernel_rfl) (by decide) (fun _ _ => by decide) (by kernel_rfl)) (ldo_E (xs := (((((((((((x4.set x3.toNat (({ v8 with fKind := x2 } : T_impl_Bond)))).set x3.toNat (({ v10 with fIn := (w64 (x2 + 1)) } : T_impl_Bond)))).set x3.toNat (({ v12 with fList := v14.2 } : T_impl_Bond)))).set x3.toNat (({ v16 with fOf := v14.1 } : T_impl_Bond)))).set x3.toNat (({ v18 with fTo := v20.2 } : T_impl_Bond)))).set x3.toNat (({ v22 with fFollow := (((v20.1.tmod 3)) == 0) } : T_impl_Bond)))) τ_ok 60 65 6 hv25 (by kernel_rfl) (by kernel_rfl) (by kernel_rfl))) ?_
  refine v 1 64 [(0, .ref 0 0 0 7 ((((((((((((x4.set x3.toNat (({ v8 with fKind := x2 } : T_impl_Bond)))).set x3.toNat (({ v10 with fIn := (w64 (x2 + 1)) } : T_impl_Bond)))).set x3.toNat (({ v12 with fList := v14.2 } : T_impl_Bond)))).set x3.toNat (({ v16 with fOf := v14.1 } : T_impl_Bond)))).set x3.toNat (({ v18 with fTo := v20.2 } : T_impl_Bond)))).set x3.toNat (({ v22 with fFollow := (((v20.1.tmod 3)) == 0) } : T_impl_Bond)))).length false), (5, I x3), (60, .ref 3 1 0 5 v24.fE.length false), (61, I ((w64 (v20.1 + 1))))] [some ⟨0, setL (dL ((((((((((((x4.set x3.toNat (({ v8 with fKind := x2 } : T_impl_Bond)))).set x3.toNat (({ v10 with fIn := (w64 (x2 + 1)) } : T_impl_Bond)))).set x3.toNat (({ v12 with fList := v14.2 } : T_impl_Bond)))).set x3.toNat (({ v16 with fOf := v14.1 } : T_impl_Bond)))).set x3.toNat (({ v18 with fTo := v20.2 } : T_impl_Bond)))).set x3.toNat (({ v22 with fFollow := (((v20.1.tmod 3)) == 0) } : T_impl_Bond))))) (x3.toNat * 7 + 6) [.ref 3 1 0 5 v24.fE.length false]⟩, some ⟨2, []⟩, some ⟨2, []⟩, some ⟨1, eL v24.fE⟩] ?_
  obtain ⟨v26, hv27, h⟩ := bindS h
  refine opsP_E (dd := some 62) (x := I v26.1) ((callD_E τ 62 3 1 (ok_laws_markPartS hv27) (by kernel_rfl)).then (H2 := [some ⟨0, dL ((((((((((((((x4.set x3.toNat (({ v8 with fKind := x2 } : T_impl_Bond)))).set x3.toNat (({ v10 with fIn := (w64 (x2 + 1)) } : T_impl_Bond)))).set x3.toNat (({ v12 with fList := v14.2 } : T_impl_Bond)))).set x3.toNat (({ v16 with fOf := v14.1 } : T_impl_Bond)))).set x3.toNat (({ v18 with fTo := v20.2 } : T_impl_Bond)))).set x3.toNat (({ v22 with fFollow := (((v20.1.tmod 3)) == 0) } : T_impl_Bond)))).set x3.toNat (({ v24 with fE := v26.2 } : T_impl_Bond))))⟩, some ⟨2, []⟩, some ⟨2, []⟩, some ⟨2, []⟩]) (HStep.nestL (xs := (((((((((((x4.set x3.toNat (({ v8 with fKind := x2 } : T_impl_Bond)))).set x3.toNat (({ v10 with fIn := (w64 (x2 + 1)) } : T_impl_Bond)))).set x3.toNat (({ v12 with fList := v14.2 } : T_impl_Bond)))).set x3.toNat (({ v16 with fOf := v14.1 } : T_impl_Bond)))).set x3.toNat (({ v18 with fTo := v20.2 } : T_impl_Bond)))).set x3.toNat (({ v22 with fFollow := (((v20.1.tmod 3)) == 0) } : T_impl_Bond)))) (vs := [.ref 3 1 0 5 v24.fE.length false]) 0 0 6 (({ v24 with fE := v26.2 } : T_impl_Bond)) hv25 (by kernel_rfl) (OutL.cons (OutP.listn (v := 1) (xs := v26.2) (len_laws_markPartS hv27) (by kernel_rfl)) (OutL.nil _)) (by decide) (by decide) (fun _ _ => by decide) (by kernel_rfl) (by kernel_rfl) (by kernel_rfl) (by kernel_rfl))) ?_
  refine opsP_imp (Imp.to (st' := ⟨64, [(0, .ref 0 0 0 7 ((((((((((((x4.set x3.toNat (({ v8 with fKind := x2 } : T_impl_Bond)))).set x3.toNat (({ v10 with fIn := (w64 (x2 + 1)) } : T_impl_Bond)))).set x3.toNat (({ v12 with fList := v14.2 } : T_impl_Bond)))).set x3.toNat (({ v16 with fOf := v14.1 } : T_impl_Bond)))).set x3.toNat (({ v18 with fTo := v20.2 } : T_impl_Bond)))).set x3.toNat (({ v22 with fFollow := (((v20.1.tmod 3)) == 0) } : T_impl_Bond)))).length false), (5, I x3), (61, I ((w64 (v20.1 + 1)))), (62, I v26.1)], [some ⟨0, dL ((((((((((((((x4.set x3.toNat (({ v8 with fKind := x2 } : T_impl_Bond)))).set x3.toNat (({ v10 with fIn := (w64 (x2 + 1)) } : T_impl_Bond)))).set x3.toNat (({ v12 with fList := v14.2 } : T_impl_Bond)))).set x3.toNat (({ v16 with fOf := v14.1 } : T_impl_Bond)))).set x3.toNat (({ v18 with fTo := v20.2 } : T_impl_Bond)))).set x3.toNat (({ v22 with fFollow := (((v20.1.tmod 3)) == 0) } : T_impl_Bond)))).set x3.toNat (({ v24 with fE := v26.2 } : T_impl_Bond))))⟩, some ⟨2, []⟩, some ⟨2, []⟩, some ⟨2, []⟩]⟩) [0, 5, 61, 62] (by kernel_rfl)) ?_
  refine opsP_ren (st' := ⟨64, [(0, .ref 0 0 0 7 ((((((((((((((x4.set x3.toNat (({ v8 with fKind := x2 } : T_impl_Bond)))).set x3.toNat (({ v10 with fIn := (w64 (x2 + 1)) } : T_impl_Bond)))).set x3.toNat (({ v12 with fList := v14.2 } : T_impl_Bond)))).set x3.toNat (({ v16 with fOf := v14.1 } : T_impl_Bond)))).set x3.toNat (({ v18 with fTo := v20.2 } : T_impl_Bond)))).set x3.toNat (({ v22 with fFollow := (((v20.1.tmod 3)) == 0) } : T_impl_Bond)))).set x3.toNat (({ v24 with fE := v26.2 } : T_impl_Bond)))).length false), (5, I x3), (61, I ((w64 (v20.1 + 1)))), (62, I v26.1)], [some ⟨0, dL ((((((((((((((x4.set x3.toNat (({ v8 with fKind := x2 } : T_impl_Bond)))).set x3.toNat (({ v10 with fIn := (w64 (x2 + 1)) } : T_impl_Bond)))).set x3.toNat (({ v12 with fList := v14.2 } : T_impl_Bond)))).set x3.toNat (({ v16 with fOf := v14.1 } : T_impl_Bond)))).set x3.toNat (({ v18 with fTo := v20.2 } : T_impl_Bond)))).set x3.toNat (({ v22 with fFollow := (((v20.1.tmod 3)) == 0) } : T_impl_Bond)))).set x3.toNat (({ v24 with fE := v26.2 } : T_impl_Bond))))⟩, some ⟨2, []⟩, some ⟨2, []⟩, some ⟨2, []⟩]⟩) 0 ((((((((((((((x4.set x3.toNat (({ v8 with fKind := x2 } : T_impl_Bond)))).set x3.toNat (({ v10 with fIn := (w64 (x2 + 1)) } : T_impl_Bond)))).set x3.toNat (({ v12 with fList := v14.2 } : T_impl_Bond)))).set x3.toNat (({ v16 with fOf := v14.1 } : T_impl_Bond)))).set x3.toNat (({ v18 with fTo := v20.2 } : T_impl_Bond)))).set x3.toNat (({ v22 with fFollow := (((v20.1.tmod 3)) == 0) } : T_impl_Bond)))).set x3.toNat (({ v24 with fE := v26.2 } : T_impl_Bond)))).length (renC (ren_ref (List.length_set ..).symm) (renC trivial (renC trivial (renC trivial renC0)))) (by kernel_rfl) ?_
  refine ve 1 64 [(0, .ref 0 0 0 7 ((((((((((((((x4.set x3.toNat (({ v8 with fKind := x2 } : T_impl_Bond)))).set x3.toNat (({ v10 with fIn := (w64 (x2 + 1)) } : T_impl_Bond)))).set x3.toNat (({ v12 with fList := v14.2 } : T_impl_Bond)))).set x3.toNat (({ v16 with fOf := v14.1 } : T_impl_Bond)))).set x3.toNat (({ v18 with fTo := v20.2 } : T_impl_Bond)))).set x3.toNat (({ v22 with fFollow := (((v20.1.tmod 3)) == 0) } : T_impl_Bond)))).set x3.toNat (({ v24 with fE := v26.2 } : T_impl_Bond)))).length false), (1, I v26.1), (5, I x3)] [some ⟨0, dL ((((((((((((((x4.set x3.toNat (({ v8 with fKind := x2 } : T_impl_Bond)))).set x3.toNat (({ v10 with fIn := (w64 (x2 + 1)) } : T_impl_Bond)))).set x3.toNat (({ v12 with fList := v14.2 } : T_impl_Bond)))).set x3.toNat (({ v16 with fOf := v14.1 } : T_impl_Bond)))).set x3.toNat (({ v18 with fTo := v20.2 } : T_impl_Bond)))).set x3.toNat (({ v22 with fFollow := (((v20.1.tmod 3)) == 0) } : T_impl_Bond)))).set x3.toNat (({ v24 with fE := v26.2 } : T_impl_Bond))))⟩, some ⟨2, []⟩, some ⟨2, []⟩, some ⟨2, []⟩] ?_
  refine rve 64 [(0, .ref 0 0 0 7 ((((((((((((((x4.set x3.toNat (({ v8 with fKind := x2 } : T_impl_Bond)))).set x3.toNat (({ v10 with fIn := (w64 (x2 + 1)) } : T_impl_Bond)))).set x3.toNat (({ v12 with fList := v14.2 } : T_impl_Bond)))).set x3.toNat (({ v16 with fOf := v14.1 } : T_impl_Bond)))).set x3.toNat (({ v18 with fTo := v20.2 } : T_impl_Bond)))).set x3.toNat (({ v22 with fFollow := (((v20.1.tmod 3)) == 0) } : T_impl_Bond)))).set x3.toNat (({ v24 with fE := v26.2 } : T_impl_Bond)))).length false), (1, I v26.1), (5, I ((w64 (x3 + 1))))] [some ⟨0, dL ((((((((((((((x4.set x3.toNat (({ v8 with fKind := x2 } : T_impl_Bond)))).set x3.toNat (({ v10 with fIn := (w64 (x2 + 1)) } : T_impl_Bond)))).set x3.toNat (({ v12 with fList := v14.2 } : T_impl_Bond)))).set x3.toNat (({ v16 with fOf := v14.1 } : T_impl_Bond)))).set x3.toNat (({ v18 with fTo := v20.2 } : T_impl_Bond)))).set x3.toNat (({ v22 with fFollow := (((v20.1.tmod 3)) == 0) } : T_impl_Bond)))).set x3.toNat (({ v24 with fE := v26.2 } : T_impl_Bond))))⟩, some ⟨2, []⟩, some ⟨2, []⟩, some ⟨2, []⟩] ?_
  exact ⟨(f5, v26.1, (w64 (x3 + 1)), (((((((((((((x4.set x3.toNat (({ v8 with fKind := x2 } : T_impl_Bond)))).set x3.toNat (({ v10 with fIn := (w64 (x2 + 1)) } : T_impl_Bond)))).set x3.toNat (({ v12 with fList := v14.2 } : T_impl_Bond)))).set x3.toNat (({ v16 with fOf := v14.1 } : T_impl_Bond)))).set x3.toNat (({ v18 with fTo := v20.2 } : T_impl_Bond)))).set x3.toNat (({ v22 with fFollow := (((v20.1.tmod 3)) == 0) } : T_impl_Bond)))).set x3.toNat (({ v24 with fE := v26.2 } : T_impl_Bond)))), h, Nat.lt_succ_self _, (Imp.to (st' := ⟨64, [(0, .ref 0 0 0 7 ((((((((((((((x4.set x3.toNat (({ v8 with fKind := x2 } : T_impl_Bond)))).set x3.toNat (({ v10 with fIn := (w64 (x2 + 1)) } : T_impl_Bond)))).set x3.toNat (({ v12 with fList := v14.2 } : T_impl_Bond)))).set x3.toNat (({ v16 with fOf := v14.1 } : T_impl_Bond)))).set x3.toNat (({ v18 with fTo := v20.2 } : T_impl_Bond)))).set x3.toNat (({ v22 with fFollow := (((v20.1.tmod 3)) == 0) } : T_impl_Bond)))).set x3.toNat (({ v24 with fE := v26.2 } : T_impl_Bond)))).length false), (1, I v26.1), (5, I ((w64 (x3 + 1))))], [some ⟨0, dL ((((((((((((((x4.set x3.toNat (({ v8 with fKind := x2 } : T_impl_Bond)))).set x3.toNat (({ v10 with fIn := (w64 (x2 + 1)) } : T_impl_Bond)))).set x3.toNat (({ v12 with fList := v14.2 } : T_impl_Bond)))).set x3.toNat (({ v16 with fOf := v14.1 } : T_impl_Bond)))).set x3.toNat (({ v18 with fTo := v20.2 } : T_impl_Bond)))).set x3.toNat (({ v22 with fFollow := (((v20.1.tmod 3)) == 0) } : T_impl_Bond)))).set x3.toNat (({ v24 with fE := v26.2 } : T_impl_Bond))))⟩, some ⟨2, []⟩, some ⟨2, []⟩, some ⟨2, []⟩]⟩) [0, 1, 5] (by kernel_rfl)).trans ((Imp.truncS (st' := ⟨64, [(0, .ref 0 0 0 7 ((((((((((((((x4.set x3.toNat (({ v8 with fKind := x2 } : T_impl_Bond)))).set x3.toNat (({ v10 with fIn := (w64 (x2 + 1)) } : T_impl_Bond)))).set x3.toNat (({ v12 with fList := v14.2 } : T_impl_Bond)))).set x3.toNat (({ v16 with fOf := v14.1 } : T_impl_Bond)))).set x3.toNat (({ v18 with fTo := v20.2 } : T_impl_Bond)))).set x3.toNat (({ v22 with fFollow := (((v20.1.tmod 3)) == 0) } : T_impl_Bond)))).set x3.toNat (({ v24 with fE := v26.2 } : T_impl_Bond)))).length false), (1, I v26.1), (5, I ((w64 (x3 + 1))))], [some ⟨0, dL ((((((((((((((x4.set x3.toNat (({ v8 with fKind := x2 } : T_impl_Bond)))).set x3.toNat (({ v10 with fIn := (w64 (x2 + 1)) } : T_impl_Bond)))).set x3.toNat (({ v12 with fList := v14.2 } : T_impl_Bond)))).set x3.toNat (({ v16 with fOf := v14.1 } : T_impl_Bond)))).set x3.toNat (({ v18 with fTo := v20.2 } : T_impl_Bond)))).set x3.toNat (({ v22 with fFollow := (((v20.1.tmod 3)) == 0) } : T_impl_Bond)))).set x3.toNat (({ v24 with fE := v26.2 } : T_impl_Bond))))⟩]⟩) 1 (fun _ _ => by decide) (by kernel_rfl) (allBelow_mem (by exact (And.intro rfl (And.intro rfl (And.intro rfl trivial))))) (by exact (And.intro (dL_below _ _) trivial)) (by kernel_rfl)).trans (Imp.to [0, 1, 5] (by kernel_rfl)))⟩
  refine pwp_exit ?_
  refine srve 64 [(4, I x2)] [some ⟨0, dL x4⟩] ?_
  have h := si h
  subst h
  exact pwp_ret ⟨.inr rfl, 0, by kernel_rfl, by kernel_rfl⟩
def laws_markChange (a0 : T_impl_Change) (a1 : Int) : Option Int := (laws_markValueS a0.fRow a1).bind fun v1 => some v1.1
theorem ok_laws_markChange {a0 : T_impl_Change} {a1 : Int} {y : Int} (h : laws_markChange a0 a1 = some y) : OKm Tryz.prog 23 [.agg (DEnc.cells a0), I a1] (I y) := by
  refine OKm_of_pwp (sl := [.agg [I a0.fIn, .ref 0 0 0 3 a0.fRow.length false, B a0.fCome], I a1]) (bs := [⟨0, eL a0.fRow⟩]) τ_ok Tryz.func23 rfl (by kernel_rfl) rfl (by kernel_rfl) fun Γ hX => ?_
  refine pwp_imp (Imp.to (st' := ⟨10, [(0, .agg [I a0.fIn, .ref 0 0 0 3 a0.fRow.length false, B a0.fCome]), (1, I a1)], [some ⟨0, eL a0.fRow⟩]⟩) [0, 1] (by kernel_rfl)) ?_
  unfold laws_markChange at h
  refine srveM [2] 10 [(1, I a1), (2, .ptr 1 0 0)] [some ⟨0, eL a0.fRow⟩, some ⟨0, [I a0.fIn, .ref 0 0 0 3 a0.fRow.length false, B a0.fCome]⟩] ?_
  refine srvM [2] 3 10 [(6, .ref 0 0 0 3 a0.fRow.length false), (7, I a1)] [some ⟨0, eL a0.fRow⟩, some ⟨0, [I a0.fIn, .ref 0 0 0 3 a0.fRow.length false, B a0.fCome]⟩] ?_
  obtain ⟨v1, hv2, h⟩ := bindS h
  refine opsP_E (dd := some 8) (x := I v1.1) (callD_E τ 8 0 0 (ok_laws_markValueS hv2) (by kernel_rfl)) ?_
  refine opsP_imp (Imp.to (st' := ⟨10, [(6, .ref 0 0 0 3 a0.fRow.length false), (7, I a1), (8, I v1.1)], [some ⟨0, eL v1.2⟩, some ⟨0, [I a0.fIn, .ref 0 0 0 3 a0.fRow.length false, B a0.fCome]⟩]⟩) [6, 7, 8] (by kernel_rfl)) ?_
  refine opsP_ren (st' := ⟨10, [(6, .ref 0 0 0 3 v1.2.length false), (7, I a1), (8, I v1.1)], [some ⟨0, eL v1.2⟩, some ⟨0, [I a0.fIn, .ref 0 0 0 3 a0.fRow.length false, B a0.fCome]⟩]⟩) 0 v1.2.length (renC (ren_ref (len_laws_markValueS hv2).symm) (renC trivial (renC trivial renC0))) (by kernel_rfl) ?_
  refine veM [2] 1 10 [(1, I v1.1)] [some ⟨0, eL v1.2⟩, some ⟨0, [I a0.fIn, .ref 0 0 0 3 a0.fRow.length false, B a0.fCome]⟩] ?_
  refine srveM [2] 10 [(4, I v1.1)] [some ⟨0, eL v1.2⟩, some ⟨0, [I a0.fIn, .ref 0 0 0 3 a0.fRow.length false, B a0.fCome]⟩] ?_
  cases h
  exact pwp_ret rz
def laws_szPartS_l0 (a0 : List T_laws_Part) : Nat → Int → Int → Option Int
  | 0, _, _ => none
  | f4 + 1, x2, x3 => bif (decide (x3 < ((a0.length : Int)))) then (getI a0 x3).bind fun v7 => (laws_szPart v7 x2).bind fun v9 => bif (decide (v9 < 0)) then some (-1) else (laws_szPartS_l0 a0 f4) v9 ((w64 (x3 + 1))) else some x2
def laws_szPartS (a0 : List T_laws_Part) (a1 : Int) : Option Int := bif (decide (((w64 (a1 - ((a0.length : Int))))) < 0)) then some (-1) else laws_szPartS_l0 a0 FUEL ((w64 (a1 - ((a0.length : Int))))) 0
theorem ok_laws_szPartS {a0 : List T_laws_Part} {a1 : Int} {y : Int} (h : laws_szPartS a0 a1 = some y) : OK Tryz.prog 28 [A a0, I a1] (I y) := by
  refine OK_of_pwp τ_ok Tryz.func28 rfl (by kernel_rfl) rfl fun Γ hX => ?_
  unfold laws_szPartS at h
  refine srve 27 [(0, A a0), (1, I a1)] [] ?_
  refine srve 27 [(0, A a0), (1, I ((w64 (a1 - ((a0.length : Int))))))] [] ?_
  refine pwp_seq ?_
  refine srve 27 [(0, A a0), (1, I ((w64 (a1 - ((a0.length : Int)))))), (11, B ((decide (((w64 (a1 - ((a0.length : Int))))) < 0))))] [] ?_
  refine pc h (fun h => ?_) (fun h => ?_)
  refine srve 27 [(4, I (-1))] [] ?_
  cases h
  exact pwp_ret rz
  refine pwp_skip ?_
  refine pwp_seq ?_
  refine srve 27 [(0, A a0), (1, I ((w64 (a1 - ((a0.length : Int)))))), (5, I 0)] [] ?_
  refine pwp_block ?_
  refine pwp_loop (ι := Nat × Int × Int) (fun (f4, x2, x3) => (⟨27, [(0, A a0), (1, I x2), (5, I x3)], []⟩ : St)) (fun (f4, x2, x3) => laws_szPartS_l0 a0 f4 x2 x3 = some y) (fun (f4, x2, x3) => f4) (FUEL, (w64 (a1 - ((a0.length : Int)))), 0) h ((Imp.to (st' := ⟨27, [(0, A a0), (1, I ((w64 (a1 - ((a0.length : Int)))))), (5, I 0)], []⟩) [0, 1, 5] (by kernel_rfl)).trans (Imp.to [0, 1, 5] (by kernel_rfl))) ?_
  rintro ⟨f4, x2, x3⟩ h
  dsimp only at h ⊢
  rcases f4 with _ | f4
  cases h
  rw [laws_szPartS_l0] at h
  refine pwp_seq ?_
  refine srve 27 [(0, A a0), (1, I x2), (5, I x3), (15, B ((decide (x3 < ((a0.length : Int))))))] [] ?_
  refine pc h (fun h => ?_) (fun h => ?_)
  refine pwp_skip ?_
  refine pwp_seq ?_
  refine pwp_block ?_
  refine srv 2 27 [(0, A a0), (1, I x2), (5, I x3), (18, A a0), (19, I x3)] [] ?_
  obtain ⟨v7, hv8, h⟩ := bindS h
  refine opsP_idx τ_ok 20 hv8 (by kernel_rfl) ?_
  refine v 2 27 [(0, A a0), (5, I x3), (21, E v7), (22, I x2)] [] ?_
  obtain ⟨v9, hv10, h⟩ := bindS h
  refine opsP_callF τ 23 (ok_laws_szPart hv10) (FzTo.frz rfl) rfl (by kernel_rfl) ?_
  refine ve 1 27 [(0, A a0), (1, I v9), (5, I x3)] [] ?_
  refine srve 27 [(0, A a0), (1, I v9), (5, I x3), (25, B ((decide (v9 < 0))))] [] ?_
  refine pc h (fun h => ?_) (fun h => ?_)
  refine srve 27 [(4, I (-1))] [] ?_
  cases h
  exact pwp_ret rz
  refine pwp_skip ?_
  refine rve 27 [(0, A a0), (1, I v9), (5, I ((w64 (x3 + 1))))] [] ?_
  exact ⟨(f4, v9, (w64 (x3 + 1))), h, Nat.lt_succ_self _, (Imp.to (st' := ⟨27, [(0, A a0), (1, I v9), (5, I ((w64 (x3 + 1))))], []⟩) [0, 1, 5] (by kernel_rfl)).trans (Imp.to [0, 1, 5] (by kernel_rfl))⟩
  refine pwp_exit ?_
  refine srve 27 [(4, I x2)] [] ?_
  cases h
  exact pwp_ret rz
def laws_toPartS_l0 (a0 : List T_laws_Part) : Nat → Int → (List T_impl_Part) → Option (List T_impl_Part)
  | 0, _, _ => none
  | f6 + 1, x4, x5 => bif (decide (x4 < ((a0.length : Int)))) then (getI a0 x4).bind fun v9 => (laws_toPart v9).bind fun v11 => (getI x5 x4).bind fun v13 => (laws_toPartS_l0 a0 f6) ((w64 (x4 + 1))) ((x5.set x4.toNat v11)) else some x5
def laws_toPartS (a0 : List T_laws_Part) : Option (List T_impl_Part) := (mkI ((a0.length : Int)) ((T_impl_Part.mk 0 0 (T_impl_Value.mk 0 0 (ByteArray.mk #[]))))).bind fun v1 => laws_toPartS_l0 a0 FUEL 0 v1
theorem ok_laws_toPartS {a0 : List T_laws_Part} {y : List T_impl_Part} (h : laws_toPartS a0 = some y) : OK Tryz.prog 32 [A a0] (O y) := by
  refine OK_of_pwp τ_ok Tryz.func32 rfl (by kernel_rfl) rfl fun Γ hX => ?_
  unfold laws_toPartS at h
  refine srve 23 [(0, A a0)] [] ?_
  refine srv 2 23 [(0, A a0), (6, I ((a0.length : Int)))] [] ?_
  obtain ⟨v1, hv2, h⟩ := bindS h
  refine opsP_mk τ_ok 7 0 _ hv2 (by kernel_rfl) (by kernel_rfl) ?_
  refine ve 1 23 [(0, A a0), (3, .ref 0 0 0 5 v1.length false)] [some ⟨0, eL v1⟩] ?_
  refine pwp_seq ?_
  refine srve 23 [(0, A a0), (3, .ref 0 0 0 5 v1.length false), (4, I 0)] [some ⟨0, eL v1⟩] ?_
  refine pwp_block ?_
  refine pwp_loop (ι := Nat × Int × (List T_impl_Part)) (fun (f6, x4, x5) => (⟨23, [(0, A a0), (3, .ref 0 0 0 5 x5.length false), (4, I x4)], [some ⟨0, eL x5⟩]⟩ : St)) (fun (f6, x4, x5) => laws_toPartS_l0 a0 f6 x4 x5 = some y) (fun (f6, x4, x5) => f6) (FUEL, 0, v1) h ((Imp.to (st' := ⟨23, [(0, A a0), (3, .ref 0 0 0 5 v1.length false), (4, I 0)], [some ⟨0, eL v1⟩]⟩) [0, 3, 4] (by kernel_rfl)).trans (Imp.to [0, 3, 4] (by kernel_rfl))) ?_
  rintro ⟨f6, x4, x5⟩ h
  dsimp only at h ⊢
  rcases f6 with _ | f6
  cases h
  rw [laws_toPartS_l0] at h
  refine pwp_seq ?_
  refine srve 23 [(0, A a0), (3, .ref 0 0 0 5 x5.length false), (4, I x4), (11, B ((decide (x4 < ((a0.length : Int))))))] [some ⟨0, eL x5⟩] ?_
  refine pc h (fun h => ?_) (fun h => ?_)
  refine pwp_skip ?_
  refine pwp_seq ?_
  refine pwp_block ?_
  refine rv 4 23 [(0, A a0), (3, .ref 0 0 0 5 x5.length false), (4, I x4), (14, .ref 0 0 0 5 x5.length false), (15, I x4), (16, A a0), (17, I x4)] [some ⟨0, eL x5⟩] ?_
  obtain ⟨v9, hv10, h⟩ := bindS h
  refine opsP_idx τ_ok 18 hv10 (by kernel_rfl) ?_
  refine v 1 23 [(0, A a0), (3, .ref 0 0 0 5 x5.length false), (4, I x4), (14, .ref 0 0 0 5 x5.length false), (15, I x4), (19, E v9)] [some ⟨0, eL x5⟩] ?_
  obtain ⟨v11, hv12, h⟩ := bindS h
  refine opsP_callF τ 20 (ok_laws_toPart hv12) (FzTo.frz rfl) rfl (by kernel_rfl) ?_
  obtain ⟨v13, hv14, h⟩ := bindS h
  refine opsP_idr τ_ok 21 0 0 x5.length hv14 rfl (by kernel_rfl) ?_
  refine v 0 23 [(0, A a0), (3, .ref 0 0 0 5 x5.length false), (4, I x4), (20, E v11), (21, .ptr 0 0 (x4.toNat * 5))] [some ⟨0, eL x5⟩] ?_
  refine opsP_ste (vs := [I v11.fKind, I v11.fN, I v11.fV.fKind, I v11.fV.fN, S v11.fV.fS]) τ_ok 119 0 0 0 v11 hv14 (by kernel_rfl) (by kernel_rfl) (by kernel_rfl) (renC trivial (renC (ren_ref (List.length_set ..).symm) (renC trivial (renC trivial (renC trivial renC0))))) ?_
  refine ve 0 23 [(0, A a0), (3, .ref 0 0 0 5 ((x5.set x4.toNat v11)).length false), (4, I x4)] [some ⟨0, eL ((x5.set x4.toNat v11))⟩] ?_
  refine rve 23 [(0, A a0), (3, .ref 0 0 0 5 ((x5.set x4.toNat v11)).length false), (4, I ((w64 (x4 + 1))))] [some ⟨0, eL ((x5.set x4.toNat v11))⟩] ?_
  exact ⟨(f6, (w64 (x4 + 1)), (x5.set x4.toNat v11)), h, Nat.lt_succ_self _, (Imp.to (st' := ⟨23, [(0, A a0), (3, .ref 0 0 0 5 ((x5.set x4.toNat v11)).length false), (4, I ((w64 (x4 + 1))))], [some ⟨0, eL ((x5.set x4.toNat v11))⟩]⟩) [0, 3, 4] (by kernel_rfl)).trans (Imp.to [0, 3, 4] (by kernel_rfl))⟩
  refine pwp_exit ?_
  refine srve 23 [(2, .ref 0 0 0 5 x5.length false)] [some ⟨0, eL x5⟩] ?_
  have h := si h
  subst h
  exact pwp_ret (rt (.ref 0 0 0 5 x5.length false) (OutP.list (v := 0) (by kernel_rfl)))
def laws_szValueSS_l0 (a0 : List (List T_laws_Value)) : Nat → Int → Int → Option Int
  | 0, _, _ => none
  | f4 + 1, x2, x3 => bif (decide (x3 < ((a0.length : Int)))) then (getI a0 x3).bind fun v7 => (laws_szValueS v7 x2).bind fun v9 => bif (decide (v9 < 0)) then some (-1) else (laws_szValueSS_l0 a0 f4) v9 ((w64 (x3 + 1))) else some x2
def laws_szValueSS (a0 : List (List T_laws_Value)) (a1 : Int) : Option Int := bif (decide (((w64 (a1 - ((a0.length : Int))))) < 0)) then some (-1) else laws_szValueSS_l0 a0 FUEL ((w64 (a1 - ((a0.length : Int))))) 0
theorem ok_laws_szValueSS {a0 : List (List T_laws_Value)} {a1 : Int} {y : Int} (h : laws_szValueSS a0 a1 = some y) : OK Tryz.prog 46 [A a0, I a1] (I y) := by
  refine OK_of_pwp τ_ok Tryz.func46 rfl (by kernel_rfl) rfl fun Γ hX => ?_
  unfold laws_szValueSS at h
  refine srve 27 [(0, A a0), (1, I a1)] [] ?_
  refine srve 27 [(0, A a0), (1, I ((w64 (a1 - ((a0.length : Int))))))] [] ?_
  refine pwp_seq ?_
  refine srve 27 [(0, A a0), (1, I ((w64 (a1 - ((a0.length : Int)))))), (11, B ((decide (((w64 (a1 - ((a0.length : Int))))) < 0))))] [] ?_
  refine pc h (fun h => ?_) (fun h => ?_)
  refine srve 27 [(4, I (-1))] [] ?_
  cases h
  exact pwp_ret rz
  refine pwp_skip ?_
  refine pwp_seq ?_
  refine srve 27 [(0, A a0), (1, I ((w64 (a1 - ((a0.length : Int)))))), (5, I 0)] [] ?_
  refine pwp_block ?_
  refine pwp_loop (ι := Nat × Int × Int) (fun (f4, x2, x3) => (⟨27, [(0, A a0), (1, I x2), (5, I x3)], []⟩ : St)) (fun (f4, x2, x3) => laws_szValueSS_l0 a0 f4 x2 x3 = some y) (fun (f4, x2, x3) => f4) (FUEL, (w64 (a1 - ((a0.length : Int)))), 0) h ((Imp.to (st' := ⟨27, [(0, A a0), (1, I ((w64 (a1 - ((a0.length : Int)))))), (5, I 0)], []⟩) [0, 1, 5] (by kernel_rfl)).trans (Imp.to [0, 1, 5] (by kernel_rfl))) ?_
  rintro ⟨f4, x2, x3⟩ h
  dsimp only at h ⊢
  rcases f4 with _ | f4
  cases h
  rw [laws_szValueSS_l0] at h
  refine pwp_seq ?_
  refine srve 27 [(0, A a0), (1, I x2), (5, I x3), (15, B ((decide (x3 < ((a0.length : Int))))))] [] ?_
  refine pc h (fun h => ?_) (fun h => ?_)
  refine pwp_skip ?_
  refine pwp_seq ?_
  refine pwp_block ?_
  refine srv 2 27 [(0, A a0), (1, I x2), (5, I x3), (18, A a0), (19, I x3)] [] ?_
  obtain ⟨v7, hv8, h⟩ := bindS h
  refine opsP_idx τ_ok 20 hv8 (by kernel_rfl) ?_
  refine v 2 27 [(0, A a0), (5, I x3), (21, A v7), (22, I x2)] [] ?_
  obtain ⟨v9, hv10, h⟩ := bindS h
  refine opsP_callF τ 23 (ok_laws_szValueS hv10) (FzTo.frz rfl) rfl (by kernel_rfl) ?_
  refine ve 1 27 [(0, A a0), (1, I v9), (5, I x3)] [] ?_
  refine srve 27 [(0, A a0), (1, I v9), (5, I x3), (25, B ((decide (v9 < 0))))] [] ?_
  refine pc h (fun h => ?_) (fun h => ?_)
  refine srve 27 [(4, I (-1))] [] ?_
  cases h
  exact pwp_ret rz
  refine pwp_skip ?_
  refine rve 27 [(0, A a0), (1, I v9), (5, I ((w64 (x3 + 1))))] [] ?_
  exact ⟨(f4, v9, (w64 (x3 + 1))), h, Nat.lt_succ_self _, (Imp.to (st' := ⟨27, [(0, A a0), (1, I v9), (5, I ((w64 (x3 + 1))))], []⟩) [0, 1, 5] (by kernel_rfl)).trans (Imp.to [0, 1, 5] (by kernel_rfl))⟩
  refine pwp_exit ?_
  refine srve 27 [(4, I x2)] [] ?_
  cases h
  exact pwp_ret rz
def laws_szTable (a0 : T_laws_Table) (a1 : Int) : Option Int := (laws_szColumnS a0.fColumns a1).bind fun v1 => bif (decide (v1 < 0)) then some (-1) else (laws_szValueSS a0.fRows v1).bind fun v4 => bif (decide (v4 < 0)) then some (-1) else some v4
theorem ok_laws_szTable {a0 : T_laws_Table} {a1 : Int} {y : Int} (h : laws_szTable a0 a1 = some y) : OK Tryz.prog 57 [E a0, I a1] (I y) := by
  refine OK_of_pwp τ_ok Tryz.func57 rfl (by kernel_rfl) rfl fun Γ hX => ?_
  unfold laws_szTable at h
  refine srve 18 [(1, I a1), (2, .fptr (Enc.cells a0) 0)] [] ?_
  refine srv 3 18 [(2, .fptr (Enc.cells a0) 0), (6, A a0.fColumns), (7, I a1)] [] ?_
  obtain ⟨v1, hv2, h⟩ := bindS h
  refine opsP_callF τ 8 (ok_laws_szColumnS hv2) (FzTo.frz rfl) rfl (by kernel_rfl) ?_
  refine ve 1 18 [(1, I v1), (2, .fptr (Enc.cells a0) 0)] [] ?_
  refine pwp_seq ?_
  refine srve 18 [(1, I v1), (2, .fptr (Enc.cells a0) 0), (10, B ((decide (v1 < 0))))] [] ?_
  refine pc h (fun h => ?_) (fun h => ?_)
  refine srve 18 [(4, I (-1))] [] ?_
  cases h
  exact pwp_ret rz
  refine pwp_skip ?_
  refine srv 3 18 [(12, A a0.fRows), (13, I v1)] [] ?_
  obtain ⟨v4, hv5, h⟩ := bindS h
  refine opsP_callF τ 14 (ok_laws_szValueSS hv5) (FzTo.frz rfl) rfl (by kernel_rfl) ?_
  refine ve 1 18 [(1, I v4)] [] ?_
  refine pwp_seq ?_
  refine srve 18 [(1, I v4), (16, B ((decide (v4 < 0))))] [] ?_
  refine pc h (fun h => ?_) (fun h => ?_)
  refine srve 18 [(4, I (-1))] [] ?_
  cases h
  exact pwp_ret rz
  refine pwp_skip ?_
  refine srve 18 [(4, I v4)] [] ?_
  cases h
  exact pwp_ret rz
def laws_szBond (a0 : T_laws_Bond) (a1 : Int) : Option Int := (laws_szIntS a0.fList a1).bind fun v1 => bif (decide (v1 < 0)) then some (-1) else (laws_szIntS a0.fTo v1).bind fun v4 => bif (decide (v4 < 0)) then some (-1) else (laws_szPartS a0.fE v4).bind fun v7 => bif (decide (v7 < 0)) then some (-1) else some v7
theorem ok_laws_szBond {a0 : T_laws_Bond} {a1 : Int} {y : Int} (h : laws_szBond a0 a1 = some y) : OK Tryz.prog 58 [E a0, I a1] (I y) := by
  refine OK_of_pwp τ_ok Tryz.func58 rfl (by kernel_rfl) rfl fun Γ hX => ?_
  unfold laws_szBond at h
  refine srve 24 [(1, I a1), (2, .fptr (Enc.cells a0) 0)] [] ?_
  refine srv 3 24 [(2, .fptr (Enc.cells a0) 0), (6, A a0.fList), (7, I a1)] [] ?_
  obtain ⟨v1, hv2, h⟩ := bindS h
  refine opsP_callF τ 8 (ok_laws_szIntS hv2) (FzTo.frz rfl) rfl (by kernel_rfl) ?_
  refine ve 1 24 [(1, I v1), (2, .fptr (Enc.cells a0) 0)] [] ?_
  refine pwp_seq ?_
  refine srve 24 [(1, I v1), (2, .fptr (Enc.cells a0) 0), (10, B ((decide (v1 < 0))))] [] ?_
  refine pc h (fun h => ?_) (fun h => ?_)
  refine srve 24 [(4, I (-1))] [] ?_
  cases h
  exact pwp_ret rz
  refine pwp_skip ?_
  refine srv 3 24 [(2, .fptr (Enc.cells a0) 0), (12, A a0.fTo), (13, I v1)] [] ?_
  obtain ⟨v4, hv5, h⟩ := bindS h
  refine opsP_callF τ 14 (ok_laws_szIntS hv5) (FzTo.frz rfl) rfl (by kernel_rfl) ?_
  refine ve 1 24 [(1, I v4), (2, .fptr (Enc.cells a0) 0)] [] ?_
  refine pwp_seq ?_
  refine srve 24 [(1, I v4), (2, .fptr (Enc.cells a0) 0), (16, B ((decide (v4 < 0))))] [] ?_
  refine pc h (fun h => ?_) (fun h => ?_)
  refine srve 24 [(4, I (-1))] [] ?_
  cases h
  exact pwp_ret rz
  refine pwp_skip ?_
  refine srv 3 24 [(18, A a0.fE), (19, I v4)] [] ?_
  obtain ⟨v7, hv8, h⟩ := bindS h
  refine opsP_callF τ 20 (ok_laws_szPartS hv8) (FzTo.frz rfl) rfl (by kernel_rfl) ?_
  refine ve 1 24 [(1, I v7)] [] ?_
  refine pwp_seq ?_
  refine srve 24 [(1, I v7), (22, B ((decide (v7 < 0))))] [] ?_
  refine pc h (fun h => ?_) (fun h => ?_)
  refine srve 24 [(4, I (-1))] [] ?_
  cases h
  exact pwp_ret rz
  refine pwp_skip ?_
  refine srve 24 [(4, I v7)] [] ?_
  cases h
  exact pwp_ret rz
def impl_rowAt (a0 : List (List T_impl_Value)) (a1 : List T_impl_Value) : Option Int := (slices_IndexFunc_impl_Value_impl_Value_s3 a0 (fun z0 => impl_rowAt_1 z0 a1)).bind fun v1 => some v1
theorem ok_impl_rowAt {a0 : List (List T_impl_Value)} {a1 : List T_impl_Value} {y : Int} (h : impl_rowAt a0 a1 = some y) : OK Tryz.prog 117 [A a0, A a1] (I y) := by
  refine OK_of_pwp τ_ok Tryz.func117 rfl (by kernel_rfl) rfl fun Γ hX => ?_
  unfold impl_rowAt at h
  refine srve 8 [(0, A a0), (3, .fptr (Enc.cells a1) 0)] [] ?_
  refine srv 2 8 [(5, A a0), (6, .fn 150 [.fptr (Enc.cells a1) 0])] [] ?_
  obtain ⟨v1, hv2, h⟩ := bindS h
  refine opsP_callF τ 7 (ok_slices_IndexFunc_impl_Value_impl_Value_s3 (rfl) (fun _ w hw => ok_impl_rowAt_1 hw) hv2) (FzTo.frz rfl) rfl (by kernel_rfl) ?_
  refine ve 1 8 [(4, I v1)] [] ?_
  cases h
  exact pwp_ret rz
def spec_l4Step_j1 (a1 : List Int) (a2 : T_impl_Part) (x4 : Bool) : Option ((List Int) × Bool) := bif x4 then some (a1, false) else (app a1 (([a2.fV.fKind] : List Int))).bind fun v6 => some (v6, true)
def spec_l4Step_j2 (a1 : List Int) (x20 : Bool) : Option ((List Int) × Bool) := (slI a1 none (some ((maxL ((w64 (((a1.length : Int)) - 2))) [0]))) none).bind fun v21 => (appT a1 (([1] : List Int)) v21.length).bind fun v23 => some (v23, x20)
def spec_l4Step_j3 (a1 : List Int) (x32 : Bool) : Option ((List Int) × Bool) := (slI a1 none (some ((maxL ((w64 (((a1.length : Int)) - 2))) [0]))) none).bind fun v33 => (appT a1 (([3] : List Int)) v33.length).bind fun v35 => some (v35, x32)
def spec_l4Step_j5 (a1 : List Int) (x47 : Bool) : Option ((List Int) × Bool) := (slI a1 none (some ((maxL ((w64 (((a1.length : Int)) - 2))) [0]))) none).bind fun v48 => (appT a1 (([3] : List Int)) v48.length).bind fun v50 => some (v50, x47)
def spec_l4Step_j4 (a1 : List Int) (a2 : T_impl_Part) (x45 : Bool) : Option ((List Int) × Bool) := bif x45 then bif (decide (((a1.length : Int)) > 1)) then (getI a1 ((w64 (((a1.length : Int)) - 1)))).bind fun v52 => bif (v52 == 3) then (getI a1 ((w64 (((a1.length : Int)) - 2)))).bind fun v54 => spec_l4Step_j5 a1 ((v54 == 3)) else spec_l4Step_j5 a1 false else spec_l4Step_j5 a1 false else bif (a2.fKind == 7) then bif (decide (((a1.length : Int)) > 0)) then (getI a1 ((w64 (((a1.length : Int)) - 1)))).bind fun v59 => some (a1, (v59 == 3)) else some (a1, false) else bif (a2.fKind == 8) then (slI a1 none (some ((maxL ((w64 (((a1.length : Int)) - 1))) [0]))) none).bind fun v63 => (appT a1 (([3] : List Int)) v63.length).bind fun v65 => some (v65, (decide (((a1.length : Int)) > 0))) else some (a1, false)
def spec_l4Step_j0 (a0 : List T_impl_Column) (a1 : List Int) (a2 : T_impl_Part) (x1 : Bool) : Option ((List Int) × Bool) := bif x1 then some (a1, false) else bif (a2.fKind == 1) then (spec_ValueOk a2.fV).bind fun v8 => bif (!v8) then spec_l4Step_j1 a1 a2 true else spec_l4Step_j1 a1 a2 ((a2.fV.fKind == 0)) else bif (a2.fKind == 2) then (spec_l1In a2.fN 0 ((w64 (((a0.length : Int)) - 1)))).bind fun v12 => bif (!v12) then some (a1, false) else (getI a0 a2.fN).bind fun v15 => (app a1 (([v15.fKind] : List Int))).bind fun v17 => some (v17, true) else bif (a2.fKind == 3) then bif (decide (((a1.length : Int)) > 1)) then (getI a1 ((w64 (((a1.length : Int)) - 1)))).bind fun v25 => bif (v25 == 1) then (getI a1 ((w64 (((a1.length : Int)) - 2)))).bind fun v27 => spec_l4Step_j2 a1 ((v27 == 1)) else spec_l4Step_j2 a1 false else spec_l4Step_j2 a1 false else bif (a2.fKind == 4) then bif (decide (((a1.length : Int)) > 1)) then (getI a1 ((w64 (((a1.length : Int)) - 1)))).bind fun v37 => (getI a1 ((w64 (((a1.length : Int)) - 2)))).bind fun v39 => bif (v37 == v39) then (spec_l1In a2.fN 1 4).bind fun v41 => spec_l4Step_j3 a1 v41 else spec_l4Step_j3 a1 false else spec_l4Step_j3 a1 false else bif (a2.fKind == 5) then spec_l4Step_j4 a1 a2 ((a2.fKind == 5)) else spec_l4Step_j4 a1 a2 ((a2.fKind == 6))
def spec_l4Step (a0 : List T_impl_Column) (a1 : List Int) (a2 : T_impl_Part) : Option ((List Int) × Bool) := bif (!(a2.fKind == 1)) then bif (!(eq_T_impl_Value a2.fV ((T_impl_Value.mk 0 0 (ByteArray.mk #[]))))) then spec_l4Step_j0 a0 a1 a2 true else bif (!(a2.fKind == 2)) then bif (!(a2.fKind == 4)) then spec_l4Step_j0 a0 a1 a2 ((!(a2.fN == 0))) else spec_l4Step_j0 a0 a1 a2 false else spec_l4Step_j0 a0 a1 a2 false else bif (!(a2.fKind == 2)) then bif (!(a2.fKind == 4)) then spec_l4Step_j0 a0 a1 a2 ((!(a2.fN == 0))) else spec_l4Step_j0 a0 a1 a2 false else spec_l4Step_j0 a0 a1 a2 false
end Go.D
