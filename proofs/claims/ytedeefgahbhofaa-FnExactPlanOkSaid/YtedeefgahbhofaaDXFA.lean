import Derived.Test.YtedeefgahbhofaaDXT
import Derived.KernelRfl
set_option linter.unusedVariables false
set_option linter.unusedSimpArgs false
namespace Go.D
open Go.Proofs
/- loop.example/tablehouse/spec.l1In -/
def spec_l1In (a0 : Int) (a1 : Int) (a2 : Int) : Option Bool := bif (decide (a0 ≥ a1)) then some ((decide (a0 ≤ a2))) else some false
theorem ok_spec_l1In {a0 : Int} {a1 : Int} {a2 : Int} {y : Bool} (h : spec_l1In a0 a1 a2 = some y) : OK Try.prog 30 [I a0, I a1, I a2] (B y) := by
  refine OK_of_pwp τ_ok Try.func30 rfl (by kernel_rfl) rfl fun Γ hX => ?_
  unfold spec_l1In at h
  refine pwp_seq ?_
  refine pwp_region ?_
  refine opsP_evk' (st' := ⟨15, [(0, I a0), (1, I a1), (2, I a2)], []⟩) τ_ok [] 1 [0, 1, 2] (by kernel_rfl) ?_
  refine opsP_end rfl ?_
  refine pwp_seq ?_
  refine pwp_region ?_
  refine opsP_evk' (st' := ⟨15, [(0, I a0), (2, I a2), (10, B ((decide (a0 ≥ a1))))], []⟩) τ_ok [] 4 [0, 2, 10] (by kernel_rfl) ?_
  rcases Bool.eq_false_or_eq_true ((decide (a0 ≥ a1))) with hc1 | hc1
  · replace h := bifT hc1 h
    rw [hc1]
    refine opsP_evk' (st' := ⟨15, [(6, B ((decide (a0 ≤ a2))))], []⟩) τ_ok [] 5 [6] (by kernel_rfl) ?_
    refine opsP_end rfl ?_
    have h := Option.some.inj h
    subst h
    exact pwp_ret ⟨.inr rfl, B ((decide (a0 ≤ a2))), _, by kernel_rfl, (OutP.frz (by kernel_rfl)), by decide⟩
  · replace h := bifF hc1 h
    rw [hc1]
    refine opsP_evk' (st' := ⟨15, [(6, B false)], []⟩) τ_ok [] 5 [6] (by kernel_rfl) ?_
    refine opsP_end rfl ?_
    have h := Option.some.inj h
    subst h
    exact pwp_ret ⟨.inr rfl, B false, _, by kernel_rfl, (OutP.frz (by kernel_rfl)), by decide⟩

/- loop.example/tablehouse/laws.eqColumn -/
def laws_eqColumn (a0 : T_impl_Column) (a1 : T_impl_Column) : Option Bool := bif (!(a0.fKind == a1.fKind)) then some false else bif (!(a0.fEmpty == a1.fEmpty)) then some false else some true
theorem ok_laws_eqColumn {a0 : T_impl_Column} {a1 : T_impl_Column} {y : Bool} (h : laws_eqColumn a0 a1 = some y) : OK Try.prog 37 [E a0, E a1] (B y) := by
  refine OK_of_pwp τ_ok Try.func37 rfl (by kernel_rfl) rfl fun Γ hX => ?_
  unfold laws_eqColumn at h
  refine pwp_seq ?_
  refine pwp_region ?_
  refine opsP_evk' (st' := ⟨15, [(2, .fptr (Enc.cells a0) 0), (3, .fptr (Enc.cells a1) 0)], []⟩) τ_ok [] 3 [2, 3] (by kernel_rfl) ?_
  refine opsP_end rfl ?_
  refine pwp_seq ?_
  refine pwp_seq ?_
  refine pwp_region ?_
  refine opsP_evk' (st' := ⟨15, [(2, .fptr (Enc.cells a0) 0), (3, .fptr (Enc.cells a1) 0), (9, B ((!(a0.fKind == a1.fKind))))], []⟩) τ_ok [] 5 [2, 3, 9] (by kernel_rfl) ?_
  refine opsP_end rfl ?_
  refine pwp_cond ((!(a0.fKind == a1.fKind))) (by kernel_rfl) (fun hc1 => ?_) (fun hc1 => ?_)
  · replace h := bifT hc1 h
    refine pwp_seq ?_
    refine pwp_region ?_
    refine opsP_evk' (st' := ⟨15, [(4, B false)], []⟩) τ_ok [] 1 [4] (by kernel_rfl) ?_
    refine opsP_end rfl ?_
    have h := Option.some.inj h
    subst h
    exact pwp_ret ⟨.inr rfl, B false, _, by kernel_rfl, (OutP.frz (by kernel_rfl)), by decide⟩
  · replace h := bifF hc1 h
    refine pwp_skip ?_
    refine pwp_seq ?_
    refine pwp_seq ?_
    refine pwp_region ?_
    refine opsP_evk' (st' := ⟨15, [(14, B ((!(a0.fEmpty == a1.fEmpty))))], []⟩) τ_ok [] 5 [14] (by kernel_rfl) ?_
    refine opsP_end rfl ?_
    refine pwp_cond ((!(a0.fEmpty == a1.fEmpty))) (by kernel_rfl) (fun hc2 => ?_) (fun hc2 => ?_)
    · replace h := bifT hc2 h
      refine pwp_seq ?_
      refine pwp_region ?_
      refine opsP_evk' (st' := ⟨15, [(4, B false)], []⟩) τ_ok [] 1 [4] (by kernel_rfl) ?_
      refine opsP_end rfl ?_
      have h := Option.some.inj h
      subst h
      exact pwp_ret ⟨.inr rfl, B false, _, by kernel_rfl, (OutP.frz (by kernel_rfl)), by decide⟩
    · replace h := bifF hc2 h
      refine pwp_skip ?_
      refine pwp_seq ?_
      refine pwp_region ?_
      refine opsP_evk' (st' := ⟨15, [(4, B true)], []⟩) τ_ok [] 1 [4] (by kernel_rfl) ?_
      refine opsP_end rfl ?_
      have h := Option.some.inj h
      subst h
      exact pwp_ret ⟨.inr rfl, B true, _, by kernel_rfl, (OutP.frz (by kernel_rfl)), by decide⟩

/- loop.example/tablehouse/laws.eqIntS -/
def laws_eqIntS_l0 (a0 : List Int) (a1 : List Int) : Nat → Int → Option Bool
  | 0, _ => none
  | f3 + 1, x2 => bif (decide (x2 < ((a0.length : Int)))) then (getI a0 x2).bind fun v6 => (getI a1 x2).bind fun v8 => bif (!(v6 == v8)) then some false else (laws_eqIntS_l0 a0 a1 f3) ((w64 (x2 + 1))) else some true
def laws_eqIntS (a0 : List Int) (a1 : List Int) : Option Bool := bif (!(((a0.length : Int)) == ((a1.length : Int)))) then some false else laws_eqIntS_l0 a0 a1 FUEL 0
theorem ok_laws_eqIntS {a0 : List Int} {a1 : List Int} {y : Bool} (h : laws_eqIntS a0 a1 = some y) : OK Try.prog 44 [A a0, A a1] (B y) := by
  refine OK_of_pwp τ_ok Try.func44 rfl (by kernel_rfl) rfl fun Γ hX => ?_
  unfold laws_eqIntS at h
  refine pwp_seq ?_
  refine pwp_region ?_
  refine opsP_evk' (st' := ⟨26, [(0, A a0), (1, A a1)], []⟩) τ_ok [] 1 [0, 1] (by kernel_rfl) ?_
  refine opsP_end rfl ?_
  refine pwp_seq ?_
  refine pwp_seq ?_
  refine pwp_region ?_
  refine opsP_evk' (st' := ⟨26, [(0, A a0), (1, A a1), (10, B ((!(((a0.length : Int)) == ((a1.length : Int))))))], []⟩) τ_ok [] 5 [0, 1, 10] (by kernel_rfl) ?_
  refine opsP_end rfl ?_
  refine pwp_cond ((!(((a0.length : Int)) == ((a1.length : Int))))) (by kernel_rfl) (fun hc1 => ?_) (fun hc1 => ?_)
  · replace h := bifT hc1 h
    refine pwp_seq ?_
    refine pwp_region ?_
    refine opsP_evk' (st' := ⟨26, [(4, B false)], []⟩) τ_ok [] 1 [4] (by kernel_rfl) ?_
    refine opsP_end rfl ?_
    have h := Option.some.inj h
    subst h
    exact pwp_ret ⟨.inr rfl, B false, _, by kernel_rfl, (OutP.frz (by kernel_rfl)), by decide⟩
  · replace h := bifF hc1 h
    refine pwp_skip ?_
    refine pwp_seq ?_
    refine pwp_seq ?_
    refine pwp_region ?_
    refine opsP_evk' (st' := ⟨26, [(0, A a0), (1, A a1), (5, I 0)], []⟩) τ_ok [] 1 [0, 1, 5] (by kernel_rfl) ?_
    refine opsP_end rfl ?_
    refine pwp_block ?_
    refine pwp_loop (ι := Nat × Int) (fun (f3, x2) => (⟨26, [(0, A a0), (1, A a1), (5, I x2)], []⟩ : St)) (fun (f3, x2) => laws_eqIntS_l0 a0 a1 f3 x2 = some y) (fun (f3, x2) => f3) (FUEL, 0) h ((Imp.to (st' := ⟨26, [(0, A a0), (1, A a1), (5, I 0)], []⟩) [0, 1, 5] (by kernel_rfl)).trans (Imp.to [0, 1, 5] (by kernel_rfl))) ?_
    rintro ⟨f3, x2⟩ h
    dsimp only at h ⊢
    cases f3 with
    | zero => cases h
    | succ f3 =>
    rw [laws_eqIntS_l0] at h
    refine pwp_seq ?_
    refine pwp_seq ?_
    refine pwp_region ?_
    refine opsP_evk' (st' := ⟨26, [(0, A a0), (1, A a1), (5, I x2), (14, B ((decide (x2 < ((a0.length : Int))))))], []⟩) τ_ok [] 4 [0, 1, 5, 14] (by kernel_rfl) ?_
    refine opsP_end rfl ?_
    refine pwp_cond ((decide (x2 < ((a0.length : Int))))) (by kernel_rfl) (fun hc5 => ?_) (fun hc5 => ?_)
    · replace h := bifT hc5 h
      refine pwp_skip ?_
      refine pwp_seq ?_
      refine pwp_block ?_
      refine pwp_seq ?_
      refine pwp_imp (Imp.to (st' := ⟨26, [(0, A a0), (1, A a1), (5, I x2)], []⟩) [0, 1, 5] (by kernel_rfl)) ?_
      refine pwp_any ([[], [], [], [], [], [], [], [], []]) ([[], [], [], [], [], [], [], [], []]) rfl (by kernel_rfl) ?_
      refine qA_ev (st' := ⟨26, [(18, I x2), (17, A a0), (0, A a0), (1, A a1), (5, I x2)], []⟩) τ_ok [] [] 2 (by exact trivial) (by kernel_rfl) ?_
      obtain ⟨v6, hv7, h⟩ := bindS h
      refine qA_E (dd := some 19) (x := .fptr (Enc.cells v6) 0) ([]) (⟨26, [(19, .fptr (Enc.cells v6) 0), (18, I x2), (17, A a0), (0, A a0), (1, A a1), (5, I x2)], []⟩) (fun Γ' hΓ => CoreE.of_y (idxV_sound τ_ok (by kernel_rfl) hv7)) (by kernel_rfl) (by kernel_rfl) (by exact trivial) (.inr (.inr rfl)) (by kernel_rfl) ?_
      refine qA_ev (st' := ⟨26, [(22, I x2), (21, A a1), (20, I v6), (19, .fptr (Enc.cells v6) 0), (18, I x2), (17, A a0), (0, A a0), (1, A a1), (5, I x2)], []⟩) τ_ok [] [] 3 (by exact trivial) (by kernel_rfl) ?_
      obtain ⟨v8, hv9, h⟩ := bindS h
      refine qA_E (dd := some 23) (x := .fptr (Enc.cells v8) 0) ([]) (⟨26, [(23, .fptr (Enc.cells v8) 0), (22, I x2), (21, A a1), (20, I v6), (19, .fptr (Enc.cells v6) 0), (18, I x2), (17, A a0), (0, A a0), (1, A a1), (5, I x2)], []⟩) (fun Γ' hΓ => CoreE.of_y (idxV_sound τ_ok (by kernel_rfl) hv9)) (by kernel_rfl) (by kernel_rfl) (by exact trivial) (.inr (.inr rfl)) (by kernel_rfl) ?_
      refine qA_ev (st' := ⟨26, [(25, B ((!(v6 == v8)))), (24, I v8), (23, .fptr (Enc.cells v8) 0), (22, I x2), (21, A a1), (20, I v6), (19, .fptr (Enc.cells v6) 0), (18, I x2), (17, A a0), (0, A a0), (1, A a1), (5, I x2)], []⟩) τ_ok [] [] 2 (by exact trivial) (by kernel_rfl) ?_
      refine qA_end ?_
      refine opsP_imp (Imp.to (st' := ⟨26, [(0, A a0), (1, A a1), (5, I x2), (25, B ((!(v6 == v8))))], []⟩) [0, 1, 5, 25] (by kernel_rfl)) ?_
      refine opsP_end rfl ?_
      refine pwp_cond ((!(v6 == v8))) (by kernel_rfl) (fun hc10 => ?_) (fun hc10 => ?_)
      · replace h := bifT hc10 h
        refine pwp_seq ?_
        refine pwp_region ?_
        refine opsP_evk' (st' := ⟨26, [(4, B false)], []⟩) τ_ok [] 1 [4] (by kernel_rfl) ?_
        refine opsP_end rfl ?_
        have h := Option.some.inj h
        subst h
        exact pwp_ret ⟨.inr rfl, B false, _, by kernel_rfl, (OutP.frz (by kernel_rfl)), by decide⟩
      · replace h := bifF hc10 h
        refine pwp_skip ?_
        refine pwp_region ?_
        refine opsP_evk' (st' := ⟨26, [(0, A a0), (1, A a1), (5, I ((w64 (x2 + 1))))], []⟩) τ_ok [] 3 [0, 1, 5] (by kernel_rfl) ?_
        refine opsP_end rfl ?_
        exact ⟨(f3, (w64 (x2 + 1))), h, Nat.lt_succ_self _, (Imp.to (st' := ⟨26, [(0, A a0), (1, A a1), (5, I ((w64 (x2 + 1))))], []⟩) [0, 1, 5] (by kernel_rfl)).trans (Imp.to [0, 1, 5] (by kernel_rfl))⟩
    · replace h := bifF hc5 h
      refine pwp_exit ?_
      refine pwp_seq ?_
      refine pwp_region ?_
      refine opsP_evk' (st' := ⟨26, [(4, B true)], []⟩) τ_ok [] 1 [4] (by kernel_rfl) ?_
      refine opsP_end rfl ?_
      have h := Option.some.inj h
      subst h
      exact pwp_ret ⟨.inr rfl, B true, _, by kernel_rfl, (OutP.frz (by kernel_rfl)), by decide⟩

/- loop.example/tablehouse/laws.szColumnS -/
def laws_szColumnS (a0 : List T_laws_Column) (a1 : Int) : Option Int := bif (decide (((w64 (a1 - ((a0.length : Int))))) < 0)) then some (-1) else some ((w64 (a1 - ((a0.length : Int)))))
theorem ok_laws_szColumnS {a0 : List T_laws_Column} {a1 : Int} {y : Int} (h : laws_szColumnS a0 a1 = some y) : OK Try.prog 50 [A a0, I a1] (I y) := by
  refine OK_of_pwp τ_ok Try.func50 rfl (by kernel_rfl) rfl fun Γ hX => ?_
  unfold laws_szColumnS at h
  refine pwp_seq ?_
  refine pwp_region ?_
  refine opsP_evk' (st' := ⟨12, [(0, A a0), (1, I a1)], []⟩) τ_ok [] 1 [0, 1] (by kernel_rfl) ?_
  refine opsP_end rfl ?_
  refine pwp_seq ?_
  refine pwp_region ?_
  refine opsP_evk' (st' := ⟨12, [(1, I ((w64 (a1 - ((a0.length : Int))))))], []⟩) τ_ok [] 5 [1] (by kernel_rfl) ?_
  refine opsP_end rfl ?_
  refine pwp_seq ?_
  refine pwp_seq ?_
  refine pwp_region ?_
  refine opsP_evk' (st' := ⟨12, [(1, I ((w64 (a1 - ((a0.length : Int)))))), (10, B ((decide (((w64 (a1 - ((a0.length : Int))))) < 0))))], []⟩) τ_ok [] 2 [1, 10] (by kernel_rfl) ?_
  refine opsP_end rfl ?_
  refine pwp_cond ((decide (((w64 (a1 - ((a0.length : Int))))) < 0))) (by kernel_rfl) (fun hc1 => ?_) (fun hc1 => ?_)
  · replace h := bifT hc1 h
    refine pwp_seq ?_
    refine pwp_region ?_
    refine opsP_evk' (st' := ⟨12, [(4, I (-1))], []⟩) τ_ok [] 1 [4] (by kernel_rfl) ?_
    refine opsP_end rfl ?_
    have h := Option.some.inj h
    subst h
    exact pwp_ret ⟨.inr rfl, I (-1), _, by kernel_rfl, (OutP.frz (by kernel_rfl)), by decide⟩
  · replace h := bifF hc1 h
    refine pwp_skip ?_
    refine pwp_seq ?_
    refine pwp_region ?_
    refine opsP_evk' (st' := ⟨12, [(4, I ((w64 (a1 - ((a0.length : Int))))))], []⟩) τ_ok [] 2 [4] (by kernel_rfl) ?_
    refine opsP_end rfl ?_
    have h := Option.some.inj h
    subst h
    exact pwp_ret ⟨.inr rfl, I ((w64 (a1 - ((a0.length : Int))))), _, by kernel_rfl, (OutP.frz (by kernel_rfl)), by decide⟩

/- loop.example/tablehouse/laws.szIntS -/
def laws_szIntS (a0 : List Int) (a1 : Int) : Option Int := bif (decide (((w64 (a1 - ((a0.length : Int))))) < 0)) then some (-1) else some ((w64 (a1 - ((a0.length : Int)))))
theorem ok_laws_szIntS {a0 : List Int} {a1 : Int} {y : Int} (h : laws_szIntS a0 a1 = some y) : OK Try.prog 53 [A a0, I a1] (I y) := by
  refine OK_of_pwp τ_ok Try.func53 rfl (by kernel_rfl) rfl fun Γ hX => ?_
  unfold laws_szIntS at h
  refine pwp_seq ?_
  refine pwp_region ?_
  refine opsP_evk' (st' := ⟨12, [(0, A a0), (1, I a1)], []⟩) τ_ok [] 1 [0, 1] (by kernel_rfl) ?_
  refine opsP_end rfl ?_
  refine pwp_seq ?_
  refine pwp_region ?_
  refine opsP_evk' (st' := ⟨12, [(1, I ((w64 (a1 - ((a0.length : Int))))))], []⟩) τ_ok [] 5 [1] (by kernel_rfl) ?_
  refine opsP_end rfl ?_
  refine pwp_seq ?_
  refine pwp_seq ?_
  refine pwp_region ?_
  refine opsP_evk' (st' := ⟨12, [(1, I ((w64 (a1 - ((a0.length : Int)))))), (10, B ((decide (((w64 (a1 - ((a0.length : Int))))) < 0))))], []⟩) τ_ok [] 2 [1, 10] (by kernel_rfl) ?_
  refine opsP_end rfl ?_
  refine pwp_cond ((decide (((w64 (a1 - ((a0.length : Int))))) < 0))) (by kernel_rfl) (fun hc1 => ?_) (fun hc1 => ?_)
  · replace h := bifT hc1 h
    refine pwp_seq ?_
    refine pwp_region ?_
    refine opsP_evk' (st' := ⟨12, [(4, I (-1))], []⟩) τ_ok [] 1 [4] (by kernel_rfl) ?_
    refine opsP_end rfl ?_
    have h := Option.some.inj h
    subst h
    exact pwp_ret ⟨.inr rfl, I (-1), _, by kernel_rfl, (OutP.frz (by kernel_rfl)), by decide⟩
  · replace h := bifF hc1 h
    refine pwp_skip ?_
    refine pwp_seq ?_
    refine pwp_region ?_
    refine opsP_evk' (st' := ⟨12, [(4, I ((w64 (a1 - ((a0.length : Int))))))], []⟩) τ_ok [] 2 [4] (by kernel_rfl) ?_
    refine opsP_end rfl ?_
    have h := Option.some.inj h
    subst h
    exact pwp_ret ⟨.inr rfl, I ((w64 (a1 - ((a0.length : Int))))), _, by kernel_rfl, (OutP.frz (by kernel_rfl)), by decide⟩

/- loop.example/tablehouse/spec.l6Made -/
def spec_l6Made (a0 : List Int) (a1 : T_impl_Step) : Option Int := bif (a1.fKind == 1) then some 6 else bif (a1.fKind == 4) then (getI a0 a1.fA).bind fun v3 => (getI a0 a1.fB).bind fun v5 => some ((w64 (v3 * v5))) else bif (a1.fKind == 5) then (getI a0 a1.fA).bind fun v8 => (getI a0 a1.fB).bind fun v10 => some ((w64 (v8 + v10))) else (getI a0 a1.fA).bind fun v12 => some v12
theorem ok_spec_l6Made {a0 : List Int} {a1 : T_impl_Step} {y : Int} (h : spec_l6Made a0 a1 = some y) : OK Try.prog 55 [A a0, E a1] (I y) := by
  refine OK_of_pwp τ_ok Try.func55 rfl (by kernel_rfl) rfl fun Γ hX => ?_
  unfold spec_l6Made at h
  refine pwp_seq ?_
  refine pwp_region ?_
  refine opsP_evk' (st' := ⟨40, [(0, A a0), (3, .fptr (Enc.cells a1) 0)], []⟩) τ_ok [] 2 [0, 3] (by kernel_rfl) ?_
  refine opsP_end rfl ?_
  refine pwp_seq ?_
  refine pwp_seq ?_
  refine pwp_region ?_
  refine opsP_evk' (st' := ⟨40, [(0, A a0), (3, .fptr (Enc.cells a1) 0), (6, I a1.fKind)], []⟩) τ_ok [] 2 [0, 3, 6] (by kernel_rfl) ?_
  refine opsP_end rfl ?_
  refine pwp_block ?_
  refine pwp_seq ?_
  refine pwp_region ?_
  refine opsP_evk' (st' := ⟨40, [(0, A a0), (3, .fptr (Enc.cells a1) 0), (6, I a1.fKind), (7, B ((a1.fKind == 1)))], []⟩) τ_ok [] 2 [0, 3, 6, 7] (by kernel_rfl) ?_
  refine opsP_end rfl ?_
  refine pwp_cond ((a1.fKind == 1)) (by kernel_rfl) (fun hc1 => ?_) (fun hc1 => ?_)
  · replace h := bifT hc1 h
    refine pwp_seq ?_
    refine pwp_region ?_
    refine opsP_evk' (st' := ⟨40, [(4, I 6)], []⟩) τ_ok [] 1 [4] (by kernel_rfl) ?_
    refine opsP_end rfl ?_
    have h := Option.some.inj h
    subst h
    exact pwp_ret ⟨.inr rfl, I 6, _, by kernel_rfl, (OutP.frz (by kernel_rfl)), by decide⟩
  · replace h := bifF hc1 h
    refine pwp_seq ?_
    refine pwp_region ?_
    refine opsP_evk' (st' := ⟨40, [(0, A a0), (3, .fptr (Enc.cells a1) 0), (6, I a1.fKind), (9, B ((a1.fKind == 4)))], []⟩) τ_ok [] 2 [0, 3, 6, 9] (by kernel_rfl) ?_
    refine opsP_end rfl ?_
    refine pwp_cond ((a1.fKind == 4)) (by kernel_rfl) (fun hc2 => ?_) (fun hc2 => ?_)
    · replace h := bifT hc2 h
      refine pwp_seq ?_
      refine pwp_imp (Imp.to (st' := ⟨40, [(0, A a0), (3, .fptr (Enc.cells a1) 0)], []⟩) [0, 3] (by kernel_rfl)) ?_
      refine pwp_any ([[], [], [], [], [], [], [], [], [], [], [], []]) ([[], [], [], [], [], [], [], [], [], [], [], []]) rfl (by kernel_rfl) ?_
      refine qA_ev (st' := ⟨40, [(13, I a1.fA), (12, .fptr (Enc.cells a1) 1), (11, A a0), (0, A a0), (3, .fptr (Enc.cells a1) 0)], []⟩) τ_ok [] [] 3 (by exact trivial) (by kernel_rfl) ?_
      obtain ⟨v3, hv4, h⟩ := bindS h
      refine qA_E (dd := some 14) (x := .fptr (Enc.cells v3) 0) ([]) (⟨40, [(14, .fptr (Enc.cells v3) 0), (13, I a1.fA), (12, .fptr (Enc.cells a1) 1), (11, A a0), (0, A a0), (3, .fptr (Enc.cells a1) 0)], []⟩) (fun Γ' hΓ => CoreE.of_y (idxV_sound τ_ok (by kernel_rfl) hv4)) (by kernel_rfl) (by kernel_rfl) (by exact trivial) (.inr (.inr rfl)) (by kernel_rfl) ?_
      refine qA_ev (st' := ⟨40, [(18, I a1.fB), (17, .fptr (Enc.cells a1) 2), (16, A a0), (15, I v3), (14, .fptr (Enc.cells v3) 0), (13, I a1.fA), (12, .fptr (Enc.cells a1) 1), (11, A a0), (0, A a0), (3, .fptr (Enc.cells a1) 0)], []⟩) τ_ok [] [] 4 (by exact trivial) (by kernel_rfl) ?_
      obtain ⟨v5, hv6, h⟩ := bindS h
      refine qA_E (dd := some 19) (x := .fptr (Enc.cells v5) 0) ([]) (⟨40, [(19, .fptr (Enc.cells v5) 0), (18, I a1.fB), (17, .fptr (Enc.cells a1) 2), (16, A a0), (15, I v3), (14, .fptr (Enc.cells v3) 0), (13, I a1.fA), (12, .fptr (Enc.cells a1) 1), (11, A a0), (0, A a0), (3, .fptr (Enc.cells a1) 0)], []⟩) (fun Γ' hΓ => CoreE.of_y (idxV_sound τ_ok (by kernel_rfl) hv6)) (by kernel_rfl) (by kernel_rfl) (by exact trivial) (.inr (.inr rfl)) (by kernel_rfl) ?_
      refine qA_ev (st' := ⟨40, [(4, I ((w64 (v3 * v5)))), (21, I ((w64 (v3 * v5)))), (20, I v5), (19, .fptr (Enc.cells v5) 0), (18, I a1.fB), (17, .fptr (Enc.cells a1) 2), (16, A a0), (15, I v3), (14, .fptr (Enc.cells v3) 0), (13, I a1.fA), (12, .fptr (Enc.cells a1) 1), (11, A a0), (0, A a0), (3, .fptr (Enc.cells a1) 0)], []⟩) τ_ok [] [] 3 (by exact trivial) (by kernel_rfl) ?_
      refine qA_end ?_
      refine opsP_imp (Imp.to (st' := ⟨40, [(4, I ((w64 (v3 * v5))))], []⟩) [4] (by kernel_rfl)) ?_
      refine opsP_end rfl ?_
      have h := Option.some.inj h
      subst h
      exact pwp_ret ⟨.inr rfl, I ((w64 (v3 * v5))), _, by kernel_rfl, (OutP.frz (by kernel_rfl)), by decide⟩
    · replace h := bifF hc2 h
      refine pwp_seq ?_
      refine pwp_region ?_
      refine opsP_evk' (st' := ⟨40, [(0, A a0), (3, .fptr (Enc.cells a1) 0), (22, B ((a1.fKind == 5)))], []⟩) τ_ok [] 2 [0, 3, 22] (by kernel_rfl) ?_
      refine opsP_end rfl ?_
      refine pwp_cond ((a1.fKind == 5)) (by kernel_rfl) (fun hc7 => ?_) (fun hc7 => ?_)
      · replace h := bifT hc7 h
        refine pwp_seq ?_
        refine pwp_imp (Imp.to (st' := ⟨40, [(0, A a0), (3, .fptr (Enc.cells a1) 0)], []⟩) [0, 3] (by kernel_rfl)) ?_
        refine pwp_any ([[], [], [], [], [], [], [], [], [], [], [], []]) ([[], [], [], [], [], [], [], [], [], [], [], []]) rfl (by kernel_rfl) ?_
        refine qA_ev (st' := ⟨40, [(26, I a1.fA), (25, .fptr (Enc.cells a1) 1), (24, A a0), (0, A a0), (3, .fptr (Enc.cells a1) 0)], []⟩) τ_ok [] [] 3 (by exact trivial) (by kernel_rfl) ?_
        obtain ⟨v8, hv9, h⟩ := bindS h
        refine qA_E (dd := some 27) (x := .fptr (Enc.cells v8) 0) ([]) (⟨40, [(27, .fptr (Enc.cells v8) 0), (26, I a1.fA), (25, .fptr (Enc.cells a1) 1), (24, A a0), (0, A a0), (3, .fptr (Enc.cells a1) 0)], []⟩) (fun Γ' hΓ => CoreE.of_y (idxV_sound τ_ok (by kernel_rfl) hv9)) (by kernel_rfl) (by kernel_rfl) (by exact trivial) (.inr (.inr rfl)) (by kernel_rfl) ?_
        refine qA_ev (st' := ⟨40, [(31, I a1.fB), (30, .fptr (Enc.cells a1) 2), (29, A a0), (28, I v8), (27, .fptr (Enc.cells v8) 0), (26, I a1.fA), (25, .fptr (Enc.cells a1) 1), (24, A a0), (0, A a0), (3, .fptr (Enc.cells a1) 0)], []⟩) τ_ok [] [] 4 (by exact trivial) (by kernel_rfl) ?_
        obtain ⟨v10, hv11, h⟩ := bindS h
        refine qA_E (dd := some 32) (x := .fptr (Enc.cells v10) 0) ([]) (⟨40, [(32, .fptr (Enc.cells v10) 0), (31, I a1.fB), (30, .fptr (Enc.cells a1) 2), (29, A a0), (28, I v8), (27, .fptr (Enc.cells v8) 0), (26, I a1.fA), (25, .fptr (Enc.cells a1) 1), (24, A a0), (0, A a0), (3, .fptr (Enc.cells a1) 0)], []⟩) (fun Γ' hΓ => CoreE.of_y (idxV_sound τ_ok (by kernel_rfl) hv11)) (by kernel_rfl) (by kernel_rfl) (by exact trivial) (.inr (.inr rfl)) (by kernel_rfl) ?_
        refine qA_ev (st' := ⟨40, [(4, I ((w64 (v8 + v10)))), (34, I ((w64 (v8 + v10)))), (33, I v10), (32, .fptr (Enc.cells v10) 0), (31, I a1.fB), (30, .fptr (Enc.cells a1) 2), (29, A a0), (28, I v8), (27, .fptr (Enc.cells v8) 0), (26, I a1.fA), (25, .fptr (Enc.cells a1) 1), (24, A a0), (0, A a0), (3, .fptr (Enc.cells a1) 0)], []⟩) τ_ok [] [] 3 (by exact trivial) (by kernel_rfl) ?_
        refine qA_end ?_
        refine opsP_imp (Imp.to (st' := ⟨40, [(4, I ((w64 (v8 + v10))))], []⟩) [4] (by kernel_rfl)) ?_
        refine opsP_end rfl ?_
        have h := Option.some.inj h
        subst h
        exact pwp_ret ⟨.inr rfl, I ((w64 (v8 + v10))), _, by kernel_rfl, (OutP.frz (by kernel_rfl)), by decide⟩
      · replace h := bifF hc7 h
        refine pwp_skip ?_
        refine pwp_seq ?_
        refine pwp_region ?_
        refine opsP_evk' (st' := ⟨40, [(35, A a0), (37, I a1.fA)], []⟩) τ_ok [] 3 [35, 37] (by kernel_rfl) ?_
        obtain ⟨v12, hv13, h⟩ := bindS h
        refine opsP_idx τ_ok 38 hv13 (by kernel_rfl) ?_
        refine opsP_evk' (st' := ⟨40, [(4, I v12)], []⟩) τ_ok [] 2 [4] (by kernel_rfl) ?_
        refine opsP_end rfl ?_
        have h := Option.some.inj h
        subst h
        exact pwp_ret ⟨.inr rfl, I v12, _, by kernel_rfl, (OutP.frz (by kernel_rfl)), by decide⟩

/- loop.example/tablehouse/laws.toIntS -/
def laws_toIntS_l0 (a0 : List Int) : Nat → Int → (List Int) → Option (List Int)
  | 0, _, _ => none
  | f6 + 1, x4, x5 => bif (decide (x4 < ((a0.length : Int)))) then (getI a0 x4).bind fun v9 => (getI x5 x4).bind fun v11 => (laws_toIntS_l0 a0 f6) ((w64 (x4 + 1))) ((x5.set x4.toNat v9)) else some x5
def laws_toIntS (a0 : List Int) : Option (List Int) := (mkI ((a0.length : Int)) ((0 : Int))).bind fun v1 => laws_toIntS_l0 a0 FUEL 0 v1
theorem ok_laws_toIntS {a0 : List Int} {y : List Int} (h : laws_toIntS a0 = some y) : OK Try.prog 60 [A a0] (O y) := by
  refine OK_of_pwp τ_ok Try.func60 rfl (by kernel_rfl) rfl fun Γ hX => ?_
  unfold laws_toIntS at h
  refine pwp_seq ?_
  refine pwp_region ?_
  refine opsP_evk' (st' := ⟨22, [(0, A a0)], []⟩) τ_ok [] 1 [0] (by kernel_rfl) ?_
  refine opsP_end rfl ?_
  refine pwp_seq ?_
  refine pwp_region ?_
  refine opsP_evk' (st' := ⟨22, [(0, A a0), (6, I ((a0.length : Int)))], []⟩) τ_ok [] 2 [0, 6] (by kernel_rfl) ?_
  obtain ⟨v1, hv2, h⟩ := bindS h
  refine opsP_mk τ_ok 7 0 _ hv2 (by kernel_rfl) (by kernel_rfl) ?_
  refine opsP_evk' (st' := ⟨22, [(0, A a0), (3, .ref 0 0 0 1 v1.length false)], [some ⟨0, eL v1⟩]⟩) τ_ok [] 1 [0, 3] (by kernel_rfl) ?_
  refine opsP_end rfl ?_
  refine pwp_seq ?_
  refine pwp_seq ?_
  refine pwp_region ?_
  refine opsP_evk' (st' := ⟨22, [(0, A a0), (3, .ref 0 0 0 1 v1.length false), (4, I 0)], [some ⟨0, eL v1⟩]⟩) τ_ok [] 1 [0, 3, 4] (by kernel_rfl) ?_
  refine opsP_end rfl ?_
  refine pwp_block ?_
  refine pwp_loop (ι := Nat × Int × (List Int)) (fun (f6, x4, x5) => (⟨22, [(0, A a0), (3, .ref 0 0 0 1 x5.length false), (4, I x4)], [some ⟨0, eL x5⟩]⟩ : St)) (fun (f6, x4, x5) => laws_toIntS_l0 a0 f6 x4 x5 = some y) (fun (f6, x4, x5) => f6) (FUEL, 0, v1) h ((Imp.to (st' := ⟨22, [(0, A a0), (3, .ref 0 0 0 1 v1.length false), (4, I 0)], [some ⟨0, eL v1⟩]⟩) [0, 3, 4] (by kernel_rfl)).trans (Imp.to [0, 3, 4] (by kernel_rfl))) ?_
  rintro ⟨f6, x4, x5⟩ h
  dsimp only at h ⊢
  cases f6 with
  | zero => cases h
  | succ f6 =>
  rw [laws_toIntS_l0] at h
  refine pwp_seq ?_
  refine pwp_seq ?_
  refine pwp_region ?_
  refine opsP_evk' (st' := ⟨22, [(0, A a0), (3, .ref 0 0 0 1 x5.length false), (4, I x4), (11, B ((decide (x4 < ((a0.length : Int))))))], [some ⟨0, eL x5⟩]⟩) τ_ok [] 4 [0, 3, 4, 11] (by kernel_rfl) ?_
  refine opsP_end rfl ?_
  refine pwp_cond ((decide (x4 < ((a0.length : Int))))) (by kernel_rfl) (fun hc8 => ?_) (fun hc8 => ?_)
  · replace h := bifT hc8 h
    refine pwp_skip ?_
    refine pwp_seq ?_
    refine pwp_block ?_
    refine pwp_region ?_
    refine opsP_evk' (st' := ⟨22, [(0, A a0), (3, .ref 0 0 0 1 x5.length false), (4, I x4), (14, .ref 0 0 0 1 x5.length false), (15, I x4), (16, A a0), (17, I x4)], [some ⟨0, eL x5⟩]⟩) τ_ok [] 4 [0, 3, 4, 14, 15, 16, 17] (by kernel_rfl) ?_
    obtain ⟨v9, hv10, h⟩ := bindS h
    refine opsP_idx τ_ok 18 hv10 (by kernel_rfl) ?_
    refine opsP_evk' (st' := ⟨22, [(0, A a0), (3, .ref 0 0 0 1 x5.length false), (4, I x4), (14, .ref 0 0 0 1 x5.length false), (15, I x4), (19, I v9)], [some ⟨0, eL x5⟩]⟩) τ_ok [] 1 [0, 3, 4, 14, 15, 19] (by kernel_rfl) ?_
    obtain ⟨v11, hv12, h⟩ := bindS h
    refine opsP_idr τ_ok 20 0 0 x5.length hv12 rfl (by kernel_rfl) ?_
    refine opsP_evk' (st' := ⟨22, [(0, A a0), (3, .ref 0 0 0 1 x5.length false), (4, I x4), (19, I v9), (20, .ptr 0 0 (x4.toNat * 1))], [some ⟨0, eL x5⟩]⟩) τ_ok [] 0 [0, 3, 4, 19, 20] (by kernel_rfl) ?_
    refine opsP_ste (vs := [I v9]) τ_ok 3 0 0 0 v9 hv12 (by kernel_rfl) (by kernel_rfl) (by kernel_rfl) (renC trivial (renC (ren_ref (List.length_set ..).symm) (renC trivial (renC trivial (renC trivial renC0))))) ?_
    refine opsP_evk' (st' := ⟨22, [(0, A a0), (3, .ref 0 0 0 1 ((x5.set x4.toNat v9)).length false), (4, I x4)], [some ⟨0, eL ((x5.set x4.toNat v9))⟩]⟩) τ_ok [] 0 [0, 3, 4] (by kernel_rfl) ?_
    refine opsP_end rfl ?_
    refine pwp_region ?_
    refine opsP_evk' (st' := ⟨22, [(0, A a0), (3, .ref 0 0 0 1 ((x5.set x4.toNat v9)).length false), (4, I ((w64 (x4 + 1))))], [some ⟨0, eL ((x5.set x4.toNat v9))⟩]⟩) τ_ok [] 3 [0, 3, 4] (by kernel_rfl) ?_
    refine opsP_end rfl ?_
    exact ⟨(f6, (w64 (x4 + 1)), (x5.set x4.toNat v9)), h, Nat.lt_succ_self _, (Imp.to (st' := ⟨22, [(0, A a0), (3, .ref 0 0 0 1 ((x5.set x4.toNat v9)).length false), (4, I ((w64 (x4 + 1))))], [some ⟨0, eL ((x5.set x4.toNat v9))⟩]⟩) [0, 3, 4] (by kernel_rfl)).trans (Imp.to [0, 3, 4] (by kernel_rfl))⟩
  · replace h := bifF hc8 h
    refine pwp_exit ?_
    refine pwp_seq ?_
    refine pwp_region ?_
    refine opsP_evk' (st' := ⟨22, [(2, .ref 0 0 0 1 x5.length false)], [some ⟨0, eL x5⟩]⟩) τ_ok [] 2 [2] (by kernel_rfl) ?_
    refine opsP_end rfl ?_
    have h := Option.some.inj h
    subst h
    exact pwp_ret ⟨.inr rfl, .ref 0 0 0 1 x5.length false, _, by kernel_rfl, (OutP.list (v := 0) (by kernel_rfl)), by decide⟩

/- loop.example/tablehouse/impl.between -/
def impl_between (a0 : Int) (a1 : Int) (a2 : Int) : Option Bool := bif (decide (a0 ≥ a1)) then some ((decide (a0 ≤ a2))) else some false
theorem ok_impl_between {a0 : Int} {a1 : Int} {a2 : Int} {y : Bool} (h : impl_between a0 a1 a2 = some y) : OK Try.prog 61 [I a0, I a1, I a2] (B y) := by
  refine OK_of_pwp τ_ok Try.func61 rfl (by kernel_rfl) rfl fun Γ hX => ?_
  unfold impl_between at h
  refine pwp_seq ?_
  refine pwp_region ?_
  refine opsP_evk' (st' := ⟨15, [(0, I a0), (1, I a1), (2, I a2)], []⟩) τ_ok [] 1 [0, 1, 2] (by kernel_rfl) ?_
  refine opsP_end rfl ?_
  refine pwp_seq ?_
  refine pwp_region ?_
  refine opsP_evk' (st' := ⟨15, [(0, I a0), (2, I a2), (10, B ((decide (a0 ≥ a1))))], []⟩) τ_ok [] 4 [0, 2, 10] (by kernel_rfl) ?_
  rcases Bool.eq_false_or_eq_true ((decide (a0 ≥ a1))) with hc1 | hc1
  · replace h := bifT hc1 h
    rw [hc1]
    refine opsP_evk' (st' := ⟨15, [(6, B ((decide (a0 ≤ a2))))], []⟩) τ_ok [] 5 [6] (by kernel_rfl) ?_
    refine opsP_end rfl ?_
    have h := Option.some.inj h
    subst h
    exact pwp_ret ⟨.inr rfl, B ((decide (a0 ≤ a2))), _, by kernel_rfl, (OutP.frz (by kernel_rfl)), by decide⟩
  · replace h := bifF hc1 h
    rw [hc1]
    refine opsP_evk' (st' := ⟨15, [(6, B false)], []⟩) τ_ok [] 5 [6] (by kernel_rfl) ?_
    refine opsP_end rfl ?_
    have h := Option.some.inj h
    subst h
    exact pwp_ret ⟨.inr rfl, B false, _, by kernel_rfl, (OutP.frz (by kernel_rfl)), by decide⟩

/- loop.example/tablehouse/spec.l6Fields -/
def spec_l6Fields_j1 (a0 : T_impl_Step) (x1 : Bool) (x2 : Bool) : Option Bool := bif (!((a0.fKind == 1))) then bif x1 then bif (a0.fKind == 1) then bif x2 then bif (a0.fKind == 3) then some true else some ((((a0.fList.length : Int)) == 0)) else bif (((a0.fE.length : Int)) == 0) then bif (a0.fKind == 3) then some true else some ((((a0.fList.length : Int)) == 0)) else some false else bif (a0.fN == 0) then bif x2 then bif (a0.fKind == 3) then some true else some ((((a0.fList.length : Int)) == 0)) else bif (((a0.fE.length : Int)) == 0) then bif (a0.fKind == 3) then some true else some ((((a0.fList.length : Int)) == 0)) else some false else some false else bif (a0.fB == 0) then bif (a0.fKind == 1) then bif x2 then bif (a0.fKind == 3) then some true else some ((((a0.fList.length : Int)) == 0)) else bif (((a0.fE.length : Int)) == 0) then bif (a0.fKind == 3) then some true else some ((((a0.fList.length : Int)) == 0)) else some false else bif (a0.fN == 0) then bif x2 then bif (a0.fKind == 3) then some true else some ((((a0.fList.length : Int)) == 0)) else bif (((a0.fE.length : Int)) == 0) then bif (a0.fKind == 3) then some true else some ((((a0.fList.length : Int)) == 0)) else some false else some false else some false else bif (a0.fA == 0) then bif x1 then bif (a0.fKind == 1) then bif x2 then bif (a0.fKind == 3) then some true else some ((((a0.fList.length : Int)) == 0)) else bif (((a0.fE.length : Int)) == 0) then bif (a0.fKind == 3) then some true else some ((((a0.fList.length : Int)) == 0)) else some false else bif (a0.fN == 0) then bif x2 then bif (a0.fKind == 3) then some true else some ((((a0.fList.length : Int)) == 0)) else bif (((a0.fE.length : Int)) == 0) then bif (a0.fKind == 3) then some true else some ((((a0.fList.length : Int)) == 0)) else some false else some false else bif (a0.fB == 0) then bif (a0.fKind == 1) then bif x2 then bif (a0.fKind == 3) then some true else some ((((a0.fList.length : Int)) == 0)) else bif (((a0.fE.length : Int)) == 0) then bif (a0.fKind == 3) then some true else some ((((a0.fList.length : Int)) == 0)) else some false else bif (a0.fN == 0) then bif x2 then bif (a0.fKind == 3) then some true else some ((((a0.fList.length : Int)) == 0)) else bif (((a0.fE.length : Int)) == 0) then bif (a0.fKind == 3) then some true else some ((((a0.fList.length : Int)) == 0)) else some false else some false else some false else some false
def spec_l6Fields_j0 (a0 : T_impl_Step) (x1 : Bool) : Option Bool := bif (a0.fKind == 2) then spec_l6Fields_j1 a0 x1 true else spec_l6Fields_j1 a0 x1 ((a0.fKind == 4))
def spec_l6Fields (a0 : T_impl_Step) : Option Bool := bif (a0.fKind == 4) then spec_l6Fields_j0 a0 true else spec_l6Fields_j0 a0 ((a0.fKind == 5))
theorem ok_spec_l6Fields {a0 : T_impl_Step} {y : Bool} (h : spec_l6Fields a0 = some y) : OK Try.prog 80 [E a0] (B y) := by
  refine OK_of_pwp τ_ok Try.func80 rfl (by kernel_rfl) rfl fun Γ hX => ?_
  unfold spec_l6Fields at h
  refine pwp_seq ?_
  refine pwp_region ?_
  refine opsP_evk' (st' := ⟨68, [(1, .fptr (Enc.cells a0) 0)], []⟩) τ_ok [] 2 [1] (by kernel_rfl) ?_
  refine opsP_end rfl ?_
  refine pwp_seq ?_
  refine pwp_join (σ := Bool) (fun x1 => (⟨68, [(1, .fptr (Enc.cells a0) 0), (3, B x1)], []⟩ : St)) (fun x1 => spec_l6Fields_j0 a0 x1 = some y) ?_ ?_
  · refine pwp_region ?_
    refine opsP_evk' (st' := ⟨68, [(1, .fptr (Enc.cells a0) 0), (9, B ((a0.fKind == 4)))], []⟩) τ_ok [] 4 [1, 9] (by kernel_rfl) ?_
    rcases Bool.eq_false_or_eq_true ((a0.fKind == 4)) with hc50 | hc50
    · replace h := bifT hc50 h
      rw [hc50]
      refine opsP_evk' (st' := ⟨68, [(1, .fptr (Enc.cells a0) 0), (3, B true)], []⟩) τ_ok [] 5 [1, 3] (by kernel_rfl) ?_
      refine opsP_end rfl ?_
      exact ⟨true, h, (Imp.to (st' := ⟨68, [(1, .fptr (Enc.cells a0) 0), (3, B true)], []⟩) [1, 3] (by kernel_rfl)).trans (Imp.to [1, 3] (by kernel_rfl))⟩
    · replace h := bifF hc50 h
      rw [hc50]
      refine opsP_evk' (st' := ⟨68, [(1, .fptr (Enc.cells a0) 0), (3, B ((a0.fKind == 5)))], []⟩) τ_ok [] 5 [1, 3] (by kernel_rfl) ?_
      refine opsP_end rfl ?_
      exact ⟨(a0.fKind == 5), h, (Imp.to (st' := ⟨68, [(1, .fptr (Enc.cells a0) 0), (3, B ((a0.fKind == 5)))], []⟩) [1, 3] (by kernel_rfl)).trans (Imp.to [1, 3] (by kernel_rfl))⟩
  · rintro x1 h
    skip
    unfold spec_l6Fields_j0 at h
    refine pwp_seq ?_
    refine pwp_join (σ := Bool) (fun x2 => (⟨68, [(1, .fptr (Enc.cells a0) 0), (3, B x1), (4, B x2)], []⟩ : St)) (fun x2 => spec_l6Fields_j1 a0 x1 x2 = some y) ?_ ?_
    · refine pwp_region ?_
      refine opsP_evk' (st' := ⟨68, [(1, .fptr (Enc.cells a0) 0), (3, B x1), (17, B ((a0.fKind == 2)))], []⟩) τ_ok [] 4 [1, 3, 17] (by kernel_rfl) ?_
      rcases Bool.eq_false_or_eq_true ((a0.fKind == 2)) with hc49 | hc49
      · replace h := bifT hc49 h
        rw [hc49]
        refine opsP_evk' (st' := ⟨68, [(1, .fptr (Enc.cells a0) 0), (3, B x1), (4, B true)], []⟩) τ_ok [] 5 [1, 3, 4] (by kernel_rfl) ?_
        refine opsP_end rfl ?_
        exact ⟨true, h, (Imp.to (st' := ⟨68, [(1, .fptr (Enc.cells a0) 0), (3, B x1), (4, B true)], []⟩) [1, 3, 4] (by kernel_rfl)).trans (Imp.to [1, 3, 4] (by kernel_rfl))⟩
      · replace h := bifF hc49 h
        rw [hc49]
        refine opsP_evk' (st' := ⟨68, [(1, .fptr (Enc.cells a0) 0), (3, B x1), (4, B ((a0.fKind == 4)))], []⟩) τ_ok [] 5 [1, 3, 4] (by kernel_rfl) ?_
        refine opsP_end rfl ?_
        exact ⟨(a0.fKind == 4), h, (Imp.to (st' := ⟨68, [(1, .fptr (Enc.cells a0) 0), (3, B x1), (4, B ((a0.fKind == 4)))], []⟩) [1, 3, 4] (by kernel_rfl)).trans (Imp.to [1, 3, 4] (by kernel_rfl))⟩
    · rintro x2 h
      skip
      unfold spec_l6Fields_j1 at h
      refine pwp_seq ?_
      refine pwp_region ?_
      refine opsP_evk' (st' := ⟨68, [(1, .fptr (Enc.cells a0) 0), (3, B x1), (4, B x2), (5, B ((a0.fKind == 1)))], []⟩) τ_ok [] 4 [1, 3, 4, 5] (by kernel_rfl) ?_
      refine opsP_end rfl ?_
      refine pwp_seq ?_
      refine pwp_region ?_
      refine opsP_evk' (st' := ⟨68, [(1, .fptr (Enc.cells a0) 0), (3, B x1), (4, B x2), (5, B ((a0.fKind == 1))), (27, B ((!((a0.fKind == 1)))))], []⟩) τ_ok [] 3 [1, 3, 4, 5, 27] (by kernel_rfl) ?_
      rcases Bool.eq_false_or_eq_true ((!((a0.fKind == 1)))) with hc48 | hc48
      · replace h := bifT hc48 h
        rw [hc48]
        refine opsP_evk' (st' := ⟨68, [(1, .fptr (Enc.cells a0) 0), (4, B x2), (5, B ((a0.fKind == 1))), (32, B true), (34, B x1)], []⟩) τ_ok [] 7 [1, 4, 5, 32, 34] (by kernel_rfl) ?_
        rcases Bool.eq_false_or_eq_true x1 with hc24 | hc24
        · replace h := bifT hc24 h
          rw [hc24]
          refine opsP_evk' (st' := ⟨68, [(1, .fptr (Enc.cells a0) 0), (4, B x2), (40, B true), (42, B ((a0.fKind == 1)))], []⟩) τ_ok [] 8 [1, 4, 40, 42] (by kernel_rfl) ?_
          rcases Bool.eq_false_or_eq_true ((a0.fKind == 1)) with hc12 | hc12
          · replace h := bifT hc12 h
            rw [hc12]
            refine opsP_evk' (st' := ⟨68, [(1, .fptr (Enc.cells a0) 0), (48, B true), (50, B x2)], []⟩) τ_ok [] 8 [1, 48, 50] (by kernel_rfl) ?_
            rcases Bool.eq_false_or_eq_true x2 with hc6 | hc6
            · replace h := bifT hc6 h
              rw [hc6]
              refine opsP_evk' (st' := ⟨68, [(1, .fptr (Enc.cells a0) 0), (57, B true), (61, B ((a0.fKind == 3)))], []⟩) τ_ok [] 11 [1, 57, 61] (by kernel_rfl) ?_
              rcases Bool.eq_false_or_eq_true ((a0.fKind == 3)) with hc3 | hc3
              · replace h := bifT hc3 h
                rw [hc3]
                refine opsP_evk' (st' := ⟨68, [(2, B true)], []⟩) τ_ok [] 7 [2] (by kernel_rfl) ?_
                refine opsP_end rfl ?_
                have h := Option.some.inj h
                subst h
                exact pwp_ret ⟨.inr rfl, B true, _, by kernel_rfl, (OutP.frz (by kernel_rfl)), by decide⟩
              · replace h := bifF hc3 h
                rw [hc3]
                refine opsP_evk' (st' := ⟨68, [(2, B ((((a0.fList.length : Int)) == 0)))], []⟩) τ_ok [] 7 [2] (by kernel_rfl) ?_
                refine opsP_end rfl ?_
                have h := Option.some.inj h
                subst h
                exact pwp_ret ⟨.inr rfl, B ((((a0.fList.length : Int)) == 0)), _, by kernel_rfl, (OutP.frz (by kernel_rfl)), by decide⟩
            · replace h := bifF hc6 h
              rw [hc6]
              refine opsP_evk' (st' := ⟨68, [(1, .fptr (Enc.cells a0) 0), (57, B ((((a0.fE.length : Int)) == 0)))], []⟩) τ_ok [] 7 [1, 57] (by kernel_rfl) ?_
              rcases Bool.eq_false_or_eq_true ((((a0.fE.length : Int)) == 0)) with hc5 | hc5
              · replace h := bifT hc5 h
                rw [hc5]
                refine opsP_evk' (st' := ⟨68, [(1, .fptr (Enc.cells a0) 0), (57, B true), (61, B ((a0.fKind == 3)))], []⟩) τ_ok [] 4 [1, 57, 61] (by kernel_rfl) ?_
                rcases Bool.eq_false_or_eq_true ((a0.fKind == 3)) with hc4 | hc4
                · replace h := bifT hc4 h
                  rw [hc4]
                  refine opsP_evk' (st' := ⟨68, [(2, B true)], []⟩) τ_ok [] 7 [2] (by kernel_rfl) ?_
                  refine opsP_end rfl ?_
                  have h := Option.some.inj h
                  subst h
                  exact pwp_ret ⟨.inr rfl, B true, _, by kernel_rfl, (OutP.frz (by kernel_rfl)), by decide⟩
                · replace h := bifF hc4 h
                  rw [hc4]
                  refine opsP_evk' (st' := ⟨68, [(2, B ((((a0.fList.length : Int)) == 0)))], []⟩) τ_ok [] 7 [2] (by kernel_rfl) ?_
                  refine opsP_end rfl ?_
                  have h := Option.some.inj h
                  subst h
                  exact pwp_ret ⟨.inr rfl, B ((((a0.fList.length : Int)) == 0)), _, by kernel_rfl, (OutP.frz (by kernel_rfl)), by decide⟩
              · replace h := bifF hc5 h
                rw [hc5]
                refine opsP_evk' (st' := ⟨68, [(2, B false)], []⟩) τ_ok [] 11 [2] (by kernel_rfl) ?_
                refine opsP_end rfl ?_
                have h := Option.some.inj h
                subst h
                exact pwp_ret ⟨.inr rfl, B false, _, by kernel_rfl, (OutP.frz (by kernel_rfl)), by decide⟩
          · replace h := bifF hc12 h
            rw [hc12]
            refine opsP_evk' (st' := ⟨68, [(1, .fptr (Enc.cells a0) 0), (4, B x2), (48, B ((a0.fN == 0)))], []⟩) τ_ok [] 6 [1, 4, 48] (by kernel_rfl) ?_
            rcases Bool.eq_false_or_eq_true ((a0.fN == 0)) with hc11 | hc11
            · replace h := bifT hc11 h
              rw [hc11]
              refine opsP_evk' (st' := ⟨68, [(1, .fptr (Enc.cells a0) 0), (48, B true), (50, B x2)], []⟩) τ_ok [] 2 [1, 48, 50] (by kernel_rfl) ?_
              rcases Bool.eq_false_or_eq_true x2 with hc10 | hc10
              · replace h := bifT hc10 h
                rw [hc10]
                refine opsP_evk' (st' := ⟨68, [(1, .fptr (Enc.cells a0) 0), (57, B true), (61, B ((a0.fKind == 3)))], []⟩) τ_ok [] 11 [1, 57, 61] (by kernel_rfl) ?_
                rcases Bool.eq_false_or_eq_true ((a0.fKind == 3)) with hc7 | hc7
                · replace h := bifT hc7 h
                  rw [hc7]
                  refine opsP_evk' (st' := ⟨68, [(2, B true)], []⟩) τ_ok [] 7 [2] (by kernel_rfl) ?_
                  refine opsP_end rfl ?_
                  have h := Option.some.inj h
                  subst h
                  exact pwp_ret ⟨.inr rfl, B true, _, by kernel_rfl, (OutP.frz (by kernel_rfl)), by decide⟩
                · replace h := bifF hc7 h
                  rw [hc7]
                  refine opsP_evk' (st' := ⟨68, [(2, B ((((a0.fList.length : Int)) == 0)))], []⟩) τ_ok [] 7 [2] (by kernel_rfl) ?_
                  refine opsP_end rfl ?_
                  have h := Option.some.inj h
                  subst h
                  exact pwp_ret ⟨.inr rfl, B ((((a0.fList.length : Int)) == 0)), _, by kernel_rfl, (OutP.frz (by kernel_rfl)), by decide⟩
              · replace h := bifF hc10 h
                rw [hc10]
                refine opsP_evk' (st' := ⟨68, [(1, .fptr (Enc.cells a0) 0), (57, B ((((a0.fE.length : Int)) == 0)))], []⟩) τ_ok [] 7 [1, 57] (by kernel_rfl) ?_
                rcases Bool.eq_false_or_eq_true ((((a0.fE.length : Int)) == 0)) with hc9 | hc9
                · replace h := bifT hc9 h
                  rw [hc9]
                  refine opsP_evk' (st' := ⟨68, [(1, .fptr (Enc.cells a0) 0), (57, B true), (61, B ((a0.fKind == 3)))], []⟩) τ_ok [] 4 [1, 57, 61] (by kernel_rfl) ?_
                  rcases Bool.eq_false_or_eq_true ((a0.fKind == 3)) with hc8 | hc8
                  · replace h := bifT hc8 h
                    rw [hc8]
                    refine opsP_evk' (st' := ⟨68, [(2, B true)], []⟩) τ_ok [] 7 [2] (by kernel_rfl) ?_
                    refine opsP_end rfl ?_
                    have h := Option.some.inj h
                    subst h
                    exact pwp_ret ⟨.inr rfl, B true, _, by kernel_rfl, (OutP.frz (by kernel_rfl)), by decide⟩
                  · replace h := bifF hc8 h
                    rw [hc8]
                    refine opsP_evk' (st' := ⟨68, [(2, B ((((a0.fList.length : Int)) == 0)))], []⟩) τ_ok [] 7 [2] (by kernel_rfl) ?_
                    refine opsP_end rfl ?_
                    have h := Option.some.inj h
                    subst h
                    exact pwp_ret ⟨.inr rfl, B ((((a0.fList.length : Int)) == 0)), _, by kernel_rfl, (OutP.frz (by kernel_rfl)), by decide⟩
                · replace h := bifF hc9 h
                  rw [hc9]
                  refine opsP_evk' (st' := ⟨68, [(2, B false)], []⟩) τ_ok [] 11 [2] (by kernel_rfl) ?_
                  refine opsP_end rfl ?_
                  have h := Option.some.inj h
                  subst h
                  exact pwp_ret ⟨.inr rfl, B false, _, by kernel_rfl, (OutP.frz (by kernel_rfl)), by decide⟩
            · replace h := bifF hc11 h
              rw [hc11]
              refine opsP_evk' (st' := ⟨68, [(2, B false)], []⟩) τ_ok [] 20 [2] (by kernel_rfl) ?_
              refine opsP_end rfl ?_
              have h := Option.some.inj h
              subst h
              exact pwp_ret ⟨.inr rfl, B false, _, by kernel_rfl, (OutP.frz (by kernel_rfl)), by decide⟩
        · replace h := bifF hc24 h
          rw [hc24]
          refine opsP_evk' (st' := ⟨68, [(1, .fptr (Enc.cells a0) 0), (4, B x2), (5, B ((a0.fKind == 1))), (40, B ((a0.fB == 0)))], []⟩) τ_ok [] 6 [1, 4, 5, 40] (by kernel_rfl) ?_
          rcases Bool.eq_false_or_eq_true ((a0.fB == 0)) with hc23 | hc23
          · replace h := bifT hc23 h
            rw [hc23]
            refine opsP_evk' (st' := ⟨68, [(1, .fptr (Enc.cells a0) 0), (4, B x2), (40, B true), (42, B ((a0.fKind == 1)))], []⟩) τ_ok [] 2 [1, 4, 40, 42] (by kernel_rfl) ?_
            rcases Bool.eq_false_or_eq_true ((a0.fKind == 1)) with hc22 | hc22
            · replace h := bifT hc22 h
              rw [hc22]
              refine opsP_evk' (st' := ⟨68, [(1, .fptr (Enc.cells a0) 0), (48, B true), (50, B x2)], []⟩) τ_ok [] 8 [1, 48, 50] (by kernel_rfl) ?_
              rcases Bool.eq_false_or_eq_true x2 with hc16 | hc16
              · replace h := bifT hc16 h
                rw [hc16]
                refine opsP_evk' (st' := ⟨68, [(1, .fptr (Enc.cells a0) 0), (57, B true), (61, B ((a0.fKind == 3)))], []⟩) τ_ok [] 11 [1, 57, 61] (by kernel_rfl) ?_
                rcases Bool.eq_false_or_eq_true ((a0.fKind == 3)) with hc13 | hc13
                · replace h := bifT hc13 h
                  rw [hc13]
                  refine opsP_evk' (st' := ⟨68, [(2, B true)], []⟩) τ_ok [] 7 [2] (by kernel_rfl) ?_
                  refine opsP_end rfl ?_
                  have h := Option.some.inj h
                  subst h
                  exact pwp_ret ⟨.inr rfl, B true, _, by kernel_rfl, (OutP.frz (by kernel_rfl)), by decide⟩
                · replace h := bifF hc13 h
                  rw [hc13]
                  refine opsP_evk' (st' := ⟨68, [(2, B ((((a0.fList.length : Int)) == 0)))], []⟩) τ_ok [] 7 [2] (by kernel_rfl) ?_
                  refine opsP_end rfl ?_
                  have h := Option.some.inj h
                  subst h
                  exact pwp_ret ⟨.inr rfl, B ((((a0.fList.length : Int)) == 0)), _, by kernel_rfl, (OutP.frz (by kernel_rfl)), by decide⟩
              · replace h := bifF hc16 h
                rw [hc16]
                refine opsP_evk' (st' := ⟨68, [(1, .fptr (Enc.cells a0) 0), (57, B ((((a0.fE.length : Int)) == 0)))], []⟩) τ_ok [] 7 [1, 57] (by kernel_rfl) ?_
                rcases Bool.eq_false_or_eq_true ((((a0.fE.length : Int)) == 0)) with hc15 | hc15
                · replace h := bifT hc15 h
                  rw [hc15]
                  refine opsP_evk' (st' := ⟨68, [(1, .fptr (Enc.cells a0) 0), (57, B true), (61, B ((a0.fKind == 3)))], []⟩) τ_ok [] 4 [1, 57, 61] (by kernel_rfl) ?_
                  rcases Bool.eq_false_or_eq_true ((a0.fKind == 3)) with hc14 | hc14
                  · replace h := bifT hc14 h
                    rw [hc14]
                    refine opsP_evk' (st' := ⟨68, [(2, B true)], []⟩) τ_ok [] 7 [2] (by kernel_rfl) ?_
                    refine opsP_end rfl ?_
                    have h := Option.some.inj h
                    subst h
                    exact pwp_ret ⟨.inr rfl, B true, _, by kernel_rfl, (OutP.frz (by kernel_rfl)), by decide⟩
                  · replace h := bifF hc14 h
                    rw [hc14]
                    refine opsP_evk' (st' := ⟨68, [(2, B ((((a0.fList.length : Int)) == 0)))], []⟩) τ_ok [] 7 [2] (by kernel_rfl) ?_
                    refine opsP_end rfl ?_
                    have h := Option.some.inj h
                    subst h
                    exact pwp_ret ⟨.inr rfl, B ((((a0.fList.length : Int)) == 0)), _, by kernel_rfl, (OutP.frz (by kernel_rfl)), by decide⟩
                · replace h := bifF hc15 h
                  rw [hc15]
                  refine opsP_evk' (st' := ⟨68, [(2, B false)], []⟩) τ_ok [] 11 [2] (by kernel_rfl) ?_
                  refine opsP_end rfl ?_
                  have h := Option.some.inj h
                  subst h
                  exact pwp_ret ⟨.inr rfl, B false, _, by kernel_rfl, (OutP.frz (by kernel_rfl)), by decide⟩
            · replace h := bifF hc22 h
              rw [hc22]
              refine opsP_evk' (st' := ⟨68, [(1, .fptr (Enc.cells a0) 0), (4, B x2), (48, B ((a0.fN == 0)))], []⟩) τ_ok [] 6 [1, 4, 48] (by kernel_rfl) ?_
              rcases Bool.eq_false_or_eq_true ((a0.fN == 0)) with hc21 | hc21
              · replace h := bifT hc21 h
                rw [hc21]
                refine opsP_evk' (st' := ⟨68, [(1, .fptr (Enc.cells a0) 0), (48, B true), (50, B x2)], []⟩) τ_ok [] 2 [1, 48, 50] (by kernel_rfl) ?_
                rcases Bool.eq_false_or_eq_true x2 with hc20 | hc20
                · replace h := bifT hc20 h
                  rw [hc20]
                  refine opsP_evk' (st' := ⟨68, [(1, .fptr (Enc.cells a0) 0), (57, B true), (61, B ((a0.fKind == 3)))], []⟩) τ_ok [] 11 [1, 57, 61] (by kernel_rfl) ?_
                  rcases Bool.eq_false_or_eq_true ((a0.fKind == 3)) with hc17 | hc17
                  · replace h := bifT hc17 h
                    rw [hc17]
                    refine opsP_evk' (st' := ⟨68, [(2, B true)], []⟩) τ_ok [] 7 [2] (by kernel_rfl) ?_
                    refine opsP_end rfl ?_
                    have h := Option.some.inj h
                    subst h
                    exact pwp_ret ⟨.inr rfl, B true, _, by kernel_rfl, (OutP.frz (by kernel_rfl)), by decide⟩
                  · replace h := bifF hc17 h
                    rw [hc17]
                    refine opsP_evk' (st' := ⟨68, [(2, B ((((a0.fList.length : Int)) == 0)))], []⟩) τ_ok [] 7 [2] (by kernel_rfl) ?_
                    refine opsP_end rfl ?_
                    have h := Option.some.inj h
                    subst h
                    exact pwp_ret ⟨.inr rfl, B ((((a0.fList.length : Int)) == 0)), _, by kernel_rfl, (OutP.frz (by kernel_rfl)), by decide⟩
                · replace h := bifF hc20 h
                  rw [hc20]
                  refine opsP_evk' (st' := ⟨68, [(1, .fptr (Enc.cells a0) 0), (57, B ((((a0.fE.length : Int)) == 0)))], []⟩) τ_ok [] 7 [1, 57] (by kernel_rfl) ?_
                  rcases Bool.eq_false_or_eq_true ((((a0.fE.length : Int)) == 0)) with hc19 | hc19
                  · replace h := bifT hc19 h
                    rw [hc19]
                    refine opsP_evk' (st' := ⟨68, [(1, .fptr (Enc.cells a0) 0), (57, B true), (61, B ((a0.fKind == 3)))], []⟩) τ_ok [] 4 [1, 57, 61] (by kernel_rfl) ?_
                    rcases Bool.eq_false_or_eq_true ((a0.fKind == 3)) with hc18 | hc18
                    · replace h := bifT hc18 h
                      rw [hc18]
                      refine opsP_evk' (st' := ⟨68, [(2, B true)], []⟩) τ_ok [] 7 [2] (by kernel_rfl) ?_
                      refine opsP_end rfl ?_
                      have h := Option.some.inj h
                      subst h
                      exact pwp_ret ⟨.inr rfl, B true, _, by kernel_rfl, (OutP.frz (by kernel_rfl)), by decide⟩
                    · replace h := bifF hc18 h
                      rw [hc18]
                      refine opsP_evk' (st' := ⟨68, [(2, B ((((a0.fList.length : Int)) == 0)))], []⟩) τ_ok [] 7 [2] (by kernel_rfl) ?_
                      refine opsP_end rfl ?_
                      have h := Option.some.inj h
                      subst h
                      exact pwp_ret ⟨.inr rfl, B ((((a0.fList.length : Int)) == 0)), _, by kernel_rfl, (OutP.frz (by kernel_rfl)), by decide⟩
                  · replace h := bifF hc19 h
                    rw [hc19]
                    refine opsP_evk' (st' := ⟨68, [(2, B false)], []⟩) τ_ok [] 11 [2] (by kernel_rfl) ?_
                    refine opsP_end rfl ?_
                    have h := Option.some.inj h
                    subst h
                    exact pwp_ret ⟨.inr rfl, B false, _, by kernel_rfl, (OutP.frz (by kernel_rfl)), by decide⟩
              · replace h := bifF hc21 h
                rw [hc21]
                refine opsP_evk' (st' := ⟨68, [(2, B false)], []⟩) τ_ok [] 20 [2] (by kernel_rfl) ?_
                refine opsP_end rfl ?_
                have h := Option.some.inj h
                subst h
                exact pwp_ret ⟨.inr rfl, B false, _, by kernel_rfl, (OutP.frz (by kernel_rfl)), by decide⟩
          · replace h := bifF hc23 h
            rw [hc23]
            refine opsP_evk' (st' := ⟨68, [(2, B false)], []⟩) τ_ok [] 28 [2] (by kernel_rfl) ?_
            refine opsP_end rfl ?_
            have h := Option.some.inj h
            subst h
            exact pwp_ret ⟨.inr rfl, B false, _, by kernel_rfl, (OutP.frz (by kernel_rfl)), by decide⟩
      · replace h := bifF hc48 h
        rw [hc48]
        refine opsP_evk' (st' := ⟨68, [(1, .fptr (Enc.cells a0) 0), (3, B x1), (4, B x2), (5, B ((a0.fKind == 1))), (32, B ((a0.fA == 0)))], []⟩) τ_ok [] 5 [1, 3, 4, 5, 32] (by kernel_rfl) ?_
        rcases Bool.eq_false_or_eq_true ((a0.fA == 0)) with hc47 | hc47
        · replace h := bifT hc47 h
          rw [hc47]
          refine opsP_evk' (st' := ⟨68, [(1, .fptr (Enc.cells a0) 0), (4, B x2), (5, B ((a0.fKind == 1))), (32, B true), (34, B x1)], []⟩) τ_ok [] 2 [1, 4, 5, 32, 34] (by kernel_rfl) ?_
          rcases Bool.eq_false_or_eq_true x1 with hc46 | hc46
          · replace h := bifT hc46 h
            rw [hc46]
            refine opsP_evk' (st' := ⟨68, [(1, .fptr (Enc.cells a0) 0), (4, B x2), (40, B true), (42, B ((a0.fKind == 1)))], []⟩) τ_ok [] 8 [1, 4, 40, 42] (by kernel_rfl) ?_
            rcases Bool.eq_false_or_eq_true ((a0.fKind == 1)) with hc34 | hc34
            · replace h := bifT hc34 h
              rw [hc34]
              refine opsP_evk' (st' := ⟨68, [(1, .fptr (Enc.cells a0) 0), (48, B true), (50, B x2)], []⟩) τ_ok [] 8 [1, 48, 50] (by kernel_rfl) ?_
              rcases Bool.eq_false_or_eq_true x2 with hc28 | hc28
              · replace h := bifT hc28 h
                rw [hc28]
                refine opsP_evk' (st' := ⟨68, [(1, .fptr (Enc.cells a0) 0), (57, B true), (61, B ((a0.fKind == 3)))], []⟩) τ_ok [] 11 [1, 57, 61] (by kernel_rfl) ?_
                rcases Bool.eq_false_or_eq_true ((a0.fKind == 3)) with hc25 | hc25
                · replace h := bifT hc25 h
                  rw [hc25]
                  refine opsP_evk' (st' := ⟨68, [(2, B true)], []⟩) τ_ok [] 7 [2] (by kernel_rfl) ?_
                  refine opsP_end rfl ?_
                  have h := Option.some.inj h
                  subst h
                  exact pwp_ret ⟨.inr rfl, B true, _, by kernel_rfl, (OutP.frz (by kernel_rfl)), by decide⟩
                · replace h := bifF hc25 h
                  rw [hc25]
                  refine opsP_evk' (st' := ⟨68, [(2, B ((((a0.fList.length : Int)) == 0)))], []⟩) τ_ok [] 7 [2] (by kernel_rfl) ?_
                  refine opsP_end rfl ?_
                  have h := Option.some.inj h
                  subst h
                  exact pwp_ret ⟨.inr rfl, B ((((a0.fList.length : Int)) == 0)), _, by kernel_rfl, (OutP.frz (by kernel_rfl)), by decide⟩
              · replace h := bifF hc28 h
                rw [hc28]
                refine opsP_evk' (st' := ⟨68, [(1, .fptr (Enc.cells a0) 0), (57, B ((((a0.fE.length : Int)) == 0)))], []⟩) τ_ok [] 7 [1, 57] (by kernel_rfl) ?_
                rcases Bool.eq_false_or_eq_true ((((a0.fE.length : Int)) == 0)) with hc27 | hc27
                · replace h := bifT hc27 h
                  rw [hc27]
                  refine opsP_evk' (st' := ⟨68, [(1, .fptr (Enc.cells a0) 0), (57, B true), (61, B ((a0.fKind == 3)))], []⟩) τ_ok [] 4 [1, 57, 61] (by kernel_rfl) ?_
                  rcases Bool.eq_false_or_eq_true ((a0.fKind == 3)) with hc26 | hc26
                  · replace h := bifT hc26 h
                    rw [hc26]
                    refine opsP_evk' (st' := ⟨68, [(2, B true)], []⟩) τ_ok [] 7 [2] (by kernel_rfl) ?_
                    refine opsP_end rfl ?_
                    have h := Option.some.inj h
                    subst h
                    exact pwp_ret ⟨.inr rfl, B true, _, by kernel_rfl, (OutP.frz (by kernel_rfl)), by decide⟩
                  · replace h := bifF hc26 h
                    rw [hc26]
                    refine opsP_evk' (st' := ⟨68, [(2, B ((((a0.fList.length : Int)) == 0)))], []⟩) τ_ok [] 7 [2] (by kernel_rfl) ?_
                    refine opsP_end rfl ?_
                    have h := Option.some.inj h
                    subst h
                    exact pwp_ret ⟨.inr rfl, B ((((a0.fList.length : Int)) == 0)), _, by kernel_rfl, (OutP.frz (by kernel_rfl)), by decide⟩
                · replace h := bifF hc27 h
                  rw [hc27]
                  refine opsP_evk' (st' := ⟨68, [(2, B false)], []⟩) τ_ok [] 11 [2] (by kernel_rfl) ?_
                  refine opsP_end rfl ?_
                  have h := Option.some.inj h
                  subst h
                  exact pwp_ret ⟨.inr rfl, B false, _, by kernel_rfl, (OutP.frz (by kernel_rfl)), by decide⟩
            · replace h := bifF hc34 h
              rw [hc34]
              refine opsP_evk' (st' := ⟨68, [(1, .fptr (Enc.cells a0) 0), (4, B x2), (48, B ((a0.fN == 0)))], []⟩) τ_ok [] 6 [1, 4, 48] (by kernel_rfl) ?_
              rcases Bool.eq_false_or_eq_true ((a0.fN == 0)) with hc33 | hc33
              · replace h := bifT hc33 h
                rw [hc33]
                refine opsP_evk' (st' := ⟨68, [(1, .fptr (Enc.cells a0) 0), (48, B true), (50, B x2)], []⟩) τ_ok [] 2 [1, 48, 50] (by kernel_rfl) ?_
                rcases Bool.eq_false_or_eq_true x2 with hc32 | hc32
                · replace h := bifT hc32 h
                  rw [hc32]
                  refine opsP_evk' (st' := ⟨68, [(1, .fptr (Enc.cells a0) 0), (57, B true), (61, B ((a0.fKind == 3)))], []⟩) τ_ok [] 11 [1, 57, 61] (by kernel_rfl) ?_
                  rcases Bool.eq_false_or_eq_true ((a0.fKind == 3)) with hc29 | hc29
                  · replace h := bifT hc29 h
                    rw [hc29]
                    refine opsP_evk' (st' := ⟨68, [(2, B true)], []⟩) τ_ok [] 7 [2] (by kernel_rfl) ?_
                    refine opsP_end rfl ?_
                    have h := Option.some.inj h
                    subst h
                    exact pwp_ret ⟨.inr rfl, B true, _, by kernel_rfl, (OutP.frz (by kernel_rfl)), by decide⟩
                  · replace h := bifF hc29 h
                    rw [hc29]
                    refine opsP_evk' (st' := ⟨68, [(2, B ((((a0.fList.length : Int)) == 0)))], []⟩) τ_ok [] 7 [2] (by kernel_rfl) ?_
                    refine opsP_end rfl ?_
                    have h := Option.some.inj h
                    subst h
                    exact pwp_ret ⟨.inr rfl, B ((((a0.fList.length : Int)) == 0)), _, by kernel_rfl, (OutP.frz (by kernel_rfl)), by decide⟩
                · replace h := bifF hc32 h
                  rw [hc32]
                  refine opsP_evk' (st' := ⟨68, [(1, .fptr (Enc.cells a0) 0), (57, B ((((a0.fE.length : Int)) == 0)))], []⟩) τ_ok [] 7 [1, 57] (by kernel_rfl) ?_
                  rcases Bool.eq_false_or_eq_true ((((a0.fE.length : Int)) == 0)) with hc31 | hc31
                  · replace h := bifT hc31 h
                    rw [hc31]
                    refine opsP_evk' (st' := ⟨68, [(1, .fptr (Enc.cells a0) 0), (57, B true), (61, B ((a0.fKind == 3)))], []⟩) τ_ok [] 4 [1, 57, 61] (by kernel_rfl) ?_
                    rcases Bool.eq_false_or_eq_true ((a0.fKind == 3)) with hc30 | hc30
                    · replace h := bifT hc30 h
                      rw [hc30]
                      refine opsP_evk' (st' := ⟨68, [(2, B true)], []⟩) τ_ok [] 7 [2] (by kernel_rfl) ?_
                      refine opsP_end rfl ?_
                      have h := Option.some.inj h
                      subst h
                      exact pwp_ret ⟨.inr rfl, B true, _, by kernel_rfl, (OutP.frz (by kernel_rfl)), by decide⟩
                    · replace h := bifF hc30 h
                      rw [hc30]
                      refine opsP_evk' (st' := ⟨68, [(2, B ((((a0.fList.length : Int)) == 0)))], []⟩) τ_ok [] 7 [2] (by kernel_rfl) ?_
                      refine opsP_end rfl ?_
                      have h := Option.some.inj h
                      subst h
                      exact pwp_ret ⟨.inr rfl, B ((((a0.fList.length : Int)) == 0)), _, by kernel_rfl, (OutP.frz (by kernel_rfl)), by decide⟩
                  · replace h := bifF hc31 h
                    rw [hc31]
                    refine opsP_evk' (st' := ⟨68, [(2, B false)], []⟩) τ_ok [] 11 [2] (by kernel_rfl) ?_
                    refine opsP_end rfl ?_
                    have h := Option.some.inj h
                    subst h
                    exact pwp_ret ⟨.inr rfl, B false, _, by kernel_rfl, (OutP.frz (by kernel_rfl)), by decide⟩
              · replace h := bifF hc33 h
                rw [hc33]
                refine opsP_evk' (st' := ⟨68, [(2, B false)], []⟩) τ_ok [] 20 [2] (by kernel_rfl) ?_
                refine opsP_end rfl ?_
                have h := Option.some.inj h
                subst h
                exact pwp_ret ⟨.inr rfl, B false, _, by kernel_rfl, (OutP.frz (by kernel_rfl)), by decide⟩
          · replace h := bifF hc46 h
            rw [hc46]
            refine opsP_evk' (st' := ⟨68, [(1, .fptr (Enc.cells a0) 0), (4, B x2), (5, B ((a0.fKind == 1))), (40, B ((a0.fB == 0)))], []⟩) τ_ok [] 6 [1, 4, 5, 40] (by kernel_rfl) ?_
            rcases Bool.eq_false_or_eq_true ((a0.fB == 0)) with hc45 | hc45
            · replace h := bifT hc45 h
              rw [hc45]
              refine opsP_evk' (st' := ⟨68, [(1, .fptr (Enc.cells a0) 0), (4, B x2), (40, B true), (42, B ((a0.fKind == 1)))], []⟩) τ_ok [] 2 [1, 4, 40, 42] (by kernel_rfl) ?_
              rcases Bool.eq_false_or_eq_true ((a0.fKind == 1)) with hc44 | hc44
              · replace h := bifT hc44 h
                rw [hc44]
                refine opsP_evk' (st' := ⟨68, [(1, .fptr (Enc.cells a0) 0), (48, B true), (50, B x2)], []⟩) τ_ok [] 8 [1, 48, 50] (by kernel_rfl) ?_
                rcases Bool.eq_false_or_eq_true x2 with hc38 | hc38
                · replace h := bifT hc38 h
                  rw [hc38]
                  refine opsP_evk' (st' := ⟨68, [(1, .fptr (Enc.cells a0) 0), (57, B true), (61, B ((a0.fKind == 3)))], []⟩) τ_ok [] 11 [1, 57, 61] (by kernel_rfl) ?_
                  rcases Bool.eq_false_or_eq_true ((a0.fKind == 3)) with hc35 | hc35
                  · replace h := bifT hc35 h
                    rw [hc35]
                    refine opsP_evk' (st' := ⟨68, [(2, B true)], []⟩) τ_ok [] 7 [2] (by kernel_rfl) ?_
                    refine opsP_end rfl ?_
                    have h := Option.some.inj h
                    subst h
                    exact pwp_ret ⟨.inr rfl, B true, _, by kernel_rfl, (OutP.frz (by kernel_rfl)), by decide⟩
                  · replace h := bifF hc35 h
                    rw [hc35]
                    refine opsP_evk' (st' := ⟨68, [(2, B ((((a0.fList.length : Int)) == 0)))], []⟩) τ_ok [] 7 [2] (by kernel_rfl) ?_
                    refine opsP_end rfl ?_
                    have h := Option.some.inj h
                    subst h
                    exact pwp_ret ⟨.inr rfl, B ((((a0.fList.length : Int)) == 0)), _, by kernel_rfl, (OutP.frz (by kernel_rfl)), by decide⟩
                · replace h := bifF hc38 h
                  rw [hc38]
                  refine opsP_evk' (st' := ⟨68, [(1, .fptr (Enc.cells a0) 0), (57, B ((((a0.fE.length : Int)) == 0)))], []⟩) τ_ok [] 7 [1, 57] (by kernel_rfl) ?_
                  rcases Bool.eq_false_or_eq_true ((((a0.fE.length : Int)) == 0)) with hc37 | hc37
                  · replace h := bifT hc37 h
                    rw [hc37]
                    refine opsP_evk' (st' := ⟨68, [(1, .fptr (Enc.cells a0) 0), (57, B true), (61, B ((a0.fKind == 3)))], []⟩) τ_ok [] 4 [1, 57, 61] (by kernel_rfl) ?_
                    rcases Bool.eq_false_or_eq_true ((a0.fKind == 3)) with hc36 | hc36
                    · replace h := bifT hc36 h
                      rw [hc36]
                      refine opsP_evk' (st' := ⟨68, [(2, B true)], []⟩) τ_ok [] 7 [2] (by kernel_rfl) ?_
                      refine opsP_end rfl ?_
                      have h := Option.some.inj h
                      subst h
                      exact pwp_ret ⟨.inr rfl, B true, _, by kernel_rfl, (OutP.frz (by kernel_rfl)), by decide⟩
                    · replace h := bifF hc36 h
                      rw [hc36]
                      refine opsP_evk' (st' := ⟨68, [(2, B ((((a0.fList.length : Int)) == 0)))], []⟩) τ_ok [] 7 [2] (by kernel_rfl) ?_
                      refine opsP_end rfl ?_
                      have h := Option.some.inj h
                      subst h
                      exact pwp_ret ⟨.inr rfl, B ((((a0.fList.length : Int)) == 0)), _, by kernel_rfl, (OutP.frz (by kernel_rfl)), by decide⟩
                  · replace h := bifF hc37 h
                    rw [hc37]
                    refine opsP_evk' (st' := ⟨68, [(2, B false)], []⟩) τ_ok [] 11 [2] (by kernel_rfl) ?_
                    refine opsP_end rfl ?_
                    have h := Option.some.inj h
                    subst h
                    exact pwp_ret ⟨.inr rfl, B false, _, by kernel_rfl, (OutP.frz (by kernel_rfl)), by decide⟩
              · replace h := bifF hc44 h
                rw [hc44]
                refine opsP_evk' (st' := ⟨68, [(1, .fptr (Enc.cells a0) 0), (4, B x2), (48, B ((a0.fN == 0)))], []⟩) τ_ok [] 6 [1, 4, 48] (by kernel_rfl) ?_
                rcases Bool.eq_false_or_eq_true ((a0.fN == 0)) with hc43 | hc43
                · replace h := bifT hc43 h
                  rw [hc43]
                  refine opsP_evk' (st' := ⟨68, [(1, .fptr (Enc.cells a0) 0), (48, B true), (50, B x2)], []⟩) τ_ok [] 2 [1, 48, 50] (by kernel_rfl) ?_
                  rcases Bool.eq_false_or_eq_true x2 with hc42 | hc42
                  · replace h := bifT hc42 h
                    rw [hc42]
                    refine opsP_evk' (st' := ⟨68, [(1, .fptr (Enc.cells a0) 0), (57, B true), (61, B ((a0.fKind == 3)))], []⟩) τ_ok [] 11 [1, 57, 61] (by kernel_rfl) ?_
                    rcases Bool.eq_false_or_eq_true ((a0.fKind == 3)) with hc39 | hc39
                    · replace h := bifT hc39 h
                      rw [hc39]
                      refine opsP_evk' (st' := ⟨68, [(2, B true)], []⟩) τ_ok [] 7 [2] (by kernel_rfl) ?_
                      refine opsP_end rfl ?_
                      have h := Option.some.inj h
                      subst h
                      exact pwp_ret ⟨.inr rfl, B true, _, by kernel_rfl, (OutP.frz (by kernel_rfl)), by decide⟩
                    · replace h := bifF hc39 h
                      rw [hc39]
                      refine opsP_evk' (st' := ⟨68, [(2, B ((((a0.fList.length : Int)) == 0)))], []⟩) τ_ok [] 7 [2] (by kernel_rfl) ?_
                      refine opsP_end rfl ?_
                      have h := Option.some.inj h
                      subst h
                      exact pwp_ret ⟨.inr rfl, B ((((a0.fList.length : Int)) == 0)), _, by kernel_rfl, (OutP.frz (by kernel_rfl)), by decide⟩
                  · replace h := bifF hc42 h
                    rw [hc42]
                    refine opsP_evk' (st' := ⟨68, [(1, .fptr (Enc.cells a0) 0), (57, B ((((a0.fE.length : Int)) == 0)))], []⟩) τ_ok [] 7 [1, 57] (by kernel_rfl) ?_
                    rcases Bool.eq_false_or_eq_true ((((a0.fE.length : Int)) == 0)) with hc41 | hc41
                    · replace h := bifT hc41 h
                      rw [hc41]
                      refine opsP_evk' (st' := ⟨68, [(1, .fptr (Enc.cells a0) 0), (57, B true), (61, B ((a0.fKind == 3)))], []⟩) τ_ok [] 4 [1, 57, 61] (by kernel_rfl) ?_
                      rcases Bool.eq_false_or_eq_true ((a0.fKind == 3)) with hc40 | hc40
                      · replace h := bifT hc40 h
                        rw [hc40]
                        refine opsP_evk' (st' := ⟨68, [(2, B true)], []⟩) τ_ok [] 7 [2] (by kernel_rfl) ?_
                        refine opsP_end rfl ?_
                        have h := Option.some.inj h
                        subst h
                        exact pwp_ret ⟨.inr rfl, B true, _, by kernel_rfl, (OutP.frz (by kernel_rfl)), by decide⟩
                      · replace h := bifF hc40 h
                        rw [hc40]
                        refine opsP_evk' (st' := ⟨68, [(2, B ((((a0.fList.length : Int)) == 0)))], []⟩) τ_ok [] 7 [2] (by kernel_rfl) ?_
                        refine opsP_end rfl ?_
                        have h := Option.some.inj h
                        subst h
                        exact pwp_ret ⟨.inr rfl, B ((((a0.fList.length : Int)) == 0)), _, by kernel_rfl, (OutP.frz (by kernel_rfl)), by decide⟩
                    · replace h := bifF hc41 h
                      rw [hc41]
                      refine opsP_evk' (st' := ⟨68, [(2, B false)], []⟩) τ_ok [] 11 [2] (by kernel_rfl) ?_
                      refine opsP_end rfl ?_
                      have h := Option.some.inj h
                      subst h
                      exact pwp_ret ⟨.inr rfl, B false, _, by kernel_rfl, (OutP.frz (by kernel_rfl)), by decide⟩
                · replace h := bifF hc43 h
                  rw [hc43]
                  refine opsP_evk' (st' := ⟨68, [(2, B false)], []⟩) τ_ok [] 20 [2] (by kernel_rfl) ?_
                  refine opsP_end rfl ?_
                  have h := Option.some.inj h
                  subst h
                  exact pwp_ret ⟨.inr rfl, B false, _, by kernel_rfl, (OutP.frz (by kernel_rfl)), by decide⟩
            · replace h := bifF hc45 h
              rw [hc45]
              refine opsP_evk' (st' := ⟨68, [(2, B false)], []⟩) τ_ok [] 28 [2] (by kernel_rfl) ?_
              refine opsP_end rfl ?_
              have h := Option.some.inj h
              subst h
              exact pwp_ret ⟨.inr rfl, B false, _, by kernel_rfl, (OutP.frz (by kernel_rfl)), by decide⟩
        · replace h := bifF hc47 h
          rw [hc47]
          refine opsP_evk' (st' := ⟨68, [(2, B false)], []⟩) τ_ok [] 36 [2] (by kernel_rfl) ?_
          refine opsP_end rfl ?_
          have h := Option.some.inj h
          subst h
          exact pwp_ret ⟨.inr rfl, B false, _, by kernel_rfl, (OutP.frz (by kernel_rfl)), by decide⟩

/- loop.example/tablehouse/spec.ColumnsOk -/
def spec_ColumnsOk_l0 (a0 : List T_impl_Column) : Nat → Int → Option Bool
  | 0, _ => none
  | f2 + 1, x1 => bif (decide (x1 < ((a0.length : Int)))) then (getI a0 x1).bind fun v5 => (spec_l1In v5.fKind 1 3).bind fun v7 => bif (!v7) then some false else (spec_ColumnsOk_l0 a0 f2) ((w64 (x1 + 1))) else some ((decide (((a0.length : Int)) ≤ 4)))
def spec_ColumnsOk (a0 : List T_impl_Column) : Option Bool := spec_ColumnsOk_l0 a0 FUEL 0
theorem ok_spec_ColumnsOk {a0 : List T_impl_Column} {y : Bool} (h : spec_ColumnsOk a0 = some y) : OK Try.prog 83 [A a0] (B y) := by
  refine OK_of_pwp τ_ok Try.func83 rfl (by kernel_rfl) rfl fun Γ hX => ?_
  unfold spec_ColumnsOk at h
  refine pwp_seq ?_
  refine pwp_region ?_
  refine opsP_evk' (st' := ⟨20, [(0, A a0)], []⟩) τ_ok [] 1 [0] (by kernel_rfl) ?_
  refine opsP_end rfl ?_
  refine pwp_seq ?_
  refine pwp_seq ?_
  refine pwp_region ?_
  refine opsP_evk' (st' := ⟨20, [(0, A a0), (3, I 0)], []⟩) τ_ok [] 1 [0, 3] (by kernel_rfl) ?_
  refine opsP_end rfl ?_
  refine pwp_block ?_
  refine pwp_loop (ι := Nat × Int) (fun (f2, x1) => (⟨20, [(0, A a0), (3, I x1)], []⟩ : St)) (fun (f2, x1) => spec_ColumnsOk_l0 a0 f2 x1 = some y) (fun (f2, x1) => f2) (FUEL, 0) h ((Imp.to (st' := ⟨20, [(0, A a0), (3, I 0)], []⟩) [0, 3] (by kernel_rfl)).trans (Imp.to [0, 3] (by kernel_rfl))) ?_
  rintro ⟨f2, x1⟩ h
  dsimp only at h ⊢
  cases f2 with
  | zero => cases h
  | succ f2 =>
  rw [spec_ColumnsOk_l0] at h
  refine pwp_seq ?_
  refine pwp_seq ?_
  refine pwp_region ?_
  refine opsP_evk' (st' := ⟨20, [(0, A a0), (3, I x1), (7, B ((decide (x1 < ((a0.length : Int))))))], []⟩) τ_ok [] 4 [0, 3, 7] (by kernel_rfl) ?_
  refine opsP_end rfl ?_
  refine pwp_cond ((decide (x1 < ((a0.length : Int))))) (by kernel_rfl) (fun hc4 => ?_) (fun hc4 => ?_)
  · replace h := bifT hc4 h
    refine pwp_skip ?_
    refine pwp_seq ?_
    refine pwp_block ?_
    refine pwp_seq ?_
    refine pwp_region ?_
    refine opsP_evk' (st' := ⟨20, [(0, A a0), (3, I x1), (10, A a0), (11, I x1)], []⟩) τ_ok [] 2 [0, 3, 10, 11] (by kernel_rfl) ?_
    obtain ⟨v5, hv6, h⟩ := bindS h
    refine opsP_idx τ_ok 12 hv6 (by kernel_rfl) ?_
    refine opsP_evk' (st' := ⟨20, [(0, A a0), (3, I x1), (14, I v5.fKind)], []⟩) τ_ok [] 2 [0, 3, 14] (by kernel_rfl) ?_
    obtain ⟨v7, hv8, h⟩ := bindS h
    refine opsP_callF τ 15 (ok_spec_l1In hv8) (FzTo.frz rfl) rfl (by kernel_rfl) ?_
    refine opsP_evk' (st' := ⟨20, [(0, A a0), (3, I x1), (16, B ((!v7)))], []⟩) τ_ok [] 1 [0, 3, 16] (by kernel_rfl) ?_
    refine opsP_end rfl ?_
    refine pwp_cond ((!v7)) (by kernel_rfl) (fun hc9 => ?_) (fun hc9 => ?_)
    · replace h := bifT hc9 h
      refine pwp_seq ?_
      refine pwp_region ?_
      refine opsP_evk' (st' := ⟨20, [(2, B false)], []⟩) τ_ok [] 1 [2] (by kernel_rfl) ?_
      refine opsP_end rfl ?_
      have h := Option.some.inj h
      subst h
      exact pwp_ret ⟨.inr rfl, B false, _, by kernel_rfl, (OutP.frz (by kernel_rfl)), by decide⟩
    · replace h := bifF hc9 h
      refine pwp_skip ?_
      refine pwp_region ?_
      refine opsP_evk' (st' := ⟨20, [(0, A a0), (3, I ((w64 (x1 + 1))))], []⟩) τ_ok [] 3 [0, 3] (by kernel_rfl) ?_
      refine opsP_end rfl ?_
      exact ⟨(f2, (w64 (x1 + 1))), h, Nat.lt_succ_self _, (Imp.to (st' := ⟨20, [(0, A a0), (3, I ((w64 (x1 + 1))))], []⟩) [0, 3] (by kernel_rfl)).trans (Imp.to [0, 3] (by kernel_rfl))⟩
  · replace h := bifF hc4 h
    refine pwp_exit ?_
    refine pwp_seq ?_
    refine pwp_region ?_
    refine opsP_evk' (st' := ⟨20, [(2, B ((decide (((a0.length : Int)) ≤ 4))))], []⟩) τ_ok [] 4 [2] (by kernel_rfl) ?_
    refine opsP_end rfl ?_
    have h := Option.some.inj h
    subst h
    exact pwp_ret ⟨.inr rfl, B ((decide (((a0.length : Int)) ≤ 4))), _, by kernel_rfl, (OutP.frz (by kernel_rfl)), by decide⟩

/- loop.example/tablehouse/laws.toColumn -/
def laws_toColumn (a0 : T_laws_Column) : Option T_impl_Column := some ({ ({ ((T_impl_Column.mk 0 false)) with fKind := a0.fKind }) with fEmpty := a0.fEmpty })
theorem ok_laws_toColumn {a0 : T_laws_Column} {y : T_impl_Column} (h : laws_toColumn a0 = some y) : OK Try.prog 84 [E a0] (E y) := by
  refine OK_of_pwp τ_ok Try.func84 rfl (by kernel_rfl) rfl fun Γ hX => ?_
  unfold laws_toColumn at h
  refine pwp_seq ?_
  refine pwp_region ?_
  refine opsP_evk' (st' := ⟨11, [(1, .fptr (Enc.cells a0) 0), (2, .ptr 0 0 0)], [some ⟨0, Enc.cells ((T_impl_Column.mk 0 false))⟩]⟩) τ_ok [2, 3] 2 [1, 2] (by kernel_rfl) ?_
  refine opsP_end rfl ?_
  refine pwp_seq ?_
  refine pwp_region ?_
  refine opsP_evk' (st' := ⟨11, [(1, .fptr (Enc.cells a0) 0), (2, .ptr 0 0 0), (3, .ptr 1 0 0)], [some ⟨0, Enc.cells ((T_impl_Column.mk 0 false))⟩, some ⟨0, Enc.cells ((T_impl_Column.mk 0 false))⟩]⟩) τ_ok [2, 3] 1 [1, 2, 3] (by kernel_rfl) ?_
  refine opsP_end rfl ?_
  refine pwp_seq ?_
  refine pwp_region ?_
  refine opsP_evk' (st' := ⟨11, [(1, .fptr (Enc.cells a0) 0), (2, .ptr 0 0 0), (3, .ptr 1 0 0)], [some ⟨0, Enc.cells ((T_impl_Column.mk 0 false))⟩, some ⟨0, Enc.cells ({ ((T_impl_Column.mk 0 false)) with fKind := a0.fKind })⟩]⟩) τ_ok [2, 3] 4 [1, 2, 3] (by kernel_rfl) ?_
  refine opsP_end rfl ?_
  refine pwp_seq ?_
  refine pwp_region ?_
  refine opsP_evk' (st' := ⟨11, [(2, .ptr 0 0 0), (3, .ptr 1 0 0)], [some ⟨0, Enc.cells ((T_impl_Column.mk 0 false))⟩, some ⟨0, Enc.cells ({ ({ ((T_impl_Column.mk 0 false)) with fKind := a0.fKind }) with fEmpty := a0.fEmpty })⟩]⟩) τ_ok [2, 3] 4 [2, 3] (by kernel_rfl) ?_
  refine opsP_end rfl ?_
  refine pwp_seq ?_
  refine pwp_region ?_
  refine opsP_evk' (st' := ⟨11, [(2, .ptr 0 0 0)], [some ⟨0, Enc.cells ({ ({ ((T_impl_Column.mk 0 false)) with fKind := a0.fKind }) with fEmpty := a0.fEmpty })⟩, some ⟨0, Enc.cells ({ ({ ((T_impl_Column.mk 0 false)) with fKind := a0.fKind }) with fEmpty := a0.fEmpty })⟩]⟩) τ_ok [2, 3] 2 [2] (by kernel_rfl) ?_
  refine opsP_end rfl ?_
  have h := Option.some.inj h
  subst h
  exact pwp_ret ⟨.inr rfl, E ({ ({ ((T_impl_Column.mk 0 false)) with fKind := a0.fKind }) with fEmpty := a0.fEmpty }), _, by kernel_rfl, (OutP.frz (by kernel_rfl)), by decide⟩

/- (loop.example/tablehouse/impl.Step).plain -/
def impl_Step_plain_j1 (a0 : T_impl_Step) (x1 : Bool) (x2 : Bool) : Option Bool := bif (!(a0.fKind == 1)) then bif x1 then bif (a0.fKind == 1) then bif x2 then bif (a0.fKind == 3) then some true else some ((((a0.fList.length : Int)) == 0)) else bif (((a0.fE.length : Int)) == 0) then bif (a0.fKind == 3) then some true else some ((((a0.fList.length : Int)) == 0)) else some false else bif (a0.fN == 0) then bif x2 then bif (a0.fKind == 3) then some true else some ((((a0.fList.length : Int)) == 0)) else bif (((a0.fE.length : Int)) == 0) then bif (a0.fKind == 3) then some true else some ((((a0.fList.length : Int)) == 0)) else some false else some false else bif (a0.fB == 0) then bif (a0.fKind == 1) then bif x2 then bif (a0.fKind == 3) then some true else some ((((a0.fList.length : Int)) == 0)) else bif (((a0.fE.length : Int)) == 0) then bif (a0.fKind == 3) then some true else some ((((a0.fList.length : Int)) == 0)) else some false else bif (a0.fN == 0) then bif x2 then bif (a0.fKind == 3) then some true else some ((((a0.fList.length : Int)) == 0)) else bif (((a0.fE.length : Int)) == 0) then bif (a0.fKind == 3) then some true else some ((((a0.fList.length : Int)) == 0)) else some false else some false else some false else bif (a0.fA == 0) then bif x1 then bif (a0.fKind == 1) then bif x2 then bif (a0.fKind == 3) then some true else some ((((a0.fList.length : Int)) == 0)) else bif (((a0.fE.length : Int)) == 0) then bif (a0.fKind == 3) then some true else some ((((a0.fList.length : Int)) == 0)) else some false else bif (a0.fN == 0) then bif x2 then bif (a0.fKind == 3) then some true else some ((((a0.fList.length : Int)) == 0)) else bif (((a0.fE.length : Int)) == 0) then bif (a0.fKind == 3) then some true else some ((((a0.fList.length : Int)) == 0)) else some false else some false else bif (a0.fB == 0) then bif (a0.fKind == 1) then bif x2 then bif (a0.fKind == 3) then some true else some ((((a0.fList.length : Int)) == 0)) else bif (((a0.fE.length : Int)) == 0) then bif (a0.fKind == 3) then some true else some ((((a0.fList.length : Int)) == 0)) else some false else bif (a0.fN == 0) then bif x2 then bif (a0.fKind == 3) then some true else some ((((a0.fList.length : Int)) == 0)) else bif (((a0.fE.length : Int)) == 0) then bif (a0.fKind == 3) then some true else some ((((a0.fList.length : Int)) == 0)) else some false else some false else some false else some false
def impl_Step_plain_j0 (a0 : T_impl_Step) (x1 : Bool) : Option Bool := bif (a0.fKind == 2) then impl_Step_plain_j1 a0 x1 true else impl_Step_plain_j1 a0 x1 ((a0.fKind == 4))
def impl_Step_plain (a0 : T_impl_Step) : Option Bool := bif (a0.fKind == 4) then impl_Step_plain_j0 a0 true else impl_Step_plain_j0 a0 ((a0.fKind == 5))
theorem ok_impl_Step_plain {a0 : T_impl_Step} {y : Bool} (h : impl_Step_plain a0 = some y) : OK Try.prog 87 [E a0] (B y) := by
  refine OK_of_pwp τ_ok Try.func87 rfl (by kernel_rfl) rfl fun Γ hX => ?_
  unfold impl_Step_plain at h
  refine pwp_seq ?_
  refine pwp_region ?_
  refine opsP_evk' (st' := ⟨67, [(1, .fptr (Enc.cells a0) 0)], []⟩) τ_ok [] 2 [1] (by kernel_rfl) ?_
  refine opsP_end rfl ?_
  refine pwp_seq ?_
  refine pwp_join (σ := Bool) (fun x1 => (⟨67, [(1, .fptr (Enc.cells a0) 0), (3, B x1)], []⟩ : St)) (fun x1 => impl_Step_plain_j0 a0 x1 = some y) ?_ ?_
  · refine pwp_region ?_
    refine opsP_evk' (st' := ⟨67, [(1, .fptr (Enc.cells a0) 0), (8, B ((a0.fKind == 4)))], []⟩) τ_ok [] 4 [1, 8] (by kernel_rfl) ?_
    rcases Bool.eq_false_or_eq_true ((a0.fKind == 4)) with hc50 | hc50
    · replace h := bifT hc50 h
      rw [hc50]
      refine opsP_evk' (st' := ⟨67, [(1, .fptr (Enc.cells a0) 0), (3, B true)], []⟩) τ_ok [] 5 [1, 3] (by kernel_rfl) ?_
      refine opsP_end rfl ?_
      exact ⟨true, h, (Imp.to (st' := ⟨67, [(1, .fptr (Enc.cells a0) 0), (3, B true)], []⟩) [1, 3] (by kernel_rfl)).trans (Imp.to [1, 3] (by kernel_rfl))⟩
    · replace h := bifF hc50 h
      rw [hc50]
      refine opsP_evk' (st' := ⟨67, [(1, .fptr (Enc.cells a0) 0), (3, B ((a0.fKind == 5)))], []⟩) τ_ok [] 5 [1, 3] (by kernel_rfl) ?_
      refine opsP_end rfl ?_
      exact ⟨(a0.fKind == 5), h, (Imp.to (st' := ⟨67, [(1, .fptr (Enc.cells a0) 0), (3, B ((a0.fKind == 5)))], []⟩) [1, 3] (by kernel_rfl)).trans (Imp.to [1, 3] (by kernel_rfl))⟩
  · rintro x1 h
    skip
    unfold impl_Step_plain_j0 at h
    refine pwp_seq ?_
    refine pwp_join (σ := Bool) (fun x2 => (⟨67, [(1, .fptr (Enc.cells a0) 0), (3, B x1), (4, B x2)], []⟩ : St)) (fun x2 => impl_Step_plain_j1 a0 x1 x2 = some y) ?_ ?_
    · refine pwp_region ?_
      refine opsP_evk' (st' := ⟨67, [(1, .fptr (Enc.cells a0) 0), (3, B x1), (16, B ((a0.fKind == 2)))], []⟩) τ_ok [] 4 [1, 3, 16] (by kernel_rfl) ?_
      rcases Bool.eq_false_or_eq_true ((a0.fKind == 2)) with hc49 | hc49
      · replace h := bifT hc49 h
        rw [hc49]
        refine opsP_evk' (st' := ⟨67, [(1, .fptr (Enc.cells a0) 0), (3, B x1), (4, B true)], []⟩) τ_ok [] 5 [1, 3, 4] (by kernel_rfl) ?_
        refine opsP_end rfl ?_
        exact ⟨true, h, (Imp.to (st' := ⟨67, [(1, .fptr (Enc.cells a0) 0), (3, B x1), (4, B true)], []⟩) [1, 3, 4] (by kernel_rfl)).trans (Imp.to [1, 3, 4] (by kernel_rfl))⟩
      · replace h := bifF hc49 h
        rw [hc49]
        refine opsP_evk' (st' := ⟨67, [(1, .fptr (Enc.cells a0) 0), (3, B x1), (4, B ((a0.fKind == 4)))], []⟩) τ_ok [] 5 [1, 3, 4] (by kernel_rfl) ?_
        refine opsP_end rfl ?_
        exact ⟨(a0.fKind == 4), h, (Imp.to (st' := ⟨67, [(1, .fptr (Enc.cells a0) 0), (3, B x1), (4, B ((a0.fKind == 4)))], []⟩) [1, 3, 4] (by kernel_rfl)).trans (Imp.to [1, 3, 4] (by kernel_rfl))⟩
    · rintro x2 h
      skip
      unfold impl_Step_plain_j1 at h
      refine pwp_seq ?_
      refine pwp_region ?_
      refine opsP_evk' (st' := ⟨67, [(1, .fptr (Enc.cells a0) 0), (3, B x1), (4, B x2), (24, B ((!(a0.fKind == 1))))], []⟩) τ_ok [] 4 [1, 3, 4, 24] (by kernel_rfl) ?_
      rcases Bool.eq_false_or_eq_true ((!(a0.fKind == 1))) with hc48 | hc48
      · replace h := bifT hc48 h
        rw [hc48]
        refine opsP_evk' (st' := ⟨67, [(1, .fptr (Enc.cells a0) 0), (4, B x2), (29, B true), (31, B x1)], []⟩) τ_ok [] 7 [1, 4, 29, 31] (by kernel_rfl) ?_
        rcases Bool.eq_false_or_eq_true x1 with hc24 | hc24
        · replace h := bifT hc24 h
          rw [hc24]
          refine opsP_evk' (st' := ⟨67, [(1, .fptr (Enc.cells a0) 0), (4, B x2), (37, B true), (41, B ((a0.fKind == 1)))], []⟩) τ_ok [] 10 [1, 4, 37, 41] (by kernel_rfl) ?_
          rcases Bool.eq_false_or_eq_true ((a0.fKind == 1)) with hc12 | hc12
          · replace h := bifT hc12 h
            rw [hc12]
            refine opsP_evk' (st' := ⟨67, [(1, .fptr (Enc.cells a0) 0), (47, B true), (49, B x2)], []⟩) τ_ok [] 8 [1, 47, 49] (by kernel_rfl) ?_
            rcases Bool.eq_false_or_eq_true x2 with hc6 | hc6
            · replace h := bifT hc6 h
              rw [hc6]
              refine opsP_evk' (st' := ⟨67, [(1, .fptr (Enc.cells a0) 0), (56, B true), (60, B ((a0.fKind == 3)))], []⟩) τ_ok [] 11 [1, 56, 60] (by kernel_rfl) ?_
              rcases Bool.eq_false_or_eq_true ((a0.fKind == 3)) with hc3 | hc3
              · replace h := bifT hc3 h
                rw [hc3]
                refine opsP_evk' (st' := ⟨67, [(2, B true)], []⟩) τ_ok [] 7 [2] (by kernel_rfl) ?_
                refine opsP_end rfl ?_
                have h := Option.some.inj h
                subst h
                exact pwp_ret ⟨.inr rfl, B true, _, by kernel_rfl, (OutP.frz (by kernel_rfl)), by decide⟩
              · replace h := bifF hc3 h
                rw [hc3]
                refine opsP_evk' (st' := ⟨67, [(2, B ((((a0.fList.length : Int)) == 0)))], []⟩) τ_ok [] 7 [2] (by kernel_rfl) ?_
                refine opsP_end rfl ?_
                have h := Option.some.inj h
                subst h
                exact pwp_ret ⟨.inr rfl, B ((((a0.fList.length : Int)) == 0)), _, by kernel_rfl, (OutP.frz (by kernel_rfl)), by decide⟩
            · replace h := bifF hc6 h
              rw [hc6]
              refine opsP_evk' (st' := ⟨67, [(1, .fptr (Enc.cells a0) 0), (56, B ((((a0.fE.length : Int)) == 0)))], []⟩) τ_ok [] 7 [1, 56] (by kernel_rfl) ?_
              rcases Bool.eq_false_or_eq_true ((((a0.fE.length : Int)) == 0)) with hc5 | hc5
              · replace h := bifT hc5 h
                rw [hc5]
                refine opsP_evk' (st' := ⟨67, [(1, .fptr (Enc.cells a0) 0), (56, B true), (60, B ((a0.fKind == 3)))], []⟩) τ_ok [] 4 [1, 56, 60] (by kernel_rfl) ?_
                rcases Bool.eq_false_or_eq_true ((a0.fKind == 3)) with hc4 | hc4
                · replace h := bifT hc4 h
                  rw [hc4]
                  refine opsP_evk' (st' := ⟨67, [(2, B true)], []⟩) τ_ok [] 7 [2] (by kernel_rfl) ?_
                  refine opsP_end rfl ?_
                  have h := Option.some.inj h
                  subst h
                  exact pwp_ret ⟨.inr rfl, B true, _, by kernel_rfl, (OutP.frz (by kernel_rfl)), by decide⟩
                · replace h := bifF hc4 h
                  rw [hc4]
                  refine opsP_evk' (st' := ⟨67, [(2, B ((((a0.fList.length : Int)) == 0)))], []⟩) τ_ok [] 7 [2] (by kernel_rfl) ?_
                  refine opsP_end rfl ?_
                  have h := Option.some.inj h
                  subst h
                  exact pwp_ret ⟨.inr rfl, B ((((a0.fList.length : Int)) == 0)), _, by kernel_rfl, (OutP.frz (by kernel_rfl)), by decide⟩
              · replace h := bifF hc5 h
                rw [hc5]
                refine opsP_evk' (st' := ⟨67, [(2, B false)], []⟩) τ_ok [] 11 [2] (by kernel_rfl) ?_
                refine opsP_end rfl ?_
                have h := Option.some.inj h
                subst h
                exact pwp_ret ⟨.inr rfl, B false, _, by kernel_rfl, (OutP.frz (by kernel_rfl)), by decide⟩
          · replace h := bifF hc12 h
            rw [hc12]
            refine opsP_evk' (st' := ⟨67, [(1, .fptr (Enc.cells a0) 0), (4, B x2), (47, B ((a0.fN == 0)))], []⟩) τ_ok [] 6 [1, 4, 47] (by kernel_rfl) ?_
            rcases Bool.eq_false_or_eq_true ((a0.fN == 0)) with hc11 | hc11
            · replace h := bifT hc11 h
              rw [hc11]
              refine opsP_evk' (st' := ⟨67, [(1, .fptr (Enc.cells a0) 0), (47, B true), (49, B x2)], []⟩) τ_ok [] 2 [1, 47, 49] (by kernel_rfl) ?_
              rcases Bool.eq_false_or_eq_true x2 with hc10 | hc10
              · replace h := bifT hc10 h
                rw [hc10]
                refine opsP_evk' (st' := ⟨67, [(1, .fptr (Enc.cells a0) 0), (56, B true), (60, B ((a0.fKind == 3)))], []⟩) τ_ok [] 11 [1, 56, 60] (by kernel_rfl) ?_
                rcases Bool.eq_false_or_eq_true ((a0.fKind == 3)) with hc7 | hc7
                · replace h := bifT hc7 h
                  rw [hc7]
                  refine opsP_evk' (st' := ⟨67, [(2, B true)], []⟩) τ_ok [] 7 [2] (by kernel_rfl) ?_
                  refine opsP_end rfl ?_
                  have h := Option.some.inj h
                  subst h
                  exact pwp_ret ⟨.inr rfl, B true, _, by kernel_rfl, (OutP.frz (by kernel_rfl)), by decide⟩
                · replace h := bifF hc7 h
                  rw [hc7]
                  refine opsP_evk' (st' := ⟨67, [(2, B ((((a0.fList.length : Int)) == 0)))], []⟩) τ_ok [] 7 [2] (by kernel_rfl) ?_
                  refine opsP_end rfl ?_
                  have h := Option.some.inj h
                  subst h
                  exact pwp_ret ⟨.inr rfl, B ((((a0.fList.length : Int)) == 0)), _, by kernel_rfl, (OutP.frz (by kernel_rfl)), by decide⟩
              · replace h := bifF hc10 h
                rw [hc10]
                refine opsP_evk' (st' := ⟨67, [(1, .fptr (Enc.cells a0) 0), (56, B ((((a0.fE.length : Int)) == 0)))], []⟩) τ_ok [] 7 [1, 56] (by kernel_rfl) ?_
                rcases Bool.eq_false_or_eq_true ((((a0.fE.length : Int)) == 0)) with hc9 | hc9
                · replace h := bifT hc9 h
                  rw [hc9]
                  refine opsP_evk' (st' := ⟨67, [(1, .fptr (Enc.cells a0) 0), (56, B true), (60, B ((a0.fKind == 3)))], []⟩) τ_ok [] 4 [1, 56, 60] (by kernel_rfl) ?_
                  rcases Bool.eq_false_or_eq_true ((a0.fKind == 3)) with hc8 | hc8
                  · replace h := bifT hc8 h
                    rw [hc8]
                    refine opsP_evk' (st' := ⟨67, [(2, B true)], []⟩) τ_ok [] 7 [2] (by kernel_rfl) ?_
                    refine opsP_end rfl ?_
                    have h := Option.some.inj h
                    subst h
                    exact pwp_ret ⟨.inr rfl, B true, _, by kernel_rfl, (OutP.frz (by kernel_rfl)), by decide⟩
                  · replace h := bifF hc8 h
                    rw [hc8]
                    refine opsP_evk' (st' := ⟨67, [(2, B ((((a0.fList.length : Int)) == 0)))], []⟩) τ_ok [] 7 [2] (by kernel_rfl) ?_
                    refine opsP_end rfl ?_
                    have h := Option.some.inj h
                    subst h
                    exact pwp_ret ⟨.inr rfl, B ((((a0.fList.length : Int)) == 0)), _, by kernel_rfl, (OutP.frz (by kernel_rfl)), by decide⟩
                · replace h := bifF hc9 h
                  rw [hc9]
                  refine opsP_evk' (st' := ⟨67, [(2, B false)], []⟩) τ_ok [] 11 [2] (by kernel_rfl) ?_
                  refine opsP_end rfl ?_
                  have h := Option.some.inj h
                  subst h
                  exact pwp_ret ⟨.inr rfl, B false, _, by kernel_rfl, (OutP.frz (by kernel_rfl)), by decide⟩
            · replace h := bifF hc11 h
              rw [hc11]
              refine opsP_evk' (st' := ⟨67, [(2, B false)], []⟩) τ_ok [] 20 [2] (by kernel_rfl) ?_
              refine opsP_end rfl ?_
              have h := Option.some.inj h
              subst h
              exact pwp_ret ⟨.inr rfl, B false, _, by kernel_rfl, (OutP.frz (by kernel_rfl)), by decide⟩
        · replace h := bifF hc24 h
          rw [hc24]
          refine opsP_evk' (st' := ⟨67, [(1, .fptr (Enc.cells a0) 0), (4, B x2), (37, B ((a0.fB == 0)))], []⟩) τ_ok [] 6 [1, 4, 37] (by kernel_rfl) ?_
          rcases Bool.eq_false_or_eq_true ((a0.fB == 0)) with hc23 | hc23
          · replace h := bifT hc23 h
            rw [hc23]
            refine opsP_evk' (st' := ⟨67, [(1, .fptr (Enc.cells a0) 0), (4, B x2), (37, B true), (41, B ((a0.fKind == 1)))], []⟩) τ_ok [] 4 [1, 4, 37, 41] (by kernel_rfl) ?_
            rcases Bool.eq_false_or_eq_true ((a0.fKind == 1)) with hc22 | hc22
            · replace h := bifT hc22 h
              rw [hc22]
              refine opsP_evk' (st' := ⟨67, [(1, .fptr (Enc.cells a0) 0), (47, B true), (49, B x2)], []⟩) τ_ok [] 8 [1, 47, 49] (by kernel_rfl) ?_
              rcases Bool.eq_false_or_eq_true x2 with hc16 | hc16
              · replace h := bifT hc16 h
                rw [hc16]
                refine opsP_evk' (st' := ⟨67, [(1, .fptr (Enc.cells a0) 0), (56, B true), (60, B ((a0.fKind == 3)))], []⟩) τ_ok [] 11 [1, 56, 60] (by kernel_rfl) ?_
                rcases Bool.eq_false_or_eq_true ((a0.fKind == 3)) with hc13 | hc13
                · replace h := bifT hc13 h
                  rw [hc13]
                  refine opsP_evk' (st' := ⟨67, [(2, B true)], []⟩) τ_ok [] 7 [2] (by kernel_rfl) ?_
                  refine opsP_end rfl ?_
                  have h := Option.some.inj h
                  subst h
                  exact pwp_ret ⟨.inr rfl, B true, _, by kernel_rfl, (OutP.frz (by kernel_rfl)), by decide⟩
                · replace h := bifF hc13 h
                  rw [hc13]
                  refine opsP_evk' (st' := ⟨67, [(2, B ((((a0.fList.length : Int)) == 0)))], []⟩) τ_ok [] 7 [2] (by kernel_rfl) ?_
                  refine opsP_end rfl ?_
                  have h := Option.some.inj h
                  subst h
                  exact pwp_ret ⟨.inr rfl, B ((((a0.fList.length : Int)) == 0)), _, by kernel_rfl, (OutP.frz (by kernel_rfl)), by decide⟩
              · replace h := bifF hc16 h
                rw [hc16]
                refine opsP_evk' (st' := ⟨67, [(1, .fptr (Enc.cells a0) 0), (56, B ((((a0.fE.length : Int)) == 0)))], []⟩) τ_ok [] 7 [1, 56] (by kernel_rfl) ?_
                rcases Bool.eq_false_or_eq_true ((((a0.fE.length : Int)) == 0)) with hc15 | hc15
                · replace h := bifT hc15 h
                  rw [hc15]
                  refine opsP_evk' (st' := ⟨67, [(1, .fptr (Enc.cells a0) 0), (56, B true), (60, B ((a0.fKind == 3)))], []⟩) τ_ok [] 4 [1, 56, 60] (by kernel_rfl) ?_
                  rcases Bool.eq_false_or_eq_true ((a0.fKind == 3)) with hc14 | hc14
                  · replace h := bifT hc14 h
                    rw [hc14]
                    refine opsP_evk' (st' := ⟨67, [(2, B true)], []⟩) τ_ok [] 7 [2] (by kernel_rfl) ?_
                    refine opsP_end rfl ?_
                    have h := Option.some.inj h
                    subst h
                    exact pwp_ret ⟨.inr rfl, B true, _, by kernel_rfl, (OutP.frz (by kernel_rfl)), by decide⟩
                  · replace h := bifF hc14 h
                    rw [hc14]
                    refine opsP_evk' (st' := ⟨67, [(2, B ((((a0.fList.length : Int)) == 0)))], []⟩) τ_ok [] 7 [2] (by kernel_rfl) ?_
                    refine opsP_end rfl ?_
                    have h := Option.some.inj h
                    subst h
                    exact pwp_ret ⟨.inr rfl, B ((((a0.fList.length : Int)) == 0)), _, by kernel_rfl, (OutP.frz (by kernel_rfl)), by decide⟩
                · replace h := bifF hc15 h
                  rw [hc15]
                  refine opsP_evk' (st' := ⟨67, [(2, B false)], []⟩) τ_ok [] 11 [2] (by kernel_rfl) ?_
                  refine opsP_end rfl ?_
                  have h := Option.some.inj h
                  subst h
                  exact pwp_ret ⟨.inr rfl, B false, _, by kernel_rfl, (OutP.frz (by kernel_rfl)), by decide⟩
            · replace h := bifF hc22 h
              rw [hc22]
              refine opsP_evk' (st' := ⟨67, [(1, .fptr (Enc.cells a0) 0), (4, B x2), (47, B ((a0.fN == 0)))], []⟩) τ_ok [] 6 [1, 4, 47] (by kernel_rfl) ?_
              rcases Bool.eq_false_or_eq_true ((a0.fN == 0)) with hc21 | hc21
              · replace h := bifT hc21 h
                rw [hc21]
                refine opsP_evk' (st' := ⟨67, [(1, .fptr (Enc.cells a0) 0), (47, B true), (49, B x2)], []⟩) τ_ok [] 2 [1, 47, 49] (by kernel_rfl) ?_
                rcases Bool.eq_false_or_eq_true x2 with hc20 | hc20
                · replace h := bifT hc20 h
                  rw [hc20]
                  refine opsP_evk' (st' := ⟨67, [(1, .fptr (Enc.cells a0) 0), (56, B true), (60, B ((a0.fKind == 3)))], []⟩) τ_ok [] 11 [1, 56, 60] (by kernel_rfl) ?_
                  rcases Bool.eq_false_or_eq_true ((a0.fKind == 3)) with hc17 | hc17
                  · replace h := bifT hc17 h
                    rw [hc17]
                    refine opsP_evk' (st' := ⟨67, [(2, B true)], []⟩) τ_ok [] 7 [2] (by kernel_rfl) ?_
                    refine opsP_end rfl ?_
                    have h := Option.some.inj h
                    subst h
                    exact pwp_ret ⟨.inr rfl, B true, _, by kernel_rfl, (OutP.frz (by kernel_rfl)), by decide⟩
                  · replace h := bifF hc17 h
                    rw [hc17]
                    refine opsP_evk' (st' := ⟨67, [(2, B ((((a0.fList.length : Int)) == 0)))], []⟩) τ_ok [] 7 [2] (by kernel_rfl) ?_
                    refine opsP_end rfl ?_
                    have h := Option.some.inj h
                    subst h
                    exact pwp_ret ⟨.inr rfl, B ((((a0.fList.length : Int)) == 0)), _, by kernel_rfl, (OutP.frz (by kernel_rfl)), by decide⟩
                · replace h := bifF hc20 h
                  rw [hc20]
                  refine opsP_evk' (st' := ⟨67, [(1, .fptr (Enc.cells a0) 0), (56, B ((((a0.fE.length : Int)) == 0)))], []⟩) τ_ok [] 7 [1, 56] (by kernel_rfl) ?_
                  rcases Bool.eq_false_or_eq_true ((((a0.fE.length : Int)) == 0)) with hc19 | hc19
                  · replace h := bifT hc19 h
                    rw [hc19]
                    refine opsP_evk' (st' := ⟨67, [(1, .fptr (Enc.cells a0) 0), (56, B true), (60, B ((a0.fKind == 3)))], []⟩) τ_ok [] 4 [1, 56, 60] (by kernel_rfl) ?_
                    rcases Bool.eq_false_or_eq_true ((a0.fKind == 3)) with hc18 | hc18
                    · replace h := bifT hc18 h
                      rw [hc18]
                      refine opsP_evk' (st' := ⟨67, [(2, B true)], []⟩) τ_ok [] 7 [2] (by kernel_rfl) ?_
                      refine opsP_end rfl ?_
                      have h := Option.some.inj h
                      subst h
                      exact pwp_ret ⟨.inr rfl, B true, _, by kernel_rfl, (OutP.frz (by kernel_rfl)), by decide⟩
                    · replace h := bifF hc18 h
                      rw [hc18]
                      refine opsP_evk' (st' := ⟨67, [(2, B ((((a0.fList.length : Int)) == 0)))], []⟩) τ_ok [] 7 [2] (by kernel_rfl) ?_
                      refine opsP_end rfl ?_
                      have h := Option.some.inj h
                      subst h
                      exact pwp_ret ⟨.inr rfl, B ((((a0.fList.length : Int)) == 0)), _, by kernel_rfl, (OutP.frz (by kernel_rfl)), by decide⟩
                  · replace h := bifF hc19 h
                    rw [hc19]
                    refine opsP_evk' (st' := ⟨67, [(2, B false)], []⟩) τ_ok [] 11 [2] (by kernel_rfl) ?_
                    refine opsP_end rfl ?_
                    have h := Option.some.inj h
                    subst h
                    exact pwp_ret ⟨.inr rfl, B false, _, by kernel_rfl, (OutP.frz (by kernel_rfl)), by decide⟩
              · replace h := bifF hc21 h
                rw [hc21]
                refine opsP_evk' (st' := ⟨67, [(2, B false)], []⟩) τ_ok [] 20 [2] (by kernel_rfl) ?_
                refine opsP_end rfl ?_
                have h := Option.some.inj h
                subst h
                exact pwp_ret ⟨.inr rfl, B false, _, by kernel_rfl, (OutP.frz (by kernel_rfl)), by decide⟩
          · replace h := bifF hc23 h
            rw [hc23]
            refine opsP_evk' (st' := ⟨67, [(2, B false)], []⟩) τ_ok [] 30 [2] (by kernel_rfl) ?_
            refine opsP_end rfl ?_
            have h := Option.some.inj h
            subst h
            exact pwp_ret ⟨.inr rfl, B false, _, by kernel_rfl, (OutP.frz (by kernel_rfl)), by decide⟩
      · replace h := bifF hc48 h
        rw [hc48]
        refine opsP_evk' (st' := ⟨67, [(1, .fptr (Enc.cells a0) 0), (3, B x1), (4, B x2), (29, B ((a0.fA == 0)))], []⟩) τ_ok [] 5 [1, 3, 4, 29] (by kernel_rfl) ?_
        rcases Bool.eq_false_or_eq_true ((a0.fA == 0)) with hc47 | hc47
        · replace h := bifT hc47 h
          rw [hc47]
          refine opsP_evk' (st' := ⟨67, [(1, .fptr (Enc.cells a0) 0), (4, B x2), (29, B true), (31, B x1)], []⟩) τ_ok [] 2 [1, 4, 29, 31] (by kernel_rfl) ?_
          rcases Bool.eq_false_or_eq_true x1 with hc46 | hc46
          · replace h := bifT hc46 h
            rw [hc46]
            refine opsP_evk' (st' := ⟨67, [(1, .fptr (Enc.cells a0) 0), (4, B x2), (37, B true), (41, B ((a0.fKind == 1)))], []⟩) τ_ok [] 10 [1, 4, 37, 41] (by kernel_rfl) ?_
            rcases Bool.eq_false_or_eq_true ((a0.fKind == 1)) with hc34 | hc34
            · replace h := bifT hc34 h
              rw [hc34]
              refine opsP_evk' (st' := ⟨67, [(1, .fptr (Enc.cells a0) 0), (47, B true), (49, B x2)], []⟩) τ_ok [] 8 [1, 47, 49] (by kernel_rfl) ?_
              rcases Bool.eq_false_or_eq_true x2 with hc28 | hc28
              · replace h := bifT hc28 h
                rw [hc28]
                refine opsP_evk' (st' := ⟨67, [(1, .fptr (Enc.cells a0) 0), (56, B true), (60, B ((a0.fKind == 3)))], []⟩) τ_ok [] 11 [1, 56, 60] (by kernel_rfl) ?_
                rcases Bool.eq_false_or_eq_true ((a0.fKind == 3)) with hc25 | hc25
                · replace h := bifT hc25 h
                  rw [hc25]
                  refine opsP_evk' (st' := ⟨67, [(2, B true)], []⟩) τ_ok [] 7 [2] (by kernel_rfl) ?_
                  refine opsP_end rfl ?_
                  have h := Option.some.inj h
                  subst h
                  exact pwp_ret ⟨.inr rfl, B true, _, by kernel_rfl, (OutP.frz (by kernel_rfl)), by decide⟩
                · replace h := bifF hc25 h
                  rw [hc25]
                  refine opsP_evk' (st' := ⟨67, [(2, B ((((a0.fList.length : Int)) == 0)))], []⟩) τ_ok [] 7 [2] (by kernel_rfl) ?_
                  refine opsP_end rfl ?_
                  have h := Option.some.inj h
                  subst h
                  exact pwp_ret ⟨.inr rfl, B ((((a0.fList.length : Int)) == 0)), _, by kernel_rfl, (OutP.frz (by kernel_rfl)), by decide⟩
              · replace h := bifF hc28 h
                rw [hc28]
                refine opsP_evk' (st' := ⟨67, [(1, .fptr (Enc.cells a0) 0), (56, B ((((a0.fE.length : Int)) == 0)))], []⟩) τ_ok [] 7 [1, 56] (by kernel_rfl) ?_
                rcases Bool.eq_false_or_eq_true ((((a0.fE.length : Int)) == 0)) with hc27 | hc27
                · replace h := bifT hc27 h
                  rw [hc27]
                  refine opsP_evk' (st' := ⟨67, [(1, .fptr (Enc.cells a0) 0), (56, B true), (60, B ((a0.fKind == 3)))], []⟩) τ_ok [] 4 [1, 56, 60] (by kernel_rfl) ?_
                  rcases Bool.eq_false_or_eq_true ((a0.fKind == 3)) with hc26 | hc26
                  · replace h := bifT hc26 h
                    rw [hc26]
                    refine opsP_evk' (st' := ⟨67, [(2, B true)], []⟩) τ_ok [] 7 [2] (by kernel_rfl) ?_
                    refine opsP_end rfl ?_
                    have h := Option.some.inj h
                    subst h
                    exact pwp_ret ⟨.inr rfl, B true, _, by kernel_rfl, (OutP.frz (by kernel_rfl)), by decide⟩
                  · replace h := bifF hc26 h
                    rw [hc26]
                    refine opsP_evk' (st' := ⟨67, [(2, B ((((a0.fList.length : Int)) == 0)))], []⟩) τ_ok [] 7 [2] (by kernel_rfl) ?_
                    refine opsP_end rfl ?_
                    have h := Option.some.inj h
                    subst h
                    exact pwp_ret ⟨.inr rfl, B ((((a0.fList.length : Int)) == 0)), _, by kernel_rfl, (OutP.frz (by kernel_rfl)), by decide⟩
                · replace h := bifF hc27 h
                  rw [hc27]
                  refine opsP_evk' (st' := ⟨67, [(2, B false)], []⟩) τ_ok [] 11 [2] (by kernel_rfl) ?_
                  refine opsP_end rfl ?_
                  have h := Option.some.inj h
                  subst h
                  exact pwp_ret ⟨.inr rfl, B false, _, by kernel_rfl, (OutP.frz (by kernel_rfl)), by decide⟩
            · replace h := bifF hc34 h
              rw [hc34]
              refine opsP_evk' (st' := ⟨67, [(1, .fptr (Enc.cells a0) 0), (4, B x2), (47, B ((a0.fN == 0)))], []⟩) τ_ok [] 6 [1, 4, 47] (by kernel_rfl) ?_
              rcases Bool.eq_false_or_eq_true ((a0.fN == 0)) with hc33 | hc33
              · replace h := bifT hc33 h
                rw [hc33]
                refine opsP_evk' (st' := ⟨67, [(1, .fptr (Enc.cells a0) 0), (47, B true), (49, B x2)], []⟩) τ_ok [] 2 [1, 47, 49] (by kernel_rfl) ?_
                rcases Bool.eq_false_or_eq_true x2 with hc32 | hc32
                · replace h := bifT hc32 h
                  rw [hc32]
                  refine opsP_evk' (st' := ⟨67, [(1, .fptr (Enc.cells a0) 0), (56, B true), (60, B ((a0.fKind == 3)))], []⟩) τ_ok [] 11 [1, 56, 60] (by kernel_rfl) ?_
                  rcases Bool.eq_false_or_eq_true ((a0.fKind == 3)) with hc29 | hc29
                  · replace h := bifT hc29 h
                    rw [hc29]
                    refine opsP_evk' (st' := ⟨67, [(2, B true)], []⟩) τ_ok [] 7 [2] (by kernel_rfl) ?_
                    refine opsP_end rfl ?_
                    have h := Option.some.inj h
                    subst h
                    exact pwp_ret ⟨.inr rfl, B true, _, by kernel_rfl, (OutP.frz (by kernel_rfl)), by decide⟩
                  · replace h := bifF hc29 h
                    rw [hc29]
                    refine opsP_evk' (st' := ⟨67, [(2, B ((((a0.fList.length : Int)) == 0)))], []⟩) τ_ok [] 7 [2] (by kernel_rfl) ?_
                    refine opsP_end rfl ?_
                    have h := Option.some.inj h
                    subst h
                    exact pwp_ret ⟨.inr rfl, B ((((a0.fList.length : Int)) == 0)), _, by kernel_rfl, (OutP.frz (by kernel_rfl)), by decide⟩
                · replace h := bifF hc32 h
                  rw [hc32]
                  refine opsP_evk' (st' := ⟨67, [(1, .fptr (Enc.cells a0) 0), (56, B ((((a0.fE.length : Int)) == 0)))], []⟩) τ_ok [] 7 [1, 56] (by kernel_rfl) ?_
                  rcases Bool.eq_false_or_eq_true ((((a0.fE.length : Int)) == 0)) with hc31 | hc31
                  · replace h := bifT hc31 h
                    rw [hc31]
                    refine opsP_evk' (st' := ⟨67, [(1, .fptr (Enc.cells a0) 0), (56, B true), (60, B ((a0.fKind == 3)))], []⟩) τ_ok [] 4 [1, 56, 60] (by kernel_rfl) ?_
                    rcases Bool.eq_false_or_eq_true ((a0.fKind == 3)) with hc30 | hc30
                    · replace h := bifT hc30 h
                      rw [hc30]
                      refine opsP_evk' (st' := ⟨67, [(2, B true)], []⟩) τ_ok [] 7 [2] (by kernel_rfl) ?_
                      refine opsP_end rfl ?_
                      have h := Option.some.inj h
                      subst h
                      exact pwp_ret ⟨.inr rfl, B true, _, by kernel_rfl, (OutP.frz (by kernel_rfl)), by decide⟩
                    · replace h := bifF hc30 h
                      rw [hc30]
                      refine opsP_evk' (st' := ⟨67, [(2, B ((((a0.fList.length : Int)) == 0)))], []⟩) τ_ok [] 7 [2] (by kernel_rfl) ?_
                      refine opsP_end rfl ?_
                      have h := Option.some.inj h
                      subst h
                      exact pwp_ret ⟨.inr rfl, B ((((a0.fList.length : Int)) == 0)), _, by kernel_rfl, (OutP.frz (by kernel_rfl)), by decide⟩
                  · replace h := bifF hc31 h
                    rw [hc31]
                    refine opsP_evk' (st' := ⟨67, [(2, B false)], []⟩) τ_ok [] 11 [2] (by kernel_rfl) ?_
                    refine opsP_end rfl ?_
                    have h := Option.some.inj h
                    subst h
                    exact pwp_ret ⟨.inr rfl, B false, _, by kernel_rfl, (OutP.frz (by kernel_rfl)), by decide⟩
              · replace h := bifF hc33 h
                rw [hc33]
                refine opsP_evk' (st' := ⟨67, [(2, B false)], []⟩) τ_ok [] 20 [2] (by kernel_rfl) ?_
                refine opsP_end rfl ?_
                have h := Option.some.inj h
                subst h
                exact pwp_ret ⟨.inr rfl, B false, _, by kernel_rfl, (OutP.frz (by kernel_rfl)), by decide⟩
          · replace h := bifF hc46 h
            rw [hc46]
            refine opsP_evk' (st' := ⟨67, [(1, .fptr (Enc.cells a0) 0), (4, B x2), (37, B ((a0.fB == 0)))], []⟩) τ_ok [] 6 [1, 4, 37] (by kernel_rfl) ?_
            rcases Bool.eq_false_or_eq_true ((a0.fB == 0)) with hc45 | hc45
            · replace h := bifT hc45 h
              rw [hc45]
              refine opsP_evk' (st' := ⟨67, [(1, .fptr (Enc.cells a0) 0), (4, B x2), (37, B true), (41, B ((a0.fKind == 1)))], []⟩) τ_ok [] 4 [1, 4, 37, 41] (by kernel_rfl) ?_
              rcases Bool.eq_false_or_eq_true ((a0.fKind == 1)) with hc44 | hc44
              · replace h := bifT hc44 h
                rw [hc44]
                refine opsP_evk' (st' := ⟨67, [(1, .fptr (Enc.cells a0) 0), (47, B true), (49, B x2)], []⟩) τ_ok [] 8 [1, 47, 49] (by kernel_rfl) ?_
                rcases Bool.eq_false_or_eq_true x2 with hc38 | hc38
                · replace h := bifT hc38 h
                  rw [hc38]
                  refine opsP_evk' (st' := ⟨67, [(1, .fptr (Enc.cells a0) 0), (56, B true), (60, B ((a0.fKind == 3)))], []⟩) τ_ok [] 11 [1, 56, 60] (by kernel_rfl) ?_
                  rcases Bool.eq_false_or_eq_true ((a0.fKind == 3)) with hc35 | hc35
                  · replace h := bifT hc35 h
                    rw [hc35]
                    refine opsP_evk' (st' := ⟨67, [(2, B true)], []⟩) τ_ok [] 7 [2] (by kernel_rfl) ?_
                    refine opsP_end rfl ?_
                    have h := Option.some.inj h
                    subst h
                    exact pwp_ret ⟨.inr rfl, B true, _, by kernel_rfl, (OutP.frz (by kernel_rfl)), by decide⟩
                  · replace h := bifF hc35 h
                    rw [hc35]
                    refine opsP_evk' (st' := ⟨67, [(2, B ((((a0.fList.length : Int)) == 0)))], []⟩) τ_ok [] 7 [2] (by kernel_rfl) ?_
                    refine opsP_end rfl ?_
                    have h := Option.some.inj h
                    subst h
                    exact pwp_ret ⟨.inr rfl, B ((((a0.fList.length : Int)) == 0)), _, by kernel_rfl, (OutP.frz (by kernel_rfl)), by decide⟩
                · replace h := bifF hc38 h
                  rw [hc38]
                  refine opsP_evk' (st' := ⟨67, [(1, .fptr (Enc.cells a0) 0), (56, B ((((a0.fE.length : Int)) == 0)))], []⟩) τ_ok [] 7 [1, 56] (by kernel_rfl) ?_
                  rcases Bool.eq_false_or_eq_true ((((a0.fE.length : Int)) == 0)) with hc37 | hc37
                  · replace h := bifT hc37 h
                    rw [hc37]
                    refine opsP_evk' (st' := ⟨67, [(1, .fptr (Enc.cells a0) 0), (56, B true), (60, B ((a0.fKind == 3)))], []⟩) τ_ok [] 4 [1, 56, 60] (by kernel_rfl) ?_
                    rcases Bool.eq_false_or_eq_true ((a0.fKind == 3)) with hc36 | hc36
                    · replace h := bifT hc36 h
                      rw [hc36]
                      refine opsP_evk' (st' := ⟨67, [(2, B true)], []⟩) τ_ok [] 7 [2] (by kernel_rfl) ?_
                      refine opsP_end rfl ?_
                      have h := Option.some.inj h
                      subst h
                      exact pwp_ret ⟨.inr rfl, B true, _, by kernel_rfl, (OutP.frz (by kernel_rfl)), by decide⟩
                    · replace h := bifF hc36 h
                      rw [hc36]
                      refine opsP_evk' (st' := ⟨67, [(2, B ((((a0.fList.length : Int)) == 0)))], []⟩) τ_ok [] 7 [2] (by kernel_rfl) ?_
                      refine opsP_end rfl ?_
                      have h := Option.some.inj h
                      subst h
                      exact pwp_ret ⟨.inr rfl, B ((((a0.fList.length : Int)) == 0)), _, by kernel_rfl, (OutP.frz (by kernel_rfl)), by decide⟩
                  · replace h := bifF hc37 h
                    rw [hc37]
                    refine opsP_evk' (st' := ⟨67, [(2, B false)], []⟩) τ_ok [] 11 [2] (by kernel_rfl) ?_
                    refine opsP_end rfl ?_
                    have h := Option.some.inj h
                    subst h
                    exact pwp_ret ⟨.inr rfl, B false, _, by kernel_rfl, (OutP.frz (by kernel_rfl)), by decide⟩
              · replace h := bifF hc44 h
                rw [hc44]
                refine opsP_evk' (st' := ⟨67, [(1, .fptr (Enc.cells a0) 0), (4, B x2), (47, B ((a0.fN == 0)))], []⟩) τ_ok [] 6 [1, 4, 47] (by kernel_rfl) ?_
                rcases Bool.eq_false_or_eq_true ((a0.fN == 0)) with hc43 | hc43
                · replace h := bifT hc43 h
                  rw [hc43]
                  refine opsP_evk' (st' := ⟨67, [(1, .fptr (Enc.cells a0) 0), (47, B true), (49, B x2)], []⟩) τ_ok [] 2 [1, 47, 49] (by kernel_rfl) ?_
                  rcases Bool.eq_false_or_eq_true x2 with hc42 | hc42
                  · replace h := bifT hc42 h
                    rw [hc42]
                    refine opsP_evk' (st' := ⟨67, [(1, .fptr (Enc.cells a0) 0), (56, B true), (60, B ((a0.fKind == 3)))], []⟩) τ_ok [] 11 [1, 56, 60] (by kernel_rfl) ?_
                    rcases Bool.eq_false_or_eq_true ((a0.fKind == 3)) with hc39 | hc39
                    · replace h := bifT hc39 h
                      rw [hc39]
                      refine opsP_evk' (st' := ⟨67, [(2, B true)], []⟩) τ_ok [] 7 [2] (by kernel_rfl) ?_
                      refine opsP_end rfl ?_
                      have h := Option.some.inj h
                      subst h
                      exact pwp_ret ⟨.inr rfl, B true, _, by kernel_rfl, (OutP.frz (by kernel_rfl)), by decide⟩
                    · replace h := bifF hc39 h
                      rw [hc39]
                      refine opsP_evk' (st' := ⟨67, [(2, B ((((a0.fList.length : Int)) == 0)))], []⟩) τ_ok [] 7 [2] (by kernel_rfl) ?_
                      refine opsP_end rfl ?_
                      have h := Option.some.inj h
                      subst h
                      exact pwp_ret ⟨.inr rfl, B ((((a0.fList.length : Int)) == 0)), _, by kernel_rfl, (OutP.frz (by kernel_rfl)), by decide⟩
                  · replace h := bifF hc42 h
                    rw [hc42]
                    refine opsP_evk' (st' := ⟨67, [(1, .fptr (Enc.cells a0) 0), (56, B ((((a0.fE.length : Int)) == 0)))], []⟩) τ_ok [] 7 [1, 56] (by kernel_rfl) ?_
                    rcases Bool.eq_false_or_eq_true ((((a0.fE.length : Int)) == 0)) with hc41 | hc41
                    · replace h := bifT hc41 h
                      rw [hc41]
                      refine opsP_evk' (st' := ⟨67, [(1, .fptr (Enc.cells a0) 0), (56, B true), (60, B ((a0.fKind == 3)))], []⟩) τ_ok [] 4 [1, 56, 60] (by kernel_rfl) ?_
                      rcases Bool.eq_false_or_eq_true ((a0.fKind == 3)) with hc40 | hc40
                      · replace h := bifT hc40 h
                        rw [hc40]
                        refine opsP_evk' (st' := ⟨67, [(2, B true)], []⟩) τ_ok [] 7 [2] (by kernel_rfl) ?_
                        refine opsP_end rfl ?_
                        have h := Option.some.inj h
                        subst h
                        exact pwp_ret ⟨.inr rfl, B true, _, by kernel_rfl, (OutP.frz (by kernel_rfl)), by decide⟩
                      · replace h := bifF hc40 h
                        rw [hc40]
                        refine opsP_evk' (st' := ⟨67, [(2, B ((((a0.fList.length : Int)) == 0)))], []⟩) τ_ok [] 7 [2] (by kernel_rfl) ?_
                        refine opsP_end rfl ?_
                        have h := Option.some.inj h
                        subst h
                        exact pwp_ret ⟨.inr rfl, B ((((a0.fList.length : Int)) == 0)), _, by kernel_rfl, (OutP.frz (by kernel_rfl)), by decide⟩
                    · replace h := bifF hc41 h
                      rw [hc41]
                      refine opsP_evk' (st' := ⟨67, [(2, B false)], []⟩) τ_ok [] 11 [2] (by kernel_rfl) ?_
                      refine opsP_end rfl ?_
                      have h := Option.some.inj h
                      subst h
                      exact pwp_ret ⟨.inr rfl, B false, _, by kernel_rfl, (OutP.frz (by kernel_rfl)), by decide⟩
                · replace h := bifF hc43 h
                  rw [hc43]
                  refine opsP_evk' (st' := ⟨67, [(2, B false)], []⟩) τ_ok [] 20 [2] (by kernel_rfl) ?_
                  refine opsP_end rfl ?_
                  have h := Option.some.inj h
                  subst h
                  exact pwp_ret ⟨.inr rfl, B false, _, by kernel_rfl, (OutP.frz (by kernel_rfl)), by decide⟩
            · replace h := bifF hc45 h
              rw [hc45]
              refine opsP_evk' (st' := ⟨67, [(2, B false)], []⟩) τ_ok [] 30 [2] (by kernel_rfl) ?_
              refine opsP_end rfl ?_
              have h := Option.some.inj h
              subst h
              exact pwp_ret ⟨.inr rfl, B false, _, by kernel_rfl, (OutP.frz (by kernel_rfl)), by decide⟩
        · replace h := bifF hc47 h
          rw [hc47]
          refine opsP_evk' (st' := ⟨67, [(2, B false)], []⟩) τ_ok [] 38 [2] (by kernel_rfl) ?_
          refine opsP_end rfl ?_
          have h := Option.some.inj h
          subst h
          exact pwp_ret ⟨.inr rfl, B false, _, by kernel_rfl, (OutP.frz (by kernel_rfl)), by decide⟩

/- slices.IndexFunc[[]loop.example/tablehouse/impl.Table,loop.example/tablehouse/impl.Table] -/
def slices_IndexFunc_impl_Table_impl_Table_l0 (a0 : List T_impl_Table) (a1 : T_impl_Table → Option Bool) : Nat → Int → Option Int
  | 0, _ => none
  | f2 + 1, x1 => bif (decide (x1 < ((a0.length : Int)))) then (getI a0 x1).bind fun v5 => (a1 v5).bind fun v7 => bif v7 then some x1 else (slices_IndexFunc_impl_Table_impl_Table_l0 a0 a1 f2) ((w64 (x1 + 1))) else some (-1)
def slices_IndexFunc_impl_Table_impl_Table (a0 : List T_impl_Table) (a1 : T_impl_Table → Option Bool) : Option Int := slices_IndexFunc_impl_Table_impl_Table_l0 a0 a1 FUEL 0
theorem ok_slices_IndexFunc_impl_Table_impl_Table {a0 : List T_impl_Table} {g1 : FuncId} {c1 : List V} (hz1 : frzL c1 = true) {a1 : T_impl_Table → Option Bool} (hp1 : ∀ x0 y, a1 x0 = some y → OK Try.prog g1 ([E x0] ++ c1) (B y)) {y : Int} (h : slices_IndexFunc_impl_Table_impl_Table a0 a1 = some y) : OK Try.prog 92 [A a0, .fn g1 c1] (I y) := by
  refine OK_of_pwp τ_ok Try.func92 rfl (by kernel_rfl) rfl fun Γ hX => ?_
  unfold slices_IndexFunc_impl_Table_impl_Table at h
  refine pwp_seq ?_
  refine pwp_region ?_
  refine opsP_evk' (st' := ⟨19, [(0, A a0), (1, .fn g1 c1)], []⟩) τ_ok [] 1 [0, 1] (by kernel_rfl) ?_
  refine opsP_end rfl ?_
  refine pwp_seq ?_
  refine pwp_seq ?_
  refine pwp_region ?_
  refine opsP_evk' (st' := ⟨19, [(0, A a0), (1, .fn g1 c1), (7, I ((a0.length : Int))), (8, I 0)], []⟩) τ_ok [] 3 [0, 1, 7, 8] (by kernel_rfl) ?_
  refine opsP_end rfl ?_
  refine pwp_block ?_
  refine pwp_loop (ι := Nat × Int) (fun (f2, x1) => (⟨19, [(0, A a0), (1, .fn g1 c1), (7, I ((a0.length : Int))), (8, I x1)], []⟩ : St)) (fun (f2, x1) => slices_IndexFunc_impl_Table_impl_Table_l0 a0 a1 f2 x1 = some y) (fun (f2, x1) => f2) (FUEL, 0) h ((Imp.to (st' := ⟨19, [(0, A a0), (1, .fn g1 c1), (7, I ((a0.length : Int))), (8, I 0)], []⟩) [0, 1, 7, 8] (by kernel_rfl)).trans (Imp.to [0, 1, 7, 8] (by kernel_rfl))) ?_
  rintro ⟨f2, x1⟩ h
  dsimp only at h ⊢
  cases f2 with
  | zero => cases h
  | succ f2 =>
  rw [slices_IndexFunc_impl_Table_impl_Table_l0] at h
  refine pwp_seq ?_
  refine pwp_region ?_
  refine opsP_evk' (st' := ⟨19, [(0, A a0), (1, .fn g1 c1), (7, I ((a0.length : Int))), (8, I x1), (9, B ((decide (x1 < ((a0.length : Int))))))], []⟩) τ_ok [] 1 [0, 1, 7, 8, 9] (by kernel_rfl) ?_
  refine opsP_end rfl ?_
  refine pwp_seq ?_
  refine pwp_cond ((decide (x1 < ((a0.length : Int))))) (by kernel_rfl) (fun hc4 => ?_) (fun hc4 => ?_)
  · replace h := bifT hc4 h
    refine pwp_skip ?_
    refine pwp_seq ?_
    refine pwp_block ?_
    refine pwp_seq ?_
    refine pwp_region ?_
    refine opsP_evk' (st' := ⟨19, [(0, A a0), (1, .fn g1 c1), (5, I x1), (7, I ((a0.length : Int))), (8, I x1)], []⟩) τ_ok [] 2 [0, 1, 5, 7, 8] (by kernel_rfl) ?_
    refine opsP_end rfl ?_
    refine pwp_seq ?_
    refine pwp_region ?_
    refine opsP_evk' (st' := ⟨19, [(0, A a0), (1, .fn g1 c1), (5, I x1), (7, I ((a0.length : Int))), (8, I x1), (11, .fn g1 c1), (12, A a0), (13, I x1)], []⟩) τ_ok [] 3 [0, 1, 5, 7, 8, 11, 12, 13] (by kernel_rfl) ?_
    obtain ⟨v5, hv6, h⟩ := bindS h
    refine opsP_idx τ_ok 14 hv6 (by kernel_rfl) ?_
    refine opsP_evk' (st' := ⟨19, [(0, A a0), (1, .fn g1 c1), (5, I x1), (7, I ((a0.length : Int))), (8, I x1), (11, .fn g1 c1), (15, E v5)], []⟩) τ_ok [] 1 [0, 1, 5, 7, 8, 11, 15] (by kernel_rfl) ?_
    obtain ⟨v7, hv8, h⟩ := bindS h
    refine opsP_callF τ 16 (hp1 _ _ hv8) (FzTo.frz rfl) (frz_app (xs := [E v5]) rfl hz1) (by kernel_rfl) ?_
    refine opsP_evk' (st' := ⟨19, [(0, A a0), (1, .fn g1 c1), (5, I x1), (7, I ((a0.length : Int))), (8, I x1), (16, B v7)], []⟩) τ_ok [] 0 [0, 1, 5, 7, 8, 16] (by kernel_rfl) ?_
    refine opsP_end rfl ?_
    refine pwp_cond v7 (by kernel_rfl) (fun hc9 => ?_) (fun hc9 => ?_)
    · replace h := bifT hc9 h
      refine pwp_seq ?_
      refine pwp_region ?_
      refine opsP_evk' (st' := ⟨19, [(4, I x1)], []⟩) τ_ok [] 2 [4] (by kernel_rfl) ?_
      refine opsP_end rfl ?_
      have h := Option.some.inj h
      subst h
      exact pwp_ret ⟨.inr rfl, I x1, _, by kernel_rfl, (OutP.frz (by kernel_rfl)), by decide⟩
    · replace h := bifF hc9 h
      refine pwp_skip ?_
      refine pwp_region ?_
      refine opsP_evk' (st' := ⟨19, [(0, A a0), (1, .fn g1 c1), (7, I ((a0.length : Int))), (8, I ((w64 (x1 + 1))))], []⟩) τ_ok [] 2 [0, 1, 7, 8] (by kernel_rfl) ?_
      refine opsP_end rfl ?_
      exact ⟨(f2, (w64 (x1 + 1))), h, Nat.lt_succ_self _, (Imp.to (st' := ⟨19, [(0, A a0), (1, .fn g1 c1), (7, I ((a0.length : Int))), (8, I ((w64 (x1 + 1))))], []⟩) [0, 1, 7, 8] (by kernel_rfl)).trans (Imp.to [0, 1, 7, 8] (by kernel_rfl))⟩
  · replace h := bifF hc4 h
    refine pwp_exit ?_
    refine pwp_seq ?_
    refine pwp_region ?_
    refine opsP_evk' (st' := ⟨19, [(4, I (-1))], []⟩) τ_ok [] 1 [4] (by kernel_rfl) ?_
    refine opsP_end rfl ?_
    have h := Option.some.inj h
    subst h
    exact pwp_ret ⟨.inr rfl, I (-1), _, by kernel_rfl, (OutP.frz (by kernel_rfl)), by decide⟩

/- loop.example/tablehouse/impl.ColumnsOk$1 -/
def impl_ColumnsOk_1 (a0 : T_impl_Column) : Option Bool := (impl_between a0.fKind 1 3).bind fun v1 => some ((!v1))
theorem ok_impl_ColumnsOk_1 {a0 : T_impl_Column} {y : Bool} (h : impl_ColumnsOk_1 a0 = some y) : OK Try.prog 94 [E a0] (B y) := by
  refine OK_of_pwp τ_ok Try.func94 rfl (by kernel_rfl) rfl fun Γ hX => ?_
  unfold impl_ColumnsOk_1 at h
  refine pwp_seq ?_
  refine pwp_region ?_
  refine opsP_evk' (st' := ⟨7, [(1, .fptr (Enc.cells a0) 0)], []⟩) τ_ok [] 2 [1] (by kernel_rfl) ?_
  refine opsP_end rfl ?_
  refine pwp_seq ?_
  refine pwp_region ?_
  refine opsP_evk' (st' := ⟨7, [(4, I a0.fKind)], []⟩) τ_ok [] 2 [4] (by kernel_rfl) ?_
  obtain ⟨v1, hv2, h⟩ := bindS h
  refine opsP_callF τ 5 (ok_impl_between hv2) (FzTo.frz rfl) rfl (by kernel_rfl) ?_
  refine opsP_evk' (st' := ⟨7, [(2, B ((!v1)))], []⟩) τ_ok [] 2 [2] (by kernel_rfl) ?_
  refine opsP_end rfl ?_
  have h := Option.some.inj h
  subst h
  exact pwp_ret ⟨.inr rfl, B ((!v1)), _, by kernel_rfl, (OutP.frz (by kernel_rfl)), by decide⟩

/- loop.example/tablehouse/laws.szValue -/
def laws_szValue (a0 : T_laws_Value) (a1 : Int) : Option Int := bif (decide (((w64 (a1 - ((a0.fS.size : Int))))) < 0)) then some (-1) else some ((w64 (a1 - ((a0.fS.size : Int)))))
theorem ok_laws_szValue {a0 : T_laws_Value} {a1 : Int} {y : Int} (h : laws_szValue a0 a1 = some y) : OK Try.prog 101 [E a0, I a1] (I y) := by
  refine OK_of_pwp τ_ok Try.func101 rfl (by kernel_rfl) rfl fun Γ hX => ?_
  unfold laws_szValue at h
  refine pwp_seq ?_
  refine pwp_region ?_
  refine opsP_evk' (st' := ⟨13, [(1, I a1), (2, .fptr (Enc.cells a0) 0)], []⟩) τ_ok [] 2 [1, 2] (by kernel_rfl) ?_
  refine opsP_end rfl ?_
  refine pwp_seq ?_
  refine pwp_region ?_
  refine opsP_evk' (st' := ⟨13, [(1, I ((w64 (a1 - ((a0.fS.size : Int))))))], []⟩) τ_ok [] 6 [1] (by kernel_rfl) ?_
  refine opsP_end rfl ?_
  refine pwp_seq ?_
  refine pwp_seq ?_
  refine pwp_region ?_
  refine opsP_evk' (st' := ⟨13, [(1, I ((w64 (a1 - ((a0.fS.size : Int)))))), (11, B ((decide (((w64 (a1 - ((a0.fS.size : Int))))) < 0))))], []⟩) τ_ok [] 2 [1, 11] (by kernel_rfl) ?_
  refine opsP_end rfl ?_
  refine pwp_cond ((decide (((w64 (a1 - ((a0.fS.size : Int))))) < 0))) (by kernel_rfl) (fun hc1 => ?_) (fun hc1 => ?_)
  · replace h := bifT hc1 h
    refine pwp_seq ?_
    refine pwp_region ?_
    refine opsP_evk' (st' := ⟨13, [(4, I (-1))], []⟩) τ_ok [] 1 [4] (by kernel_rfl) ?_
    refine opsP_end rfl ?_
    have h := Option.some.inj h
    subst h
    exact pwp_ret ⟨.inr rfl, I (-1), _, by kernel_rfl, (OutP.frz (by kernel_rfl)), by decide⟩
  · replace h := bifF hc1 h
    refine pwp_skip ?_
    refine pwp_seq ?_
    refine pwp_region ?_
    refine opsP_evk' (st' := ⟨13, [(4, I ((w64 (a1 - ((a0.fS.size : Int))))))], []⟩) τ_ok [] 2 [4] (by kernel_rfl) ?_
    refine opsP_end rfl ?_
    have h := Option.some.inj h
    subst h
    exact pwp_ret ⟨.inr rfl, I ((w64 (a1 - ((a0.fS.size : Int))))), _, by kernel_rfl, (OutP.frz (by kernel_rfl)), by decide⟩

/- loop.example/tablehouse/laws.toValue -/
def laws_toValue (a0 : T_laws_Value) : Option T_impl_Value := some ({ ({ ({ ((T_impl_Value.mk 0 0 (ByteArray.mk #[]))) with fKind := a0.fKind }) with fN := a0.fN }) with fS := a0.fS })
theorem ok_laws_toValue {a0 : T_laws_Value} {y : T_impl_Value} (h : laws_toValue a0 = some y) : OK Try.prog 104 [E a0] (E y) := by
  refine OK_of_pwp τ_ok Try.func104 rfl (by kernel_rfl) rfl fun Γ hX => ?_
  unfold laws_toValue at h
  refine pwp_seq ?_
  refine pwp_region ?_
  refine opsP_evk' (st' := ⟨14, [(1, .fptr (Enc.cells a0) 0), (2, .ptr 0 0 0)], [some ⟨0, Enc.cells ((T_impl_Value.mk 0 0 (ByteArray.mk #[])))⟩]⟩) τ_ok [2, 3] 2 [1, 2] (by kernel_rfl) ?_
  refine opsP_end rfl ?_
  refine pwp_seq ?_
  refine pwp_region ?_
  refine opsP_evk' (st' := ⟨14, [(1, .fptr (Enc.cells a0) 0), (2, .ptr 0 0 0), (3, .ptr 1 0 0)], [some ⟨0, Enc.cells ((T_impl_Value.mk 0 0 (ByteArray.mk #[])))⟩, some ⟨0, Enc.cells ((T_impl_Value.mk 0 0 (ByteArray.mk #[])))⟩]⟩) τ_ok [2, 3] 1 [1, 2, 3] (by kernel_rfl) ?_
  refine opsP_end rfl ?_
  refine pwp_seq ?_
  refine pwp_region ?_
  refine opsP_evk' (st' := ⟨14, [(1, .fptr (Enc.cells a0) 0), (2, .ptr 0 0 0), (3, .ptr 1 0 0)], [some ⟨0, Enc.cells ((T_impl_Value.mk 0 0 (ByteArray.mk #[])))⟩, some ⟨0, Enc.cells ({ ((T_impl_Value.mk 0 0 (ByteArray.mk #[]))) with fKind := a0.fKind })⟩]⟩) τ_ok [2, 3] 4 [1, 2, 3] (by kernel_rfl) ?_
  refine opsP_end rfl ?_
  refine pwp_seq ?_
  refine pwp_region ?_
  refine opsP_evk' (st' := ⟨14, [(1, .fptr (Enc.cells a0) 0), (2, .ptr 0 0 0), (3, .ptr 1 0 0)], [some ⟨0, Enc.cells ((T_impl_Value.mk 0 0 (ByteArray.mk #[])))⟩, some ⟨0, Enc.cells ({ ({ ((T_impl_Value.mk 0 0 (ByteArray.mk #[]))) with fKind := a0.fKind }) with fN := a0.fN })⟩]⟩) τ_ok [2, 3] 4 [1, 2, 3] (by kernel_rfl) ?_
  refine opsP_end rfl ?_
  refine pwp_seq ?_
  refine pwp_region ?_
  refine opsP_evk' (st' := ⟨14, [(2, .ptr 0 0 0), (3, .ptr 1 0 0)], [some ⟨0, Enc.cells ((T_impl_Value.mk 0 0 (ByteArray.mk #[])))⟩, some ⟨0, Enc.cells ({ ({ ({ ((T_impl_Value.mk 0 0 (ByteArray.mk #[]))) with fKind := a0.fKind }) with fN := a0.fN }) with fS := a0.fS })⟩]⟩) τ_ok [2, 3] 4 [2, 3] (by kernel_rfl) ?_
  refine opsP_end rfl ?_
  refine pwp_seq ?_
  refine pwp_region ?_
  refine opsP_evk' (st' := ⟨14, [(2, .ptr 0 0 0)], [some ⟨0, Enc.cells ({ ({ ({ ((T_impl_Value.mk 0 0 (ByteArray.mk #[]))) with fKind := a0.fKind }) with fN := a0.fN }) with fS := a0.fS })⟩, some ⟨0, Enc.cells ({ ({ ({ ((T_impl_Value.mk 0 0 (ByteArray.mk #[]))) with fKind := a0.fKind }) with fN := a0.fN }) with fS := a0.fS })⟩]⟩) τ_ok [2, 3] 2 [2] (by kernel_rfl) ?_
  refine opsP_end rfl ?_
  have h := Option.some.inj h
  subst h
  exact pwp_ret ⟨.inr rfl, E ({ ({ ({ ((T_impl_Value.mk 0 0 (ByteArray.mk #[]))) with fKind := a0.fKind }) with fN := a0.fN }) with fS := a0.fS }), _, by kernel_rfl, (OutP.frz (by kernel_rfl)), by decide⟩

/- (loop.example/tablehouse/impl.Part).takes -/
def impl_Part_takes_j1 (x3 : Bool) : Option Int := bif x3 then some 1 else some 0
def impl_Part_takes_j0 (a0 : T_impl_Part) (x1 : Bool) : Option Int := bif x1 then some 2 else bif (a0.fKind == 7) then impl_Part_takes_j1 ((a0.fKind == 7)) else impl_Part_takes_j1 ((a0.fKind == 8))
def impl_Part_takes (a0 : T_impl_Part) : Option Int := bif (a0.fKind == 3) then impl_Part_takes_j0 a0 ((a0.fKind == 3)) else bif (a0.fKind == 4) then impl_Part_takes_j0 a0 ((a0.fKind == 4)) else bif (a0.fKind == 5) then impl_Part_takes_j0 a0 ((a0.fKind == 5)) else impl_Part_takes_j0 a0 ((a0.fKind == 6))
theorem ok_impl_Part_takes {a0 : T_impl_Part} {y : Int} (h : impl_Part_takes a0 = some y) : OK Try.prog 105 [E a0] (I y) := by
  refine OK_of_pwp τ_ok Try.func105 rfl (by kernel_rfl) rfl fun Γ hX => ?_
  unfold impl_Part_takes at h
  refine pwp_seq ?_
  refine pwp_region ?_
  refine opsP_evk' (st' := ⟨13, [(1, .fptr (Enc.cells a0) 0)], []⟩) τ_ok [] 2 [1] (by kernel_rfl) ?_
  refine opsP_end rfl ?_
  refine pwp_seq ?_
  refine pwp_seq ?_
  refine pwp_region ?_
  refine opsP_evk' (st' := ⟨13, [(4, I a0.fKind)], []⟩) τ_ok [] 2 [4] (by kernel_rfl) ?_
  refine opsP_end rfl ?_
  refine pwp_block ?_
  refine pwp_seq ?_
  refine pwp_join (σ := Bool) (fun x1 => (⟨13, [(4, I a0.fKind), (5, B x1)], []⟩ : St)) (fun x1 => impl_Part_takes_j0 a0 x1 = some y) ?_ ?_
  · refine pwp_seq ?_
    refine pwp_region ?_
    refine opsP_evk' (st' := ⟨13, [(4, I a0.fKind), (5, B ((a0.fKind == 3)))], []⟩) τ_ok [] 2 [4, 5] (by kernel_rfl) ?_
    refine opsP_end rfl ?_
    refine pwp_cond ((a0.fKind == 3)) (by kernel_rfl) (fun hc6 => ?_) (fun hc6 => ?_)
    · replace h := bifT hc6 h
      refine pwp_skip ?_
      exact ⟨(a0.fKind == 3), h, (Imp.to (st' := ⟨13, [(4, I a0.fKind), (5, B ((a0.fKind == 3)))], []⟩) [4, 5] (by kernel_rfl)).trans (Imp.to [4, 5] (by kernel_rfl))⟩
    · replace h := bifF hc6 h
      refine pwp_seq ?_
      refine pwp_region ?_
      refine opsP_evk' (st' := ⟨13, [(4, I a0.fKind), (5, B ((a0.fKind == 4)))], []⟩) τ_ok [] 2 [4, 5] (by kernel_rfl) ?_
      refine opsP_end rfl ?_
      refine pwp_cond ((a0.fKind == 4)) (by kernel_rfl) (fun hc7 => ?_) (fun hc7 => ?_)
      · replace h := bifT hc7 h
        refine pwp_skip ?_
        exact ⟨(a0.fKind == 4), h, (Imp.to (st' := ⟨13, [(4, I a0.fKind), (5, B ((a0.fKind == 4)))], []⟩) [4, 5] (by kernel_rfl)).trans (Imp.to [4, 5] (by kernel_rfl))⟩
      · replace h := bifF hc7 h
        refine pwp_seq ?_
        refine pwp_region ?_
        refine opsP_evk' (st' := ⟨13, [(4, I a0.fKind), (5, B ((a0.fKind == 5)))], []⟩) τ_ok [] 2 [4, 5] (by kernel_rfl) ?_
        refine opsP_end rfl ?_
        refine pwp_cond ((a0.fKind == 5)) (by kernel_rfl) (fun hc8 => ?_) (fun hc8 => ?_)
        · replace h := bifT hc8 h
          refine pwp_skip ?_
          exact ⟨(a0.fKind == 5), h, (Imp.to (st' := ⟨13, [(4, I a0.fKind), (5, B ((a0.fKind == 5)))], []⟩) [4, 5] (by kernel_rfl)).trans (Imp.to [4, 5] (by kernel_rfl))⟩
        · replace h := bifF hc8 h
          refine pwp_region ?_
          refine opsP_evk' (st' := ⟨13, [(4, I a0.fKind), (5, B ((a0.fKind == 6)))], []⟩) τ_ok [] 2 [4, 5] (by kernel_rfl) ?_
          refine opsP_end rfl ?_
          exact ⟨(a0.fKind == 6), h, (Imp.to (st' := ⟨13, [(4, I a0.fKind), (5, B ((a0.fKind == 6)))], []⟩) [4, 5] (by kernel_rfl)).trans (Imp.to [4, 5] (by kernel_rfl))⟩
  · rintro x1 h
    skip
    unfold impl_Part_takes_j0 at h
    refine pwp_cond x1 (by kernel_rfl) (fun hc2 => ?_) (fun hc2 => ?_)
    · replace h := bifT hc2 h
      refine pwp_seq ?_
      refine pwp_region ?_
      refine opsP_evk' (st' := ⟨13, [(2, I 2)], []⟩) τ_ok [] 1 [2] (by kernel_rfl) ?_
      refine opsP_end rfl ?_
      have h := Option.some.inj h
      subst h
      exact pwp_ret ⟨.inr rfl, I 2, _, by kernel_rfl, (OutP.frz (by kernel_rfl)), by decide⟩
    · replace h := bifF hc2 h
      refine pwp_seq ?_
      refine pwp_join (σ := Bool) (fun x3 => (⟨13, [(10, B x3)], []⟩ : St)) (fun x3 => impl_Part_takes_j1 x3 = some y) ?_ ?_
      · refine pwp_seq ?_
        refine pwp_region ?_
        refine opsP_evk' (st' := ⟨13, [(4, I a0.fKind), (10, B ((a0.fKind == 7)))], []⟩) τ_ok [] 2 [4, 10] (by kernel_rfl) ?_
        refine opsP_end rfl ?_
        refine pwp_cond ((a0.fKind == 7)) (by kernel_rfl) (fun hc5 => ?_) (fun hc5 => ?_)
        · replace h := bifT hc5 h
          refine pwp_skip ?_
          exact ⟨(a0.fKind == 7), h, (Imp.to (st' := ⟨13, [(10, B ((a0.fKind == 7)))], []⟩) [10] (by kernel_rfl)).trans (Imp.to [10] (by kernel_rfl))⟩
        · replace h := bifF hc5 h
          refine pwp_region ?_
          refine opsP_evk' (st' := ⟨13, [(10, B ((a0.fKind == 8)))], []⟩) τ_ok [] 2 [10] (by kernel_rfl) ?_
          refine opsP_end rfl ?_
          exact ⟨(a0.fKind == 8), h, (Imp.to (st' := ⟨13, [(10, B ((a0.fKind == 8)))], []⟩) [10] (by kernel_rfl)).trans (Imp.to [10] (by kernel_rfl))⟩
      · rintro x3 h
        skip
        unfold impl_Part_takes_j1 at h
        refine pwp_cond x3 (by kernel_rfl) (fun hc4 => ?_) (fun hc4 => ?_)
        · replace h := bifT hc4 h
          refine pwp_seq ?_
          refine pwp_region ?_
          refine opsP_evk' (st' := ⟨13, [(2, I 1)], []⟩) τ_ok [] 1 [2] (by kernel_rfl) ?_
          refine opsP_end rfl ?_
          have h := Option.some.inj h
          subst h
          exact pwp_ret ⟨.inr rfl, I 1, _, by kernel_rfl, (OutP.frz (by kernel_rfl)), by decide⟩
        · replace h := bifF hc4 h
          refine pwp_skip ?_
          refine pwp_seq ?_
          refine pwp_region ?_
          refine opsP_evk' (st' := ⟨13, [(2, I 0)], []⟩) τ_ok [] 1 [2] (by kernel_rfl) ?_
          refine opsP_end rfl ?_
          have h := Option.some.inj h
          subst h
          exact pwp_ret ⟨.inr rfl, I 0, _, by kernel_rfl, (OutP.frz (by kernel_rfl)), by decide⟩

/- loop.example/tablehouse/laws.eqValue -/
def laws_eqValue (a0 : T_impl_Value) (a1 : T_impl_Value) : Option Bool := bif (!(a0.fKind == a1.fKind)) then some false else bif (!(a0.fN == a1.fN)) then some false else bif (!(a0.fS.toList == a1.fS.toList)) then some false else some true
theorem ok_laws_eqValue {a0 : T_impl_Value} {a1 : T_impl_Value} {y : Bool} (h : laws_eqValue a0 a1 = some y) : OK Try.prog 109 [E a0, E a1] (B y) := by
  refine OK_of_pwp τ_ok Try.func109 rfl (by kernel_rfl) rfl fun Γ hX => ?_
  unfold laws_eqValue at h
  refine pwp_seq ?_
  refine pwp_region ?_
  refine opsP_evk' (st' := ⟨20, [(2, .fptr (Enc.cells a0) 0), (3, .fptr (Enc.cells a1) 0)], []⟩) τ_ok [] 3 [2, 3] (by kernel_rfl) ?_
  refine opsP_end rfl ?_
  refine pwp_seq ?_
  refine pwp_seq ?_
  refine pwp_region ?_
  refine opsP_evk' (st' := ⟨20, [(2, .fptr (Enc.cells a0) 0), (3, .fptr (Enc.cells a1) 0), (9, B ((!(a0.fKind == a1.fKind))))], []⟩) τ_ok [] 5 [2, 3, 9] (by kernel_rfl) ?_
  refine opsP_end rfl ?_
  refine pwp_cond ((!(a0.fKind == a1.fKind))) (by kernel_rfl) (fun hc1 => ?_) (fun hc1 => ?_)
  · replace h := bifT hc1 h
    refine pwp_seq ?_
    refine pwp_region ?_
    refine opsP_evk' (st' := ⟨20, [(4, B false)], []⟩) τ_ok [] 1 [4] (by kernel_rfl) ?_
    refine opsP_end rfl ?_
    have h := Option.some.inj h
    subst h
    exact pwp_ret ⟨.inr rfl, B false, _, by kernel_rfl, (OutP.frz (by kernel_rfl)), by decide⟩
  · replace h := bifF hc1 h
    refine pwp_skip ?_
    refine pwp_seq ?_
    refine pwp_seq ?_
    refine pwp_region ?_
    refine opsP_evk' (st' := ⟨20, [(2, .fptr (Enc.cells a0) 0), (3, .fptr (Enc.cells a1) 0), (14, B ((!(a0.fN == a1.fN))))], []⟩) τ_ok [] 5 [2, 3, 14] (by kernel_rfl) ?_
    refine opsP_end rfl ?_
    refine pwp_cond ((!(a0.fN == a1.fN))) (by kernel_rfl) (fun hc2 => ?_) (fun hc2 => ?_)
    · replace h := bifT hc2 h
      refine pwp_seq ?_
      refine pwp_region ?_
      refine opsP_evk' (st' := ⟨20, [(4, B false)], []⟩) τ_ok [] 1 [4] (by kernel_rfl) ?_
      refine opsP_end rfl ?_
      have h := Option.some.inj h
      subst h
      exact pwp_ret ⟨.inr rfl, B false, _, by kernel_rfl, (OutP.frz (by kernel_rfl)), by decide⟩
    · replace h := bifF hc2 h
      refine pwp_skip ?_
      refine pwp_seq ?_
      refine pwp_seq ?_
      refine pwp_region ?_
      refine opsP_evk' (st' := ⟨20, [(19, B ((!(a0.fS.toList == a1.fS.toList))))], []⟩) τ_ok [] 5 [19] (by kernel_rfl) ?_
      refine opsP_end rfl ?_
      refine pwp_cond ((!(a0.fS.toList == a1.fS.toList))) (by kernel_rfl) (fun hc3 => ?_) (fun hc3 => ?_)
      · replace h := bifT hc3 h
        refine pwp_seq ?_
        refine pwp_region ?_
        refine opsP_evk' (st' := ⟨20, [(4, B false)], []⟩) τ_ok [] 1 [4] (by kernel_rfl) ?_
        refine opsP_end rfl ?_
        have h := Option.some.inj h
        subst h
        exact pwp_ret ⟨.inr rfl, B false, _, by kernel_rfl, (OutP.frz (by kernel_rfl)), by decide⟩
      · replace h := bifF hc3 h
        refine pwp_skip ?_
        refine pwp_seq ?_
        refine pwp_region ?_
        refine opsP_evk' (st' := ⟨20, [(4, B true)], []⟩) τ_ok [] 1 [4] (by kernel_rfl) ?_
        refine opsP_end rfl ?_
        have h := Option.some.inj h
        subst h
        exact pwp_ret ⟨.inr rfl, B true, _, by kernel_rfl, (OutP.frz (by kernel_rfl)), by decide⟩

/- slices.IndexFunc[[]loop.example/tablehouse/impl.Column,loop.example/tablehouse/impl.Column] -/
def slices_IndexFunc_impl_Column_impl_Column_l0 (a0 : List T_impl_Column) (a1 : T_impl_Column → Option Bool) : Nat → Int → Option Int
  | 0, _ => none
  | f2 + 1, x1 => bif (decide (x1 < ((a0.length : Int)))) then (getI a0 x1).bind fun v5 => (a1 v5).bind fun v7 => bif v7 then some x1 else (slices_IndexFunc_impl_Column_impl_Column_l0 a0 a1 f2) ((w64 (x1 + 1))) else some (-1)
def slices_IndexFunc_impl_Column_impl_Column (a0 : List T_impl_Column) (a1 : T_impl_Column → Option Bool) : Option Int := slices_IndexFunc_impl_Column_impl_Column_l0 a0 a1 FUEL 0
theorem ok_slices_IndexFunc_impl_Column_impl_Column {a0 : List T_impl_Column} {g1 : FuncId} {c1 : List V} (hz1 : frzL c1 = true) {a1 : T_impl_Column → Option Bool} (hp1 : ∀ x0 y, a1 x0 = some y → OK Try.prog g1 ([E x0] ++ c1) (B y)) {y : Int} (h : slices_IndexFunc_impl_Column_impl_Column a0 a1 = some y) : OK Try.prog 110 [A a0, .fn g1 c1] (I y) := by
  refine OK_of_pwp τ_ok Try.func110 rfl (by kernel_rfl) rfl fun Γ hX => ?_
  unfold slices_IndexFunc_impl_Column_impl_Column at h
  refine pwp_seq ?_
  refine pwp_region ?_
  refine opsP_evk' (st' := ⟨19, [(0, A a0), (1, .fn g1 c1)], []⟩) τ_ok [] 1 [0, 1] (by kernel_rfl) ?_
  refine opsP_end rfl ?_
  refine pwp_seq ?_
  refine pwp_seq ?_
  refine pwp_region ?_
  refine opsP_evk' (st' := ⟨19, [(0, A a0), (1, .fn g1 c1), (7, I ((a0.length : Int))), (8, I 0)], []⟩) τ_ok [] 3 [0, 1, 7, 8] (by kernel_rfl) ?_
  refine opsP_end rfl ?_
  refine pwp_block ?_
  refine pwp_loop (ι := Nat × Int) (fun (f2, x1) => (⟨19, [(0, A a0), (1, .fn g1 c1), (7, I ((a0.length : Int))), (8, I x1)], []⟩ : St)) (fun (f2, x1) => slices_IndexFunc_impl_Column_impl_Column_l0 a0 a1 f2 x1 = some y) (fun (f2, x1) => f2) (FUEL, 0) h ((Imp.to (st' := ⟨19, [(0, A a0), (1, .fn g1 c1), (7, I ((a0.length : Int))), (8, I 0)], []⟩) [0, 1, 7, 8] (by kernel_rfl)).trans (Imp.to [0, 1, 7, 8] (by kernel_rfl))) ?_
  rintro ⟨f2, x1⟩ h
  dsimp only at h ⊢
  cases f2 with
  | zero => cases h
  | succ f2 =>
  rw [slices_IndexFunc_impl_Column_impl_Column_l0] at h
  refine pwp_seq ?_
  refine pwp_region ?_
  refine opsP_evk' (st' := ⟨19, [(0, A a0), (1, .fn g1 c1), (7, I ((a0.length : Int))), (8, I x1), (9, B ((decide (x1 < ((a0.length : Int))))))], []⟩) τ_ok [] 1 [0, 1, 7, 8, 9] (by kernel_rfl) ?_
  refine opsP_end rfl ?_
  refine pwp_seq ?_
  refine pwp_cond ((decide (x1 < ((a0.length : Int))))) (by kernel_rfl) (fun hc4 => ?_) (fun hc4 => ?_)
  · replace h := bifT hc4 h
    refine pwp_skip ?_
    refine pwp_seq ?_
    refine pwp_block ?_
    refine pwp_seq ?_
    refine pwp_region ?_
    refine opsP_evk' (st' := ⟨19, [(0, A a0), (1, .fn g1 c1), (5, I x1), (7, I ((a0.length : Int))), (8, I x1)], []⟩) τ_ok [] 2 [0, 1, 5, 7, 8] (by kernel_rfl) ?_
    refine opsP_end rfl ?_
    refine pwp_seq ?_
    refine pwp_region ?_
    refine opsP_evk' (st' := ⟨19, [(0, A a0), (1, .fn g1 c1), (5, I x1), (7, I ((a0.length : Int))), (8, I x1), (11, .fn g1 c1), (12, A a0), (13, I x1)], []⟩) τ_ok [] 3 [0, 1, 5, 7, 8, 11, 12, 13] (by kernel_rfl) ?_
    obtain ⟨v5, hv6, h⟩ := bindS h
    refine opsP_idx τ_ok 14 hv6 (by kernel_rfl) ?_
    refine opsP_evk' (st' := ⟨19, [(0, A a0), (1, .fn g1 c1), (5, I x1), (7, I ((a0.length : Int))), (8, I x1), (11, .fn g1 c1), (15, E v5)], []⟩) τ_ok [] 1 [0, 1, 5, 7, 8, 11, 15] (by kernel_rfl) ?_
    obtain ⟨v7, hv8, h⟩ := bindS h
    refine opsP_callF τ 16 (hp1 _ _ hv8) (FzTo.frz rfl) (frz_app (xs := [E v5]) rfl hz1) (by kernel_rfl) ?_
    refine opsP_evk' (st' := ⟨19, [(0, A a0), (1, .fn g1 c1), (5, I x1), (7, I ((a0.length : Int))), (8, I x1), (16, B v7)], []⟩) τ_ok [] 0 [0, 1, 5, 7, 8, 16] (by kernel_rfl) ?_
    refine opsP_end rfl ?_
    refine pwp_cond v7 (by kernel_rfl) (fun hc9 => ?_) (fun hc9 => ?_)
    · replace h := bifT hc9 h
      refine pwp_seq ?_
      refine pwp_region ?_
      refine opsP_evk' (st' := ⟨19, [(4, I x1)], []⟩) τ_ok [] 2 [4] (by kernel_rfl) ?_
      refine opsP_end rfl ?_
      have h := Option.some.inj h
      subst h
      exact pwp_ret ⟨.inr rfl, I x1, _, by kernel_rfl, (OutP.frz (by kernel_rfl)), by decide⟩
    · replace h := bifF hc9 h
      refine pwp_skip ?_
      refine pwp_region ?_
      refine opsP_evk' (st' := ⟨19, [(0, A a0), (1, .fn g1 c1), (7, I ((a0.length : Int))), (8, I ((w64 (x1 + 1))))], []⟩) τ_ok [] 2 [0, 1, 7, 8] (by kernel_rfl) ?_
      refine opsP_end rfl ?_
      exact ⟨(f2, (w64 (x1 + 1))), h, Nat.lt_succ_self _, (Imp.to (st' := ⟨19, [(0, A a0), (1, .fn g1 c1), (7, I ((a0.length : Int))), (8, I ((w64 (x1 + 1))))], []⟩) [0, 1, 7, 8] (by kernel_rfl)).trans (Imp.to [0, 1, 7, 8] (by kernel_rfl))⟩
  · replace h := bifF hc4 h
    refine pwp_exit ?_
    refine pwp_seq ?_
    refine pwp_region ?_
    refine opsP_evk' (st' := ⟨19, [(4, I (-1))], []⟩) τ_ok [] 1 [4] (by kernel_rfl) ?_
    refine opsP_end rfl ?_
    have h := Option.some.inj h
    subst h
    exact pwp_ret ⟨.inr rfl, I (-1), _, by kernel_rfl, (OutP.frz (by kernel_rfl)), by decide⟩

/- slices.IndexFunc[[][]loop.example/tablehouse/impl.Value,[]loop.example/tablehouse/impl.Value] -/
def slices_IndexFunc_impl_Value_impl_Value_l0 (a0 : List (List T_impl_Value)) (a1 : (List T_impl_Value) → Option Bool) : Nat → Int → Option Int
  | 0, _ => none
  | f2 + 1, x1 => bif (decide (x1 < ((a0.length : Int)))) then (getI a0 x1).bind fun v5 => (a1 v5).bind fun v7 => bif v7 then some x1 else (slices_IndexFunc_impl_Value_impl_Value_l0 a0 a1 f2) ((w64 (x1 + 1))) else some (-1)
def slices_IndexFunc_impl_Value_impl_Value (a0 : List (List T_impl_Value)) (a1 : (List T_impl_Value) → Option Bool) : Option Int := slices_IndexFunc_impl_Value_impl_Value_l0 a0 a1 FUEL 0
theorem ok_slices_IndexFunc_impl_Value_impl_Value {a0 : List (List T_impl_Value)} {g1 : FuncId} {c1 : List V} (hz1 : frzL c1 = true) {a1 : (List T_impl_Value) → Option Bool} (hp1 : ∀ x0 y, a1 x0 = some y → OK Try.prog g1 ([A x0] ++ c1) (B y)) {y : Int} (h : slices_IndexFunc_impl_Value_impl_Value a0 a1 = some y) : OK Try.prog 111 [A a0, .fn g1 c1] (I y) := by
  refine OK_of_pwp τ_ok Try.func111 rfl (by kernel_rfl) rfl fun Γ hX => ?_
  unfold slices_IndexFunc_impl_Value_impl_Value at h
  refine pwp_seq ?_
  refine pwp_region ?_
  refine opsP_evk' (st' := ⟨19, [(0, A a0), (1, .fn g1 c1)], []⟩) τ_ok [] 1 [0, 1] (by kernel_rfl) ?_
  refine opsP_end rfl ?_
  refine pwp_seq ?_
  refine pwp_seq ?_
  refine pwp_region ?_
  refine opsP_evk' (st' := ⟨19, [(0, A a0), (1, .fn g1 c1), (7, I ((a0.length : Int))), (8, I 0)], []⟩) τ_ok [] 3 [0, 1, 7, 8] (by kernel_rfl) ?_
  refine opsP_end rfl ?_
  refine pwp_block ?_
  refine pwp_loop (ι := Nat × Int) (fun (f2, x1) => (⟨19, [(0, A a0), (1, .fn g1 c1), (7, I ((a0.length : Int))), (8, I x1)], []⟩ : St)) (fun (f2, x1) => slices_IndexFunc_impl_Value_impl_Value_l0 a0 a1 f2 x1 = some y) (fun (f2, x1) => f2) (FUEL, 0) h ((Imp.to (st' := ⟨19, [(0, A a0), (1, .fn g1 c1), (7, I ((a0.length : Int))), (8, I 0)], []⟩) [0, 1, 7, 8] (by kernel_rfl)).trans (Imp.to [0, 1, 7, 8] (by kernel_rfl))) ?_
  rintro ⟨f2, x1⟩ h
  dsimp only at h ⊢
  cases f2 with
  | zero => cases h
  | succ f2 =>
  rw [slices_IndexFunc_impl_Value_impl_Value_l0] at h
  refine pwp_seq ?_
  refine pwp_region ?_
  refine opsP_evk' (st' := ⟨19, [(0, A a0), (1, .fn g1 c1), (7, I ((a0.length : Int))), (8, I x1), (9, B ((decide (x1 < ((a0.length : Int))))))], []⟩) τ_ok [] 1 [0, 1, 7, 8, 9] (by kernel_rfl) ?_
  refine opsP_end rfl ?_
  refine pwp_seq ?_
  refine pwp_cond ((decide (x1 < ((a0.length : Int))))) (by kernel_rfl) (fun hc4 => ?_) (fun hc4 => ?_)
  · replace h := bifT hc4 h
    refine pwp_skip ?_
    refine pwp_seq ?_
    refine pwp_block ?_
    refine pwp_seq ?_
    refine pwp_region ?_
    refine opsP_evk' (st' := ⟨19, [(0, A a0), (1, .fn g1 c1), (5, I x1), (7, I ((a0.length : Int))), (8, I x1)], []⟩) τ_ok [] 2 [0, 1, 5, 7, 8] (by kernel_rfl) ?_
    refine opsP_end rfl ?_
    refine pwp_seq ?_
    refine pwp_region ?_
    refine opsP_evk' (st' := ⟨19, [(0, A a0), (1, .fn g1 c1), (5, I x1), (7, I ((a0.length : Int))), (8, I x1), (11, .fn g1 c1), (12, A a0), (13, I x1)], []⟩) τ_ok [] 3 [0, 1, 5, 7, 8, 11, 12, 13] (by kernel_rfl) ?_
    obtain ⟨v5, hv6, h⟩ := bindS h
    refine opsP_idx τ_ok 14 hv6 (by kernel_rfl) ?_
    refine opsP_evk' (st' := ⟨19, [(0, A a0), (1, .fn g1 c1), (5, I x1), (7, I ((a0.length : Int))), (8, I x1), (11, .fn g1 c1), (15, A v5)], []⟩) τ_ok [] 1 [0, 1, 5, 7, 8, 11, 15] (by kernel_rfl) ?_
    obtain ⟨v7, hv8, h⟩ := bindS h
    refine opsP_callF τ 16 (hp1 _ _ hv8) (FzTo.frz rfl) (frz_app (xs := [A v5]) rfl hz1) (by kernel_rfl) ?_
    refine opsP_evk' (st' := ⟨19, [(0, A a0), (1, .fn g1 c1), (5, I x1), (7, I ((a0.length : Int))), (8, I x1), (16, B v7)], []⟩) τ_ok [] 0 [0, 1, 5, 7, 8, 16] (by kernel_rfl) ?_
    refine opsP_end rfl ?_
    refine pwp_cond v7 (by kernel_rfl) (fun hc9 => ?_) (fun hc9 => ?_)
    · replace h := bifT hc9 h
      refine pwp_seq ?_
      refine pwp_region ?_
      refine opsP_evk' (st' := ⟨19, [(4, I x1)], []⟩) τ_ok [] 2 [4] (by kernel_rfl) ?_
      refine opsP_end rfl ?_
      have h := Option.some.inj h
      subst h
      exact pwp_ret ⟨.inr rfl, I x1, _, by kernel_rfl, (OutP.frz (by kernel_rfl)), by decide⟩
    · replace h := bifF hc9 h
      refine pwp_skip ?_
      refine pwp_region ?_
      refine opsP_evk' (st' := ⟨19, [(0, A a0), (1, .fn g1 c1), (7, I ((a0.length : Int))), (8, I ((w64 (x1 + 1))))], []⟩) τ_ok [] 2 [0, 1, 7, 8] (by kernel_rfl) ?_
      refine opsP_end rfl ?_
      exact ⟨(f2, (w64 (x1 + 1))), h, Nat.lt_succ_self _, (Imp.to (st' := ⟨19, [(0, A a0), (1, .fn g1 c1), (7, I ((a0.length : Int))), (8, I ((w64 (x1 + 1))))], []⟩) [0, 1, 7, 8] (by kernel_rfl)).trans (Imp.to [0, 1, 7, 8] (by kernel_rfl))⟩
  · replace h := bifF hc4 h
    refine pwp_exit ?_
    refine pwp_seq ?_
    refine pwp_region ?_
    refine opsP_evk' (st' := ⟨19, [(4, I (-1))], []⟩) τ_ok [] 1 [4] (by kernel_rfl) ?_
    refine opsP_end rfl ?_
    have h := Option.some.inj h
    subst h
    exact pwp_ret ⟨.inr rfl, I (-1), _, by kernel_rfl, (OutP.frz (by kernel_rfl)), by decide⟩

/- (loop.example/tablehouse/impl.Part).kind$1$1 -/
def impl_Part_kind_1_1 (a0 : Int) (b0 : Int) : Option Bool := some ((!(a0 == b0)))
theorem ok_impl_Part_kind_1_1 {a0 : Int} {b0 : Int} {y : Bool} (h : impl_Part_kind_1_1 a0 b0 = some y) : OK Try.prog 119 [I a0, .fptr (Enc.cells b0) 0] (B y) := by
  refine OK_of_pwp τ_ok Try.func119 rfl (by kernel_rfl) rfl fun Γ hX => ?_
  unfold impl_Part_kind_1_1 at h
  refine pwp_seq ?_
  refine pwp_region ?_
  refine opsP_evk' (st' := ⟨7, [(0, I a0), (1, .fptr (Enc.cells b0) 0)], []⟩) τ_ok [] 1 [0, 1] (by kernel_rfl) ?_
  refine opsP_end rfl ?_
  refine pwp_seq ?_
  refine pwp_region ?_
  refine opsP_evk' (st' := ⟨7, [(3, B ((!(a0 == b0))))], []⟩) τ_ok [] 4 [3] (by kernel_rfl) ?_
  refine opsP_end rfl ?_
  have h := Option.some.inj h
  subst h
  exact pwp_ret ⟨.inr rfl, B ((!(a0 == b0))), _, by kernel_rfl, (OutP.frz (by kernel_rfl)), by decide⟩

/- loop.example/tablehouse/spec.l1Text -/
def spec_l1Text_j1 (x1 : Int) (K3 : Int → Option Bool) (x5 : Bool) : Option Bool := bif x5 then some false else K3 ((w64 (x1 + 1)))
def spec_l1Text_l0 (a0 : ByteArray) : Nat → Int → Option Bool
  | 0, _ => none
  | f2 + 1, x1 => bif (decide (x1 < ((a0.size : Int)))) then (getB a0 x1).bind fun v7 => bif (decide ((v7.toNat : Int) < 97)) then spec_l1Text_j1 x1 (spec_l1Text_l0 a0 f2) true else (getB a0 x1).bind fun v9 => spec_l1Text_j1 x1 (spec_l1Text_l0 a0 f2) ((decide ((v9.toNat : Int) > 122))) else some ((decide (((a0.size : Int)) ≤ 6)))
def spec_l1Text (a0 : ByteArray) : Option Bool := spec_l1Text_l0 a0 FUEL 0
theorem ok_spec_l1Text {a0 : ByteArray} {y : Bool} (h : spec_l1Text a0 = some y) : OK Try.prog 123 [S a0] (B y) := by
  refine OK_of_pwp τ_ok Try.func123 rfl (by kernel_rfl) rfl fun Γ hX => ?_
  unfold spec_l1Text at h
  refine pwp_seq ?_
  refine pwp_region ?_
  refine opsP_evk' (st' := ⟨23, [(0, S a0)], []⟩) τ_ok [] 1 [0] (by kernel_rfl) ?_
  refine opsP_end rfl ?_
  refine pwp_seq ?_
  refine pwp_seq ?_
  refine pwp_region ?_
  refine opsP_evk' (st' := ⟨23, [(0, S a0), (3, I 0)], []⟩) τ_ok [] 1 [0, 3] (by kernel_rfl) ?_
  refine opsP_end rfl ?_
  refine pwp_block ?_
  refine pwp_loop (ι := Nat × Int) (fun (f2, x1) => (⟨23, [(0, S a0), (3, I x1)], []⟩ : St)) (fun (f2, x1) => spec_l1Text_l0 a0 f2 x1 = some y) (fun (f2, x1) => f2) (FUEL, 0) h ((Imp.to (st' := ⟨23, [(0, S a0), (3, I 0)], []⟩) [0, 3] (by kernel_rfl)).trans (Imp.to [0, 3] (by kernel_rfl))) ?_
  rintro ⟨f2, x1⟩ h
  dsimp only at h ⊢
  cases f2 with
  | zero => cases h
  | succ f2 =>
  rw [spec_l1Text_l0] at h
  refine pwp_seq ?_
  refine pwp_seq ?_
  refine pwp_region ?_
  refine opsP_evk' (st' := ⟨23, [(0, S a0), (3, I x1), (7, B ((decide (x1 < ((a0.size : Int))))))], []⟩) τ_ok [] 4 [0, 3, 7] (by kernel_rfl) ?_
  refine opsP_end rfl ?_
  refine pwp_cond ((decide (x1 < ((a0.size : Int))))) (by kernel_rfl) (fun hc4 => ?_) (fun hc4 => ?_)
  · replace h := bifT hc4 h
    refine pwp_skip ?_
    refine pwp_seq ?_
    refine pwp_block ?_
    refine pwp_seq ?_
    refine pwp_join (σ := Bool) (fun x5 => (⟨23, [(0, S a0), (3, I x1), (19, B x5)], []⟩ : St)) (fun x5 => spec_l1Text_j1 x1 (spec_l1Text_l0 a0 f2) x5 = some y) ?_ ?_
    · refine pwp_region ?_
      refine opsP_evk' (st' := ⟨23, [(0, S a0), (3, I x1), (10, S a0), (11, I x1)], []⟩) τ_ok [] 2 [0, 3, 10, 11] (by kernel_rfl) ?_
      obtain ⟨v7, hv8, h⟩ := bindS h
      refine opsP_byt τ_ok 12 hv8 (by kernel_rfl) ?_
      refine opsP_evk' (st' := ⟨23, [(0, S a0), (3, I x1), (14, B ((decide ((v7.toNat : Int) < 97))))], []⟩) τ_ok [] 2 [0, 3, 14] (by kernel_rfl) ?_
      rcases Bool.eq_false_or_eq_true ((decide ((v7.toNat : Int) < 97))) with hc11 | hc11
      · replace h := bifT hc11 h
        rw [hc11]
        refine opsP_evk' (st' := ⟨23, [(0, S a0), (3, I x1), (15, .lit undef), (16, .lit undef), (17, .lit undef), (18, .lit undef), (19, B true)], []⟩) τ_ok [] 5 [0, 3, 15, 16, 17, 18, 19] (by kernel_rfl) ?_
        refine opsP_end rfl ?_
        exact ⟨true, h, (Imp.to (st' := ⟨23, [(0, S a0), (3, I x1), (19, B true)], []⟩) [0, 3, 19] (by kernel_rfl)).trans (Imp.to [0, 3, 19] (by kernel_rfl))⟩
      · replace h := bifF hc11 h
        rw [hc11]
        refine opsP_evk' (st' := ⟨23, [(0, S a0), (3, I x1), (14, B false), (15, S a0), (16, I x1)], []⟩) τ_ok [] 2 [0, 3, 14, 15, 16] (by kernel_rfl) ?_
        obtain ⟨v9, hv10, h⟩ := bindS h
        refine opsP_byt τ_ok 17 hv10 (by kernel_rfl) ?_
        refine opsP_evk' (st' := ⟨23, [(0, S a0), (3, I x1), (15, S a0), (16, I x1), (17, .lit (.int .u8 (v9).toNat)), (18, B ((decide ((v9.toNat : Int) > 122)))), (19, B ((decide ((v9.toNat : Int) > 122))))], []⟩) τ_ok [] 2 [0, 3, 15, 16, 17, 18, 19] (by kernel_rfl) ?_
        refine opsP_end rfl ?_
        exact ⟨(decide ((v9.toNat : Int) > 122)), h, (Imp.to (st' := ⟨23, [(0, S a0), (3, I x1), (19, B ((decide ((v9.toNat : Int) > 122))))], []⟩) [0, 3, 19] (by kernel_rfl)).trans (Imp.to [0, 3, 19] (by kernel_rfl))⟩
    · rintro x5 h
      skip
      unfold spec_l1Text_j1 at h
      refine pwp_cond x5 (by kernel_rfl) (fun hc6 => ?_) (fun hc6 => ?_)
      · replace h := bifT hc6 h
        refine pwp_seq ?_
        refine pwp_region ?_
        refine opsP_evk' (st' := ⟨23, [(2, B false)], []⟩) τ_ok [] 1 [2] (by kernel_rfl) ?_
        refine opsP_end rfl ?_
        have h := Option.some.inj h
        subst h
        exact pwp_ret ⟨.inr rfl, B false, _, by kernel_rfl, (OutP.frz (by kernel_rfl)), by decide⟩
      · replace h := bifF hc6 h
        refine pwp_skip ?_
        refine pwp_region ?_
        refine opsP_evk' (st' := ⟨23, [(0, S a0), (3, I ((w64 (x1 + 1))))], []⟩) τ_ok [] 3 [0, 3] (by kernel_rfl) ?_
        refine opsP_end rfl ?_
        exact ⟨(f2, (w64 (x1 + 1))), h, Nat.lt_succ_self _, (Imp.to (st' := ⟨23, [(0, S a0), (3, I ((w64 (x1 + 1))))], []⟩) [0, 3] (by kernel_rfl)).trans (Imp.to [0, 3] (by kernel_rfl))⟩
  · replace h := bifF hc4 h
    refine pwp_exit ?_
    refine pwp_seq ?_
    refine pwp_region ?_
    refine opsP_evk' (st' := ⟨23, [(2, B ((decide (((a0.size : Int)) ≤ 6))))], []⟩) τ_ok [] 4 [2] (by kernel_rfl) ?_
    refine opsP_end rfl ?_
    have h := Option.some.inj h
    subst h
    exact pwp_ret ⟨.inr rfl, B ((decide (((a0.size : Int)) ≤ 6))), _, by kernel_rfl, (OutP.frz (by kernel_rfl)), by decide⟩

/- loop.example/tablehouse/impl.letters -/
def impl_letters_l0 (v1 : List UInt8) : Nat → Int → Option Bool
  | 0, _ => none
  | f4 + 1, x3 => bif (decide (x3 < ((v1.length : Int)))) then (getI v1 x3).bind fun v7 => (impl_between ((w64 (v7.toNat : Int))) 97 122).bind fun v9 => bif (!v9) then some false else (impl_letters_l0 v1 f4) ((w64 (x3 + 1))) else some true
def impl_letters (a0 : ByteArray) : Option Bool := (bytesOf a0).bind fun v1 => impl_letters_l0 v1 FUEL 0
theorem ok_impl_letters {a0 : ByteArray} {y : Bool} (h : impl_letters a0 = some y) : OK Try.prog 124 [S a0] (B y) := by
  refine OK_of_pwp τ_ok Try.func124 rfl (by kernel_rfl) rfl fun Γ hX => ?_
  unfold impl_letters at h
  refine pwp_seq ?_
  refine pwp_region ?_
  refine opsP_evk' (st' := ⟨17, [(0, S a0)], []⟩) τ_ok [] 1 [0] (by kernel_rfl) ?_
  refine opsP_end rfl ?_
  refine pwp_seq ?_
  refine pwp_seq ?_
  refine pwp_region ?_
  refine opsP_evk' (st' := ⟨17, [(5, S a0)], []⟩) τ_ok [] 1 [5] (by kernel_rfl) ?_
  obtain ⟨v1, hv2, h⟩ := bindS h
  refine opsP_cvb τ_ok 6 hv2 (by kernel_rfl) ?_
  refine opsP_evk' (st' := ⟨17, [(6, A v1), (7, I ((v1.length : Int))), (8, I 0)], []⟩) τ_ok [] 2 [6, 7, 8] (by kernel_rfl) ?_
  refine opsP_end rfl ?_
  refine pwp_block ?_
  refine pwp_loop (ι := Nat × Int) (fun (f4, x3) => (⟨17, [(6, A v1), (7, I ((v1.length : Int))), (8, I x3)], []⟩ : St)) (fun (f4, x3) => impl_letters_l0 v1 f4 x3 = some y) (fun (f4, x3) => f4) (FUEL, 0) h ((Imp.to (st' := ⟨17, [(6, A v1), (7, I ((v1.length : Int))), (8, I 0)], []⟩) [6, 7, 8] (by kernel_rfl)).trans (Imp.to [6, 7, 8] (by kernel_rfl))) ?_
  rintro ⟨f4, x3⟩ h
  dsimp only at h ⊢
  cases f4 with
  | zero => cases h
  | succ f4 =>
  rw [impl_letters_l0] at h
  refine pwp_seq ?_
  refine pwp_region ?_
  refine opsP_evk' (st' := ⟨17, [(6, A v1), (7, I ((v1.length : Int))), (8, I x3), (9, B ((decide (x3 < ((v1.length : Int))))))], []⟩) τ_ok [] 1 [6, 7, 8, 9] (by kernel_rfl) ?_
  refine opsP_end rfl ?_
  refine pwp_seq ?_
  refine pwp_cond ((decide (x3 < ((v1.length : Int))))) (by kernel_rfl) (fun hc6 => ?_) (fun hc6 => ?_)
  · replace h := bifT hc6 h
    refine pwp_skip ?_
    refine pwp_seq ?_
    refine pwp_block ?_
    refine pwp_seq ?_
    refine pwp_region ?_
    obtain ⟨v7, hv8, h⟩ := bindS h
    refine opsP_idx τ_ok 10 hv8 (by kernel_rfl) ?_
    refine opsP_evk' (st' := ⟨17, [(4, .lit (.int .u8 (v7).toNat)), (6, A v1), (7, I ((v1.length : Int))), (8, I x3)], []⟩) τ_ok [] 2 [4, 6, 7, 8] (by kernel_rfl) ?_
    refine opsP_end rfl ?_
    refine pwp_seq ?_
    refine pwp_region ?_
    refine opsP_evk' (st' := ⟨17, [(6, A v1), (7, I ((v1.length : Int))), (8, I x3), (13, I ((w64 (v7.toNat : Int))))], []⟩) τ_ok [] 2 [6, 7, 8, 13] (by kernel_rfl) ?_
    obtain ⟨v9, hv10, h⟩ := bindS h
    refine opsP_callF τ 14 (ok_impl_between hv10) (FzTo.frz rfl) rfl (by kernel_rfl) ?_
    refine opsP_evk' (st' := ⟨17, [(6, A v1), (7, I ((v1.length : Int))), (8, I x3), (15, B ((!v9)))], []⟩) τ_ok [] 1 [6, 7, 8, 15] (by kernel_rfl) ?_
    refine opsP_end rfl ?_
    refine pwp_cond ((!v9)) (by kernel_rfl) (fun hc11 => ?_) (fun hc11 => ?_)
    · replace h := bifT hc11 h
      refine pwp_seq ?_
      refine pwp_region ?_
      refine opsP_evk' (st' := ⟨17, [(2, B false)], []⟩) τ_ok [] 1 [2] (by kernel_rfl) ?_
      refine opsP_end rfl ?_
      have h := Option.some.inj h
      subst h
      exact pwp_ret ⟨.inr rfl, B false, _, by kernel_rfl, (OutP.frz (by kernel_rfl)), by decide⟩
    · replace h := bifF hc11 h
      refine pwp_skip ?_
      refine pwp_region ?_
      refine opsP_evk' (st' := ⟨17, [(6, A v1), (7, I ((v1.length : Int))), (8, I ((w64 (x3 + 1))))], []⟩) τ_ok [] 2 [6, 7, 8] (by kernel_rfl) ?_
      refine opsP_end rfl ?_
      exact ⟨(f4, (w64 (x3 + 1))), h, Nat.lt_succ_self _, (Imp.to (st' := ⟨17, [(6, A v1), (7, I ((v1.length : Int))), (8, I ((w64 (x3 + 1))))], []⟩) [6, 7, 8] (by kernel_rfl)).trans (Imp.to [6, 7, 8] (by kernel_rfl))⟩
  · replace h := bifF hc6 h
    refine pwp_exit ?_
    refine pwp_seq ?_
    refine pwp_region ?_
    refine opsP_evk' (st' := ⟨17, [(2, B true)], []⟩) τ_ok [] 1 [2] (by kernel_rfl) ?_
    refine opsP_end rfl ?_
    have h := Option.some.inj h
    subst h
    exact pwp_ret ⟨.inr rfl, B true, _, by kernel_rfl, (OutP.frz (by kernel_rfl)), by decide⟩

/- slices.IndexFunc[[]int,int] -/
def slices_IndexFunc_int_int_l0 (a0 : List Int) (a1 : Int → Option Bool) : Nat → Int → Option Int
  | 0, _ => none
  | f2 + 1, x1 => bif (decide (x1 < ((a0.length : Int)))) then (getI a0 x1).bind fun v5 => (a1 v5).bind fun v7 => bif v7 then some x1 else (slices_IndexFunc_int_int_l0 a0 a1 f2) ((w64 (x1 + 1))) else some (-1)
def slices_IndexFunc_int_int (a0 : List Int) (a1 : Int → Option Bool) : Option Int := slices_IndexFunc_int_int_l0 a0 a1 FUEL 0
theorem ok_slices_IndexFunc_int_int {a0 : List Int} {g1 : FuncId} {c1 : List V} (hz1 : frzL c1 = true) {a1 : Int → Option Bool} (hp1 : ∀ x0 y, a1 x0 = some y → OK Try.prog g1 ([I x0] ++ c1) (B y)) {y : Int} (h : slices_IndexFunc_int_int a0 a1 = some y) : OK Try.prog 125 [A a0, .fn g1 c1] (I y) := by
  refine OK_of_pwp τ_ok Try.func125 rfl (by kernel_rfl) rfl fun Γ hX => ?_
  unfold slices_IndexFunc_int_int at h
  refine pwp_seq ?_
  refine pwp_region ?_
  refine opsP_evk' (st' := ⟨19, [(0, A a0), (1, .fn g1 c1)], []⟩) τ_ok [] 1 [0, 1] (by kernel_rfl) ?_
  refine opsP_end rfl ?_
  refine pwp_seq ?_
  refine pwp_seq ?_
  refine pwp_region ?_
  refine opsP_evk' (st' := ⟨19, [(0, A a0), (1, .fn g1 c1), (7, I ((a0.length : Int))), (8, I 0)], []⟩) τ_ok [] 3 [0, 1, 7, 8] (by kernel_rfl) ?_
  refine opsP_end rfl ?_
  refine pwp_block ?_
  refine pwp_loop (ι := Nat × Int) (fun (f2, x1) => (⟨19, [(0, A a0), (1, .fn g1 c1), (7, I ((a0.length : Int))), (8, I x1)], []⟩ : St)) (fun (f2, x1) => slices_IndexFunc_int_int_l0 a0 a1 f2 x1 = some y) (fun (f2, x1) => f2) (FUEL, 0) h ((Imp.to (st' := ⟨19, [(0, A a0), (1, .fn g1 c1), (7, I ((a0.length : Int))), (8, I 0)], []⟩) [0, 1, 7, 8] (by kernel_rfl)).trans (Imp.to [0, 1, 7, 8] (by kernel_rfl))) ?_
  rintro ⟨f2, x1⟩ h
  dsimp only at h ⊢
  cases f2 with
  | zero => cases h
  | succ f2 =>
  rw [slices_IndexFunc_int_int_l0] at h
  refine pwp_seq ?_
  refine pwp_region ?_
  refine opsP_evk' (st' := ⟨19, [(0, A a0), (1, .fn g1 c1), (7, I ((a0.length : Int))), (8, I x1), (9, B ((decide (x1 < ((a0.length : Int))))))], []⟩) τ_ok [] 1 [0, 1, 7, 8, 9] (by kernel_rfl) ?_
  refine opsP_end rfl ?_
  refine pwp_seq ?_
  refine pwp_cond ((decide (x1 < ((a0.length : Int))))) (by kernel_rfl) (fun hc4 => ?_) (fun hc4 => ?_)
  · replace h := bifT hc4 h
    refine pwp_skip ?_
    refine pwp_seq ?_
    refine pwp_block ?_
    refine pwp_seq ?_
    refine pwp_region ?_
    refine opsP_evk' (st' := ⟨19, [(0, A a0), (1, .fn g1 c1), (5, I x1), (7, I ((a0.length : Int))), (8, I x1)], []⟩) τ_ok [] 2 [0, 1, 5, 7, 8] (by kernel_rfl) ?_
    refine opsP_end rfl ?_
    refine pwp_seq ?_
    refine pwp_region ?_
    refine opsP_evk' (st' := ⟨19, [(0, A a0), (1, .fn g1 c1), (5, I x1), (7, I ((a0.length : Int))), (8, I x1), (11, .fn g1 c1), (12, A a0), (13, I x1)], []⟩) τ_ok [] 3 [0, 1, 5, 7, 8, 11, 12, 13] (by kernel_rfl) ?_
    obtain ⟨v5, hv6, h⟩ := bindS h
    refine opsP_idx τ_ok 14 hv6 (by kernel_rfl) ?_
    refine opsP_evk' (st' := ⟨19, [(0, A a0), (1, .fn g1 c1), (5, I x1), (7, I ((a0.length : Int))), (8, I x1), (11, .fn g1 c1), (15, I v5)], []⟩) τ_ok [] 1 [0, 1, 5, 7, 8, 11, 15] (by kernel_rfl) ?_
    obtain ⟨v7, hv8, h⟩ := bindS h
    refine opsP_callF τ 16 (hp1 _ _ hv8) (FzTo.frz rfl) (frz_app (xs := [I v5]) rfl hz1) (by kernel_rfl) ?_
    refine opsP_evk' (st' := ⟨19, [(0, A a0), (1, .fn g1 c1), (5, I x1), (7, I ((a0.length : Int))), (8, I x1), (16, B v7)], []⟩) τ_ok [] 0 [0, 1, 5, 7, 8, 16] (by kernel_rfl) ?_
    refine opsP_end rfl ?_
    refine pwp_cond v7 (by kernel_rfl) (fun hc9 => ?_) (fun hc9 => ?_)
    · replace h := bifT hc9 h
      refine pwp_seq ?_
      refine pwp_region ?_
      refine opsP_evk' (st' := ⟨19, [(4, I x1)], []⟩) τ_ok [] 2 [4] (by kernel_rfl) ?_
      refine opsP_end rfl ?_
      have h := Option.some.inj h
      subst h
      exact pwp_ret ⟨.inr rfl, I x1, _, by kernel_rfl, (OutP.frz (by kernel_rfl)), by decide⟩
    · replace h := bifF hc9 h
      refine pwp_skip ?_
      refine pwp_region ?_
      refine opsP_evk' (st' := ⟨19, [(0, A a0), (1, .fn g1 c1), (7, I ((a0.length : Int))), (8, I ((w64 (x1 + 1))))], []⟩) τ_ok [] 2 [0, 1, 7, 8] (by kernel_rfl) ?_
      refine opsP_end rfl ?_
      exact ⟨(f2, (w64 (x1 + 1))), h, Nat.lt_succ_self _, (Imp.to (st' := ⟨19, [(0, A a0), (1, .fn g1 c1), (7, I ((a0.length : Int))), (8, I ((w64 (x1 + 1))))], []⟩) [0, 1, 7, 8] (by kernel_rfl)).trans (Imp.to [0, 1, 7, 8] (by kernel_rfl))⟩
  · replace h := bifF hc4 h
    refine pwp_exit ?_
    refine pwp_seq ?_
    refine pwp_region ?_
    refine opsP_evk' (st' := ⟨19, [(4, I (-1))], []⟩) τ_ok [] 1 [4] (by kernel_rfl) ?_
    refine opsP_end rfl ?_
    have h := Option.some.inj h
    subst h
    exact pwp_ret ⟨.inr rfl, I (-1), _, by kernel_rfl, (OutP.frz (by kernel_rfl)), by decide⟩

/- slices.IndexFunc[[]loop.example/tablehouse/impl.Value,loop.example/tablehouse/impl.Value] -/
def slices_IndexFunc_impl_Value_impl_Value_126_l0 (a0 : List T_impl_Value) (a1 : T_impl_Value → Option Bool) : Nat → Int → Option Int
  | 0, _ => none
  | f2 + 1, x1 => bif (decide (x1 < ((a0.length : Int)))) then (getI a0 x1).bind fun v5 => (a1 v5).bind fun v7 => bif v7 then some x1 else (slices_IndexFunc_impl_Value_impl_Value_126_l0 a0 a1 f2) ((w64 (x1 + 1))) else some (-1)
def slices_IndexFunc_impl_Value_impl_Value_126 (a0 : List T_impl_Value) (a1 : T_impl_Value → Option Bool) : Option Int := slices_IndexFunc_impl_Value_impl_Value_126_l0 a0 a1 FUEL 0
theorem ok_slices_IndexFunc_impl_Value_impl_Value_126 {a0 : List T_impl_Value} {g1 : FuncId} {c1 : List V} (hz1 : frzL c1 = true) {a1 : T_impl_Value → Option Bool} (hp1 : ∀ x0 y, a1 x0 = some y → OK Try.prog g1 ([E x0] ++ c1) (B y)) {y : Int} (h : slices_IndexFunc_impl_Value_impl_Value_126 a0 a1 = some y) : OK Try.prog 126 [A a0, .fn g1 c1] (I y) := by
  refine OK_of_pwp τ_ok Try.func126 rfl (by kernel_rfl) rfl fun Γ hX => ?_
  unfold slices_IndexFunc_impl_Value_impl_Value_126 at h
  refine pwp_seq ?_
  refine pwp_region ?_
  refine opsP_evk' (st' := ⟨19, [(0, A a0), (1, .fn g1 c1)], []⟩) τ_ok [] 1 [0, 1] (by kernel_rfl) ?_
  refine opsP_end rfl ?_
  refine pwp_seq ?_
  refine pwp_seq ?_
  refine pwp_region ?_
  refine opsP_evk' (st' := ⟨19, [(0, A a0), (1, .fn g1 c1), (7, I ((a0.length : Int))), (8, I 0)], []⟩) τ_ok [] 3 [0, 1, 7, 8] (by kernel_rfl) ?_
  refine opsP_end rfl ?_
  refine pwp_block ?_
  refine pwp_loop (ι := Nat × Int) (fun (f2, x1) => (⟨19, [(0, A a0), (1, .fn g1 c1), (7, I ((a0.length : Int))), (8, I x1)], []⟩ : St)) (fun (f2, x1) => slices_IndexFunc_impl_Value_impl_Value_126_l0 a0 a1 f2 x1 = some y) (fun (f2, x1) => f2) (FUEL, 0) h ((Imp.to (st' := ⟨19, [(0, A a0), (1, .fn g1 c1), (7, I ((a0.length : Int))), (8, I 0)], []⟩) [0, 1, 7, 8] (by kernel_rfl)).trans (Imp.to [0, 1, 7, 8] (by kernel_rfl))) ?_
  rintro ⟨f2, x1⟩ h
  dsimp only at h ⊢
  cases f2 with
  | zero => cases h
  | succ f2 =>
  rw [slices_IndexFunc_impl_Value_impl_Value_126_l0] at h
  refine pwp_seq ?_
  refine pwp_region ?_
  refine opsP_evk' (st' := ⟨19, [(0, A a0), (1, .fn g1 c1), (7, I ((a0.length : Int))), (8, I x1), (9, B ((decide (x1 < ((a0.length : Int))))))], []⟩) τ_ok [] 1 [0, 1, 7, 8, 9] (by kernel_rfl) ?_
  refine opsP_end rfl ?_
  refine pwp_seq ?_
  refine pwp_cond ((decide (x1 < ((a0.length : Int))))) (by kernel_rfl) (fun hc4 => ?_) (fun hc4 => ?_)
  · replace h := bifT hc4 h
    refine pwp_skip ?_
    refine pwp_seq ?_
    refine pwp_block ?_
    refine pwp_seq ?_
    refine pwp_region ?_
    refine opsP_evk' (st' := ⟨19, [(0, A a0), (1, .fn g1 c1), (5, I x1), (7, I ((a0.length : Int))), (8, I x1)], []⟩) τ_ok [] 2 [0, 1, 5, 7, 8] (by kernel_rfl) ?_
    refine opsP_end rfl ?_
    refine pwp_seq ?_
    refine pwp_region ?_
    refine opsP_evk' (st' := ⟨19, [(0, A a0), (1, .fn g1 c1), (5, I x1), (7, I ((a0.length : Int))), (8, I x1), (11, .fn g1 c1), (12, A a0), (13, I x1)], []⟩) τ_ok [] 3 [0, 1, 5, 7, 8, 11, 12, 13] (by kernel_rfl) ?_
    obtain ⟨v5, hv6, h⟩ := bindS h
    refine opsP_idx τ_ok 14 hv6 (by kernel_rfl) ?_
    refine opsP_evk' (st' := ⟨19, [(0, A a0), (1, .fn g1 c1), (5, I x1), (7, I ((a0.length : Int))), (8, I x1), (11, .fn g1 c1), (15, E v5)], []⟩) τ_ok [] 1 [0, 1, 5, 7, 8, 11, 15] (by kernel_rfl) ?_
    obtain ⟨v7, hv8, h⟩ := bindS h
    refine opsP_callF τ 16 (hp1 _ _ hv8) (FzTo.frz rfl) (frz_app (xs := [E v5]) rfl hz1) (by kernel_rfl) ?_
    refine opsP_evk' (st' := ⟨19, [(0, A a0), (1, .fn g1 c1), (5, I x1), (7, I ((a0.length : Int))), (8, I x1), (16, B v7)], []⟩) τ_ok [] 0 [0, 1, 5, 7, 8, 16] (by kernel_rfl) ?_
    refine opsP_end rfl ?_
    refine pwp_cond v7 (by kernel_rfl) (fun hc9 => ?_) (fun hc9 => ?_)
    · replace h := bifT hc9 h
      refine pwp_seq ?_
      refine pwp_region ?_
      refine opsP_evk' (st' := ⟨19, [(4, I x1)], []⟩) τ_ok [] 2 [4] (by kernel_rfl) ?_
      refine opsP_end rfl ?_
      have h := Option.some.inj h
      subst h
      exact pwp_ret ⟨.inr rfl, I x1, _, by kernel_rfl, (OutP.frz (by kernel_rfl)), by decide⟩
    · replace h := bifF hc9 h
      refine pwp_skip ?_
      refine pwp_region ?_
      refine opsP_evk' (st' := ⟨19, [(0, A a0), (1, .fn g1 c1), (7, I ((a0.length : Int))), (8, I ((w64 (x1 + 1))))], []⟩) τ_ok [] 2 [0, 1, 7, 8] (by kernel_rfl) ?_
      refine opsP_end rfl ?_
      exact ⟨(f2, (w64 (x1 + 1))), h, Nat.lt_succ_self _, (Imp.to (st' := ⟨19, [(0, A a0), (1, .fn g1 c1), (7, I ((a0.length : Int))), (8, I ((w64 (x1 + 1))))], []⟩) [0, 1, 7, 8] (by kernel_rfl)).trans (Imp.to [0, 1, 7, 8] (by kernel_rfl))⟩
  · replace h := bifF hc4 h
    refine pwp_exit ?_
    refine pwp_seq ?_
    refine pwp_region ?_
    refine opsP_evk' (st' := ⟨19, [(4, I (-1))], []⟩) τ_ok [] 1 [4] (by kernel_rfl) ?_
    refine opsP_end rfl ?_
    have h := Option.some.inj h
    subst h
    exact pwp_ret ⟨.inr rfl, I (-1), _, by kernel_rfl, (OutP.frz (by kernel_rfl)), by decide⟩

/- loop.example/tablehouse/laws.eqColumnS -/
def laws_eqColumnS_l0 (a0 : List T_impl_Column) (a1 : List T_impl_Column) : Nat → Int → Option Bool
  | 0, _ => none
  | f3 + 1, x2 => bif (decide (x2 < ((a0.length : Int)))) then (getI a0 x2).bind fun v6 => (getI a1 x2).bind fun v8 => (laws_eqColumn v6 v8).bind fun v10 => bif (!v10) then some false else (laws_eqColumnS_l0 a0 a1 f3) ((w64 (x2 + 1))) else some true
def laws_eqColumnS (a0 : List T_impl_Column) (a1 : List T_impl_Column) : Option Bool := bif (!(((a0.length : Int)) == ((a1.length : Int)))) then some false else laws_eqColumnS_l0 a0 a1 FUEL 0
theorem ok_laws_eqColumnS {a0 : List T_impl_Column} {a1 : List T_impl_Column} {y : Bool} (h : laws_eqColumnS a0 a1 = some y) : OK Try.prog 16 [A a0, A a1] (B y) := by
  refine OK_of_pwp τ_ok Try.func16 rfl (by kernel_rfl) rfl fun Γ hX => ?_
  unfold laws_eqColumnS at h
  refine pwp_seq ?_
  refine pwp_region ?_
  refine opsP_evk' (st' := ⟨27, [(0, A a0), (1, A a1)], []⟩) τ_ok [] 1 [0, 1] (by kernel_rfl) ?_
  refine opsP_end rfl ?_
  refine pwp_seq ?_
  refine pwp_seq ?_
  refine pwp_region ?_
  refine opsP_evk' (st' := ⟨27, [(0, A a0), (1, A a1), (10, B ((!(((a0.length : Int)) == ((a1.length : Int))))))], []⟩) τ_ok [] 5 [0, 1, 10] (by kernel_rfl) ?_
  refine opsP_end rfl ?_
  refine pwp_cond ((!(((a0.length : Int)) == ((a1.length : Int))))) (by kernel_rfl) (fun hc1 => ?_) (fun hc1 => ?_)
  · replace h := bifT hc1 h
    refine pwp_seq ?_
    refine pwp_region ?_
    refine opsP_evk' (st' := ⟨27, [(4, B false)], []⟩) τ_ok [] 1 [4] (by kernel_rfl) ?_
    refine opsP_end rfl ?_
    have h := Option.some.inj h
    subst h
    exact pwp_ret ⟨.inr rfl, B false, _, by kernel_rfl, (OutP.frz (by kernel_rfl)), by decide⟩
  · replace h := bifF hc1 h
    refine pwp_skip ?_
    refine pwp_seq ?_
    refine pwp_seq ?_
    refine pwp_region ?_
    refine opsP_evk' (st' := ⟨27, [(0, A a0), (1, A a1), (5, I 0)], []⟩) τ_ok [] 1 [0, 1, 5] (by kernel_rfl) ?_
    refine opsP_end rfl ?_
    refine pwp_block ?_
    refine pwp_loop (ι := Nat × Int) (fun (f3, x2) => (⟨27, [(0, A a0), (1, A a1), (5, I x2)], []⟩ : St)) (fun (f3, x2) => laws_eqColumnS_l0 a0 a1 f3 x2 = some y) (fun (f3, x2) => f3) (FUEL, 0) h ((Imp.to (st' := ⟨27, [(0, A a0), (1, A a1), (5, I 0)], []⟩) [0, 1, 5] (by kernel_rfl)).trans (Imp.to [0, 1, 5] (by kernel_rfl))) ?_
    rintro ⟨f3, x2⟩ h
    dsimp only at h ⊢
    cases f3 with
    | zero => cases h
    | succ f3 =>
    rw [laws_eqColumnS_l0] at h
    refine pwp_seq ?_
    refine pwp_seq ?_
    refine pwp_region ?_
    refine opsP_evk' (st' := ⟨27, [(0, A a0), (1, A a1), (5, I x2), (14, B ((decide (x2 < ((a0.length : Int))))))], []⟩) τ_ok [] 4 [0, 1, 5, 14] (by kernel_rfl) ?_
    refine opsP_end rfl ?_
    refine pwp_cond ((decide (x2 < ((a0.length : Int))))) (by kernel_rfl) (fun hc5 => ?_) (fun hc5 => ?_)
    · replace h := bifT hc5 h
      refine pwp_skip ?_
      refine pwp_seq ?_
      refine pwp_block ?_
      refine pwp_seq ?_
      refine pwp_imp (Imp.to (st' := ⟨27, [(0, A a0), (1, A a1), (5, I x2)], []⟩) [0, 1, 5] (by kernel_rfl)) ?_
      refine pwp_any ([[], [], [], [], [], [], [], [], [], []]) ([[], [], [], [], [], [], [], [], [], []]) rfl (by kernel_rfl) ?_
      refine qA_ev (st' := ⟨27, [(18, I x2), (17, A a0), (0, A a0), (1, A a1), (5, I x2)], []⟩) τ_ok [] [] 2 (by exact trivial) (by kernel_rfl) ?_
      obtain ⟨v6, hv7, h⟩ := bindS h
      refine qA_E (dd := some 19) (x := .fptr (Enc.cells v6) 0) ([]) (⟨27, [(19, .fptr (Enc.cells v6) 0), (18, I x2), (17, A a0), (0, A a0), (1, A a1), (5, I x2)], []⟩) (fun Γ' hΓ => CoreE.of_y (idxV_sound τ_ok (by kernel_rfl) hv7)) (by kernel_rfl) (by kernel_rfl) (by exact trivial) (.inr (.inr rfl)) (by kernel_rfl) ?_
      refine qA_ev (st' := ⟨27, [(22, I x2), (21, A a1), (20, E v6), (19, .fptr (Enc.cells v6) 0), (18, I x2), (17, A a0), (0, A a0), (1, A a1), (5, I x2)], []⟩) τ_ok [] [] 3 (by exact trivial) (by kernel_rfl) ?_
      obtain ⟨v8, hv9, h⟩ := bindS h
      refine qA_E (dd := some 23) (x := .fptr (Enc.cells v8) 0) ([]) (⟨27, [(23, .fptr (Enc.cells v8) 0), (22, I x2), (21, A a1), (20, E v6), (19, .fptr (Enc.cells v6) 0), (18, I x2), (17, A a0), (0, A a0), (1, A a1), (5, I x2)], []⟩) (fun Γ' hΓ => CoreE.of_y (idxV_sound τ_ok (by kernel_rfl) hv9)) (by kernel_rfl) (by kernel_rfl) (by exact trivial) (.inr (.inr rfl)) (by kernel_rfl) ?_
      refine qA_ev (st' := ⟨27, [(24, E v8), (23, .fptr (Enc.cells v8) 0), (22, I x2), (21, A a1), (20, E v6), (19, .fptr (Enc.cells v6) 0), (18, I x2), (17, A a0), (0, A a0), (1, A a1), (5, I x2)], []⟩) τ_ok [] [] 1 (by exact trivial) (by kernel_rfl) ?_
      obtain ⟨v10, hv11, h⟩ := bindS h
      refine qA_E (dd := some 25) (x := B v10) ([]) (⟨27, [(25, B v10), (24, E v8), (23, .fptr (Enc.cells v8) 0), (22, I x2), (21, A a1), (20, E v6), (19, .fptr (Enc.cells v6) 0), (18, I x2), (17, A a0), (0, A a0), (1, A a1), (5, I x2)], []⟩) (fun Γ' hΓ => CoreE.of_g (callV_sound (τ := τ) (by kernel_rfl) rfl (ok_laws_eqColumn hv11) (FzTo.frz rfl))) (by kernel_rfl) (by kernel_rfl) (by exact trivial) (.inr (.inr rfl)) (by kernel_rfl) ?_
      refine qA_ev (st' := ⟨27, [(26, B ((!v10))), (25, B v10), (24, E v8), (23, .fptr (Enc.cells v8) 0), (22, I x2), (21, A a1), (20, E v6), (19, .fptr (Enc.cells v6) 0), (18, I x2), (17, A a0), (0, A a0), (1, A a1), (5, I x2)], []⟩) τ_ok [] [] 1 (by exact trivial) (by kernel_rfl) ?_
      refine qA_end ?_
      refine opsP_imp (Imp.to (st' := ⟨27, [(0, A a0), (1, A a1), (5, I x2), (26, B ((!v10)))], []⟩) [0, 1, 5, 26] (by kernel_rfl)) ?_
      refine opsP_end rfl ?_
      refine pwp_cond ((!v10)) (by kernel_rfl) (fun hc12 => ?_) (fun hc12 => ?_)
      · replace h := bifT hc12 h
        refine pwp_seq ?_
        refine pwp_region ?_
        refine opsP_evk' (st' := ⟨27, [(4, B false)], []⟩) τ_ok [] 1 [4] (by kernel_rfl) ?_
        refine opsP_end rfl ?_
        have h := Option.some.inj h
        subst h
        exact pwp_ret ⟨.inr rfl, B false, _, by kernel_rfl, (OutP.frz (by kernel_rfl)), by decide⟩
      · replace h := bifF hc12 h
        refine pwp_skip ?_
        refine pwp_region ?_
        refine opsP_evk' (st' := ⟨27, [(0, A a0), (1, A a1), (5, I ((w64 (x2 + 1))))], []⟩) τ_ok [] 3 [0, 1, 5] (by kernel_rfl) ?_
        refine opsP_end rfl ?_
        exact ⟨(f3, (w64 (x2 + 1))), h, Nat.lt_succ_self _, (Imp.to (st' := ⟨27, [(0, A a0), (1, A a1), (5, I ((w64 (x2 + 1))))], []⟩) [0, 1, 5] (by kernel_rfl)).trans (Imp.to [0, 1, 5] (by kernel_rfl))⟩
    · replace h := bifF hc5 h
      refine pwp_exit ?_
      refine pwp_seq ?_
      refine pwp_region ?_
      refine opsP_evk' (st' := ⟨27, [(4, B true)], []⟩) τ_ok [] 1 [4] (by kernel_rfl) ?_
      refine opsP_end rfl ?_
      have h := Option.some.inj h
      subst h
      exact pwp_ret ⟨.inr rfl, B true, _, by kernel_rfl, (OutP.frz (by kernel_rfl)), by decide⟩

/- loop.example/tablehouse/laws.toColumnS -/
def laws_toColumnS_l0 (a0 : List T_laws_Column) : Nat → Int → (List T_impl_Column) → Option (List T_impl_Column)
  | 0, _, _ => none
  | f6 + 1, x4, x5 => bif (decide (x4 < ((a0.length : Int)))) then (getI a0 x4).bind fun v9 => (laws_toColumn v9).bind fun v11 => (getI x5 x4).bind fun v13 => (laws_toColumnS_l0 a0 f6) ((w64 (x4 + 1))) ((x5.set x4.toNat v11)) else some x5
def laws_toColumnS (a0 : List T_laws_Column) : Option (List T_impl_Column) := (mkI ((a0.length : Int)) ((T_impl_Column.mk 0 false))).bind fun v1 => laws_toColumnS_l0 a0 FUEL 0 v1
theorem ok_laws_toColumnS {a0 : List T_laws_Column} {y : List T_impl_Column} (h : laws_toColumnS a0 = some y) : OK Try.prog 57 [A a0] (O y) := by
  refine OK_of_pwp τ_ok Try.func57 rfl (by kernel_rfl) rfl fun Γ hX => ?_
  unfold laws_toColumnS at h
  refine pwp_seq ?_
  refine pwp_region ?_
  refine opsP_evk' (st' := ⟨23, [(0, A a0)], []⟩) τ_ok [] 1 [0] (by kernel_rfl) ?_
  refine opsP_end rfl ?_
  refine pwp_seq ?_
  refine pwp_region ?_
  refine opsP_evk' (st' := ⟨23, [(0, A a0), (6, I ((a0.length : Int)))], []⟩) τ_ok [] 2 [0, 6] (by kernel_rfl) ?_
  obtain ⟨v1, hv2, h⟩ := bindS h
  refine opsP_mk τ_ok 7 0 _ hv2 (by kernel_rfl) (by kernel_rfl) ?_
  refine opsP_evk' (st' := ⟨23, [(0, A a0), (3, .ref 0 0 0 2 v1.length false)], [some ⟨0, eL v1⟩]⟩) τ_ok [] 1 [0, 3] (by kernel_rfl) ?_
  refine opsP_end rfl ?_
  refine pwp_seq ?_
  refine pwp_seq ?_
  refine pwp_region ?_
  refine opsP_evk' (st' := ⟨23, [(0, A a0), (3, .ref 0 0 0 2 v1.length false), (4, I 0)], [some ⟨0, eL v1⟩]⟩) τ_ok [] 1 [0, 3, 4] (by kernel_rfl) ?_
  refine opsP_end rfl ?_
  refine pwp_block ?_
  refine pwp_loop (ι := Nat × Int × (List T_impl_Column)) (fun (f6, x4, x5) => (⟨23, [(0, A a0), (3, .ref 0 0 0 2 x5.length false), (4, I x4)], [some ⟨0, eL x5⟩]⟩ : St)) (fun (f6, x4, x5) => laws_toColumnS_l0 a0 f6 x4 x5 = some y) (fun (f6, x4, x5) => f6) (FUEL, 0, v1) h ((Imp.to (st' := ⟨23, [(0, A a0), (3, .ref 0 0 0 2 v1.length false), (4, I 0)], [some ⟨0, eL v1⟩]⟩) [0, 3, 4] (by kernel_rfl)).trans (Imp.to [0, 3, 4] (by kernel_rfl))) ?_
  rintro ⟨f6, x4, x5⟩ h
  dsimp only at h ⊢
  cases f6 with
  | zero => cases h
  | succ f6 =>
  rw [laws_toColumnS_l0] at h
  refine pwp_seq ?_
  refine pwp_seq ?_
  refine pwp_region ?_
  refine opsP_evk' (st' := ⟨23, [(0, A a0), (3, .ref 0 0 0 2 x5.length false), (4, I x4), (11, B ((decide (x4 < ((a0.length : Int))))))], [some ⟨0, eL x5⟩]⟩) τ_ok [] 4 [0, 3, 4, 11] (by kernel_rfl) ?_
  refine opsP_end rfl ?_
  refine pwp_cond ((decide (x4 < ((a0.length : Int))))) (by kernel_rfl) (fun hc8 => ?_) (fun hc8 => ?_)
  · replace h := bifT hc8 h
    refine pwp_skip ?_
    refine pwp_seq ?_
    refine pwp_block ?_
    refine pwp_region ?_
    refine opsP_evk' (st' := ⟨23, [(0, A a0), (3, .ref 0 0 0 2 x5.length false), (4, I x4), (14, .ref 0 0 0 2 x5.length false), (15, I x4), (16, A a0), (17, I x4)], [some ⟨0, eL x5⟩]⟩) τ_ok [] 4 [0, 3, 4, 14, 15, 16, 17] (by kernel_rfl) ?_
    obtain ⟨v9, hv10, h⟩ := bindS h
    refine opsP_idx τ_ok 18 hv10 (by kernel_rfl) ?_
    refine opsP_evk' (st' := ⟨23, [(0, A a0), (3, .ref 0 0 0 2 x5.length false), (4, I x4), (14, .ref 0 0 0 2 x5.length false), (15, I x4), (19, E v9)], [some ⟨0, eL x5⟩]⟩) τ_ok [] 1 [0, 3, 4, 14, 15, 19] (by kernel_rfl) ?_
    obtain ⟨v11, hv12, h⟩ := bindS h
    refine opsP_callF τ 20 (ok_laws_toColumn hv12) (FzTo.frz rfl) rfl (by kernel_rfl) ?_
    obtain ⟨v13, hv14, h⟩ := bindS h
    refine opsP_idr τ_ok 21 0 0 x5.length hv14 rfl (by kernel_rfl) ?_
    refine opsP_evk' (st' := ⟨23, [(0, A a0), (3, .ref 0 0 0 2 x5.length false), (4, I x4), (20, E v11), (21, .ptr 0 0 (x4.toNat * 2))], [some ⟨0, eL x5⟩]⟩) τ_ok [] 0 [0, 3, 4, 20, 21] (by kernel_rfl) ?_
    refine opsP_ste (vs := [I v11.fKind, B v11.fEmpty]) τ_ok 77 0 0 0 v11 hv14 (by kernel_rfl) (by kernel_rfl) (by kernel_rfl) (renC trivial (renC (ren_ref (List.length_set ..).symm) (renC trivial (renC trivial (renC trivial renC0))))) ?_
    refine opsP_evk' (st' := ⟨23, [(0, A a0), (3, .ref 0 0 0 2 ((x5.set x4.toNat v11)).length false), (4, I x4)], [some ⟨0, eL ((x5.set x4.toNat v11))⟩]⟩) τ_ok [] 0 [0, 3, 4] (by kernel_rfl) ?_
    refine opsP_end rfl ?_
    refine pwp_region ?_
    refine opsP_evk' (st' := ⟨23, [(0, A a0), (3, .ref 0 0 0 2 ((x5.set x4.toNat v11)).length false), (4, I ((w64 (x4 + 1))))], [some ⟨0, eL ((x5.set x4.toNat v11))⟩]⟩) τ_ok [] 3 [0, 3, 4] (by kernel_rfl) ?_
    refine opsP_end rfl ?_
    exact ⟨(f6, (w64 (x4 + 1)), (x5.set x4.toNat v11)), h, Nat.lt_succ_self _, (Imp.to (st' := ⟨23, [(0, A a0), (3, .ref 0 0 0 2 ((x5.set x4.toNat v11)).length false), (4, I ((w64 (x4 + 1))))], [some ⟨0, eL ((x5.set x4.toNat v11))⟩]⟩) [0, 3, 4] (by kernel_rfl)).trans (Imp.to [0, 3, 4] (by kernel_rfl))⟩
  · replace h := bifF hc8 h
    refine pwp_exit ?_
    refine pwp_seq ?_
    refine pwp_region ?_
    refine opsP_evk' (st' := ⟨23, [(2, .ref 0 0 0 2 x5.length false)], [some ⟨0, eL x5⟩]⟩) τ_ok [] 2 [2] (by kernel_rfl) ?_
    refine opsP_end rfl ?_
    have h := Option.some.inj h
    subst h
    exact pwp_ret ⟨.inr rfl, .ref 0 0 0 2 x5.length false, _, by kernel_rfl, (OutP.list (v := 0) (by kernel_rfl)), by decide⟩

/- slices.ContainsFunc[[]loop.example/tablehouse/impl.Table,loop.example/tablehouse/impl.Table] -/
def slices_ContainsFunc_impl_Table_impl_Table (a0 : List T_impl_Table) (a1 : T_impl_Table → Option Bool) : Option Bool := (slices_IndexFunc_impl_Table_impl_Table a0 a1).bind fun v1 => some ((decide (v1 ≥ 0)))
theorem ok_slices_ContainsFunc_impl_Table_impl_Table {a0 : List T_impl_Table} {g1 : FuncId} {c1 : List V} (hz1 : frzL c1 = true) {a1 : T_impl_Table → Option Bool} (hp1 : ∀ x0 y, a1 x0 = some y → OK Try.prog g1 ([E x0] ++ c1) (B y)) {y : Bool} (h : slices_ContainsFunc_impl_Table_impl_Table a0 a1 = some y) : OK Try.prog 69 [A a0, .fn g1 c1] (B y) := by
  refine OK_of_pwp τ_ok Try.func69 rfl (by kernel_rfl) rfl fun Γ hX => ?_
  unfold slices_ContainsFunc_impl_Table_impl_Table at h
  refine pwp_seq ?_
  refine pwp_region ?_
  refine opsP_evk' (st' := ⟨9, [(0, A a0), (1, .fn g1 c1)], []⟩) τ_ok [] 1 [0, 1] (by kernel_rfl) ?_
  refine opsP_end rfl ?_
  refine pwp_seq ?_
  refine pwp_region ?_
  refine opsP_evk' (st' := ⟨9, [(5, A a0), (6, .fn g1 c1)], []⟩) τ_ok [] 2 [5, 6] (by kernel_rfl) ?_
  obtain ⟨v1, hv2, h⟩ := bindS h
  refine opsP_callF τ 7 (ok_slices_IndexFunc_impl_Table_impl_Table (hz1) (hp1) hv2) (FzTo.frz rfl) (by simp only [frzL, frz, hz1, Bool.and_true]) (by kernel_rfl) ?_
  refine opsP_evk' (st' := ⟨9, [(4, B ((decide (v1 ≥ 0))))], []⟩) τ_ok [] 2 [4] (by kernel_rfl) ?_
  refine opsP_end rfl ?_
  have h := Option.some.inj h
  subst h
  exact pwp_ret ⟨.inr rfl, B ((decide (v1 ≥ 0))), _, by kernel_rfl, (OutP.frz (by kernel_rfl)), by decide⟩

/- loop.example/tablehouse/laws.szValueS -/
def laws_szValueS_l0 (a0 : List T_laws_Value) : Nat → Int → Int → Option Int
  | 0, _, _ => none
  | f4 + 1, x2, x3 => bif (decide (x3 < ((a0.length : Int)))) then (getI a0 x3).bind fun v7 => (laws_szValue v7 x2).bind fun v9 => bif (decide (v9 < 0)) then some (-1) else (laws_szValueS_l0 a0 f4) v9 ((w64 (x3 + 1))) else some x2
def laws_szValueS (a0 : List T_laws_Value) (a1 : Int) : Option Int := bif (decide (((w64 (a1 - ((a0.length : Int))))) < 0)) then some (-1) else laws_szValueS_l0 a0 FUEL ((w64 (a1 - ((a0.length : Int))))) 0
theorem ok_laws_szValueS {a0 : List T_laws_Value} {a1 : Int} {y : Int} (h : laws_szValueS a0 a1 = some y) : OK Try.prog 78 [A a0, I a1] (I y) := by
  refine OK_of_pwp τ_ok Try.func78 rfl (by kernel_rfl) rfl fun Γ hX => ?_
  unfold laws_szValueS at h
  refine pwp_seq ?_
  refine pwp_region ?_
  refine opsP_evk' (st' := ⟨27, [(0, A a0), (1, I a1)], []⟩) τ_ok [] 1 [0, 1] (by kernel_rfl) ?_
  refine opsP_end rfl ?_
  refine pwp_seq ?_
  refine pwp_region ?_
  refine opsP_evk' (st' := ⟨27, [(0, A a0), (1, I ((w64 (a1 - ((a0.length : Int))))))], []⟩) τ_ok [] 5 [0, 1] (by kernel_rfl) ?_
  refine opsP_end rfl ?_
  refine pwp_seq ?_
  refine pwp_seq ?_
  refine pwp_region ?_
  refine opsP_evk' (st' := ⟨27, [(0, A a0), (1, I ((w64 (a1 - ((a0.length : Int)))))), (11, B ((decide (((w64 (a1 - ((a0.length : Int))))) < 0))))], []⟩) τ_ok [] 2 [0, 1, 11] (by kernel_rfl) ?_
  refine opsP_end rfl ?_
  refine pwp_cond ((decide (((w64 (a1 - ((a0.length : Int))))) < 0))) (by kernel_rfl) (fun hc1 => ?_) (fun hc1 => ?_)
  · replace h := bifT hc1 h
    refine pwp_seq ?_
    refine pwp_region ?_
    refine opsP_evk' (st' := ⟨27, [(4, I (-1))], []⟩) τ_ok [] 1 [4] (by kernel_rfl) ?_
    refine opsP_end rfl ?_
    have h := Option.some.inj h
    subst h
    exact pwp_ret ⟨.inr rfl, I (-1), _, by kernel_rfl, (OutP.frz (by kernel_rfl)), by decide⟩
  · replace h := bifF hc1 h
    refine pwp_skip ?_
    refine pwp_seq ?_
    refine pwp_seq ?_
    refine pwp_region ?_
    refine opsP_evk' (st' := ⟨27, [(0, A a0), (1, I ((w64 (a1 - ((a0.length : Int)))))), (5, I 0)], []⟩) τ_ok [] 1 [0, 1, 5] (by kernel_rfl) ?_
    refine opsP_end rfl ?_
    refine pwp_block ?_
    refine pwp_loop (ι := Nat × Int × Int) (fun (f4, x2, x3) => (⟨27, [(0, A a0), (1, I x2), (5, I x3)], []⟩ : St)) (fun (f4, x2, x3) => laws_szValueS_l0 a0 f4 x2 x3 = some y) (fun (f4, x2, x3) => f4) (FUEL, (w64 (a1 - ((a0.length : Int)))), 0) h ((Imp.to (st' := ⟨27, [(0, A a0), (1, I ((w64 (a1 - ((a0.length : Int)))))), (5, I 0)], []⟩) [0, 1, 5] (by kernel_rfl)).trans (Imp.to [0, 1, 5] (by kernel_rfl))) ?_
    rintro ⟨f4, x2, x3⟩ h
    dsimp only at h ⊢
    cases f4 with
    | zero => cases h
    | succ f4 =>
    rw [laws_szValueS_l0] at h
    refine pwp_seq ?_
    refine pwp_seq ?_
    refine pwp_region ?_
    refine opsP_evk' (st' := ⟨27, [(0, A a0), (1, I x2), (5, I x3), (15, B ((decide (x3 < ((a0.length : Int))))))], []⟩) τ_ok [] 4 [0, 1, 5, 15] (by kernel_rfl) ?_
    refine opsP_end rfl ?_
    refine pwp_cond ((decide (x3 < ((a0.length : Int))))) (by kernel_rfl) (fun hc6 => ?_) (fun hc6 => ?_)
    · replace h := bifT hc6 h
      refine pwp_skip ?_
      refine pwp_seq ?_
      refine pwp_block ?_
      refine pwp_seq ?_
      refine pwp_region ?_
      refine opsP_evk' (st' := ⟨27, [(0, A a0), (1, I x2), (5, I x3), (18, A a0), (19, I x3)], []⟩) τ_ok [] 2 [0, 1, 5, 18, 19] (by kernel_rfl) ?_
      obtain ⟨v7, hv8, h⟩ := bindS h
      refine opsP_idx τ_ok 20 hv8 (by kernel_rfl) ?_
      refine opsP_evk' (st' := ⟨27, [(0, A a0), (5, I x3), (21, E v7), (22, I x2)], []⟩) τ_ok [] 2 [0, 5, 21, 22] (by kernel_rfl) ?_
      obtain ⟨v9, hv10, h⟩ := bindS h
      refine opsP_callF τ 23 (ok_laws_szValue hv10) (FzTo.frz rfl) rfl (by kernel_rfl) ?_
      refine opsP_evk' (st' := ⟨27, [(0, A a0), (1, I v9), (5, I x3)], []⟩) τ_ok [] 1 [0, 1, 5] (by kernel_rfl) ?_
      refine opsP_end rfl ?_
      refine pwp_seq ?_
      refine pwp_region ?_
      refine opsP_evk' (st' := ⟨27, [(0, A a0), (1, I v9), (5, I x3), (25, B ((decide (v9 < 0))))], []⟩) τ_ok [] 2 [0, 1, 5, 25] (by kernel_rfl) ?_
      refine opsP_end rfl ?_
      refine pwp_cond ((decide (v9 < 0))) (by kernel_rfl) (fun hc11 => ?_) (fun hc11 => ?_)
      · replace h := bifT hc11 h
        refine pwp_seq ?_
        refine pwp_region ?_
        refine opsP_evk' (st' := ⟨27, [(4, I (-1))], []⟩) τ_ok [] 1 [4] (by kernel_rfl) ?_
        refine opsP_end rfl ?_
        have h := Option.some.inj h
        subst h
        exact pwp_ret ⟨.inr rfl, I (-1), _, by kernel_rfl, (OutP.frz (by kernel_rfl)), by decide⟩
      · replace h := bifF hc11 h
        refine pwp_skip ?_
        refine pwp_region ?_
        refine opsP_evk' (st' := ⟨27, [(0, A a0), (1, I v9), (5, I ((w64 (x3 + 1))))], []⟩) τ_ok [] 3 [0, 1, 5] (by kernel_rfl) ?_
        refine opsP_end rfl ?_
        exact ⟨(f4, v9, (w64 (x3 + 1))), h, Nat.lt_succ_self _, (Imp.to (st' := ⟨27, [(0, A a0), (1, I v9), (5, I ((w64 (x3 + 1))))], []⟩) [0, 1, 5] (by kernel_rfl)).trans (Imp.to [0, 1, 5] (by kernel_rfl))⟩
    · replace h := bifF hc6 h
      refine pwp_exit ?_
      refine pwp_seq ?_
      refine pwp_region ?_
      refine opsP_evk' (st' := ⟨27, [(4, I x2)], []⟩) τ_ok [] 2 [4] (by kernel_rfl) ?_
      refine opsP_end rfl ?_
      have h := Option.some.inj h
      subst h
      exact pwp_ret ⟨.inr rfl, I x2, _, by kernel_rfl, (OutP.frz (by kernel_rfl)), by decide⟩

/- loop.example/tablehouse/laws.szPart -/
def laws_szPart (a0 : T_laws_Part) (a1 : Int) : Option Int := (laws_szValue a0.fV a1).bind fun v1 => bif (decide (v1 < 0)) then some (-1) else some v1
theorem ok_laws_szPart {a0 : T_laws_Part} {a1 : Int} {y : Int} (h : laws_szPart a0 a1 = some y) : OK Try.prog 79 [E a0, I a1] (I y) := by
  refine OK_of_pwp τ_ok Try.func79 rfl (by kernel_rfl) rfl fun Γ hX => ?_
  unfold laws_szPart at h
  refine pwp_seq ?_
  refine pwp_region ?_
  refine opsP_evk' (st' := ⟨12, [(1, I a1), (2, .fptr (Enc.cells a0) 0)], []⟩) τ_ok [] 2 [1, 2] (by kernel_rfl) ?_
  refine opsP_end rfl ?_
  refine pwp_seq ?_
  refine pwp_region ?_
  refine opsP_evk' (st' := ⟨12, [(6, E a0.fV), (7, I a1)], []⟩) τ_ok [] 3 [6, 7] (by kernel_rfl) ?_
  obtain ⟨v1, hv2, h⟩ := bindS h
  refine opsP_callF τ 8 (ok_laws_szValue hv2) (FzTo.frz rfl) rfl (by kernel_rfl) ?_
  refine opsP_evk' (st' := ⟨12, [(1, I v1)], []⟩) τ_ok [] 1 [1] (by kernel_rfl) ?_
  refine opsP_end rfl ?_
  refine pwp_seq ?_
  refine pwp_seq ?_
  refine pwp_region ?_
  refine opsP_evk' (st' := ⟨12, [(1, I v1), (10, B ((decide (v1 < 0))))], []⟩) τ_ok [] 2 [1, 10] (by kernel_rfl) ?_
  refine opsP_end rfl ?_
  refine pwp_cond ((decide (v1 < 0))) (by kernel_rfl) (fun hc3 => ?_) (fun hc3 => ?_)
  · replace h := bifT hc3 h
    refine pwp_seq ?_
    refine pwp_region ?_
    refine opsP_evk' (st' := ⟨12, [(4, I (-1))], []⟩) τ_ok [] 1 [4] (by kernel_rfl) ?_
    refine opsP_end rfl ?_
    have h := Option.some.inj h
    subst h
    exact pwp_ret ⟨.inr rfl, I (-1), _, by kernel_rfl, (OutP.frz (by kernel_rfl)), by decide⟩
  · replace h := bifF hc3 h
    refine pwp_skip ?_
    refine pwp_seq ?_
    refine pwp_region ?_
    refine opsP_evk' (st' := ⟨12, [(4, I v1)], []⟩) τ_ok [] 2 [4] (by kernel_rfl) ?_
    refine opsP_end rfl ?_
    have h := Option.some.inj h
    subst h
    exact pwp_ret ⟨.inr rfl, I v1, _, by kernel_rfl, (OutP.frz (by kernel_rfl)), by decide⟩

/- loop.example/tablehouse/laws.toValueS -/
def laws_toValueS_l0 (a0 : List T_laws_Value) : Nat → Int → (List T_impl_Value) → Option (List T_impl_Value)
  | 0, _, _ => none
  | f6 + 1, x4, x5 => bif (decide (x4 < ((a0.length : Int)))) then (getI a0 x4).bind fun v9 => (laws_toValue v9).bind fun v11 => (getI x5 x4).bind fun v13 => (laws_toValueS_l0 a0 f6) ((w64 (x4 + 1))) ((x5.set x4.toNat v11)) else some x5
def laws_toValueS (a0 : List T_laws_Value) : Option (List T_impl_Value) := (mkI ((a0.length : Int)) ((T_impl_Value.mk 0 0 (ByteArray.mk #[])))).bind fun v1 => laws_toValueS_l0 a0 FUEL 0 v1
theorem ok_laws_toValueS {a0 : List T_laws_Value} {y : List T_impl_Value} (h : laws_toValueS a0 = some y) : OK Try.prog 85 [A a0] (O y) := by
  refine OK_of_pwp τ_ok Try.func85 rfl (by kernel_rfl) rfl fun Γ hX => ?_
  unfold laws_toValueS at h
  refine pwp_seq ?_
  refine pwp_region ?_
  refine opsP_evk' (st' := ⟨23, [(0, A a0)], []⟩) τ_ok [] 1 [0] (by kernel_rfl) ?_
  refine opsP_end rfl ?_
  refine pwp_seq ?_
  refine pwp_region ?_
  refine opsP_evk' (st' := ⟨23, [(0, A a0), (6, I ((a0.length : Int)))], []⟩) τ_ok [] 2 [0, 6] (by kernel_rfl) ?_
  obtain ⟨v1, hv2, h⟩ := bindS h
  refine opsP_mk τ_ok 7 0 _ hv2 (by kernel_rfl) (by kernel_rfl) ?_
  refine opsP_evk' (st' := ⟨23, [(0, A a0), (3, .ref 0 0 0 3 v1.length false)], [some ⟨0, eL v1⟩]⟩) τ_ok [] 1 [0, 3] (by kernel_rfl) ?_
  refine opsP_end rfl ?_
  refine pwp_seq ?_
  refine pwp_seq ?_
  refine pwp_region ?_
  refine opsP_evk' (st' := ⟨23, [(0, A a0), (3, .ref 0 0 0 3 v1.length false), (4, I 0)], [some ⟨0, eL v1⟩]⟩) τ_ok [] 1 [0, 3, 4] (by kernel_rfl) ?_
  refine opsP_end rfl ?_
  refine pwp_block ?_
  refine pwp_loop (ι := Nat × Int × (List T_impl_Value)) (fun (f6, x4, x5) => (⟨23, [(0, A a0), (3, .ref 0 0 0 3 x5.length false), (4, I x4)], [some ⟨0, eL x5⟩]⟩ : St)) (fun (f6, x4, x5) => laws_toValueS_l0 a0 f6 x4 x5 = some y) (fun (f6, x4, x5) => f6) (FUEL, 0, v1) h ((Imp.to (st' := ⟨23, [(0, A a0), (3, .ref 0 0 0 3 v1.length false), (4, I 0)], [some ⟨0, eL v1⟩]⟩) [0, 3, 4] (by kernel_rfl)).trans (Imp.to [0, 3, 4] (by kernel_rfl))) ?_
  rintro ⟨f6, x4, x5⟩ h
  dsimp only at h ⊢
  cases f6 with
  | zero => cases h
  | succ f6 =>
  rw [laws_toValueS_l0] at h
  refine pwp_seq ?_
  refine pwp_seq ?_
  refine pwp_region ?_
  refine opsP_evk' (st' := ⟨23, [(0, A a0), (3, .ref 0 0 0 3 x5.length false), (4, I x4), (11, B ((decide (x4 < ((a0.length : Int))))))], [some ⟨0, eL x5⟩]⟩) τ_ok [] 4 [0, 3, 4, 11] (by kernel_rfl) ?_
  refine opsP_end rfl ?_
  refine pwp_cond ((decide (x4 < ((a0.length : Int))))) (by kernel_rfl) (fun hc8 => ?_) (fun hc8 => ?_)
  · replace h := bifT hc8 h
    refine pwp_skip ?_
    refine pwp_seq ?_
    refine pwp_block ?_
    refine pwp_region ?_
    refine opsP_evk' (st' := ⟨23, [(0, A a0), (3, .ref 0 0 0 3 x5.length false), (4, I x4), (14, .ref 0 0 0 3 x5.length false), (15, I x4), (16, A a0), (17, I x4)], [some ⟨0, eL x5⟩]⟩) τ_ok [] 4 [0, 3, 4, 14, 15, 16, 17] (by kernel_rfl) ?_
    obtain ⟨v9, hv10, h⟩ := bindS h
    refine opsP_idx τ_ok 18 hv10 (by kernel_rfl) ?_
    refine opsP_evk' (st' := ⟨23, [(0, A a0), (3, .ref 0 0 0 3 x5.length false), (4, I x4), (14, .ref 0 0 0 3 x5.length false), (15, I x4), (19, E v9)], [some ⟨0, eL x5⟩]⟩) τ_ok [] 1 [0, 3, 4, 14, 15, 19] (by kernel_rfl) ?_
    obtain ⟨v11, hv12, h⟩ := bindS h
    refine opsP_callF τ 20 (ok_laws_toValue hv12) (FzTo.frz rfl) rfl (by kernel_rfl) ?_
    obtain ⟨v13, hv14, h⟩ := bindS h
    refine opsP_idr τ_ok 21 0 0 x5.length hv14 rfl (by kernel_rfl) ?_
    refine opsP_evk' (st' := ⟨23, [(0, A a0), (3, .ref 0 0 0 3 x5.length false), (4, I x4), (20, E v11), (21, .ptr 0 0 (x4.toNat * 3))], [some ⟨0, eL x5⟩]⟩) τ_ok [] 0 [0, 3, 4, 20, 21] (by kernel_rfl) ?_
    refine opsP_ste (vs := [I v11.fKind, I v11.fN, S v11.fS]) τ_ok 106 0 0 0 v11 hv14 (by kernel_rfl) (by kernel_rfl) (by kernel_rfl) (renC trivial (renC (ren_ref (List.length_set ..).symm) (renC trivial (renC trivial (renC trivial renC0))))) ?_
    refine opsP_evk' (st' := ⟨23, [(0, A a0), (3, .ref 0 0 0 3 ((x5.set x4.toNat v11)).length false), (4, I x4)], [some ⟨0, eL ((x5.set x4.toNat v11))⟩]⟩) τ_ok [] 0 [0, 3, 4] (by kernel_rfl) ?_
    refine opsP_end rfl ?_
    refine pwp_region ?_
    refine opsP_evk' (st' := ⟨23, [(0, A a0), (3, .ref 0 0 0 3 ((x5.set x4.toNat v11)).length false), (4, I ((w64 (x4 + 1))))], [some ⟨0, eL ((x5.set x4.toNat v11))⟩]⟩) τ_ok [] 3 [0, 3, 4] (by kernel_rfl) ?_
    refine opsP_end rfl ?_
    exact ⟨(f6, (w64 (x4 + 1)), (x5.set x4.toNat v11)), h, Nat.lt_succ_self _, (Imp.to (st' := ⟨23, [(0, A a0), (3, .ref 0 0 0 3 ((x5.set x4.toNat v11)).length false), (4, I ((w64 (x4 + 1))))], [some ⟨0, eL ((x5.set x4.toNat v11))⟩]⟩) [0, 3, 4] (by kernel_rfl)).trans (Imp.to [0, 3, 4] (by kernel_rfl))⟩
  · replace h := bifF hc8 h
    refine pwp_exit ?_
    refine pwp_seq ?_
    refine pwp_region ?_
    refine opsP_evk' (st' := ⟨23, [(2, .ref 0 0 0 3 x5.length false)], [some ⟨0, eL x5⟩]⟩) τ_ok [] 2 [2] (by kernel_rfl) ?_
    refine opsP_end rfl ?_
    have h := Option.some.inj h
    subst h
    exact pwp_ret ⟨.inr rfl, .ref 0 0 0 3 x5.length false, _, by kernel_rfl, (OutP.list (v := 0) (by kernel_rfl)), by decide⟩

/- loop.example/tablehouse/laws.toPart -/
def laws_toPart (a0 : T_laws_Part) : Option T_impl_Part := (laws_toValue a0.fV).bind fun v1 => some ({ ({ ({ ((T_impl_Part.mk 0 0 (T_impl_Value.mk 0 0 (ByteArray.mk #[])))) with fKind := a0.fKind }) with fN := a0.fN }) with fV := v1 })
theorem ok_laws_toPart {a0 : T_laws_Part} {y : T_impl_Part} (h : laws_toPart a0 = some y) : OK Try.prog 86 [E a0] (E y) := by
  refine OK_of_pwp τ_ok Try.func86 rfl (by kernel_rfl) rfl fun Γ hX => ?_
  unfold laws_toPart at h
  refine pwp_seq ?_
  refine pwp_region ?_
  refine opsP_evk' (st' := ⟨15, [(1, .fptr (Enc.cells a0) 0), (2, .ptr 0 0 0)], [some ⟨0, Enc.cells ((T_impl_Part.mk 0 0 (T_impl_Value.mk 0 0 (ByteArray.mk #[]))))⟩]⟩) τ_ok [2, 3] 2 [1, 2] (by kernel_rfl) ?_
  refine opsP_end rfl ?_
  refine pwp_seq ?_
  refine pwp_region ?_
  refine opsP_evk' (st' := ⟨15, [(1, .fptr (Enc.cells a0) 0), (2, .ptr 0 0 0), (3, .ptr 1 0 0)], [some ⟨0, Enc.cells ((T_impl_Part.mk 0 0 (T_impl_Value.mk 0 0 (ByteArray.mk #[]))))⟩, some ⟨0, Enc.cells ((T_impl_Part.mk 0 0 (T_impl_Value.mk 0 0 (ByteArray.mk #[]))))⟩]⟩) τ_ok [2, 3] 1 [1, 2, 3] (by kernel_rfl) ?_
  refine opsP_end rfl ?_
  refine pwp_seq ?_
  refine pwp_region ?_
  refine opsP_evk' (st' := ⟨15, [(1, .fptr (Enc.cells a0) 0), (2, .ptr 0 0 0), (3, .ptr 1 0 0)], [some ⟨0, Enc.cells ((T_impl_Part.mk 0 0 (T_impl_Value.mk 0 0 (ByteArray.mk #[]))))⟩, some ⟨0, Enc.cells ({ ((T_impl_Part.mk 0 0 (T_impl_Value.mk 0 0 (ByteArray.mk #[])))) with fKind := a0.fKind })⟩]⟩) τ_ok [2, 3] 4 [1, 2, 3] (by kernel_rfl) ?_
  refine opsP_end rfl ?_
  refine pwp_seq ?_
  refine pwp_region ?_
  refine opsP_evk' (st' := ⟨15, [(1, .fptr (Enc.cells a0) 0), (2, .ptr 0 0 0), (3, .ptr 1 0 0)], [some ⟨0, Enc.cells ((T_impl_Part.mk 0 0 (T_impl_Value.mk 0 0 (ByteArray.mk #[]))))⟩, some ⟨0, Enc.cells ({ ({ ((T_impl_Part.mk 0 0 (T_impl_Value.mk 0 0 (ByteArray.mk #[])))) with fKind := a0.fKind }) with fN := a0.fN })⟩]⟩) τ_ok [2, 3] 4 [1, 2, 3] (by kernel_rfl) ?_
  refine opsP_end rfl ?_
  refine pwp_seq ?_
  refine pwp_region ?_
  refine opsP_evk' (st' := ⟨15, [(2, .ptr 0 0 0), (3, .ptr 1 0 0), (11, E a0.fV)], [some ⟨0, Enc.cells ((T_impl_Part.mk 0 0 (T_impl_Value.mk 0 0 (ByteArray.mk #[]))))⟩, some ⟨0, Enc.cells ({ ({ ((T_impl_Part.mk 0 0 (T_impl_Value.mk 0 0 (ByteArray.mk #[])))) with fKind := a0.fKind }) with fN := a0.fN })⟩]⟩) τ_ok [2, 3] 2 [2, 3, 11] (by kernel_rfl) ?_
  obtain ⟨v1, hv2, h⟩ := bindS h
  refine opsP_callF τ 12 (ok_laws_toValue hv2) (FzTo.frz rfl) rfl (by kernel_rfl) ?_
  refine opsP_evk' (st' := ⟨15, [(2, .ptr 0 0 0), (3, .ptr 1 0 0)], [some ⟨0, Enc.cells ((T_impl_Part.mk 0 0 (T_impl_Value.mk 0 0 (ByteArray.mk #[]))))⟩, some ⟨0, Enc.cells ({ ({ ({ ((T_impl_Part.mk 0 0 (T_impl_Value.mk 0 0 (ByteArray.mk #[])))) with fKind := a0.fKind }) with fN := a0.fN }) with fV := v1 })⟩]⟩) τ_ok [2, 3] 2 [2, 3] (by kernel_rfl) ?_
  refine opsP_end rfl ?_
  refine pwp_seq ?_
  refine pwp_region ?_
  refine opsP_evk' (st' := ⟨15, [(2, .ptr 0 0 0)], [some ⟨0, Enc.cells ({ ({ ({ ((T_impl_Part.mk 0 0 (T_impl_Value.mk 0 0 (ByteArray.mk #[])))) with fKind := a0.fKind }) with fN := a0.fN }) with fV := v1 })⟩, some ⟨0, Enc.cells ({ ({ ({ ((T_impl_Part.mk 0 0 (T_impl_Value.mk 0 0 (ByteArray.mk #[])))) with fKind := a0.fKind }) with fN := a0.fN }) with fV := v1 })⟩]⟩) τ_ok [2, 3] 2 [2] (by kernel_rfl) ?_
  refine opsP_end rfl ?_
  have h := Option.some.inj h
  subst h
  exact pwp_ret ⟨.inr rfl, E ({ ({ ({ ((T_impl_Part.mk 0 0 (T_impl_Value.mk 0 0 (ByteArray.mk #[])))) with fKind := a0.fKind }) with fN := a0.fN }) with fV := v1 }), _, by kernel_rfl, (OutP.frz (by kernel_rfl)), by decide⟩

/- loop.example/tablehouse/laws.eqValueS -/
def laws_eqValueS_l0 (a0 : List T_impl_Value) (a1 : List T_impl_Value) : Nat → Int → Option Bool
  | 0, _ => none
  | f3 + 1, x2 => bif (decide (x2 < ((a0.length : Int)))) then (getI a0 x2).bind fun v6 => (getI a1 x2).bind fun v8 => (laws_eqValue v6 v8).bind fun v10 => bif (!v10) then some false else (laws_eqValueS_l0 a0 a1 f3) ((w64 (x2 + 1))) else some true
def laws_eqValueS (a0 : List T_impl_Value) (a1 : List T_impl_Value) : Option Bool := bif (!(((a0.length : Int)) == ((a1.length : Int)))) then some false else laws_eqValueS_l0 a0 a1 FUEL 0
theorem ok_laws_eqValueS {a0 : List T_impl_Value} {a1 : List T_impl_Value} {y : Bool} (h : laws_eqValueS a0 a1 = some y) : OK Try.prog 90 [A a0, A a1] (B y) := by
  refine OK_of_pwp τ_ok Try.func90 rfl (by kernel_rfl) rfl fun Γ hX => ?_
  unfold laws_eqValueS at h
  refine pwp_seq ?_
  refine pwp_region ?_
  refine opsP_evk' (st' := ⟨27, [(0, A a0), (1, A a1)], []⟩) τ_ok [] 1 [0, 1] (by kernel_rfl) ?_
  refine opsP_end rfl ?_
  refine pwp_seq ?_
  refine pwp_seq ?_
  refine pwp_region ?_
  refine opsP_evk' (st' := ⟨27, [(0, A a0), (1, A a1), (10, B ((!(((a0.length : Int)) == ((a1.length : Int))))))], []⟩) τ_ok [] 5 [0, 1, 10] (by kernel_rfl) ?_
  refine opsP_end rfl ?_
  refine pwp_cond ((!(((a0.length : Int)) == ((a1.length : Int))))) (by kernel_rfl) (fun hc1 => ?_) (fun hc1 => ?_)
  · replace h := bifT hc1 h
    refine pwp_seq ?_
    refine pwp_region ?_
    refine opsP_evk' (st' := ⟨27, [(4, B false)], []⟩) τ_ok [] 1 [4] (by kernel_rfl) ?_
    refine opsP_end rfl ?_
    have h := Option.some.inj h
    subst h
    exact pwp_ret ⟨.inr rfl, B false, _, by kernel_rfl, (OutP.frz (by kernel_rfl)), by decide⟩
  · replace h := bifF hc1 h
    refine pwp_skip ?_
    refine pwp_seq ?_
    refine pwp_seq ?_
    refine pwp_region ?_
    refine opsP_evk' (st' := ⟨27, [(0, A a0), (1, A a1), (5, I 0)], []⟩) τ_ok [] 1 [0, 1, 5] (by kernel_rfl) ?_
    refine opsP_end rfl ?_
    refine pwp_block ?_
    refine pwp_loop (ι := Nat × Int) (fun (f3, x2) => (⟨27, [(0, A a0), (1, A a1), (5, I x2)], []⟩ : St)) (fun (f3, x2) => laws_eqValueS_l0 a0 a1 f3 x2 = some y) (fun (f3, x2) => f3) (FUEL, 0) h ((Imp.to (st' := ⟨27, [(0, A a0), (1, A a1), (5, I 0)], []⟩) [0, 1, 5] (by kernel_rfl)).trans (Imp.to [0, 1, 5] (by kernel_rfl))) ?_
    rintro ⟨f3, x2⟩ h
    dsimp only at h ⊢
    cases f3 with
    | zero => cases h
    | succ f3 =>
    rw [laws_eqValueS_l0] at h
    refine pwp_seq ?_
    refine pwp_seq ?_
    refine pwp_region ?_
    refine opsP_evk' (st' := ⟨27, [(0, A a0), (1, A a1), (5, I x2), (14, B ((decide (x2 < ((a0.length : Int))))))], []⟩) τ_ok [] 4 [0, 1, 5, 14] (by kernel_rfl) ?_
    refine opsP_end rfl ?_
    refine pwp_cond ((decide (x2 < ((a0.length : Int))))) (by kernel_rfl) (fun hc5 => ?_) (fun hc5 => ?_)
    · replace h := bifT hc5 h
      refine pwp_skip ?_
      refine pwp_seq ?_
      refine pwp_block ?_
      refine pwp_seq ?_
      refine pwp_imp (Imp.to (st' := ⟨27, [(0, A a0), (1, A a1), (5, I x2)], []⟩) [0, 1, 5] (by kernel_rfl)) ?_
      refine pwp_any ([[], [], [], [], [], [], [], [], [], []]) ([[], [], [], [], [], [], [], [], [], []]) rfl (by kernel_rfl) ?_
      refine qA_ev (st' := ⟨27, [(18, I x2), (17, A a0), (0, A a0), (1, A a1), (5, I x2)], []⟩) τ_ok [] [] 2 (by exact trivial) (by kernel_rfl) ?_
      obtain ⟨v6, hv7, h⟩ := bindS h
      refine qA_E (dd := some 19) (x := .fptr (Enc.cells v6) 0) ([]) (⟨27, [(19, .fptr (Enc.cells v6) 0), (18, I x2), (17, A a0), (0, A a0), (1, A a1), (5, I x2)], []⟩) (fun Γ' hΓ => CoreE.of_y (idxV_sound τ_ok (by kernel_rfl) hv7)) (by kernel_rfl) (by kernel_rfl) (by exact trivial) (.inr (.inr rfl)) (by kernel_rfl) ?_
      refine qA_ev (st' := ⟨27, [(22, I x2), (21, A a1), (20, E v6), (19, .fptr (Enc.cells v6) 0), (18, I x2), (17, A a0), (0, A a0), (1, A a1), (5, I x2)], []⟩) τ_ok [] [] 3 (by exact trivial) (by kernel_rfl) ?_
      obtain ⟨v8, hv9, h⟩ := bindS h
      refine qA_E (dd := some 23) (x := .fptr (Enc.cells v8) 0) ([]) (⟨27, [(23, .fptr (Enc.cells v8) 0), (22, I x2), (21, A a1), (20, E v6), (19, .fptr (Enc.cells v6) 0), (18, I x2), (17, A a0), (0, A a0), (1, A a1), (5, I x2)], []⟩) (fun Γ' hΓ => CoreE.of_y (idxV_sound τ_ok (by kernel_rfl) hv9)) (by kernel_rfl) (by kernel_rfl) (by exact trivial) (.inr (.inr rfl)) (by kernel_rfl) ?_
      refine qA_ev (st' := ⟨27, [(24, E v8), (23, .fptr (Enc.cells v8) 0), (22, I x2), (21, A a1), (20, E v6), (19, .fptr (Enc.cells v6) 0), (18, I x2), (17, A a0), (0, A a0), (1, A a1), (5, I x2)], []⟩) τ_ok [] [] 1 (by exact trivial) (by kernel_rfl) ?_
      obtain ⟨v10, hv11, h⟩ := bindS h
      refine qA_E (dd := some 25) (x := B v10) ([]) (⟨27, [(25, B v10), (24, E v8), (23, .fptr (Enc.cells v8) 0), (22, I x2), (21, A a1), (20, E v6), (19, .fptr (Enc.cells v6) 0), (18, I x2), (17, A a0), (0, A a0), (1, A a1), (5, I x2)], []⟩) (fun Γ' hΓ => CoreE.of_g (callV_sound (τ := τ) (by kernel_rfl) rfl (ok_laws_eqValue hv11) (FzTo.frz rfl))) (by kernel_rfl) (by kernel_rfl) (by exact trivial) (.inr (.inr rfl)) (by kernel_rfl) ?_
      refine qA_ev (st' := ⟨27, [(26, B ((!v10))), (25, B v10), (24, E v8), (23, .fptr (Enc.cells v8) 0), (22, I x2), (21, A a1), (20, E v6), (19, .fptr (Enc.cells v6) 0), (18, I x2), (17, A a0), (0, A a0), (1, A a1), (5, I x2)], []⟩) τ_ok [] [] 1 (by exact trivial) (by kernel_rfl) ?_
      refine qA_end ?_
      refine opsP_imp (Imp.to (st' := ⟨27, [(0, A a0), (1, A a1), (5, I x2), (26, B ((!v10)))], []⟩) [0, 1, 5, 26] (by kernel_rfl)) ?_
      refine opsP_end rfl ?_
      refine pwp_cond ((!v10)) (by kernel_rfl) (fun hc12 => ?_) (fun hc12 => ?_)
      · replace h := bifT hc12 h
        refine pwp_seq ?_
        refine pwp_region ?_
        refine opsP_evk' (st' := ⟨27, [(4, B false)], []⟩) τ_ok [] 1 [4] (by kernel_rfl) ?_
        refine opsP_end rfl ?_
        have h := Option.some.inj h
        subst h
        exact pwp_ret ⟨.inr rfl, B false, _, by kernel_rfl, (OutP.frz (by kernel_rfl)), by decide⟩
      · replace h := bifF hc12 h
        refine pwp_skip ?_
        refine pwp_region ?_
        refine opsP_evk' (st' := ⟨27, [(0, A a0), (1, A a1), (5, I ((w64 (x2 + 1))))], []⟩) τ_ok [] 3 [0, 1, 5] (by kernel_rfl) ?_
        refine opsP_end rfl ?_
        exact ⟨(f3, (w64 (x2 + 1))), h, Nat.lt_succ_self _, (Imp.to (st' := ⟨27, [(0, A a0), (1, A a1), (5, I ((w64 (x2 + 1))))], []⟩) [0, 1, 5] (by kernel_rfl)).trans (Imp.to [0, 1, 5] (by kernel_rfl))⟩
    · replace h := bifF hc5 h
      refine pwp_exit ?_
      refine pwp_seq ?_
      refine pwp_region ?_
      refine opsP_evk' (st' := ⟨27, [(4, B true)], []⟩) τ_ok [] 1 [4] (by kernel_rfl) ?_
      refine opsP_end rfl ?_
      have h := Option.some.inj h
      subst h
      exact pwp_ret ⟨.inr rfl, B true, _, by kernel_rfl, (OutP.frz (by kernel_rfl)), by decide⟩

/- loop.example/tablehouse/laws.eqPart -/
def laws_eqPart (a0 : T_impl_Part) (a1 : T_impl_Part) : Option Bool := bif (!(a0.fKind == a1.fKind)) then some false else bif (!(a0.fN == a1.fN)) then some false else (laws_eqValue a0.fV a1.fV).bind fun v3 => bif (!v3) then some false else some true
theorem ok_laws_eqPart {a0 : T_impl_Part} {a1 : T_impl_Part} {y : Bool} (h : laws_eqPart a0 a1 = some y) : OK Try.prog 91 [E a0, E a1] (B y) := by
  refine OK_of_pwp τ_ok Try.func91 rfl (by kernel_rfl) rfl fun Γ hX => ?_
  unfold laws_eqPart at h
  refine pwp_seq ?_
  refine pwp_region ?_
  refine opsP_evk' (st' := ⟨21, [(2, .fptr (Enc.cells a0) 0), (3, .fptr (Enc.cells a1) 0)], []⟩) τ_ok [] 3 [2, 3] (by kernel_rfl) ?_
  refine opsP_end rfl ?_
  refine pwp_seq ?_
  refine pwp_seq ?_
  refine pwp_region ?_
  refine opsP_evk' (st' := ⟨21, [(2, .fptr (Enc.cells a0) 0), (3, .fptr (Enc.cells a1) 0), (9, B ((!(a0.fKind == a1.fKind))))], []⟩) τ_ok [] 5 [2, 3, 9] (by kernel_rfl) ?_
  refine opsP_end rfl ?_
  refine pwp_cond ((!(a0.fKind == a1.fKind))) (by kernel_rfl) (fun hc1 => ?_) (fun hc1 => ?_)
  · replace h := bifT hc1 h
    refine pwp_seq ?_
    refine pwp_region ?_
    refine opsP_evk' (st' := ⟨21, [(4, B false)], []⟩) τ_ok [] 1 [4] (by kernel_rfl) ?_
    refine opsP_end rfl ?_
    have h := Option.some.inj h
    subst h
    exact pwp_ret ⟨.inr rfl, B false, _, by kernel_rfl, (OutP.frz (by kernel_rfl)), by decide⟩
  · replace h := bifF hc1 h
    refine pwp_skip ?_
    refine pwp_seq ?_
    refine pwp_seq ?_
    refine pwp_region ?_
    refine opsP_evk' (st' := ⟨21, [(2, .fptr (Enc.cells a0) 0), (3, .fptr (Enc.cells a1) 0), (14, B ((!(a0.fN == a1.fN))))], []⟩) τ_ok [] 5 [2, 3, 14] (by kernel_rfl) ?_
    refine opsP_end rfl ?_
    refine pwp_cond ((!(a0.fN == a1.fN))) (by kernel_rfl) (fun hc2 => ?_) (fun hc2 => ?_)
    · replace h := bifT hc2 h
      refine pwp_seq ?_
      refine pwp_region ?_
      refine opsP_evk' (st' := ⟨21, [(4, B false)], []⟩) τ_ok [] 1 [4] (by kernel_rfl) ?_
      refine opsP_end rfl ?_
      have h := Option.some.inj h
      subst h
      exact pwp_ret ⟨.inr rfl, B false, _, by kernel_rfl, (OutP.frz (by kernel_rfl)), by decide⟩
    · replace h := bifF hc2 h
      refine pwp_skip ?_
      refine pwp_seq ?_
      refine pwp_seq ?_
      refine pwp_region ?_
      refine opsP_evk' (st' := ⟨21, [(16, E a0.fV), (18, E a1.fV)], []⟩) τ_ok [] 4 [16, 18] (by kernel_rfl) ?_
      obtain ⟨v3, hv4, h⟩ := bindS h
      refine opsP_callF τ 19 (ok_laws_eqValue hv4) (FzTo.frz rfl) rfl (by kernel_rfl) ?_
      refine opsP_evk' (st' := ⟨21, [(20, B ((!v3)))], []⟩) τ_ok [] 1 [20] (by kernel_rfl) ?_
      refine opsP_end rfl ?_
      refine pwp_cond ((!v3)) (by kernel_rfl) (fun hc5 => ?_) (fun hc5 => ?_)
      · replace h := bifT hc5 h
        refine pwp_seq ?_
        refine pwp_region ?_
        refine opsP_evk' (st' := ⟨21, [(4, B false)], []⟩) τ_ok [] 1 [4] (by kernel_rfl) ?_
        refine opsP_end rfl ?_
        have h := Option.some.inj h
        subst h
        exact pwp_ret ⟨.inr rfl, B false, _, by kernel_rfl, (OutP.frz (by kernel_rfl)), by decide⟩
      · replace h := bifF hc5 h
        refine pwp_skip ?_
        refine pwp_seq ?_
        refine pwp_region ?_
        refine opsP_evk' (st' := ⟨21, [(4, B true)], []⟩) τ_ok [] 1 [4] (by kernel_rfl) ?_
        refine opsP_end rfl ?_
        have h := Option.some.inj h
        subst h
        exact pwp_ret ⟨.inr rfl, B true, _, by kernel_rfl, (OutP.frz (by kernel_rfl)), by decide⟩

/- slices.ContainsFunc[[]loop.example/tablehouse/impl.Column,loop.example/tablehouse/impl.Column] -/
def slices_ContainsFunc_impl_Column_impl_Column (a0 : List T_impl_Column) (a1 : T_impl_Column → Option Bool) : Option Bool := (slices_IndexFunc_impl_Column_impl_Column a0 a1).bind fun v1 => some ((decide (v1 ≥ 0)))
theorem ok_slices_ContainsFunc_impl_Column_impl_Column {a0 : List T_impl_Column} {g1 : FuncId} {c1 : List V} (hz1 : frzL c1 = true) {a1 : T_impl_Column → Option Bool} (hp1 : ∀ x0 y, a1 x0 = some y → OK Try.prog g1 ([E x0] ++ c1) (B y)) {y : Bool} (h : slices_ContainsFunc_impl_Column_impl_Column a0 a1 = some y) : OK Try.prog 93 [A a0, .fn g1 c1] (B y) := by
  refine OK_of_pwp τ_ok Try.func93 rfl (by kernel_rfl) rfl fun Γ hX => ?_
  unfold slices_ContainsFunc_impl_Column_impl_Column at h
  refine pwp_seq ?_
  refine pwp_region ?_
  refine opsP_evk' (st' := ⟨9, [(0, A a0), (1, .fn g1 c1)], []⟩) τ_ok [] 1 [0, 1] (by kernel_rfl) ?_
  refine opsP_end rfl ?_
  refine pwp_seq ?_
  refine pwp_region ?_
  refine opsP_evk' (st' := ⟨9, [(5, A a0), (6, .fn g1 c1)], []⟩) τ_ok [] 2 [5, 6] (by kernel_rfl) ?_
  obtain ⟨v1, hv2, h⟩ := bindS h
  refine opsP_callF τ 7 (ok_slices_IndexFunc_impl_Column_impl_Column (hz1) (hp1) hv2) (FzTo.frz rfl) (by simp only [frzL, frz, hz1, Bool.and_true]) (by kernel_rfl) ?_
  refine opsP_evk' (st' := ⟨9, [(4, B ((decide (v1 ≥ 0))))], []⟩) τ_ok [] 2 [4] (by kernel_rfl) ?_
  refine opsP_end rfl ?_
  have h := Option.some.inj h
  subst h
  exact pwp_ret ⟨.inr rfl, B ((decide (v1 ≥ 0))), _, by kernel_rfl, (OutP.frz (by kernel_rfl)), by decide⟩

/- slices.ContainsFunc[[][]loop.example/tablehouse/impl.Value,[]loop.example/tablehouse/impl.Value] -/
def slices_ContainsFunc_impl_Value_impl_Value (a0 : List (List T_impl_Value)) (a1 : (List T_impl_Value) → Option Bool) : Option Bool := (slices_IndexFunc_impl_Value_impl_Value a0 a1).bind fun v1 => some ((decide (v1 ≥ 0)))
theorem ok_slices_ContainsFunc_impl_Value_impl_Value {a0 : List (List T_impl_Value)} {g1 : FuncId} {c1 : List V} (hz1 : frzL c1 = true) {a1 : (List T_impl_Value) → Option Bool} (hp1 : ∀ x0 y, a1 x0 = some y → OK Try.prog g1 ([A x0] ++ c1) (B y)) {y : Bool} (h : slices_ContainsFunc_impl_Value_impl_Value a0 a1 = some y) : OK Try.prog 95 [A a0, .fn g1 c1] (B y) := by
  refine OK_of_pwp τ_ok Try.func95 rfl (by kernel_rfl) rfl fun Γ hX => ?_
  unfold slices_ContainsFunc_impl_Value_impl_Value at h
  refine pwp_seq ?_
  refine pwp_region ?_
  refine opsP_evk' (st' := ⟨9, [(0, A a0), (1, .fn g1 c1)], []⟩) τ_ok [] 1 [0, 1] (by kernel_rfl) ?_
  refine opsP_end rfl ?_
  refine pwp_seq ?_
  refine pwp_region ?_
  refine opsP_evk' (st' := ⟨9, [(5, A a0), (6, .fn g1 c1)], []⟩) τ_ok [] 2 [5, 6] (by kernel_rfl) ?_
  obtain ⟨v1, hv2, h⟩ := bindS h
  refine opsP_callF τ 7 (ok_slices_IndexFunc_impl_Value_impl_Value (hz1) (hp1) hv2) (FzTo.frz rfl) (by simp only [frzL, frz, hz1, Bool.and_true]) (by kernel_rfl) ?_
  refine opsP_evk' (st' := ⟨9, [(4, B ((decide (v1 ≥ 0))))], []⟩) τ_ok [] 2 [4] (by kernel_rfl) ?_
  refine opsP_end rfl ?_
  have h := Option.some.inj h
  subst h
  exact pwp_ret ⟨.inr rfl, B ((decide (v1 ≥ 0))), _, by kernel_rfl, (OutP.frz (by kernel_rfl)), by decide⟩

/- loop.example/tablehouse/spec.ValueOk -/
def spec_ValueOk (a0 : T_impl_Value) : Option Bool := bif (a0.fKind == 0) then bif (a0.fN == 0) then some ((a0.fS.toList == ((ByteArray.mk #[])).toList)) else some false else bif (a0.fKind == 1) then (spec_l1In a0.fN (-9999) 9999).bind fun v4 => bif v4 then some ((a0.fS.toList == ((ByteArray.mk #[])).toList)) else some false else bif (a0.fKind == 2) then bif (a0.fN == 0) then (spec_l1Text a0.fS).bind fun v8 => some v8 else some false else bif (a0.fKind == 3) then (spec_l1In a0.fN 0 1).bind fun v12 => bif v12 then some ((a0.fS.toList == ((ByteArray.mk #[])).toList)) else some false else some false
theorem ok_spec_ValueOk {a0 : T_impl_Value} {y : Bool} (h : spec_ValueOk a0 = some y) : OK Try.prog 115 [E a0] (B y) := by
  refine OK_of_pwp τ_ok Try.func115 rfl (by kernel_rfl) rfl fun Γ hX => ?_
  unfold spec_ValueOk at h
  refine pwp_seq ?_
  refine pwp_region ?_
  refine opsP_evk' (st' := ⟨45, [(1, .fptr (Enc.cells a0) 0)], []⟩) τ_ok [] 2 [1] (by kernel_rfl) ?_
  refine opsP_end rfl ?_
  refine pwp_seq ?_
  refine pwp_seq ?_
  refine pwp_region ?_
  refine opsP_evk' (st' := ⟨45, [(1, .fptr (Enc.cells a0) 0), (4, I a0.fKind)], []⟩) τ_ok [] 2 [1, 4] (by kernel_rfl) ?_
  refine opsP_end rfl ?_
  refine pwp_block ?_
  refine pwp_seq ?_
  refine pwp_region ?_
  refine opsP_evk' (st' := ⟨45, [(1, .fptr (Enc.cells a0) 0), (4, I a0.fKind), (5, B ((a0.fKind == 0)))], []⟩) τ_ok [] 2 [1, 4, 5] (by kernel_rfl) ?_
  refine opsP_end rfl ?_
  refine pwp_cond ((a0.fKind == 0)) (by kernel_rfl) (fun hc1 => ?_) (fun hc1 => ?_)
  · replace h := bifT hc1 h
    refine pwp_seq ?_
    refine pwp_region ?_
    refine opsP_evk' (st' := ⟨45, [(1, .fptr (Enc.cells a0) 0), (10, B ((a0.fN == 0)))], []⟩) τ_ok [] 4 [1, 10] (by kernel_rfl) ?_
    rcases Bool.eq_false_or_eq_true ((a0.fN == 0)) with hc2 | hc2
    · replace h := bifT hc2 h
      rw [hc2]
      refine opsP_evk' (st' := ⟨45, [(2, B ((a0.fS.toList == ((ByteArray.mk #[])).toList)))], []⟩) τ_ok [] 5 [2] (by kernel_rfl) ?_
      refine opsP_end rfl ?_
      have h := Option.some.inj h
      subst h
      exact pwp_ret ⟨.inr rfl, B ((a0.fS.toList == ((ByteArray.mk #[])).toList)), _, by kernel_rfl, (OutP.frz (by kernel_rfl)), by decide⟩
    · replace h := bifF hc2 h
      rw [hc2]
      refine opsP_evk' (st' := ⟨45, [(2, B false)], []⟩) τ_ok [] 5 [2] (by kernel_rfl) ?_
      refine opsP_end rfl ?_
      have h := Option.some.inj h
      subst h
      exact pwp_ret ⟨.inr rfl, B false, _, by kernel_rfl, (OutP.frz (by kernel_rfl)), by decide⟩
  · replace h := bifF hc1 h
    refine pwp_seq ?_
    refine pwp_region ?_
    refine opsP_evk' (st' := ⟨45, [(1, .fptr (Enc.cells a0) 0), (4, I a0.fKind), (15, B ((a0.fKind == 1)))], []⟩) τ_ok [] 2 [1, 4, 15] (by kernel_rfl) ?_
    refine opsP_end rfl ?_
    refine pwp_cond ((a0.fKind == 1)) (by kernel_rfl) (fun hc3 => ?_) (fun hc3 => ?_)
    · replace h := bifT hc3 h
      refine pwp_seq ?_
      refine pwp_region ?_
      refine opsP_evk' (st' := ⟨45, [(1, .fptr (Enc.cells a0) 0), (18, I a0.fN)], []⟩) τ_ok [] 2 [1, 18] (by kernel_rfl) ?_
      obtain ⟨v4, hv5, h⟩ := bindS h
      refine opsP_callF τ 19 (ok_spec_l1In hv5) (FzTo.frz rfl) rfl (by kernel_rfl) ?_
      refine opsP_evk' (st' := ⟨45, [(1, .fptr (Enc.cells a0) 0), (20, B v4)], []⟩) τ_ok [] 1 [1, 20] (by kernel_rfl) ?_
      rcases Bool.eq_false_or_eq_true v4 with hc6 | hc6
      · replace h := bifT hc6 h
        rw [hc6]
        refine opsP_evk' (st' := ⟨45, [(2, B ((a0.fS.toList == ((ByteArray.mk #[])).toList)))], []⟩) τ_ok [] 5 [2] (by kernel_rfl) ?_
        refine opsP_end rfl ?_
        have h := Option.some.inj h
        subst h
        exact pwp_ret ⟨.inr rfl, B ((a0.fS.toList == ((ByteArray.mk #[])).toList)), _, by kernel_rfl, (OutP.frz (by kernel_rfl)), by decide⟩
      · replace h := bifF hc6 h
        rw [hc6]
        refine opsP_evk' (st' := ⟨45, [(2, B false)], []⟩) τ_ok [] 5 [2] (by kernel_rfl) ?_
        refine opsP_end rfl ?_
        have h := Option.some.inj h
        subst h
        exact pwp_ret ⟨.inr rfl, B false, _, by kernel_rfl, (OutP.frz (by kernel_rfl)), by decide⟩
    · replace h := bifF hc3 h
      refine pwp_seq ?_
      refine pwp_region ?_
      refine opsP_evk' (st' := ⟨45, [(1, .fptr (Enc.cells a0) 0), (4, I a0.fKind), (25, B ((a0.fKind == 2)))], []⟩) τ_ok [] 2 [1, 4, 25] (by kernel_rfl) ?_
      refine opsP_end rfl ?_
      refine pwp_cond ((a0.fKind == 2)) (by kernel_rfl) (fun hc7 => ?_) (fun hc7 => ?_)
      · replace h := bifT hc7 h
        refine pwp_seq ?_
        refine pwp_region ?_
        refine opsP_evk' (st' := ⟨45, [(1, .fptr (Enc.cells a0) 0), (30, B ((a0.fN == 0)))], []⟩) τ_ok [] 4 [1, 30] (by kernel_rfl) ?_
        rcases Bool.eq_false_or_eq_true ((a0.fN == 0)) with hc10 | hc10
        · replace h := bifT hc10 h
          rw [hc10]
          refine opsP_evk' (st' := ⟨45, [(30, B true), (32, S a0.fS)], []⟩) τ_ok [] 2 [30, 32] (by kernel_rfl) ?_
          obtain ⟨v8, hv9, h⟩ := bindS h
          refine opsP_callF τ 33 (ok_spec_l1Text hv9) (FzTo.frz rfl) rfl (by kernel_rfl) ?_
          refine opsP_evk' (st' := ⟨45, [(2, B v8)], []⟩) τ_ok [] 2 [2] (by kernel_rfl) ?_
          refine opsP_end rfl ?_
          have h := Option.some.inj h
          subst h
          exact pwp_ret ⟨.inr rfl, B v8, _, by kernel_rfl, (OutP.frz (by kernel_rfl)), by decide⟩
        · replace h := bifF hc10 h
          rw [hc10]
          refine opsP_evk' (st' := ⟨45, [(2, B false)], []⟩) τ_ok [] 5 [2] (by kernel_rfl) ?_
          refine opsP_end rfl ?_
          have h := Option.some.inj h
          subst h
          exact pwp_ret ⟨.inr rfl, B false, _, by kernel_rfl, (OutP.frz (by kernel_rfl)), by decide⟩
      · replace h := bifF hc7 h
        refine pwp_seq ?_
        refine pwp_region ?_
        refine opsP_evk' (st' := ⟨45, [(1, .fptr (Enc.cells a0) 0), (35, B ((a0.fKind == 3)))], []⟩) τ_ok [] 2 [1, 35] (by kernel_rfl) ?_
        refine opsP_end rfl ?_
        refine pwp_cond ((a0.fKind == 3)) (by kernel_rfl) (fun hc11 => ?_) (fun hc11 => ?_)
        · replace h := bifT hc11 h
          refine pwp_seq ?_
          refine pwp_region ?_
          refine opsP_evk' (st' := ⟨45, [(1, .fptr (Enc.cells a0) 0), (38, I a0.fN)], []⟩) τ_ok [] 2 [1, 38] (by kernel_rfl) ?_
          obtain ⟨v12, hv13, h⟩ := bindS h
          refine opsP_callF τ 39 (ok_spec_l1In hv13) (FzTo.frz rfl) rfl (by kernel_rfl) ?_
          refine opsP_evk' (st' := ⟨45, [(1, .fptr (Enc.cells a0) 0), (40, B v12)], []⟩) τ_ok [] 1 [1, 40] (by kernel_rfl) ?_
          rcases Bool.eq_false_or_eq_true v12 with hc14 | hc14
          · replace h := bifT hc14 h
            rw [hc14]
            refine opsP_evk' (st' := ⟨45, [(2, B ((a0.fS.toList == ((ByteArray.mk #[])).toList)))], []⟩) τ_ok [] 5 [2] (by kernel_rfl) ?_
            refine opsP_end rfl ?_
            have h := Option.some.inj h
            subst h
            exact pwp_ret ⟨.inr rfl, B ((a0.fS.toList == ((ByteArray.mk #[])).toList)), _, by kernel_rfl, (OutP.frz (by kernel_rfl)), by decide⟩
          · replace h := bifF hc14 h
            rw [hc14]
            refine opsP_evk' (st' := ⟨45, [(2, B false)], []⟩) τ_ok [] 5 [2] (by kernel_rfl) ?_
            refine opsP_end rfl ?_
            have h := Option.some.inj h
            subst h
            exact pwp_ret ⟨.inr rfl, B false, _, by kernel_rfl, (OutP.frz (by kernel_rfl)), by decide⟩
        · replace h := bifF hc11 h
          refine pwp_skip ?_
          refine pwp_seq ?_
          refine pwp_region ?_
          refine opsP_evk' (st' := ⟨45, [(2, B false)], []⟩) τ_ok [] 1 [2] (by kernel_rfl) ?_
          refine opsP_end rfl ?_
          have h := Option.some.inj h
          subst h
          exact pwp_ret ⟨.inr rfl, B false, _, by kernel_rfl, (OutP.frz (by kernel_rfl)), by decide⟩

/- (loop.example/tablehouse/impl.Value).ok -/
def impl_Value_ok (a0 : T_impl_Value) : Option Bool := bif (a0.fKind == 0) then some ((eq_T_impl_Value a0 ((T_impl_Value.mk 0 0 (ByteArray.mk #[]))))) else bif (a0.fKind == 1) then bif (a0.fS.toList == ((ByteArray.mk #[])).toList) then (impl_between a0.fN (-9999) 9999).bind fun v3 => some v3 else some false else bif (a0.fKind == 2) then bif (a0.fN == 0) then bif (decide (((a0.fS.size : Int)) ≤ 6)) then (impl_letters a0.fS).bind fun v7 => some v7 else some false else some false else bif (a0.fKind == 3) then bif (a0.fS.toList == ((ByteArray.mk #[])).toList) then (impl_between a0.fN 0 1).bind fun v12 => some v12 else some false else some false
theorem ok_impl_Value_ok {a0 : T_impl_Value} {y : Bool} (h : impl_Value_ok a0 = some y) : OK Try.prog 116 [E a0] (B y) := by
  refine OK_of_pwp τ_ok Try.func116 rfl (by kernel_rfl) rfl fun Γ hX => ?_
  unfold impl_Value_ok at h
  refine pwp_seq ?_
  refine pwp_region ?_
  refine opsP_evk' (st' := ⟨46, [(1, .fptr (Enc.cells a0) 0)], []⟩) τ_ok [] 2 [1] (by kernel_rfl) ?_
  refine opsP_end rfl ?_
  refine pwp_seq ?_
  refine pwp_seq ?_
  refine pwp_region ?_
  refine opsP_evk' (st' := ⟨46, [(1, .fptr (Enc.cells a0) 0), (4, I a0.fKind)], []⟩) τ_ok [] 2 [1, 4] (by kernel_rfl) ?_
  refine opsP_end rfl ?_
  refine pwp_block ?_
  refine pwp_seq ?_
  refine pwp_region ?_
  refine opsP_evk' (st' := ⟨46, [(1, .fptr (Enc.cells a0) 0), (4, I a0.fKind), (5, B ((a0.fKind == 0)))], []⟩) τ_ok [] 2 [1, 4, 5] (by kernel_rfl) ?_
  refine opsP_end rfl ?_
  refine pwp_cond ((a0.fKind == 0)) (by kernel_rfl) (fun hc1 => ?_) (fun hc1 => ?_)
  · replace h := bifT hc1 h
    refine pwp_seq ?_
    refine pwp_region ?_
    refine opsP_evk' (st' := ⟨46, [(2, B ((eq_T_impl_Value a0 ((T_impl_Value.mk 0 0 (ByteArray.mk #[]))))))], []⟩) τ_ok [] 4 [2] (by kernel_rfl) ?_
    refine opsP_end rfl ?_
    have h := Option.some.inj h
    subst h
    exact pwp_ret ⟨.inr rfl, B ((eq_T_impl_Value a0 ((T_impl_Value.mk 0 0 (ByteArray.mk #[]))))), _, by kernel_rfl, (OutP.frz (by kernel_rfl)), by decide⟩
  · replace h := bifF hc1 h
    refine pwp_seq ?_
    refine pwp_region ?_
    refine opsP_evk' (st' := ⟨46, [(1, .fptr (Enc.cells a0) 0), (4, I a0.fKind), (10, B ((a0.fKind == 1)))], []⟩) τ_ok [] 2 [1, 4, 10] (by kernel_rfl) ?_
    refine opsP_end rfl ?_
    refine pwp_cond ((a0.fKind == 1)) (by kernel_rfl) (fun hc2 => ?_) (fun hc2 => ?_)
    · replace h := bifT hc2 h
      refine pwp_seq ?_
      refine pwp_region ?_
      refine opsP_evk' (st' := ⟨46, [(1, .fptr (Enc.cells a0) 0), (15, B ((a0.fS.toList == ((ByteArray.mk #[])).toList)))], []⟩) τ_ok [] 4 [1, 15] (by kernel_rfl) ?_
      rcases Bool.eq_false_or_eq_true ((a0.fS.toList == ((ByteArray.mk #[])).toList)) with hc5 | hc5
      · replace h := bifT hc5 h
        rw [hc5]
        refine opsP_evk' (st' := ⟨46, [(15, B true), (17, I a0.fN)], []⟩) τ_ok [] 2 [15, 17] (by kernel_rfl) ?_
        obtain ⟨v3, hv4, h⟩ := bindS h
        refine opsP_callF τ 18 (ok_impl_between hv4) (FzTo.frz rfl) rfl (by kernel_rfl) ?_
        refine opsP_evk' (st' := ⟨46, [(2, B v3)], []⟩) τ_ok [] 2 [2] (by kernel_rfl) ?_
        refine opsP_end rfl ?_
        have h := Option.some.inj h
        subst h
        exact pwp_ret ⟨.inr rfl, B v3, _, by kernel_rfl, (OutP.frz (by kernel_rfl)), by decide⟩
      · replace h := bifF hc5 h
        rw [hc5]
        refine opsP_evk' (st' := ⟨46, [(2, B false)], []⟩) τ_ok [] 5 [2] (by kernel_rfl) ?_
        refine opsP_end rfl ?_
        have h := Option.some.inj h
        subst h
        exact pwp_ret ⟨.inr rfl, B false, _, by kernel_rfl, (OutP.frz (by kernel_rfl)), by decide⟩
    · replace h := bifF hc2 h
      refine pwp_seq ?_
      refine pwp_region ?_
      refine opsP_evk' (st' := ⟨46, [(1, .fptr (Enc.cells a0) 0), (4, I a0.fKind), (20, B ((a0.fKind == 2)))], []⟩) τ_ok [] 2 [1, 4, 20] (by kernel_rfl) ?_
      refine opsP_end rfl ?_
      refine pwp_cond ((a0.fKind == 2)) (by kernel_rfl) (fun hc6 => ?_) (fun hc6 => ?_)
      · replace h := bifT hc6 h
        refine pwp_seq ?_
        refine pwp_region ?_
        refine opsP_evk' (st' := ⟨46, [(1, .fptr (Enc.cells a0) 0), (25, B ((a0.fN == 0)))], []⟩) τ_ok [] 4 [1, 25] (by kernel_rfl) ?_
        rcases Bool.eq_false_or_eq_true ((a0.fN == 0)) with hc10 | hc10
        · replace h := bifT hc10 h
          rw [hc10]
          refine opsP_evk' (st' := ⟨46, [(1, .fptr (Enc.cells a0) 0), (31, B ((decide (((a0.fS.size : Int)) ≤ 6))))], []⟩) τ_ok [] 6 [1, 31] (by kernel_rfl) ?_
          rcases Bool.eq_false_or_eq_true ((decide (((a0.fS.size : Int)) ≤ 6))) with hc9 | hc9
          · replace h := bifT hc9 h
            rw [hc9]
            refine opsP_evk' (st' := ⟨46, [(31, B true), (33, S a0.fS)], []⟩) τ_ok [] 2 [31, 33] (by kernel_rfl) ?_
            obtain ⟨v7, hv8, h⟩ := bindS h
            refine opsP_callF τ 34 (ok_impl_letters hv8) (FzTo.frz rfl) rfl (by kernel_rfl) ?_
            refine opsP_evk' (st' := ⟨46, [(2, B v7)], []⟩) τ_ok [] 2 [2] (by kernel_rfl) ?_
            refine opsP_end rfl ?_
            have h := Option.some.inj h
            subst h
            exact pwp_ret ⟨.inr rfl, B v7, _, by kernel_rfl, (OutP.frz (by kernel_rfl)), by decide⟩
          · replace h := bifF hc9 h
            rw [hc9]
            refine opsP_evk' (st' := ⟨46, [(2, B false)], []⟩) τ_ok [] 5 [2] (by kernel_rfl) ?_
            refine opsP_end rfl ?_
            have h := Option.some.inj h
            subst h
            exact pwp_ret ⟨.inr rfl, B false, _, by kernel_rfl, (OutP.frz (by kernel_rfl)), by decide⟩
        · replace h := bifF hc10 h
          rw [hc10]
          refine opsP_evk' (st' := ⟨46, [(2, B false)], []⟩) τ_ok [] 11 [2] (by kernel_rfl) ?_
          refine opsP_end rfl ?_
          have h := Option.some.inj h
          subst h
          exact pwp_ret ⟨.inr rfl, B false, _, by kernel_rfl, (OutP.frz (by kernel_rfl)), by decide⟩
      · replace h := bifF hc6 h
        refine pwp_seq ?_
        refine pwp_region ?_
        refine opsP_evk' (st' := ⟨46, [(1, .fptr (Enc.cells a0) 0), (36, B ((a0.fKind == 3)))], []⟩) τ_ok [] 2 [1, 36] (by kernel_rfl) ?_
        refine opsP_end rfl ?_
        refine pwp_cond ((a0.fKind == 3)) (by kernel_rfl) (fun hc11 => ?_) (fun hc11 => ?_)
        · replace h := bifT hc11 h
          refine pwp_seq ?_
          refine pwp_region ?_
          refine opsP_evk' (st' := ⟨46, [(1, .fptr (Enc.cells a0) 0), (41, B ((a0.fS.toList == ((ByteArray.mk #[])).toList)))], []⟩) τ_ok [] 4 [1, 41] (by kernel_rfl) ?_
          rcases Bool.eq_false_or_eq_true ((a0.fS.toList == ((ByteArray.mk #[])).toList)) with hc14 | hc14
          · replace h := bifT hc14 h
            rw [hc14]
            refine opsP_evk' (st' := ⟨46, [(41, B true), (43, I a0.fN)], []⟩) τ_ok [] 2 [41, 43] (by kernel_rfl) ?_
            obtain ⟨v12, hv13, h⟩ := bindS h
            refine opsP_callF τ 44 (ok_impl_between hv13) (FzTo.frz rfl) rfl (by kernel_rfl) ?_
            refine opsP_evk' (st' := ⟨46, [(2, B v12)], []⟩) τ_ok [] 2 [2] (by kernel_rfl) ?_
            refine opsP_end rfl ?_
            have h := Option.some.inj h
            subst h
            exact pwp_ret ⟨.inr rfl, B v12, _, by kernel_rfl, (OutP.frz (by kernel_rfl)), by decide⟩
          · replace h := bifF hc14 h
            rw [hc14]
            refine opsP_evk' (st' := ⟨46, [(2, B false)], []⟩) τ_ok [] 5 [2] (by kernel_rfl) ?_
            refine opsP_end rfl ?_
            have h := Option.some.inj h
            subst h
            exact pwp_ret ⟨.inr rfl, B false, _, by kernel_rfl, (OutP.frz (by kernel_rfl)), by decide⟩
        · replace h := bifF hc11 h
          refine pwp_skip ?_
          refine pwp_seq ?_
          refine pwp_region ?_
          refine opsP_evk' (st' := ⟨46, [(2, B false)], []⟩) τ_ok [] 1 [2] (by kernel_rfl) ?_
          refine opsP_end rfl ?_
          have h := Option.some.inj h
          subst h
          exact pwp_ret ⟨.inr rfl, B false, _, by kernel_rfl, (OutP.frz (by kernel_rfl)), by decide⟩

/- slices.ContainsFunc[[]int,int] -/
def slices_ContainsFunc_int_int (a0 : List Int) (a1 : Int → Option Bool) : Option Bool := (slices_IndexFunc_int_int a0 a1).bind fun v1 => some ((decide (v1 ≥ 0)))
theorem ok_slices_ContainsFunc_int_int {a0 : List Int} {g1 : FuncId} {c1 : List V} (hz1 : frzL c1 = true) {a1 : Int → Option Bool} (hp1 : ∀ x0 y, a1 x0 = some y → OK Try.prog g1 ([I x0] ++ c1) (B y)) {y : Bool} (h : slices_ContainsFunc_int_int a0 a1 = some y) : OK Try.prog 118 [A a0, .fn g1 c1] (B y) := by
  refine OK_of_pwp τ_ok Try.func118 rfl (by kernel_rfl) rfl fun Γ hX => ?_
  unfold slices_ContainsFunc_int_int at h
  refine pwp_seq ?_
  refine pwp_region ?_
  refine opsP_evk' (st' := ⟨9, [(0, A a0), (1, .fn g1 c1)], []⟩) τ_ok [] 1 [0, 1] (by kernel_rfl) ?_
  refine opsP_end rfl ?_
  refine pwp_seq ?_
  refine pwp_region ?_
  refine opsP_evk' (st' := ⟨9, [(5, A a0), (6, .fn g1 c1)], []⟩) τ_ok [] 2 [5, 6] (by kernel_rfl) ?_
  obtain ⟨v1, hv2, h⟩ := bindS h
  refine opsP_callF τ 7 (ok_slices_IndexFunc_int_int (hz1) (hp1) hv2) (FzTo.frz rfl) (by simp only [frzL, frz, hz1, Bool.and_true]) (by kernel_rfl) ?_
  refine opsP_evk' (st' := ⟨9, [(4, B ((decide (v1 ≥ 0))))], []⟩) τ_ok [] 2 [4] (by kernel_rfl) ?_
  refine opsP_end rfl ?_
  have h := Option.some.inj h
  subst h
  exact pwp_ret ⟨.inr rfl, B ((decide (v1 ≥ 0))), _, by kernel_rfl, (OutP.frz (by kernel_rfl)), by decide⟩

/- slices.ContainsFunc[[]loop.example/tablehouse/impl.Value,loop.example/tablehouse/impl.Value] -/
def slices_ContainsFunc_impl_Value_impl_Value_120 (a0 : List T_impl_Value) (a1 : T_impl_Value → Option Bool) : Option Bool := (slices_IndexFunc_impl_Value_impl_Value_126 a0 a1).bind fun v1 => some ((decide (v1 ≥ 0)))
theorem ok_slices_ContainsFunc_impl_Value_impl_Value_120 {a0 : List T_impl_Value} {g1 : FuncId} {c1 : List V} (hz1 : frzL c1 = true) {a1 : T_impl_Value → Option Bool} (hp1 : ∀ x0 y, a1 x0 = some y → OK Try.prog g1 ([E x0] ++ c1) (B y)) {y : Bool} (h : slices_ContainsFunc_impl_Value_impl_Value_120 a0 a1 = some y) : OK Try.prog 120 [A a0, .fn g1 c1] (B y) := by
  refine OK_of_pwp τ_ok Try.func120 rfl (by kernel_rfl) rfl fun Γ hX => ?_
  unfold slices_ContainsFunc_impl_Value_impl_Value_120 at h
  refine pwp_seq ?_
  refine pwp_region ?_
  refine opsP_evk' (st' := ⟨9, [(0, A a0), (1, .fn g1 c1)], []⟩) τ_ok [] 1 [0, 1] (by kernel_rfl) ?_
  refine opsP_end rfl ?_
  refine pwp_seq ?_
  refine pwp_region ?_
  refine opsP_evk' (st' := ⟨9, [(5, A a0), (6, .fn g1 c1)], []⟩) τ_ok [] 2 [5, 6] (by kernel_rfl) ?_
  obtain ⟨v1, hv2, h⟩ := bindS h
  refine opsP_callF τ 7 (ok_slices_IndexFunc_impl_Value_impl_Value_126 (hz1) (hp1) hv2) (FzTo.frz rfl) (by simp only [frzL, frz, hz1, Bool.and_true]) (by kernel_rfl) ?_
  refine opsP_evk' (st' := ⟨9, [(4, B ((decide (v1 ≥ 0))))], []⟩) τ_ok [] 2 [4] (by kernel_rfl) ?_
  refine opsP_end rfl ?_
  have h := Option.some.inj h
  subst h
  exact pwp_ret ⟨.inr rfl, B ((decide (v1 ≥ 0))), _, by kernel_rfl, (OutP.frz (by kernel_rfl)), by decide⟩

/- loop.example/tablehouse/impl.RowOk$1 -/
def impl_RowOk_1 (a0 : T_impl_Value) : Option Bool := (impl_Value_ok a0).bind fun v1 => some ((!v1))
theorem ok_impl_RowOk_1 {a0 : T_impl_Value} {y : Bool} (h : impl_RowOk_1 a0 = some y) : OK Try.prog 121 [E a0] (B y) := by
  refine OK_of_pwp τ_ok Try.func121 rfl (by kernel_rfl) rfl fun Γ hX => ?_
  unfold impl_RowOk_1 at h
  refine pwp_seq ?_
  refine pwp_region ?_
  refine opsP_evk' (st' := ⟨6, [(1, .fptr (Enc.cells a0) 0)], []⟩) τ_ok [] 2 [1] (by kernel_rfl) ?_
  refine opsP_end rfl ?_
  refine pwp_seq ?_
  refine pwp_region ?_
  refine opsP_evk' (st' := ⟨6, [(3, E a0)], []⟩) τ_ok [] 1 [3] (by kernel_rfl) ?_
  obtain ⟨v1, hv2, h⟩ := bindS h
  refine opsP_callF τ 4 (ok_impl_Value_ok hv2) (FzTo.frz rfl) rfl (by kernel_rfl) ?_
  refine opsP_evk' (st' := ⟨6, [(2, B ((!v1)))], []⟩) τ_ok [] 2 [2] (by kernel_rfl) ?_
  refine opsP_end rfl ?_
  have h := Option.some.inj h
  subst h
  exact pwp_ret ⟨.inr rfl, B ((!v1)), _, by kernel_rfl, (OutP.frz (by kernel_rfl)), by decide⟩

/- slices.Grow[[]loop.example/tablehouse/impl.Column,loop.example/tablehouse/impl.Column] -/
def slices_Grow_impl_Column_impl_Column_n0 (a1 : Int) : Option (List T_impl_Column) := bif (decide (a1 < 0)) then none else bif (decide (((w64 (a1 - ((w64 (0 - ((0 : Int)))))))) > 0)) then (apzI ((w64 (a1 - ((w64 (0 - ((0 : Int)))))))) ((T_impl_Column.mk 0 false))).bind fun v3 => (slI v3 none (some ((0 : Int))) none).bind fun v5 => some v5 else some (([] : List T_impl_Column))
theorem ok_slices_Grow_impl_Column_impl_Column_n0 {a1 : Int} {y : List T_impl_Column} (h : slices_Grow_impl_Column_impl_Column_n0 a1 = some y) : OK Try.prog 108 [.arr 2 0 (eL ([] : List T_impl_Column)) true, I a1] (O y) := by
  refine OK_of_pwp τ_ok Try.func108 rfl (by kernel_rfl) rfl fun Γ hX => ?_
  unfold slices_Grow_impl_Column_impl_Column_n0 at h
  refine pwp_seq ?_
  refine pwp_region ?_
  refine opsP_evk' (st' := ⟨27, [(0, .arr 2 0 (eL ([] : List T_impl_Column)) true), (1, I a1)], []⟩) τ_ok [] 1 [0, 1] (by kernel_rfl) ?_
  refine opsP_end rfl ?_
  refine pwp_seq ?_
  refine pwp_seq ?_
  refine pwp_region ?_
  refine opsP_evk' (st' := ⟨27, [(0, .arr 2 0 (eL ([] : List T_impl_Column)) true), (1, I a1), (6, B ((decide (a1 < 0))))], []⟩) τ_ok [] 2 [0, 1, 6] (by kernel_rfl) ?_
  refine opsP_end rfl ?_
  refine pwp_cond ((decide (a1 < 0))) (by kernel_rfl) (fun hc1 => ?_) (fun hc1 => ?_)
  · replace h := bifT hc1 h
    cases h
  · replace h := bifF hc1 h
    refine pwp_skip ?_
    refine pwp_seq ?_
    refine pwp_seq ?_
    refine pwp_region ?_
    refine opsP_evk' (st' := ⟨27, [(0, .arr 2 0 (eL ([] : List T_impl_Column)) true), (8, I a1), (9, .arr 2 0 (eL ([] : List T_impl_Column)) true)], []⟩) τ_ok [] 2 [0, 8, 9] (by kernel_rfl) ?_
    refine opsP_E (dd := some 10) (x := I 0) (CoreE.of_y (capV_sound (n := 0) τ_ok (by kernel_rfl))) ?_
    refine opsP_evk' (st' := ⟨27, [(0, .arr 2 0 (eL ([] : List T_impl_Column)) true), (1, I ((w64 (a1 - ((w64 (0 - ((0 : Int)))))))))], []⟩) τ_ok [] 5 [0, 1] (by kernel_rfl) ?_
    refine opsP_end rfl ?_
    refine pwp_seq ?_
    refine pwp_region ?_
    refine opsP_evk' (st' := ⟨27, [(0, .arr 2 0 (eL ([] : List T_impl_Column)) true), (1, I ((w64 (a1 - ((w64 (0 - ((0 : Int))))))))), (16, B ((decide (((w64 (a1 - ((w64 (0 - ((0 : Int)))))))) > 0))))], []⟩) τ_ok [] 2 [0, 1, 16] (by kernel_rfl) ?_
    refine opsP_end rfl ?_
    refine pwp_cond ((decide (((w64 (a1 - ((w64 (0 - ((0 : Int)))))))) > 0))) (by kernel_rfl) (fun hc2 => ?_) (fun hc2 => ?_)
    · replace h := bifT hc2 h
      refine pwp_region ?_
      refine opsP_evk' (st' := ⟨27, [(0, .arr 2 0 (eL ([] : List T_impl_Column)) true), (1, I ((w64 (a1 - ((w64 (0 - ((0 : Int))))))))), (17, .arr 2 0 (eL ([] : List T_impl_Column)) true), (18, .arr 2 0 (eL ([] : List T_impl_Column)) true)], []⟩) τ_ok [] 2 [0, 1, 17, 18] (by kernel_rfl) ?_
      refine opsP_E (dd := some 19) (x := I 0) (CoreE.of_y (capV_sound (n := 0) τ_ok (by kernel_rfl))) ?_
      refine opsP_E (dd := some 20) (x := .arr 2 0 [] true) (CoreE.of_y (slnV_sound τ_ok (by kernel_rfl))) ?_
      refine opsP_evk' (st' := ⟨27, [(0, .arr 2 0 (eL ([] : List T_impl_Column)) true), (20, .arr 2 0 (eL ([] : List T_impl_Column)) true), (21, I ((w64 (a1 - ((w64 (0 - ((0 : Int)))))))))], []⟩) τ_ok [] 1 [0, 20, 21] (by kernel_rfl) ?_
      obtain ⟨v3, hv4, h⟩ := bindS h
      refine opsP_apz τ_ok 22 0 _ hv4 (by kernel_rfl) (by kernel_rfl) ?_
      refine opsP_evk' (st' := ⟨27, [(22, .ref 0 0 0 2 v3.length false), (24, I ((0 : Int)))], [some ⟨0, eL v3⟩]⟩) τ_ok [] 2 [22, 24] (by kernel_rfl) ?_
      obtain ⟨v5, hv6, h⟩ := bindS h
      refine opsP_slr τ_ok 25 0 0 v3.length hv6 rfl (by kernel_rfl) ?_
      refine opsP_evk' (st' := ⟨27, [(0, .ref 0 0 0 2 v5.length false)], [some ⟨0, eL v3⟩]⟩) τ_ok [] 1 [0] (by kernel_rfl) ?_
      refine opsP_end rfl ?_
      refine pwp_seq ?_
      refine pwp_region ?_
      refine opsP_evk' (st' := ⟨27, [(4, .ref 0 0 0 2 v5.length false)], [some ⟨0, eL v3⟩]⟩) τ_ok [] 2 [4] (by kernel_rfl) ?_
      refine opsP_end rfl ?_
      refine pwp_imp (Imp.to (st' := ⟨27, [(4, .ref 0 0 0 2 v5.length false)], [some ⟨0, eL v3⟩]⟩) [4] (by kernel_rfl)) ?_
      refine pwp_imp (Imp.cut (st' := ⟨27, [(4, .ref 0 0 0 2 v5.length false)], [some ⟨0, eL v5⟩]⟩) 0 0 v3 v5 (by kernel_rfl) (slI_view hv6) (by kernel_rfl)) ?_
      have h := Option.some.inj h
      subst h
      exact pwp_ret ⟨.inr rfl, .ref 0 0 0 2 v5.length false, _, by kernel_rfl, (OutP.list (v := 0) (by kernel_rfl)), by decide⟩
    · replace h := bifF hc2 h
      refine pwp_skip ?_
      refine pwp_seq ?_
      refine pwp_region ?_
      refine opsP_evk' (st' := ⟨27, [(4, .arr 2 0 (eL ([] : List T_impl_Column)) true)], []⟩) τ_ok [] 2 [4] (by kernel_rfl) ?_
      refine opsP_end rfl ?_
      refine pwp_imp (Imp.to (st' := ⟨27, [(4, .arr 2 0 (eL ([] : List T_impl_Column)) true)], []⟩) [4] (by kernel_rfl)) ?_
      refine pwp_imp (Imp.thawS (st' := ⟨27, [(4, .ref 0 0 0 2 (([] : List T_impl_Column)).length false)], [some ⟨0, eL (([] : List T_impl_Column))⟩]⟩) 4 [4] (by kernel_rfl)) ?_
      have h := Option.some.inj h
      subst h
      exact pwp_ret ⟨.inr rfl, .ref 0 0 0 2 (([] : List T_impl_Column)).length false, _, by kernel_rfl, (OutP.list (v := 0) (by kernel_rfl)), by decide⟩

/- loop.example/tablehouse/laws.szValueSS -/
def laws_szValueSS_l0 (a0 : List (List T_laws_Value)) : Nat → Int → Int → Option Int
  | 0, _, _ => none
  | f4 + 1, x2, x3 => bif (decide (x3 < ((a0.length : Int)))) then (getI a0 x3).bind fun v7 => (laws_szValueS v7 x2).bind fun v9 => bif (decide (v9 < 0)) then some (-1) else (laws_szValueSS_l0 a0 f4) v9 ((w64 (x3 + 1))) else some x2
def laws_szValueSS (a0 : List (List T_laws_Value)) (a1 : Int) : Option Int := bif (decide (((w64 (a1 - ((a0.length : Int))))) < 0)) then some (-1) else laws_szValueSS_l0 a0 FUEL ((w64 (a1 - ((a0.length : Int))))) 0
theorem ok_laws_szValueSS {a0 : List (List T_laws_Value)} {a1 : Int} {y : Int} (h : laws_szValueSS a0 a1 = some y) : OK Try.prog 51 [A a0, I a1] (I y) := by
  refine OK_of_pwp τ_ok Try.func51 rfl (by kernel_rfl) rfl fun Γ hX => ?_
  unfold laws_szValueSS at h
  refine pwp_seq ?_
  refine pwp_region ?_
  refine opsP_evk' (st' := ⟨27, [(0, A a0), (1, I a1)], []⟩) τ_ok [] 1 [0, 1] (by kernel_rfl) ?_
  refine opsP_end rfl ?_
  refine pwp_seq ?_
  refine pwp_region ?_
  refine opsP_evk' (st' := ⟨27, [(0, A a0), (1, I ((w64 (a1 - ((a0.length : Int))))))], []⟩) τ_ok [] 5 [0, 1] (by kernel_rfl) ?_
  refine opsP_end rfl ?_
  refine pwp_seq ?_
  refine pwp_seq ?_
  refine pwp_region ?_
  refine opsP_evk' (st' := ⟨27, [(0, A a0), (1, I ((w64 (a1 - ((a0.length : Int)))))), (11, B ((decide (((w64 (a1 - ((a0.length : Int))))) < 0))))], []⟩) τ_ok [] 2 [0, 1, 11] (by kernel_rfl) ?_
  refine opsP_end rfl ?_
  refine pwp_cond ((decide (((w64 (a1 - ((a0.length : Int))))) < 0))) (by kernel_rfl) (fun hc1 => ?_) (fun hc1 => ?_)
  · replace h := bifT hc1 h
    refine pwp_seq ?_
    refine pwp_region ?_
    refine opsP_evk' (st' := ⟨27, [(4, I (-1))], []⟩) τ_ok [] 1 [4] (by kernel_rfl) ?_
    refine opsP_end rfl ?_
    have h := Option.some.inj h
    subst h
    exact pwp_ret ⟨.inr rfl, I (-1), _, by kernel_rfl, (OutP.frz (by kernel_rfl)), by decide⟩
  · replace h := bifF hc1 h
    refine pwp_skip ?_
    refine pwp_seq ?_
    refine pwp_seq ?_
    refine pwp_region ?_
    refine opsP_evk' (st' := ⟨27, [(0, A a0), (1, I ((w64 (a1 - ((a0.length : Int)))))), (5, I 0)], []⟩) τ_ok [] 1 [0, 1, 5] (by kernel_rfl) ?_
    refine opsP_end rfl ?_
    refine pwp_block ?_
    refine pwp_loop (ι := Nat × Int × Int) (fun (f4, x2, x3) => (⟨27, [(0, A a0), (1, I x2), (5, I x3)], []⟩ : St)) (fun (f4, x2, x3) => laws_szValueSS_l0 a0 f4 x2 x3 = some y) (fun (f4, x2, x3) => f4) (FUEL, (w64 (a1 - ((a0.length : Int)))), 0) h ((Imp.to (st' := ⟨27, [(0, A a0), (1, I ((w64 (a1 - ((a0.length : Int)))))), (5, I 0)], []⟩) [0, 1, 5] (by kernel_rfl)).trans (Imp.to [0, 1, 5] (by kernel_rfl))) ?_
    rintro ⟨f4, x2, x3⟩ h
    dsimp only at h ⊢
    cases f4 with
    | zero => cases h
    | succ f4 =>
    rw [laws_szValueSS_l0] at h
    refine pwp_seq ?_
    refine pwp_seq ?_
    refine pwp_region ?_
    refine opsP_evk' (st' := ⟨27, [(0, A a0), (1, I x2), (5, I x3), (15, B ((decide (x3 < ((a0.length : Int))))))], []⟩) τ_ok [] 4 [0, 1, 5, 15] (by kernel_rfl) ?_
    refine opsP_end rfl ?_
    refine pwp_cond ((decide (x3 < ((a0.length : Int))))) (by kernel_rfl) (fun hc6 => ?_) (fun hc6 => ?_)
    · replace h := bifT hc6 h
      refine pwp_skip ?_
      refine pwp_seq ?_
      refine pwp_block ?_
      refine pwp_seq ?_
      refine pwp_region ?_
      refine opsP_evk' (st' := ⟨27, [(0, A a0), (1, I x2), (5, I x3), (18, A a0), (19, I x3)], []⟩) τ_ok [] 2 [0, 1, 5, 18, 19] (by kernel_rfl) ?_
      obtain ⟨v7, hv8, h⟩ := bindS h
      refine opsP_idx τ_ok 20 hv8 (by kernel_rfl) ?_
      refine opsP_evk' (st' := ⟨27, [(0, A a0), (5, I x3), (21, A v7), (22, I x2)], []⟩) τ_ok [] 2 [0, 5, 21, 22] (by kernel_rfl) ?_
      obtain ⟨v9, hv10, h⟩ := bindS h
      refine opsP_callF τ 23 (ok_laws_szValueS hv10) (FzTo.frz rfl) rfl (by kernel_rfl) ?_
      refine opsP_evk' (st' := ⟨27, [(0, A a0), (1, I v9), (5, I x3)], []⟩) τ_ok [] 1 [0, 1, 5] (by kernel_rfl) ?_
      refine opsP_end rfl ?_
      refine pwp_seq ?_
      refine pwp_region ?_
      refine opsP_evk' (st' := ⟨27, [(0, A a0), (1, I v9), (5, I x3), (25, B ((decide (v9 < 0))))], []⟩) τ_ok [] 2 [0, 1, 5, 25] (by kernel_rfl) ?_
      refine opsP_end rfl ?_
      refine pwp_cond ((decide (v9 < 0))) (by kernel_rfl) (fun hc11 => ?_) (fun hc11 => ?_)
      · replace h := bifT hc11 h
        refine pwp_seq ?_
        refine pwp_region ?_
        refine opsP_evk' (st' := ⟨27, [(4, I (-1))], []⟩) τ_ok [] 1 [4] (by kernel_rfl) ?_
        refine opsP_end rfl ?_
        have h := Option.some.inj h
        subst h
        exact pwp_ret ⟨.inr rfl, I (-1), _, by kernel_rfl, (OutP.frz (by kernel_rfl)), by decide⟩
      · replace h := bifF hc11 h
        refine pwp_skip ?_
        refine pwp_region ?_
        refine opsP_evk' (st' := ⟨27, [(0, A a0), (1, I v9), (5, I ((w64 (x3 + 1))))], []⟩) τ_ok [] 3 [0, 1, 5] (by kernel_rfl) ?_
        refine opsP_end rfl ?_
        exact ⟨(f4, v9, (w64 (x3 + 1))), h, Nat.lt_succ_self _, (Imp.to (st' := ⟨27, [(0, A a0), (1, I v9), (5, I ((w64 (x3 + 1))))], []⟩) [0, 1, 5] (by kernel_rfl)).trans (Imp.to [0, 1, 5] (by kernel_rfl))⟩
    · replace h := bifF hc6 h
      refine pwp_exit ?_
      refine pwp_seq ?_
      refine pwp_region ?_
      refine opsP_evk' (st' := ⟨27, [(4, I x2)], []⟩) τ_ok [] 2 [4] (by kernel_rfl) ?_
      refine opsP_end rfl ?_
      have h := Option.some.inj h
      subst h
      exact pwp_ret ⟨.inr rfl, I x2, _, by kernel_rfl, (OutP.frz (by kernel_rfl)), by decide⟩

/- loop.example/tablehouse/laws.szPartS -/
def laws_szPartS_l0 (a0 : List T_laws_Part) : Nat → Int → Int → Option Int
  | 0, _, _ => none
  | f4 + 1, x2, x3 => bif (decide (x3 < ((a0.length : Int)))) then (getI a0 x3).bind fun v7 => (laws_szPart v7 x2).bind fun v9 => bif (decide (v9 < 0)) then some (-1) else (laws_szPartS_l0 a0 f4) v9 ((w64 (x3 + 1))) else some x2
def laws_szPartS (a0 : List T_laws_Part) (a1 : Int) : Option Int := bif (decide (((w64 (a1 - ((a0.length : Int))))) < 0)) then some (-1) else laws_szPartS_l0 a0 FUEL ((w64 (a1 - ((a0.length : Int))))) 0
theorem ok_laws_szPartS {a0 : List T_laws_Part} {a1 : Int} {y : Int} (h : laws_szPartS a0 a1 = some y) : OK Try.prog 52 [A a0, I a1] (I y) := by
  refine OK_of_pwp τ_ok Try.func52 rfl (by kernel_rfl) rfl fun Γ hX => ?_
  unfold laws_szPartS at h
  refine pwp_seq ?_
  refine pwp_region ?_
  refine opsP_evk' (st' := ⟨27, [(0, A a0), (1, I a1)], []⟩) τ_ok [] 1 [0, 1] (by kernel_rfl) ?_
  refine opsP_end rfl ?_
  refine pwp_seq ?_
  refine pwp_region ?_
  refine opsP_evk' (st' := ⟨27, [(0, A a0), (1, I ((w64 (a1 - ((a0.length : Int))))))], []⟩) τ_ok [] 5 [0, 1] (by kernel_rfl) ?_
  refine opsP_end rfl ?_
  refine pwp_seq ?_
  refine pwp_seq ?_
  refine pwp_region ?_
  refine opsP_evk' (st' := ⟨27, [(0, A a0), (1, I ((w64 (a1 - ((a0.length : Int)))))), (11, B ((decide (((w64 (a1 - ((a0.length : Int))))) < 0))))], []⟩) τ_ok [] 2 [0, 1, 11] (by kernel_rfl) ?_
  refine opsP_end rfl ?_
  refine pwp_cond ((decide (((w64 (a1 - ((a0.length : Int))))) < 0))) (by kernel_rfl) (fun hc1 => ?_) (fun hc1 => ?_)
  · replace h := bifT hc1 h
    refine pwp_seq ?_
    refine pwp_region ?_
    refine opsP_evk' (st' := ⟨27, [(4, I (-1))], []⟩) τ_ok [] 1 [4] (by kernel_rfl) ?_
    refine opsP_end rfl ?_
    have h := Option.some.inj h
    subst h
    exact pwp_ret ⟨.inr rfl, I (-1), _, by kernel_rfl, (OutP.frz (by kernel_rfl)), by decide⟩
  · replace h := bifF hc1 h
    refine pwp_skip ?_
    refine pwp_seq ?_
    refine pwp_seq ?_
    refine pwp_region ?_
    refine opsP_evk' (st' := ⟨27, [(0, A a0), (1, I ((w64 (a1 - ((a0.length : Int)))))), (5, I 0)], []⟩) τ_ok [] 1 [0, 1, 5] (by kernel_rfl) ?_
    refine opsP_end rfl ?_
    refine pwp_block ?_
    refine pwp_loop (ι := Nat × Int × Int) (fun (f4, x2, x3) => (⟨27, [(0, A a0), (1, I x2), (5, I x3)], []⟩ : St)) (fun (f4, x2, x3) => laws_szPartS_l0 a0 f4 x2 x3 = some y) (fun (f4, x2, x3) => f4) (FUEL, (w64 (a1 - ((a0.length : Int)))), 0) h ((Imp.to (st' := ⟨27, [(0, A a0), (1, I ((w64 (a1 - ((a0.length : Int)))))), (5, I 0)], []⟩) [0, 1, 5] (by kernel_rfl)).trans (Imp.to [0, 1, 5] (by kernel_rfl))) ?_
    rintro ⟨f4, x2, x3⟩ h
    dsimp only at h ⊢
    cases f4 with
    | zero => cases h
    | succ f4 =>
    rw [laws_szPartS_l0] at h
    refine pwp_seq ?_
    refine pwp_seq ?_
    refine pwp_region ?_
    refine opsP_evk' (st' := ⟨27, [(0, A a0), (1, I x2), (5, I x3), (15, B ((decide (x3 < ((a0.length : Int))))))], []⟩) τ_ok [] 4 [0, 1, 5, 15] (by kernel_rfl) ?_
    refine opsP_end rfl ?_
    refine pwp_cond ((decide (x3 < ((a0.length : Int))))) (by kernel_rfl) (fun hc6 => ?_) (fun hc6 => ?_)
    · replace h := bifT hc6 h
      refine pwp_skip ?_
      refine pwp_seq ?_
      refine pwp_block ?_
      refine pwp_seq ?_
      refine pwp_region ?_
      refine opsP_evk' (st' := ⟨27, [(0, A a0), (1, I x2), (5, I x3), (18, A a0), (19, I x3)], []⟩) τ_ok [] 2 [0, 1, 5, 18, 19] (by kernel_rfl) ?_
      obtain ⟨v7, hv8, h⟩ := bindS h
      refine opsP_idx τ_ok 20 hv8 (by kernel_rfl) ?_
      refine opsP_evk' (st' := ⟨27, [(0, A a0), (5, I x3), (21, E v7), (22, I x2)], []⟩) τ_ok [] 2 [0, 5, 21, 22] (by kernel_rfl) ?_
      obtain ⟨v9, hv10, h⟩ := bindS h
      refine opsP_callF τ 23 (ok_laws_szPart hv10) (FzTo.frz rfl) rfl (by kernel_rfl) ?_
      refine opsP_evk' (st' := ⟨27, [(0, A a0), (1, I v9), (5, I x3)], []⟩) τ_ok [] 1 [0, 1, 5] (by kernel_rfl) ?_
      refine opsP_end rfl ?_
      refine pwp_seq ?_
      refine pwp_region ?_
      refine opsP_evk' (st' := ⟨27, [(0, A a0), (1, I v9), (5, I x3), (25, B ((decide (v9 < 0))))], []⟩) τ_ok [] 2 [0, 1, 5, 25] (by kernel_rfl) ?_
      refine opsP_end rfl ?_
      refine pwp_cond ((decide (v9 < 0))) (by kernel_rfl) (fun hc11 => ?_) (fun hc11 => ?_)
      · replace h := bifT hc11 h
        refine pwp_seq ?_
        refine pwp_region ?_
        refine opsP_evk' (st' := ⟨27, [(4, I (-1))], []⟩) τ_ok [] 1 [4] (by kernel_rfl) ?_
        refine opsP_end rfl ?_
        have h := Option.some.inj h
        subst h
        exact pwp_ret ⟨.inr rfl, I (-1), _, by kernel_rfl, (OutP.frz (by kernel_rfl)), by decide⟩
      · replace h := bifF hc11 h
        refine pwp_skip ?_
        refine pwp_region ?_
        refine opsP_evk' (st' := ⟨27, [(0, A a0), (1, I v9), (5, I ((w64 (x3 + 1))))], []⟩) τ_ok [] 3 [0, 1, 5] (by kernel_rfl) ?_
        refine opsP_end rfl ?_
        exact ⟨(f4, v9, (w64 (x3 + 1))), h, Nat.lt_succ_self _, (Imp.to (st' := ⟨27, [(0, A a0), (1, I v9), (5, I ((w64 (x3 + 1))))], []⟩) [0, 1, 5] (by kernel_rfl)).trans (Imp.to [0, 1, 5] (by kernel_rfl))⟩
    · replace h := bifF hc6 h
      refine pwp_exit ?_
      refine pwp_seq ?_
      refine pwp_region ?_
      refine opsP_evk' (st' := ⟨27, [(4, I x2)], []⟩) τ_ok [] 2 [4] (by kernel_rfl) ?_
      refine opsP_end rfl ?_
      have h := Option.some.inj h
      subst h
      exact pwp_ret ⟨.inr rfl, I x2, _, by kernel_rfl, (OutP.frz (by kernel_rfl)), by decide⟩

/- loop.example/tablehouse/laws.toValueSS -/
def laws_toValueSS_l0 (a0 : List (List T_laws_Value)) : Nat → Int → (List (List T_impl_Value)) → Option (List (List T_impl_Value))
  | 0, _, _ => none
  | f6 + 1, x4, x5 => bif (decide (x4 < ((a0.length : Int)))) then (getI a0 x4).bind fun v9 => (laws_toValueS v9).bind fun v11 => (getI x5 x4).bind fun v13 => (laws_toValueSS_l0 a0 f6) ((w64 (x4 + 1))) ((x5.set x4.toNat v11)) else some x5
def laws_toValueSS (a0 : List (List T_laws_Value)) : Option (List (List T_impl_Value)) := (mkI ((a0.length : Int)) (([] : List T_impl_Value))).bind fun v1 => laws_toValueSS_l0 a0 FUEL 0 v1
theorem ok_laws_toValueSS {a0 : List (List T_laws_Value)} {y : List (List T_impl_Value)} (h : laws_toValueSS a0 = some y) : OK Try.prog 58 [A a0] (O y) := by
  refine OK_of_pwp τ_ok Try.func58 rfl (by kernel_rfl) rfl fun Γ hX => ?_
  unfold laws_toValueSS at h
  refine pwp_seq ?_
  refine pwp_region ?_
  refine opsP_evk' (st' := ⟨23, [(0, A a0)], []⟩) τ_ok [] 1 [0] (by kernel_rfl) ?_
  refine opsP_end rfl ?_
  refine pwp_seq ?_
  refine pwp_region ?_
  refine opsP_evk' (st' := ⟨23, [(0, A a0), (6, I ((a0.length : Int)))], []⟩) τ_ok [] 2 [0, 6] (by kernel_rfl) ?_
  obtain ⟨v1, hv2, h⟩ := bindS h
  refine opsP_mk τ_ok 7 0 _ hv2 (by kernel_rfl) (by kernel_rfl) ?_
  refine opsP_evk' (st' := ⟨23, [(0, A a0), (3, .ref 0 0 0 1 v1.length false)], [some ⟨0, eL v1⟩]⟩) τ_ok [] 1 [0, 3] (by kernel_rfl) ?_
  refine opsP_end rfl ?_
  refine pwp_seq ?_
  refine pwp_seq ?_
  refine pwp_region ?_
  refine opsP_evk' (st' := ⟨23, [(0, A a0), (3, .ref 0 0 0 1 v1.length false), (4, I 0)], [some ⟨0, eL v1⟩]⟩) τ_ok [] 1 [0, 3, 4] (by kernel_rfl) ?_
  refine opsP_end rfl ?_
  refine pwp_block ?_
  refine pwp_loop (ι := Nat × Int × (List (List T_impl_Value))) (fun (f6, x4, x5) => (⟨23, [(0, A a0), (3, .ref 0 0 0 1 x5.length false), (4, I x4)], [some ⟨0, eL x5⟩]⟩ : St)) (fun (f6, x4, x5) => laws_toValueSS_l0 a0 f6 x4 x5 = some y) (fun (f6, x4, x5) => f6) (FUEL, 0, v1) h ((Imp.to (st' := ⟨23, [(0, A a0), (3, .ref 0 0 0 1 v1.length false), (4, I 0)], [some ⟨0, eL v1⟩]⟩) [0, 3, 4] (by kernel_rfl)).trans (Imp.to [0, 3, 4] (by kernel_rfl))) ?_
  rintro ⟨f6, x4, x5⟩ h
  dsimp only at h ⊢
  cases f6 with
  | zero => cases h
  | succ f6 =>
  rw [laws_toValueSS_l0] at h
  refine pwp_seq ?_
  refine pwp_seq ?_
  refine pwp_region ?_
  refine opsP_evk' (st' := ⟨23, [(0, A a0), (3, .ref 0 0 0 1 x5.length false), (4, I x4), (11, B ((decide (x4 < ((a0.length : Int))))))], [some ⟨0, eL x5⟩]⟩) τ_ok [] 4 [0, 3, 4, 11] (by kernel_rfl) ?_
  refine opsP_end rfl ?_
  refine pwp_cond ((decide (x4 < ((a0.length : Int))))) (by kernel_rfl) (fun hc8 => ?_) (fun hc8 => ?_)
  · replace h := bifT hc8 h
    refine pwp_skip ?_
    refine pwp_seq ?_
    refine pwp_block ?_
    refine pwp_region ?_
    refine opsP_evk' (st' := ⟨23, [(0, A a0), (3, .ref 0 0 0 1 x5.length false), (4, I x4), (14, .ref 0 0 0 1 x5.length false), (15, I x4), (16, A a0), (17, I x4)], [some ⟨0, eL x5⟩]⟩) τ_ok [] 4 [0, 3, 4, 14, 15, 16, 17] (by kernel_rfl) ?_
    obtain ⟨v9, hv10, h⟩ := bindS h
    refine opsP_idx τ_ok 18 hv10 (by kernel_rfl) ?_
    refine opsP_evk' (st' := ⟨23, [(0, A a0), (3, .ref 0 0 0 1 x5.length false), (4, I x4), (14, .ref 0 0 0 1 x5.length false), (15, I x4), (19, A v9)], [some ⟨0, eL x5⟩]⟩) τ_ok [] 1 [0, 3, 4, 14, 15, 19] (by kernel_rfl) ?_
    obtain ⟨v11, hv12, h⟩ := bindS h
    refine opsP_callF τ 20 (ok_laws_toValueS hv12) (FzTo.O _) rfl (by kernel_rfl) ?_
    obtain ⟨v13, hv14, h⟩ := bindS h
    refine opsP_idr τ_ok 21 0 0 x5.length hv14 rfl (by kernel_rfl) ?_
    refine opsP_evk' (st' := ⟨23, [(0, A a0), (3, .ref 0 0 0 1 x5.length false), (4, I x4), (20, A v11), (21, .ptr 0 0 (x4.toNat * 1))], [some ⟨0, eL x5⟩]⟩) τ_ok [] 0 [0, 3, 4, 20, 21] (by kernel_rfl) ?_
    refine opsP_ste (vs := [A v11]) τ_ok 104 0 0 0 v11 hv14 (by kernel_rfl) (by kernel_rfl) (by kernel_rfl) (renC trivial (renC (ren_ref (List.length_set ..).symm) (renC trivial (renC trivial (renC trivial renC0))))) ?_
    refine opsP_evk' (st' := ⟨23, [(0, A a0), (3, .ref 0 0 0 1 ((x5.set x4.toNat v11)).length false), (4, I x4)], [some ⟨0, eL ((x5.set x4.toNat v11))⟩]⟩) τ_ok [] 0 [0, 3, 4] (by kernel_rfl) ?_
    refine opsP_end rfl ?_
    refine pwp_region ?_
    refine opsP_evk' (st' := ⟨23, [(0, A a0), (3, .ref 0 0 0 1 ((x5.set x4.toNat v11)).length false), (4, I ((w64 (x4 + 1))))], [some ⟨0, eL ((x5.set x4.toNat v11))⟩]⟩) τ_ok [] 3 [0, 3, 4] (by kernel_rfl) ?_
    refine opsP_end rfl ?_
    exact ⟨(f6, (w64 (x4 + 1)), (x5.set x4.toNat v11)), h, Nat.lt_succ_self _, (Imp.to (st' := ⟨23, [(0, A a0), (3, .ref 0 0 0 1 ((x5.set x4.toNat v11)).length false), (4, I ((w64 (x4 + 1))))], [some ⟨0, eL ((x5.set x4.toNat v11))⟩]⟩) [0, 3, 4] (by kernel_rfl)).trans (Imp.to [0, 3, 4] (by kernel_rfl))⟩
  · replace h := bifF hc8 h
    refine pwp_exit ?_
    refine pwp_seq ?_
    refine pwp_region ?_
    refine opsP_evk' (st' := ⟨23, [(2, .ref 0 0 0 1 x5.length false)], [some ⟨0, eL x5⟩]⟩) τ_ok [] 2 [2] (by kernel_rfl) ?_
    refine opsP_end rfl ?_
    have h := Option.some.inj h
    subst h
    exact pwp_ret ⟨.inr rfl, .ref 0 0 0 1 x5.length false, _, by kernel_rfl, (OutP.list (v := 0) (by kernel_rfl)), by decide⟩

/- loop.example/tablehouse/laws.toPartS -/
def laws_toPartS_l0 (a0 : List T_laws_Part) : Nat → Int → (List T_impl_Part) → Option (List T_impl_Part)
  | 0, _, _ => none
  | f6 + 1, x4, x5 => bif (decide (x4 < ((a0.length : Int)))) then (getI a0 x4).bind fun v9 => (laws_toPart v9).bind fun v11 => (getI x5 x4).bind fun v13 => (laws_toPartS_l0 a0 f6) ((w64 (x4 + 1))) ((x5.set x4.toNat v11)) else some x5
def laws_toPartS (a0 : List T_laws_Part) : Option (List T_impl_Part) := (mkI ((a0.length : Int)) ((T_impl_Part.mk 0 0 (T_impl_Value.mk 0 0 (ByteArray.mk #[]))))).bind fun v1 => laws_toPartS_l0 a0 FUEL 0 v1
theorem ok_laws_toPartS {a0 : List T_laws_Part} {y : List T_impl_Part} (h : laws_toPartS a0 = some y) : OK Try.prog 59 [A a0] (O y) := by
  refine OK_of_pwp τ_ok Try.func59 rfl (by kernel_rfl) rfl fun Γ hX => ?_
  unfold laws_toPartS at h
  refine pwp_seq ?_
  refine pwp_region ?_
  refine opsP_evk' (st' := ⟨23, [(0, A a0)], []⟩) τ_ok [] 1 [0] (by kernel_rfl) ?_
  refine opsP_end rfl ?_
  refine pwp_seq ?_
  refine pwp_region ?_
  refine opsP_evk' (st' := ⟨23, [(0, A a0), (6, I ((a0.length : Int)))], []⟩) τ_ok [] 2 [0, 6] (by kernel_rfl) ?_
  obtain ⟨v1, hv2, h⟩ := bindS h
  refine opsP_mk τ_ok 7 0 _ hv2 (by kernel_rfl) (by kernel_rfl) ?_
  refine opsP_evk' (st' := ⟨23, [(0, A a0), (3, .ref 0 0 0 5 v1.length false)], [some ⟨0, eL v1⟩]⟩) τ_ok [] 1 [0, 3] (by kernel_rfl) ?_
  refine opsP_end rfl ?_
  refine pwp_seq ?_
  refine pwp_seq ?_
  refine pwp_region ?_
  refine opsP_evk' (st' := ⟨23, [(0, A a0), (3, .ref 0 0 0 5 v1.length false), (4, I 0)], [some ⟨0, eL v1⟩]⟩) τ_ok [] 1 [0, 3, 4] (by kernel_rfl) ?_
  refine opsP_end rfl ?_
  refine pwp_block ?_
  refine pwp_loop (ι := Nat × Int × (List T_impl_Part)) (fun (f6, x4, x5) => (⟨23, [(0, A a0), (3, .ref 0 0 0 5 x5.length false), (4, I x4)], [some ⟨0, eL x5⟩]⟩ : St)) (fun (f6, x4, x5) => laws_toPartS_l0 a0 f6 x4 x5 = some y) (fun (f6, x4, x5) => f6) (FUEL, 0, v1) h ((Imp.to (st' := ⟨23, [(0, A a0), (3, .ref 0 0 0 5 v1.length false), (4, I 0)], [some ⟨0, eL v1⟩]⟩) [0, 3, 4] (by kernel_rfl)).trans (Imp.to [0, 3, 4] (by kernel_rfl))) ?_
  rintro ⟨f6, x4, x5⟩ h
  dsimp only at h ⊢
  cases f6 with
  | zero => cases h
  | succ f6 =>
  rw [laws_toPartS_l0] at h
  refine pwp_seq ?_
  refine pwp_seq ?_
  refine pwp_region ?_
  refine opsP_evk' (st' := ⟨23, [(0, A a0), (3, .ref 0 0 0 5 x5.length false), (4, I x4), (11, B ((decide (x4 < ((a0.length : Int))))))], [some ⟨0, eL x5⟩]⟩) τ_ok [] 4 [0, 3, 4, 11] (by kernel_rfl) ?_
  refine opsP_end rfl ?_
  refine pwp_cond ((decide (x4 < ((a0.length : Int))))) (by kernel_rfl) (fun hc8 => ?_) (fun hc8 => ?_)
  · replace h := bifT hc8 h
    refine pwp_skip ?_
    refine pwp_seq ?_
    refine pwp_block ?_
    refine pwp_region ?_
    refine opsP_evk' (st' := ⟨23, [(0, A a0), (3, .ref 0 0 0 5 x5.length false), (4, I x4), (14, .ref 0 0 0 5 x5.length false), (15, I x4), (16, A a0), (17, I x4)], [some ⟨0, eL x5⟩]⟩) τ_ok [] 4 [0, 3, 4, 14, 15, 16, 17] (by kernel_rfl) ?_
    obtain ⟨v9, hv10, h⟩ := bindS h
    refine opsP_idx τ_ok 18 hv10 (by kernel_rfl) ?_
    refine opsP_evk' (st' := ⟨23, [(0, A a0), (3, .ref 0 0 0 5 x5.length false), (4, I x4), (14, .ref 0 0 0 5 x5.length false), (15, I x4), (19, E v9)], [some ⟨0, eL x5⟩]⟩) τ_ok [] 1 [0, 3, 4, 14, 15, 19] (by kernel_rfl) ?_
    obtain ⟨v11, hv12, h⟩ := bindS h
    refine opsP_callF τ 20 (ok_laws_toPart hv12) (FzTo.frz rfl) rfl (by kernel_rfl) ?_
    obtain ⟨v13, hv14, h⟩ := bindS h
    refine opsP_idr τ_ok 21 0 0 x5.length hv14 rfl (by kernel_rfl) ?_
    refine opsP_evk' (st' := ⟨23, [(0, A a0), (3, .ref 0 0 0 5 x5.length false), (4, I x4), (20, E v11), (21, .ptr 0 0 (x4.toNat * 5))], [some ⟨0, eL x5⟩]⟩) τ_ok [] 0 [0, 3, 4, 20, 21] (by kernel_rfl) ?_
    refine opsP_ste (vs := [I v11.fKind, I v11.fN, I v11.fV.fKind, I v11.fV.fN, S v11.fV.fS]) τ_ok 108 0 0 0 v11 hv14 (by kernel_rfl) (by kernel_rfl) (by kernel_rfl) (renC trivial (renC (ren_ref (List.length_set ..).symm) (renC trivial (renC trivial (renC trivial renC0))))) ?_
    refine opsP_evk' (st' := ⟨23, [(0, A a0), (3, .ref 0 0 0 5 ((x5.set x4.toNat v11)).length false), (4, I x4)], [some ⟨0, eL ((x5.set x4.toNat v11))⟩]⟩) τ_ok [] 0 [0, 3, 4] (by kernel_rfl) ?_
    refine opsP_end rfl ?_
    refine pwp_region ?_
    refine opsP_evk' (st' := ⟨23, [(0, A a0), (3, .ref 0 0 0 5 ((x5.set x4.toNat v11)).length false), (4, I ((w64 (x4 + 1))))], [some ⟨0, eL ((x5.set x4.toNat v11))⟩]⟩) τ_ok [] 3 [0, 3, 4] (by kernel_rfl) ?_
    refine opsP_end rfl ?_
    exact ⟨(f6, (w64 (x4 + 1)), (x5.set x4.toNat v11)), h, Nat.lt_succ_self _, (Imp.to (st' := ⟨23, [(0, A a0), (3, .ref 0 0 0 5 ((x5.set x4.toNat v11)).length false), (4, I ((w64 (x4 + 1))))], [some ⟨0, eL ((x5.set x4.toNat v11))⟩]⟩) [0, 3, 4] (by kernel_rfl)).trans (Imp.to [0, 3, 4] (by kernel_rfl))⟩
  · replace h := bifF hc8 h
    refine pwp_exit ?_
    refine pwp_seq ?_
    refine pwp_region ?_
    refine opsP_evk' (st' := ⟨23, [(2, .ref 0 0 0 5 x5.length false)], [some ⟨0, eL x5⟩]⟩) τ_ok [] 2 [2] (by kernel_rfl) ?_
    refine opsP_end rfl ?_
    have h := Option.some.inj h
    subst h
    exact pwp_ret ⟨.inr rfl, .ref 0 0 0 5 x5.length false, _, by kernel_rfl, (OutP.list (v := 0) (by kernel_rfl)), by decide⟩

/- loop.example/tablehouse/laws.eqValueSS -/
def laws_eqValueSS_l0 (a0 : List (List T_impl_Value)) (a1 : List (List T_impl_Value)) : Nat → Int → Option Bool
  | 0, _ => none
  | f3 + 1, x2 => bif (decide (x2 < ((a0.length : Int)))) then (getI a0 x2).bind fun v6 => (getI a1 x2).bind fun v8 => (laws_eqValueS v6 v8).bind fun v10 => bif (!v10) then some false else (laws_eqValueSS_l0 a0 a1 f3) ((w64 (x2 + 1))) else some true
def laws_eqValueSS (a0 : List (List T_impl_Value)) (a1 : List (List T_impl_Value)) : Option Bool := bif (!(((a0.length : Int)) == ((a1.length : Int)))) then some false else laws_eqValueSS_l0 a0 a1 FUEL 0
theorem ok_laws_eqValueSS {a0 : List (List T_impl_Value)} {a1 : List (List T_impl_Value)} {y : Bool} (h : laws_eqValueSS a0 a1 = some y) : OK Try.prog 63 [A a0, A a1] (B y) := by
  refine OK_of_pwp τ_ok Try.func63 rfl (by kernel_rfl) rfl fun Γ hX => ?_
  unfold laws_eqValueSS at h
  refine pwp_seq ?_
  refine pwp_region ?_
  refine opsP_evk' (st' := ⟨27, [(0, A a0), (1, A a1)], []⟩) τ_ok [] 1 [0, 1] (by kernel_rfl) ?_
  refine opsP_end rfl ?_
  refine pwp_seq ?_
  refine pwp_seq ?_
  refine pwp_region ?_
  refine opsP_evk' (st' := ⟨27, [(0, A a0), (1, A a1), (10, B ((!(((a0.length : Int)) == ((a1.length : Int))))))], []⟩) τ_ok [] 5 [0, 1, 10] (by kernel_rfl) ?_
  refine opsP_end rfl ?_
  refine pwp_cond ((!(((a0.length : Int)) == ((a1.length : Int))))) (by kernel_rfl) (fun hc1 => ?_) (fun hc1 => ?_)
  · replace h := bifT hc1 h
    refine pwp_seq ?_
    refine pwp_region ?_
    refine opsP_evk' (st' := ⟨27, [(4, B false)], []⟩) τ_ok [] 1 [4] (by kernel_rfl) ?_
    refine opsP_end rfl ?_
    have h := Option.some.inj h
    subst h
    exact pwp_ret ⟨.inr rfl, B false, _, by kernel_rfl, (OutP.frz (by kernel_rfl)), by decide⟩
  · replace h := bifF hc1 h
    refine pwp_skip ?_
    refine pwp_seq ?_
    refine pwp_seq ?_
    refine pwp_region ?_
    refine opsP_evk' (st' := ⟨27, [(0, A a0), (1, A a1), (5, I 0)], []⟩) τ_ok [] 1 [0, 1, 5] (by kernel_rfl) ?_
    refine opsP_end rfl ?_
    refine pwp_block ?_
    refine pwp_loop (ι := Nat × Int) (fun (f3, x2) => (⟨27, [(0, A a0), (1, A a1), (5, I x2)], []⟩ : St)) (fun (f3, x2) => laws_eqValueSS_l0 a0 a1 f3 x2 = some y) (fun (f3, x2) => f3) (FUEL, 0) h ((Imp.to (st' := ⟨27, [(0, A a0), (1, A a1), (5, I 0)], []⟩) [0, 1, 5] (by kernel_rfl)).trans (Imp.to [0, 1, 5] (by kernel_rfl))) ?_
    rintro ⟨f3, x2⟩ h
    dsimp only at h ⊢
    cases f3 with
    | zero => cases h
    | succ f3 =>
    rw [laws_eqValueSS_l0] at h
    refine pwp_seq ?_
    refine pwp_seq ?_
    refine pwp_region ?_
    refine opsP_evk' (st' := ⟨27, [(0, A a0), (1, A a1), (5, I x2), (14, B ((decide (x2 < ((a0.length : Int))))))], []⟩) τ_ok [] 4 [0, 1, 5, 14] (by kernel_rfl) ?_
    refine opsP_end rfl ?_
    refine pwp_cond ((decide (x2 < ((a0.length : Int))))) (by kernel_rfl) (fun hc5 => ?_) (fun hc5 => ?_)
    · replace h := bifT hc5 h
      refine pwp_skip ?_
      refine pwp_seq ?_
      refine pwp_block ?_
      refine pwp_seq ?_
      refine pwp_imp (Imp.to (st' := ⟨27, [(0, A a0), (1, A a1), (5, I x2)], []⟩) [0, 1, 5] (by kernel_rfl)) ?_
      refine pwp_any ([[], [], [], [], [], [], [], [], [], []]) ([[], [], [], [], [], [], [], [], [], []]) rfl (by kernel_rfl) ?_
      refine qA_ev (st' := ⟨27, [(18, I x2), (17, A a0), (0, A a0), (1, A a1), (5, I x2)], []⟩) τ_ok [] [] 2 (by exact trivial) (by kernel_rfl) ?_
      obtain ⟨v6, hv7, h⟩ := bindS h
      refine qA_E (dd := some 19) (x := .fptr (Enc.cells v6) 0) ([]) (⟨27, [(19, .fptr (Enc.cells v6) 0), (18, I x2), (17, A a0), (0, A a0), (1, A a1), (5, I x2)], []⟩) (fun Γ' hΓ => CoreE.of_y (idxV_sound τ_ok (by kernel_rfl) hv7)) (by kernel_rfl) (by kernel_rfl) (by exact trivial) (.inr (.inr rfl)) (by kernel_rfl) ?_
      refine qA_ev (st' := ⟨27, [(22, I x2), (21, A a1), (20, A v6), (19, .fptr (Enc.cells v6) 0), (18, I x2), (17, A a0), (0, A a0), (1, A a1), (5, I x2)], []⟩) τ_ok [] [] 3 (by exact trivial) (by kernel_rfl) ?_
      obtain ⟨v8, hv9, h⟩ := bindS h
      refine qA_E (dd := some 23) (x := .fptr (Enc.cells v8) 0) ([]) (⟨27, [(23, .fptr (Enc.cells v8) 0), (22, I x2), (21, A a1), (20, A v6), (19, .fptr (Enc.cells v6) 0), (18, I x2), (17, A a0), (0, A a0), (1, A a1), (5, I x2)], []⟩) (fun Γ' hΓ => CoreE.of_y (idxV_sound τ_ok (by kernel_rfl) hv9)) (by kernel_rfl) (by kernel_rfl) (by exact trivial) (.inr (.inr rfl)) (by kernel_rfl) ?_
      refine qA_ev (st' := ⟨27, [(24, A v8), (23, .fptr (Enc.cells v8) 0), (22, I x2), (21, A a1), (20, A v6), (19, .fptr (Enc.cells v6) 0), (18, I x2), (17, A a0), (0, A a0), (1, A a1), (5, I x2)], []⟩) τ_ok [] [] 1 (by exact trivial) (by kernel_rfl) ?_
      obtain ⟨v10, hv11, h⟩ := bindS h
      refine qA_E (dd := some 25) (x := B v10) ([]) (⟨27, [(25, B v10), (24, A v8), (23, .fptr (Enc.cells v8) 0), (22, I x2), (21, A a1), (20, A v6), (19, .fptr (Enc.cells v6) 0), (18, I x2), (17, A a0), (0, A a0), (1, A a1), (5, I x2)], []⟩) (fun Γ' hΓ => CoreE.of_g (callV_sound (τ := τ) (by kernel_rfl) rfl (ok_laws_eqValueS hv11) (FzTo.frz rfl))) (by kernel_rfl) (by kernel_rfl) (by exact trivial) (.inr (.inr rfl)) (by kernel_rfl) ?_
      refine qA_ev (st' := ⟨27, [(26, B ((!v10))), (25, B v10), (24, A v8), (23, .fptr (Enc.cells v8) 0), (22, I x2), (21, A a1), (20, A v6), (19, .fptr (Enc.cells v6) 0), (18, I x2), (17, A a0), (0, A a0), (1, A a1), (5, I x2)], []⟩) τ_ok [] [] 1 (by exact trivial) (by kernel_rfl) ?_
      refine qA_end ?_
      refine opsP_imp (Imp.to (st' := ⟨27, [(0, A a0), (1, A a1), (5, I x2), (26, B ((!v10)))], []⟩) [0, 1, 5, 26] (by kernel_rfl)) ?_
      refine opsP_end rfl ?_
      refine pwp_cond ((!v10)) (by kernel_rfl) (fun hc12 => ?_) (fun hc12 => ?_)
      · replace h := bifT hc12 h
        refine pwp_seq ?_
        refine pwp_region ?_
        refine opsP_evk' (st' := ⟨27, [(4, B false)], []⟩) τ_ok [] 1 [4] (by kernel_rfl) ?_
        refine opsP_end rfl ?_
        have h := Option.some.inj h
        subst h
        exact pwp_ret ⟨.inr rfl, B false, _, by kernel_rfl, (OutP.frz (by kernel_rfl)), by decide⟩
      · replace h := bifF hc12 h
        refine pwp_skip ?_
        refine pwp_region ?_
        refine opsP_evk' (st' := ⟨27, [(0, A a0), (1, A a1), (5, I ((w64 (x2 + 1))))], []⟩) τ_ok [] 3 [0, 1, 5] (by kernel_rfl) ?_
        refine opsP_end rfl ?_
        exact ⟨(f3, (w64 (x2 + 1))), h, Nat.lt_succ_self _, (Imp.to (st' := ⟨27, [(0, A a0), (1, A a1), (5, I ((w64 (x2 + 1))))], []⟩) [0, 1, 5] (by kernel_rfl)).trans (Imp.to [0, 1, 5] (by kernel_rfl))⟩
    · replace h := bifF hc5 h
      refine pwp_exit ?_
      refine pwp_seq ?_
      refine pwp_region ?_
      refine opsP_evk' (st' := ⟨27, [(4, B true)], []⟩) τ_ok [] 1 [4] (by kernel_rfl) ?_
      refine opsP_end rfl ?_
      have h := Option.some.inj h
      subst h
      exact pwp_ret ⟨.inr rfl, B true, _, by kernel_rfl, (OutP.frz (by kernel_rfl)), by decide⟩

/- loop.example/tablehouse/laws.eqPartS -/
def laws_eqPartS_l0 (a0 : List T_impl_Part) (a1 : List T_impl_Part) : Nat → Int → Option Bool
  | 0, _ => none
  | f3 + 1, x2 => bif (decide (x2 < ((a0.length : Int)))) then (getI a0 x2).bind fun v6 => (getI a1 x2).bind fun v8 => (laws_eqPart v6 v8).bind fun v10 => bif (!v10) then some false else (laws_eqPartS_l0 a0 a1 f3) ((w64 (x2 + 1))) else some true
def laws_eqPartS (a0 : List T_impl_Part) (a1 : List T_impl_Part) : Option Bool := bif (!(((a0.length : Int)) == ((a1.length : Int)))) then some false else laws_eqPartS_l0 a0 a1 FUEL 0
theorem ok_laws_eqPartS {a0 : List T_impl_Part} {a1 : List T_impl_Part} {y : Bool} (h : laws_eqPartS a0 a1 = some y) : OK Try.prog 64 [A a0, A a1] (B y) := by
  refine OK_of_pwp τ_ok Try.func64 rfl (by kernel_rfl) rfl fun Γ hX => ?_
  unfold laws_eqPartS at h
  refine pwp_seq ?_
  refine pwp_region ?_
  refine opsP_evk' (st' := ⟨27, [(0, A a0), (1, A a1)], []⟩) τ_ok [] 1 [0, 1] (by kernel_rfl) ?_
  refine opsP_end rfl ?_
  refine pwp_seq ?_
  refine pwp_seq ?_
  refine pwp_region ?_
  refine opsP_evk' (st' := ⟨27, [(0, A a0), (1, A a1), (10, B ((!(((a0.length : Int)) == ((a1.length : Int))))))], []⟩) τ_ok [] 5 [0, 1, 10] (by kernel_rfl) ?_
  refine opsP_end rfl ?_
  refine pwp_cond ((!(((a0.length : Int)) == ((a1.length : Int))))) (by kernel_rfl) (fun hc1 => ?_) (fun hc1 => ?_)
  · replace h := bifT hc1 h
    refine pwp_seq ?_
    refine pwp_region ?_
    refine opsP_evk' (st' := ⟨27, [(4, B false)], []⟩) τ_ok [] 1 [4] (by kernel_rfl) ?_
    refine opsP_end rfl ?_
    have h := Option.some.inj h
    subst h
    exact pwp_ret ⟨.inr rfl, B false, _, by kernel_rfl, (OutP.frz (by kernel_rfl)), by decide⟩
  · replace h := bifF hc1 h
    refine pwp_skip ?_
    refine pwp_seq ?_
    refine pwp_seq ?_
    refine pwp_region ?_
    refine opsP_evk' (st' := ⟨27, [(0, A a0), (1, A a1), (5, I 0)], []⟩) τ_ok [] 1 [0, 1, 5] (by kernel_rfl) ?_
    refine opsP_end rfl ?_
    refine pwp_block ?_
    refine pwp_loop (ι := Nat × Int) (fun (f3, x2) => (⟨27, [(0, A a0), (1, A a1), (5, I x2)], []⟩ : St)) (fun (f3, x2) => laws_eqPartS_l0 a0 a1 f3 x2 = some y) (fun (f3, x2) => f3) (FUEL, 0) h ((Imp.to (st' := ⟨27, [(0, A a0), (1, A a1), (5, I 0)], []⟩) [0, 1, 5] (by kernel_rfl)).trans (Imp.to [0, 1, 5] (by kernel_rfl))) ?_
    rintro ⟨f3, x2⟩ h
    dsimp only at h ⊢
    cases f3 with
    | zero => cases h
    | succ f3 =>
    rw [laws_eqPartS_l0] at h
    refine pwp_seq ?_
    refine pwp_seq ?_
    refine pwp_region ?_
    refine opsP_evk' (st' := ⟨27, [(0, A a0), (1, A a1), (5, I x2), (14, B ((decide (x2 < ((a0.length : Int))))))], []⟩) τ_ok [] 4 [0, 1, 5, 14] (by kernel_rfl) ?_
    refine opsP_end rfl ?_
    refine pwp_cond ((decide (x2 < ((a0.length : Int))))) (by kernel_rfl) (fun hc5 => ?_) (fun hc5 => ?_)
    · replace h := bifT hc5 h
      refine pwp_skip ?_
      refine pwp_seq ?_
      refine pwp_block ?_
      refine pwp_seq ?_
      refine pwp_imp (Imp.to (st' := ⟨27, [(0, A a0), (1, A a1), (5, I x2)], []⟩) [0, 1, 5] (by kernel_rfl)) ?_
      refine pwp_any ([[], [], [], [], [], [], [], [], [], []]) ([[], [], [], [], [], [], [], [], [], []]) rfl (by kernel_rfl) ?_
      refine qA_ev (st' := ⟨27, [(18, I x2), (17, A a0), (0, A a0), (1, A a1), (5, I x2)], []⟩) τ_ok [] [] 2 (by exact trivial) (by kernel_rfl) ?_
      obtain ⟨v6, hv7, h⟩ := bindS h
      refine qA_E (dd := some 19) (x := .fptr (Enc.cells v6) 0) ([]) (⟨27, [(19, .fptr (Enc.cells v6) 0), (18, I x2), (17, A a0), (0, A a0), (1, A a1), (5, I x2)], []⟩) (fun Γ' hΓ => CoreE.of_y (idxV_sound τ_ok (by kernel_rfl) hv7)) (by kernel_rfl) (by kernel_rfl) (by exact trivial) (.inr (.inr rfl)) (by kernel_rfl) ?_
      refine qA_ev (st' := ⟨27, [(22, I x2), (21, A a1), (20, E v6), (19, .fptr (Enc.cells v6) 0), (18, I x2), (17, A a0), (0, A a0), (1, A a1), (5, I x2)], []⟩) τ_ok [] [] 3 (by exact trivial) (by kernel_rfl) ?_
      obtain ⟨v8, hv9, h⟩ := bindS h
      refine qA_E (dd := some 23) (x := .fptr (Enc.cells v8) 0) ([]) (⟨27, [(23, .fptr (Enc.cells v8) 0), (22, I x2), (21, A a1), (20, E v6), (19, .fptr (Enc.cells v6) 0), (18, I x2), (17, A a0), (0, A a0), (1, A a1), (5, I x2)], []⟩) (fun Γ' hΓ => CoreE.of_y (idxV_sound τ_ok (by kernel_rfl) hv9)) (by kernel_rfl) (by kernel_rfl) (by exact trivial) (.inr (.inr rfl)) (by kernel_rfl) ?_
      refine qA_ev (st' := ⟨27, [(24, E v8), (23, .fptr (Enc.cells v8) 0), (22, I x2), (21, A a1), (20, E v6), (19, .fptr (Enc.cells v6) 0), (18, I x2), (17, A a0), (0, A a0), (1, A a1), (5, I x2)], []⟩) τ_ok [] [] 1 (by exact trivial) (by kernel_rfl) ?_
      obtain ⟨v10, hv11, h⟩ := bindS h
      refine qA_E (dd := some 25) (x := B v10) ([]) (⟨27, [(25, B v10), (24, E v8), (23, .fptr (Enc.cells v8) 0), (22, I x2), (21, A a1), (20, E v6), (19, .fptr (Enc.cells v6) 0), (18, I x2), (17, A a0), (0, A a0), (1, A a1), (5, I x2)], []⟩) (fun Γ' hΓ => CoreE.of_g (callV_sound (τ := τ) (by kernel_rfl) rfl (ok_laws_eqPart hv11) (FzTo.frz rfl))) (by kernel_rfl) (by kernel_rfl) (by exact trivial) (.inr (.inr rfl)) (by kernel_rfl) ?_
      refine qA_ev (st' := ⟨27, [(26, B ((!v10))), (25, B v10), (24, E v8), (23, .fptr (Enc.cells v8) 0), (22, I x2), (21, A a1), (20, E v6), (19, .fptr (Enc.cells v6) 0), (18, I x2), (17, A a0), (0, A a0), (1, A a1), (5, I x2)], []⟩) τ_ok [] [] 1 (by exact trivial) (by kernel_rfl) ?_
      refine qA_end ?_
      refine opsP_imp (Imp.to (st' := ⟨27, [(0, A a0), (1, A a1), (5, I x2), (26, B ((!v10)))], []⟩) [0, 1, 5, 26] (by kernel_rfl)) ?_
      refine opsP_end rfl ?_
      refine pwp_cond ((!v10)) (by kernel_rfl) (fun hc12 => ?_) (fun hc12 => ?_)
      · replace h := bifT hc12 h
        refine pwp_seq ?_
        refine pwp_region ?_
        refine opsP_evk' (st' := ⟨27, [(4, B false)], []⟩) τ_ok [] 1 [4] (by kernel_rfl) ?_
        refine opsP_end rfl ?_
        have h := Option.some.inj h
        subst h
        exact pwp_ret ⟨.inr rfl, B false, _, by kernel_rfl, (OutP.frz (by kernel_rfl)), by decide⟩
      · replace h := bifF hc12 h
        refine pwp_skip ?_
        refine pwp_region ?_
        refine opsP_evk' (st' := ⟨27, [(0, A a0), (1, A a1), (5, I ((w64 (x2 + 1))))], []⟩) τ_ok [] 3 [0, 1, 5] (by kernel_rfl) ?_
        refine opsP_end rfl ?_
        exact ⟨(f3, (w64 (x2 + 1))), h, Nat.lt_succ_self _, (Imp.to (st' := ⟨27, [(0, A a0), (1, A a1), (5, I ((w64 (x2 + 1))))], []⟩) [0, 1, 5] (by kernel_rfl)).trans (Imp.to [0, 1, 5] (by kernel_rfl))⟩
    · replace h := bifF hc5 h
      refine pwp_exit ?_
      refine pwp_seq ?_
      refine pwp_region ?_
      refine opsP_evk' (st' := ⟨27, [(4, B true)], []⟩) τ_ok [] 1 [4] (by kernel_rfl) ?_
      refine opsP_end rfl ?_
      have h := Option.some.inj h
      subst h
      exact pwp_ret ⟨.inr rfl, B true, _, by kernel_rfl, (OutP.frz (by kernel_rfl)), by decide⟩

/- loop.example/tablehouse/impl.ColumnsOk -/
def impl_ColumnsOk (a0 : List T_impl_Column) : Option Bool := bif (decide (((a0.length : Int)) ≤ 4)) then (slices_ContainsFunc_impl_Column_impl_Column a0 impl_ColumnsOk_1).bind fun v1 => some ((!v1)) else some false
theorem ok_impl_ColumnsOk {a0 : List T_impl_Column} {y : Bool} (h : impl_ColumnsOk a0 = some y) : OK Try.prog 71 [A a0] (B y) := by
  refine OK_of_pwp τ_ok Try.func71 rfl (by kernel_rfl) rfl fun Γ hX => ?_
  unfold impl_ColumnsOk at h
  refine pwp_seq ?_
  refine pwp_region ?_
  refine opsP_evk' (st' := ⟨11, [(0, A a0)], []⟩) τ_ok [] 1 [0] (by kernel_rfl) ?_
  refine opsP_end rfl ?_
  refine pwp_seq ?_
  refine pwp_region ?_
  refine opsP_evk' (st' := ⟨11, [(0, A a0), (6, B ((decide (((a0.length : Int)) ≤ 4))))], []⟩) τ_ok [] 4 [0, 6] (by kernel_rfl) ?_
  rcases Bool.eq_false_or_eq_true ((decide (((a0.length : Int)) ≤ 4))) with hc3 | hc3
  · replace h := bifT hc3 h
    rw [hc3]
    refine opsP_evk' (st' := ⟨11, [(6, B true), (7, A a0)], []⟩) τ_ok [] 1 [6, 7] (by kernel_rfl) ?_
    obtain ⟨v1, hv2, h⟩ := bindS h
    refine opsP_callF τ 8 (ok_slices_ContainsFunc_impl_Column_impl_Column (rfl) (fun _ w hw => ok_impl_ColumnsOk_1 hw) hv2) (FzTo.frz rfl) rfl (by kernel_rfl) ?_
    refine opsP_evk' (st' := ⟨11, [(2, B ((!v1)))], []⟩) τ_ok [] 3 [2] (by kernel_rfl) ?_
    refine opsP_end rfl ?_
    have h := Option.some.inj h
    subst h
    exact pwp_ret ⟨.inr rfl, B ((!v1)), _, by kernel_rfl, (OutP.frz (by kernel_rfl)), by decide⟩
  · replace h := bifF hc3 h
    rw [hc3]
    refine opsP_evk' (st' := ⟨11, [(2, B false)], []⟩) τ_ok [] 5 [2] (by kernel_rfl) ?_
    refine opsP_end rfl ?_
    have h := Option.some.inj h
    subst h
    exact pwp_ret ⟨.inr rfl, B false, _, by kernel_rfl, (OutP.frz (by kernel_rfl)), by decide⟩

/- slices.Concat[[]loop.example/tablehouse/impl.Column,loop.example/tablehouse/impl.Column] -/
def slices_Concat_impl_Column_impl_Column_l1 (a0 : List (List T_impl_Column)) : Nat → Int → (List T_impl_Column) → Option (List T_impl_Column)
  | 0, _, _ => none
  | f14 + 1, x12, x13 => bif (decide (x12 < ((a0.length : Int)))) then (getI a0 x12).bind fun v17 => (app x13 v17).bind fun v19 => (slices_Concat_impl_Column_impl_Column_l1 a0 f14) ((w64 (x12 + 1))) v19 else some x13
def slices_Concat_impl_Column_impl_Column_l0 (a0 : List (List T_impl_Column)) : Nat → Int → Int → Option (List T_impl_Column)
  | 0, _, _ => none
  | f3 + 1, x1, x2 => bif (decide (x2 < ((a0.length : Int)))) then (getI a0 x2).bind fun v6 => bif (decide (((w64 (x1 + ((v6.length : Int))))) < 0)) then none else (slices_Concat_impl_Column_impl_Column_l0 a0 f3) ((w64 (x1 + ((v6.length : Int))))) ((w64 (x2 + 1))) else (slices_Grow_impl_Column_impl_Column_n0 x1).bind fun v9 => slices_Concat_impl_Column_impl_Column_l1 a0 FUEL 0 v9
def slices_Concat_impl_Column_impl_Column (a0 : List (List T_impl_Column)) : Option (List T_impl_Column) := slices_Concat_impl_Column_impl_Column_l0 a0 FUEL 0 0
theorem ok_slices_Concat_impl_Column_impl_Column {a0 : List (List T_impl_Column)} {y : List T_impl_Column} (h : slices_Concat_impl_Column_impl_Column a0 = some y) : OK Try.prog 89 [A a0] (O y) := by
  refine OK_of_pwp τ_ok Try.func89 rfl (by kernel_rfl) rfl fun Γ hX => ?_
  unfold slices_Concat_impl_Column_impl_Column at h
  refine pwp_seq ?_
  refine pwp_region ?_
  refine opsP_evk' (st' := ⟨36, [(0, A a0)], []⟩) τ_ok [] 1 [0] (by kernel_rfl) ?_
  refine opsP_end rfl ?_
  refine pwp_seq ?_
  refine pwp_region ?_
  refine opsP_evk' (st' := ⟨36, [(0, A a0), (3, I 0)], []⟩) τ_ok [] 1 [0, 3] (by kernel_rfl) ?_
  refine opsP_end rfl ?_
  refine pwp_seq ?_
  refine pwp_seq ?_
  refine pwp_region ?_
  refine opsP_evk' (st' := ⟨36, [(0, A a0), (3, I 0), (9, A a0), (10, I ((a0.length : Int))), (11, I 0)], []⟩) τ_ok [] 3 [0, 3, 9, 10, 11] (by kernel_rfl) ?_
  refine opsP_end rfl ?_
  refine pwp_block ?_
  refine pwp_loop (ι := Nat × Int × Int) (fun (f3, x1, x2) => (⟨36, [(0, A a0), (3, I x1), (9, A a0), (10, I ((a0.length : Int))), (11, I x2)], []⟩ : St)) (fun (f3, x1, x2) => slices_Concat_impl_Column_impl_Column_l0 a0 f3 x1 x2 = some y) (fun (f3, x1, x2) => f3) (FUEL, 0, 0) h ((Imp.to (st' := ⟨36, [(0, A a0), (3, I 0), (9, A a0), (10, I ((a0.length : Int))), (11, I 0)], []⟩) [0, 3, 9, 10, 11] (by kernel_rfl)).trans (Imp.to [0, 3, 9, 10, 11] (by kernel_rfl))) ?_
  rintro ⟨f3, x1, x2⟩ h
  dsimp only at h ⊢
  cases f3 with
  | zero => cases h
  | succ f3 =>
  rw [slices_Concat_impl_Column_impl_Column_l0] at h
  refine pwp_seq ?_
  refine pwp_region ?_
  refine opsP_evk' (st' := ⟨36, [(0, A a0), (3, I x1), (9, A a0), (10, I ((a0.length : Int))), (11, I x2), (12, B ((decide (x2 < ((a0.length : Int))))))], []⟩) τ_ok [] 1 [0, 3, 9, 10, 11, 12] (by kernel_rfl) ?_
  refine opsP_end rfl ?_
  refine pwp_seq ?_
  refine pwp_cond ((decide (x2 < ((a0.length : Int))))) (by kernel_rfl) (fun hc5 => ?_) (fun hc5 => ?_)
  · replace h := bifT hc5 h
    refine pwp_skip ?_
    refine pwp_seq ?_
    refine pwp_block ?_
    refine pwp_seq ?_
    refine pwp_region ?_
    obtain ⟨v6, hv7, h⟩ := bindS h
    refine opsP_idx τ_ok 13 hv7 (by kernel_rfl) ?_
    refine opsP_evk' (st' := ⟨36, [(0, A a0), (3, I x1), (5, A v6), (9, A a0), (10, I ((a0.length : Int))), (11, I x2)], []⟩) τ_ok [] 2 [0, 3, 5, 9, 10, 11] (by kernel_rfl) ?_
    refine opsP_end rfl ?_
    refine pwp_seq ?_
    refine pwp_region ?_
    refine opsP_evk' (st' := ⟨36, [(0, A a0), (3, I ((w64 (x1 + ((v6.length : Int)))))), (9, A a0), (10, I ((a0.length : Int))), (11, I x2)], []⟩) τ_ok [] 5 [0, 3, 9, 10, 11] (by kernel_rfl) ?_
    refine opsP_end rfl ?_
    refine pwp_seq ?_
    refine pwp_region ?_
    refine opsP_evk' (st' := ⟨36, [(0, A a0), (3, I ((w64 (x1 + ((v6.length : Int)))))), (9, A a0), (10, I ((a0.length : Int))), (11, I x2), (20, B ((decide (((w64 (x1 + ((v6.length : Int))))) < 0))))], []⟩) τ_ok [] 2 [0, 3, 9, 10, 11, 20] (by kernel_rfl) ?_
    refine opsP_end rfl ?_
    refine pwp_cond ((decide (((w64 (x1 + ((v6.length : Int))))) < 0))) (by kernel_rfl) (fun hc8 => ?_) (fun hc8 => ?_)
    · replace h := bifT hc8 h
      cases h
    · replace h := bifF hc8 h
      refine pwp_skip ?_
      refine pwp_region ?_
      refine opsP_evk' (st' := ⟨36, [(0, A a0), (3, I ((w64 (x1 + ((v6.length : Int)))))), (9, A a0), (10, I ((a0.length : Int))), (11, I ((w64 (x2 + 1))))], []⟩) τ_ok [] 2 [0, 3, 9, 10, 11] (by kernel_rfl) ?_
      refine opsP_end rfl ?_
      exact ⟨(f3, (w64 (x1 + ((v6.length : Int)))), (w64 (x2 + 1))), h, Nat.lt_succ_self _, (Imp.to (st' := ⟨36, [(0, A a0), (3, I ((w64 (x1 + ((v6.length : Int)))))), (9, A a0), (10, I ((a0.length : Int))), (11, I ((w64 (x2 + 1))))], []⟩) [0, 3, 9, 10, 11] (by kernel_rfl)).trans (Imp.to [0, 3, 9, 10, 11] (by kernel_rfl))⟩
  · replace h := bifF hc5 h
    refine pwp_exit ?_
    refine pwp_seq ?_
    refine pwp_region ?_
    refine opsP_evk' (st' := ⟨36, [(0, A a0), (23, I x1)], []⟩) τ_ok [] 1 [0, 23] (by kernel_rfl) ?_
    obtain ⟨v9, hv10, h⟩ := bindS h
    refine opsP_callH τ 24 (ok_slices_Grow_impl_Column_impl_Column_n0 hv10) rfl (by kernel_rfl) ?_
    refine opsP_evk' (st' := ⟨36, [(0, A a0), (6, .ref 0 0 0 2 v9.length false)], [some ⟨0, eL v9⟩]⟩) τ_ok [] 1 [0, 6] (by kernel_rfl) ?_
    refine opsP_end rfl ?_
    refine pwp_seq ?_
    refine pwp_seq ?_
    refine pwp_region ?_
    refine opsP_evk' (st' := ⟨36, [(6, .ref 0 0 0 2 v9.length false), (25, A a0), (26, I ((a0.length : Int))), (27, I 0)], [some ⟨0, eL v9⟩]⟩) τ_ok [] 3 [6, 25, 26, 27] (by kernel_rfl) ?_
    refine opsP_end rfl ?_
    refine pwp_block ?_
    refine pwp_loop (ι := Nat × Int × (List T_impl_Column)) (fun (f14, x12, x13) => (⟨36, [(6, .ref 0 0 0 2 x13.length false), (25, A a0), (26, I ((a0.length : Int))), (27, I x12)], [some ⟨0, eL x13⟩]⟩ : St)) (fun (f14, x12, x13) => slices_Concat_impl_Column_impl_Column_l1 a0 f14 x12 x13 = some y) (fun (f14, x12, x13) => f14) (FUEL, 0, v9) h ((Imp.to (st' := ⟨36, [(6, .ref 0 0 0 2 v9.length false), (25, A a0), (26, I ((a0.length : Int))), (27, I 0)], [some ⟨0, eL v9⟩]⟩) [6, 25, 26, 27] (by kernel_rfl)).trans (Imp.to [6, 25, 26, 27] (by kernel_rfl))) ?_
    rintro ⟨f14, x12, x13⟩ h
    dsimp only at h ⊢
    cases f14 with
    | zero => cases h
    | succ f14 =>
    rw [slices_Concat_impl_Column_impl_Column_l1] at h
    refine pwp_seq ?_
    refine pwp_region ?_
    refine opsP_evk' (st' := ⟨36, [(6, .ref 0 0 0 2 x13.length false), (25, A a0), (26, I ((a0.length : Int))), (27, I x12), (28, B ((decide (x12 < ((a0.length : Int))))))], [some ⟨0, eL x13⟩]⟩) τ_ok [] 1 [6, 25, 26, 27, 28] (by kernel_rfl) ?_
    refine opsP_end rfl ?_
    refine pwp_seq ?_
    refine pwp_cond ((decide (x12 < ((a0.length : Int))))) (by kernel_rfl) (fun hc16 => ?_) (fun hc16 => ?_)
    · replace h := bifT hc16 h
      refine pwp_skip ?_
      refine pwp_seq ?_
      refine pwp_block ?_
      refine pwp_seq ?_
      refine pwp_region ?_
      obtain ⟨v17, hv18, h⟩ := bindS h
      refine opsP_idx τ_ok 29 hv18 (by kernel_rfl) ?_
      refine opsP_evk' (st' := ⟨36, [(6, .ref 0 0 0 2 x13.length false), (8, A v17), (25, A a0), (26, I ((a0.length : Int))), (27, I x12)], [some ⟨0, eL x13⟩]⟩) τ_ok [] 2 [6, 8, 25, 26, 27] (by kernel_rfl) ?_
      refine opsP_end rfl ?_
      refine pwp_region ?_
      refine opsP_evk' (st' := ⟨36, [(25, A a0), (26, I ((a0.length : Int))), (27, I x12), (31, .ref 0 0 0 2 x13.length false), (32, A v17)], [some ⟨0, eL x13⟩]⟩) τ_ok [] 2 [25, 26, 27, 31, 32] (by kernel_rfl) ?_
      obtain ⟨v19, hv20, h⟩ := bindS h
      refine opsP_app τ_ok 33 0 0 (fun b hb => absurd hb (hX b)) hv20 (by kernel_rfl) ?_
      refine opsP_evk' (st' := ⟨36, [(6, .ref 0 1 0 2 v19.length false), (25, A a0), (26, I ((a0.length : Int))), (27, I x12)], [some ⟨1, eL v19⟩]⟩) τ_ok [] 1 [6, 25, 26, 27] (by kernel_rfl) ?_
      refine opsP_end rfl ?_
      refine pwp_region ?_
      refine opsP_evk' (st' := ⟨36, [(6, .ref 0 1 0 2 v19.length false), (25, A a0), (26, I ((a0.length : Int))), (27, I ((w64 (x12 + 1))))], [some ⟨1, eL v19⟩]⟩) τ_ok [] 2 [6, 25, 26, 27] (by kernel_rfl) ?_
      refine opsP_end rfl ?_
      exact ⟨(f14, (w64 (x12 + 1)), v19), h, Nat.lt_succ_self _, (Imp.to (st' := ⟨36, [(6, .ref 0 1 0 2 v19.length false), (25, A a0), (26, I ((a0.length : Int))), (27, I ((w64 (x12 + 1))))], [some ⟨1, eL v19⟩]⟩) [6, 25, 26, 27] (by kernel_rfl)).trans ((Imp.reverS (st' := ⟨36, [(6, .ref 0 0 0 2 v19.length false), (25, A a0), (26, I ((a0.length : Int))), (27, I ((w64 (x12 + 1))))], [some ⟨0, eL v19⟩]⟩) 0 1 (eL v19) [6, 25, 26, 27] (by kernel_rfl) (by exact (And.intro (eL_frz _) trivial)) (by kernel_rfl)).trans (Imp.to [6, 25, 26, 27] (by kernel_rfl)))⟩
    · replace h := bifF hc16 h
      refine pwp_exit ?_
      refine pwp_seq ?_
      refine pwp_region ?_
      refine opsP_evk' (st' := ⟨36, [(2, .ref 0 0 0 2 x13.length false)], [some ⟨0, eL x13⟩]⟩) τ_ok [] 2 [2] (by kernel_rfl) ?_
      refine opsP_end rfl ?_
      have h := Option.some.inj h
      subst h
      exact pwp_ret ⟨.inr rfl, .ref 0 0 0 2 x13.length false, _, by kernel_rfl, (OutP.list (v := 0) (by kernel_rfl)), by decide⟩

end Go.D
