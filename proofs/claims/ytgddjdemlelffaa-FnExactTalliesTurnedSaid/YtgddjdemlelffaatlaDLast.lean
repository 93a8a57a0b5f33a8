/- For every input 'FnExactTalliesTurned' returns true, and its arguments read behind the call as they read before. No condition. -/
import Derived.Test.YtgddjdemlelffaaRows
import Derived.Test.YtgddjdemlelffaatlaMA
import Derived.WalkKit
import Derived.ProofKit
namespace Go.Proofs.Ytgddjdemlelffaa.fnExactTalliesTurned
open Go.ChangeShapes Go.WideShapes Go.ChangeAt Go.RowKit Go.D

theorem own : ownKnob Try.prog.godebug = none := by kernel_rfl
theorem kids : Kids Try.prog (· < Try.prog.types.size) := kids_rows (by kernel_rfl) (by kernel_rfl)
theorem full : ∀ t e, t < Try.prog.types.size → Try.prog.underlying t = some (.slice e) → 0 < Try.prog.cellsOf e := slices_full_of Try.prog (by kernel_rfl)
theorem small : ∀ t ∈ Try.f6.params.toList, t < Try.prog.types.size := by
  rw [Try.params6]
  intro t ht
  have h : ([47, 48] : List Nat).all (fun t => decide (t < Try.prog.types.size)) = true := by kernel_rfl
  exact of_decide_eq_true (List.all_eq_true.1 h t ht)

set_option maxRecDepth 100000 in
theorem lifted (os : Os) (started : os.Started) (H : Type) (enc : TypeId × Value → H) :
    ReturnsInHanded {} Try.checked os 6 .any (Rows.fnExactTalliesTurnedSpec.pre6 enc Try.prog Try.f6 Rows.fnExactTalliesTurnedRow.domain false) (Rows.fnExactTalliesTurnedSpec.post enc Try.prog Try.f6 false true false false) := by
  refine returnsInHanded_of_change (C := Try.checked) own started (by kernel_rfl) Try.func6
    (ChangeSpec.witness6 (enc := enc) (C := Try.checked) false ⟨#[], #[.slice none 0 0, .slice none 0 0], []⟩ 8 (by kernel_rfl) (by kernel_rfl) (by kernel_rfl) (by kernel_rfl)) ?_
  intro W base args ds gs before hval0 hW hcnd _
  have hval : ∀ (j : Nat) t v, Try.f6.params[j]? = some t → args[j]? = some v → Value.okWide Try.prog W .any base t v := hval0
  clear hval0
  refine contract_of kids full small rfl rfl Try.underlying4 (n := 2) (by rw [Try.params6]; rfl) (fun ds h => ?_) (fun p hA => ?_) hW
  · match ds, h with
    | [d0, d1], _ => rfl
  · rw [Try.params6] at hA hval
    obtain ⟨v0, vs0, d0, ds0, p0, q0, hargs, rfl, rfl, ⟨n0, h0⟩, r0⟩ := trodAll_cons hA
    obtain ⟨v1, vs1, d1, ds1, p1, q1, rfl, rfl, rfl, ⟨n1, h1⟩, r1⟩ := trodAll_cons r0
    obtain ⟨rfl, rfl, rfl⟩ := trodAll_nil r1
    obtain rfl : args = #[v0, v1] := by cases args; simp_all
    obtain ⟨_, _, _, rfl⟩ := okWide_slice Try.underlying47 (hval 0 47 v0 rfl rfl)
    obtain ⟨y0, f0, w0⟩ := rd_47.2 H enc W 0 _ _ n0 _ _ h0
    obtain ⟨_, _, _, rfl⟩ := okWide_slice Try.underlying48 (hval 1 48 v1 rfl rfl)
    obtain ⟨y1, f1, w1⟩ := rd_48.2 H enc W 0 _ _ n1 _ _ h1
    refine ⟨[A y0, A y1], ?_, ok_laws_FnExactTalliesTurned (law_exTally w0 w1)⟩
    exact FrL.append f0 f1

theorem over : Rows.fnExactTalliesTurnedRow.holds Try.pinned (OpenSpec.ofChange Rows.fnExactTalliesTurnedSpec) :=
  OpenClaim.holds_of_wide 6 Try.f6 rfl rfl rfl rfl rfl rfl rfl ⟨rfl, rfl, rfl, rfl, rfl⟩ rfl rfl rfl rfl rfl (by kernel_rfl) Try.func6 (by kernel_rfl)
    (of_decide_eq_true (by kernel_rfl)) (by unfold Func.isWrapper; first | (rw [if_pos (by decide +kernel)]; kernel_rfl) | (rw [if_neg (by decide +kernel)]; exact ⟨rfl, rfl⟩))
    (fun os started H enc _ => lifted os started H enc)

/-- THE STATEMENT -/
theorem proved : Rows.FnExactTalliesTurnedSaid := over
#print axioms proved
end Go.Proofs.Ytgddjdemlelffaa.fnExactTalliesTurned
