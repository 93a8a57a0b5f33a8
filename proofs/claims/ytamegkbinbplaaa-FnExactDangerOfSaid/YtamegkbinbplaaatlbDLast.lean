/- For every input 'FnExactDangerOf' returns true, and its arguments read behind the call as they read before. No condition. -/
import Derived.Test.YtamegkbinbplaaaRows
import Derived.Test.YtamegkbinbplaaatlbMA
import Derived.WalkKit
import Derived.ProofKit
namespace Go.Proofs.Ytamegkbinbplaaa.fnExactDangerOf
open Go.ChangeShapes Go.WideShapes Go.ChangeAt Go.RowKit Go.D

theorem own : ownKnob Try.prog.godebug = none := by kernel_rfl
theorem kids : Kids Try.prog (· < Try.prog.types.size) := kids_rows (by kernel_rfl) (by kernel_rfl)
theorem full : ∀ t e, t < Try.prog.types.size → Try.prog.underlying t = some (.slice e) → 0 < Try.prog.cellsOf e := slices_full_of Try.prog (by kernel_rfl)
theorem small : ∀ t ∈ Try.f5.params.toList, t < Try.prog.types.size := by
  rw [Try.params5]
  intro t ht
  have h : ([25] : List Nat).all (fun t => decide (t < Try.prog.types.size)) = true := by kernel_rfl
  exact of_decide_eq_true (List.all_eq_true.1 h t ht)

theorem frl_agg {α : Type} [Enc α] {w : World} {M : Nat → Prop} {y : α} {cs : Array Value} (ha : Enc.agg α = true) (h : FrL w M (Enc.cells y) cs.toList) : FrL w M [E y] [.agg cs] := by
  simp only [FrL, E, ha, cond_true, Fr]
  exact ⟨_, _, rfl, ⟨cs.toList, by simp, h⟩, rfl⟩

set_option maxRecDepth 100000 in
theorem lifted (os : Os) (started : os.Started) (H : Type) (enc : TypeId × Value → H) :
    ReturnsInHanded {} Try.checked os 5 .any (Rows.fnExactDangerOfSpec.pre6 enc Try.prog Try.f5 Rows.fnExactDangerOfRow.domain false) (Rows.fnExactDangerOfSpec.post enc Try.prog Try.f5 false true false false) := by
  refine returnsInHanded_of_change (C := Try.checked) own started (by kernel_rfl) Try.func5
    (ChangeSpec.witness6 (enc := enc) (C := Try.checked) false ⟨#[], #[.agg #[.slice none 0 0, .int .i64 0, .slice none 0 0]], []⟩ 8 (by kernel_rfl) (by kernel_rfl) (by kernel_rfl) (by kernel_rfl)) ?_
  intro W base args ds gs before hval0 hW hcnd _
  have hval : ∀ (j : Nat) t v, Try.f5.params[j]? = some t → args[j]? = some v → Value.okWide Try.prog W .any base t v := hval0
  clear hval0
  refine contract_of kids full small rfl rfl Try.underlying4 (n := 1) (by rw [Try.params5]; rfl) (fun ds h => ?_) (fun p hA => ?_) hW
  · match ds, h with
    | [d0], _ => rfl
  · rw [Try.params5] at hA hval
    obtain ⟨v0, vs0, d0, ds0, p0, q0, hargs, rfl, rfl, ⟨n0, h0⟩, r0⟩ := trodAll_cons hA
    obtain ⟨rfl, rfl, rfl⟩ := trodAll_nil r0
    obtain rfl : args = #[v0] := by cases args; simp_all
    obtain ⟨c0, rfl, _⟩ := okWide_struct Try.underlying25 (hval 0 25 v0 rfl rfl)
    obtain ⟨y0, g0, w0⟩ := rd_25.2 H enc W 0 _ _ n0 _ _ h0
    have f0 := frl_agg (y := y0) (cs := c0) rfl g0
    refine ⟨[E y0], ?_, ok_laws_FnExactDangerOf (law_exDanger w0)⟩
    exact f0

theorem over : Rows.fnExactDangerOfRow.holds Try.pinned (OpenSpec.ofChange Rows.fnExactDangerOfSpec) :=
  OpenClaim.holds_of_wide 5 Try.f5 rfl rfl rfl rfl rfl rfl rfl ⟨rfl, rfl, rfl, rfl, rfl⟩ rfl rfl rfl rfl rfl (by kernel_rfl) Try.func5 (by kernel_rfl)
    (of_decide_eq_true (by kernel_rfl)) (by unfold Func.isWrapper; first | (rw [if_pos (by decide +kernel)]; kernel_rfl) | (rw [if_neg (by decide +kernel)]; exact ⟨rfl, rfl⟩))
    (fun os started H enc _ => lifted os started H enc)

/-- THE STATEMENT -/
theorem proved : Rows.FnExactDangerOfSaid := over
#print axioms proved
end Go.Proofs.Ytamegkbinbplaaa.fnExactDangerOf
