/- For every input 'FnExactBatchValues' returns true, and its arguments read behind the call as they read before. No condition. -/
import Derived.Test.YtpkclpjdpanekaaGreatRows
import Derived.Test.YtpkclpjdpanekaaGreatBatMA
import Derived.WalkKit
import Derived.ProofKit
namespace Go.Proofs.YtpkclpjdpanekaaGreat.fnExactBatchValues
open Go.ChangeShapes Go.WideShapes Go.ChangeAt Go.RowKit Go.D

theorem own : ownKnob Tryz.prog.godebug = none := by kernel_rfl
theorem kids : Kids Tryz.prog (· < Tryz.prog.types.size) := kids_rows (by kernel_rfl) (by kernel_rfl)
theorem full : ∀ t e, t < Tryz.prog.types.size → Tryz.prog.underlying t = some (.slice e) → 0 < Tryz.prog.cellsOf e := slices_full_of Tryz.prog (by kernel_rfl)
theorem small : ∀ t ∈ Tryz.f4.params.toList, t < Tryz.prog.types.size := by
  rw [Tryz.params4]
  intro t ht
  have h : ([49, 53, 54] : List Nat).all (fun t => decide (t < Tryz.prog.types.size)) = true := by kernel_rfl
  exact of_decide_eq_true (List.all_eq_true.1 h t ht)

theorem frl_agg {α : Type} [Enc α] {w : World} {M : Nat → Prop} {y : α} {cs : Array Value} (ha : Enc.agg α = true) (h : FrL w M (Enc.cells y) cs.toList) : FrL w M [E y] [.agg cs] := by
  simp only [FrL, E, ha, cond_true, Fr]
  exact ⟨_, _, rfl, ⟨cs.toList, by simp, h⟩, rfl⟩

set_option maxRecDepth 100000 in
theorem lifted (os : Os) (started : os.Started) (H : Type) (enc : TypeId × Value → H) :
    ReturnsInHanded {} Tryz.checked os 4 .any (Rows.fnExactBatchValuesSpec.pre6 enc Tryz.prog Tryz.f4 Rows.fnExactBatchValuesRow.domain false) (Rows.fnExactBatchValuesSpec.post enc Tryz.prog Tryz.f4 false true false false) := by
  refine returnsInHanded_of_change (C := Tryz.checked) own started (by kernel_rfl) Tryz.func4
    (ChangeSpec.witness6 (enc := enc) (C := Tryz.checked) false ⟨#[], #[.slice none 0 0, .agg #[.slice none 0 0, .slice none 0 0], .slice none 0 0], []⟩ 8 (by kernel_rfl) (by kernel_rfl) (by kernel_rfl) (by kernel_rfl)) ?_
  intro W base args ds gs before hval0 hW hcnd _
  have hval : ∀ (j : Nat) t v, Tryz.f4.params[j]? = some t → args[j]? = some v → Value.okWide Tryz.prog W .any base t v := hval0
  clear hval0
  refine contract_of kids full small rfl rfl Tryz.underlying4 (n := 3) (by rw [Tryz.params4]; rfl) (fun ds h => ?_) (fun p hA => ?_) hW
  · match ds, h with
    | [d0, d1, d2], _ => rfl
  · rw [Tryz.params4] at hA hval
    obtain ⟨v0, vs0, d0, ds0, p0, q0, hargs, rfl, rfl, ⟨n0, h0⟩, r0⟩ := trodAll_cons hA
    obtain ⟨v1, vs1, d1, ds1, p1, q1, rfl, rfl, rfl, ⟨n1, h1⟩, r1⟩ := trodAll_cons r0
    obtain ⟨v2, vs2, d2, ds2, p2, q2, rfl, rfl, rfl, ⟨n2, h2⟩, r2⟩ := trodAll_cons r1
    obtain ⟨rfl, rfl, rfl⟩ := trodAll_nil r2
    obtain rfl : args = #[v0, v1, v2] := by cases args; simp_all
    obtain ⟨_, _, _, rfl⟩ := okWide_slice Tryz.underlying49 (hval 0 49 v0 rfl rfl)
    obtain ⟨y0, f0, w0⟩ := rd_49.2 H enc W 0 _ _ n0 _ _ h0
    obtain ⟨c1, rfl, _⟩ := okWide_struct Tryz.underlying53 (hval 1 53 v1 rfl rfl)
    obtain ⟨y1, g1, w1⟩ := rd_53.2 H enc W 0 _ _ n1 _ _ h1
    have f1 := frl_agg (y := y1) (cs := c1) rfl g1
    obtain ⟨_, _, _, rfl⟩ := okWide_slice Tryz.underlying54 (hval 2 54 v2 rfl rfl)
    obtain ⟨y2, f2, w2⟩ := rd_54.2 H enc W 0 _ _ n2 _ _ h2
    refine ⟨[A y0, E y1, A y2], ?_, ok_laws_FnExactBatchValues (law_batchValues w0 w1 w2)⟩
    exact FrL.append f0 (FrL.append f1 (f2))

theorem over : Rows.fnExactBatchValuesRow.holds Tryz.pinned (OpenSpec.ofChange Rows.fnExactBatchValuesSpec) :=
  OpenClaim.holds_of_wide 4 Tryz.f4 rfl rfl rfl rfl rfl rfl rfl ⟨rfl, rfl, rfl, rfl, rfl⟩ rfl rfl rfl rfl rfl (by kernel_rfl) Tryz.func4 (by kernel_rfl)
    (of_decide_eq_true (by kernel_rfl)) (by unfold Func.isWrapper; first | (rw [if_pos (by decide +kernel)]; kernel_rfl) | (rw [if_neg (by decide +kernel)]; exact ⟨rfl, rfl⟩))
    (fun os started H enc _ => lifted os started H enc)

/-- THE STATEMENT -/
theorem proved : Rows.FnExactBatchValuesSaid := over
#print axioms proved
end Go.Proofs.YtpkclpjdpanekaaGreat.fnExactBatchValues
