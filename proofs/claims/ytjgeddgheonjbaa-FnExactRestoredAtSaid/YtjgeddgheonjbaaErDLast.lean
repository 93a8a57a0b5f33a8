/- For every input 'FnExactRestoredAt' returns true, and its arguments read behind the call as they read before. No condition. -/
import Derived.Test.YtjgeddgheonjbaaRows
import Derived.Test.YtjgeddgheonjbaaErMA
import Derived.WalkKit
import Derived.ProofKit
namespace Go.Proofs.Ytjgeddgheonjbaa.fnExactRestoredAt
open Go.ChangeShapes Go.WideShapes Go.ChangeAt Go.RowKit Go.D

theorem own : ownKnob Try.prog.godebug = none := by kernel_rfl
theorem kids : Kids Try.prog (· < Try.prog.types.size) := kids_rows (by kernel_rfl) (by kernel_rfl)
theorem full : ∀ t e, t < Try.prog.types.size → Try.prog.underlying t = some (.slice e) → 0 < Try.prog.cellsOf e := slices_full_of Try.prog (by kernel_rfl)
theorem small : ∀ t ∈ Try.f9.params.toList, t < Try.prog.types.size := by
  rw [Try.params9]
  intro t ht
  have h : ([58, 39, 3] : List Nat).all (fun t => decide (t < Try.prog.types.size)) = true := by kernel_rfl
  exact of_decide_eq_true (List.all_eq_true.1 h t ht)

theorem frl_agg {α : Type} [Enc α] {w : World} {M : Nat → Prop} {y : α} {cs : Array Value} (ha : Enc.agg α = true) (h : FrL w M (Enc.cells y) cs.toList) : FrL w M [E y] [.agg cs] := by
  simp only [FrL, E, ha, cond_true, Fr]
  exact ⟨_, _, rfl, ⟨cs.toList, by simp, h⟩, rfl⟩

set_option maxRecDepth 100000 in
theorem lifted (os : Os) (started : os.Started) (H : Type) (enc : TypeId × Value → H) :
    ReturnsInHanded {} Try.checked os 9 .any (Rows.fnExactRestoredAtSpec.pre6 enc Try.prog Try.f9 Rows.fnExactRestoredAtRow.domain false) (Rows.fnExactRestoredAtSpec.post enc Try.prog Try.f9 false true false false) := by
  refine returnsInHanded_of_change (C := Try.checked) own started (by kernel_rfl) Try.func9
    (ChangeSpec.witness6 (enc := enc) (C := Try.checked) false ⟨#[], #[.agg #[.int .i64 0, .slice none 0 0], .slice none 0 0, .int .i64 0], []⟩ 8 (by kernel_rfl) (by kernel_rfl) (by kernel_rfl) (by kernel_rfl)) ?_
  intro W base args ds gs before hval0 hW hcnd _
  have hval : ∀ (j : Nat) t v, Try.f9.params[j]? = some t → args[j]? = some v → Value.okWide Try.prog W .any base t v := hval0
  clear hval0
  refine contract_of kids full small rfl rfl Try.underlying4 (n := 3) (by rw [Try.params9]; rfl) (fun ds h => ?_) (fun p hA => ?_) hW
  · match ds, h with
    | [d0, d1, d2], _ => rfl
  · rw [Try.params9] at hA hval
    obtain ⟨v0, vs0, d0, ds0, p0, q0, hargs, rfl, rfl, ⟨n0, h0⟩, r0⟩ := trodAll_cons hA
    obtain ⟨v1, vs1, d1, ds1, p1, q1, rfl, rfl, rfl, ⟨n1, h1⟩, r1⟩ := trodAll_cons r0
    obtain ⟨v2, vs2, d2, ds2, p2, q2, rfl, rfl, rfl, ⟨n2, h2⟩, r2⟩ := trodAll_cons r1
    obtain ⟨rfl, rfl, rfl⟩ := trodAll_nil r2
    obtain rfl : args = #[v0, v1, v2] := by cases args; simp_all
    obtain ⟨c0, rfl, _⟩ := okWide_struct Try.underlying58 (hval 0 58 v0 rfl rfl)
    obtain ⟨y0, g0, w0⟩ := rd_58.2 H enc W 0 _ _ n0 _ _ h0
    have f0 := frl_agg (y := y0) (cs := c0) rfl g0
    obtain ⟨_, _, _, rfl⟩ := okWide_slice Try.underlying39 (hval 1 39 v1 rfl rfl)
    obtain ⟨y1, f1, w1⟩ := rd_39.2 H enc W 0 _ _ n1 _ _ h1
    obtain ⟨_, rfl⟩ := okWide_int Try.underlying3 (hval 2 3 v2 rfl rfl)
    obtain ⟨y2, f2, w2⟩ := rd_3.2 H enc W 0 _ _ n2 _ _ h2
    refine ⟨[E y0, A y1, I y2], ?_, ok_laws_FnExactRestoredAt (law_restored w0 w1 w2)⟩
    exact FrL.append f0 (FrL.append f1 (f2))

theorem over : Rows.fnExactRestoredAtRow.holds Try.pinned (OpenSpec.ofChange Rows.fnExactRestoredAtSpec) :=
  OpenClaim.holds_of_wide 9 Try.f9 rfl rfl rfl rfl rfl rfl rfl ⟨rfl, rfl, rfl, rfl, rfl⟩ rfl rfl rfl rfl rfl (by kernel_rfl) Try.func9 (by kernel_rfl)
    (of_decide_eq_true (by kernel_rfl)) (by unfold Func.isWrapper; first | (rw [if_pos (by decide +kernel)]; kernel_rfl) | (rw [if_neg (by decide +kernel)]; exact ⟨rfl, rfl⟩))
    (fun os started H enc _ => lifted os started H enc)

/-- THE STATEMENT -/
theorem proved : Rows.FnExactRestoredAtSaid := over
#print axioms proved
end Go.Proofs.Ytjgeddgheonjbaa.fnExactRestoredAt
