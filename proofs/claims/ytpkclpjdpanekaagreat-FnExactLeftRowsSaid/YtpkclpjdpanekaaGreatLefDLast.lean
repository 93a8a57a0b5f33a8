/- For every input 'FnExactLeftRows' returns true, and its arguments read behind the call as they read before. No condition. -/
import Derived.Test.YtpkclpjdpanekaaGreatRows
import Derived.Test.YtpkclpjdpanekaaGreatLefMA
import Derived.WalkKit
import Derived.ProofKit
namespace Go.Proofs.YtpkclpjdpanekaaGreat.fnExactLeftRows
open Go.ChangeShapes Go.WideShapes Go.ChangeAt Go.RowKit Go.D

theorem own : ownKnob Tryz.prog.godebug = none := by kernel_rfl
theorem kids : Kids Tryz.prog (· < Tryz.prog.types.size) := kids_rows (by kernel_rfl) (by kernel_rfl)
theorem full : ∀ t e, t < Tryz.prog.types.size → Tryz.prog.underlying t = some (.slice e) → 0 < Tryz.prog.cellsOf e := slices_full_of Tryz.prog (by kernel_rfl)
theorem small : ∀ t ∈ Tryz.f8.params.toList, t < Tryz.prog.types.size := by
  rw [Tryz.params8]
  intro t ht
  have h : ([49, 49, 50, 50, 54] : List Nat).all (fun t => decide (t < Tryz.prog.types.size)) = true := by kernel_rfl
  exact of_decide_eq_true (List.all_eq_true.1 h t ht)

set_option maxRecDepth 100000 in
theorem lifted (os : Os) (started : os.Started) (H : Type) (enc : TypeId × Value → H) :
    ReturnsInHanded {} Tryz.checked os 8 .any (Rows.fnExactLeftRowsSpec.pre6 enc Tryz.prog Tryz.f8 Rows.fnExactLeftRowsRow.domain false) (Rows.fnExactLeftRowsSpec.post enc Tryz.prog Tryz.f8 false true false false) := by
  refine returnsInHanded_of_change (C := Tryz.checked) own started (by kernel_rfl) Tryz.func8
    (ChangeSpec.witness6 (enc := enc) (C := Tryz.checked) false ⟨#[], #[.slice none 0 0, .slice none 0 0, .slice none 0 0, .slice none 0 0, .slice none 0 0], []⟩ 8 (by kernel_rfl) (by kernel_rfl) (by kernel_rfl) (by kernel_rfl)) ?_
  intro W base args ds gs before hval0 hW hcnd _
  have hval : ∀ (j : Nat) t v, Tryz.f8.params[j]? = some t → args[j]? = some v → Value.okWide Tryz.prog W .any base t v := hval0
  clear hval0
  refine contract_of kids full small rfl rfl Tryz.underlying4 (n := 5) (by rw [Tryz.params8]; rfl) (fun ds h => ?_) (fun p hA => ?_) hW
  · match ds, h with
    | [d0, d1, d2, d3, d4], _ => rfl
  · rw [Tryz.params8] at hA hval
    obtain ⟨v0, vs0, d0, ds0, p0, q0, hargs, rfl, rfl, ⟨n0, h0⟩, r0⟩ := trodAll_cons hA
    obtain ⟨v1, vs1, d1, ds1, p1, q1, rfl, rfl, rfl, ⟨n1, h1⟩, r1⟩ := trodAll_cons r0
    obtain ⟨v2, vs2, d2, ds2, p2, q2, rfl, rfl, rfl, ⟨n2, h2⟩, r2⟩ := trodAll_cons r1
    obtain ⟨v3, vs3, d3, ds3, p3, q3, rfl, rfl, rfl, ⟨n3, h3⟩, r3⟩ := trodAll_cons r2
    obtain ⟨v4, vs4, d4, ds4, p4, q4, rfl, rfl, rfl, ⟨n4, h4⟩, r4⟩ := trodAll_cons r3
    obtain ⟨rfl, rfl, rfl⟩ := trodAll_nil r4
    obtain rfl : args = #[v0, v1, v2, v3, v4] := by cases args; simp_all
    obtain ⟨_, _, _, rfl⟩ := okWide_slice Tryz.underlying49 (hval 0 49 v0 rfl rfl)
    obtain ⟨y0, f0, w0⟩ := rd_49.2 H enc W 0 _ _ n0 _ _ h0
    obtain ⟨_, _, _, rfl⟩ := okWide_slice Tryz.underlying49 (hval 1 49 v1 rfl rfl)
    obtain ⟨y1, f1, w1⟩ := rd_49.2 H enc W 0 _ _ n1 _ _ h1
    obtain ⟨_, _, _, rfl⟩ := okWide_slice Tryz.underlying50 (hval 2 50 v2 rfl rfl)
    obtain ⟨y2, f2, w2⟩ := rd_50.2 H enc W 0 _ _ n2 _ _ h2
    obtain ⟨_, _, _, rfl⟩ := okWide_slice Tryz.underlying50 (hval 3 50 v3 rfl rfl)
    obtain ⟨y3, f3, w3⟩ := rd_50.2 H enc W 0 _ _ n3 _ _ h3
    obtain ⟨_, _, _, rfl⟩ := okWide_slice Tryz.underlying54 (hval 4 54 v4 rfl rfl)
    obtain ⟨y4, f4, w4⟩ := rd_54.2 H enc W 0 _ _ n4 _ _ h4
    refine ⟨[A y0, A y1, A y2, A y3, A y4], ?_, ok_laws_FnExactLeftRows (law_leftRows w0 w1 w2 w3 w4)⟩
    exact FrL.append f0 (FrL.append f1 (FrL.append f2 (FrL.append f3 (f4))))

theorem over : Rows.fnExactLeftRowsRow.holds Tryz.pinned (OpenSpec.ofChange Rows.fnExactLeftRowsSpec) :=
  OpenClaim.holds_of_wide 8 Tryz.f8 rfl rfl rfl rfl rfl rfl rfl ⟨rfl, rfl, rfl, rfl, rfl⟩ rfl rfl rfl rfl rfl (by kernel_rfl) Tryz.func8 (by kernel_rfl)
    (of_decide_eq_true (by kernel_rfl)) (by unfold Func.isWrapper; first | (rw [if_pos (by decide +kernel)]; kernel_rfl) | (rw [if_neg (by decide +kernel)]; exact ⟨rfl, rfl⟩))
    (fun os started H enc _ => lifted os started H enc)

/-- THE STATEMENT -/
theorem proved : Rows.FnExactLeftRowsSaid := over
#print axioms proved
end Go.Proofs.YtpkclpjdpanekaaGreat.fnExactLeftRows
