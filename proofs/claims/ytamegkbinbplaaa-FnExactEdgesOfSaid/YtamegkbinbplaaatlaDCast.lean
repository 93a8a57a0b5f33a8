import Derived.Test.YtamegkbinbplaaatlaDEff2
set_option linter.unusedVariables false
namespace Go.D
def quV : V → Bool
 | .lit _ => true
 | .arr .. => true
 | .fptr .. => true
 | .own .. => true
 | .obox .. => true
 | _ => false
theorem qu_of_frz {x : V} (h : frozenV x = true) : quV x = true := by cases x <;> simp_all [frozenV, quV]
theorem qu_of_frzL : ∀ {xs : List V}, xs.all frozenV = true → xs.all quV = true
 | [], _ => rfl
 | x :: xs, h => by
  simp only [List.all_cons, Bool.and_eq_true] at h ⊢
  exact ⟨qu_of_frz h.1, qu_of_frzL h.2⟩
def CellRel (ρ : V → V → Prop) : List V → List V → Prop
 | [], ys => ys = []
 | x :: xs, ys => ∃ y ys', ys = y :: ys' ∧ ρ x y ∧ CellRel ρ xs ys'
theorem CellRel.nil {ρ : V → V → Prop} : CellRel ρ [] [] := rfl
theorem CellRel.cons {ρ : V → V → Prop} {x y : V} {xs ys : List V} (h : ρ x y) (k : CellRel ρ xs ys) : CellRel ρ (x :: xs) (y :: ys) := ⟨y, ys, rfl, h, k⟩
def HpRel (ρ : V → V → Prop) (k : Nat) (x0 : Option Blk) : Nat → Hp → Hp → Prop
 | _, [], H' => H' = []
 | n, b :: r, H' => ∃ b' r', H' = b' :: r' ∧ HpRel ρ k x0 (n + 1) r r' ∧
   if n = k then b' = x0 else b' = none ∨ ∃ c c', b = some c ∧ b' = some c' ∧ c'.ver = c.ver ∧ (c.cells.all quV = true ∧ c'.cells = c.cells ∨ CellRel ρ c.cells c'.cells)
section
variable {ρ : V → V → Prop} {k : Nat} {x0 : Option Blk} {n : Nat} {r r' : Hp}
theorem HpRel.nil : HpRel ρ k x0 n [] [] := rfl
theorem HpRel.none {b : Option Blk} (hk : Nat.beq n k = false) (h : HpRel ρ k x0 (n + 1) r r') : HpRel ρ k x0 n (b :: r) (none :: r') :=
 ⟨_, _, rfl, h, by rw [if_neg (fun e => by rw [e, Nat.beq_refl] at hk; cases hk)]; exact .inl rfl⟩
theorem HpRel.frz {v : Nat} {cs : List V} (hk : Nat.beq n k = false) (hf : cs.all frozenV = true) (h : HpRel ρ k x0 (n + 1) r r') : HpRel ρ k x0 n (some ⟨v, cs⟩ :: r) (some ⟨v, cs⟩ :: r') :=
 ⟨_, _, rfl, h, by rw [if_neg (fun e => by rw [e, Nat.beq_refl] at hk; cases hk)]; exact .inr ⟨_, _, rfl, rfl, rfl, .inl ⟨qu_of_frzL hf, rfl⟩⟩⟩
theorem HpRel.key {b : Option Blk} (h : HpRel ρ n x0 (n + 1) r r') : HpRel ρ n x0 n (b :: r) (x0 :: r') := ⟨_, _, rfl, h, by rw [if_pos rfl]⟩
theorem HpRel.len : ∀ {n : Nat} {H H' : Hp}, HpRel ρ k x0 n H H' → H'.length = H.length
 | _, [], H', h => by simp only [HpRel] at h; rw [h]
 | n, b :: r, H', h => by
  obtain ⟨b', r', rfl, h1, _⟩ := h
  simp [HpRel.len h1]
end
section
variable {P : Program} {Γ : Ctx} {τ : Tau}
end
end Go.D
