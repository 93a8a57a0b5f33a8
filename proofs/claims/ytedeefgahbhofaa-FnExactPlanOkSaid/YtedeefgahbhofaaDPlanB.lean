/- The plain law of FnExactPlanOk, part 2: the kind of an expression. -/
import Derived.Test.YtedeefgahbhofaaDPlanA
set_option linter.unusedVariables false
namespace Go.D

theorem g2 {xs : List Int} (a b : Int) : getI (xs ++ [a, b]) (xs.length : Int) = some a := by
  rw [getI_nat]
  simp
theorem g3 {xs : List Int} (b : Int) : getI (xs ++ [b]) (xs.length : Int) = some b := by
  rw [getI_nat]
  simp
theorem wm1 : w64 (-1) = -1 := w64_of (by omega) (by omega)

section
variable {xs : List Int} (h : xs.length ≤ 2097152)
include h

theorem g1 (a b : Int) : getI (xs ++ [a, b]) (w64 (((xs ++ [a, b]).length : Int) - 1)) = some b := by
  have e : (((xs ++ [a, b]).length : Int) - 1) = ((xs.length + 1 : Nat) : Int) := by simp only [List.length_append, List.length_cons, List.length_nil]; omega
  rw [e, w64_of (by omega) (by omega), getI_nat]
  simp
theorem sl_pre {ys : List Int} {n : Int} (hn : n = (xs.length : Int)) : slI (xs ++ ys) none (some n) none = some xs := by
  subst hn
  unfold slI
  rw [if_pos]
  · simp
  · simp only [Option.getD_none, Option.getD_some, List.length_append]
    omega
theorem sl_post {ys : List Int} {n : Int} (hn : n = (xs.length : Int)) : slI (xs ++ ys) (some n) none none = some ys := by
  subst hn
  unfold slI
  rw [if_pos]
  · simp only [Option.getD_none, Option.getD_some, Int.toNat_natCast, List.drop_left, List.length_append]
    rw [List.take_of_length_le (by omega)]
  · simp only [Option.getD_none, Option.getD_some, List.length_append]
    omega
theorem max0 {n : Int} (hn : n = (xs.length : Int)) : maxL n [0] = (xs.length : Int) := by
  subst hn
  unfold maxL maxL
  rw [if_neg (by omega)]
theorem len2 (a b : Int) : w64 (((xs ++ [a, b]).length : Int) - 2) = (xs.length : Int) := by
  rw [w64_of] <;> simp <;> omega
theorem len1 (b : Int) : w64 (((xs ++ [b]).length : Int) - 1) = (xs.length : Int) := by
  rw [w64_of] <;> simp <;> omega
theorem len0 : w64 ((xs.length : Int) - 0) = (xs.length : Int) := by
  rw [w64_of] <;> omega
theorem ap_pre {ys : List Int} (k : Int) : appT (xs ++ ys) [k] xs.length = some (xs ++ [k]) := by
  unfold appT
  rw [if_pos (by simp; omega)]
  simp
theorem ap_all (k : Int) : app xs [k] = some (xs ++ [k]) := app_lt (by simp; omega)
end

def zeroV (v : T_impl_Value) : Bool := eq_T_impl_Value v ((T_impl_Value.mk 0 0 (ByteArray.mk #[])))

/-- One part of an expression, over the kinds on the stack, the top first. -/
def exprStep (cs : List T_impl_Column) (rs : List Int) (p : T_impl_Part) : Option (List Int) :=
  if p.fKind = 1 then bif p.fN == 0 && (valOk p.fV && !(p.fV.fKind == 0)) then some (p.fV.fKind :: rs) else none
  else if p.fKind = 2 then bif zeroV p.fV && inR p.fN 0 ((cs.length : Int) - 1) then (getI cs p.fN).map fun c => c.fKind :: rs else none
  else if p.fKind = 3 then bif zeroV p.fV && p.fN == 0 then (match rs with
    | b :: a :: r => bif b == 1 && a == 1 then some (1 :: r) else none
    | _ => none) else none
  else if p.fKind = 4 then bif zeroV p.fV && inR p.fN 1 4 then (match rs with
    | b :: a :: r => bif b == a then some (3 :: r) else none
    | _ => none) else none
  else if p.fKind = 5 ∨ p.fKind = 6 then bif zeroV p.fV && p.fN == 0 then (match rs with
    | b :: a :: r => bif b == 3 && a == 3 then some (3 :: r) else none
    | _ => none) else none
  else if p.fKind = 7 then bif zeroV p.fV && p.fN == 0 then (match rs with
    | b :: r => bif b == 3 then some (3 :: r) else none
    | _ => none) else none
  else if p.fKind = 8 then bif zeroV p.fV && p.fN == 0 then (match rs with
    | b :: r => some (3 :: r)
    | _ => none) else none
  else none

def exprRun (cs : List T_impl_Column) : List T_impl_Part → List Int → Int
  | [], rs => match rs with
    | [k] => k
    | _ => -1
  | p :: ps, rs => match exprStep cs rs p with
    | none => -1
    | some rs' => exprRun cs ps rs'

def SmP (p : T_impl_Part) : Prop := SmV p.fV

theorem exprStep_len {cs : List T_impl_Column} {rs rs' : List Int} {p : T_impl_Part} (h : exprStep cs rs p = some rs') : rs'.length ≤ rs.length + 1 := by
  unfold exprStep at h
  have hb : ∀ {c : Bool} {a : Option (List Int)}, (bif c then a else none) = some rs' → a = some rs' := fun {c a} h => by cases c <;> simp_all
  split at h
  · have := hb h
    cases this
    simp
  split at h
  · have := hb h
    simp only [Option.map_eq_some_iff] at this
    obtain ⟨_, _, rfl⟩ := this
    simp
  split at h
  · have := hb h
    split at this
    · cases hb this
      simp <;> omega
    · cases this
  split at h
  · have := hb h
    split at this
    · cases hb this
      simp <;> omega
    · cases this
  split at h
  · have := hb h
    split at this
    · cases hb this
      simp <;> omega
    · cases this
  split at h
  · have := hb h
    split at this
    · cases hb this
      simp
    · cases this
  split at h
  · have := hb h
    split at this
    · cases this
      simp
    · cases this
  · cases h

/-- The last kinds of a stack. -/
theorem stack_cases (rs : List Int) : rs = [] ∨ (∃ b, rs = [b]) ∨ ∃ b a r, rs = b :: a :: r := by
  match rs with
  | [] => exact .inl rfl
  | [b] => exact .inr (.inl ⟨b, rfl⟩)
  | b :: a :: r => exact .inr (.inr ⟨b, a, r, rfl⟩)

theorem kind_cases (k : Int) : k = 1 ∨ k = 2 ∨ k = 3 ∨ k = 4 ∨ k = 5 ∨ k = 6 ∨ k = 7 ∨ k = 8 ∨ (k ≠ 1 ∧ k ≠ 2 ∧ k ≠ 3 ∧ k ≠ 4 ∧ k ≠ 5 ∧ k ≠ 6 ∧ k ≠ 7 ∧ k ≠ 8) := by omega


section
variable {xs : List Int}
theorem gt1 (a b : Int) : decide (((xs ++ [a, b]).length : Int) > 1) = true := by simp; omega
theorem gt0 (b : Int) : decide (((xs ++ [b]).length : Int) > 0) = true := by simp only [List.length_append, List.length_cons, List.length_nil, decide_eq_true_eq]; omega
theorem lt2 (a b : Int) : decide (((xs ++ [a, b]).length : Int) < 2) = false := by simp; omega
theorem lt1 (b : Int) : decide (((xs ++ [b]).length : Int) < 1) = false := by simp; omega
theorem lt0 : decide ((xs.length : Int) < 0) = false := by simp only [decide_eq_false_iff_not]; omega
theorem rev2 (a b : Int) (r : List Int) : (b :: a :: r).reverse = r.reverse ++ [a, b] := by simp
theorem rev1 (b : Int) (r : List Int) : (b :: r).reverse = r.reverse ++ [b] := by simp
end

theorem low2 {xs : List Int} (h : xs.length ≤ 1) : slI xs none (some (maxL (w64 ((xs.length : Int) - 2)) [0])) none = some [] := by
  rw [w64_of (by omega) (by omega)]
  unfold maxL maxL
  rw [if_pos (by omega)]
  unfold slI
  simp
theorem apt0 (xs : List Int) (k : Int) : appT xs [k] ([] : List Int).length = some [k] := by
  unfold appT
  simp
theorem j2_low {xs : List Int} (h : xs.length ≤ 1) (b : Bool) : spec_l4Step_j2 xs b = some ([1], b) := by
  unfold spec_l4Step_j2
  rw [low2 h, Option.bind_some, apt0, Option.bind_some]
theorem j3_low {xs : List Int} (h : xs.length ≤ 1) (b : Bool) : spec_l4Step_j3 xs b = some ([3], b) := by
  unfold spec_l4Step_j3
  rw [low2 h, Option.bind_some, apt0, Option.bind_some]
theorem j5_low {xs : List Int} (h : xs.length ≤ 1) (b : Bool) : spec_l4Step_j5 xs b = some ([3], b) := by
  unfold spec_l4Step_j5
  rw [low2 h, Option.bind_some, apt0, Option.bind_some]

/-- What the specification's step says. -/
def SpecStep (cs : List T_impl_Column) (rs : List Int) (p : T_impl_Part) : Prop := match exprStep cs rs p with
  | some rs' => spec_l4Step cs rs.reverse p = some (rs'.reverse, true)
  | none => ∃ s, spec_l4Step cs rs.reverse p = some (s, false)

theorem spec_step {cs : List T_impl_Column} {rs : List Int} {p : T_impl_Part} (hc : Sm cs.length) (hr : rs.length ≤ 2000000) (hp : SmP p) : SpecStep cs rs p := by
  obtain ⟨k, n, v⟩ := p
  have hv : spec_ValueOk v = some (valOk v) := spec_value hp
  have hz : eq_T_impl_Value v ((T_impl_Value.mk 0 0 (ByteArray.mk #[]))) = zeroV v := rfl
  have hw : w64 ((cs.length : Int) - 1) = (cs.length : Int) - 1 := w64_of (by omega) (by omega)
  unfold SpecStep
  rcases kind_cases k with rfl | rfl | rfl | rfl | rfl | rfl | rfl | rfl | hk
  · have ha : app rs.reverse [v.fKind] = some (rs.reverse ++ [v.fKind]) := ap_all (by simp; omega) _
    simp only [exprStep, spec_l4Step, spec_l4Step_j0, spec_l4Step_j1, hz, hv, hw, spec_in, Option.bind_some, ha]
    cases n == 0 <;> cases valOk v <;> cases v.fKind == 0 <;> simp
  · simp only [exprStep, spec_l4Step, spec_l4Step_j0, hz, hw, spec_in, Option.bind_some]
    cases zeroV v
    · simp
    · cases hi : inR n 0 ((cs.length : Int) - 1) with
      | false => simp
      | true =>
        unfold inR at hi
        simp only [Bool.and_eq_true, decide_eq_true_eq] at hi
        obtain ⟨c, h1, h2⟩ := getI_lt (xs := cs) hi.1 (by omega)
        have ha : app rs.reverse [c.fKind] = some (rs.reverse ++ [c.fKind]) := ap_all (by simp; omega) _
        simp [h1, ha]
  · rcases stack_cases rs with rfl | ⟨b, rfl⟩ | ⟨b, a, r, rfl⟩
    · simp [exprStep, spec_l4Step, spec_l4Step_j0, j2_low, hz, spec_in, Option.bind]
      cases n == 0 <;> cases zeroV v <;> simp
    · simp [exprStep, spec_l4Step, spec_l4Step_j0, j2_low, hz, spec_in, Option.bind]
      cases n == 0 <;> cases zeroV v <;> simp
    · have hx : r.reverse.length ≤ 2097152 := by simp at hr ⊢; omega
      simp only [exprStep, spec_l4Step, spec_l4Step_j0, spec_l4Step_j2, hz, spec_in, rev2, g1 hx, len2 hx, g2, gt1, max0 hx rfl, sl_pre hx rfl, ap_pre hx, Option.bind_some]
      cases n == 0 <;> cases zeroV v <;> cases b == 1 <;> cases a == 1 <;> simp
  · rcases stack_cases rs with rfl | ⟨b, rfl⟩ | ⟨b, a, r, rfl⟩
    · simp [exprStep, spec_l4Step, spec_l4Step_j0, j3_low, hz, spec_in, Option.bind]
      cases inR n 1 4 <;> cases zeroV v <;> simp
    · simp [exprStep, spec_l4Step, spec_l4Step_j0, j3_low, hz, spec_in, Option.bind]
      cases inR n 1 4 <;> cases zeroV v <;> simp
    · have hx : r.reverse.length ≤ 2097152 := by simp at hr ⊢; omega
      simp only [exprStep, spec_l4Step, spec_l4Step_j0, spec_l4Step_j3, hz, spec_in, rev2, g1 hx, len2 hx, g2, gt1, max0 hx rfl, sl_pre hx rfl, ap_pre hx, Option.bind_some]
      cases inR n 1 4 <;> cases zeroV v <;> cases b == a <;> simp
  · rcases stack_cases rs with rfl | ⟨b, rfl⟩ | ⟨b, a, r, rfl⟩
    · simp [exprStep, spec_l4Step, spec_l4Step_j0, spec_l4Step_j4, j5_low, hz, spec_in, Option.bind]
      cases n == 0 <;> cases zeroV v <;> simp
    · simp [exprStep, spec_l4Step, spec_l4Step_j0, spec_l4Step_j4, j5_low, hz, spec_in, Option.bind]
      cases n == 0 <;> cases zeroV v <;> simp
    · have hx : r.reverse.length ≤ 2097152 := by simp at hr ⊢; omega
      simp only [exprStep, spec_l4Step, spec_l4Step_j0, spec_l4Step_j4, spec_l4Step_j5, hz, spec_in, rev2, g1 hx, len2 hx, g2, gt1, max0 hx rfl, sl_pre hx rfl, ap_pre hx, Option.bind_some]
      cases n == 0 <;> cases zeroV v <;> cases b == 3 <;> cases a == 3 <;> simp
  · rcases stack_cases rs with rfl | ⟨b, rfl⟩ | ⟨b, a, r, rfl⟩
    · simp [exprStep, spec_l4Step, spec_l4Step_j0, spec_l4Step_j4, j5_low, hz, spec_in, Option.bind]
      cases n == 0 <;> cases zeroV v <;> simp
    · simp [exprStep, spec_l4Step, spec_l4Step_j0, spec_l4Step_j4, j5_low, hz, spec_in, Option.bind]
      cases n == 0 <;> cases zeroV v <;> simp
    · have hx : r.reverse.length ≤ 2097152 := by simp at hr ⊢; omega
      simp only [exprStep, spec_l4Step, spec_l4Step_j0, spec_l4Step_j4, spec_l4Step_j5, hz, spec_in, rev2, g1 hx, len2 hx, g2, gt1, max0 hx rfl, sl_pre hx rfl, ap_pre hx, Option.bind_some]
      cases n == 0 <;> cases zeroV v <;> cases b == 3 <;> cases a == 3 <;> simp
  · rcases rs with _ | ⟨b, r⟩
    · simp [exprStep, spec_l4Step, spec_l4Step_j0, spec_l4Step_j4, hz]
    · have hx : r.reverse.length ≤ 2097152 := by simp at hr ⊢; omega
      simp only [exprStep, spec_l4Step, spec_l4Step_j0, spec_l4Step_j4, hz, rev1, len1 hx, g3, gt0, max0 hx rfl, sl_pre hx rfl, ap_pre hx, Option.bind_some]
      cases n == 0 <;> cases zeroV v <;> cases hb : b == 3 <;> simp_all
  · rcases rs with _ | ⟨b, r⟩
    · simp [exprStep, spec_l4Step, spec_l4Step_j0, spec_l4Step_j4, hz, wm1, appT, maxL, slI]
      cases n == 0 <;> cases zeroV v <;> simp
    · have hx : r.reverse.length ≤ 2097152 := by simp at hr ⊢; omega
      simp only [exprStep, spec_l4Step, spec_l4Step_j0, spec_l4Step_j4, hz, rev1, len1 hx, g3, gt0, max0 hx rfl, sl_pre hx rfl, ap_pre hx, Option.bind_some]
      cases n == 0 <;> cases zeroV v <;> simp
  · obtain ⟨h1, h2, h3, h4, h5, h6, h7, h8⟩ := hk
    have b1 : (k == 1) = false := by simp [h1]
    have b2 : (k == 2) = false := by simp [h2]
    have b3 : (k == 3) = false := by simp [h3]
    have b4 : (k == 4) = false := by simp [h4]
    have b5 : (k == 5) = false := by simp [h5]
    have b6 : (k == 6) = false := by simp [h6]
    have b7 : (k == 7) = false := by simp [h7]
    have b8 : (k == 8) = false := by simp [h8]
    simp only [exprStep, h1, h2, h3, h4, h5, h6, h7, h8, if_false, or_self, spec_l4Step, spec_l4Step_j0, spec_l4Step_j4, b1, b2, b3, b4, b5, b6, b7, b8, hz]
    cases zeroV v <;> cases n == 0 <;> simp

end Go.D
