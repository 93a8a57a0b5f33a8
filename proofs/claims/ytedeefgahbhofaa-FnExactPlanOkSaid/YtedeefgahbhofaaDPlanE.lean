/- The plain law of FnExactPlanOk, part 5: the steps of a plan. -/
import Derived.Test.YtedeefgahbhofaaDPlanD
set_option linter.unusedVariables false
namespace Go.D

def SmS (s : T_impl_Step) : Prop := Sm s.fE.length ∧ (∀ p ∈ s.fE, SmP p) ∧ Sm s.fList.length
def SmSs (ss : List T_impl_Step) : Prop := Sm ss.length ∧ ∀ s ∈ ss, SmS s

/-- The columns of a step, by the columns of the steps that it names. -/
def stepOf (s : T_impl_Step) (a b : List T_impl_Column) : Option (List T_impl_Column) :=
  bif s.fKind == 2 then (bif exprKind a s.fE == 3 then some a else none)
  else bif s.fKind == 3 then takeRun a s.fList []
  else bif s.fKind == 4 then (bif decide ((a ++ b).length ≤ 4) && exprKind (a ++ b) s.fE == 3 then some (a ++ b) else none)
  else bif s.fKind == 5 then (bif a.length == b.length then bothCols (a.zip b) else none)
  else bif s.fKind == 6 then some a else none

def stepCols (ts : List T_impl_Table) (cols : List (List T_impl_Column)) (s : T_impl_Step) : Option (List T_impl_Column) :=
  bif fields s then
    (bif s.fKind == 1 then (bif inR s.fN 0 ((ts.length : Int) - 1) then (getI ts s.fN).map (·.fColumns) else none)
    else bif inR s.fA 0 ((cols.length : Int) - 1) && inR s.fB 0 ((cols.length : Int) - 1) then
      (getI cols s.fA).bind fun a => (getI cols s.fB).bind fun b => stepOf s a b
    else none)
  else none

theorem inR_get {α : Type} {xs : List α} {n : Int} (h : inR n 0 ((xs.length : Int) - 1) = true) : ∃ x, getI xs n = some x ∧ x ∈ xs := by
  unfold inR at h
  simp only [Bool.and_eq_true, decide_eq_true_eq] at h
  obtain ⟨x, h1, h2⟩ := getI_lt (xs := xs) h.1 (by omega)
  exact ⟨x, h1, List.mem_of_getElem? h2⟩

theorem app_nil_l {a : List T_impl_Column} (h : Sm a.length) : app [] a = some a := app_lt (by simp; omega)

theorem len_beq {α β : Type} (xs : List α) (ys : List β) : ((xs.length : Int) == (ys.length : Int)) = (xs.length == ys.length) := by
  rw [Bool.eq_iff_iff, beq_iff_eq, beq_iff_eq]
  omega

theorem spec_columns {ts : List T_impl_Table} {cols : List (List T_impl_Column)} {s : T_impl_Step} (hts : SmTs ts) (hl : Sm cols.length) (hc : ∀ c ∈ cols, Sm c.length) (hs : SmS s) :
    ∃ y, spec_l6Columns ts cols s = some y ∧ Yes (stepCols ts cols s) y := by
  have hw1 : w64 ((ts.length : Int) - 1) = (ts.length : Int) - 1 := w64_of (by omega) (by have := hts.1; omega)
  have hw2 : w64 ((cols.length : Int) - 1) = (cols.length : Int) - 1 := w64_of (by omega) (by omega)
  unfold spec_l6Columns stepCols
  simp only [spec_fields, Option.bind_some, spec_in, hw1, hw2]
  cases fields s
  · exact ⟨_, rfl, .inl ⟨rfl, rfl⟩⟩
  simp only [Bool.not_true, cond_false, cond_true]
  cases h1 : s.fKind == 1
  · simp only [cond_false]
    cases hA : inR s.fA 0 ((cols.length : Int) - 1)
    · exact ⟨_, rfl, .inl ⟨rfl, rfl⟩⟩
    cases hB : inR s.fB 0 ((cols.length : Int) - 1)
    · exact ⟨_, rfl, .inl ⟨rfl, rfl⟩⟩
    obtain ⟨a, a1, a2⟩ := inR_get hA
    obtain ⟨b, b1, b2⟩ := inR_get hB
    simp only [Bool.not_true, cond_false, cond_true, Bool.and_self, spec_l6Columns_j0, a1, b1, Option.bind_some, app_nil_l (hc a a2), stepOf]
    cases s.fKind == 2
    · simp only [cond_false]
      cases s.fKind == 3
      · simp only [cond_false]
        cases s.fKind == 4
        · simp only [cond_false]
          cases s.fKind == 5
          · simp only [cond_false]
            cases s.fKind == 6
            · exact ⟨_, rfl, .inl ⟨rfl, rfl⟩⟩
            · exact ⟨_, rfl, .inr ⟨_, rfl, rfl⟩⟩
          · simp only [cond_true, len_beq]
            cases he : a.length == b.length
            · exact ⟨_, rfl, .inl ⟨rfl, rfl⟩⟩
            · exact spec_both b1 (by simpa using he) (hc a a2)
        · have h1 := hc a a2
          have h2 := hc b b2
          simp only [cond_true, app_lt (xs := a) (ys := b) (by omega), Option.bind_some, le4]
          cases hd : decide ((a ++ b).length ≤ 4)
          · exact ⟨_, rfl, .inl ⟨rfl, rfl⟩⟩
          · have hd := of_decide_eq_true hd
            simp only [cond_true, spec_exprKind (cs := a ++ b) (by omega) hs.1 hs.2.1, Option.bind_some, Bool.true_and]
            cases exprKind (a ++ b) s.fE == 3
            · exact ⟨_, rfl, .inl ⟨rfl, rfl⟩⟩
            · exact ⟨_, rfl, .inr ⟨_, rfl, rfl⟩⟩
      · exact spec_take (hc a a2) hs.2.2
    · simp only [cond_true, spec_exprKind (hc a a2) hs.1 hs.2.1, Option.bind_some]
      cases exprKind a s.fE == 3
      · exact ⟨_, rfl, .inl ⟨rfl, rfl⟩⟩
      · exact ⟨_, rfl, .inr ⟨_, rfl, rfl⟩⟩
  · simp only [cond_true]
    cases hN : inR s.fN 0 ((ts.length : Int) - 1)
    · exact ⟨_, rfl, .inl ⟨rfl, rfl⟩⟩
    obtain ⟨t, t1, t2⟩ := inR_get hN
    simp only [Bool.not_true, cond_false, cond_true, t1, Option.bind_some, app_nil_l (hts.2 t t2).1, Option.map_some]
    exact ⟨_, rfl, .inr ⟨_, rfl, rfl⟩⟩

/-- How many rows a step has at the most. -/
def mostOf (ahead : List T_impl_made) (s : T_impl_Step) : Int :=
  bif s.fKind == 1 then 6 else match getI ahead s.fA, getI ahead s.fB with
  | some a, some b => bif s.fKind == 4 then w64 (a.fMost * b.fMost) else bif s.fKind == 5 then w64 (a.fMost + b.fMost) else a.fMost
  | _, _ => 0

def stepMade (ts : List T_impl_Table) (ahead : List T_impl_made) (s : T_impl_Step) : Option T_impl_made := (stepCols ts (ahead.map (·.fColumns)) s).map fun c => ⟨c, mostOf ahead s⟩

theorem getI_map {α β : Type} (f : α → β) (xs : List α) (n : Int) : getI (xs.map f) n = (getI xs n).map f := by
  unfold getI
  split
  · rw [List.getElem?_map]
  · rfl

theorem impl_make {ts : List T_impl_Table} {ahead : List T_impl_made} {s : T_impl_Step} (hts : SmTs ts) (hl : Sm ahead.length) (hc : ∀ m ∈ ahead, Sm m.fColumns.length) (hs : SmS s) :
    ∃ y, impl_Step_make_L2 s ts ahead = some y ∧ Yes (stepMade ts ahead s) y := by
  have hw1 : w64 ((ts.length : Int) - 1) = (ts.length : Int) - 1 := w64_of (by omega) (by have := hts.1; omega)
  have hw2 : w64 ((ahead.length : Int) - 1) = (ahead.length : Int) - 1 := w64_of (by omega) (by omega)
  unfold impl_Step_make_L2 stepMade stepCols
  simp only [impl_fields, Option.bind_some, impl_in, List.length_map, getI_map]
  cases fields s
  · exact ⟨_, rfl, .inl ⟨rfl, rfl⟩⟩
  simp only [Bool.not_true, cond_false, cond_true]
  cases h16 : inR s.fKind 1 6
  · have hk : (s.fKind == 1) = false ∧ (s.fKind == 2) = false ∧ (s.fKind == 3) = false ∧ (s.fKind == 4) = false ∧ (s.fKind == 5) = false ∧ (s.fKind == 6) = false := by
      simp only [inR, Bool.and_eq_false_iff, decide_eq_false_iff_not] at h16
      simp only [beq_eq_false_iff_ne, ne_eq]
      omega
    obtain ⟨k1, k2, k3, k4, k5, k6⟩ := hk
    refine ⟨_, rfl, .inl ⟨?_, rfl⟩⟩
    simp only [k1, k2, k3, k4, k5, k6, cond_false, stepOf]
    cases (inR s.fA 0 ((ahead.length : Int) - 1) && inR s.fB 0 ((ahead.length : Int) - 1))
    · rfl
    · cases getI ahead s.fA <;> cases getI ahead s.fB <;> rfl
  simp only [Bool.not_true, impl_Step_make_L2_j0, cond_false, impl_in, hw1, hw2, Option.bind_some, mostOf]
  cases h1 : s.fKind == 1
  · simp only [cond_false]
    cases hA : inR s.fA 0 ((ahead.length : Int) - 1)
    · exact ⟨_, rfl, .inl ⟨rfl, rfl⟩⟩
    cases hB : inR s.fB 0 ((ahead.length : Int) - 1)
    · exact ⟨_, rfl, .inl ⟨rfl, rfl⟩⟩
    obtain ⟨a, a1, a2⟩ := inR_get hA
    obtain ⟨b, b1, b2⟩ := inR_get hB
    simp only [Bool.not_true, cond_false, cond_true, Bool.and_self, impl_Step_make_L2_j1, a1, b1, Option.bind_some, Option.map_some, stepOf]
    cases h2 : s.fKind == 2
    · simp only [cond_false]
      cases h3 : s.fKind == 3
      · simp only [cond_false]
        cases h4 : s.fKind == 4
        · simp only [cond_false]
          cases h5 : s.fKind == 5
          · simp only [cond_false]
            have h6 : (s.fKind == 6) = true := by
              simp only [inR, Bool.and_eq_true, decide_eq_true_eq] at h16
              simp only [beq_eq_false_iff_ne, ne_eq] at h1 h2 h3 h4 h5
              simp only [beq_iff_eq]
              omega
            rw [h6]
            exact ⟨_, rfl, .inr ⟨_, rfl, rfl⟩⟩
          · simp only [cond_true, len_beq, impl_clone_id (hc a a2), Option.bind_some]
            cases he : a.fColumns.length == b.fColumns.length
            · exact ⟨_, rfl, .inl ⟨rfl, rfl⟩⟩
            · exact impl_both (by simpa using he) (hc a a2)
        · have g1 := hc a a2
          have g2 := hc b b2
          simp only [cond_true, impl_concat g1 g2, Option.bind_some, le4]
          cases hd : decide ((a.fColumns ++ b.fColumns).length ≤ 4)
          · exact ⟨_, rfl, .inl ⟨rfl, rfl⟩⟩
          · have hd := of_decide_eq_true hd
            simp only [cond_true, impl_exprKind (cs := a.fColumns ++ b.fColumns) (by omega) hs.1 hs.2.1, Option.bind_some, Bool.true_and]
            cases exprKind (a.fColumns ++ b.fColumns) s.fE == 3
            · exact ⟨_, rfl, .inl ⟨rfl, rfl⟩⟩
            · exact ⟨_, rfl, .inr ⟨_, rfl, rfl⟩⟩
      · have h4 : (s.fKind == 4) = false := by
          simp only [beq_iff_eq] at h3
          simp [h3]
        have h5 : (s.fKind == 5) = false := by
          simp only [beq_iff_eq] at h3
          simp [h3]
        simp only [h4, h5, cond_false]
        exact impl_take (hc a a2) hs.2.2
    · have h4 : (s.fKind == 4) = false := by
        simp only [beq_iff_eq] at h2
        simp [h2]
      have h5 : (s.fKind == 5) = false := by
        simp only [beq_iff_eq] at h2
        simp [h2]
      simp only [cond_true, impl_exprKind (hc a a2) hs.1 hs.2.1, Option.bind_some, h4, h5, cond_false]
      cases exprKind a.fColumns s.fE == 3
      · exact ⟨_, rfl, .inl ⟨rfl, rfl⟩⟩
      · exact ⟨_, rfl, .inr ⟨_, rfl, rfl⟩⟩
  · simp only [cond_true]
    cases hN : inR s.fN 0 ((ts.length : Int) - 1)
    · exact ⟨_, rfl, .inl ⟨rfl, rfl⟩⟩
    obtain ⟨t, t1, t2⟩ := inR_get hN
    simp only [Bool.not_true, cond_false, cond_true, t1, Option.bind_some, Option.map_some]
    exact ⟨_, rfl, .inr ⟨_, rfl, rfl⟩⟩

end Go.D
