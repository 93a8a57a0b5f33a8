/- The plain law of FnExactPlanOk, part 6: plans. -/
import Derived.Test.YtedeefgahbhofaaDPlanE
set_option linter.unusedVariables false
namespace Go.D

def planRun (ts : List T_impl_Table) : List T_impl_Step → List T_impl_made → Option (List T_impl_made)
  | [], ahead => some ahead
  | s :: ss, ahead => match stepMade ts ahead s with
    | none => none
    | some m => bif decide (m.fMost > 300) then none else planRun ts ss (ahead ++ [m])

def planOk (ts : List T_impl_Table) (ss : List T_impl_Step) : Bool := (planRun ts ss []).isSome && (tabsOk ts && inR (ss.length : Int) 1 6)

theorem takeRun_len {a : List T_impl_Column} : ∀ {ns : List Int} {acc c : List T_impl_Column}, takeRun a ns acc = some c → c.length ≤ 4
  | [], acc, c, h => by
    unfold takeRun at h
    cases hd : decide (acc.length ≤ 4) with
    | false => rw [hd] at h; cases h
    | true => rw [hd] at h; cases h; exact of_decide_eq_true hd
  | n :: ns, acc, c, h => by
    unfold takeRun at h
    cases hin : inR n 0 ((a.length : Int) - 1) with
    | false => rw [hin] at h; cases h
    | true =>
      rw [hin, cond_true] at h
      split at h
      · exact takeRun_len h
      · cases h

theorem bothCols_len : ∀ {ps : List (T_impl_Column × T_impl_Column)} {c : List T_impl_Column}, bothCols ps = some c → c.length = ps.length
  | [], c, h => by cases h; rfl
  | (x, y) :: r, c, h => by
    unfold bothCols at h
    cases hk : x.fKind == y.fKind with
    | false => rw [hk] at h; cases h
    | true =>
      rw [hk, cond_true, Option.map_eq_some_iff] at h
      obtain ⟨u, h1, rfl⟩ := h
      simp [bothCols_len h1]

theorem bifN {α : Type} {c : Bool} {a : Option α} {y : α} (h : (bif c then a else none) = some y) : c = true ∧ a = some y := by
  cases c
  · cases h
  · exact ⟨rfl, h⟩

theorem stepOf_len {s : T_impl_Step} {a b c : List T_impl_Column} (ha : Sm a.length) (h : stepOf s a b = some c) : Sm c.length := by
  unfold stepOf at h
  cases h2 : s.fKind == 2
  · rw [h2, cond_false] at h
    cases h3 : s.fKind == 3
    · rw [h3, cond_false] at h
      cases h4 : s.fKind == 4
      · rw [h4, cond_false] at h
        cases h5 : s.fKind == 5
        · rw [h5, cond_false] at h
          cases (bifN h).2
          exact ha
        · rw [h5, cond_true] at h
          have := bothCols_len (bifN h).2
          rw [List.length_zip] at this
          omega
      · rw [h4, cond_true] at h
        obtain ⟨h6, h7⟩ := bifN h
        cases h7
        simp only [Bool.and_eq_true, decide_eq_true_eq] at h6
        omega
    · rw [h3, cond_true] at h
      have := takeRun_len h
      omega
  · rw [h2, cond_true] at h
    cases (bifN h).2
    exact ha

theorem getI_mem {α : Type} {xs : List α} {n : Int} {x : α} (h : getI xs n = some x) : x ∈ xs := List.mem_of_getElem? (getI_spec h).2.2

theorem stepCols_len {ts : List T_impl_Table} {cols : List (List T_impl_Column)} {s : T_impl_Step} {c : List T_impl_Column} (hts : SmTs ts) (hc : ∀ c ∈ cols, Sm c.length) (h : stepCols ts cols s = some c) : Sm c.length := by
  unfold stepCols at h
  obtain ⟨_, h⟩ := bifN h
  cases h1 : s.fKind == 1
  · rw [h1, cond_false] at h
    obtain ⟨_, h⟩ := bifN h
    obtain ⟨a, ha, h⟩ := bindS h
    obtain ⟨b, hb, h⟩ := bindS h
    exact stepOf_len (hc a (getI_mem ha)) h
  · rw [h1, cond_true] at h
    obtain ⟨_, h⟩ := bifN h
    rw [Option.map_eq_some_iff] at h
    obtain ⟨t, ht, rfl⟩ := h
    exact (hts.2 t (getI_mem ht)).1

theorem spec_made {ts : List T_impl_Table} {ahead : List T_impl_made} {s : T_impl_Step} {c : List T_impl_Column} (h : stepCols ts (ahead.map (·.fColumns)) s = some c) : spec_l6Made (ahead.map (·.fMost)) s = some (mostOf ahead s) := by
  unfold stepCols at h
  obtain ⟨_, h⟩ := bifN h
  unfold spec_l6Made mostOf
  cases h1 : s.fKind == 1
  · rw [h1, cond_false] at h
    obtain ⟨_, h⟩ := bifN h
    obtain ⟨a, ha, h⟩ := bindS h
    obtain ⟨b, hb, h⟩ := bindS h
    rw [getI_map, Option.map_eq_some_iff] at ha hb
    obtain ⟨x, hx, rfl⟩ := ha
    obtain ⟨y, hy, rfl⟩ := hb
    simp only [cond_false, getI_map, hx, hy, Option.map_some, Option.bind_some]
    cases s.fKind == 4 <;> cases s.fKind == 5 <;> rfl
  · rfl

theorem spec_all {ts : List T_impl_Table} {ss : List T_impl_Step} (hts : SmTs ts) (hss : SmSs ss) : ∃ y, spec_l6All ts ss = some y ∧ Yes ((planRun ts ss []).map fun l => l.map (·.fColumns)) y := by
  have hl := hss.1
  unfold spec_l6All
  refine loop_q (xs := ss) (L := fun f i (ahead : List T_impl_made) => spec_l6All_l0 ts ss f i (ahead.map (·.fColumns)) (ahead.map (·.fMost))) (fun ss ahead y => Yes ((planRun ts ss ahead).map fun l => l.map (·.fColumns)) y)
    (fun i ahead => ahead.length = i ∧ ∀ m ∈ ahead, Sm m.fColumns.length) (by omega) (fun f i ahead v rest hr hi hv hw hI => ?_) (fun f ahead hI => ?_) (s := ([] : List T_impl_made)) ⟨rfl, fun m hm => by cases hm⟩
  · have hlt : (i : Int) < ss.length := by omega
    have hcs : ∀ c ∈ ahead.map (·.fColumns), Sm c.length := fun c hc => by
      obtain ⟨m, hm, rfl⟩ := List.mem_map.1 hc
      exact hI.2 m hm
    obtain ⟨y, h1, h2⟩ := spec_columns (cols := ahead.map (·.fColumns)) (s := v) hts (by rw [List.length_map]; omega) hcs (hss.2 v (List.mem_of_getElem? hv))
    rcases h2 with ⟨h2, h3⟩ | ⟨c, h2, rfl⟩
    · refine .inl ⟨([], false), ?_, .inl ⟨?_, rfl⟩⟩
      · simp only [spec_l6All_l0, hlt, decide_true, cond_true, getI_nat, hv, Option.bind_some, h1, h3, Bool.not_false]
      · simp only [planRun, stepMade, h2, Option.map_none]
    · have hm := spec_made h2
      have hlen : (ahead.map (·.fMost)).length = i := by rw [List.length_map]; exact hI.1
      have a1 : app (ahead.map (·.fColumns)) [c] = some (ahead.map (·.fColumns) ++ [c]) := app_lt (by rw [List.length_map]; simp; omega)
      have a2 : app (ahead.map (·.fMost)) [mostOf ahead v] = some (ahead.map (·.fMost) ++ [mostOf ahead v]) := app_lt (by rw [List.length_map]; simp; omega)
      have g : (ahead.map (·.fMost) ++ [mostOf ahead v])[i]? = some (mostOf ahead v) := by
        rw [List.getElem?_append_right (by omega), hlen]
        simp
      cases hmost : decide (mostOf ahead v > 300) with
      | true =>
        refine .inl ⟨([], false), ?_, .inl ⟨?_, rfl⟩⟩
        · simp only [spec_l6All_l0, hlt, decide_true, cond_true, getI_nat, hv, Option.bind_some, h1, Bool.not_true, cond_false, a1, hm, a2, g, hmost]
        · simp only [planRun, stepMade, h2, Option.map_some, hmost, cond_true, Option.map_none]
      | false =>
        refine .inr ⟨ahead ++ [⟨c, mostOf ahead v⟩], ⟨by simp [hI.1], fun m hm => ?_⟩, ?_, fun y hy => ?_⟩
        · rcases List.mem_append.1 hm with hm | hm
          · exact hI.2 m hm
          · have : m = ⟨c, mostOf ahead v⟩ := by simpa using hm
            subst this
            exact stepCols_len hts hcs h2
        · simp only [spec_l6All_l0, hlt, decide_true, cond_true, getI_nat, hv, Option.bind_some, h1, Bool.not_true, cond_false, a1, hm, a2, g, hmost, hw, List.map_append, List.map_cons, List.map_nil]
        · simp only [planRun, stepMade, h2, Option.map_some, hmost, cond_false]
          exact hy
  · refine ⟨(ahead.map (·.fColumns), true), ?_, .inr ⟨_, rfl, rfl⟩⟩
    simp only [spec_l6All_l0, Int.lt_irrefl, decide_false, cond_false]

theorem impl_run {ts : List T_impl_Table} {ss : List T_impl_Step} (hts : SmTs ts) (hss : SmSs ss) : ∃ y, impl_makes_l1 ts ss FUEL 0 [] = some y ∧ Yes (planRun ts ss []) y := by
  have hl := hss.1
  refine loop_q (xs := ss) (L := fun f i (ahead : List T_impl_made) => impl_makes_l1 ts ss f i ahead) (fun ss ahead y => Yes (planRun ts ss ahead) y)
    (fun i ahead => ahead.length = i ∧ ∀ m ∈ ahead, Sm m.fColumns.length) (by omega) (fun f i ahead v rest hr hi hv hw hI => ?_) (fun f ahead hI => ?_) (s := ([] : List T_impl_made)) ⟨rfl, fun m hm => by cases hm⟩
  · have hlt : (i : Int) < ss.length := by omega
    have hcs : ∀ c ∈ ahead.map (·.fColumns), Sm c.length := fun c hc => by
      obtain ⟨m, hm, rfl⟩ := List.mem_map.1 hc
      exact hI.2 m hm
    obtain ⟨y, h1, h2⟩ := impl_make (ahead := ahead) (s := v) hts (by omega) hI.2 (hss.2 v (List.mem_of_getElem? hv))
    rcases h2 with ⟨h2, h3⟩ | ⟨m, h2, rfl⟩
    · refine .inl ⟨([], false), ?_, .inl ⟨?_, rfl⟩⟩
      · simp only [impl_makes_l1, hlt, decide_true, cond_true, getI_nat, hv, Option.bind_some, h1, h3, Bool.not_false, impl_makes_j2]
      · simp only [planRun, h2]
    · have a1 : app ahead [m] = some (ahead ++ [m]) := app_lt (by simp; omega)
      cases hmost : decide (m.fMost > 300) with
      | true =>
        refine .inl ⟨([], false), ?_, .inl ⟨?_, rfl⟩⟩
        · simp only [impl_makes_l1, hlt, decide_true, cond_true, getI_nat, hv, Option.bind_some, h1, Bool.not_true, cond_false, impl_makes_j2, hmost]
        · simp only [planRun, h2, hmost, cond_true]
      | false =>
        refine .inr ⟨ahead ++ [m], ⟨by simp [hI.1], fun m' hm => ?_⟩, ?_, fun y hy => ?_⟩
        · rcases List.mem_append.1 hm with hm | hm
          · exact hI.2 m' hm
          · have : m' = m := by simpa using hm
            subst this
            unfold stepMade at h2
            rw [Option.map_eq_some_iff] at h2
            obtain ⟨c, hc, rfl⟩ := h2
            exact stepCols_len hts hcs hc
        · simp only [impl_makes_l1, hlt, decide_true, cond_true, getI_nat, hv, Option.bind_some, h1, Bool.not_true, cond_false, impl_makes_j2, hmost, a1, hw]
        · simp only [planRun, h2, hmost, cond_false]
          exact hy
  · refine ⟨(ahead, true), ?_, .inr ⟨_, rfl, rfl⟩⟩
    simp only [impl_makes_l1, Int.lt_irrefl, decide_false, cond_false]

theorem Yes.two {γ : Type} {m : Option γ} {y : γ × Bool} (h : Yes m y) : y.2 = m.isSome := by
  rcases h with ⟨rfl, h⟩ | ⟨c, rfl, rfl⟩
  · exact h
  · rfl

theorem spec_planOk {ts : List T_impl_Table} {ss : List T_impl_Step} (hts : SmTs ts) (hss : SmSs ss) : spec_PlanOk ts ss = some (planOk ts ss) := by
  obtain ⟨y, h1, h2⟩ := spec_all hts hss
  have h3 := h2.two
  unfold spec_PlanOk planOk
  rw [h1, Option.bind_some, h3, Option.isSome_map]
  simp only [spec_tabsOk hts, Option.bind_some, spec_in]
  cases (planRun ts ss []).isSome <;> cases tabsOk ts <;> rfl

theorem impl_planOk {ts : List T_impl_Table} {ss : List T_impl_Step} (hts : SmTs ts) (hss : SmSs ss) : impl_PlanOk ts ss = some (planOk ts ss) := by
  obtain ⟨y, h1, h2⟩ := impl_run hts hss
  have h3 := h2.two
  unfold impl_PlanOk planOk impl_makes
  simp only [impl_tabsOk hts, Option.bind_some, impl_in]
  cases tabsOk ts
  · simp [impl_makes_j0]
  · cases inR (ss.length : Int) 1 6
    · simp [impl_makes_j0]
    · simp [impl_makes_j0, h1, h3]

end Go.D
