/- The plain law of FnExactPlanOk, part 4: the columns of a step. -/
import Derived.Test.YtedeefgahbhofaaDPlanC
set_option linter.unusedVariables false
namespace Go.D

def fields (s : T_impl_Step) : Bool := (spec_l6Fields s).getD false
theorem spec_fields (s : T_impl_Step) : spec_l6Fields s = some (fields s) := by
  unfold fields spec_l6Fields spec_l6Fields_j0 spec_l6Fields_j1
  cases s.fKind == 4 <;> cases s.fKind == 5 <;> cases s.fKind == 2 <;> cases s.fKind == 1 <;> cases s.fKind == 3 <;> cases s.fN == 0 <;> cases s.fB == 0 <;> cases s.fA == 0 <;> cases (s.fE.length : Int) == 0 <;> rfl
theorem impl_fields (s : T_impl_Step) : impl_Step_plain s = some (fields s) := by
  rw [← spec_fields]
  rfl

def takeRun (a : List T_impl_Column) : List Int → List T_impl_Column → Option (List T_impl_Column)
  | [], acc => bif decide (acc.length ≤ 4) then some acc else none
  | n :: ns, acc => bif inR n 0 ((a.length : Int) - 1) then (match getI a n with
    | some c => takeRun a ns (acc ++ [c])
    | none => none) else none

theorem spec_take {a : List T_impl_Column} {s : T_impl_Step} (ha : Sm a.length) (hl : Sm s.fList.length) : ∃ y, spec_l6Columns_l1 s a FUEL 0 [] = some y ∧ Yes (takeRun a s.fList []) y := by
  refine loop_q (xs := s.fList) (L := fun f i (st : List T_impl_Column) => spec_l6Columns_l1 s a f i st) (fun ns st y => Yes (takeRun a ns st) y) (fun i st => st.length = i) (by omega) (fun f i st v rest hr hi hv hw hI => ?_) (fun f st hI => ?_) (s := ([] : List T_impl_Column)) rfl
  · have hlt : (i : Int) < s.fList.length := by omega
    have hw1 : w64 ((a.length : Int) - 1) = (a.length : Int) - 1 := w64_of (by omega) (by omega)
    cases hin : inR v 0 ((a.length : Int) - 1) with
    | false =>
      refine .inl ⟨([], false), ?_, .inl ⟨?_, rfl⟩⟩
      · simp only [spec_l6Columns_l1, hlt, decide_true, cond_true, getI_nat, hv, Option.bind_some, spec_in, hw1, hin, Bool.not_false]
      · simp only [takeRun, hin, cond_false]
    | true =>
      have hin' := hin
      unfold inR at hin'
      simp only [Bool.and_eq_true, decide_eq_true_eq] at hin'
      obtain ⟨c, h1, h2⟩ := getI_lt (xs := a) hin'.1 (by omega)
      refine .inr ⟨st ++ [c], by simp [hI], ?_, fun y hy => ?_⟩
      · simp only [spec_l6Columns_l1, hlt, decide_true, cond_true, getI_nat, hv, Option.bind_some, spec_in, hw1, hin, Bool.not_true, cond_false, h1, hw, app_lt (xs := st) (ys := [c]) (by simp; omega)]
      · simp only [takeRun, hin, cond_true, h1]
        exact hy
  · refine ⟨(st, decide (st.length ≤ 4)), ?_, ?_⟩
    · simp only [spec_l6Columns_l1, Int.lt_irrefl, decide_false, cond_false, le4]
    · unfold takeRun
      cases hd : decide (st.length ≤ 4)
      · exact .inl ⟨rfl, rfl⟩
      · exact .inr ⟨st, rfl, rfl⟩

theorem impl_take {m : T_impl_made} {s : T_impl_Step} (ha : Sm m.fColumns.length) (hl : Sm s.fList.length) : ∃ y, impl_Step_make_L2_l2 s m FUEL 0 [] = some y ∧ Yes ((takeRun m.fColumns s.fList []).map fun c => ⟨c, m.fMost⟩) y := by
  refine loop_q (xs := s.fList) (L := fun f i (st : List T_impl_Column) => impl_Step_make_L2_l2 s m f i st) (fun ns st y => Yes ((takeRun m.fColumns ns st).map fun c => ⟨c, m.fMost⟩) y) (fun i st => st.length = i) (by omega) (fun f i st v rest hr hi hv hw hI => ?_) (fun f st hI => ?_) (s := ([] : List T_impl_Column)) rfl
  · have hlt : (i : Int) < s.fList.length := by omega
    have hw1 : w64 ((m.fColumns.length : Int) - 1) = (m.fColumns.length : Int) - 1 := w64_of (by omega) (by omega)
    cases hin : inR v 0 ((m.fColumns.length : Int) - 1) with
    | false =>
      refine .inl ⟨(T_impl_made.mk [] 0, false), ?_, .inl ⟨?_, rfl⟩⟩
      · simp only [impl_Step_make_L2_l2, hlt, decide_true, cond_true, getI_nat, hv, Option.bind_some, impl_in, hw1, hin, Bool.not_false]
      · simp only [takeRun, hin, cond_false, Option.map_none]
    | true =>
      have hin' := hin
      unfold inR at hin'
      simp only [Bool.and_eq_true, decide_eq_true_eq] at hin'
      obtain ⟨c, h1, h2⟩ := getI_lt (xs := m.fColumns) hin'.1 (by omega)
      refine .inr ⟨st ++ [c], by simp [hI], ?_, fun y hy => ?_⟩
      · simp only [impl_Step_make_L2_l2, hlt, decide_true, cond_true, getI_nat, hv, Option.bind_some, impl_in, hw1, hin, Bool.not_true, cond_false, h1, hw, app_lt (xs := st) (ys := [c]) (by simp; omega)]
      · simp only [takeRun, hin, cond_true, h1]
        exact hy
  · refine ⟨(⟨st, m.fMost⟩, decide (st.length ≤ 4)), ?_, ?_⟩
    · simp only [impl_Step_make_L2_l2, Int.lt_irrefl, decide_false, cond_false, le4, hI]
    · unfold takeRun
      cases hd : decide (st.length ≤ 4)
      · exact .inl ⟨rfl, rfl⟩
      · exact .inr ⟨_, rfl, rfl⟩

/-- Columns one for one: of one kind; empty where either is. -/
def bothCols : List (T_impl_Column × T_impl_Column) → Option (List T_impl_Column)
  | [] => some []
  | (x, y) :: r => bif x.fKind == y.fKind then (bothCols r).map fun u => { x with fEmpty := x.fEmpty || y.fEmpty } :: u else none

theorem set_take {α : Type} {st : List α} {i : Nat} (h : i < st.length) (c : α) : (st.set i c).take (i + 1) = st.take i ++ [c] := by
  rw [List.take_add_one, List.take_set_of_le (Nat.le_refl i), List.getElem?_set_self h]
  rfl
theorem set_drop {α : Type} {st : List α} {i : Nat} (c : α) : (st.set i c).drop (i + 1) = st.drop (i + 1) := by
  rw [List.drop_set_of_lt (by omega)]

theorem both_step {x y : T_impl_Column} {rest : List (T_impl_Column × T_impl_Column)} {st : List T_impl_Column} {i : Nat} (hi : i < st.length) (hr : i + (rest.length + 1) = st.length) (hk : (x.fKind == y.fKind) = true) (c : T_impl_Column) (hc : c = { x with fEmpty := x.fEmpty || y.fEmpty }) :
    ((bothCols rest).map fun u => (st.set i c).take ((st.set i c).length - rest.length) ++ u) = ((bothCols ((x, y) :: rest)).map fun u => st.take (st.length - ((x, y) :: rest).length) ++ u) := by
  have e1 : (st.set i c).length - rest.length = i + 1 := by rw [List.length_set]; omega
  have e2 : st.length - ((x, y) :: rest).length = i := by simp only [List.length_cons]; omega
  rw [e1, e2, set_take hi]
  simp only [bothCols, hk, cond_true, Option.map_map, ← hc]
  congr 1
  funext u
  simp

theorem drop_get {α : Type} {st a : List α} {i : Nat} (h : st.drop i = a.drop i) (hl : st.length = a.length) (hi : i < a.length) : st[i]? = a[i]? := by
  have := congrArg (fun l : List α => l[0]?) h
  simpa using this

theorem spec_both {cols : List (List T_impl_Column)} {s : T_impl_Step} {a b : List T_impl_Column} (hb : getI cols s.fB = some b) (hl : a.length = b.length) (ha : Sm a.length) :
    ∃ y, spec_l6Columns_l2 cols s FUEL 0 a = some y ∧ Yes (bothCols (a.zip b)) y := by
  have hz : (a.zip b).length = a.length := by simp [hl]
  have key := loop_q (xs := a.zip b) (L := fun f i (st : List T_impl_Column) => spec_l6Columns_l2 cols s f i st) (fun ps st y => Yes ((bothCols ps).map fun u => st.take (st.length - ps.length) ++ u) y)
    (fun i st => st.drop i = a.drop i ∧ st.length = a.length) (by omega) (fun f i st v rest hr hi hv hw hI => ?_) (fun f st hI => ?_) (s := a) ⟨rfl, rfl⟩
  · obtain ⟨y, h1, h2⟩ := key
    refine ⟨y, h1, ?_⟩
    have e : ((bothCols (a.zip b)).map fun u => a.take (a.length - (a.zip b).length) ++ u) = bothCols (a.zip b) := by
      rw [hz, Nat.sub_self]
      simp
    rwa [e] at h2
  · obtain ⟨v1, v2⟩ := zip_get hl hv
    obtain ⟨x, y⟩ := v
    simp only at v1 v2
    have hst : st[i]? = some x := (drop_get hI.1 hI.2 (by omega)).trans v1
    have hlt : (i : Int) < st.length := by omega
    cases hk : x.fKind == y.fKind with
    | false =>
      refine .inl ⟨([], false), ?_, .inl ⟨?_, rfl⟩⟩
      · simp only [spec_l6Columns_l2, hlt, decide_true, cond_true, getI_nat, hst, hb, v2, Option.bind_some, hk, Bool.not_false]
      · simp only [bothCols, hk, cond_false, Option.map_none]
    | true =>
      refine .inr ⟨st.set i { x with fEmpty := x.fEmpty || y.fEmpty }, ⟨?_, ?_⟩, ?_, fun r hr' => ?_⟩
      · rw [set_drop, ← List.drop_drop, hI.1, List.drop_drop]
      · rw [List.length_set]; exact hI.2
      · simp only [spec_l6Columns_l2, hlt, decide_true, cond_true, getI_nat, hst, hb, v2, Option.bind_some, hk, Bool.not_true, cond_false, spec_l6Columns_j3, hw, Int.toNat_natCast]
        cases x.fEmpty <;> simp
      · rw [← both_step (i := i) (by omega) (by omega) hk _ rfl]
        exact hr'
  · refine ⟨(st, true), ?_, .inr ⟨st, ?_, rfl⟩⟩
    · rw [hz, ← hI.2]
      simp only [spec_l6Columns_l2, Int.lt_irrefl, decide_false, cond_false]
    · simp [bothCols]

theorem impl_both {m1 m2 : T_impl_made} (hl : m1.fColumns.length = m2.fColumns.length) (ha : Sm m1.fColumns.length) :
    ∃ y, impl_Step_make_L2_l3 m1 m2 FUEL 0 m1.fColumns = some y ∧ Yes ((bothCols (m1.fColumns.zip m2.fColumns)).map fun c => ⟨c, w64 (m1.fMost + m2.fMost)⟩) y := by
  obtain ⟨a, n1⟩ := m1
  obtain ⟨b, n2⟩ := m2
  simp only at hl ha ⊢
  have hz : (a.zip b).length = a.length := by simp [hl]
  have key := loop_q (xs := a.zip b) (L := fun f i (st : List T_impl_Column) => impl_Step_make_L2_l3 ⟨a, n1⟩ ⟨b, n2⟩ f i st) (fun ps st y => Yes (((bothCols ps).map fun u => st.take (st.length - ps.length) ++ u).map fun c => (⟨c, w64 (n1 + n2)⟩ : T_impl_made)) y)
    (fun i st => st.drop i = a.drop i ∧ st.length = a.length) (by omega) (fun f i st v rest hr hi hv hw hI => ?_) (fun f st hI => ?_) (s := a) ⟨rfl, rfl⟩
  · obtain ⟨y, h1, h2⟩ := key
    refine ⟨y, h1, ?_⟩
    have e : ((bothCols (a.zip b)).map fun u => a.take (a.length - (a.zip b).length) ++ u) = bothCols (a.zip b) := by
      rw [hz, Nat.sub_self]
      simp
    rwa [e] at h2
  · obtain ⟨v1, v2⟩ := zip_get hl hv
    obtain ⟨x, y⟩ := v
    simp only at v1 v2
    have hst : st[i]? = some x := (drop_get hI.1 hI.2 (by omega)).trans v1
    have hlt : (i : Int) < b.length := by omega
    cases hk : x.fKind == y.fKind with
    | false =>
      refine .inl ⟨(T_impl_made.mk [] 0, false), ?_, .inl ⟨?_, rfl⟩⟩
      · have hk' : (y.fKind == x.fKind) = false := by rw [eq_comm_b]; exact hk
        simp only [impl_Step_make_L2_l3, hlt, decide_true, cond_true, getI_nat, hst, v2, Option.bind_some, hk', Bool.not_false]
      · simp only [bothCols, hk, cond_false, Option.map_none]
    | true =>
      have hk' : (y.fKind == x.fKind) = true := by rw [eq_comm_b]; exact hk
      refine .inr ⟨st.set i { x with fEmpty := x.fEmpty || y.fEmpty }, ⟨?_, ?_⟩, ?_, fun r hr' => ?_⟩
      · rw [set_drop, ← List.drop_drop, hI.1, List.drop_drop]
      · rw [List.length_set]; exact hI.2
      · simp only [impl_Step_make_L2_l3, hlt, decide_true, cond_true, getI_nat, hst, v2, Option.bind_some, hk', Bool.not_true, cond_false, hw, Int.toNat_natCast]
        cases x.fEmpty <;> simp
      · rw [← both_step (i := i) (by omega) (by omega) hk _ rfl]
        exact hr'
  · refine ⟨(⟨st, w64 (n1 + n2)⟩, true), ?_, .inr ⟨_, ?_, rfl⟩⟩
    · rw [hz, hl]
      simp only [impl_Step_make_L2_l3, Int.lt_irrefl, decide_false, cond_false]
    · simp [bothCols]

theorem impl_clone_id {a : List T_impl_Column} (ha : Sm a.length) : impl_clone_impl_Column_R a = some a := by
  unfold impl_clone_impl_Column_R slices_Clip_impl_Column_impl_Column_R
  cases h : ((a.length : Int)) == 0
  · rw [app_lt (by simp; omega)]
    simp [slI]
  · have : a = [] := by
      have : (a.length : Int) = 0 := by simpa using h
      exact List.eq_nil_of_length_eq_zero (by omega)
    subst this
    rfl

theorem impl_grow {n : Nat} (hn : n ≤ 4194304) : slices_Grow_impl_Column_impl_Column_n0 (n : Int) = some [] := by
  unfold slices_Grow_impl_Column_impl_Column_n0
  have h0 : w64 (0 - 0) = 0 := w64_of (by omega) (by omega)
  have h1 : w64 ((n : Int) - 0) = n := by rw [w64_of] <;> omega
  have h2 : decide ((n : Int) < 0) = false := by simp
  rw [h2, h0, h1]
  simp only [cond_false]
  by_cases hp : (n : Int) > 0
  · have h3 : decide ((n : Int) > 0) = true := decide_eq_true hp
    rw [h3, cond_true]
    unfold apzI
    rw [if_pos (by omega)]
    simp [slI]
  · have h3 : decide ((n : Int) > 0) = false := decide_eq_false hp
    rw [h3, cond_false]

theorem fuel3 : ∃ F, FUEL = F + 1 + 1 + 1 := by
  have h : 3 ≤ FUEL := by unfold FUEL; omega
  exact ⟨FUEL - 3, by omega⟩

theorem concat_l1 (F : Nat) {a b : List T_impl_Column} (ha : Sm a.length) (hb : Sm b.length) : slices_Concat_impl_Column_impl_Column_l1 [a, b] (F + 1 + 1 + 1) 0 [] = some (a ++ b) := by
  have w3 : w64 (0 + 1) = 1 := w64_of (by omega) (by omega)
  have w4 : w64 (1 + 1) = 2 := w64_of (by omega) (by omega)
  have i0 : getI [a, b] 0 = some a := rfl
  have i1 : getI [a, b] 1 = some b := rfl
  have l0 : decide ((0 : Int) < (([a, b] : List (List T_impl_Column)).length : Int)) = true := rfl
  have l1 : decide ((1 : Int) < (([a, b] : List (List T_impl_Column)).length : Int)) = true := rfl
  have l2 : decide ((2 : Int) < (([a, b] : List (List T_impl_Column)).length : Int)) = false := rfl
  rw [slices_Concat_impl_Column_impl_Column_l1, l0, cond_true, i0, Option.bind_some, app_lt (xs := ([] : List T_impl_Column)) (ys := a) (by simp; omega), Option.bind_some, List.nil_append, w3]
  rw [slices_Concat_impl_Column_impl_Column_l1, l1, cond_true, i1, Option.bind_some, app_lt (xs := a) (ys := b) (by omega), Option.bind_some, w4]
  rw [slices_Concat_impl_Column_impl_Column_l1, l2, cond_false]

theorem concat_l0 (F : Nat) {a b : List T_impl_Column} (ha : Sm a.length) (hb : Sm b.length) : slices_Concat_impl_Column_impl_Column_l0 [a, b] (F + 1 + 1 + 1) 0 0 = slices_Concat_impl_Column_impl_Column_l1 [a, b] FUEL 0 [] := by
  have w1 : w64 (0 + (a.length : Int)) = a.length := by rw [w64_of] <;> omega
  have w2 : w64 ((a.length : Int) + b.length) = ((a.length + b.length : Nat) : Int) := by rw [w64_of] <;> omega
  have w3 : w64 (0 + 1) = 1 := w64_of (by omega) (by omega)
  have w4 : w64 (1 + 1) = 2 := w64_of (by omega) (by omega)
  have n1 : decide ((a.length : Int) < 0) = false := by simp
  have n2 : decide (((a.length + b.length : Nat) : Int) < 0) = false := by
    rw [decide_eq_false_iff_not]
    omega
  have i0 : getI [a, b] 0 = some a := rfl
  have i1 : getI [a, b] 1 = some b := rfl
  have l0 : decide ((0 : Int) < (([a, b] : List (List T_impl_Column)).length : Int)) = true := rfl
  have l1 : decide ((1 : Int) < (([a, b] : List (List T_impl_Column)).length : Int)) = true := rfl
  have l2 : decide ((2 : Int) < (([a, b] : List (List T_impl_Column)).length : Int)) = false := rfl
  rw [slices_Concat_impl_Column_impl_Column_l0, l0, cond_true, i0, Option.bind_some, w1, n1, cond_false, w3]
  rw [slices_Concat_impl_Column_impl_Column_l0, l1, cond_true, i1, Option.bind_some, w2, n2, cond_false, w4]
  rw [slices_Concat_impl_Column_impl_Column_l0, l2, cond_false, impl_grow (n := a.length + b.length) (by omega), Option.bind_some]

theorem impl_concat {a b : List T_impl_Column} (ha : Sm a.length) (hb : Sm b.length) : slices_Concat_impl_Column_impl_Column [a, b] = some (a ++ b) := by
  obtain ⟨F, hF⟩ := fuel3
  have h0 := concat_l0 F ha hb
  have h1 := concat_l1 F ha hb
  rw [← hF] at h0 h1
  exact h0.trans h1

end Go.D
