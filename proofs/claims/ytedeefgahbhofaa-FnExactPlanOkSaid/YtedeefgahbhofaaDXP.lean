/- Sizes, copies, equalities: printed by plgen.py. -/
import Derived.Test.YtedeefgahbhofaaDXR
import Derived.Test.YtedeefgahbhofaaDXFC
import Derived.Test.YtedeefgahbhofaaDPl
set_option linter.unusedVariables false
namespace Go.D
def Ok_Column (x : T_laws_Column) : Prop := True
def c_Column (x : T_laws_Column) : T_impl_Column := ⟨x.fKind, x.fEmpty⟩
theorem to_Column (x : T_laws_Column) (h : Ok_Column x) : laws_toColumn x = some (c_Column x) := rfl
def OkI_Column (x : T_impl_Column) : Prop := True
theorem eq_Column (x : T_impl_Column) (h : OkI_Column x) : laws_eqColumn x x = some true := by
  unfold laws_eqColumn
  simp only [beq_self_eq_true, Bool.not_true, cond_false]
theorem sz_ColumnS : SzP laws_szColumnS (listW W_T_laws_Column) (okL Ok_Column) := sz_flat (fun _ => trivial) (fun _ h => h.1) (fun _ _ => rfl)
theorem to_ColumnS (xs : List T_laws_Column) (h : (okL Ok_Column) xs) : laws_toColumnS xs = some (xs.map c_Column) := to_loop (S := laws_toColumnS) (L := laws_toColumnS_l0) to_Column (fun _ => rfl) (fun _ _ _ _ => rfl) xs h
theorem eq_ColumnS (xs : List T_impl_Column) (h : (okL OkI_Column) xs) : laws_eqColumnS xs xs = some true := eq_loop (S := laws_eqColumnS) (L := laws_eqColumnS_l0) eq_Column (fun _ _ => rfl) (fun _ _ _ _ => rfl) xs h
def Ok_Value (x : T_laws_Value) : Prop := x.fS.size ≤ 1048576
theorem sz_Value : SzP laws_szValue W_T_laws_Value Ok_Value := by
  have h := sz_one (z := laws_szValue) (W := W_T_laws_Value) (fun x => x.fS.size) (fun x h => h.2.2) (fun x n => by unfold laws_szValue; rfl)
  exact h
def c_Value (x : T_laws_Value) : T_impl_Value := ⟨x.fKind, x.fN, x.fS⟩
theorem to_Value (x : T_laws_Value) (h : Ok_Value x) : laws_toValue x = some (c_Value x) := rfl
def OkI_Value (x : T_impl_Value) : Prop := True
theorem eq_Value (x : T_impl_Value) (h : OkI_Value x) : laws_eqValue x x = some true := by
  unfold laws_eqValue
  simp only [beq_self_eq_true, Bool.not_true, cond_false]
theorem sz_ValueS : SzP laws_szValueS (listW W_T_laws_Value) (okL Ok_Value) := sz_loop sz_Value (fun _ _ => rfl) (fun _ _ _ _ => rfl)
theorem to_ValueS (xs : List T_laws_Value) (h : (okL Ok_Value) xs) : laws_toValueS xs = some (xs.map c_Value) := to_loop (S := laws_toValueS) (L := laws_toValueS_l0) to_Value (fun _ => rfl) (fun _ _ _ _ => rfl) xs h
theorem eq_ValueS (xs : List T_impl_Value) (h : (okL OkI_Value) xs) : laws_eqValueS xs xs = some true := eq_loop (S := laws_eqValueS) (L := laws_eqValueS_l0) eq_Value (fun _ _ => rfl) (fun _ _ _ _ => rfl) xs h
theorem sz_ValueSS : SzP laws_szValueSS (listW (listW W_T_laws_Value)) (okL (okL Ok_Value)) := sz_loop sz_ValueS (fun _ _ => rfl) (fun _ _ _ _ => rfl)
theorem to_ValueSS (xs : List (List T_laws_Value)) (h : (okL (okL Ok_Value)) xs) : laws_toValueSS xs = some (xs.map (List.map c_Value)) := to_loop (S := laws_toValueSS) (L := laws_toValueSS_l0) to_ValueS (fun _ => rfl) (fun _ _ _ _ => rfl) xs h
theorem eq_ValueSS (xs : List (List T_impl_Value)) (h : (okL (okL OkI_Value)) xs) : laws_eqValueSS xs xs = some true := eq_loop (S := laws_eqValueSS) (L := laws_eqValueSS_l0) eq_ValueS (fun _ _ => rfl) (fun _ _ _ _ => rfl) xs h
def Ok_Table (x : T_laws_Table) : Prop := (okL Ok_Column) x.fColumns ∧ (okL (okL Ok_Value)) x.fRows
theorem sz_Table : SzP laws_szTable W_T_laws_Table Ok_Table := by
  intro x n hW h0 hn
  obtain ⟨w0, w1⟩ := hW
  unfold laws_szTable Ok_Table
  obtain ⟨r0, e0, k0⟩ := sz_ColumnS x.fColumns n w0 (by omega) (by omega)
  rw [e0, Option.bind_some]
  rcases k0 with k0 | ⟨p0, q0, o0⟩
  · exact ⟨-1, by rw [decide_eq_true k0, cond_true], .inl (by omega)⟩
  rw [decide_eq_false (show ¬ r0 < 0 by omega), cond_false]
  obtain ⟨r1, e1, k1⟩ := sz_ValueSS x.fRows r0 w1 (by omega) (by omega)
  rw [e1, Option.bind_some]
  rcases k1 with k1 | ⟨p1, q1, o1⟩
  · exact ⟨-1, by rw [decide_eq_true k1, cond_true], .inl (by omega)⟩
  rw [decide_eq_false (show ¬ r1 < 0 by omega), cond_false]
  exact ⟨r1, rfl, .inr ⟨by omega, by omega, o0, o1⟩⟩
def c_Table (x : T_laws_Table) : T_impl_Table := ⟨(x.fColumns.map c_Column), (x.fRows.map (List.map c_Value))⟩
theorem to_Table (x : T_laws_Table) (h : Ok_Table x) : laws_toTable x = some (c_Table x) := by
  unfold laws_toTable
  rw [to_ColumnS x.fColumns h.1, Option.bind_some, to_ValueSS x.fRows h.2, Option.bind_some]
  rfl
def OkI_Table (x : T_impl_Table) : Prop := (okL OkI_Column) x.fColumns ∧ (okL (okL OkI_Value)) x.fRows
theorem eq_Table (x : T_impl_Table) (h : OkI_Table x) : laws_eqTable x x = some true := by
  unfold laws_eqTable
  simp only [beq_self_eq_true, Bool.not_true, cond_false, eq_ColumnS x.fColumns h.1, eq_ValueSS x.fRows h.2, Option.bind_some]
theorem sz_TableS : SzP laws_szTableS (listW W_T_laws_Table) (okL Ok_Table) := sz_loop sz_Table (fun _ _ => rfl) (fun _ _ _ _ => rfl)
theorem to_TableS (xs : List T_laws_Table) (h : (okL Ok_Table) xs) : laws_toTableS xs = some (xs.map c_Table) := to_loop (S := laws_toTableS) (L := laws_toTableS_l0) to_Table (fun _ => rfl) (fun _ _ _ _ => rfl) xs h
theorem eq_TableS (xs : List T_impl_Table) (h : (okL OkI_Table) xs) : laws_eqTableS xs xs = some true := eq_loop (S := laws_eqTableS) (L := laws_eqTableS_l0) eq_Table (fun _ _ => rfl) (fun _ _ _ _ => rfl) xs h
def Ok_Part (x : T_laws_Part) : Prop := Ok_Value x.fV
theorem sz_Part : SzP laws_szPart W_T_laws_Part Ok_Part := by
  intro x n hW h0 hn
  obtain ⟨w0, w1, w2⟩ := hW
  unfold laws_szPart Ok_Part
  obtain ⟨r0, e0, k0⟩ := sz_Value x.fV n w2 (by omega) (by omega)
  rw [e0, Option.bind_some]
  rcases k0 with k0 | ⟨p0, q0, o0⟩
  · exact ⟨-1, by rw [decide_eq_true k0, cond_true], .inl (by omega)⟩
  rw [decide_eq_false (show ¬ r0 < 0 by omega), cond_false]
  exact ⟨r0, rfl, .inr ⟨by omega, by omega, o0⟩⟩
def c_Part (x : T_laws_Part) : T_impl_Part := ⟨x.fKind, x.fN, (c_Value x.fV)⟩
theorem to_Part (x : T_laws_Part) (h : Ok_Part x) : laws_toPart x = some (c_Part x) := by
  unfold laws_toPart
  rw [to_Value x.fV h, Option.bind_some]
  rfl
def OkI_Part (x : T_impl_Part) : Prop := OkI_Value x.fV
theorem eq_Part (x : T_impl_Part) (h : OkI_Part x) : laws_eqPart x x = some true := by
  unfold laws_eqPart
  simp only [beq_self_eq_true, Bool.not_true, cond_false, eq_Value x.fV h, Option.bind_some]
theorem sz_PartS : SzP laws_szPartS (listW W_T_laws_Part) (okL Ok_Part) := sz_loop sz_Part (fun _ _ => rfl) (fun _ _ _ _ => rfl)
theorem to_PartS (xs : List T_laws_Part) (h : (okL Ok_Part) xs) : laws_toPartS xs = some (xs.map c_Part) := to_loop (S := laws_toPartS) (L := laws_toPartS_l0) to_Part (fun _ => rfl) (fun _ _ _ _ => rfl) xs h
theorem eq_PartS (xs : List T_impl_Part) (h : (okL OkI_Part) xs) : laws_eqPartS xs xs = some true := eq_loop (S := laws_eqPartS) (L := laws_eqPartS_l0) eq_Part (fun _ _ => rfl) (fun _ _ _ _ => rfl) xs h
theorem sz_IntS : SzP laws_szIntS (listW intW) (okL (fun _ => True)) := sz_flat (fun _ => trivial) (fun _ h => h.1) (fun _ _ => rfl)
theorem to_IntS (xs : List Int) (h : (okL (fun _ => True)) xs) : laws_toIntS xs = some xs := by
  have := to_loop (c := fun x => x) (t := some) (S := laws_toIntS) (L := laws_toIntS_l0) (fun _ _ => rfl) (fun _ => rfl) (fun _ _ _ _ => rfl) xs h
  rwa [show xs.map (fun x => x) = xs from List.map_id xs] at this
theorem eq_IntS (xs : List Int) (h : (okL (fun _ => True)) xs) : laws_eqIntS xs xs = some true := eq_loop (S := laws_eqIntS) (L := laws_eqIntS_l0) (e := fun x y => some (x == y)) (fun x _ => congrArg some (beq_self_eq_true x)) (fun _ _ => rfl) (fun _ _ _ _ => rfl) xs h
def Ok_Step (x : T_laws_Step) : Prop := (okL Ok_Part) x.fE ∧ (okL (fun _ => True)) x.fList
theorem sz_Step : SzP laws_szStep W_T_laws_Step Ok_Step := by
  intro x n hW h0 hn
  obtain ⟨w0, w1, w2, w3, w4, w5⟩ := hW
  unfold laws_szStep Ok_Step
  obtain ⟨r0, e0, k0⟩ := sz_PartS x.fE n w4 (by omega) (by omega)
  rw [e0, Option.bind_some]
  rcases k0 with k0 | ⟨p0, q0, o0⟩
  · exact ⟨-1, by rw [decide_eq_true k0, cond_true], .inl (by omega)⟩
  rw [decide_eq_false (show ¬ r0 < 0 by omega), cond_false]
  obtain ⟨r1, e1, k1⟩ := sz_IntS x.fList r0 w5 (by omega) (by omega)
  rw [e1, Option.bind_some]
  rcases k1 with k1 | ⟨p1, q1, o1⟩
  · exact ⟨-1, by rw [decide_eq_true k1, cond_true], .inl (by omega)⟩
  rw [decide_eq_false (show ¬ r1 < 0 by omega), cond_false]
  exact ⟨r1, rfl, .inr ⟨by omega, by omega, o0, o1⟩⟩
def c_Step (x : T_laws_Step) : T_impl_Step := ⟨x.fKind, x.fA, x.fB, x.fN, (x.fE.map c_Part), x.fList⟩
theorem to_Step (x : T_laws_Step) (h : Ok_Step x) : laws_toStep x = some (c_Step x) := by
  unfold laws_toStep
  rw [to_PartS x.fE h.1, Option.bind_some, to_IntS x.fList h.2, Option.bind_some]
  rfl
def OkI_Step (x : T_impl_Step) : Prop := (okL OkI_Part) x.fE ∧ (okL (fun _ => True)) x.fList
theorem eq_Step (x : T_impl_Step) (h : OkI_Step x) : laws_eqStep x x = some true := by
  unfold laws_eqStep
  simp only [beq_self_eq_true, Bool.not_true, cond_false, eq_PartS x.fE h.1, eq_IntS x.fList h.2, Option.bind_some]
theorem sz_StepS : SzP laws_szStepS (listW W_T_laws_Step) (okL Ok_Step) := sz_loop sz_Step (fun _ _ => rfl) (fun _ _ _ _ => rfl)
theorem to_StepS (xs : List T_laws_Step) (h : (okL Ok_Step) xs) : laws_toStepS xs = some (xs.map c_Step) := to_loop (S := laws_toStepS) (L := laws_toStepS_l0) to_Step (fun _ => rfl) (fun _ _ _ _ => rfl) xs h
theorem eq_StepS (xs : List T_impl_Step) (h : (okL OkI_Step) xs) : laws_eqStepS xs xs = some true := eq_loop (S := laws_eqStepS) (L := laws_eqStepS_l0) eq_Step (fun _ _ => rfl) (fun _ _ _ _ => rfl) xs h
end Go.D
