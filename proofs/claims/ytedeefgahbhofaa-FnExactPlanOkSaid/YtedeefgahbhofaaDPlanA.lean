/- The plain law of FnExactPlanOk, part 1: what both sides check of tables. -/
import Derived.Test.YtedeefgahbhofaaDXFC
import Derived.Test.YtedeefgahbhofaaDPl
set_option linter.unusedVariables false
namespace Go.D

abbrev Sm (n : Nat) : Prop := n ≤ 2097152

def inR (a b c : Int) : Bool := decide (b ≤ a) && decide (a ≤ c)
theorem spec_in (a b c : Int) : spec_l1In a b c = some (inR a b c) := by
  unfold spec_l1In inR
  by_cases h : b ≤ a <;> simp [h]
theorem impl_in (a b c : Int) : impl_between a b c = some (inR a b c) := by
  unfold impl_between inR
  by_cases h : b ≤ a <;> simp [h]

def colsOk (cs : List T_impl_Column) : Bool := cs.all (fun c => inR c.fKind 1 3) && decide (cs.length ≤ 4)

theorem spec_colsOk {cs : List T_impl_Column} (h : Sm cs.length) : spec_ColumnsOk cs = some (colsOk cs) := by
  unfold spec_ColumnsOk colsOk
  refine loop_all (by omega) (fun f i v hi hv hw => ?_) (fun f => ?_)
  · have : (i : Int) < cs.length := by omega
    simp only [spec_ColumnsOk_l0, this, decide_true, cond_true, getI_nat, hv, Option.bind_some, spec_in, hw]
    cases inR v.fKind 1 3 <;> rfl
  · simp only [spec_ColumnsOk_l0, Int.lt_irrefl, decide_false, cond_false]
    congr 1
    simp only [decide_eq_decide]
    omega

theorem impl_colsAny {cs : List T_impl_Column} (h : Sm cs.length) : slices_ContainsFunc_impl_Column_impl_Column cs impl_ColumnsOk_1 = some (cs.any fun c => !(inR c.fKind 1 3)) := by
  unfold slices_ContainsFunc_impl_Column_impl_Column slices_IndexFunc_impl_Column_impl_Column
  obtain ⟨r, h1, h2⟩ := loop_find (xs := cs) (L := slices_IndexFunc_impl_Column_impl_Column_l0 cs impl_ColumnsOk_1) (p := fun c => !(inR c.fKind 1 3)) (by omega) (fun f i v hi hv hw => by
    have : (i : Int) < cs.length := by omega
    simp only [slices_IndexFunc_impl_Column_impl_Column_l0, this, decide_true, cond_true, getI_nat, hv, Option.bind_some, impl_ColumnsOk_1, impl_in, hw]) (fun f => by
    simp only [slices_IndexFunc_impl_Column_impl_Column_l0, Int.lt_irrefl, decide_false, cond_false])
  rw [h1, Option.bind_some, h2]

theorem not_any_not {α : Type} (xs : List α) (p : α → Bool) : (!(xs.any fun x => !(p x))) = xs.all p := by
  induction xs with
  | nil => rfl
  | cons x xs ih => simp [← ih]

theorem impl_colsOk {cs : List T_impl_Column} (h : Sm cs.length) : impl_ColumnsOk cs = some (colsOk cs) := by
  unfold impl_ColumnsOk colsOk
  rw [impl_colsAny h, Option.bind_some, not_any_not]
  by_cases h4 : cs.length ≤ 4
  · have : (cs.length : Int) ≤ 4 := by omega
    simp [h4, this]
  · have : ¬ (cs.length : Int) ≤ 4 := by omega
    simp [h4, this]

theorem cast_le6 (n : Nat) : decide ((n : Int) ≤ 6) = decide (n ≤ 6) := by
  simp only [decide_eq_decide]
  omega
theorem getB_nat {s : ByteArray} {i : Nat} : getB s (i : Int) = s.data.toList[i]? := by
  unfold getB
  rw [if_pos (by omega), Int.toNat_natCast]
  by_cases h : i < s.size
  · rw [getElem?_pos s i h, List.getElem?_eq_getElem (by simpa using h)]
    simp only [Option.some.injEq]
    rfl
  · rw [getElem?_neg s i h, List.getElem?_eq_none (by simpa using h)]

def letter (b : UInt8) : Bool := decide (97 ≤ b.toNat) && decide (b.toNat ≤ 122)
def textOk (s : ByteArray) : Bool := s.data.toList.all letter && decide (s.size ≤ 6)

theorem size_list (s : ByteArray) : s.data.toList.length = s.size := Array.length_toList

theorem spec_text {s : ByteArray} (h : Sm s.size) : spec_l1Text s = some (textOk s) := by
  unfold spec_l1Text textOk
  have hl := size_list s
  refine loop_all (xs := s.data.toList) (by omega) (fun f i v hi hv hw => ?_) (fun f => ?_)
  · have : (i : Int) < s.size := by omega
    simp only [spec_l1Text_l0, this, decide_true, cond_true, getB_nat, hv, Option.bind_some, spec_l1Text_j1, hw]
    unfold letter
    by_cases h1 : (v.toNat : Int) < 97
    · have : ¬ 97 ≤ v.toNat := by omega
      simp [h1, this]
    · have h1' : 97 ≤ v.toNat := by omega
      by_cases h2 : (v.toNat : Int) > 122
      · have : ¬ v.toNat ≤ 122 := by omega
        simp [h1, h1', h2, this]
      · have : v.toNat ≤ 122 := by omega
        simp [h1, h1', h2, this]
  · rw [hl]
    unfold spec_l1Text_l0
    rw [show decide ((s.size : Int) < (s.size : Int)) = false from decide_eq_false (Int.lt_irrefl _), cond_false, cast_le6]

theorem impl_lettersOk {s : ByteArray} (h : Sm s.size) : impl_letters s = some (s.data.toList.all letter) := by
  have hl := size_list s
  unfold impl_letters bytesOf
  rw [if_pos (by omega), Option.bind_some, ← Bool.and_true (s.data.toList.all letter)]
  refine loop_all (xs := s.data.toList) (by omega) (fun f i v hi hv hw => ?_) (fun f => ?_)
  · have : (i : Int) < s.data.toList.length := by omega
    have hb : v.toNat < 256 := v.toNat_lt
    have h1 : w64 (v.toNat : Int) = v.toNat := w64_of (by omega) (by omega)
    simp only [impl_letters_l0, this, decide_true, cond_true, getI_nat, hv, Option.bind_some, impl_in, hw, h1]
    have : inR (v.toNat : Int) 97 122 = letter v := by
      unfold inR letter
      congr 1 <;> simp only [decide_eq_decide] <;> omega
    rw [this]
    cases letter v <;> rfl
  · simp only [impl_letters_l0, Int.lt_irrefl, decide_false, cond_false]

def valOk (v : T_impl_Value) : Bool := bif v.fKind == 0 then v.fN == 0 && v.fS.toList == (ByteArray.mk #[]).toList else bif v.fKind == 1 then inR v.fN (-9999) 9999 && v.fS.toList == (ByteArray.mk #[]).toList else
  bif v.fKind == 2 then v.fN == 0 && textOk v.fS else bif v.fKind == 3 then inR v.fN 0 1 && v.fS.toList == (ByteArray.mk #[]).toList else false

theorem spec_value {v : T_impl_Value} (h : Sm v.fS.size) : spec_ValueOk v = some (valOk v) := by
  unfold spec_ValueOk valOk
  simp only [spec_in, spec_text h, Option.bind_some]
  cases v.fKind == 0 <;> cases v.fKind == 1 <;> cases v.fKind == 2 <;> cases v.fKind == 3 <;> cases v.fN == 0 <;> cases inR v.fN (-9999) 9999 <;> cases inR v.fN 0 1 <;> rfl

theorem impl_value {v : T_impl_Value} (h : Sm v.fS.size) : impl_Value_ok v = some (valOk v) := by
  unfold impl_Value_ok valOk
  simp only [impl_in, impl_lettersOk h, Option.bind_some]
  have e : eq_T_impl_Value v ((T_impl_Value.mk 0 0 (ByteArray.mk #[]))) = (v.fKind == 0 && (v.fN == 0 && v.fS.toList == (ByteArray.mk #[]).toList)) := rfl
  have e2 : decide ((v.fS.size : Int) ≤ 6) = decide (v.fS.size ≤ 6) := by
    simp only [decide_eq_decide]
    omega
  have e3 : textOk v.fS = (v.fS.data.toList.all letter && decide (v.fS.size ≤ 6)) := rfl
  rw [e, e2, e3]
  cases v.fKind == 0 <;> cases v.fKind == 1 <;> cases v.fKind == 2 <;> cases v.fKind == 3 <;> cases v.fN == 0 <;> cases inR v.fN (-9999) 9999 <;> cases inR v.fN 0 1 <;> cases v.fS.toList == (ByteArray.mk #[]).toList <;>
    cases decide (v.fS.size ≤ 6) <;> cases v.fS.data.toList.all letter <;> rfl

/-- Values that are small. -/
def SmV (v : T_impl_Value) : Prop := Sm v.fS.size
def SmR (r : List T_impl_Value) : Prop := Sm r.length ∧ ∀ v ∈ r, SmV v

def rowOk (r : List T_impl_Value) : Bool := r.all valOk && decide (r.length ≤ 4)

theorem spec_rowOk {r : List T_impl_Value} (h : SmR r) : spec_RowOk r = some (rowOk r) := by
  unfold spec_RowOk rowOk
  have hl := h.1
  refine loop_all (by omega) (fun f i v hi hv hw => ?_) (fun f => ?_)
  · have : (i : Int) < r.length := by omega
    simp only [spec_RowOk_l0, this, decide_true, cond_true, getI_nat, hv, Option.bind_some, spec_value (h.2 v (List.mem_of_getElem? hv)), hw]
    cases valOk v <;> rfl
  · simp only [spec_RowOk_l0, Int.lt_irrefl, decide_false, cond_false]
    congr 1
    simp only [decide_eq_decide]
    omega

theorem impl_rowAny {r : List T_impl_Value} (h : SmR r) : slices_ContainsFunc_impl_Value_impl_Value_120 r impl_RowOk_1 = some (r.any fun v => !(valOk v)) := by
  unfold slices_ContainsFunc_impl_Value_impl_Value_120 slices_IndexFunc_impl_Value_impl_Value_126
  have hl := h.1
  obtain ⟨x, h1, h2⟩ := loop_find (xs := r) (L := slices_IndexFunc_impl_Value_impl_Value_126_l0 r impl_RowOk_1) (p := fun v => !(valOk v)) (by omega) (fun f i v hi hv hw => by
    have : (i : Int) < r.length := by omega
    simp only [slices_IndexFunc_impl_Value_impl_Value_126_l0, this, decide_true, cond_true, getI_nat, hv, Option.bind_some, impl_RowOk_1, impl_value (h.2 v (List.mem_of_getElem? hv)), hw]) (fun f => by
    simp only [slices_IndexFunc_impl_Value_impl_Value_126_l0, Int.lt_irrefl, decide_false, cond_false])
  rw [h1, Option.bind_some, h2]

theorem le4 {α : Type} (xs : List α) : decide ((xs.length : Int) ≤ 4) = decide (xs.length ≤ 4) := by
  simp only [decide_eq_decide]
  omega

theorem impl_rowOk {r : List T_impl_Value} (h : SmR r) : impl_RowOk r = some (rowOk r) := by
  unfold impl_RowOk rowOk
  rw [impl_rowAny h, Option.bind_some, not_any_not, le4]
  cases decide (r.length ≤ 4) <;> simp

/-- Does a row's value fit its column? -/
def fits (c : T_impl_Column) (v : T_impl_Value) : Bool := v.fKind == c.fKind || (v.fKind == 0 && c.fEmpty)
def rowFits (cs : List T_impl_Column) (r : List T_impl_Value) : Bool := colsOk cs && (rowOk r && (r.length == cs.length && (r.zip cs).all fun p => fits p.2 p.1))

theorem zip_get {α β : Type} {xs : List α} {ys : List β} (h : xs.length = ys.length) {i : Nat} {p : α × β} (hp : (xs.zip ys)[i]? = some p) : xs[i]? = some p.1 ∧ ys[i]? = some p.2 := by
  rw [List.getElem?_zip_eq_some] at hp
  exact hp

theorem spec_rowFits {cs : List T_impl_Column} {r : List T_impl_Value} (hc : Sm cs.length) (h : SmR r) : spec_RowFits cs r = some (rowFits cs r) := by
  unfold spec_RowFits rowFits
  rw [spec_colsOk hc, Option.bind_some, spec_rowOk h, Option.bind_some]
  cases colsOk cs
  · rfl
  · cases rowOk r
    · rfl
    · by_cases he : r.length = cs.length
      · have e1 : ((r.length : Int) == (cs.length : Int)) = true := by simp [he]
        have e2 : (r.length == cs.length) = true := by simp [he]
        rw [e1, e2]
        simp only [Bool.not_true, cond_false, spec_RowFits_j0, Bool.true_and]
        have hl := h.1
        have hz : (r.zip cs).length = r.length := by simp [he]
        rw [show (r.zip cs).all (fun p => fits p.2 p.1) = ((r.zip cs).all (fun p => fits p.2 p.1) && true) by simp]
        refine loop_all (xs := r.zip cs) (by omega) (fun f i p hi hp hw => ?_) (fun f => ?_)
        · obtain ⟨p1, p2⟩ := zip_get he hp
          have : (i : Int) < r.length := by omega
          simp only [spec_RowFits_l1, this, decide_true, cond_true, getI_nat, p1, p2, Option.bind_some, spec_RowFits_j2, hw, fits]
          cases p.1.fKind == p.2.fKind <;> cases p.1.fKind == 0 <;> cases p.2.fEmpty <;> rfl
        · rw [hz]
          simp only [spec_RowFits_l1, Int.lt_irrefl, decide_false, cond_false]
      · have e1 : ((r.length : Int) == (cs.length : Int)) = false := by
          simp only [beq_eq_false_iff_ne, ne_eq]
          omega
        have e2 : (r.length == cs.length) = false := by simp [he]
        rw [e1, e2]
        rfl

theorem impl_rowFits {cs : List T_impl_Column} {r : List T_impl_Value} (hc : Sm cs.length) (h : SmR r) : impl_RowFits cs r = some (rowFits cs r) := by
  unfold impl_RowFits rowFits
  rw [impl_colsOk hc, Option.bind_some, impl_rowOk h, Option.bind_some]
  cases colsOk cs
  · rfl
  · cases rowOk r
    · rfl
    · by_cases he : r.length = cs.length
      · have e1 : ((r.length : Int) == (cs.length : Int)) = true := by simp [he]
        have e2 : (r.length == cs.length) = true := by simp [he]
        rw [e1, e2]
        simp only [Bool.not_true, cond_false, impl_RowFits_j0, Bool.true_and]
        have hl := h.1
        have hz : (r.zip cs).length = r.length := by simp [he]
        rw [show (r.zip cs).all (fun p => fits p.2 p.1) = ((r.zip cs).all (fun p => fits p.2 p.1) && true) by simp]
        refine loop_all (xs := r.zip cs) (by omega) (fun f i p hi hp hw => ?_) (fun f => ?_)
        · obtain ⟨p1, p2⟩ := zip_get he hp
          have : (i : Int) < r.length := by omega
          simp only [impl_RowFits_l1, this, decide_true, cond_true, getI_nat, p1, p2, Option.bind_some, impl_RowFits_j2, hw, fits]
          cases p.1.fKind == p.2.fKind <;> cases p.1.fKind == 0 <;> cases p.2.fEmpty <;> rfl
        · rw [hz]
          simp only [impl_RowFits_l1, Int.lt_irrefl, decide_false, cond_false]
      · have e1 : ((r.length : Int) == (cs.length : Int)) = false := by
          simp only [beq_eq_false_iff_ne, ne_eq]
          omega
        have e2 : (r.length == cs.length) = false := by simp [he]
        rw [e1, e2]
        rfl

def SmRs (rs : List (List T_impl_Value)) : Prop := Sm rs.length ∧ ∀ r ∈ rs, SmR r
def rowsOk (cs : List T_impl_Column) (rs : List (List T_impl_Value)) : Bool := colsOk cs && rs.all (rowFits cs)

theorem spec_rowsOk {cs : List T_impl_Column} {rs : List (List T_impl_Value)} (hc : Sm cs.length) (h : SmRs rs) : spec_RowsOk cs rs = some (rowsOk cs rs) := by
  unfold spec_RowsOk rowsOk
  have hl := h.1
  rw [Bool.and_comm]
  refine loop_all (by omega) (fun f i v hi hv hw => ?_) (fun f => ?_)
  · have : (i : Int) < rs.length := by omega
    simp only [spec_RowsOk_l0, this, decide_true, cond_true, getI_nat, hv, Option.bind_some, spec_rowFits hc (h.2 v (List.mem_of_getElem? hv)), hw]
    cases rowFits cs v <;> rfl
  · simp only [spec_RowsOk_l0, Int.lt_irrefl, decide_false, cond_false, spec_colsOk hc, Option.bind_some]

theorem impl_rowsAny {cs : List T_impl_Column} {rs : List (List T_impl_Value)} (hc : Sm cs.length) (h : SmRs rs) : slices_ContainsFunc_impl_Value_impl_Value rs (fun z0 => impl_RowsOk_1 z0 cs) = some (rs.any fun r => !(rowFits cs r)) := by
  unfold slices_ContainsFunc_impl_Value_impl_Value slices_IndexFunc_impl_Value_impl_Value
  have hl := h.1
  obtain ⟨x, h1, h2⟩ := loop_find (xs := rs) (L := slices_IndexFunc_impl_Value_impl_Value_l0 rs (fun z0 => impl_RowsOk_1 z0 cs)) (p := fun r => !(rowFits cs r)) (by omega) (fun f i v hi hv hw => by
    have : (i : Int) < rs.length := by omega
    simp only [slices_IndexFunc_impl_Value_impl_Value_l0, this, decide_true, cond_true, getI_nat, hv, Option.bind_some, impl_RowsOk_1, impl_rowFits hc (h.2 v (List.mem_of_getElem? hv)), hw]) (fun f => by
    simp only [slices_IndexFunc_impl_Value_impl_Value_l0, Int.lt_irrefl, decide_false, cond_false])
  rw [h1, Option.bind_some, h2]

theorem impl_rowsOk {cs : List T_impl_Column} {rs : List (List T_impl_Value)} (hc : Sm cs.length) (h : SmRs rs) : impl_RowsOk cs rs = some (rowsOk cs rs) := by
  unfold impl_RowsOk rowsOk
  rw [impl_colsOk hc, Option.bind_some, impl_rowsAny hc h, Option.bind_some, not_any_not]
  cases colsOk cs <;> rfl

def SmT (t : T_impl_Table) : Prop := Sm t.fColumns.length ∧ SmRs t.fRows
def SmTs (ts : List T_impl_Table) : Prop := Sm ts.length ∧ ∀ t ∈ ts, SmT t
def tabOk (t : T_impl_Table) : Bool := decide (t.fRows.length ≤ 6) && rowsOk t.fColumns t.fRows
def tabsOk (ts : List T_impl_Table) : Bool := ts.all tabOk && decide (ts.length ≤ 3)

theorem gt6 {α : Type} (xs : List α) : decide ((xs.length : Int) > 6) = !(decide (xs.length ≤ 6)) := by
  by_cases h : xs.length ≤ 6
  · have : ¬ (xs.length : Int) > 6 := by omega
    simp [h, this]
  · have : (xs.length : Int) > 6 := by omega
    simp [h, this]

theorem spec_tabsOk {ts : List T_impl_Table} (h : SmTs ts) : spec_TablesOk ts = some (tabsOk ts) := by
  unfold spec_TablesOk tabsOk
  have hl := h.1
  refine loop_all (by omega) (fun f i v hi hv hw => ?_) (fun f => ?_)
  · have : (i : Int) < ts.length := by omega
    have hv' := h.2 v (List.mem_of_getElem? hv)
    simp only [spec_TablesOk_l0, this, decide_true, cond_true, getI_nat, hv, Option.bind_some, spec_rowsOk hv'.1 hv'.2, spec_TablesOk_j1, hw, gt6, tabOk]
    cases decide (v.fRows.length ≤ 6) <;> cases rowsOk v.fColumns v.fRows <;> rfl
  · simp only [spec_TablesOk_l0, Int.lt_irrefl, decide_false, cond_false]
    congr 1
    simp only [decide_eq_decide]
    omega

theorem impl_tabsAny {ts : List T_impl_Table} (h : SmTs ts) : slices_ContainsFunc_impl_Table_impl_Table ts impl_TablesOk_1 = some (ts.any fun t => !(tabOk t)) := by
  unfold slices_ContainsFunc_impl_Table_impl_Table slices_IndexFunc_impl_Table_impl_Table
  have hl := h.1
  obtain ⟨x, h1, h2⟩ := loop_find (xs := ts) (L := slices_IndexFunc_impl_Table_impl_Table_l0 ts impl_TablesOk_1) (p := fun t => !(tabOk t)) (by omega) (fun f i v hi hv hw => by
    have : (i : Int) < ts.length := by omega
    have hv' := h.2 v (List.mem_of_getElem? hv)
    simp only [slices_IndexFunc_impl_Table_impl_Table_l0, this, decide_true, cond_true, getI_nat, hv, Option.bind_some, impl_TablesOk_1, impl_colsOk hv'.1, impl_rowsOk hv'.1 hv'.2, hw, gt6, tabOk, rowsOk]
    cases colsOk v.fColumns <;> cases decide (v.fRows.length ≤ 6) <;> simp) (fun f => by
    simp only [slices_IndexFunc_impl_Table_impl_Table_l0, Int.lt_irrefl, decide_false, cond_false])
  rw [h1, Option.bind_some, h2]

theorem impl_tabsOk {ts : List T_impl_Table} (h : SmTs ts) : impl_TablesOk ts = some (tabsOk ts) := by
  unfold impl_TablesOk tabsOk
  rw [impl_tabsAny h, Option.bind_some, not_any_not]
  have : decide ((ts.length : Int) ≤ 3) = decide (ts.length ≤ 3) := by
    simp only [decide_eq_decide]
    omega
  rw [this]
  cases decide (ts.length ≤ 3) <;> simp

end Go.D
