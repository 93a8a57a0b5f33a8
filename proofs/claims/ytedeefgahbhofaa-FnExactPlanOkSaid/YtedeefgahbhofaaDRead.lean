/- A small logic over the kit's 'Calls'. Part 40: what a reading of the arguments says of them. -/
import Derived.Test.YtedeefgahbhofaaDShow
import Derived.ChangeArms
import Derived.ChangeShapes
import Derived.Deep.Slices
set_option linter.unusedVariables false
namespace Go.D

/-- Cells that can be read as a value of type t are those of a value of the Lean type, and it is well formed. -/
def Rd (P : Program) (t : TypeId) (α : Type) [Enc α] (W : α → Prop) : Prop :=
  P.cellsOf t = Enc.sz α ∧ ∀ (H : Type) (enc : TypeId × Value → H) (w : World) (base : Nat) (sp : Nat → Bool) (held : Bool) (fuel : Nat) (cs : List Value) (x : DataW H × List MemPlace), DataW.trod enc P w base sp held fuel t cs = some x →
    ∃ y : α, FrL w (fun _ => False) (Enc.cells y) cs ∧ W y

def intW (n : Int) : Prop := -9223372036854775808 ≤ n ∧ n ≤ 9223372036854775807
def boolW (_ : Bool) : Prop := True
def strW (s : ByteArray) : Prop := s.size ≤ 9223372036854775807
def listW {α : Type} (W : α → Prop) (l : List α) : Prop := l.length ≤ 9223372036854775807 ∧ ∀ x ∈ l, W x

section
variable {P : Program}

theorem rd_int {t : TypeId} (ht : P.underlying t = some (.int .i64)) (hc : P.cellsOf t = 1) : Rd P t Int intW := ⟨hc, fun H enc w base sp held fuel cs x h => by
  obtain ⟨n, rfl, _, hw⟩ := DataW.trod_int ht h
  refine ⟨n, ?_, by simpa [Lit.wf, IntKind.min, IntKind.max, IntKind.signed, IntKind.bits, intW] using hw⟩
  show FrL w _ [I n] _
  simp only [FrL]
  exact ⟨_, _, rfl, by simp only [Fr], rfl⟩⟩

theorem rd_bool {t : TypeId} (ht : P.underlying t = some .bool) (hc : P.cellsOf t = 1) : Rd P t Bool boolW := ⟨hc, fun H enc w base sp held fuel cs x h => by
  obtain ⟨b, rfl, _⟩ := DataW.trod_bool ht h
  refine ⟨b, ?_, trivial⟩
  show FrL w _ [B b] _
  simp only [FrL]
  exact ⟨_, _, rfl, by simp only [Fr], rfl⟩⟩

theorem rd_str {t : TypeId} (ht : P.underlying t = some .string) (hc : P.cellsOf t = 1) : Rd P t ByteArray strW := ⟨hc, fun H enc w base sp held fuel cs x h => by
  obtain ⟨s, rfl, _, hs⟩ := DataW.trod_string ht h
  refine ⟨s, ?_, by simpa [strW, maxLen] using hs⟩
  show FrL w _ [S s] _
  simp only [FrL]
  exact ⟨_, _, rfl, by simp only [Fr], rfl⟩⟩

theorem eL_flat {α : Type} [Enc α] {w : World} {M : Nat → Prop} : ∀ {ys : List α} {uss : List (List Value)}, ys.length = uss.length → (∀ (i : Nat) (y : α) (us : List Value), ys[i]? = some y → uss[i]? = some us → FrL w M (Enc.cells y) us) → FrL w M (eL ys) uss.flatten
  | [], [], _, _ => by simp [eL, FrL]
  | [], _ :: _, h, _ => by simp at h
  | _ :: _, [], h, _ => by simp at h
  | y :: ys, us :: uss, h, k => by
    simp only [eL, List.flatten_cons]
    exact FrL.append (k 0 y us rfl rfl) (eL_flat (by simpa using h) fun i y' us' h1 h2 => k (i + 1) y' us' (by simpa using h1) (by simpa using h2))

theorem flat_get {sz : Nat} (hsz : 0 < sz) : ∀ {uss : List (List Value)}, (∀ us ∈ uss, us.length = sz) → ∀ {j : Nat} {v : Value}, uss.flatten[j]? = some v → ∃ us, uss[j / sz]? = some us ∧ us[j % sz]? = some v
  | [], _, j, v, h => by simp at h
  | us :: uss, hl, j, v, h => by
    have h0 : us.length = sz := hl us (by simp)
    simp only [List.flatten_cons] at h
    rcases Nat.lt_or_ge j sz with hj | hj
    · rw [List.getElem?_append_left (by omega)] at h
      refine ⟨us, by rw [Nat.div_eq_of_lt hj]; rfl, by rw [Nat.mod_eq_of_lt hj]; exact h⟩
    · rw [List.getElem?_append_right (by omega), h0] at h
      obtain ⟨us', h1, h2⟩ := flat_get hsz (fun us' hu => hl us' (by simp [hu])) h
      refine ⟨us', ?_, ?_⟩
      · have : j / sz = (j - sz) / sz + 1 := by rw [Nat.div_eq_sub_div hsz hj]
        rw [this]
        simpa using h1
      · rw [Nat.mod_eq_sub_mod hj]; exact h2

theorem rd_slice {t e : TypeId} {α : Type} [Enc α] {W : α → Prop} (ht : P.underlying t = some (.slice e)) (hc : P.cellsOf t = 1) (he : Rd P e α W) : Rd P t (List α) (listW W) := ⟨hc, fun H enc w base sp held fuel cs x h => by
  obtain ⟨hce, he⟩ := he
  have hpos : 0 < Enc.sz α := Enc.pos
  have fin : ∀ (ys : List α) (v : Value), Fr w (fun _ => False) (A ys) v → listW W ys → ∃ y : List α, FrL w (fun _ => False) (Enc.cells y) [v] ∧ listW W y := fun ys v h1 h2 => ⟨ys, by
    show FrL w _ [A ys] _
    simp only [FrL]
    exact ⟨_, _, rfl, h1, rfl⟩, h2⟩
  rcases Go.Deep.open_slice ht h with ⟨rfl, _⟩ | ⟨a, len, cap, m, n, D, Pl, rfl, hb, hl, hm, hmm, _, hx⟩
  · exact fin [] _ (Fr.nil w _ _ hpos) ⟨by simp, by simp⟩
  · have hcapm : cap ≤ maxI := by simpa [maxLen, maxI] using hm
    by_cases h0 : len = 0
    · subst h0
      refine fin [] _ ?_ ⟨by simp, by simp⟩
      simp only [Fr]
      exact ⟨some a, cap, rfl, ⟨hpos, by simp [eL], by simp, hcapm, fun h => by cases h⟩, .inl rfl⟩
    · have hlm : len ≤ m := by rw [hmm]; split <;> omega
      have hel : ∀ i, i < len → ∃ p : List Value × α, w.cells? base (a.add (i * P.cellsOf e)) (P.cellsOf e) = some p.1 ∧ FrL w (fun _ => False) (Enc.cells p.2) p.1 ∧ W p.2 := by
        intro i hi
        obtain ⟨cs', h1, h2⟩ := hx i (by omega)
        obtain ⟨y, h3, h4⟩ := he H enc w base sp held n cs' _ h2
        exact ⟨(cs', y), h1, h3, h4⟩
      obtain ⟨p0, hp0⟩ := hel 0 (by omega)
      haveI : Inhabited (List Value × α) := ⟨p0⟩
      obtain ⟨F, hF⟩ := Go.Deep.choose_lt (α := List Value × α) (p := fun i p => w.cells? base (a.add (i * P.cellsOf e)) (P.cellsOf e) = some p.1 ∧ FrL w (fun _ => False) (Enc.cells p.2) p.1 ∧ W p.2) hel
      let ys : List α := (List.range len).map fun i => (F i).2
      let uss : List (List Value) := (List.range len).map fun i => (F i).1
      have hul : ∀ us ∈ uss, us.length = Enc.sz α := by
        intro us hu
        obtain ⟨i, hi, rfl⟩ := List.mem_map.1 hu
        have := (World.cells?_some (hF i (List.mem_range.1 hi)).1).2.1
        rw [this, hce]
      have hys : ys.length = len := by simp [ys]
      have hfl : FrL w (fun _ => False) (eL ys) uss.flatten := eL_flat (by simp [ys, uss]) fun i y us h1 h2 => by
        simp only [ys, uss, List.getElem?_map] at h1 h2
        have hi : i < len := by
          cases hr : (List.range len)[i]? with
          | none => rw [hr] at h1; cases h1
          | some k => have := (List.getElem?_eq_some_iff.1 hr).1; simpa using this
        rw [List.getElem?_range hi] at h1 h2
        simp only [Option.map_some, Option.some.injEq] at h1 h2
        rw [← h1, ← h2]
        exact (hF i hi).2.1
      have hul0 : ((F 0).1).length = Enc.sz α := hul _ (List.mem_map.2 ⟨0, by simp; omega, rfl⟩)
      have h00 : ∃ v, w.cell? a = some v := by
        have h1 := (World.cells?_some (hF 0 (by omega)).1).2.2 0 (by rw [hce]; exact hpos)
        rw [List.getElem?_eq_getElem (by omega)] at h1
        refine ⟨_, Eq.trans ?_ h1⟩
        simp [Addr.add]
      obtain ⟨v00, hv00⟩ := h00
      have hspot : a.spot = none := World.cell?_spot hv00
      obtain ⟨ab, ao, as_⟩ := a
      simp only at hspot
      subst hspot
      have hcell : ∀ i j, i < len → j < Enc.sz α → w.cell? ⟨ab, ao + (i * Enc.sz α + j), none⟩ = ((F i).1)[j]? := by
        intro i j hi hj
        have := (World.cells?_some (hF i hi).1).2.2 j (by rw [hce]; exact hj)
        rw [hce] at this
        rw [← this]
        congr 1
        unfold Addr.add
        split <;> split <;> simp_all <;> omega
      refine fin ys _ ?_ ⟨by rw [hys]; simp only [maxI] at hcapm; omega, fun y hy => by
        obtain ⟨i, hi, rfl⟩ := List.mem_map.1 hy
        exact (hF i (List.mem_range.1 hi)).2.2⟩
      simp only [Fr]
      refine ⟨some ⟨ab, ao, none⟩, cap, by rw [hys], ⟨hpos, by rw [eL_len], by rw [hys]; exact hl, hcapm, fun h => by cases h⟩, .inr ⟨ab, ao, uss.flatten, rfl, World.block_lt_of_cell? _ _ hv00, fun h => h, hfl, fun j hj => ?_⟩⟩
      obtain ⟨us, h1, h2⟩ := flat_get hpos hul (List.getElem?_eq_getElem hj)
      have hi : j / Enc.sz α < len := by
        have := (List.getElem?_eq_some_iff.1 h1).1
        simpa [uss] using this
      simp only [uss, List.getElem?_map, List.getElem?_range hi, Option.map_some, Option.some.injEq] at h1
      have := hcell (j / Enc.sz α) (j % Enc.sz α) hi (Nat.mod_lt _ hpos)
      rw [h1, h2] at this
      have e1 : j / Enc.sz α * Enc.sz α + j % Enc.sz α = j := by rw [Nat.mul_comm]; exact Nat.div_add_mod j _
      rw [e1] at this
      rw [List.getElem?_eq_getElem hj, ← this]⟩

end
end Go.D
