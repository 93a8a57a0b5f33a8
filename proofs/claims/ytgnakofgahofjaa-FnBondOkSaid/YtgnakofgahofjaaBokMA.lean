import Derived.Test.YtgnakofgahofjaaBokDXFC
import Derived.Test.YtgnakofgahofjaaBokDShow
import Derived.ChangeArms
import Derived.ChangeShapes
import Derived.Deep.Slices
import Derived.Test.YtgnakofgahofjaaBokDOwn3
import Derived.Test.YtgnakofgahofjaaBokDNil
import Derived.Test.YtgnakofgahofjaaBokDMin
import Derived.Test.YtgnakofgahofjaaBokDXFC
import Derived.Test.YtgnakofgahofjaaBokDXT
import Derived.OpenShut
import Derived.ReadAgain
import Derived.ProofKit
set_option linter.unusedVariables false
namespace Go.D
def Rd (P : Program) (t : TypeId) (α : Type) [Enc α] (W : α → Prop) : Prop :=
  P.cellsOf t = Enc.sz α ∧ ∀ (H : Type) (enc : TypeId × Value → H) (w : World) (base : Nat) (sp : Nat → Bool) (held : Bool) (fuel : Nat) (cs : List Value) (x : DataW H × List MemPlace), DataW.trod enc P w base sp held fuel t cs = some x →
    ∃ y : α, FrL w (fun _ => False) (Enc.cells y) cs ∧ W y
def u8W (_ : UInt8) : Prop := True
def listW {α : Type} (W : α → Prop) (l : List α) : Prop := l.length ≤ 9223372036854775807 ∧ ∀ x ∈ l, W x
section
variable {P : Program}
theorem rd_u8 {t : TypeId} (ht : P.underlying t = some (.int .u8)) (hc : P.cellsOf t = 1) : Rd P t UInt8 u8W := ⟨hc, fun H enc w base sp held fuel cs x h => by
  obtain ⟨n, rfl, _, hw⟩ := DataW.trod_int ht h
  have hn : 0 ≤ n ∧ n ≤ 255 := by simpa [Lit.wf, IntKind.min, IntKind.max, IntKind.signed, IntKind.bits] using hw
  refine ⟨UInt8.ofNat n.toNat, ?_, trivial⟩
  show FrL w _ [.lit (.int .u8 (UInt8.ofNat n.toNat).toNat)] _
  simp only [FrL]
  refine ⟨_, _, rfl, ?_, rfl⟩
  simp only [Fr]
  congr 1
  rw [UInt8.toNat_ofNat']
  omega⟩
theorem eL_flat {α : Type} [Enc α] {w : World} {M : Nat → Prop} : ∀ {ys : List α} {uss : List (List Value)}, ys.length = uss.length → (∀ (i : Nat) (y : α) (us : List Value), ys[i]? = some y → uss[i]? = some us → FrL w M (Enc.cells y) us) → FrL w M (eL ys) uss.flatten
  | [], [], _, _ => by simp [eL, FrL]
  | [], _ :: _, h, _ => by simp at h
  | _ :: _, [], h, _ => by simp at h
  | y :: ys, us :: uss, h, k => by
    simp only [eL, List.flatten_cons]
    exact FrL.append (k 0 y us rfl rfl) (eL_flat (by simpa using h) fun i y' us' h1 h2 => k (i + 1) y' us' (by simpa using h1) (by simpa using h2))
theorem flat_get {sz : Nat} (hsz : 0 < sz) : ∀ {uss : List (List Value)}, (∀ us ∈ uss, us.length = sz) → ∀ {j : Nat} {v : Value}, uss.flatten[j]? = some v → ∃ us, uss[j / sz]? = some us ∧ us[j % sz]? = some v
  | [], _, j, v, h => by simp at h
  | us :: uss, hl, j, v, h => by
    have h0 : us.length = sz := hl us (by simp)
    simp only [List.flatten_cons] at h
    rcases Nat.lt_or_ge j sz with hj | hj
    · rw [List.getElem?_append_left (by omega)] at h
      refine ⟨us, by rw [Nat.div_eq_of_lt hj]; rfl, by rw [Nat.mod_eq_of_lt hj]; exact h⟩
    · rw [List.getElem?_append_right (by omega), h0] at h
      obtain ⟨us', h1, h2⟩ := flat_get hsz (fun us' hu => hl us' (by simp [hu])) h
      refine ⟨us', ?_, ?_⟩
      · have : j / sz = (j - sz) / sz + 1 := by rw [Nat.div_eq_sub_div hsz hj]
        rw [this]
        simpa using h1
      · rw [Nat.mod_eq_sub_mod hj]; exact h2
theorem rd_slice {t e : TypeId} {α : Type} [Enc α] {W : α → Prop} (ht : P.underlying t = some (.slice e)) (hc : P.cellsOf t = 1) (he : Rd P e α W) : Rd P t (List α) (listW W) := ⟨hc, fun H enc w base sp held fuel cs x h => by
  obtain ⟨hce, he⟩ := he
  have hpos : 0 < Enc.sz α := Enc.pos
  have fin : ∀ (ys : List α) (v : Value), Fr w (fun _ => False) (A ys) v → listW W ys → ∃ y : List α, FrL w (fun _ => False) (Enc.cells y) [v] ∧ listW W y := fun ys v h1 h2 => ⟨ys, by
    show FrL w _ [A ys] _
    simp only [FrL]
    exact ⟨_, _, rfl, h1, rfl⟩, h2⟩
  rcases Go.Deep.open_slice ht h with ⟨rfl, _⟩ | ⟨a, len, cap, m, n, D, Pl, rfl, hb, hl, hm, hmm, _, hx⟩
  · exact fin [] _ (Fr.nil w _ _ hpos) ⟨by simp, by simp⟩
  · have hcapm : cap ≤ maxI := by simpa [maxLen, maxI] using hm
    by_cases h0 : len = 0
    · subst h0
      refine fin [] _ ?_ ⟨by simp, by simp⟩
      simp only [Fr]
      exact ⟨some a, cap, rfl, ⟨hpos, by simp [eL], by simp, hcapm, fun h => by cases h⟩, .inl rfl⟩
    · have hlm : len ≤ m := by rw [hmm]; split <;> omega
      have hel : ∀ i, i < len → ∃ p : List Value × α, w.cells? base (a.add (i * P.cellsOf e)) (P.cellsOf e) = some p.1 ∧ FrL w (fun _ => False) (Enc.cells p.2) p.1 ∧ W p.2 := by
        intro i hi
        obtain ⟨cs', h1, h2⟩ := hx i (by omega)
        obtain ⟨y, h3, h4⟩ := he H enc w base sp held n cs' _ h2
        exact ⟨(cs', y), h1, h3, h4⟩
      obtain ⟨p0, hp0⟩ := hel 0 (by omega)
      haveI : Inhabited (List Value × α) := ⟨p0⟩
      obtain ⟨F, hF⟩ := Go.Deep.choose_lt (α := List Value × α) (p := fun i p => w.cells? base (a.add (i * P.cellsOf e)) (P.cellsOf e) = some p.1 ∧ FrL w (fun _ => False) (Enc.cells p.2) p.1 ∧ W p.2) hel
      let ys : List α := (List.range len).map fun i => (F i).2
      let uss : List (List Value) := (List.range len).map fun i => (F i).1
      have hul : ∀ us ∈ uss, us.length = Enc.sz α := by
        intro us hu
        obtain ⟨i, hi, rfl⟩ := List.mem_map.1 hu
        have := (World.cells?_some (hF i (List.mem_range.1 hi)).1).2.1
        rw [this, hce]
      have hys : ys.length = len := by simp [ys]
      have hfl : FrL w (fun _ => False) (eL ys) uss.flatten := eL_flat (by simp [ys, uss]) fun i y us h1 h2 => by
        simp only [ys, uss, List.getElem?_map] at h1 h2
        have hi : i < len := by
          cases hr : (List.range len)[i]? with
          | none => rw [hr] at h1; cases h1
          | some k => have := (List.getElem?_eq_some_iff.1 hr).1; simpa using this
        rw [List.getElem?_range hi] at h1 h2
        simp only [Option.map_some, Option.some.injEq] at h1 h2
        rw [← h1, ← h2]
        exact (hF i hi).2.1
      have hul0 : ((F 0).1).length = Enc.sz α := hul _ (List.mem_map.2 ⟨0, by simp; omega, rfl⟩)
      have h00 : ∃ v, w.cell? a = some v := by
        have h1 := (World.cells?_some (hF 0 (by omega)).1).2.2 0 (by rw [hce]; exact hpos)
        rw [List.getElem?_eq_getElem (by omega)] at h1
        refine ⟨_, Eq.trans ?_ h1⟩
        simp [Addr.add]
      obtain ⟨v00, hv00⟩ := h00
      have hspot : a.spot = none := World.cell?_spot hv00
      obtain ⟨ab, ao, as_⟩ := a
      simp only at hspot
      subst hspot
      have hcell : ∀ i j, i < len → j < Enc.sz α → w.cell? ⟨ab, ao + (i * Enc.sz α + j), none⟩ = ((F i).1)[j]? := by
        intro i j hi hj
        have := (World.cells?_some (hF i hi).1).2.2 j (by rw [hce]; exact hj)
        rw [hce] at this
        rw [← this]
        congr 1
        unfold Addr.add
        split <;> split <;> simp_all <;> omega
      refine fin ys _ ?_ ⟨by rw [hys]; simp only [maxI] at hcapm; omega, fun y hy => by
        obtain ⟨i, hi, rfl⟩ := List.mem_map.1 hy
        exact (hF i (List.mem_range.1 hi)).2.2⟩
      simp only [Fr]
      refine ⟨some ⟨ab, ao, none⟩, cap, by rw [hys], ⟨hpos, by rw [eL_len], by rw [hys]; exact hl, hcapm, fun h => by cases h⟩, .inr ⟨ab, ao, uss.flatten, rfl, World.block_lt_of_cell? _ _ hv00, fun h => h, hfl, fun j hj => ?_⟩⟩
      obtain ⟨us, h1, h2⟩ := flat_get hpos hul (List.getElem?_eq_getElem hj)
      have hi : j / Enc.sz α < len := by
        have := (List.getElem?_eq_some_iff.1 h1).1
        simpa [uss] using this
      simp only [uss, List.getElem?_map, List.getElem?_range hi, Option.map_some, Option.some.injEq] at h1
      have := hcell (j / Enc.sz α) (j % Enc.sz α) hi (Nat.mod_lt _ hpos)
      rw [h1, h2] at this
      have e1 : j / Enc.sz α * Enc.sz α + j % Enc.sz α = j := by rw [Nat.mul_comm]; exact Nat.div_add_mod j _
      rw [e1] at this
      rw [List.getElem?_eq_getElem hj, ← this]⟩
end
end Go.D
set_option linter.unusedVariables false
namespace Go.D
theorem w64_of {n : Int} (h1 : -9223372036854775808 ≤ n) (h2 : n ≤ 9223372036854775807) : w64 n = n := by
  have hm : IntKind.i64.min = -9223372036854775808 := by decide
  have hM : IntKind.i64.max = 9223372036854775807 := by decide
  simp [w64, IntKind.wrap, IntKind.signed, IntKind.bits]
  omega
theorem getI_nat {α : Type} {xs : List α} {i : Nat} : getI xs (i : Int) = xs[i]? := by
  unfold getI
  rw [if_pos (by omega), Int.toNat_natCast]
theorem getI_lt {α : Type} {xs : List α} {i : Int} (h0 : 0 ≤ i) (h1 : i < xs.length) : ∃ x, getI xs i = some x ∧ xs[i.toNat]? = some x := by
  unfold getI
  rw [if_pos h0]
  have : i.toNat < xs.length := by omega
  exact ⟨xs[i.toNat], by rw [List.getElem?_eq_getElem this], by rw [List.getElem?_eq_getElem this]⟩
theorem app_lt {α : Type} {xs ys : List α} (h : xs.length + ys.length < 68719476736) : app xs ys = some (xs ++ ys) := if_pos h
theorem succ_w {i n : Nat} (h : i < n) (hn : n ≤ 70368744177663) : w64 ((i : Int) + 1) = ((i + 1 : Nat) : Int) := by
  rw [w64_of (by omega) (by omega)]
  omega
theorem loop_all {α : Type} {xs : List α} {L : Nat → Int → Option Bool} {p : α → Bool} {fin : Bool} (hlen : xs.length ≤ 70368744177662)
    (h : ∀ (f i : Nat) (v : α), i < xs.length → xs[i]? = some v → w64 ((i : Int) + 1) = ((i + 1 : Nat) : Int) → L (f + 1) i = bif p v then L f ((i + 1 : Nat) : Int) else some false)
    (he : ∀ f, L (f + 1) (xs.length : Int) = some fin) : L FUEL 0 = some (xs.all p && fin) := by
  have main : ∀ (k f i : Nat), i + k = xs.length → k < f → L f (i : Int) = some ((xs.drop i).all p && fin) := by
    intro k
    induction k with
    | zero =>
      intro f i hi hf
      obtain ⟨f, rfl⟩ : ∃ f', f = f' + 1 := ⟨f - 1, by omega⟩
      have : i = xs.length := by omega
      subst this
      rw [he, List.drop_length]
      simp
    | succ k ih =>
      intro f i hi hf
      obtain ⟨f, rfl⟩ : ∃ f', f = f' + 1 := ⟨f - 1, by omega⟩
      have hlt : i < xs.length := by omega
      rw [h f i xs[i] hlt (List.getElem?_eq_getElem hlt) (succ_w hlt (by omega)), ih f (i + 1) (by omega) (by omega), List.drop_eq_getElem_cons hlt, List.all_cons]
      cases p xs[i] <;> simp
  have := main xs.length FUEL 0 (by omega) (by unfold FUEL; omega)
  simpa using this
theorem loop_find {α : Type} {xs : List α} {L : Nat → Int → Option Int} {p : α → Bool} (hlen : xs.length ≤ 70368744177662)
    (h : ∀ (f i : Nat) (v : α), i < xs.length → xs[i]? = some v → w64 ((i : Int) + 1) = ((i + 1 : Nat) : Int) → L (f + 1) i = bif p v then some (i : Int) else L f ((i + 1 : Nat) : Int))
    (he : ∀ f, L (f + 1) (xs.length : Int) = some (-1)) : ∃ r, L FUEL 0 = some r ∧ decide (r ≥ 0) = xs.any p := by
  have main : ∀ (k f i : Nat), i + k = xs.length → k < f → ∃ r, L f (i : Int) = some r ∧ decide (r ≥ 0) = (xs.drop i).any p := by
    intro k
    induction k with
    | zero =>
      intro f i hi hf
      obtain ⟨f, rfl⟩ : ∃ f', f = f' + 1 := ⟨f - 1, by omega⟩
      have : i = xs.length := by omega
      subst this
      rw [he, List.drop_length]
      exact ⟨_, rfl, by simp⟩
    | succ k ih =>
      intro f i hi hf
      obtain ⟨f, rfl⟩ : ∃ f', f = f' + 1 := ⟨f - 1, by omega⟩
      have hlt : i < xs.length := by omega
      rw [h f i xs[i] hlt (List.getElem?_eq_getElem hlt) (succ_w hlt (by omega)), List.drop_eq_getElem_cons hlt, List.any_cons]
      cases hp : p xs[i] with
      | true => exact ⟨_, rfl, by simp⟩
      | false =>
        obtain ⟨r, h1, h2⟩ := ih f (i + 1) (by omega) (by omega)
        exact ⟨r, h1, by simp [h2]⟩
  have := main xs.length FUEL 0 (by omega) (by unfold FUEL; omega)
  simpa using this
theorem loop_rec {α σ β : Type} {xs : List α} {L : Nat → Int → σ → Option β} (R : List α → σ → β) (Inv : Nat → σ → Prop) (hlen : xs.length ≤ 70368744177662)
    (h : ∀ (f i : Nat) (s : σ) (v : α) (rest : List α), i < xs.length → xs[i]? = some v → w64 ((i : Int) + 1) = ((i + 1 : Nat) : Int) → Inv i s →
      L (f + 1) i s = some (R (v :: rest) s) ∨ ∃ s', Inv (i + 1) s' ∧ L (f + 1) i s = L f ((i + 1 : Nat) : Int) s' ∧ R (v :: rest) s = R rest s')
    (he : ∀ f s, Inv xs.length s → L (f + 1) (xs.length : Int) s = some (R [] s)) {s : σ} (h0 : Inv 0 s) : L FUEL 0 s = some (R xs s) := by
  have main : ∀ (k f i : Nat) (s : σ), i + k = xs.length → k < f → Inv i s → L f (i : Int) s = some (R (xs.drop i) s) := by
    intro k
    induction k with
    | zero =>
      intro f i s hi hf hI
      obtain ⟨f, rfl⟩ : ∃ f', f = f' + 1 := ⟨f - 1, by omega⟩
      have : i = xs.length := by omega
      subst this
      rw [he _ _ hI, List.drop_length]
    | succ k ih =>
      intro f i s hi hf hI
      obtain ⟨f, rfl⟩ : ∃ f', f = f' + 1 := ⟨f - 1, by omega⟩
      have hlt : i < xs.length := by omega
      rw [List.drop_eq_getElem_cons hlt]
      rcases h f i s xs[i] (xs.drop (i + 1)) hlt (List.getElem?_eq_getElem hlt) (succ_w hlt (by omega)) hI with h1 | ⟨s', h1, h2, h3⟩
      · exact h1
      · rw [h2, h3]
        exact ih f (i + 1) s' (by omega) (by omega) h1
  have := main xs.length FUEL 0 s (by omega) (by unfold FUEL; omega) h0
  simpa using this
end Go.D
set_option linter.unusedVariables false
namespace Go.D
abbrev Sm (n : Nat) : Prop := n ≤ 2097152
def inR (a b c : Int) : Bool := decide (b ≤ a) && decide (a ≤ c)
theorem spec_in (a b c : Int) : spec_l1In a b c = some (inR a b c) := by
  unfold spec_l1In inR
  by_cases h : b ≤ a <;> simp [h]
theorem impl_in (a b c : Int) : impl_between a b c = some (inR a b c) := by
  unfold impl_between inR
  by_cases h : b ≤ a <;> simp [h]
def colsOk (cs : List T_impl_Column) : Bool := cs.all (fun c => inR c.fKind 1 3) && decide (cs.length ≤ 4)
theorem spec_colsOk {cs : List T_impl_Column} (h : Sm cs.length) : spec_ColumnsOk cs = some (colsOk cs) := by
  unfold spec_ColumnsOk colsOk
  refine loop_all (by omega) (fun f i v hi hv hw => ?_) (fun f => ?_)
  · have : (i : Int) < cs.length := by omega
    simp only [spec_ColumnsOk_l0, this, decide_true, cond_true, getI_nat, hv, Option.bind_some, spec_in, hw]
    cases inR v.fKind 1 3 <;> rfl
  · simp only [spec_ColumnsOk_l0, Int.lt_irrefl, decide_false, cond_false]
    congr 1
    simp only [decide_eq_decide]
    omega
theorem impl_colsAny {cs : List T_impl_Column} (h : Sm cs.length) : slices_ContainsFunc_impl_Column_impl_Column cs impl_ColumnsOk_1 = some (cs.any fun c => !(inR c.fKind 1 3)) := by
  unfold slices_ContainsFunc_impl_Column_impl_Column slices_IndexFunc_impl_Column_impl_Column
  obtain ⟨r, h1, h2⟩ := loop_find (xs := cs) (L := slices_IndexFunc_impl_Column_impl_Column_l0 cs impl_ColumnsOk_1) (p := fun c => !(inR c.fKind 1 3)) (by omega) (fun f i v hi hv hw => by
    have : (i : Int) < cs.length := by omega
    simp only [slices_IndexFunc_impl_Column_impl_Column_l0, this, decide_true, cond_true, getI_nat, hv, Option.bind_some, impl_ColumnsOk_1, impl_in, hw]) (fun f => by
    simp only [slices_IndexFunc_impl_Column_impl_Column_l0, Int.lt_irrefl, decide_false, cond_false])
  rw [h1, Option.bind_some, h2]
theorem not_any_not {α : Type} (xs : List α) (p : α → Bool) : (!(xs.any fun x => !(p x))) = xs.all p := by
  induction xs with
  | nil => rfl
  | cons x xs ih => simp [← ih]
theorem impl_colsOk {cs : List T_impl_Column} (h : Sm cs.length) : impl_ColumnsOk cs = some (colsOk cs) := by
  unfold impl_ColumnsOk colsOk
  rw [impl_colsAny h, Option.bind_some, not_any_not]
  by_cases h4 : cs.length ≤ 4
  · have : (cs.length : Int) ≤ 4 := by omega
    simp [h4, this]
  · have : ¬ (cs.length : Int) ≤ 4 := by omega
    simp [h4, this]
theorem cast_le6 (n : Nat) : decide ((n : Int) ≤ 6) = decide (n ≤ 6) := by
  simp only [decide_eq_decide]
  omega
theorem getB_nat {s : ByteArray} {i : Nat} : getB s (i : Int) = s.data.toList[i]? := by
  unfold getB
  rw [if_pos (by omega), Int.toNat_natCast]
  by_cases h : i < s.size
  · rw [getElem?_pos s i h, List.getElem?_eq_getElem (by simpa using h)]
    simp only [Option.some.injEq]
    rfl
  · rw [getElem?_neg s i h, List.getElem?_eq_none (by simpa using h)]
def letter (b : UInt8) : Bool := decide (97 ≤ b.toNat) && decide (b.toNat ≤ 122)
def textOk (s : ByteArray) : Bool := s.data.toList.all letter && decide (s.size ≤ 6)
theorem size_list (s : ByteArray) : s.data.toList.length = s.size := Array.length_toList
theorem spec_text {s : ByteArray} (h : Sm s.size) : spec_l1Text s = some (textOk s) := by
  unfold spec_l1Text textOk
  have hl := size_list s
  refine loop_all (xs := s.data.toList) (by omega) (fun f i v hi hv hw => ?_) (fun f => ?_)
  · have : (i : Int) < s.size := by omega
    simp only [spec_l1Text_l0, this, decide_true, cond_true, getB_nat, hv, Option.bind_some, spec_l1Text_j1, hw]
    unfold letter
    by_cases h1 : (v.toNat : Int) < 97
    · have : ¬ 97 ≤ v.toNat := by omega
      simp [h1, this]
    · have h1' : 97 ≤ v.toNat := by omega
      by_cases h2 : (v.toNat : Int) > 122
      · have : ¬ v.toNat ≤ 122 := by omega
        simp [h1, h1', h2, this]
      · have : v.toNat ≤ 122 := by omega
        simp [h1, h1', h2, this]
  · rw [hl]
    unfold spec_l1Text_l0
    rw [show decide ((s.size : Int) < (s.size : Int)) = false from decide_eq_false (Int.lt_irrefl _), cond_false, cast_le6]
theorem impl_lettersOk {s : ByteArray} (h : Sm s.size) : impl_letters s = some (s.data.toList.all letter) := by
  have hl := size_list s
  unfold impl_letters bytesOf
  rw [if_pos (by omega), Option.bind_some, ← Bool.and_true (s.data.toList.all letter)]
  refine loop_all (xs := s.data.toList) (by omega) (fun f i v hi hv hw => ?_) (fun f => ?_)
  · have : (i : Int) < s.data.toList.length := by omega
    have hb : v.toNat < 256 := v.toNat_lt
    have h1 : w64 (v.toNat : Int) = v.toNat := w64_of (by omega) (by omega)
    simp only [impl_letters_l0, this, decide_true, cond_true, getI_nat, hv, Option.bind_some, impl_in, hw, h1]
    have : inR (v.toNat : Int) 97 122 = letter v := by
      unfold inR letter
      congr 1 <;> simp only [decide_eq_decide] <;> omega
    rw [this]
    cases letter v <;> rfl
  · simp only [impl_letters_l0, Int.lt_irrefl, decide_false, cond_false]
def valOk (v : T_impl_Value) : Bool := bif v.fKind == 0 then v.fN == 0 && v.fS.toList == (ByteArray.mk #[]).toList else bif v.fKind == 1 then inR v.fN (-9999) 9999 && v.fS.toList == (ByteArray.mk #[]).toList else
  bif v.fKind == 2 then v.fN == 0 && textOk v.fS else bif v.fKind == 3 then inR v.fN 0 1 && v.fS.toList == (ByteArray.mk #[]).toList else false
theorem spec_value {v : T_impl_Value} (h : Sm v.fS.size) : spec_ValueOk v = some (valOk v) := by
  unfold spec_ValueOk valOk
  simp only [spec_in, spec_text h, Option.bind_some]
  cases v.fKind == 0 <;> cases v.fKind == 1 <;> cases v.fKind == 2 <;> cases v.fKind == 3 <;> cases v.fN == 0 <;> cases inR v.fN (-9999) 9999 <;> cases inR v.fN 0 1 <;> rfl
theorem impl_value {v : T_impl_Value} (h : Sm v.fS.size) : impl_Value_ok v = some (valOk v) := by
  unfold impl_Value_ok valOk
  simp only [impl_in, impl_lettersOk h, Option.bind_some]
  have e : eq_T_impl_Value v ((T_impl_Value.mk 0 0 (ByteArray.mk #[]))) = (v.fKind == 0 && (v.fN == 0 && v.fS.toList == (ByteArray.mk #[]).toList)) := rfl
  have e2 : decide ((v.fS.size : Int) ≤ 6) = decide (v.fS.size ≤ 6) := by
    simp only [decide_eq_decide]
    omega
  have e3 : textOk v.fS = (v.fS.data.toList.all letter && decide (v.fS.size ≤ 6)) := rfl
  rw [e, e2, e3]
  cases v.fKind == 0 <;> cases v.fKind == 1 <;> cases v.fKind == 2 <;> cases v.fKind == 3 <;> cases v.fN == 0 <;> cases inR v.fN (-9999) 9999 <;> cases inR v.fN 0 1 <;> cases v.fS.toList == (ByteArray.mk #[]).toList <;>
    cases decide (v.fS.size ≤ 6) <;> cases v.fS.data.toList.all letter <;> rfl
def SmV (v : T_impl_Value) : Prop := Sm v.fS.size
def SmR (r : List T_impl_Value) : Prop := Sm r.length ∧ ∀ v ∈ r, SmV v
def rowOk (r : List T_impl_Value) : Bool := r.all valOk && decide (r.length ≤ 4)
theorem spec_rowOk {r : List T_impl_Value} (h : SmR r) : spec_RowOk r = some (rowOk r) := by
  unfold spec_RowOk rowOk
  have hl := h.1
  refine loop_all (by omega) (fun f i v hi hv hw => ?_) (fun f => ?_)
  · have : (i : Int) < r.length := by omega
    simp only [spec_RowOk_l0, this, decide_true, cond_true, getI_nat, hv, Option.bind_some, spec_value (h.2 v (List.mem_of_getElem? hv)), hw]
    cases valOk v <;> rfl
  · simp only [spec_RowOk_l0, Int.lt_irrefl, decide_false, cond_false]
    congr 1
    simp only [decide_eq_decide]
    omega
theorem impl_rowAny {r : List T_impl_Value} (h : SmR r) : slices_ContainsFunc_impl_Value_impl_Value r impl_RowOk_1 = some (r.any fun v => !(valOk v)) := by
  unfold slices_ContainsFunc_impl_Value_impl_Value slices_IndexFunc_impl_Value_impl_Value
  have hl := h.1
  obtain ⟨x, h1, h2⟩ := loop_find (xs := r) (L := slices_IndexFunc_impl_Value_impl_Value_l0 r impl_RowOk_1) (p := fun v => !(valOk v)) (by omega) (fun f i v hi hv hw => by
    have : (i : Int) < r.length := by omega
    simp only [slices_IndexFunc_impl_Value_impl_Value_l0, this, decide_true, cond_true, getI_nat, hv, Option.bind_some, impl_RowOk_1, impl_value (h.2 v (List.mem_of_getElem? hv)), hw]) (fun f => by
    simp only [slices_IndexFunc_impl_Value_impl_Value_l0, Int.lt_irrefl, decide_false, cond_false])
  rw [h1, Option.bind_some, h2]
theorem le4 {α : Type} (xs : List α) : decide ((xs.length : Int) ≤ 4) = decide (xs.length ≤ 4) := by
  simp only [decide_eq_decide]
  omega
theorem impl_rowOk {r : List T_impl_Value} (h : SmR r) : impl_RowOk r = some (rowOk r) := by
  unfold impl_RowOk rowOk
  rw [impl_rowAny h, Option.bind_some, not_any_not, le4]
  cases decide (r.length ≤ 4) <;> simp
def fits (c : T_impl_Column) (v : T_impl_Value) : Bool := v.fKind == c.fKind || (v.fKind == 0 && c.fEmpty)
def rowFits (cs : List T_impl_Column) (r : List T_impl_Value) : Bool := colsOk cs && (rowOk r && (r.length == cs.length && (r.zip cs).all fun p => fits p.2 p.1))
theorem zip_get {α β : Type} {xs : List α} {ys : List β} (h : xs.length = ys.length) {i : Nat} {p : α × β} (hp : (xs.zip ys)[i]? = some p) : xs[i]? = some p.1 ∧ ys[i]? = some p.2 := by
  rw [List.getElem?_zip_eq_some] at hp
  exact hp
theorem spec_rowFits {cs : List T_impl_Column} {r : List T_impl_Value} (hc : Sm cs.length) (h : SmR r) : spec_RowFits cs r = some (rowFits cs r) := by
  unfold spec_RowFits rowFits
  rw [spec_colsOk hc, Option.bind_some, spec_rowOk h, Option.bind_some]
  cases colsOk cs
  · rfl
  · cases rowOk r
    · rfl
    · by_cases he : r.length = cs.length
      · have e1 : ((r.length : Int) == (cs.length : Int)) = true := by simp [he]
        have e2 : (r.length == cs.length) = true := by simp [he]
        rw [e1, e2]
        simp only [Bool.not_true, cond_false, spec_RowFits_j0, Bool.true_and]
        have hl := h.1
        have hz : (r.zip cs).length = r.length := by simp [he]
        rw [show (r.zip cs).all (fun p => fits p.2 p.1) = ((r.zip cs).all (fun p => fits p.2 p.1) && true) by simp]
        refine loop_all (xs := r.zip cs) (by omega) (fun f i p hi hp hw => ?_) (fun f => ?_)
        · obtain ⟨p1, p2⟩ := zip_get he hp
          have : (i : Int) < r.length := by omega
          simp only [spec_RowFits_l1, this, decide_true, cond_true, getI_nat, p1, p2, Option.bind_some, spec_RowFits_j2, hw, fits]
          cases p.1.fKind == p.2.fKind <;> cases p.1.fKind == 0 <;> cases p.2.fEmpty <;> rfl
        · rw [hz]
          simp only [spec_RowFits_l1, Int.lt_irrefl, decide_false, cond_false]
      · have e1 : ((r.length : Int) == (cs.length : Int)) = false := by
          simp only [beq_eq_false_iff_ne, ne_eq]
          omega
        have e2 : (r.length == cs.length) = false := by simp [he]
        rw [e1, e2]
        rfl
theorem impl_rowFits {cs : List T_impl_Column} {r : List T_impl_Value} (hc : Sm cs.length) (h : SmR r) : impl_RowFits cs r = some (rowFits cs r) := by
  unfold impl_RowFits rowFits
  rw [impl_colsOk hc, Option.bind_some, impl_rowOk h, Option.bind_some]
  cases colsOk cs
  · rfl
  · cases rowOk r
    · rfl
    · by_cases he : r.length = cs.length
      · have e1 : ((r.length : Int) == (cs.length : Int)) = true := by simp [he]
        have e2 : (r.length == cs.length) = true := by simp [he]
        rw [e1, e2]
        simp only [Bool.not_true, cond_false, impl_RowFits_j0, Bool.true_and]
        have hl := h.1
        have hz : (r.zip cs).length = r.length := by simp [he]
        rw [show (r.zip cs).all (fun p => fits p.2 p.1) = ((r.zip cs).all (fun p => fits p.2 p.1) && true) by simp]
        refine loop_all (xs := r.zip cs) (by omega) (fun f i p hi hp hw => ?_) (fun f => ?_)
        · obtain ⟨p1, p2⟩ := zip_get he hp
          have : (i : Int) < r.length := by omega
          simp only [impl_RowFits_l1, this, decide_true, cond_true, getI_nat, p1, p2, Option.bind_some, impl_RowFits_j2, hw, fits]
          cases p.1.fKind == p.2.fKind <;> cases p.1.fKind == 0 <;> cases p.2.fEmpty <;> rfl
        · rw [hz]
          simp only [impl_RowFits_l1, Int.lt_irrefl, decide_false, cond_false]
      · have e1 : ((r.length : Int) == (cs.length : Int)) = false := by
          simp only [beq_eq_false_iff_ne, ne_eq]
          omega
        have e2 : (r.length == cs.length) = false := by simp [he]
        rw [e1, e2]
        rfl
def SmRs (rs : List (List T_impl_Value)) : Prop := Sm rs.length ∧ ∀ r ∈ rs, SmR r
def rowsOk (cs : List T_impl_Column) (rs : List (List T_impl_Value)) : Bool := colsOk cs && rs.all (rowFits cs)
theorem spec_rowsOk {cs : List T_impl_Column} {rs : List (List T_impl_Value)} (hc : Sm cs.length) (h : SmRs rs) : spec_RowsOk cs rs = some (rowsOk cs rs) := by
  unfold spec_RowsOk rowsOk
  have hl := h.1
  rw [Bool.and_comm]
  refine loop_all (by omega) (fun f i v hi hv hw => ?_) (fun f => ?_)
  · have : (i : Int) < rs.length := by omega
    simp only [spec_RowsOk_l0, this, decide_true, cond_true, getI_nat, hv, Option.bind_some, spec_rowFits hc (h.2 v (List.mem_of_getElem? hv)), hw]
    cases rowFits cs v <;> rfl
  · simp only [spec_RowsOk_l0, Int.lt_irrefl, decide_false, cond_false, spec_colsOk hc, Option.bind_some]
theorem impl_rowsAny {cs : List T_impl_Column} {rs : List (List T_impl_Value)} (hc : Sm cs.length) (h : SmRs rs) : slices_ContainsFunc_impl_Value_impl_Value_s3 rs (fun z0 => impl_RowsOk_1 z0 cs) = some (rs.any fun r => !(rowFits cs r)) := by
  unfold slices_ContainsFunc_impl_Value_impl_Value_s3 slices_IndexFunc_impl_Value_impl_Value_s3
  have hl := h.1
  obtain ⟨x, h1, h2⟩ := loop_find (xs := rs) (L := slices_IndexFunc_impl_Value_impl_Value_s3_l0 rs (fun z0 => impl_RowsOk_1 z0 cs)) (p := fun r => !(rowFits cs r)) (by omega) (fun f i v hi hv hw => by
    have : (i : Int) < rs.length := by omega
    simp only [slices_IndexFunc_impl_Value_impl_Value_s3_l0, this, decide_true, cond_true, getI_nat, hv, Option.bind_some, impl_RowsOk_1, impl_rowFits hc (h.2 v (List.mem_of_getElem? hv)), hw]) (fun f => by
    simp only [slices_IndexFunc_impl_Value_impl_Value_s3_l0, Int.lt_irrefl, decide_false, cond_false])
  rw [h1, Option.bind_some, h2]
theorem impl_rowsOk {cs : List T_impl_Column} {rs : List (List T_impl_Value)} (hc : Sm cs.length) (h : SmRs rs) : impl_RowsOk cs rs = some (rowsOk cs rs) := by
  unfold impl_RowsOk rowsOk
  rw [impl_colsOk hc, Option.bind_some, impl_rowsAny hc h, Option.bind_some, not_any_not]
  cases colsOk cs <;> rfl
end Go.D
set_option linter.unusedVariables false
namespace Go.D
theorem loop_opt {α σ β : Type} {xs : List α} {L : Nat → Int → σ → Option β} (R : List α → σ → Option β) (Inv : Nat → σ → Prop) (hlen : xs.length ≤ 70368744177662)
    (h : ∀ (f i : Nat) (s : σ) (v : α), i < xs.length → xs[i]? = some v → w64 ((i : Int) + 1) = ((i + 1 : Nat) : Int) → Inv i s →
      L (f + 1) i s = R (v :: xs.drop (i + 1)) s ∨ ∃ s', Inv (i + 1) s' ∧ L (f + 1) i s = L f ((i + 1 : Nat) : Int) s' ∧ R (v :: xs.drop (i + 1)) s = R (xs.drop (i + 1)) s')
    (he : ∀ f s, Inv xs.length s → L (f + 1) (xs.length : Int) s = R [] s) {s : σ} (h0 : Inv 0 s) : L FUEL 0 s = R xs s := by
  have main : ∀ (k f i : Nat) (s : σ), i + k = xs.length → k < f → Inv i s → L f (i : Int) s = R (xs.drop i) s := by
    intro k
    induction k with
    | zero =>
      intro f i s hi hf hI
      obtain ⟨f, rfl⟩ : ∃ f', f = f' + 1 := ⟨f - 1, by omega⟩
      have : i = xs.length := by omega
      subst this
      rw [he _ _ hI, List.drop_length]
    | succ k ih =>
      intro f i s hi hf hI
      obtain ⟨f, rfl⟩ : ∃ f', f = f' + 1 := ⟨f - 1, by omega⟩
      have hlt : i < xs.length := by omega
      rw [List.drop_eq_getElem_cons hlt]
      rcases h f i s xs[i] hlt (List.getElem?_eq_getElem hlt) (succ_w hlt (by omega)) hI with h1 | ⟨s', h1, h2, h3⟩
      · exact h1
      · rw [h2, h3]
        exact ih f (i + 1) s' (by omega) (by omega) h1
  have := main xs.length FUEL 0 s (by omega) (by unfold FUEL; omega) h0
  simpa using this
end Go.D
set_option linter.unusedVariables false
namespace Go.D
structure RdOk (n : Int) (r : T_spec_l20Rd) : Prop where
  len : r.fB.length ≤ 2000
  lo : 0 ≤ r.fP
  hi : r.fP ≤ n
theorem RdOk.up {n m : Int} {r : T_spec_l20Rd} (h : RdOk n r) (hm : n ≤ m) : RdOk m r := ⟨h.len, h.lo, by have := h.hi; omega⟩
theorem remI_pos {a b : Int} (ha : 0 ≤ a) (hb : 0 < b) : ∃ k, remI a b = some k ∧ 0 ≤ k ∧ k < b := by
  unfold remI
  rw [if_neg (by omega)]
  refine ⟨_, rfl, ?_, ?_⟩
  · rw [Int.tmod_eq_emod_of_nonneg ha]
    exact Int.emod_nonneg _ (by omega)
  · rw [Int.tmod_eq_emod_of_nonneg ha]
    exact Int.emod_lt_of_pos _ hb
theorem quoI_pos {a b : Int} (ha : 0 ≤ a) (ha2 : a ≤ 4611686018427387904) (hb : 0 < b) : ∃ k, quoI a b = some k ∧ 0 ≤ k ∧ k ≤ a := by
  unfold quoI
  rw [if_neg (by omega), Int.tdiv_eq_ediv_of_nonneg ha]
  have h0 : 0 ≤ a / b := Int.ediv_nonneg ha (by omega)
  have h1 : a / b ≤ a := Int.ediv_le_self _ ha
  rw [w64_of (by omega) (by omega)]
  exact ⟨_, rfl, h0, h1⟩
theorem xor_w {a b : Int} (ha : 0 ≤ a) (hb : 0 ≤ b) (ha2 : a < 4611686018427387904) (hb2 : b < 4611686018427387904) : 0 ≤ w64 (((BitVec.ofInt 64 a ^^^ BitVec.ofInt 64 b).toNat : Nat) : Int) := by
  obtain ⟨m, rfl⟩ := Int.eq_ofNat_of_zero_le ha
  obtain ⟨n, rfl⟩ := Int.eq_ofNat_of_zero_le hb
  have hm : m < 2 ^ 62 := by omega
  have hn : n < 2 ^ 62 := by omega
  have e : (BitVec.ofInt 64 (m : Int) ^^^ BitVec.ofInt 64 (n : Int)).toNat = m ^^^ n := by
    rw [BitVec.toNat_xor, BitVec.ofInt_natCast, BitVec.ofInt_natCast, BitVec.toNat_ofNat, BitVec.toNat_ofNat, Nat.mod_eq_of_lt (by omega), Nat.mod_eq_of_lt (by omega)]
  rw [e]
  have := Nat.xor_lt_two_pow hm hn
  rw [w64_of (by omega) (by omega)]
  omega
theorem pick_ok {n : Int} {r : T_spec_l20Rd} (h : RdOk n r) (hn : n ≤ 1000000) (a : Int) : ∃ k r', spec_l20Rd_pick r a = some (k, r') ∧ RdOk (n + 1) r' ∧ 0 ≤ k ∧ (a < 1 → k = 0) ∧ (1 ≤ a → k < a) := by
  obtain ⟨fB, fP⟩ := r
  obtain ⟨h1, h2, h3⟩ := h
  simp only at h1 h2 h3
  have w1 : w64 (fP + 1) = fP + 1 := w64_of (by omega) (by omega)
  have w2 : w64 (fP + 1 - 1) = fP := by rw [show fP + 1 - 1 = fP by omega]; exact w64_of (by omega) (by omega)
  have hr : RdOk (n + 1) ⟨fB, fP + 1⟩ := ⟨h1, by simp only; omega, by simp only; omega⟩
  unfold spec_l20Rd_pick
  by_cases ha : a < 1
  · rw [decide_eq_true ha, cond_true]
    unfold spec_l20Rd_pick_j0
    simp only [cond_true, w1]
    exact ⟨0, _, rfl, hr, Int.le_refl _, fun _ => rfl, fun h => by omega⟩
  rw [decide_eq_false ha, cond_false]
  unfold spec_l20Rd_pick_j0
  simp only [w1, w2]
  by_cases hl : fB.length = 0
  · have : ((fB.length : Int) == 0) = true := by rw [hl]; rfl
    rw [this, cond_true]
    exact ⟨0, _, rfl, hr, Int.le_refl _, fun _ => rfl, fun h => by omega⟩
  have : ((fB.length : Int) == 0) = false := by
    rw [beq_eq_false_iff_ne]
    omega
  rw [this, cond_false]
  have hpos : (0 : Int) < fB.length := by omega
  by_cases hp : fP < (fB.length : Int)
  · rw [decide_eq_true hp, cond_true]
    obtain ⟨b, hb, _⟩ := getI_lt (xs := fB) h2 hp
    have hb8 : b.toNat < 256 := b.toNat_lt
    have w3 : w64 (b.toNat : Int) = b.toNat := w64_of (by omega) (by omega)
    obtain ⟨k, hk, k0, k1⟩ := remI_pos (a := (b.toNat : Int)) (b := a) (by omega) (by omega)
    rw [hb, Option.bind_some, w3, hk, Option.bind_some]
    exact ⟨k, _, rfl, hr, k0, fun h => by omega, fun _ => k1⟩
  · rw [decide_eq_false hp, cond_false]
    have w4 : w64 (fP * 7) = fP * 7 := w64_of (by omega) (by omega)
    have w5 : w64 (fP * 7 + 3) = fP * 7 + 3 := w64_of (by omega) (by omega)
    have w6 : w64 (fP * 29) = fP * 29 := w64_of (by omega) (by omega)
    obtain ⟨k1, e1, l1, u1⟩ := remI_pos (a := fP) (b := (fB.length : Int)) h2 hpos
    obtain ⟨b1, g1, _⟩ := getI_lt (xs := fB) l1 u1
    obtain ⟨k2, e2, l2, u2⟩ := remI_pos (a := fP * 7 + 3) (b := (fB.length : Int)) (by omega) hpos
    obtain ⟨b2, g2, _⟩ := getI_lt (xs := fB) l2 u2
    obtain ⟨k3, e3, l3, u3⟩ := quoI_pos (a := fP) (b := (fB.length : Int)) h2 (by omega) hpos
    have hb1 : b1.toNat < 256 := b1.toNat_lt
    have hb2 : b2.toNat < 256 := b2.toNat_lt
    have w7 : w64 (b1.toNat : Int) = b1.toNat := w64_of (by omega) (by omega)
    have w8 : w64 (b2.toNat : Int) = b2.toNat := w64_of (by omega) (by omega)
    have w9 : w64 ((b1.toNat : Int) * 131) = (b1.toNat : Int) * 131 := w64_of (by omega) (by omega)
    have w10 : w64 ((b2.toNat : Int) * 1117) = (b2.toNat : Int) * 1117 := w64_of (by omega) (by omega)
    have w11 : w64 ((b1.toNat : Int) * 131 + (b2.toNat : Int) * 1117) = (b1.toNat : Int) * 131 + (b2.toNat : Int) * 1117 := w64_of (by omega) (by omega)
    have w12 : w64 ((b1.toNat : Int) * 131 + (b2.toNat : Int) * 1117 + fP * 29) = (b1.toNat : Int) * 131 + (b2.toNat : Int) * 1117 + fP * 29 := w64_of (by omega) (by omega)
    have w13 : w64 (k3 * 53) = k3 * 53 := w64_of (by omega) (by omega)
    have w14 : w64 ((b1.toNat : Int) * 131 + (b2.toNat : Int) * 1117 + fP * 29 + k3 * 53) = (b1.toNat : Int) * 131 + (b2.toNat : Int) * 1117 + fP * 29 + k3 * 53 := w64_of (by omega) (by omega)
    simp only [w4, w5, w6, e1, g1, e2, g2, e3, Option.bind_some, w7, w8, w9, w10, w11, w12, w13, w14]
    generalize hx : (b1.toNat : Int) * 131 + (b2.toNat : Int) * 1117 + fP * 29 + k3 * 53 = x
    have x0 : 0 ≤ x := by omega
    have x1 : x ≤ 100000000 := by omega
    have y0 : 0 ≤ x.tdiv 64 := by rw [Int.tdiv_eq_ediv_of_nonneg x0]; omega
    have y1 : x.tdiv 64 ≤ x := by rw [Int.tdiv_eq_ediv_of_nonneg x0]; omega
    have w15 : w64 (x.tdiv 64) = x.tdiv 64 := w64_of (by omega) (by omega)
    rw [w15]
    obtain ⟨k, hk, k0, kk⟩ := remI_pos (b := a) (xor_w (a := x) (b := x.tdiv 64) x0 y0 (by omega) (by omega)) (by omega)
    rw [hk, Option.bind_some]
    exact ⟨k, _, rfl, hr, k0, fun h => by omega, fun _ => kk⟩
theorem odd_ok {n : Int} {r : T_spec_l20Rd} (h : RdOk n r) (hn : n ≤ 1000000) (a : Int) : ∃ b r', spec_l20Rd_odd r a = some (b, r') ∧ RdOk (n + 1) r' := by
  unfold spec_l20Rd_odd
  by_cases ha : a > 0
  · obtain ⟨k, r', e, hr, _⟩ := pick_ok h hn a
    rw [decide_eq_true ha, cond_true, e, Option.bind_some]
    exact ⟨_, _, rfl, hr⟩
  · rw [decide_eq_false ha, cond_false]
    exact ⟨_, _, rfl, h.up (by omega)⟩
theorem odd_no {r : T_spec_l20Rd} : spec_l20Rd_odd r 0 = some (false, r) := rfl
theorem open_ok {b : List UInt8} (hb : b.length ≤ 1048576) : ∃ r, spec_l20Open b = some r ∧ RdOk 0 r := by
  unfold spec_l20Open spec_l20Open_j0
  by_cases h : (b.length : Int) > 2000
  · rw [decide_eq_true h, cond_true]
    have e : slI b none (some 2000) none = some (b.take 2000) := by
      unfold slI
      rw [if_pos (by simp only [Option.getD_none, Option.getD_some]; omega)]
      simp
    rw [e, Option.bind_some]
    exact ⟨_, rfl, by simp only [List.length_take]; omega, Int.le_refl _, Int.le_refl _⟩
  · rw [decide_eq_false h, cond_false]
    exact ⟨_, rfl, by simp only; omega, Int.le_refl _, Int.le_refl _⟩
end Go.D
set_option linter.unusedVariables false
namespace Go.D
def Wp {α : Type} (m : Option (α × T_spec_l20Rd)) (Q : α → T_spec_l20Rd → Prop) : Prop := ∃ x r, m = some (x, r) ∧ Q x r
theorem wp_some {α : Type} {x : α} {r : T_spec_l20Rd} {Q : α → T_spec_l20Rd → Prop} (h : Q x r) : Wp (some (x, r)) Q := ⟨x, r, rfl, h⟩
theorem wp_pick {α : Type} {r : T_spec_l20Rd} {a n : Int} {f : Int × T_spec_l20Rd → Option (α × T_spec_l20Rd)} {Q : α → T_spec_l20Rd → Prop} (h : RdOk n r) (hn : n ≤ 1000000)
    (hk : ∀ k r', RdOk (n + 1) r' → 0 ≤ k → (a < 1 → k = 0) → (1 ≤ a → k < a) → Wp (f (k, r')) Q) : Wp ((spec_l20Rd_pick r a).bind f) Q := by
  obtain ⟨k, r', e, h1, h2, h3, h4⟩ := pick_ok h hn a
  rw [e, Option.bind_some]
  exact hk k r' h1 h2 h3 h4
theorem wp_odd {α : Type} {r : T_spec_l20Rd} {a n : Int} {f : Bool × T_spec_l20Rd → Option (α × T_spec_l20Rd)} {Q : α → T_spec_l20Rd → Prop} (h : RdOk n r) (hn : n ≤ 1000000)
    (hk : ∀ b r', RdOk (n + 1) r' → Wp (f (b, r')) Q) : Wp ((spec_l20Rd_odd r a).bind f) Q := by
  obtain ⟨k, r', e, h1⟩ := odd_ok h hn a
  rw [e, Option.bind_some]
  exact hk k r' h1
theorem wp_bif {α : Type} {c : Bool} {a b : Option (α × T_spec_l20Rd)} {Q : α → T_spec_l20Rd → Prop} (h1 : c = true → Wp a Q) (h2 : c = false → Wp b Q) : Wp (bif c then a else b) Q := by
  cases c with
  | true => exact h1 rfl
  | false => exact h2 rfl
theorem wp_app {α β : Type} {xs ys : List β} {f : List β → Option (α × T_spec_l20Rd)} {Q : α → T_spec_l20Rd → Prop} (h : xs.length + ys.length < 68719476736) (hk : Wp (f (xs ++ ys)) Q) : Wp ((app xs ys).bind f) Q := by
  rw [app_lt h, Option.bind_some]
  exact hk
theorem wp_addS {α : Type} {a b : ByteArray} {f : ByteArray → Option (α × T_spec_l20Rd)} {Q : α → T_spec_l20Rd → Prop} (h : a.size + b.size ≤ 1000000) (hk : ∀ s, s.size = a.size + b.size → Wp (f s) Q) : Wp ((addS a b).bind f) Q := by
  have e : addS a b = some (a ++ b) := if_pos (by omega)
  rw [e, Option.bind_some]
  exact hk _ ByteArray.size_append
theorem wp_getI {α β : Type} {xs : List β} {i : Int} {f : β → Option (α × T_spec_l20Rd)} {Q : α → T_spec_l20Rd → Prop} (h0 : 0 ≤ i) (h1 : i < xs.length) (hk : ∀ x ∈ xs, Wp (f x) Q) : Wp ((getI xs i).bind f) Q := by
  obtain ⟨x, h, hx⟩ := getI_lt h0 h1
  rw [h, Option.bind_some]
  exact hk x (List.mem_of_getElem? hx)
theorem wp_then {α β : Type} {m : Option (β × T_spec_l20Rd)} {f : β × T_spec_l20Rd → Option (α × T_spec_l20Rd)} {P : β → T_spec_l20Rd → Prop} {Q : α → T_spec_l20Rd → Prop} (h : Wp m P) (hk : ∀ x r, P x r → Wp (f (x, r)) Q) : Wp (m.bind f) Q := by
  obtain ⟨x, r, e, hp⟩ := h
  rw [e, Option.bind_some]
  exact hk x r hp
theorem wp_mono {α : Type} {m : Option (α × T_spec_l20Rd)} {P Q : α → T_spec_l20Rd → Prop} (h : Wp m P) (hk : ∀ x r, P x r → Q x r) : Wp m Q := by
  obtain ⟨x, r, e, hp⟩ := h
  exact ⟨x, r, e, hk x r hp⟩
theorem loop_down {σ β : Type} {L : Nat → Int → σ → Option (β × T_spec_l20Rd)} {Q : β → T_spec_l20Rd → Prop} (Inv : Nat → σ → Prop)
    (h : ∀ (f k : Nat) (s : σ), k ≤ 1000000 → w64 (((k + 1 : Nat) : Int) - 1) = (k : Int) → Inv (k + 1) s → (∀ s', Inv k s' → Wp (L f (k : Int) s') Q) → Wp (L (f + 1) ((k + 1 : Nat) : Int) s) Q)
    (he : ∀ (f : Nat) (s : σ), Inv 0 s → Wp (L (f + 1) 0 s) Q) (k : Nat) (s : σ) (hI : Inv k s) (hk : k ≤ 1000000) : Wp (L FUEL (k : Int) s) Q := by
  have main : ∀ (k f : Nat) (s : σ), k < f → k ≤ 1000000 → Inv k s → Wp (L f (k : Int) s) Q := by
    intro k
    induction k with
    | zero =>
      intro f s hf _ hI
      obtain ⟨f, rfl⟩ : ∃ f', f = f' + 1 := ⟨f - 1, by omega⟩
      exact he f s hI
    | succ k ih =>
      intro f s hf hk hI
      obtain ⟨f, rfl⟩ : ∃ f', f = f' + 1 := ⟨f - 1, by omega⟩
      exact h f k s (by omega) (by rw [w64_of] <;> omega) hI fun s' hI' => ih f s' (by omega) (by omega) hI'
  exact main k FUEL s (by unfold FUEL; omega) hk hI
theorem columns_ok {n : Int} {r : T_spec_l20Rd} (h : RdOk n r) (hn : n ≤ 900000) (a : Int) : Wp (spec_l20Columns r a) fun cs r' => RdOk (n + 9) r' ∧ 1 ≤ cs.length ∧ cs.length ≤ 6 := by
  unfold spec_l20Columns
  refine wp_pick h (by omega) fun v r1 h1 v0 _ v1 => ?_
  have v1 := v1 (by omega)
  have e : w64 (1 + v) = ((v.toNat + 1 : Nat) : Int) := by rw [w64_of (by omega) (by omega)]; omega
  simp only
  rw [e]
  have := loop_down (L := fun f i (s : T_spec_l20Rd × List T_impl_Column) => spec_l20Columns_l0 a f i s.1 s.2) (Q := fun cs r' => RdOk (n + 9) r' ∧ 1 ≤ cs.length ∧ cs.length ≤ 6)
    (fun k s => RdOk (n + 1 + 2 * (3 - k)) s.1 ∧ s.2.length + k = v.toNat + 1)
    (fun f k s hk hw hI hrec => by
      obtain ⟨r, xs⟩ := s
      obtain ⟨hI1, hI2⟩ := hI
      simp only at hI1 hI2 ⊢
      rw [spec_l20Columns_l0, decide_eq_true (by omega), cond_true]
      refine wp_pick hI1 (by omega) fun k1 r1 h1 p0 _ p1 => ?_
      refine wp_getI p0 (by have := p1 (by omega); simp; omega) fun c hc => ?_
      refine wp_pick h1 (by omega) fun k2 r2 h2 q0 _ q1 => ?_
      refine wp_app (by simp; omega) ?_
      simp only [hw]
      exact hrec (r2, _) ⟨h2.up (by (try simp only); omega), by simp; omega⟩)
    (fun f s hI => by
      obtain ⟨r, xs⟩ := s
      obtain ⟨hI1, hI2⟩ := hI
      simp only at hI1 hI2 ⊢
      rw [spec_l20Columns_l0, decide_eq_false (by omega), cond_false]
      refine wp_odd hI1 (by omega) fun b r1 h1 => wp_bif (fun _ => ?_) fun _ => ?_
      · refine wp_pick h1 (by omega) fun k1 r2 h2 _ _ _ => wp_app (by simp; omega) (wp_some ⟨h2.up (by omega), ?_, ?_⟩)
        · simp
        · simp; omega
      · exact wp_some ⟨h1.up (by omega), by omega, by omega⟩)
    (v.toNat + 1) (r1, []) ⟨h1.up (by (try simp only); omega), by simp⟩ (by omega)
  exact this
theorem like_ok {n : Int} {r : T_spec_l20Rd} (h : RdOk n r) (hn : n ≤ 900000) (c : T_impl_Column) : Wp (spec_l20Like r c) fun v r' => RdOk (n + 2) r' ∧ v.fS.size ≤ 2 := by
  have e0 : (ByteArray.mk #[]).size = 0 := rfl
  have key : ∀ (m : Int) (r : T_spec_l20Rd) (b : Bool), RdOk m r → m ≤ n + 1 → Wp (spec_l20Like_j0 c b r) fun v r' => RdOk (n + 2) r' ∧ v.fS.size ≤ 2 := by
    intro m r b h hm
    unfold spec_l20Like_j0
    refine wp_bif (fun _ => wp_some ⟨h.up (by omega), by simp [e0]⟩) fun _ => wp_bif (fun _ => ?_) fun _ => wp_bif (fun _ => ?_) fun _ => ?_
    · exact wp_pick h (by omega) fun k r1 h1 _ _ _ => wp_some ⟨h1.up (by omega), by simp [e0]⟩
    · refine wp_pick h (by omega) fun k r1 h1 p0 _ p1 => wp_getI p0 (by have := p1 (by omega); simp; omega) fun s hs => wp_some ⟨h1.up (by omega), ?_⟩
      simp only [List.mem_cons, List.not_mem_nil, or_false] at hs
      rcases hs with rfl | rfl | rfl | rfl <;> decide
    · exact wp_pick h (by omega) fun k r1 h1 _ _ _ => wp_some ⟨h1.up (by omega), by simp [e0]⟩
  unfold spec_l20Like
  refine wp_bif (fun _ => wp_pick h (by omega) fun k r1 h1 _ _ _ => key _ _ _ h1 (by omega)) fun _ => key _ _ _ h (by omega)
theorem value_j0 {n : Int} {r : T_spec_l20Rd} (h : RdOk n r) (hn : n ≤ 900000) (a : Int) {v : T_impl_Value} (hv : v.fS.size ≤ 3) : Wp (spec_l20Value_j0 a r v) fun v r' => RdOk (n + 3) r' ∧ v.fS.size ≤ 10 := by
  unfold spec_l20Value_j0
  have e1 : (ByteArray.mk #[97, 98, 99, 100, 101, 102, 103]).size = 7 := rfl
  have e2 : (ByteArray.mk #[65]).size = 1 := rfl
  refine wp_odd h (by omega) fun b r1 h1 => wp_bif (fun _ => ?_) fun _ => wp_some ⟨h1.up (by omega), by omega⟩
  refine wp_pick h1 (by omega) fun k r2 h2 _ _ _ => wp_bif (fun _ => wp_some ⟨h2.up (by omega), by simp only; omega⟩) fun _ => wp_bif (fun _ => ?_) fun _ => wp_bif (fun _ => ?_) fun _ => ?_
  · exact wp_addS (by omega) fun s hs => wp_some ⟨h2.up (by omega), by simp only; omega⟩
  · exact wp_pick h2 (by omega) fun k r3 h3 _ _ _ => wp_some ⟨h3.up (by omega), by simp only; omega⟩
  · exact wp_addS (by omega) fun s hs => wp_some ⟨h2.up (by omega), by simp only; omega⟩
theorem value_ok {n : Int} {r : T_spec_l20Rd} (h : RdOk n r) (hn : n ≤ 800000) (a : Int) : Wp (spec_l20Value r a) fun v r' => RdOk (n + 9) r' ∧ v.fS.size ≤ 10 := by
  have e0 : (ByteArray.mk #[]).size = 0 := rfl
  have fin : ∀ (m : Int) (r : T_spec_l20Rd) (v : T_impl_Value), RdOk m r → m ≤ n + 6 → v.fS.size ≤ 3 → Wp (spec_l20Value_j0 a r v) fun v r' => RdOk (n + 9) r' ∧ v.fS.size ≤ 10 :=
    fun m r v h hm hv => wp_mono (value_j0 h (by omega) a hv) fun v r' hq => ⟨hq.1.up (by omega), hq.2⟩
  have j2 : ∀ (x : Int × T_spec_l20Rd) (b : Bool), RdOk (n + 1) x.2 → Wp (spec_l20Value_j2 a x b) fun v r' => RdOk (n + 9) r' ∧ v.fS.size ≤ 10 := by
    intro x b hx
    have j3 : ∀ b, Wp (spec_l20Value_j3 a x b) fun v r' => RdOk (n + 9) r' ∧ v.fS.size ≤ 10 := by
      intro b
      unfold spec_l20Value_j3
      refine wp_bif (fun _ => ?_) fun _ => wp_pick hx (by omega) fun k r1 h1 _ _ _ => fin _ _ _ h1 (by omega) (by simp [e0])
      refine wp_pick hx (by omega) fun k r1 h1 p0 _ p1 => ?_
      have p1 := p1 (by omega)
      have e : k = ((k.toNat : Nat) : Int) := by omega
      simp only
      rw [e]
      have := loop_down (L := fun f i (s : T_spec_l20Rd × T_impl_Value) => spec_l20Value_l4 a f i s.1 s.2) (Q := fun v r' => RdOk (n + 9) r' ∧ v.fS.size ≤ 10)
        (fun k s => k ≤ 3 ∧ RdOk (n + 2 + (3 - k)) s.1 ∧ s.2.fS.size + k ≤ 3)
        (fun f k s hk hw hI hrec => by
          obtain ⟨r, v⟩ := s
          obtain ⟨hI0, hI1, hI2⟩ := hI
          simp only at hI1 hI2 ⊢
          have es : ∀ b : UInt8, (ByteArray.mk (List.toArray ([b] : List UInt8))).size = 1 := fun _ => rfl
          rw [spec_l20Value_l4, decide_eq_true (by omega), cond_true]
          refine wp_pick hI1 (by omega) fun k1 r1 h1 _ _ _ => wp_addS (by rw [es]; omega) fun s hs => ?_
          rw [es] at hs
          simp only [hw]
          exact hrec (r1, _) ⟨by omega, h1.up (by omega), by simp only; omega⟩)
        (fun f s hI => by
          obtain ⟨r, v⟩ := s
          obtain ⟨hI0, hI1, hI2⟩ := hI
          simp only at hI1 hI2 ⊢
          rw [spec_l20Value_l4, decide_eq_false (by omega), cond_false]
          exact fin _ _ _ hI1 (by omega) (by omega))
        k.toNat (r1, T_impl_Value.mk 2 0 (ByteArray.mk #[])) ⟨by omega, h1.up (by omega), by simp only [e0]; omega⟩ (by omega)
      exact this
    unfold spec_l20Value_j2
    refine wp_bif (fun _ => ?_) fun _ => wp_bif (fun _ => j3 _) fun _ => j3 _
    refine wp_pick hx (by omega) fun k r1 h1 _ _ _ => wp_pick h1 (by omega) fun k2 r2 h2 _ _ _ => wp_bif (fun _ => ?_) fun _ => fin _ _ _ h2 (by omega) (by simp [e0])
    exact wp_pick h2 (by omega) fun k3 r3 h3 p0 _ p1 => wp_getI p0 (by have := p1 (by omega); simp; omega) fun x hx => fin _ _ _ h3 (by omega) (by simp [e0])
  unfold spec_l20Value
  refine wp_pick h (by omega) fun k r1 h1 _ _ _ => wp_bif (fun _ => fin _ _ _ h1 (by omega) (by simp [e0])) fun _ => wp_bif (fun _ => j2 _ _ h1) fun _ => wp_bif (fun _ => j2 _ _ h1) fun _ => j2 _ _ h1
end Go.D
set_option linter.unusedVariables false
namespace Go.D
def SmT (t : T_impl_Table) : Prop := Sm t.fColumns.length ∧ SmRs t.fRows
def SmTs (ts : List T_impl_Table) : Prop := Sm ts.length ∧ ∀ t ∈ ts, SmT t
def tabOk (t : T_impl_Table) : Bool := decide (t.fRows.length ≤ 6) && rowsOk t.fColumns t.fRows
def tabsOk (ts : List T_impl_Table) : Bool := ts.all tabOk && decide (ts.length ≤ 3)
theorem gt6 {α : Type} (xs : List α) : decide ((xs.length : Int) > 6) = !(decide (xs.length ≤ 6)) := by
  by_cases h : xs.length ≤ 6
  · have : ¬ (xs.length : Int) > 6 := by omega
    simp [h, this]
  · have : (xs.length : Int) > 6 := by omega
    simp [h, this]
theorem spec_tabsOk {ts : List T_impl_Table} (h : SmTs ts) : spec_TablesOk ts = some (tabsOk ts) := by
  unfold spec_TablesOk tabsOk
  have hl := h.1
  refine loop_all (by omega) (fun f i v hi hv hw => ?_) (fun f => ?_)
  · have : (i : Int) < ts.length := by omega
    have hv' := h.2 v (List.mem_of_getElem? hv)
    simp only [spec_TablesOk_l0, this, decide_true, cond_true, getI_nat, hv, Option.bind_some, spec_rowsOk hv'.1 hv'.2, spec_TablesOk_j1, hw, gt6, tabOk]
    cases decide (v.fRows.length ≤ 6) <;> cases rowsOk v.fColumns v.fRows <;> rfl
  · simp only [spec_TablesOk_l0, Int.lt_irrefl, decide_false, cond_false]
    congr 1
    simp only [decide_eq_decide]
    omega
theorem impl_tabsAny {ts : List T_impl_Table} (h : SmTs ts) : slices_ContainsFunc_impl_Table_impl_Table ts impl_TablesOk_1 = some (ts.any fun t => !(tabOk t)) := by
  unfold slices_ContainsFunc_impl_Table_impl_Table slices_IndexFunc_impl_Table_impl_Table
  have hl := h.1
  obtain ⟨x, h1, h2⟩ := loop_find (xs := ts) (L := slices_IndexFunc_impl_Table_impl_Table_l0 ts impl_TablesOk_1) (p := fun t => !(tabOk t)) (by omega) (fun f i v hi hv hw => by
    have : (i : Int) < ts.length := by omega
    have hv' := h.2 v (List.mem_of_getElem? hv)
    simp only [slices_IndexFunc_impl_Table_impl_Table_l0, this, decide_true, cond_true, getI_nat, hv, Option.bind_some, impl_TablesOk_1, impl_colsOk hv'.1, impl_rowsOk hv'.1 hv'.2, hw, gt6, tabOk, rowsOk]
    cases colsOk v.fColumns <;> cases decide (v.fRows.length ≤ 6) <;> simp) (fun f => by
    simp only [slices_IndexFunc_impl_Table_impl_Table_l0, Int.lt_irrefl, decide_false, cond_false])
  rw [h1, Option.bind_some, h2]
theorem impl_tabsOk {ts : List T_impl_Table} (h : SmTs ts) : impl_TablesOk ts = some (tabsOk ts) := by
  unfold impl_TablesOk tabsOk
  rw [impl_tabsAny h, Option.bind_some, not_any_not]
  have : decide ((ts.length : Int) ≤ 3) = decide (ts.length ≤ 3) := by
    simp only [decide_eq_decide]
    omega
  rw [this]
  cases decide (ts.length ≤ 3) <;> simp
end Go.D
set_option linter.unusedVariables false
namespace Go.D
theorem loop_up {γ σ β : Type} {xs : List γ} {L : Nat → Int → σ → Option (β × T_spec_l20Rd)} {Q : β → T_spec_l20Rd → Prop} (Inv : Nat → σ → Prop) (hlen : xs.length ≤ 1000000)
    (h : ∀ (f i : Nat) (s : σ) (v : γ), i < xs.length → xs[i]? = some v → w64 ((i : Int) + 1) = ((i + 1 : Nat) : Int) → Inv i s → (∀ s', Inv (i + 1) s' → Wp (L f ((i + 1 : Nat) : Int) s') Q) → Wp (L (f + 1) (i : Int) s) Q)
    (he : ∀ (f : Nat) (s : σ), Inv xs.length s → Wp (L (f + 1) (xs.length : Int) s) Q) (s : σ) (h0 : Inv 0 s) : Wp (L FUEL 0 s) Q := by
  have main : ∀ (k f i : Nat) (s : σ), i + k = xs.length → k < f → Inv i s → Wp (L f (i : Int) s) Q := by
    intro k
    induction k with
    | zero =>
      intro f i s hi hf hI
      obtain ⟨f, rfl⟩ : ∃ f', f = f' + 1 := ⟨f - 1, by omega⟩
      have : i = xs.length := by omega
      subst this
      exact he f s hI
    | succ k ih =>
      intro f i s hi hf hI
      obtain ⟨f, rfl⟩ : ∃ f', f = f' + 1 := ⟨f - 1, by omega⟩
      have hlt : i < xs.length := by omega
      exact h f i s xs[i] hlt (List.getElem?_eq_getElem hlt) (succ_w hlt (by omega)) hI fun s' hI' => ih f (i + 1) s' (by omega) (by omega) hI'
  exact main xs.length FUEL 0 s (by omega) (by unfold FUEL; omega) h0
def Sr (m : Nat) (row : List T_impl_Value) : Prop := row.length ≤ m ∧ ∀ v ∈ row, v.fS.size ≤ 10
theorem Sr.sm {m : Nat} {row : List T_impl_Value} (h : Sr m row) (hm : m ≤ 1000) : SmR row := ⟨by have := h.1; omega, fun v hv => by have := h.2 v hv; unfold SmV; omega⟩
theorem Sr.app {m k : Nat} {row r2 : List T_impl_Value} (h : Sr m row) (h2 : Sr k r2) : Sr (m + k) (row ++ r2) := ⟨by have := h.1; have := h2.1; rw [List.length_append]; omega, fun v hv => (List.mem_append.1 hv).elim (h.2 v) (h2.2 v)⟩
theorem Sr.one {v : T_impl_Value} (h : v.fS.size ≤ 10) : Sr 1 [v] := ⟨by simp, fun u hu => by simp at hu; subst hu; exact h⟩
theorem fit_ok {n : Int} {r : T_spec_l20Rd} (h : RdOk n r) (hn : n ≤ 700000) {cs : List T_impl_Column} (hc : cs.length ≤ 6) (a : Int) : Wp (spec_l20Fit r cs a) fun row r' => RdOk (n + 41) r' ∧ Sr 9 row := by
  unfold spec_l20Fit
  have e0 : (ByteArray.mk #[]).size = 0 := rfl
  exact loop_up (xs := cs) (L := fun f i (s : T_spec_l20Rd × List T_impl_Value) => spec_l20Fit_l0 cs a f i s.1 s.2) (Q := fun row r' => RdOk (n + 41) r' ∧ Sr 9 row)
    (fun i s => RdOk (n + 2 * i) s.1 ∧ Sr i s.2 ∧ s.2.length = i) (by omega)
    (fun f i s c hi hv hw hI hrec => by
      obtain ⟨r, row⟩ := s
      obtain ⟨h1, h2, h3⟩ := hI
      simp only at h1 h2 h3 ⊢
      rw [spec_l20Fit_l0, decide_eq_true (by omega), cond_true, getI_nat, hv, Option.bind_some]
      refine wp_then (like_ok h1 (by omega) c) fun v r1 hq => wp_app (by simp; omega) ?_
      simp only [hw]
      exact hrec (r1, _) ⟨hq.1.up (by omega), h2.app (.one (Nat.le_trans hq.2 (by omega))), by simp; omega⟩)
    (fun f s hI => by
      obtain ⟨r, row⟩ := s
      obtain ⟨h1, h2, h3⟩ := hI
      simp only at h1 h2 h3 ⊢
      have h9 : Sr 9 row := ⟨by omega, h2.2⟩
      rw [spec_l20Fit_l0, decide_eq_false (Int.lt_irrefl _), cond_false]
      refine wp_odd h1 (by omega) fun b r1 g1 => wp_bif (fun _ => ?_) fun _ => wp_some ⟨g1.up (by omega), h9⟩
      refine wp_pick g1 (by omega) fun k r2 g2 _ _ _ => wp_bif (fun _ => ?_) fun _ => wp_bif (fun _ => wp_bif (fun hp => ?_) fun _ => ?_) fun _ => ?_
      · exact wp_app (by simp; omega) (wp_some ⟨g2.up (by omega), by have := (h2.app (.one (v := T_impl_Value.mk 0 0 (ByteArray.mk #[])) (by simp [e0]))).1; simp at this ⊢; exact ⟨by simp; omega, (h2.app (.one (v := T_impl_Value.mk 0 0 (ByteArray.mk #[])) (by simp [e0]))).2⟩⟩)
      · have hp := of_decide_eq_true hp
        refine wp_pick g2 (by omega) fun k2 r3 g3 p0 _ p1 => wp_then (value_ok g3 (by omega) 3) fun v r4 hq => wp_getI p0 (p1 (by omega)) fun o ho => wp_some ⟨hq.1.up (by omega), ?_, ?_⟩
        · rw [List.length_set]; omega
        · intro u hu
          rcases List.mem_or_eq_of_mem_set hu with hu | rfl
          · exact h2.2 u hu
          · exact hq.2
      · exact wp_some ⟨g2.up (by omega), h9⟩
      · refine wp_then (value_ok g2 (by omega) 0) fun v1 r3 q1 => wp_then (value_ok q1.1 (by omega) 0) fun v2 r4 q2 => wp_then (value_ok q2.1 (by omega) 0) fun v3 r5 q3 => wp_app (by simp; omega) (wp_some ⟨q3.1.up (by omega), ?_⟩)
        have hs : Sr 3 [v1, v2, v3] := ⟨by simp, fun u hu => by
          simp only [List.mem_cons, List.not_mem_nil, or_false] at hu
          rcases hu with rfl | rfl | rfl
          · exact q1.2
          · exact q2.2
          · exact q3.2⟩
        have := h2.app hs
        exact ⟨by have := this.1; simp at this ⊢; omega, this.2⟩) (r, []) ⟨h.up (by simp), ⟨by simp, fun v hv => by cases hv⟩, rfl⟩
def Srs (rows : List (List T_impl_Value)) : Prop := rows.length ≤ 6 ∧ ∀ r ∈ rows, Sr 9 r
theorem own_ok {a : List T_impl_Value} (ha : Sr 9 a) : spec_l3Own a = some a := by
  unfold spec_l3Own
  rw [app_lt (by have := ha.1; simp; omega), List.nil_append, Option.bind_some]
theorem bag_ok {n : Int} {r : T_spec_l20Rd} (h : RdOk n r) (hn : n ≤ 600000) {cs : List T_impl_Column} (hc : cs.length ≤ 6) (a : Int) : Wp (spec_l20Bag r cs a) fun rows r' => RdOk (n + 260) r' ∧ Srs rows := by
  unfold spec_l20Bag
  refine wp_pick h (by omega) fun v r1 h1 v0 _ v1 => ?_
  have v1 := v1 (by omega)
  have e : v = ((v.toNat : Nat) : Int) := by omega
  simp only
  rw [e]
  exact loop_down (L := fun f i (s : T_spec_l20Rd × List (List T_impl_Value)) => spec_l20Bag_l0 cs a f i s.1 s.2) (Q := fun rows r' => RdOk (n + 260) r' ∧ Srs rows)
    (fun k s => k ≤ 6 ∧ RdOk (n + 1 + 43 * (6 - k)) s.1 ∧ s.2.length + k ≤ 6 ∧ ∀ r ∈ s.2, Sr 9 r)
    (fun f k s hk hw hI hrec => by
      obtain ⟨r, rows⟩ := s
      obtain ⟨i0, i1, i2, i3⟩ := hI
      simp only at i1 i2 i3 ⊢
      have add : ∀ (m : Int) (r' : T_spec_l20Rd) (row : List T_impl_Value), RdOk m r' → m ≤ n + 1 + 43 * (6 - (k + 1 : Nat)) + 43 → Sr 9 row → Wp (spec_l20Bag_j1 ((k + 1 : Nat) : Int) (spec_l20Bag_l0 cs a f) r' (rows ++ [row])) fun rows r' => RdOk (n + 260) r' ∧ Srs rows := by
        intro m r' row hr hm hs
        unfold spec_l20Bag_j1
        rw [hw]
        refine hrec (r', _) ⟨by omega, hr.up (by omega), by simp; omega, fun u hu => ?_⟩
        rcases List.mem_append.1 hu with hu | hu
        · exact i3 u hu
        · have : u = row := by simpa using hu
          rw [this]; exact hs
      have j2 : ∀ (m : Int) (r' : T_spec_l20Rd) (b : Bool), RdOk m r' → m ≤ n + 1 + 43 * (6 - (k + 1 : Nat)) + 1 → (b = true → 0 < rows.length) → Wp (spec_l20Bag_j2 cs a ((k + 1 : Nat) : Int) rows (spec_l20Bag_l0 cs a f) b r') fun rows r' => RdOk (n + 260) r' ∧ Srs rows := by
        intro m r' b hr hm hb
        unfold spec_l20Bag_j2
        refine wp_bif (fun hbt => ?_) fun _ => ?_
        · have := hb hbt
          refine wp_pick hr (by omega) fun k2 r3 g3 p0 _ p1 => wp_getI p0 (p1 (by omega)) fun row hrow => ?_
          rw [own_ok (i3 row hrow), Option.bind_some]
          exact wp_app (by simp; omega) (add _ _ _ g3 (by omega) (i3 row hrow))
        · exact wp_then (fit_ok hr (by omega) hc a) fun row r3 hq => wp_app (by simp; omega) (add _ _ _ hq.1 (by omega) hq.2)
      rw [spec_l20Bag_l0, decide_eq_true (by omega), cond_true]
      refine wp_bif (fun hp => ?_) fun _ => j2 _ _ _ i1 (by omega) (fun h => by cases h)
      have hp := of_decide_eq_true hp
      exact wp_pick i1 (by omega) fun k2 r3 g3 _ _ _ => j2 _ _ _ g3 (by omega) (fun _ => by omega))
    (fun f s hI => by
      obtain ⟨r, rows⟩ := s
      obtain ⟨i0, i1, i2, i3⟩ := hI
      simp only at i1 i2 i3 ⊢
      rw [spec_l20Bag_l0, decide_eq_false (by omega), cond_false]
      exact wp_some ⟨i1.up (by omega), by omega, i3⟩)
    v.toNat (r1, []) ⟨by omega, h1.up (by omega), by simp; omega, fun r hr => by cases hr⟩ (by omega)
structure TbOk (t : T_impl_Table) : Prop where
  c1 : 1 ≤ t.fColumns.length
  c2 : t.fColumns.length ≤ 6
  rs : Srs t.fRows
theorem TbOk.sm {t : T_impl_Table} (h : TbOk t) : SmT t := ⟨by have := h.c2; omega, by have := h.rs.1; omega, fun r hr => (h.rs.2 r hr).sm (by omega)⟩
theorem tables_ok {n : Int} {r : T_spec_l20Rd} (h : RdOk n r) (hn : n ≤ 500000) : Wp (spec_l20Tables r 0) fun ts r' => RdOk (n + 811) r' ∧ 1 ≤ ts.length ∧ ts.length ≤ 3 ∧ ∀ t ∈ ts, TbOk t := by
  unfold spec_l20Tables
  refine wp_pick h (by omega) fun v r1 h1 v0 _ v1 => ?_
  have v1 := v1 (by omega)
  have e : w64 (1 + v) = ((v.toNat + 1 : Nat) : Int) := by rw [w64_of (by omega) (by omega)]; omega
  simp only
  rw [e]
  exact loop_down (L := fun f i (s : T_spec_l20Rd × List T_impl_Table) => spec_l20Tables_l0 0 f i s.1 s.2) (Q := fun ts r' => RdOk (n + 811) r' ∧ 1 ≤ ts.length ∧ ts.length ≤ 3 ∧ ∀ t ∈ ts, TbOk t)
    (fun k s => RdOk (n + 1 + 270 * (3 - k)) s.1 ∧ s.2.length + k = v.toNat + 1 ∧ ∀ t ∈ s.2, TbOk t)
    (fun f k s hk hw hI hrec => by
      obtain ⟨r, ts⟩ := s
      obtain ⟨i1, i2, i3⟩ := hI
      simp only at i1 i2 i3 ⊢
      rw [spec_l20Tables_l0, decide_eq_true (by omega), cond_true]
      refine wp_then (columns_ok i1 (by omega) 0) fun cs r2 q2 => wp_pick q2.1 (by omega) fun k2 r3 g3 p0 _ p1 => ?_
      obtain ⟨m, em, m0, m1⟩ := remI_pos (a := k2) (b := (cs.length : Int)) p0 (by have := q2.2.1; omega)
      have e2 : w64 (1 + m) = 1 + m := w64_of (by omega) (by have := q2.2.2; omega)
      have e3 : slI cs none (some (1 + m)) none = some (cs.take (1 + m).toNat) := by
        unfold slI
        rw [if_pos (by simp only [Option.getD_none, Option.getD_some]; omega)]
        simp
      simp only [em, Option.bind_some, e2, e3]
      have hcl : 1 ≤ (cs.take (1 + m).toNat).length ∧ (cs.take (1 + m).toNat).length ≤ 6 := by
        rw [List.length_take]
        have := q2.2
        omega
      refine wp_then (bag_ok g3 (by omega) hcl.2 0) fun rows r4 q4 => wp_app (by simp; omega) ?_
      simp only [hw]
      refine hrec (r4, _) ⟨q4.1.up (by omega), by simp; omega, fun t ht => ?_⟩
      rcases List.mem_append.1 ht with ht | ht
      · exact i3 t ht
      · have : t = ⟨cs.take (1 + m).toNat, rows⟩ := by simpa using ht
        rw [this]
        exact ⟨hcl.1, hcl.2, q4.2⟩)
    (fun f s hI => by
      obtain ⟨r, ts⟩ := s
      obtain ⟨i1, i2, i3⟩ := hI
      simp only at i1 i2 i3 ⊢
      rw [spec_l20Tables_l0, decide_eq_false (by omega), cond_false, odd_no, Option.bind_some]
      exact wp_some ⟨i1.up (by omega), by omega, by omega, i3⟩)
    (v.toNat + 1) (r1, []) ⟨h1.up (by omega), by simp, fun t ht => by cases ht⟩ (by omega)
end Go.D
set_option linter.unusedVariables false
namespace Go.D
theorem g2 {α : Type} {xs : List α} (a b : α) : getI (xs ++ [a, b]) (xs.length : Int) = some a := by
  rw [getI_nat]
  simp
theorem g3 {α : Type} {xs : List α} (b : α) : getI (xs ++ [b]) (xs.length : Int) = some b := by
  rw [getI_nat]
  simp
theorem wm1 : w64 (-1) = -1 := w64_of (by omega) (by omega)
section
variable {α : Type} {xs : List α} (h : xs.length ≤ 2097152)
include h
theorem g1 (a b : α) : getI (xs ++ [a, b]) (w64 (((xs ++ [a, b]).length : Int) - 1)) = some b := by
  have e : (((xs ++ [a, b]).length : Int) - 1) = ((xs.length + 1 : Nat) : Int) := by simp only [List.length_append, List.length_cons, List.length_nil]; omega
  rw [e, w64_of (by omega) (by omega), getI_nat]
  simp
theorem sl_pre {ys : List α} {n : Int} (hn : n = (xs.length : Int)) : slI (xs ++ ys) none (some n) none = some xs := by
  subst hn
  unfold slI
  rw [if_pos]
  · simp
  · simp only [Option.getD_none, Option.getD_some, List.length_append]
    omega
theorem sl_post {ys : List α} {n : Int} (hn : n = (xs.length : Int)) : slI (xs ++ ys) (some n) none none = some ys := by
  subst hn
  unfold slI
  rw [if_pos]
  · simp only [Option.getD_none, Option.getD_some, Int.toNat_natCast, List.drop_left, List.length_append]
    rw [List.take_of_length_le (by omega)]
  · simp only [Option.getD_none, Option.getD_some, List.length_append]
    omega
theorem max0 {n : Int} (hn : n = (xs.length : Int)) : maxL n [0] = (xs.length : Int) := by
  subst hn
  unfold maxL maxL
  rw [if_neg (by omega)]
theorem len2 (a b : α) : w64 (((xs ++ [a, b]).length : Int) - 2) = (xs.length : Int) := by
  rw [w64_of] <;> simp <;> omega
theorem len1 (b : α) : w64 (((xs ++ [b]).length : Int) - 1) = (xs.length : Int) := by
  rw [w64_of] <;> simp <;> omega
theorem len0 : w64 ((xs.length : Int) - 0) = (xs.length : Int) := by
  rw [w64_of] <;> omega
theorem ap_pre {ys : List α} (k : α) : appT (xs ++ ys) [k] xs.length = some (xs ++ [k]) := by
  unfold appT
  rw [if_pos (by simp; omega)]
  simp
theorem ap_all (k : α) : app xs [k] = some (xs ++ [k]) := app_lt (by simp; omega)
end
def zeroV (v : T_impl_Value) : Bool := eq_T_impl_Value v ((T_impl_Value.mk 0 0 (ByteArray.mk #[])))
def exprStep (cs : List T_impl_Column) (rs : List Int) (p : T_impl_Part) : Option (List Int) :=
  if p.fKind = 1 then bif p.fN == 0 && (valOk p.fV && !(p.fV.fKind == 0)) then some (p.fV.fKind :: rs) else none
  else if p.fKind = 2 then bif zeroV p.fV && inR p.fN 0 ((cs.length : Int) - 1) then (getI cs p.fN).map fun c => c.fKind :: rs else none
  else if p.fKind = 3 then bif zeroV p.fV && p.fN == 0 then (match rs with
    | b :: a :: r => bif b == 1 && a == 1 then some (1 :: r) else none
    | _ => none) else none
  else if p.fKind = 4 then bif zeroV p.fV && inR p.fN 1 4 then (match rs with
    | b :: a :: r => bif b == a then some (3 :: r) else none
    | _ => none) else none
  else if p.fKind = 5 ∨ p.fKind = 6 then bif zeroV p.fV && p.fN == 0 then (match rs with
    | b :: a :: r => bif b == 3 && a == 3 then some (3 :: r) else none
    | _ => none) else none
  else if p.fKind = 7 then bif zeroV p.fV && p.fN == 0 then (match rs with
    | b :: r => bif b == 3 then some (3 :: r) else none
    | _ => none) else none
  else if p.fKind = 8 then bif zeroV p.fV && p.fN == 0 then (match rs with
    | b :: r => some (3 :: r)
    | _ => none) else none
  else none
def exprRun (cs : List T_impl_Column) : List T_impl_Part → List Int → Int
  | [], rs => match rs with
    | [k] => k
    | _ => -1
  | p :: ps, rs => match exprStep cs rs p with
    | none => -1
    | some rs' => exprRun cs ps rs'
def SmP (p : T_impl_Part) : Prop := SmV p.fV
theorem exprStep_len {cs : List T_impl_Column} {rs rs' : List Int} {p : T_impl_Part} (h : exprStep cs rs p = some rs') : rs'.length ≤ rs.length + 1 := by
  unfold exprStep at h
  have hb : ∀ {c : Bool} {a : Option (List Int)}, (bif c then a else none) = some rs' → a = some rs' := fun {c a} h => by cases c <;> simp_all
  split at h
  · have := hb h
    cases this
    simp
  split at h
  · have := hb h
    simp only [Option.map_eq_some_iff] at this
    obtain ⟨_, _, rfl⟩ := this
    simp
  split at h
  · have := hb h
    split at this
    · cases hb this
      simp <;> omega
    · cases this
  split at h
  · have := hb h
    split at this
    · cases hb this
      simp <;> omega
    · cases this
  split at h
  · have := hb h
    split at this
    · cases hb this
      simp <;> omega
    · cases this
  split at h
  · have := hb h
    split at this
    · cases hb this
      simp
    · cases this
  split at h
  · have := hb h
    split at this
    · cases this
      simp
    · cases this
  · cases h
theorem stack_cases {α : Type} (rs : List α) : rs = [] ∨ (∃ b, rs = [b]) ∨ ∃ b a r, rs = b :: a :: r := by
  match rs with
  | [] => exact .inl rfl
  | [b] => exact .inr (.inl ⟨b, rfl⟩)
  | b :: a :: r => exact .inr (.inr ⟨b, a, r, rfl⟩)
theorem kind_cases (k : Int) : k = 1 ∨ k = 2 ∨ k = 3 ∨ k = 4 ∨ k = 5 ∨ k = 6 ∨ k = 7 ∨ k = 8 ∨ (k ≠ 1 ∧ k ≠ 2 ∧ k ≠ 3 ∧ k ≠ 4 ∧ k ≠ 5 ∧ k ≠ 6 ∧ k ≠ 7 ∧ k ≠ 8) := by omega
section
variable {α : Type} {xs : List α}
theorem gt1 (a b : α) : decide (((xs ++ [a, b]).length : Int) > 1) = true := by simp; omega
theorem gt0 (b : α) : decide (((xs ++ [b]).length : Int) > 0) = true := by simp only [List.length_append, List.length_cons, List.length_nil, decide_eq_true_eq]; omega
theorem lt2 (a b : α) : decide (((xs ++ [a, b]).length : Int) < 2) = false := by simp; omega
theorem lt1 (b : α) : decide (((xs ++ [b]).length : Int) < 1) = false := by simp; omega
theorem lt0 : decide ((xs.length : Int) < 0) = false := by simp only [decide_eq_false_iff_not]; omega
theorem rev2 (a b : α) (r : List α) : (b :: a :: r).reverse = r.reverse ++ [a, b] := by simp
theorem rev1 (b : α) (r : List α) : (b :: r).reverse = r.reverse ++ [b] := by simp
end
theorem low2 {xs : List Int} (h : xs.length ≤ 1) : slI xs none (some (maxL (w64 ((xs.length : Int) - 2)) [0])) none = some [] := by
  rw [w64_of (by omega) (by omega)]
  unfold maxL maxL
  rw [if_pos (by omega)]
  unfold slI
  simp
theorem apt0 (xs : List Int) (k : Int) : appT xs [k] ([] : List Int).length = some [k] := by
  unfold appT
  simp
theorem j2_low {xs : List Int} (h : xs.length ≤ 1) (b : Bool) : spec_l4Step_j2 xs b = some ([1], b) := by
  unfold spec_l4Step_j2
  rw [low2 h, Option.bind_some, apt0, Option.bind_some]
theorem j3_low {xs : List Int} (h : xs.length ≤ 1) (b : Bool) : spec_l4Step_j3 xs b = some ([3], b) := by
  unfold spec_l4Step_j3
  rw [low2 h, Option.bind_some, apt0, Option.bind_some]
theorem j5_low {xs : List Int} (h : xs.length ≤ 1) (b : Bool) : spec_l4Step_j5 xs b = some ([3], b) := by
  unfold spec_l4Step_j5
  rw [low2 h, Option.bind_some, apt0, Option.bind_some]
def SpecStep (cs : List T_impl_Column) (rs : List Int) (p : T_impl_Part) : Prop := match exprStep cs rs p with
  | some rs' => spec_l4Step cs rs.reverse p = some (rs'.reverse, true)
  | none => ∃ s, spec_l4Step cs rs.reverse p = some (s, false)
theorem spec_step {cs : List T_impl_Column} {rs : List Int} {p : T_impl_Part} (hc : Sm cs.length) (hr : rs.length ≤ 2000000) (hp : SmP p) : SpecStep cs rs p := by
  obtain ⟨k, n, v⟩ := p
  have hv : spec_ValueOk v = some (valOk v) := spec_value hp
  have hz : eq_T_impl_Value v ((T_impl_Value.mk 0 0 (ByteArray.mk #[]))) = zeroV v := rfl
  have hw : w64 ((cs.length : Int) - 1) = (cs.length : Int) - 1 := w64_of (by omega) (by omega)
  unfold SpecStep
  rcases kind_cases k with rfl | rfl | rfl | rfl | rfl | rfl | rfl | rfl | hk
  · have ha : app rs.reverse [v.fKind] = some (rs.reverse ++ [v.fKind]) := ap_all (by simp; omega) _
    simp only [exprStep, spec_l4Step, spec_l4Step_j0, spec_l4Step_j1, hz, hv, hw, spec_in, Option.bind_some, ha]
    cases n == 0 <;> cases valOk v <;> cases v.fKind == 0 <;> simp
  · simp only [exprStep, spec_l4Step, spec_l4Step_j0, hz, hw, spec_in, Option.bind_some]
    cases zeroV v
    · simp
    · cases hi : inR n 0 ((cs.length : Int) - 1) with
      | false => simp
      | true =>
        unfold inR at hi
        simp only [Bool.and_eq_true, decide_eq_true_eq] at hi
        obtain ⟨c, h1, h2⟩ := getI_lt (xs := cs) hi.1 (by omega)
        have ha : app rs.reverse [c.fKind] = some (rs.reverse ++ [c.fKind]) := ap_all (by simp; omega) _
        simp [h1, ha]
  · rcases stack_cases rs with rfl | ⟨b, rfl⟩ | ⟨b, a, r, rfl⟩
    · simp [exprStep, spec_l4Step, spec_l4Step_j0, j2_low, hz, spec_in, Option.bind]
      cases n == 0 <;> cases zeroV v <;> simp
    · simp [exprStep, spec_l4Step, spec_l4Step_j0, j2_low, hz, spec_in, Option.bind]
      cases n == 0 <;> cases zeroV v <;> simp
    · have hx : r.reverse.length ≤ 2097152 := by simp at hr ⊢; omega
      simp only [exprStep, spec_l4Step, spec_l4Step_j0, spec_l4Step_j2, hz, spec_in, rev2, g1 hx, len2 hx, g2, gt1, max0 hx rfl, sl_pre hx rfl, ap_pre hx, Option.bind_some]
      cases n == 0 <;> cases zeroV v <;> cases b == 1 <;> cases a == 1 <;> simp
  · rcases stack_cases rs with rfl | ⟨b, rfl⟩ | ⟨b, a, r, rfl⟩
    · simp [exprStep, spec_l4Step, spec_l4Step_j0, j3_low, hz, spec_in, Option.bind]
      cases inR n 1 4 <;> cases zeroV v <;> simp
    · simp [exprStep, spec_l4Step, spec_l4Step_j0, j3_low, hz, spec_in, Option.bind]
      cases inR n 1 4 <;> cases zeroV v <;> simp
    · have hx : r.reverse.length ≤ 2097152 := by simp at hr ⊢; omega
      simp only [exprStep, spec_l4Step, spec_l4Step_j0, spec_l4Step_j3, hz, spec_in, rev2, g1 hx, len2 hx, g2, gt1, max0 hx rfl, sl_pre hx rfl, ap_pre hx, Option.bind_some]
      cases inR n 1 4 <;> cases zeroV v <;> cases b == a <;> simp
  · rcases stack_cases rs with rfl | ⟨b, rfl⟩ | ⟨b, a, r, rfl⟩
    · simp [exprStep, spec_l4Step, spec_l4Step_j0, spec_l4Step_j4, j5_low, hz, spec_in, Option.bind]
      cases n == 0 <;> cases zeroV v <;> simp
    · simp [exprStep, spec_l4Step, spec_l4Step_j0, spec_l4Step_j4, j5_low, hz, spec_in, Option.bind]
      cases n == 0 <;> cases zeroV v <;> simp
    · have hx : r.reverse.length ≤ 2097152 := by simp at hr ⊢; omega
      simp only [exprStep, spec_l4Step, spec_l4Step_j0, spec_l4Step_j4, spec_l4Step_j5, hz, spec_in, rev2, g1 hx, len2 hx, g2, gt1, max0 hx rfl, sl_pre hx rfl, ap_pre hx, Option.bind_some]
      cases n == 0 <;> cases zeroV v <;> cases b == 3 <;> cases a == 3 <;> simp
  · rcases stack_cases rs with rfl | ⟨b, rfl⟩ | ⟨b, a, r, rfl⟩
    · simp [exprStep, spec_l4Step, spec_l4Step_j0, spec_l4Step_j4, j5_low, hz, spec_in, Option.bind]
      cases n == 0 <;> cases zeroV v <;> simp
    · simp [exprStep, spec_l4Step, spec_l4Step_j0, spec_l4Step_j4, j5_low, hz, spec_in, Option.bind]
      cases n == 0 <;> cases zeroV v <;> simp
    · have hx : r.reverse.length ≤ 2097152 := by simp at hr ⊢; omega
      simp only [exprStep, spec_l4Step, spec_l4Step_j0, spec_l4Step_j4, spec_l4Step_j5, hz, spec_in, rev2, g1 hx, len2 hx, g2, gt1, max0 hx rfl, sl_pre hx rfl, ap_pre hx, Option.bind_some]
      cases n == 0 <;> cases zeroV v <;> cases b == 3 <;> cases a == 3 <;> simp
  · rcases rs with _ | ⟨b, r⟩
    · simp [exprStep, spec_l4Step, spec_l4Step_j0, spec_l4Step_j4, hz]
    · have hx : r.reverse.length ≤ 2097152 := by simp at hr ⊢; omega
      simp only [exprStep, spec_l4Step, spec_l4Step_j0, spec_l4Step_j4, hz, rev1, len1 hx, g3, gt0, max0 hx rfl, sl_pre hx rfl, ap_pre hx, Option.bind_some]
      cases n == 0 <;> cases zeroV v <;> cases hb : b == 3 <;> simp_all
  · rcases rs with _ | ⟨b, r⟩
    · simp [exprStep, spec_l4Step, spec_l4Step_j0, spec_l4Step_j4, hz, wm1, appT, maxL, slI]
      cases n == 0 <;> cases zeroV v <;> simp
    · have hx : r.reverse.length ≤ 2097152 := by simp at hr ⊢; omega
      simp only [exprStep, spec_l4Step, spec_l4Step_j0, spec_l4Step_j4, hz, rev1, len1 hx, g3, gt0, max0 hx rfl, sl_pre hx rfl, ap_pre hx, Option.bind_some]
      cases n == 0 <;> cases zeroV v <;> simp
  · obtain ⟨h1, h2, h3, h4, h5, h6, h7, h8⟩ := hk
    have b1 : (k == 1) = false := by simp [h1]
    have b2 : (k == 2) = false := by simp [h2]
    have b3 : (k == 3) = false := by simp [h3]
    have b4 : (k == 4) = false := by simp [h4]
    have b5 : (k == 5) = false := by simp [h5]
    have b6 : (k == 6) = false := by simp [h6]
    have b7 : (k == 7) = false := by simp [h7]
    have b8 : (k == 8) = false := by simp [h8]
    simp only [exprStep, h1, h2, h3, h4, h5, h6, h7, h8, if_false, or_self, spec_l4Step, spec_l4Step_j0, spec_l4Step_j4, b1, b2, b3, b4, b5, b6, b7, b8, hz]
    cases zeroV v <;> cases n == 0 <;> simp
end Go.D
set_option linter.unusedVariables false
namespace Go.D
def exprKind (cs : List T_impl_Column) (ps : List T_impl_Part) : Int := bif colsOk cs && decide (ps.length ≤ 12) then exprRun cs ps [] else -1
theorem gt12 {α : Type} (xs : List α) : decide ((xs.length : Int) > 12) = !(decide (xs.length ≤ 12)) := by
  by_cases h : xs.length ≤ 12
  · have : ¬ (xs.length : Int) > 12 := by omega
    simp [h, this]
  · have : (xs.length : Int) > 12 := by omega
    simp [h, this]
theorem fin_run (st : List Int) (cs : List T_impl_Column) : (bif !((st.length : Int) == 1) then some (-1) else (getI st 0).bind fun v => some v) = some (exprRun cs [] st.reverse) := by
  match st with
  | [] => rfl
  | [k] => rfl
  | a :: b :: r =>
    have e : (((a :: b :: r).length : Int) == 1) = false := by
      simp only [beq_eq_false_iff_ne, ne_eq, List.length_cons]
      omega
    rw [e]
    unfold exprRun
    split
    · next k hk =>
      have := congrArg List.length hk
      simp at this
    · rfl
theorem spec_exprKind {cs : List T_impl_Column} {ps : List T_impl_Part} (hc : Sm cs.length) (hl : ps.length ≤ 2097152) (hp : ∀ p ∈ ps, SmP p) : spec_ExprKind cs ps = some (exprKind cs ps) := by
  unfold spec_ExprKind exprKind
  rw [spec_colsOk hc, Option.bind_some, gt12]
  cases colsOk cs
  · rfl
  cases h12 : decide (ps.length ≤ 12)
  · rfl
  have h12 : ps.length ≤ 12 := of_decide_eq_true h12
  simp only [Bool.not_true, cond_false, Bool.true_and, cond_true, spec_ExprKind_j0]
  have := loop_rec (xs := ps) (L := fun f i (s : Bool × List Int) => spec_ExprKind_l1 cs ps f s.1 i s.2) (fun ps s => bif s.1 then exprRun cs ps s.2.reverse else -1) (fun i s => s.1 = true → s.2.length ≤ i) (by omega)
    (fun f i s v rest hi hv hw hI => by
      obtain ⟨ok, st⟩ := s
      have hlt : (i : Int) < ps.length := by omega
      cases ok with
      | false =>
        refine .inl ?_
        simp only [spec_ExprKind_l1, hlt, decide_true, cond_true, spec_ExprKind_j2, cond_false, Bool.not_false, spec_ExprKind_j3]
      | true =>
        have hst := hI rfl
        have hs : SpecStep cs st.reverse v := spec_step hc (by simp; simp only at hst; omega) (hp v (List.mem_of_getElem? hv))
        unfold SpecStep at hs
        simp only [List.reverse_reverse] at hs
        refine .inr ?_
        cases he : exprStep cs st.reverse v with
        | none =>
          rw [he] at hs
          obtain ⟨s', hs⟩ := hs
          refine ⟨(false, s'), (fun h => by cases h), ?_, ?_⟩
          · simp only [spec_ExprKind_l1, hlt, decide_true, cond_true, spec_ExprKind_j2, getI_nat, hv, Option.bind_some, hs, hw]
          · simp only [cond_true, cond_false, exprRun, he]
        | some rs' =>
          rw [he] at hs
          have hs : spec_l4Step cs st v = some (rs'.reverse, true) := hs
          refine ⟨(true, rs'.reverse), fun _ => ?_, ?_, ?_⟩
          · have := exprStep_len he
            simp only [List.length_reverse] at this ⊢
            simp only at hst
            omega
          · simp only [spec_ExprKind_l1, hlt, decide_true, cond_true, spec_ExprKind_j2, getI_nat, hv, Option.bind_some, hs, hw]
          · simp only [cond_true, exprRun, he, List.reverse_reverse])
    (fun f s hI => by
      obtain ⟨ok, st⟩ := s
      simp only [spec_ExprKind_l1, Int.lt_irrefl, decide_false, cond_false, spec_ExprKind_j2]
      cases ok with
      | false => rfl
      | true =>
        simp only [Bool.not_true, cond_false, spec_ExprKind_j3, cond_true]
        exact fin_run st cs) (s := (true, [])) (fun _ => by simp)
  exact this
theorem impl_allk (k : Int) {xs : List Int} (h : xs.length ≤ 2097152) : impl_Part_kind_1 k xs = some (xs.all (· == k)) := by
  unfold impl_Part_kind_1 slices_ContainsFunc_int_int slices_IndexFunc_int_int
  obtain ⟨r, h1, h2⟩ := loop_find (xs := xs) (L := slices_IndexFunc_int_int_l0 xs (fun z0 => impl_Part_kind_1_1 z0 k)) (p := fun z => !(z == k)) (by omega) (fun f i v hi hv hw => by
    have : (i : Int) < xs.length := by omega
    simp only [slices_IndexFunc_int_int_l0, this, decide_true, cond_true, getI_nat, hv, Option.bind_some, impl_Part_kind_1_1, hw]) (fun f => by
    simp only [slices_IndexFunc_int_int_l0, Int.lt_irrefl, decide_false, cond_false])
  rw [h1, Option.bind_some, Option.bind_some, h2, not_any_not]
def ImplStep (cs : List T_impl_Column) (rs : List Int) (p : T_impl_Part) (x4 : Int) (K : Int → List Int → Option Int) : Prop :=
  ((impl_Part_takes p).bind fun v11 => (impl_Part_tells p cs).bind fun v24 => bif (!v24) then impl_ExprKind_j2 cs x4 rs.reverse K p v11 true else impl_ExprKind_j2 cs x4 rs.reverse K p v11 ((decide (((rs.reverse.length : Int)) < v11)))) =
    match exprStep cs rs p with
    | none => some (-1)
    | some rs' => K (w64 (x4 + 1)) rs'.reverse
theorem pre_all {xs : List Int} (h : xs.length ≤ 2097152) : slI xs none (some (w64 ((xs.length : Int) - 0))) none = some xs := by
  rw [len0 h]
  have := sl_pre (ys := []) h rfl
  rwa [List.append_nil] at this
theorem post_all {xs : List Int} (h : xs.length ≤ 2097152) : slI xs (some (w64 ((xs.length : Int) - 0))) none none = some [] := by
  rw [len0 h]
  have := sl_post (ys := []) h rfl
  rwa [List.append_nil] at this
theorem ap_full {xs : List Int} (h : xs.length ≤ 2097152) (k : Int) : appT xs [k] xs.length = some (xs ++ [k]) := by
  have := ap_pre (ys := []) h k
  rwa [List.append_nil] at this
theorem get0 (a b : Int) : getI [a, b] 0 = some a := rfl
theorem get1 (a b : Int) : getI [a, b] 1 = some b := rfl
theorem eq_comm_b (a b : Int) : (a == b) = (b == a) := by
  rw [Bool.eq_iff_iff, beq_iff_eq, beq_iff_eq]
  exact eq_comm
theorem impl_step {cs : List T_impl_Column} {rs : List Int} {p : T_impl_Part} {x4 : Int} {K : Int → List Int → Option Int} (hc : Sm cs.length) (hr : rs.length ≤ 2000000) (hp : SmP p) : ImplStep cs rs p x4 K := by
  obtain ⟨k, n, v⟩ := p
  have hv : impl_Value_ok v = some (valOk v) := impl_value hp
  have hz : eq_T_impl_Value v ((T_impl_Value.mk 0 0 (ByteArray.mk #[]))) = zeroV v := rfl
  have hw : w64 ((cs.length : Int) - 1) = (cs.length : Int) - 1 := w64_of (by omega) (by omega)
  have hxr : rs.reverse.length ≤ 2097152 := by simp; omega
  unfold ImplStep
  rcases kind_cases k with rfl | rfl | rfl | rfl | rfl | rfl | rfl | rfl | hk
  · simp only [exprStep, impl_Part_takes, impl_Part_takes_j0, impl_Part_takes_j1, impl_Part_tells, impl_Part_tells_j0, impl_ExprKind_j2, hv, hz, hw, impl_in, impl_Part_kind, Option.bind_some]
    cases n == 0 <;> cases valOk v <;> cases v.fKind == 0 <;> simp [-List.length_reverse, -Int.sub_zero, -List.length_append, -List.length_cons, -List.length_nil, lt0, post_all hxr, pre_all hxr, ap_full hxr]
  · simp only [exprStep, impl_Part_takes, impl_Part_takes_j0, impl_Part_takes_j1, impl_Part_tells, impl_Part_tells_j0, impl_ExprKind_j2, hv, hz, hw, impl_in, impl_Part_kind, Option.bind_some]
    cases zeroV v
    · cases inR n 0 ((cs.length : Int) - 1) <;> simp [-List.length_reverse, -Int.sub_zero, -List.length_append, -List.length_cons, -List.length_nil, lt0, post_all hxr, pre_all hxr, ap_full hxr]
    · cases hi : inR n 0 ((cs.length : Int) - 1) with
      | false => simp [-List.length_reverse, -Int.sub_zero, -List.length_append, -List.length_cons, -List.length_nil, lt0, post_all hxr, pre_all hxr, ap_full hxr]
      | true =>
        unfold inR at hi
        simp only [Bool.and_eq_true, decide_eq_true_eq] at hi
        obtain ⟨c, h1, h2⟩ := getI_lt (xs := cs) hi.1 (by omega)
        simp [-List.length_reverse, -Int.sub_zero, -List.length_append, -List.length_cons, -List.length_nil, lt0, post_all hxr, pre_all hxr, ap_full hxr, h1]
  · rcases stack_cases rs with rfl | ⟨b, rfl⟩ | ⟨b, a, r, rfl⟩
    · simp only [exprStep, impl_Part_takes, impl_Part_takes_j0, impl_Part_takes_j1, impl_Part_tells, impl_Part_tells_j0, impl_ExprKind_j2, hv, hz, hw, impl_in, impl_Part_kind, Option.bind_some]
      cases n == 0 <;> cases zeroV v <;> simp
    · simp only [exprStep, impl_Part_takes, impl_Part_takes_j0, impl_Part_takes_j1, impl_Part_tells, impl_Part_tells_j0, impl_ExprKind_j2, hv, hz, hw, impl_in, impl_Part_kind, Option.bind_some]
      cases n == 0 <;> cases zeroV v <;> simp
    · have hx : r.reverse.length ≤ 2097152 := by simp at hr ⊢; omega
      have hab : ([a, b] : List Int).length ≤ 2097152 := by simp
      simp only [exprStep, impl_Part_takes, impl_Part_takes_j0, impl_Part_takes_j1, impl_Part_tells, impl_Part_tells_j0, impl_ExprKind_j2, hv, hz, hw, impl_in, impl_Part_kind, Option.bind_some, rev2]
      cases n == 0 <;> cases zeroV v <;> cases ha : a == 1 <;> cases hb : b == 1 <;> simp [*, -List.length_reverse, -Int.sub_zero, -List.length_append, -List.length_cons, -List.length_nil, lt2, len2 hx, sl_pre hx rfl, sl_post hx rfl, ap_pre hx, impl_allk 1 hab, impl_allk 3 hab, get0, get1]
  · rcases stack_cases rs with rfl | ⟨b, rfl⟩ | ⟨b, a, r, rfl⟩
    · simp only [exprStep, impl_Part_takes, impl_Part_takes_j0, impl_Part_takes_j1, impl_Part_tells, impl_Part_tells_j0, impl_ExprKind_j2, hv, hz, hw, impl_in, impl_Part_kind, Option.bind_some]
      cases inR n 1 4 <;> cases zeroV v <;> simp
    · simp only [exprStep, impl_Part_takes, impl_Part_takes_j0, impl_Part_takes_j1, impl_Part_tells, impl_Part_tells_j0, impl_ExprKind_j2, hv, hz, hw, impl_in, impl_Part_kind, Option.bind_some]
      cases inR n 1 4 <;> cases zeroV v <;> simp
    · have hx : r.reverse.length ≤ 2097152 := by simp at hr ⊢; omega
      have hab : ([a, b] : List Int).length ≤ 2097152 := by simp
      simp only [exprStep, impl_Part_takes, impl_Part_takes_j0, impl_Part_takes_j1, impl_Part_tells, impl_Part_tells_j0, impl_ExprKind_j2, hv, hz, hw, impl_in, impl_Part_kind, Option.bind_some, rev2]
      cases inR n 1 4 <;> cases zeroV v <;> cases hb : b == a <;> simp [*, -List.length_reverse, -Int.sub_zero, -List.length_append, -List.length_cons, -List.length_nil, lt2, len2 hx, sl_pre hx rfl, sl_post hx rfl, ap_pre hx, impl_allk 1 hab, impl_allk 3 hab, get0, get1, eq_comm_b a b]
  · rcases stack_cases rs with rfl | ⟨b, rfl⟩ | ⟨b, a, r, rfl⟩
    · simp only [exprStep, impl_Part_takes, impl_Part_takes_j0, impl_Part_takes_j1, impl_Part_tells, impl_Part_tells_j0, impl_ExprKind_j2, hv, hz, hw, impl_in, impl_Part_kind, Option.bind_some]
      cases n == 0 <;> cases zeroV v <;> simp
    · simp only [exprStep, impl_Part_takes, impl_Part_takes_j0, impl_Part_takes_j1, impl_Part_tells, impl_Part_tells_j0, impl_ExprKind_j2, hv, hz, hw, impl_in, impl_Part_kind, Option.bind_some]
      cases n == 0 <;> cases zeroV v <;> simp
    · have hx : r.reverse.length ≤ 2097152 := by simp at hr ⊢; omega
      have hab : ([a, b] : List Int).length ≤ 2097152 := by simp
      simp only [exprStep, impl_Part_takes, impl_Part_takes_j0, impl_Part_takes_j1, impl_Part_tells, impl_Part_tells_j0, impl_ExprKind_j2, hv, hz, hw, impl_in, impl_Part_kind, Option.bind_some, rev2]
      cases n == 0 <;> cases zeroV v <;> cases ha : a == 3 <;> cases hb : b == 3 <;> simp [*, -List.length_reverse, -Int.sub_zero, -List.length_append, -List.length_cons, -List.length_nil, lt2, len2 hx, sl_pre hx rfl, sl_post hx rfl, ap_pre hx, impl_allk 1 hab, impl_allk 3 hab, get0, get1]
  · rcases stack_cases rs with rfl | ⟨b, rfl⟩ | ⟨b, a, r, rfl⟩
    · simp only [exprStep, impl_Part_takes, impl_Part_takes_j0, impl_Part_takes_j1, impl_Part_tells, impl_Part_tells_j0, impl_ExprKind_j2, hv, hz, hw, impl_in, impl_Part_kind, Option.bind_some]
      cases n == 0 <;> cases zeroV v <;> simp
    · simp only [exprStep, impl_Part_takes, impl_Part_takes_j0, impl_Part_takes_j1, impl_Part_tells, impl_Part_tells_j0, impl_ExprKind_j2, hv, hz, hw, impl_in, impl_Part_kind, Option.bind_some]
      cases n == 0 <;> cases zeroV v <;> simp
    · have hx : r.reverse.length ≤ 2097152 := by simp at hr ⊢; omega
      have hab : ([a, b] : List Int).length ≤ 2097152 := by simp
      simp only [exprStep, impl_Part_takes, impl_Part_takes_j0, impl_Part_takes_j1, impl_Part_tells, impl_Part_tells_j0, impl_ExprKind_j2, hv, hz, hw, impl_in, impl_Part_kind, Option.bind_some, rev2]
      cases n == 0 <;> cases zeroV v <;> cases ha : a == 3 <;> cases hb : b == 3 <;> simp [*, -List.length_reverse, -Int.sub_zero, -List.length_append, -List.length_cons, -List.length_nil, lt2, len2 hx, sl_pre hx rfl, sl_post hx rfl, ap_pre hx, impl_allk 1 hab, impl_allk 3 hab, get0, get1]
  · rcases rs with _ | ⟨b, r⟩
    · simp only [exprStep, impl_Part_takes, impl_Part_takes_j0, impl_Part_takes_j1, impl_Part_tells, impl_Part_tells_j0, impl_ExprKind_j2, hv, hz, hw, impl_in, impl_Part_kind, Option.bind_some]
      cases n == 0 <;> cases zeroV v <;> simp
    · have hx : r.reverse.length ≤ 2097152 := by simp at hr ⊢; omega
      have hab : ([b] : List Int).length ≤ 2097152 := by simp
      simp only [exprStep, impl_Part_takes, impl_Part_takes_j0, impl_Part_takes_j1, impl_Part_tells, impl_Part_tells_j0, impl_ExprKind_j2, hv, hz, hw, impl_in, impl_Part_kind, Option.bind_some, rev1]
      cases n == 0 <;> cases zeroV v <;> cases hb : b == 3 <;> simp [*, -List.length_reverse, -Int.sub_zero, -List.length_append, -List.length_cons, -List.length_nil, lt1, len1 hx, sl_pre hx rfl, sl_post hx rfl, ap_pre hx, impl_allk 3 hab]
  · rcases rs with _ | ⟨b, r⟩
    · simp only [exprStep, impl_Part_takes, impl_Part_takes_j0, impl_Part_takes_j1, impl_Part_tells, impl_Part_tells_j0, impl_ExprKind_j2, hv, hz, hw, impl_in, impl_Part_kind, Option.bind_some]
      cases n == 0 <;> cases zeroV v <;> simp
    · have hx : r.reverse.length ≤ 2097152 := by simp at hr ⊢; omega
      have hab : ([b] : List Int).length ≤ 2097152 := by simp
      simp only [exprStep, impl_Part_takes, impl_Part_takes_j0, impl_Part_takes_j1, impl_Part_tells, impl_Part_tells_j0, impl_ExprKind_j2, hv, hz, hw, impl_in, impl_Part_kind, Option.bind_some, rev1]
      cases n == 0 <;> cases zeroV v <;> cases hb : b == 3 <;> simp [*, -List.length_reverse, -Int.sub_zero, -List.length_append, -List.length_cons, -List.length_nil, lt1, len1 hx, sl_pre hx rfl, sl_post hx rfl, ap_pre hx, impl_allk 3 hab]
  · obtain ⟨h1, h2, h3, h4, h5, h6, h7, h8⟩ := hk
    have b1 : (k == 1) = false := by simp [h1]
    have b2 : (k == 2) = false := by simp [h2]
    have b3 : (k == 3) = false := by simp [h3]
    have b4 : (k == 4) = false := by simp [h4]
    have b5 : (k == 5) = false := by simp [h5]
    have b6 : (k == 6) = false := by simp [h6]
    have b7 : (k == 7) = false := by simp [h7]
    have b8 : (k == 8) = false := by simp [h8]
    simp only [h1, h2, h3, h4, h5, h6, h7, h8, if_false, or_self, b1, b2, b3, b4, b5, b6, b7, b8, exprStep, impl_Part_takes, impl_Part_takes_j0, impl_Part_takes_j1, impl_Part_tells, impl_Part_tells_j0, impl_ExprKind_j2, hv, hz, hw, impl_in, impl_Part_kind, Option.bind_some]
    rfl
theorem impl_exprKind {cs : List T_impl_Column} {ps : List T_impl_Part} (hc : Sm cs.length) (hl : ps.length ≤ 2097152) (hp : ∀ p ∈ ps, SmP p) : impl_ExprKind cs ps = some (exprKind cs ps) := by
  unfold impl_ExprKind exprKind
  rw [impl_colsOk hc, Option.bind_some, gt12]
  cases colsOk cs
  · rfl
  cases h12 : decide (ps.length ≤ 12)
  · rfl
  have h12 : ps.length ≤ 12 := of_decide_eq_true h12
  simp only [Bool.not_true, cond_false, Bool.true_and, cond_true, impl_ExprKind_j0]
  have := loop_rec (xs := ps) (L := fun f i (s : List Int) => impl_ExprKind_l1 cs ps f i s) (fun ps s => exprRun cs ps s.reverse) (fun i s => s.length ≤ i) (by omega)
    (fun f i st v rest hi hv hw hI => by
      have hlt : (i : Int) < ps.length := by omega
      have hs : ImplStep cs st.reverse v i (impl_ExprKind_l1 cs ps f) := impl_step hc (by simp; omega) (hp v (List.mem_of_getElem? hv))
      unfold ImplStep at hs
      rw [List.reverse_reverse, hw] at hs
      have e : impl_ExprKind_l1 cs ps (f + 1) i st = match exprStep cs st.reverse v with
        | none => some (-1)
        | some rs' => impl_ExprKind_l1 cs ps f ((i + 1 : Nat) : Int) rs'.reverse := by
        rw [← hs]
        simp only [impl_ExprKind_l1, hlt, decide_true, cond_true, getI_nat, hv, Option.bind_some]
      cases he : exprStep cs st.reverse v with
      | none =>
        refine .inl ?_
        rw [he] at e
        simp only [exprRun, he]
        exact e
      | some rs' =>
        rw [he] at e
        refine .inr ⟨rs'.reverse, ?_, e, ?_⟩
        · have := exprStep_len he
          simp only [List.length_reverse] at this ⊢
          omega
        · simp only [exprRun, he, List.reverse_reverse])
    (fun f st hI => by
      simp only [impl_ExprKind_l1, Int.lt_irrefl, decide_false, cond_false]
      exact fin_run st cs) (s := []) (by simp)
  exact this
end Go.D
set_option linter.unusedVariables false
namespace Go.D
def lstOk (n : Nat) (xs : List Int) : Bool := xs.all (fun x => inR x 0 ((n : Int) - 1)) && inR (xs.length : Int) 1 4
theorem wlen {n : Nat} (h : Sm n) : w64 ((n : Int) - 1) = (n : Int) - 1 := w64_of (by omega) (by omega)
theorem spec_lst {cs : List T_impl_Column} {xs : List Int} (hc : Sm cs.length) (hx : Sm xs.length) : spec_l12Columns cs xs = some (lstOk cs.length xs) := by
  unfold spec_l12Columns lstOk
  refine loop_all (by omega) (fun f i v hi hv hw => ?_) (fun f => ?_)
  · have : (i : Int) < xs.length := by omega
    simp only [spec_l12Columns_l0, this, decide_true, cond_true, getI_nat, hv, Option.bind_some, spec_in, wlen hc, hw]
    cases inR v 0 ((cs.length : Int) - 1) <;> rfl
  · simp only [spec_l12Columns_l0, Int.lt_irrefl, decide_false, cond_false, spec_in, Option.bind_some]
theorem impl_lst {t : T_impl_Table} {xs : List Int} (hc : Sm t.fColumns.length) (hx : Sm xs.length) : impl_listOk t xs = some (lstOk t.fColumns.length xs) := by
  unfold impl_listOk lstOk slices_ContainsFunc_int_int slices_IndexFunc_int_int
  obtain ⟨r, h1, h2⟩ := loop_find (xs := xs) (L := slices_IndexFunc_int_int_l0 xs (fun z0 => impl_listOk_1 z0 t)) (p := fun z => !(inR z 0 ((t.fColumns.length : Int) - 1))) (by omega) (fun f i v hi hv hw => by
    have : (i : Int) < xs.length := by omega
    simp only [slices_IndexFunc_int_int_l0, this, decide_true, cond_true, getI_nat, hv, Option.bind_some, impl_listOk_1, impl_in, wlen hc, hw]) (fun f => by
    simp only [slices_IndexFunc_int_int_l0, Int.lt_irrefl, decide_false, cond_false])
  rw [impl_in, Option.bind_some, h1, Option.bind_some, Option.bind_some, h2, not_any_not]
  cases inR (xs.length : Int) 1 4 <;> simp
theorem lst_get {n : Nat} {cs : List T_impl_Column} {xs : List Int} (h : lstOk n xs = true) (hn : cs.length = n) {x : Int} (hx : x ∈ xs) : ∃ c, getI cs x = some c := by
  unfold lstOk at h
  simp only [Bool.and_eq_true, List.all_eq_true] at h
  have := h.1 x hx
  unfold inR at this
  simp only [Bool.and_eq_true, decide_eq_true_eq] at this
  obtain ⟨c, h1, _⟩ := getI_lt (xs := cs) this.1 (by omega)
  exact ⟨c, h1⟩
def kindEq (t u : T_impl_Table) (p : Int × Int) : Bool := match getI t.fColumns p.1, getI u.fColumns p.2 with
  | some c, some d => c.fKind == d.fKind
  | _, _ => false
structure SmB (b : T_impl_Bond) : Prop where
  l : Sm b.fList.length
  t : Sm b.fTo.length
  e : Sm b.fE.length
  p : ∀ p ∈ b.fE, SmP p
theorem l2_same (ts : List T_impl_Table) (b : T_impl_Bond) (t : T_impl_Table) : ∀ f i, spec_BondOk_l2 ts b t f i = impl_bondOk_l2 ts b t f i := by
  intro f
  induction f with
  | zero => intro i; rfl
  | succ f ih =>
    intro i
    unfold spec_BondOk_l2 impl_bondOk_l2
    simp only [ih]
theorem spec_l2 {ts : List T_impl_Table} {b : T_impl_Bond} {t u : T_impl_Table} (hb : SmB b) (hu : getI ts b.fOf = some u) (h1 : lstOk t.fColumns.length b.fList = true) (h2 : lstOk u.fColumns.length b.fTo = true) (hl : b.fList.length = b.fTo.length) :
    spec_BondOk_l2 ts b t FUEL 0 = some ((b.fList.zip b.fTo).all (kindEq t u)) := by
  have hs := hb.l
  have hz : (b.fList.zip b.fTo).length = b.fList.length := by simp [hl]
  rw [show (b.fList.zip b.fTo).all (kindEq t u) = ((b.fList.zip b.fTo).all (kindEq t u) && true) by simp]
  refine loop_all (xs := b.fList.zip b.fTo) (by omega) (fun f i p hi hp hw => ?_) (fun f => ?_)
  · obtain ⟨p1, p2⟩ := zip_get hl hp
    have : (i : Int) < b.fList.length := by omega
    obtain ⟨c, hc⟩ := lst_get h1 rfl (List.mem_of_getElem? p1)
    obtain ⟨d, hd⟩ := lst_get h2 rfl (List.mem_of_getElem? p2)
    simp only [spec_BondOk_l2, this, decide_true, cond_true, getI_nat, p1, p2, Option.bind_some, hc, hd, hu, hw, kindEq]
    cases c.fKind == d.fKind <;> rfl
  · rw [hz]
    simp only [spec_BondOk_l2, Int.lt_irrefl, decide_false, cond_false]
def bondOkT (ts : List T_impl_Table) (b : T_impl_Bond) (t : T_impl_Table) : Bool :=
  bif b.fKind == 1 then lstOk t.fColumns.length b.fList && ((b.fOf == 0 && ((b.fTo.length : Int) == 0 && !b.fFollow)) && (b.fE.length : Int) == 0)
  else bif b.fKind == 3 then exprKind t.fColumns b.fE == 3 && ((b.fOf == 0 && ((b.fTo.length : Int) == 0 && !b.fFollow)) && (b.fList.length : Int) == 0)
  else bif b.fKind == 2 then inR b.fOf 0 ((ts.length : Int) - 1) && (match getI ts b.fOf with
    | some u => !(decide ((b.fE.length : Int) > 0)) && (lstOk t.fColumns.length b.fList && (lstOk u.fColumns.length b.fTo && ((b.fList.length : Int) == (b.fTo.length : Int) && (b.fList.zip b.fTo).all (kindEq t u))))
    | none => false)
  else false
def bondOk (ts : List T_impl_Table) (b : T_impl_Bond) : Bool := tabsOk ts && (inR b.fIn 0 ((ts.length : Int) - 1) && (match getI ts b.fIn with
    | some t => bondOkT ts b t
    | none => false))
theorem eq_len {m n : Nat} : (((m : Nat) : Int) == (n : Int)) = true → m = n := fun h => by
  have := eq_of_beq h
  omega
theorem spec_bondT {ts : List T_impl_Table} {b : T_impl_Bond} {t : T_impl_Table} (hts : SmTs ts) (hb : SmB b) (ht : SmT t) (hg : getI ts b.fIn = some t) : spec_BondOk_j0 ts b false = some (bondOkT ts b t) := by
  unfold spec_BondOk_j0 bondOkT
  simp only [cond_false, hg, Option.bind_some, spec_lst ht.1 hb.l, spec_exprKind ht.1 hb.e hb.p, spec_in, wlen hts.1]
  cases b.fKind == 1
  · cases b.fKind == 3
    · cases b.fKind == 2
      · rfl
      · simp only [cond_true, cond_false]
        cases hi : inR b.fOf 0 ((ts.length : Int) - 1) with
        | false => rfl
        | true =>
          have hi' := hi
          unfold inR at hi'
          simp only [Bool.and_eq_true, decide_eq_true_eq] at hi'
          obtain ⟨u, hu, hu2⟩ := getI_lt (xs := ts) hi'.1 (by omega)
          have hut := hts.2 u (List.mem_of_getElem? hu2)
          simp only [hu, Option.bind_some, spec_lst hut.1 hb.t, Bool.not_true, cond_false, Bool.true_and, spec_BondOk_j1]
          cases h1 : lstOk t.fColumns.length b.fList with
          | false => simp
          | true =>
            cases h2 : lstOk u.fColumns.length b.fTo with
            | false => simp
            | true =>
              cases hl : ((b.fList.length : Int) == (b.fTo.length : Int)) with
              | false => simp
              | true =>
                rw [spec_l2 hb hu h1 h2 (eq_len hl)]
                cases decide ((b.fE.length : Int) > 0) <;> simp
    · cases exprKind t.fColumns b.fE == 3 <;> cases b.fOf == 0 <;> cases (b.fTo.length : Int) == 0 <;> cases b.fFollow <;> cases (b.fList.length : Int) == 0 <;> rfl
  · cases lstOk t.fColumns.length b.fList <;> cases b.fOf == 0 <;> cases (b.fTo.length : Int) == 0 <;> cases b.fFollow <;> cases (b.fE.length : Int) == 0 <;> rfl
theorem spec_bond {ts : List T_impl_Table} {b : T_impl_Bond} (hts : SmTs ts) (hb : SmB b) : spec_BondOk ts b = some (bondOk ts b) := by
  unfold spec_BondOk bondOk
  rw [spec_tabsOk hts, Option.bind_some, spec_in, Option.bind_some, wlen hts.1]
  cases tabsOk ts with
  | false => rfl
  | true =>
    cases hi : inR b.fIn 0 ((ts.length : Int) - 1) with
    | false => rfl
    | true =>
      have hi' := hi
      unfold inR at hi'
      simp only [Bool.and_eq_true, decide_eq_true_eq] at hi'
      obtain ⟨t, hu, hu2⟩ := getI_lt (xs := ts) hi'.1 (by omega)
      have := spec_bondT hts hb (hts.2 t (List.mem_of_getElem? hu2)) hu
      simp only [Bool.not_true, cond_false, this, hu, Bool.true_and]
theorem impl_bondT {ts : List T_impl_Table} {b : T_impl_Bond} {t : T_impl_Table} (hts : SmTs ts) (hb : SmB b) (ht : SmT t) : impl_bondOk_j0 ts b t (b.fOf == 0 && ((b.fTo.length : Int) == 0 && !b.fFollow)) = some (bondOkT ts b t) := by
  unfold impl_bondOk_j0 bondOkT
  simp only [impl_lst ht.1 hb.l, impl_exprKind ht.1 hb.e hb.p, impl_in, wlen hts.1, Option.bind_some]
  cases b.fKind == 1
  · cases b.fKind == 3
    · cases b.fKind == 2
      · rfl
      · simp only [cond_true, cond_false]
        cases hi : inR b.fOf 0 ((ts.length : Int) - 1) with
        | false => rfl
        | true =>
          have hi' := hi
          unfold inR at hi'
          simp only [Bool.and_eq_true, decide_eq_true_eq] at hi'
          obtain ⟨u, hu, hu2⟩ := getI_lt (xs := ts) hi'.1 (by omega)
          have hut := hts.2 u (List.mem_of_getElem? hu2)
          simp only [hu, Option.bind_some, impl_lst hut.1 hb.t, Bool.not_true, cond_false, Bool.true_and, impl_bondOk_j1]
          cases decide ((b.fE.length : Int) > 0) with
          | true => rfl
          | false =>
          cases h1 : lstOk t.fColumns.length b.fList with
          | false => simp
          | true =>
            cases h2 : lstOk u.fColumns.length b.fTo with
            | false => simp
            | true =>
              rw [show ((b.fTo.length : Int) == (b.fList.length : Int)) = ((b.fList.length : Int) == (b.fTo.length : Int)) from eq_comm_b _ _]
              cases hl : ((b.fList.length : Int) == (b.fTo.length : Int)) with
              | false => simp
              | true =>
                rw [← l2_same, spec_l2 hb hu h1 h2 (eq_len hl)]
                simp
    · cases exprKind t.fColumns b.fE == 3 <;> cases (b.fOf == 0 && ((b.fTo.length : Int) == 0 && !b.fFollow)) <;> cases (b.fList.length : Int) == 0 <;> rfl
  · cases lstOk t.fColumns.length b.fList <;> cases (b.fOf == 0 && ((b.fTo.length : Int) == 0 && !b.fFollow)) <;> cases (b.fE.length : Int) == 0 <;> rfl
theorem impl_bond {ts : List T_impl_Table} {b : T_impl_Bond} (hts : SmTs ts) (hb : SmB b) (hok : tabsOk ts = true) : impl_bondOk ts b = some (bondOk ts b) := by
  unfold impl_bondOk bondOk
  rw [impl_in, Option.bind_some, wlen hts.1, hok]
  cases hi : inR b.fIn 0 ((ts.length : Int) - 1) with
  | false => rfl
  | true =>
    have hi' := hi
    unfold inR at hi'
    simp only [Bool.and_eq_true, decide_eq_true_eq] at hi'
    obtain ⟨t, hu, hu2⟩ := getI_lt (xs := ts) hi'.1 (by omega)
    have := impl_bondT hts hb (hts.2 t (List.mem_of_getElem? hu2))
    simp only [Bool.not_true, cond_false, hu, Option.bind_some, Bool.true_and]
    rw [← this]
    cases b.fOf == 0 <;> cases (b.fTo.length : Int) == 0 <;> rfl
end Go.D
set_option linter.unusedVariables false
namespace Go.D
theorem leaf_ok {n : Int} {r : T_spec_l20Rd} (h : RdOk n r) (hn : n ≤ 400000) (cs : List T_impl_Column) (hc : cs.length ≤ 6) (kd : Int) : Wp (spec_l20Leaf r cs kd) fun p r' => RdOk (n + 10) r' ∧ SmP p := by
  unfold spec_l20Leaf
  have e0 : (ByteArray.mk #[]).size = 0 := rfl
  have j1 : ∀ (m : Int) (r : T_spec_l20Rd) (x : Int) (K : Int → T_spec_l20Rd → Option (T_impl_Part × T_spec_l20Rd)) (b : Bool), RdOk m r → m ≤ n + 8 → (b = true → 0 < cs.length) → (b = true → ∀ r', RdOk (m + 2) r' → Wp (K (w64 (x + 1)) r') fun p r' => RdOk (n + 10) r' ∧ SmP p) →
      Wp (spec_l20Leaf_j1 cs kd x r K b) fun p r' => RdOk (n + 10) r' ∧ SmP p := by
    intro m r x K b hr hm hb hK
    unfold spec_l20Leaf_j1
    refine wp_bif (fun hbt => ?_) fun _ => wp_then (like_ok hr (by omega) _) fun v r1 hq => wp_some ⟨hq.1.up (by omega), by have := hq.2; unfold SmP SmV; simp only; omega⟩
    have hpos := hb hbt
    refine wp_pick hr (by omega) fun k r1 g1 p0 _ p1 => wp_getI p0 (p1 (by omega)) fun c _ => ?_
    have j2 : ∀ (r2 : T_spec_l20Rd) (b2 : Bool), RdOk (m + 2) r2 → Wp (spec_l20Leaf_j2 x K (k, r1) b2 r2) fun p r' => RdOk (n + 10) r' ∧ SmP p := by
      intro r2 b2 h2
      unfold spec_l20Leaf_j2
      exact wp_bif (fun _ => wp_some ⟨h2.up (by omega), by unfold SmP SmV; simp only [e0]; omega⟩) fun _ => hK hbt r2 h2
    refine wp_bif (fun _ => wp_pick g1 (by omega) fun k2 r2 g2 _ _ _ => j2 _ _ (g2.up (by omega))) fun _ => j2 _ _ (g1.up (by omega))
  have main : ∀ (k f : Nat) (i : Nat) (r : T_spec_l20Rd), i + k = 4 → k < f → RdOk (n + 2 * i) r → Wp (spec_l20Leaf_l0 cs kd f (i : Int) r) fun p r' => RdOk (n + 10) r' ∧ SmP p := by
    intro k
    induction k with
    | zero =>
      intro f i r hi hf hr
      obtain ⟨f, rfl⟩ : ∃ f', f = f' + 1 := ⟨f - 1, by omega⟩
      rw [spec_l20Leaf_l0, decide_eq_false (by omega), cond_false]
      exact j1 _ _ _ _ _ hr (by omega) (fun h => by cases h) (fun h => by cases h)
    | succ k ih =>
      intro f i r hi hf hr
      obtain ⟨f, rfl⟩ : ∃ f', f = f' + 1 := ⟨f - 1, by omega⟩
      have hw : w64 ((i : Int) + 1) = ((i + 1 : Nat) : Int) := by rw [w64_of] <;> omega
      rw [spec_l20Leaf_l0, decide_eq_true (by omega), cond_true]
      refine j1 _ _ _ _ _ hr (by omega) (fun h => by have := of_decide_eq_true h; omega) (fun _ r' hr' => ?_)
      rw [hw]
      exact ih f (i + 1) r' (by omega) (by omega) (hr'.up (by omega))
  exact main 4 FUEL 0 r rfl (by unfold FUEL; omega) (h.up (by simp))
def costE : Nat → Int
  | 0 => 12
  | d + 1 => 2 * costE d + 24
def lenE : Nat → Nat
  | 0 => 1
  | d + 1 => 2 * lenE d + 2
theorem costE_pos : ∀ d, 12 ≤ costE d
  | 0 => by simp [costE]
  | d + 1 => by have := costE_pos d; simp only [costE]; omega
theorem lenE_pos : ∀ d, 1 ≤ lenE d
  | 0 => by simp [lenE]
  | d + 1 => by simp only [lenE]; omega
def ExOk (l : Nat) (e : List T_impl_Part) : Prop := e.length ≤ l ∧ ∀ p ∈ e, SmP p
theorem ExOk.app {k l : Nat} {a b : List T_impl_Part} (h : ExOk k a) (h2 : ExOk l b) : ExOk (k + l) (a ++ b) := ⟨by have := h.1; have := h2.1; rw [List.length_append]; omega, fun v hv => (List.mem_append.1 hv).elim (h.2 v) (h2.2 v)⟩
theorem ExOk.one {p : T_impl_Part} (h : SmP p) : ExOk 1 [p] := ⟨by simp, fun u hu => by simp at hu; subst hu; exact h⟩
theorem ExOk.up {k l : Nat} {a : List T_impl_Part} (h : ExOk k a) (hl : k ≤ l) : ExOk l a := ⟨Nat.le_trans h.1 hl, h.2⟩
theorem smP_op (k n : Int) : SmP (T_impl_Part.mk k n (T_impl_Value.mk 0 0 (ByteArray.mk #[]))) := by
  have e0 : (ByteArray.mk #[]).size = 0 := rfl
  unfold SmP SmV
  simp only [e0]
  omega
theorem expr_ok {cs : List T_impl_Column} (hc : cs.length ≤ 6) : ∀ (d f : Nat) (n : Int) (r : T_spec_l20Rd) (kd a : Int), d ≤ 4 → d < f → a ≤ d → -5 ≤ a → RdOk n r → n + costE d ≤ 300000 → Wp (spec_l20Expr_f f r cs kd a) fun e r' => RdOk (n + costE d) r' ∧ ExOk (lenE d) e
  | d, 0, n, r, kd, a, _, hf, _, _, _, _ => absurd hf (Nat.not_lt_zero _)
  | 0, f + 1, n, r, kd, a, _, _, ha, _, hr, hn => by
    have c0 : costE 0 = 12 := rfl
    rw [spec_l20Expr_f]
    unfold spec_l20Expr_s
    rw [decide_eq_true (by omega), cond_true]
    unfold spec_l20Expr_j0
    rw [cond_true]
    exact wp_then (leaf_ok hr (by omega) cs hc kd) fun p r1 hq => wp_some ⟨hq.1.up (by omega), (ExOk.one hq.2).up (by simp [lenE])⟩
  | d + 1, f + 1, n, r, kd, a, hd, hf, ha, ha2, hr, hn => by
    have cp := costE_pos d
    have lp := lenE_pos d
    have c4 : costE d ≤ 500 := by
      match d, hd with
      | 0, _ => simp [costE]
      | 1, _ => simp [costE]
      | 2, _ => simp [costE]
      | 3, _ => simp [costE]
    have ce : costE (d + 1) = 2 * costE d + 24 := rfl
    have le : lenE (d + 1) = 2 * lenE d + 2 := rfl
    have l4 : lenE d ≤ 100 := by
      match d, hd with
      | 0, _ => simp [lenE]
      | 1, _ => simp [lenE]
      | 2, _ => simp [lenE]
      | 3, _ => simp [lenE]
    have leafE : ∀ (m : Int) (r : T_spec_l20Rd) (k : Int), RdOk m r → m ≤ n + 2 → Wp ((spec_l20Leaf r cs k).bind fun v4 => some (([v4.1] : List T_impl_Part), v4.2)) fun e r' => RdOk (n + costE (d + 1)) r' ∧ ExOk (lenE (d + 1)) e := by
      intro m r k hr hm
      exact wp_then (leaf_ok hr (by omega) cs hc k) fun p r1 hq => wp_some ⟨hq.1.up (by omega), (ExOk.one hq.2).up (by omega)⟩
    rw [spec_l20Expr_f]
    unfold spec_l20Expr_s
    by_cases h1 : a < 1
    · rw [decide_eq_true h1, cond_true]
      unfold spec_l20Expr_j0
      rw [cond_true]
      exact leafE _ _ _ hr (by omega)
    rw [decide_eq_false h1, cond_false]
    have w1 : w64 (a - 1) = a - 1 := w64_of (by omega) (by omega)
    have w2 : w64 (a - 2) = a - 2 := w64_of (by omega) (by omega)
    have ih := fun (n : Int) (r : T_spec_l20Rd) (k b : Int) (hb : b ≤ d) (hb2 : -5 ≤ b) (hr : RdOk n r) (hn : n + costE d ≤ 300000) => expr_ok hc d f n r k b (by omega) (by omega) hb hb2 hr hn
    refine wp_pick hr (by omega) fun k0 r0 g0 _ _ _ => ?_
    unfold spec_l20Expr_j0
    simp only [w1, w2]
    refine wp_bif (fun _ => leafE _ _ _ g0 (by omega)) fun _ => wp_bif (fun _ => ?_) fun _ => wp_bif (fun _ => leafE _ _ _ g0 (by omega)) fun _ => ?_
    · refine wp_then (ih _ _ kd (a - 1) (by omega) (by omega) g0 (by omega)) fun e1 r1 q1 => wp_then (leaf_ok q1.1 (by omega) cs hc kd) fun p r2 q2 => ?_
      have x1 := q1.2.app (ExOk.one q2.2)
      have x2 := x1.app (ExOk.one (smP_op 3 0))
      have l1 := q1.2.1
      refine wp_app (by simp; omega) (wp_app (by simp; omega) (wp_some ⟨q2.1.up (by omega), x2.up (by omega)⟩))
    · refine wp_pick g0 (by omega) fun k1 r1 g1 _ _ _ => wp_bif (fun _ => ?_) fun _ => wp_bif (fun _ => ?_) fun _ => wp_bif (fun _ => ?_) fun _ => ?_
      · refine wp_then (ih _ _ 3 (a - 1) (by omega) (by omega) g1 (by omega)) fun e1 r2 q1 => wp_then (ih _ _ 3 (a - 2) (by omega) (by omega) q1.1 (by omega)) fun e2 r3 q2 => ?_
        have l1 := q1.2.1
        have l2 := q2.2.1
        refine wp_app (by (try simp only); omega) (wp_pick q2.1 (by omega) fun k2 r4 g4 _ _ _ => wp_app (by simp; omega) (wp_some ⟨g4.up (by omega), ((q1.2.app q2.2).app (ExOk.one (smP_op _ 0))).up (by omega)⟩))
      · refine wp_then (ih _ _ 3 (a - 1) (by omega) (by omega) g1 (by omega)) fun e1 r2 q1 => ?_
        have l1 := q1.2.1
        exact wp_app (by simp; omega) (wp_some ⟨q1.1.up (by omega), (q1.2.app (ExOk.one (smP_op _ 0))).up (by omega)⟩)
      · refine wp_pick g1 (by omega) fun k2 r2 g2 _ _ _ => wp_then (ih _ _ _ (a - 1) (by omega) (by omega) g2 (by omega)) fun e1 r3 q1 => ?_
        have l1 := q1.2.1
        exact wp_app (by simp; omega) (wp_some ⟨q1.1.up (by omega), (q1.2.app (ExOk.one (smP_op _ 0))).up (by omega)⟩)
      · refine wp_pick g1 (by omega) fun k2 r2 g2 _ _ _ => wp_then (ih _ _ _ (a - 1) (by omega) (by omega) g2 (by omega)) fun e1 r3 q1 => wp_then (leaf_ok q1.1 (by omega) cs hc _) fun p r4 q2 => ?_
        have l1 := q1.2.1
        refine wp_app (by simp; omega) (wp_pick q2.1 (by omega) fun k3 r5 g5 _ _ _ => wp_app (by simp; omega) (wp_some ⟨g5.up (by omega), ((q1.2.app (ExOk.one q2.2)).app (ExOk.one (smP_op _ _))).up (by omega)⟩))
end Go.D
set_option linter.unusedVariables false
namespace Go.D
theorem smB_of {k i o : Int} {f : Bool} {l t : List Int} {e : List T_impl_Part} (hl : l.length ≤ 100) (ht : t.length ≤ 100) (he : ExOk 1000 e) : SmB (T_impl_Bond.mk k i l o t f e) := ⟨by simp only; omega, by simp only; omega, by have := he.1; simp only; omega, he.2⟩
theorem exNil : ExOk 1000 [] := ⟨by simp, fun p hp => by cases hp⟩
theorem bond_j4 {n m : Int} {xs ys : List Int} {r : T_spec_l20Rd} {b : T_impl_Bond} (h : RdOk m r) (hm : m ≤ n) (hx : ys.length ≤ 50) (hy : xs.length ≤ 50) : Wp (spec_l20Bond_j4 xs r b ys) fun b r' => RdOk n r' ∧ SmB b := by
  unfold spec_l20Bond_j4
  exact wp_some ⟨h.up hm, smB_of (l := ys) (t := xs) (by omega) (by omega) exNil⟩
theorem bond_l2 {n : Int} {ts : List T_impl_Table} (hn : n ≤ 200000) (h1 : 1 ≤ ts.length) (ht : ∀ t ∈ ts, TbOk t) (a : Int) {v5 : T_impl_Table} (h5 : TbOk v5) : ∀ (k f i : Nat) (r : T_spec_l20Rd) (b : T_impl_Bond) (xs ys : List Int), i + k = 12 → k < f → RdOk (n + 4 * i) r → xs.length ≤ 1 → ys.length ≤ 1 →
    Wp (spec_l20Bond_l2 ts a v5 f (i : Int) r b xs ys) fun b r' => RdOk (n + 100) r' ∧ SmB b := by
  have j3 : ∀ (m : Int) (x : Int) (r : T_spec_l20Rd) (b : T_impl_Bond) (xs ys : List Int) (K : Int → T_spec_l20Rd → T_impl_Bond → List Int → List Int → Option (T_impl_Bond × T_spec_l20Rd)) (c : Bool), RdOk m r → m ≤ n + 50 → xs.length ≤ 1 → ys.length ≤ 1 →
      (c = true → ∀ r' b' xs' ys', RdOk (m + 3) r' → xs'.length ≤ 1 → ys'.length ≤ 1 → Wp (K (w64 (x + 1)) r' b' xs' ys') fun b r' => RdOk (n + 100) r' ∧ SmB b) → Wp (spec_l20Bond_j3 ts a v5 x r b xs ys K c) fun b r' => RdOk (n + 100) r' ∧ SmB b := by
    intro m x r b xs ys K c hr hm hx hy hK
    unfold spec_l20Bond_j3
    refine wp_bif (fun hc => ?_) fun _ => ?_
    · refine wp_pick hr (by omega) fun k1 r1 g1 p0 _ p1 => wp_pick g1 (by omega) fun k2 r2 g2 q0 _ q1 => ?_
      obtain ⟨t, et, hm3⟩ := getI_lt (xs := ts) p0 (p1 (by omega))
      have c5 := h5.c1
      have ct := (ht t (List.mem_of_getElem? hm3)).c1
      simp only [et, Option.bind_some]
      exact wp_pick g2 (by omega) fun k3 r3 g3 s0 _ s1 => wp_getI q0 (q1 (by omega)) fun c1 _ => wp_getI s0 (s1 (by omega)) fun c2 _ => wp_bif (fun _ => hK hc _ _ _ _ (g3.up (by omega)) (by simp) (by simp)) fun _ => hK hc _ _ _ _ (g3.up (by omega)) hx hy
    · refine wp_pick hr (by omega) fun k1 r1 g1 _ _ _ => wp_odd g1 (by omega) fun o r2 g2 => wp_bif (fun _ => ?_) fun _ => bond_j4 g2 (by omega) (by omega) (by omega)
      refine wp_pick g2 (by omega) fun k2 r3 g3 _ _ _ => wp_bif (fun _ => ?_) fun _ => wp_bif (fun _ => ?_) fun _ => wp_bif (fun _ => ?_) fun _ => bond_j4 g3 (by omega) (by omega) (by omega)
      · exact wp_pick g3 (by omega) fun k4 r4 g4 _ _ _ => bond_j4 g4 (by omega) (by omega) (by omega)
      · exact wp_pick g3 (by omega) fun k4 r4 g4 _ _ _ => bond_j4 g4 (by omega) (by omega) (by omega)
      · exact wp_pick g3 (by omega) fun k4 r4 g4 _ _ _ => wp_app (by simp; omega) (bond_j4 g4 (by omega) (by simp; omega) (by omega))
  intro k
  induction k with
  | zero =>
    intro f i r b xs ys hi hf hr hx hy
    obtain ⟨f, rfl⟩ : ∃ f', f = f' + 1 := ⟨f - 1, by omega⟩
    rw [spec_l20Bond_l2, decide_eq_false (by omega), cond_false]
    exact j3 _ _ _ _ _ _ _ _ hr (by omega) hx hy (fun h => by cases h)
  | succ k ih =>
    intro f i r b xs ys hi hf hr hx hy
    obtain ⟨f, rfl⟩ : ∃ f', f = f' + 1 := ⟨f - 1, by omega⟩
    have hw : w64 ((i : Int) + 1) = ((i + 1 : Nat) : Int) := by rw [w64_of] <;> omega
    rw [spec_l20Bond_l2, decide_eq_true (by omega), cond_true]
    refine j3 _ _ _ _ _ _ _ _ hr (by omega) hx hy (fun _ r' b' xs' ys' hr' hx' hy' => ?_)
    rw [hw]
    exact ih f (i + 1) r' b' xs' ys' (by omega) (by omega) (hr'.up (by omega)) hx' hy'
theorem bond_ok {n : Int} {r : T_spec_l20Rd} (h : RdOk n r) (hn : n ≤ 190000) {ts : List T_impl_Table} (h1 : 1 ≤ ts.length) (ht : ∀ t ∈ ts, TbOk t) (a : Int) : Wp (spec_l20Bond r ts a) fun b r' => RdOk (n + 200) r' ∧ SmB b := by
  unfold spec_l20Bond
  refine wp_pick h (by omega) fun k1 r1 g1 _ _ _ => wp_pick g1 (by omega) fun k2 r2 g2 p0 _ p1 => wp_getI p0 (p1 (by omega)) fun t htm => ?_
  have h5 := ht t htm
  have c5 := h5.c1
  refine wp_bif (fun _ => ?_) fun _ => wp_bif (fun _ => ?_) fun _ => wp_bif (fun _ => ?_) fun _ => ?_
  · repeat' first
      | refine wp_pick (by assumption) (by omega) fun k r h _ _ _ => ?_
      | refine wp_odd (by assumption) (by omega) fun b r h => ?_
      | refine wp_bif (fun _ => ?_) fun _ => ?_
      | refine wp_app (by simp) ?_
      | exact wp_some ⟨RdOk.up (by assumption) (by omega), smB_of (by simp) (by simp) exNil⟩
  · have ce : costE 2 = 120 := rfl
    refine wp_then (P := fun e r' => RdOk (n + 2 + 120) r' ∧ ExOk 1000 e) (wp_mono (expr_ok h5.c2 2 FUEL (n + 1 + 1) r2 3 2 (by omega) (by unfold FUEL; omega) (by omega) (by omega) g2 (by omega)) fun e r' hq => ⟨hq.1.up (by omega), hq.2.up (by simp [lenE])⟩) fun e r3 q3 => ?_
    obtain ⟨g3, x3⟩ := q3
    repeat' first
      | refine wp_pick (by assumption) (by omega) fun k r h _ _ _ => ?_
      | refine wp_odd (by assumption) (by omega) fun b r h => ?_
      | refine wp_bif (fun _ => ?_) fun _ => ?_
      | refine wp_app (by simp) ?_
      | exact wp_some ⟨RdOk.up (by assumption) (by omega), smB_of (by simp) (by simp) x3⟩
  · exact wp_mono (bond_l2 (n := n + 2) (by omega) h1 ht a h5 12 FUEL 0 r2 _ _ _ rfl (by unfold FUEL; omega) (g2.up (by simp; omega)) (by simp) (by simp)) fun b r' hq => ⟨hq.1.up (by omega), hq.2⟩
  · repeat' first
      | refine wp_pick (by assumption) (by omega) fun k r h _ _ _ => ?_
      | refine wp_odd (by assumption) (by omega) fun b r h => ?_
      | refine wp_bif (fun _ => ?_) fun _ => ?_
      | refine wp_app (by simp) ?_
      | exact wp_some ⟨RdOk.up (by assumption) (by omega), smB_of (by simp) (by simp) exNil⟩
end Go.D
set_option linter.unusedVariables false
namespace Go.D
open Go.Proofs
theorem rd_5 : Rd Try.prog 5 UInt8 u8W := rd_u8 Try.underlying5 (by kernel_rfl)
theorem rd_22 : Rd Try.prog 22 (List UInt8) (listW u8W) := rd_slice Try.underlying22 (by kernel_rfl) rd_5
end Go.D
set_option linter.unusedVariables false
namespace Go.D
theorem draw_ok {b : List UInt8} (hb : b.length ≤ 1048576) : ∃ ts bd, spec_DrawBondOk b = some (ts, bd) ∧ SmTs ts ∧ SmB bd ∧ ∀ t ∈ ts, TbOk t := by
  unfold spec_DrawBondOk
  obtain ⟨r, e, hr⟩ := open_ok hb
  obtain ⟨ts, r2, e2, q1, q2, q3, q4⟩ := tables_ok hr (by omega)
  obtain ⟨bd, r3, e3, q5, q6⟩ := bond_ok q1 (by omega) q2 q4 3
  refine ⟨ts, bd, ?_, ⟨by omega, fun t ht => (q4 t ht).sm⟩, q6, q4⟩
  rw [e, Option.bind_some, e2, Option.bind_some, e3, Option.bind_some]
theorem impl_bondOkB {ts : List T_impl_Table} {b : T_impl_Bond} (hts : SmTs ts) (hb : SmB b) : impl_BondOk ts b = some (bondOk ts b) := by
  unfold impl_BondOk
  rw [impl_tabsOk hts, Option.bind_some]
  cases h : tabsOk ts with
  | false => simp [bondOk, h]
  | true => rw [cond_true, impl_bond hts hb h, Option.bind_some]
theorem alive_ok : laws_alive = some true := by
  have e0 : (ByteArray.mk #[]).size = 0 := rfl
  unfold laws_alive impl_ValueOk
  rw [impl_value (v := T_impl_Value.mk 1 3 (ByteArray.mk #[])) (by simp [e0]), Option.bind_some, impl_value (v := T_impl_Value.mk 9 0 (ByteArray.mk #[])) (by simp [e0]), Option.bind_some]
  have h1 : valOk (T_impl_Value.mk 1 3 (ByteArray.mk #[])) = true := by simp [valOk, inR]
  have h2 : valOk (T_impl_Value.mk 9 0 (ByteArray.mk #[])) = false := by simp [valOk]
  rw [h1, h2]
  rfl
def bareT (t : T_impl_Table) : T_impl_Table := ⟨t.fColumns, []⟩
theorem bare_get {ts : List T_impl_Table} {i : Int} : getI (ts.map bareT) i = (getI ts i).map bareT := by
  unfold getI
  split
  · rw [List.getElem?_map]
  · rfl
theorem bare_sm {ts : List T_impl_Table} (h : SmTs ts) : SmTs (ts.map bareT) := ⟨by rw [List.length_map]; exact h.1, fun t ht => by
  obtain ⟨u, hu, rfl⟩ := List.mem_map.1 ht
  exact ⟨(h.2 u hu).1, by simp [bareT], fun r hr => by cases hr⟩⟩
theorem bare_tabs {ts : List T_impl_Table} (h : tabsOk ts = true) : tabsOk (ts.map bareT) = true := by
  unfold tabsOk at h ⊢
  simp only [Bool.and_eq_true, List.all_eq_true, decide_eq_true_eq] at h ⊢
  refine ⟨fun t ht => ?_, by rw [List.length_map]; exact h.2⟩
  obtain ⟨u, hu, rfl⟩ := List.mem_map.1 ht
  have := h.1 u hu
  unfold tabOk rowsOk at this ⊢
  simp only [Bool.and_eq_true] at this ⊢
  exact ⟨rfl, this.2.1, rfl⟩
theorem bare_bondT {ts : List T_impl_Table} {b : T_impl_Bond} {t : T_impl_Table} : bondOkT (ts.map bareT) b (bareT t) = bondOkT ts b t := by
  unfold bondOkT
  rw [bare_get, List.length_map]
  cases getI ts b.fOf <;> rfl
theorem bare_bond {ts : List T_impl_Table} {b : T_impl_Bond} (h : tabsOk ts = true) : bondOk (ts.map bareT) b = bondOk ts b := by
  unfold bondOk
  rw [h, bare_tabs h, List.length_map, bare_get]
  cases getI ts b.fIn with
  | none => rfl
  | some t => simp only [Option.map_some, bare_bondT]
theorem broken_bare {ts : List T_impl_Table} {b : T_impl_Bond} (hts : SmTs ts) (hb : SmB b) (h : tabsOk ts = true) : impl_BondBroken (ts.map bareT) b = some (bif bondOk ts b then -1 else -2) := by
  unfold impl_BondBroken
  rw [impl_bondOkB (bare_sm hts) hb, Option.bind_some, bare_bond h]
  cases hk : bondOk ts b with
  | false => rfl
  | true =>
    rw [Bool.not_true, cond_false, cond_true]
    unfold impl_Bond_broken
    unfold bondOk at hk
    simp only [Bool.and_eq_true] at hk
    cases hg : getI ts b.fIn with
    | none => rw [hg] at hk; exact absurd hk.2.2 (by simp)
    | some t =>
      rw [bare_get, hg, Option.map_some, Option.bind_some]
      obtain ⟨F, hF⟩ : ∃ F, FUEL = F + 1 := ⟨FUEL - 1, by unfold FUEL; omega⟩
      rw [hF, impl_Bond_broken_l0]
      have : decide ((0 : Int) < (((bareT t).fRows.length : Nat) : Int)) = false := rfl
      rw [this, cond_false, Option.bind_some]
theorem law_bondOk {a0 : List UInt8} (w0 : listW u8W a0) : laws_FnBondOk a0 = some true := by
  unfold laws_FnBondOk
  by_cases hl : (a0.length : Int) > 1048576
  · rw [decide_eq_true hl, cond_true]
  rw [decide_eq_false hl, cond_false]
  obtain ⟨ts, bd, e, hts, hb, htb⟩ := draw_ok (b := a0) (by omega)
  rw [e, Option.bind_some]
  simp only
  rw [impl_bondOkB hts hb, Option.bind_some, spec_bond hts hb, Option.bind_some, beq_self_eq_true, Bool.not_true, cond_false]
  have hn := hts.1
  have := loop_opt (xs := ts) (L := fun f i (s : List T_impl_Table) => laws_FnBondOk_l0 (ts, bd) (bondOk ts bd) f i s) (fun rest s => some true) (fun i s => s = (ts.take i).map bareT) (by omega)
    (fun f i s t hi hv hw hI => by
      have hlt : (i : Int) < ts.length := by omega
      refine .inr ⟨s ++ [bareT t], ?_, ?_, rfl⟩
      · rw [hI, List.take_add_one, hv]
        simp
      · have hsl : s.length ≤ 2097152 := by rw [hI, List.length_map, List.length_take]; omega
        rw [laws_FnBondOk_l0]
        simp only
        rw [decide_eq_true hlt, cond_true, getI_nat, hv, Option.bind_some, app_lt (by simp; omega), Option.bind_some, hw]
        rfl)
    (fun f s hI => by
      rw [List.take_length] at hI
      rw [laws_FnBondOk_l0]
      simp only
      rw [decide_eq_false (Int.lt_irrefl _), cond_false, impl_tabsOk hts, Option.bind_some, alive_ok, Option.bind_some]
      cases h : tabsOk ts with
      | false => rfl
      | true =>
        rw [Bool.not_true, cond_false, hI, broken_bare hts hb h, Option.bind_some]
        cases bondOk ts bd <;> rfl) (s := []) (by simp)
  exact this
end Go.D
set_option linter.unusedVariables false
namespace Go.D
open Go.ChangeShapes Go.RowKit
theorem trodAll_carry {H : Type} {enc : TypeId × Value → H} {P : Program} {w w' : World} {base : Nat} {sp : Nat → Bool} {held : Bool} : ∀ {ts : List TypeId} {vs : List Value} {ds : List (DataW H)} {ps : List MemPlace},
    DataW.TrodAll enc P w base sp held ts vs ds ps → (∀ p ∈ ps, w.sameAt w' p) → DataW.TrodAll enc P w' base sp held ts vs ds ps
  | [], [], [], _, h, _ => h
  | _ :: _, _ :: _, _ :: _, _, ⟨p, q, ⟨n, hn⟩, h2, e⟩, hs =>
    ⟨p, q, ⟨n, DataW.trod_carry n _ _ _ hn fun x hx => hs x (by rw [e]; exact List.mem_append_left _ hx)⟩, trodAll_carry h2 fun x hx => hs x (by rw [e]; exact List.mem_append_right _ hx), e⟩
theorem Kept.sameAt {w w' : World} (h : Grew w w') {p : MemPlace} (hp : p.block < w.heap.size) : w.sameAt w' p := by
  have hb := h.block p.block hp (fun h => h)
  cases p with
  | cell b off =>
    show w'.cell? ⟨b, off, none⟩ = w.cell? ⟨b, off, none⟩
    unfold World.cell?
    have hb : w'.heap[b]? = w.heap[b]? := hb
    simp only [hb]
  | map b => exact hb
theorem Kept.keptBut {w w' : World} (h : Grew w w') (may : MemPlace → Prop) : w.keptBut w' may := by
  refine ⟨h.os, h.output, fun i hi => ?_⟩
  rw [h.block i hi (fun h => h)]
  cases w.heap[i]? with
  | none => trivial
  | some o => cases o <;> simp
theorem contract_of {P : Program} {fid : FuncId} {fn : Func} {s : ChangeSpec} {tb : TypeId} {H : Type} {enc : TypeId × Value → H}
    (hK : Kids P (· < P.types.size)) (hfull : ∀ t e, t < P.types.size → P.underlying t = some (.slice e) → 0 < P.cellsOf e)
    (hp : ∀ t ∈ fn.params.toList, t < P.types.size) (hv : s.vars = []) (hr : fn.resultTypes = #[tb]) (hb : P.underlying tb = some .bool)
    {n : Nat} (hn : fn.params.toList.length = n) (hs : ∀ ds : List (DataW H), ds.length = n → s.fn H ds = { results := [.lit (.bool true)], args := ds })
    {W : World} {args : Array Value} {ds gs : List (DataW H)} {before : List MemPlace}
    (hlaw : ∀ p, DataW.TrodAll enc P W 0 (fun _ => true) true fn.params.toList args.toList ds p → ∃ ins, FrL W (fun _ => False) ins args.toList ∧ OK P fid ins (B true))
    (hW : DataW.Whole enc P fn.params.toList s.vars false W args.toList ds gs before) :
    Calls P fid args W fun e W' => ∃ v, e = .returned v ∧ s.post enc P fn false true false false W args v W' := by
  have hlt := hW.lt
  have hW' := hW
  obtain ⟨p, q, hA, hV, rfl, hfz, hnd⟩ := hW
  rw [hv] at hV
  obtain ⟨rfl, rfl⟩ := trodVars_none hV
  obtain ⟨ins, h1, h2⟩ := hlaw p hA
  have hlen : ∀ {ts : List TypeId} {vs : List Value} {ds : List (DataW H)} {ps : List MemPlace}, DataW.TrodAll enc P W 0 (fun _ => true) true ts vs ds ps → ds.length = ts.length := by
    intro ts
    induction ts with
    | nil => intro vs ds ps h; obtain ⟨_, rfl, _⟩ := trodAll_nil h; rfl
    | cons t ts ih =>
      intro vs ds ps h
      obtain ⟨_, _, _, _, _, _, rfl, rfl, rfl, _, h⟩ := trodAll_cons h
      simp [ih h]
  have hds : ds.length = n := (hlen hA).trans hn
  have hc := h2.2 W args.toList (fun _ => False) (fun b h => h.elim) h1
  have ha : args.toList.toArray = args := by simp
  rw [ha] at hc
  refine hc.mono fun e W' ⟨v, fp, he, hg, ho, _⟩ => ⟨v, he, ?_⟩
  simp only [B, Ow] at ho
  obtain ⟨rfl, rfl⟩ := ho
  have hsame : ∀ x ∈ p, W.sameAt W' x := fun x hx => Kept.sameAt hg (hlt x (by simpa using hx))
  refine ⟨ds, [], p ++ [], [], p, [], hW', ?_, ?_, ?_, Kept.keptBut hg _, fun h => by cases h⟩
  · rw [List.append_nil, hs ds hds, hr]
    exact trodAll_mk1 (shut_bool hb true)
  · rw [List.append_nil, hs ds hds]
    exact trodAll_carry (DataW.TrodAll.respare hK hfull hp hA fun x hx => by
      have := hlt x (by simpa using hx)
      simpa using this) hsame
  · rw [hv, List.append_nil, hs ds hds]
    rfl
end Go.D
