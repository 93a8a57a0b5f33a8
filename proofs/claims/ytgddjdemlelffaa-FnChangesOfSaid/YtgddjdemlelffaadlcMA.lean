import Derived.Test.YtgddjdemlelffaadlcDXFB
import Derived.Test.YtgddjdemlelffaadlcDShow
import Derived.ChangeArms
import Derived.ChangeShapes
import Derived.Deep.Slices
import Derived.Test.YtgddjdemlelffaadlcDOwn3
import Derived.Test.YtgddjdemlelffaadlcDZero
import Derived.Test.YtgddjdemlelffaadlcDMin
import Derived.Test.YtgddjdemlelffaadlcDOrd3
import Derived.Test.YtgddjdemlelffaadlcDXT
import Derived.OpenShut
import Derived.ReadAgain
import Derived.ProofKit
set_option linter.unusedVariables false
namespace Go.D
end Go.D
set_option linter.unusedVariables false
namespace Go.D
def Rd (P : Program) (t : TypeId) (α : Type) [Enc α] (W : α → Prop) : Prop :=
 P.cellsOf t = Enc.sz α ∧ ∀ (H : Type) (enc : TypeId × Value → H) (w : World) (base : Nat) (sp : Nat → Bool) (held : Bool) (fuel : Nat) (cs : List Value) (x : DataW H × List MemPlace), DataW.trod enc P w base sp held fuel t cs = some x →
  ∃ y : α, FrL w (fun _ => False) (Enc.cells y) cs ∧ W y
def u8W (_ : UInt8) : Prop := True
def listW {α : Type} (W : α → Prop) (l : List α) : Prop := l.length ≤ 9223372036854775807 ∧ ∀ x ∈ l, W x
section
variable {P : Program}
theorem rd_u8 {t : TypeId} (ht : P.underlying t = some (.int .u8)) (hc : P.cellsOf t = 1) : Rd P t UInt8 u8W := ⟨hc, fun H enc w base sp held fuel cs x h => by
 obtain ⟨n, rfl, _, hw⟩ := DataW.trod_int ht h
 have hn : 0 ≤ n ∧ n ≤ 255 := by simpa [Lit.wf, IntKind.min, IntKind.max, IntKind.signed, IntKind.bits] using hw
 refine ⟨UInt8.ofNat n.toNat, ?_, trivial⟩
 show FrL w _ [.lit (.int .u8 (UInt8.ofNat n.toNat).toNat)] _
 simp only [FrL]
 refine ⟨_, _, rfl, ?_, rfl⟩
 simp only [Fr]
 congr 1
 rw [UInt8.toNat_ofNat']
 omega⟩
theorem eL_flat {α : Type} [Enc α] {w : World} {M : Nat → Prop} : ∀ {ys : List α} {uss : List (List Value)}, ys.length = uss.length → (∀ (i : Nat) (y : α) (us : List Value), ys[i]? = some y → uss[i]? = some us → FrL w M (Enc.cells y) us) → FrL w M (eL ys) uss.flatten
 | [], [], _, _ => by simp [eL, FrL]
 | [], _ :: _, h, _ => by simp at h
 | _ :: _, [], h, _ => by simp at h
 | y :: ys, us :: uss, h, k => by
  simp only [eL, List.flatten_cons]
  exact FrL.append (k 0 y us rfl rfl) (eL_flat (by simpa using h) fun i y' us' h1 h2 => k (i + 1) y' us' (by simpa using h1) (by simpa using h2))
theorem flat_get {sz : Nat} (hsz : 0 < sz) : ∀ {uss : List (List Value)}, (∀ us ∈ uss, us.length = sz) → ∀ {j : Nat} {v : Value}, uss.flatten[j]? = some v → ∃ us, uss[j / sz]? = some us ∧ us[j % sz]? = some v
 | [], _, j, v, h => by simp at h
 | us :: uss, hl, j, v, h => by
  have h0 : us.length = sz := hl us (by simp)
  simp only [List.flatten_cons] at h
  rcases Nat.lt_or_ge j sz with hj | hj
  ·rw [List.getElem?_append_left (by omega)] at h
   refine ⟨us, by rw [Nat.div_eq_of_lt hj]; rfl, by rw [Nat.mod_eq_of_lt hj]; exact h⟩
  ·rw [List.getElem?_append_right (by omega), h0] at h
   obtain ⟨us', h1, h2⟩ := flat_get hsz (fun us' hu => hl us' (by simp [hu])) h
   refine ⟨us', ?_, ?_⟩
   ·have : j / sz = (j - sz) / sz + 1 := by rw [Nat.div_eq_sub_div hsz hj]
    rw [this]
    simpa using h1
   ·rw [Nat.mod_eq_sub_mod hj]; exact h2
theorem rd_slice {t e : TypeId} {α : Type} [Enc α] {W : α → Prop} (ht : P.underlying t = some (.slice e)) (hc : P.cellsOf t = 1) (he : Rd P e α W) : Rd P t (List α) (listW W) := ⟨hc, fun H enc w base sp held fuel cs x h => by
 obtain ⟨hce, he⟩ := he
 have hpos : 0 < Enc.sz α := Enc.pos
 have fin : ∀ (ys : List α) (v : Value), Fr w (fun _ => False) (A ys) v → listW W ys → ∃ y : List α, FrL w (fun _ => False) (Enc.cells y) [v] ∧ listW W y := fun ys v h1 h2 => ⟨ys, by
  show FrL w _ [A ys] _
  simp only [FrL]
  exact ⟨_, _, rfl, h1, rfl⟩, h2⟩
 rcases Go.Deep.open_slice ht h with ⟨rfl, _⟩ | ⟨a, len, cap, m, n, D, Pl, rfl, hb, hl, hm, hmm, _, hx⟩
 ·exact fin [] _ (Fr.nil w _ _ hpos) ⟨by simp, by simp⟩
 ·have hcapm : cap ≤ maxI := by simpa [maxLen, maxI] using hm
  by_cases h0 : len = 0
  ·subst h0
   refine fin [] _ ?_ ⟨by simp, by simp⟩
   simp only [Fr]
   exact ⟨some a, cap, rfl, ⟨hpos, by simp [eL], by simp, hcapm, fun h => by cases h⟩, .inl rfl⟩
  ·have hlm : len ≤ m := by rw [hmm]; split <;> omega
   have hel : ∀ i, i < len → ∃ p : List Value × α, w.cells? base (a.add (i * P.cellsOf e)) (P.cellsOf e) = some p.1 ∧ FrL w (fun _ => False) (Enc.cells p.2) p.1 ∧ W p.2 := by
    intro i hi
    obtain ⟨cs', h1, h2⟩ := hx i (by omega)
    obtain ⟨y, h3, h4⟩ := he H enc w base sp held n cs' _ h2
    exact ⟨(cs', y), h1, h3, h4⟩
   obtain ⟨p0, hp0⟩ := hel 0 (by omega)
   haveI : Inhabited (List Value × α) := ⟨p0⟩
   obtain ⟨F, hF⟩ := Go.Deep.choose_lt (α := List Value × α) (p := fun i p => w.cells? base (a.add (i * P.cellsOf e)) (P.cellsOf e) = some p.1 ∧ FrL w (fun _ => False) (Enc.cells p.2) p.1 ∧ W p.2) hel
   let ys : List α := (List.range len).map fun i => (F i).2
   let uss : List (List Value) := (List.range len).map fun i => (F i).1
   have hul : ∀ us ∈ uss, us.length = Enc.sz α := by
    intro us hu
    obtain ⟨i, hi, rfl⟩ := List.mem_map.1 hu
    have := (World.cells?_some (hF i (List.mem_range.1 hi)).1).2.1
    rw [this, hce]
   have hys : ys.length = len := by simp [ys]
   have hfl : FrL w (fun _ => False) (eL ys) uss.flatten := eL_flat (by simp [ys, uss]) fun i y us h1 h2 => by
    simp only [ys, uss, List.getElem?_map] at h1 h2
    have hi : i < len := by
     cases hr : (List.range len)[i]? with
     | none => rw [hr] at h1; cases h1
     | some k => have := (List.getElem?_eq_some_iff.1 hr).1; simpa using this
    rw [List.getElem?_range hi] at h1 h2
    simp only [Option.map_some, Option.some.injEq] at h1 h2
    rw [← h1, ← h2]
    exact (hF i hi).2.1
   have hul0 : ((F 0).1).length = Enc.sz α := hul _ (List.mem_map.2 ⟨0, by simp; omega, rfl⟩)
   have h00 : ∃ v, w.cell? a = some v := by
    have h1 := (World.cells?_some (hF 0 (by omega)).1).2.2 0 (by rw [hce]; exact hpos)
    rw [List.getElem?_eq_getElem (by omega)] at h1
    refine ⟨_, Eq.trans ?_ h1⟩
    simp [Addr.add]
   obtain ⟨v00, hv00⟩ := h00
   have hspot : a.spot = none := World.cell?_spot hv00
   obtain ⟨ab, ao, as_⟩ := a
   simp only at hspot
   subst hspot
   have hcell : ∀ i j, i < len → j < Enc.sz α → w.cell? ⟨ab, ao + (i * Enc.sz α + j), none⟩ = ((F i).1)[j]? := by
    intro i j hi hj
    have := (World.cells?_some (hF i hi).1).2.2 j (by rw [hce]; exact hj)
    rw [hce] at this
    rw [← this]
    congr 1
    unfold Addr.add
    split <;> split <;> simp_all <;> omega
   refine fin ys _ ?_ ⟨by rw [hys]; simp only [maxI] at hcapm; omega, fun y hy => by
    obtain ⟨i, hi, rfl⟩ := List.mem_map.1 hy
    exact (hF i (List.mem_range.1 hi)).2.2⟩
   simp only [Fr]
   refine ⟨some ⟨ab, ao, none⟩, cap, by rw [hys], ⟨hpos, by rw [eL_len], by rw [hys]; exact hl, hcapm, fun h => by cases h⟩, .inr ⟨ab, ao, uss.flatten, rfl, World.block_lt_of_cell? _ _ hv00, fun h => h, hfl, fun j hj => ?_⟩⟩
   obtain ⟨us, h1, h2⟩ := flat_get hpos hul (List.getElem?_eq_getElem hj)
   have hi : j / Enc.sz α < len := by
    have := (List.getElem?_eq_some_iff.1 h1).1
    simpa [uss] using this
   simp only [uss, List.getElem?_map, List.getElem?_range hi, Option.map_some, Option.some.injEq] at h1
   have := hcell (j / Enc.sz α) (j % Enc.sz α) hi (Nat.mod_lt _ hpos)
   rw [h1, h2] at this
   have e1 : j / Enc.sz α * Enc.sz α + j % Enc.sz α = j := by rw [Nat.mul_comm]; exact Nat.div_add_mod j _
   rw [e1] at this
   rw [List.getElem?_eq_getElem hj, ← this]⟩
end
end Go.D
set_option linter.unusedVariables false
namespace Go.D
theorem w64_of {n : Int} (h1 : -9223372036854775808 ≤ n) (h2 : n ≤ 9223372036854775807) : w64 n = n := by
 have hm : IntKind.i64.min = -9223372036854775808 := by decide
 have hM : IntKind.i64.max = 9223372036854775807 := by decide
 simp [w64, IntKind.wrap, IntKind.signed, IntKind.bits]
 omega
theorem getI_nat {α : Type} {xs : List α} {i : Nat} : getI xs (i : Int) = xs[i]? := by
 unfold getI
 rw [if_pos (by omega), Int.toNat_natCast]
theorem getI_lt {α : Type} {xs : List α} {i : Int} (h0 : 0 ≤ i) (h1 : i < xs.length) : ∃ x, getI xs i = some x ∧ xs[i.toNat]? = some x := by
 unfold getI
 rw [if_pos h0]
 have : i.toNat < xs.length := by omega
 exact ⟨xs[i.toNat], by rw [List.getElem?_eq_getElem this], by rw [List.getElem?_eq_getElem this]⟩
theorem app_lt {α : Type} {xs ys : List α} (h : xs.length + ys.length < 68719476736) : app xs ys = some (xs ++ ys) := if_pos h
theorem succ_w {i n : Nat} (h : i < n) (hn : n ≤ 70368744177663) : w64 ((i : Int) + 1) = ((i + 1 : Nat) : Int) := by
 rw [w64_of (by omega) (by omega)]
 omega
theorem loop_all {α : Type} {xs : List α} {L : Nat → Int → Option Bool} {p : α → Bool} {fin : Bool} (hlen : xs.length ≤ 70368744177662)
  (h : ∀ (f i : Nat) (v : α), i < xs.length → xs[i]? = some v → w64 ((i : Int) + 1) = ((i + 1 : Nat) : Int) → L (f + 1) i = bif p v then L f ((i + 1 : Nat) : Int) else some false)
  (he : ∀ f, L (f + 1) (xs.length : Int) = some fin) : L FUEL 0 = some (xs.all p && fin) := by
 have main : ∀ (k f i : Nat), i + k = xs.length → k < f → L f (i : Int) = some ((xs.drop i).all p && fin) := by
  intro k
  induction k with
  | zero =>
   intro f i hi hf
   obtain ⟨f, rfl⟩ : ∃ f', f = f' + 1 := ⟨f - 1, by omega⟩
   have : i = xs.length := by omega
   subst this
   rw [he, List.drop_length]
   simp
  | succ k ih =>
   intro f i hi hf
   obtain ⟨f, rfl⟩ : ∃ f', f = f' + 1 := ⟨f - 1, by omega⟩
   have hlt : i < xs.length := by omega
   rw [h f i xs[i] hlt (List.getElem?_eq_getElem hlt) (succ_w hlt (by omega)), ih f (i + 1) (by omega) (by omega), List.drop_eq_getElem_cons hlt, List.all_cons]
   cases p xs[i] <;> simp
 have := main xs.length FUEL 0 (by omega) (by unfold FUEL; omega)
 simpa using this
theorem loop_find {α : Type} {xs : List α} {L : Nat → Int → Option Int} {p : α → Bool} (hlen : xs.length ≤ 70368744177662)
  (h : ∀ (f i : Nat) (v : α), i < xs.length → xs[i]? = some v → w64 ((i : Int) + 1) = ((i + 1 : Nat) : Int) → L (f + 1) i = bif p v then some (i : Int) else L f ((i + 1 : Nat) : Int))
  (he : ∀ f, L (f + 1) (xs.length : Int) = some (-1)) : ∃ r, L FUEL 0 = some r ∧ decide (r ≥ 0) = xs.any p := by
 have main : ∀ (k f i : Nat), i + k = xs.length → k < f → ∃ r, L f (i : Int) = some r ∧ decide (r ≥ 0) = (xs.drop i).any p := by
  intro k
  induction k with
  | zero =>
   intro f i hi hf
   obtain ⟨f, rfl⟩ : ∃ f', f = f' + 1 := ⟨f - 1, by omega⟩
   have : i = xs.length := by omega
   subst this
   rw [he, List.drop_length]
   exact ⟨_, rfl, by simp⟩
  | succ k ih =>
   intro f i hi hf
   obtain ⟨f, rfl⟩ : ∃ f', f = f' + 1 := ⟨f - 1, by omega⟩
   have hlt : i < xs.length := by omega
   rw [h f i xs[i] hlt (List.getElem?_eq_getElem hlt) (succ_w hlt (by omega)), List.drop_eq_getElem_cons hlt, List.any_cons]
   cases hp : p xs[i] with
   | true => exact ⟨_, rfl, by simp⟩
   | false =>
    obtain ⟨r, h1, h2⟩ := ih f (i + 1) (by omega) (by omega)
    exact ⟨r, h1, by simp [h2]⟩
 have := main xs.length FUEL 0 (by omega) (by unfold FUEL; omega)
 simpa using this
end Go.D
set_option linter.unusedVariables false
namespace Go.D
abbrev Sm (n : Nat) : Prop := n ≤ 2097152
def inR (a b c : Int) : Bool := decide (b ≤ a) && decide (a ≤ c)
theorem spec_in (a b c : Int) : spec_l1In a b c = some (inR a b c) := by
 unfold spec_l1In inR
 by_cases h : b ≤ a <;> simp [h]
theorem impl_in (a b c : Int) : impl_between a b c = some (inR a b c) := by
 unfold impl_between inR
 by_cases h : b ≤ a <;> simp [h]
theorem not_any_not {α : Type} (xs : List α) (p : α → Bool) : (!(xs.any fun x => !(p x))) = xs.all p := by
 induction xs with
 | nil => rfl
 | cons x xs ih => simp [← ih]
theorem cast_le6 (n : Nat) : decide ((n : Int) ≤ 6) = decide (n ≤ 6) := by
 simp only [decide_eq_decide]
 omega
theorem getB_nat {s : ByteArray} {i : Nat} : getB s (i : Int) = s.data.toList[i]? := by
 unfold getB
 rw [if_pos (by omega), Int.toNat_natCast]
 by_cases h : i < s.size
 ·rw [getElem?_pos s i h, List.getElem?_eq_getElem (by simpa using h)]
  simp only [Option.some.injEq]
  rfl
 ·rw [getElem?_neg s i h, List.getElem?_eq_none (by simpa using h)]
def letter (b : UInt8) : Bool := decide (97 ≤ b.toNat) && decide (b.toNat ≤ 122)
def textOk (s : ByteArray) : Bool := s.data.toList.all letter && decide (s.size ≤ 6)
theorem size_list (s : ByteArray) : s.data.toList.length = s.size := Array.length_toList
theorem spec_text {s : ByteArray} (h : Sm s.size) : spec_l1Text s = some (textOk s) := by
 unfold spec_l1Text textOk
 have hl := size_list s
 refine loop_all (xs := s.data.toList) (by omega) (fun f i v hi hv hw => ?_) (fun f => ?_)
 ·have : (i : Int) < s.size := by omega
  simp only [spec_l1Text_l0, this, decide_true, cond_true, getB_nat, hv, Option.bind_some, spec_l1Text_j1, hw]
  unfold letter
  by_cases h1 : (v.toNat : Int) < 97
  ·have : ¬ 97 ≤ v.toNat := by omega
   simp [h1, this]
  ·have h1' : 97 ≤ v.toNat := by omega
   by_cases h2 : (v.toNat : Int) > 122
   ·have : ¬ v.toNat ≤ 122 := by omega
    simp [h1, h1', h2, this]
   ·have : v.toNat ≤ 122 := by omega
    simp [h1, h1', h2, this]
 ·rw [hl]
  unfold spec_l1Text_l0
  rw [show decide ((s.size : Int) < (s.size : Int)) = false from decide_eq_false (Int.lt_irrefl _), cond_false, cast_le6]
theorem impl_lettersOk {s : ByteArray} (h : Sm s.size) : impl_letters s = some (s.data.toList.all letter) := by
 have hl := size_list s
 unfold impl_letters bytesOf
 rw [if_pos (by omega), Option.bind_some, ← Bool.and_true (s.data.toList.all letter)]
 refine loop_all (xs := s.data.toList) (by omega) (fun f i v hi hv hw => ?_) (fun f => ?_)
 ·have : (i : Int) < s.data.toList.length := by omega
  have hb : v.toNat < 256 := v.toNat_lt
  have h1 : w64 (v.toNat : Int) = v.toNat := w64_of (by omega) (by omega)
  simp only [impl_letters_l0, this, decide_true, cond_true, getI_nat, hv, Option.bind_some, impl_in, hw, h1]
  have : inR (v.toNat : Int) 97 122 = letter v := by
   unfold inR letter
   congr 1 <;> simp only [decide_eq_decide] <;> omega
  rw [this]
  cases letter v <;> rfl
 ·simp only [impl_letters_l0, Int.lt_irrefl, decide_false, cond_false]
def valOk (v : T_impl_Value) : Bool := bif v.fKind == 0 then v.fN == 0 && v.fS.toList == (ByteArray.mk #[]).toList else bif v.fKind == 1 then inR v.fN (-9999) 9999 && v.fS.toList == (ByteArray.mk #[]).toList else
 bif v.fKind == 2 then v.fN == 0 && textOk v.fS else bif v.fKind == 3 then inR v.fN 0 1 && v.fS.toList == (ByteArray.mk #[]).toList else false
theorem spec_value {v : T_impl_Value} (h : Sm v.fS.size) : spec_ValueOk v = some (valOk v) := by
 unfold spec_ValueOk valOk
 simp only [spec_in, spec_text h, Option.bind_some]
 cases v.fKind == 0 <;> cases v.fKind == 1 <;> cases v.fKind == 2 <;> cases v.fKind == 3 <;> cases v.fN == 0 <;> cases inR v.fN (-9999) 9999 <;> cases inR v.fN 0 1 <;> rfl
theorem impl_value {v : T_impl_Value} (h : Sm v.fS.size) : impl_Value_ok v = some (valOk v) := by
 unfold impl_Value_ok valOk
 simp only [impl_in, impl_lettersOk h, Option.bind_some]
 have e : eq_T_impl_Value v ((T_impl_Value.mk 0 0 (ByteArray.mk #[]))) = (v.fKind == 0 && (v.fN == 0 && v.fS.toList == (ByteArray.mk #[]).toList)) := rfl
 have e2 : decide ((v.fS.size : Int) ≤ 6) = decide (v.fS.size ≤ 6) := by
  simp only [decide_eq_decide]
  omega
 have e3 : textOk v.fS = (v.fS.data.toList.all letter && decide (v.fS.size ≤ 6)) := rfl
 rw [e, e2, e3]
 cases v.fKind == 0 <;> cases v.fKind == 1 <;> cases v.fKind == 2 <;> cases v.fKind == 3 <;> cases v.fN == 0 <;> cases inR v.fN (-9999) 9999 <;> cases inR v.fN 0 1 <;> cases v.fS.toList == (ByteArray.mk #[]).toList <;>
  cases decide (v.fS.size ≤ 6) <;> cases v.fS.data.toList.all letter <;> rfl
def SmV (v : T_impl_Value) : Prop := Sm v.fS.size
def SmR (r : List T_impl_Value) : Prop := Sm r.length ∧ ∀ v ∈ r, SmV v
def rowOk (r : List T_impl_Value) : Bool := r.all valOk && decide (r.length ≤ 4)
theorem spec_rowOk {r : List T_impl_Value} (h : SmR r) : spec_RowOk r = some (rowOk r) := by
 unfold spec_RowOk rowOk
 have hl := h.1
 refine loop_all (by omega) (fun f i v hi hv hw => ?_) (fun f => ?_)
 ·have : (i : Int) < r.length := by omega
  simp only [spec_RowOk_l0, this, decide_true, cond_true, getI_nat, hv, Option.bind_some, spec_value (h.2 v (List.mem_of_getElem? hv)), hw]
  cases valOk v <;> rfl
 ·simp only [spec_RowOk_l0, Int.lt_irrefl, decide_false, cond_false]
  congr 1
  simp only [decide_eq_decide]
  omega
theorem impl_rowAny {r : List T_impl_Value} (h : SmR r) : slices_ContainsFunc_impl_Value_impl_Value r impl_RowOk_1 = some (r.any fun v => !(valOk v)) := by
 unfold slices_ContainsFunc_impl_Value_impl_Value slices_IndexFunc_impl_Value_impl_Value
 have hl := h.1
 obtain ⟨x, h1, h2⟩ := loop_find (xs := r) (L := slices_IndexFunc_impl_Value_impl_Value_l0 r impl_RowOk_1) (p := fun v => !(valOk v)) (by omega) (fun f i v hi hv hw => by
  have : (i : Int) < r.length := by omega
  simp only [slices_IndexFunc_impl_Value_impl_Value_l0, this, decide_true, cond_true, getI_nat, hv, Option.bind_some, impl_RowOk_1, impl_value (h.2 v (List.mem_of_getElem? hv)), hw]) (fun f => by
  simp only [slices_IndexFunc_impl_Value_impl_Value_l0, Int.lt_irrefl, decide_false, cond_false])
 rw [h1, Option.bind_some, h2]
theorem le4 {α : Type} (xs : List α) : decide ((xs.length : Int) ≤ 4) = decide (xs.length ≤ 4) := by
 simp only [decide_eq_decide]
 omega
theorem impl_rowOk {r : List T_impl_Value} (h : SmR r) : impl_RowOk r = some (rowOk r) := by
 unfold impl_RowOk rowOk
 rw [impl_rowAny h, Option.bind_some, not_any_not, le4]
 cases decide (r.length ≤ 4) <;> simp
theorem zip_get {α β : Type} {xs : List α} {ys : List β} (h : xs.length = ys.length) {i : Nat} {p : α × β} (hp : (xs.zip ys)[i]? = some p) : xs[i]? = some p.1 ∧ ys[i]? = some p.2 := by
 rw [List.getElem?_zip_eq_some] at hp
 exact hp
def SmRs (rs : List (List T_impl_Value)) : Prop := Sm rs.length ∧ ∀ r ∈ rs, SmR r
end Go.D
set_option linter.unusedVariables false
namespace Go.D
theorem g2 {α : Type} {xs : List α} (a b : α) : getI (xs ++ [a, b]) (xs.length : Int) = some a := by
 rw [getI_nat]
 simp
theorem g3 {α : Type} {xs : List α} (b : α) : getI (xs ++ [b]) (xs.length : Int) = some b := by
 rw [getI_nat]
 simp
section
variable {α : Type} {xs : List α} (h : xs.length ≤ 2097152)
include h
theorem g1 (a b : α) : getI (xs ++ [a, b]) (w64 (((xs ++ [a, b]).length : Int) - 1)) = some b := by
 have e : (((xs ++ [a, b]).length : Int) - 1) = ((xs.length + 1 : Nat) : Int) := by simp only [List.length_append, List.length_cons, List.length_nil]; omega
 rw [e, w64_of (by omega) (by omega), getI_nat]
 simp
end
section
variable {α : Type} {xs : List α}
end
end Go.D
set_option linter.unusedVariables false
namespace Go.D
end Go.D
set_option linter.unusedVariables false
namespace Go.D
end Go.D
set_option linter.unusedVariables false
namespace Go.D
end Go.D
set_option linter.unusedVariables false
namespace Go.D
theorem loop_opt {α σ β : Type} {xs : List α} {L : Nat → Int → σ → Option β} (R : List α → σ → Option β) (Inv : Nat → σ → Prop) (hlen : xs.length ≤ 70368744177662)
  (h : ∀ (f i : Nat) (s : σ) (v : α), i < xs.length → xs[i]? = some v → w64 ((i : Int) + 1) = ((i + 1 : Nat) : Int) → Inv i s →
   L (f + 1) i s = R (v :: xs.drop (i + 1)) s ∨ ∃ s', Inv (i + 1) s' ∧ L (f + 1) i s = L f ((i + 1 : Nat) : Int) s' ∧ R (v :: xs.drop (i + 1)) s = R (xs.drop (i + 1)) s')
  (he : ∀ f s, Inv xs.length s → L (f + 1) (xs.length : Int) s = R [] s) {s : σ} (h0 : Inv 0 s) : L FUEL 0 s = R xs s := by
 have main : ∀ (k f i : Nat) (s : σ), i + k = xs.length → k < f → Inv i s → L f (i : Int) s = R (xs.drop i) s := by
  intro k
  induction k with
  | zero =>
   intro f i s hi hf hI
   obtain ⟨f, rfl⟩ : ∃ f', f = f' + 1 := ⟨f - 1, by omega⟩
   have : i = xs.length := by omega
   subst this
   rw [he _ _ hI, List.drop_length]
  | succ k ih =>
   intro f i s hi hf hI
   obtain ⟨f, rfl⟩ : ∃ f', f = f' + 1 := ⟨f - 1, by omega⟩
   have hlt : i < xs.length := by omega
   rw [List.drop_eq_getElem_cons hlt]
   rcases h f i s xs[i] hlt (List.getElem?_eq_getElem hlt) (succ_w hlt (by omega)) hI with h1 | ⟨s', h1, h2, h3⟩
   ·exact h1
   ·rw [h2, h3]
    exact ih f (i + 1) s' (by omega) (by omega) h1
 have := main xs.length FUEL 0 s (by omega) (by unfold FUEL; omega) h0
 simpa using this
end Go.D
set_option linter.unusedVariables false
namespace Go.D
def cmpI (a b : Int) : Int := if a < b then -1 else if a > b then 1 else 0
def cmpS (a b : ByteArray) : Int := bif Op.bytesLess a.toList b.toList then -1 else bif !Op.bytesLess a.toList b.toList && !(a.toList == b.toList) then 1 else 0
def ordV (a b : T_impl_Value) : Int := if cmpI a.fKind b.fKind ≠ 0 then cmpI a.fKind b.fKind else if cmpI a.fN b.fN ≠ 0 then cmpI a.fN b.fN else cmpS a.fS b.fS
theorem impl_cmpI (a b : Int) : cmp_Compare_int a b = some (cmpI a b) := by
 unfold cmp_Compare_int cmp_isNaN_int cmpI
 simp only [beq_self_eq_true, Bool.not_true, Option.bind_some, cond_false]
 by_cases h : a < b
 ·simp [h]
 ·by_cases h2 : a > b
  ·simp [h, h2]
  ·simp [h, h2]
theorem impl_cmpS (a b : ByteArray) : cmp_Compare_string a b = some (cmpS a b) := by
 unfold cmp_Compare_string cmp_isNaN_string cmpS
 simp only [beq_self_eq_true, Bool.not_true, Option.bind_some, cond_false]
 cases Op.bytesLess a.toList b.toList <;> cases a.toList == b.toList <;> rfl
theorem fuel4 : ∃ F, FUEL = F + 1 + 1 + 1 + 1 := by
 have h : 4 ≤ FUEL := by unfold FUEL; omega
 exact ⟨FUEL - 4, by omega⟩
theorem impl_or3 (a b c : Int) : cmp_Or_int [a, b, c] = some (if a ≠ 0 then a else if b ≠ 0 then b else c) := by
 obtain ⟨F, hF⟩ := fuel4
 unfold cmp_Or_int
 rw [hF]
 have w3 : w64 (0 + 1) = 1 := w64_of (by omega) (by omega)
 have w4 : w64 (1 + 1) = 2 := w64_of (by omega) (by omega)
 have w5 : w64 (2 + 1) = 3 := w64_of (by omega) (by omega)
 have i0 : getI [a, b, c] 0 = some a := rfl
 have i1 : getI [a, b, c] 1 = some b := rfl
 have i2 : getI [a, b, c] 2 = some c := rfl
 have l0 : decide ((0 : Int) < (([a, b, c] : List Int).length : Int)) = true := rfl
 have l1 : decide ((1 : Int) < (([a, b, c] : List Int).length : Int)) = true := rfl
 have l2 : decide ((2 : Int) < (([a, b, c] : List Int).length : Int)) = true := rfl
 have l3 : decide ((3 : Int) < (([a, b, c] : List Int).length : Int)) = false := rfl
 rw [cmp_Or_int_l0, l0, cond_true, i0, Option.bind_some, w3, cmp_Or_int_l0, l1, cond_true, i1, Option.bind_some, w4, cmp_Or_int_l0, l2, cond_true, i2, Option.bind_some, w5, cmp_Or_int_l0, l3, cond_false]
 have bf : ∀ {x : Int}, ¬ x = 0 → (x == 0) = false := fun h => by simp [h]
 by_cases ha : a = 0
 ·subst ha
  by_cases hb : b = 0
  ·subst hb
   by_cases hc : c = 0
   ·subst hc
    rfl
   ·rw [bf hc]
    simp
  ·rw [bf hb]
   simp [hb]
 ·rw [bf ha]
  simp [ha]
theorem impl_ord (a b : T_impl_Value) : impl_Value_order a b = some (ordV a b) := by
 unfold impl_Value_order
 simp only [impl_cmpI, impl_cmpS, impl_or3, Option.bind_some, ordV]
theorem cmpI_eq (a : Int) : cmpI a a = 0 := by simp [cmpI]
end Go.D
set_option linter.unusedVariables false
namespace Go.D
theorem ord_int : Ord3 cmpI := by
 refine ⟨fun x => ?_, fun x y e => ?_, fun x y e => ?_, fun x y z e1 e2 => ?_⟩ <;> unfold cmpI at *
 ·simp
 ·repeat' split at e
  all_goals (repeat' split) <;> omega
 ·repeat' split at e
  all_goals (repeat' split) <;> omega
 ·repeat' split at e1
  all_goals (repeat' split at e2)
  all_goals (repeat' split) <;> omega
end Go.D
set_option linter.unusedVariables false
namespace Go.D
theorem bl_eq : ∀ (x y : List UInt8), Op.bytesLess x y = decide (x < y)
 | [], [] => by simp [Op.bytesLess]
 | _ :: _, [] => by simp [Op.bytesLess]
 | [], _ :: _ => by simp [Op.bytesLess]
 | a :: x, b :: y => by
  rw [Op.bytesLess, bl_eq x y]
  simp only [List.cons_lt_cons_iff]
  by_cases h1 : a < b <;> by_cases h2 : a = b <;> by_cases h3 : x < y <;> simp [h1, h2, h3]
theorem cmpS_eq (a b : ByteArray) : cmpS a b = if a.toList < b.toList then -1 else if a.toList = b.toList then 0 else 1 := by
 unfold cmpS
 rw [bl_eq]
 by_cases h : a.toList < b.toList
 ·simp [h]
 ·by_cases e : a.toList = b.toList
  ·simp [e]
  ·have e2 : (a.toList == b.toList) = false := beq_eq_false_iff_ne.2 e
   rw [decide_eq_false h, e2, if_neg h, if_neg e]
   rfl
theorem ord_str : Ord3 cmpS := by
 have tri : ∀ a b : List UInt8, ¬ a < b → a ≠ b → b < a := fun a b h n => by
  rcases List.le_total a b with k | k
  ·exact absurd (List.le_antisymm k (List.not_lt.1 h)) n
  ·rcases List.le_iff_lt_or_eq.1 k with k | k
   ·exact k
   ·exact absurd k.symm n
 have irr : ∀ a : List UInt8, ¬ a < a := fun a => List.lt_irrefl a
 have asy : ∀ a b : List UInt8, a < b → ¬ b < a := fun a b h k => List.lt_irrefl a (List.lt_trans h k)
 refine ⟨fun x => ?_, fun x y e => ?_, fun x y e => ?_, fun x y z e1 e2 => ?_⟩
 ·rw [cmpS_eq, if_neg (irr _), if_pos rfl]
 ·rw [cmpS_eq] at e ⊢
  have h : x.toList < y.toList := by
   split at e
   ·assumption
   ·split at e <;> omega
  rw [if_neg (asy _ _ h), if_neg (fun k => irr _ (by rw [k] at h; exact h))]
  omega
 ·rw [cmpS_eq] at e ⊢
  have h : y.toList < x.toList := by
   split at e
   ·omega
   ·split at e
    ·omega
    ·exact tri _ _ (by assumption) (by assumption)
  rw [if_pos h]
  omega
 ·rw [cmpS_eq] at e1 e2 ⊢
  have le : ∀ a b : ByteArray, (if a.toList < b.toList then (-1 : Int) else if a.toList = b.toList then 0 else 1) ≤ 0 → a.toList < b.toList ∨ a.toList = b.toList := fun a b e => by
   split at e
   ·exact .inl (by assumption)
   ·split at e
    ·exact .inr (by assumption)
    ·omega
  have : x.toList < z.toList ∨ x.toList = z.toList := by
   rcases le _ _ e1 with h1 | h1
   ·rcases le _ _ e2 with h2 | h2
    ·exact .inl (List.lt_trans h1 h2)
    ·exact .inl (by rw [← h2]; exact h1)
   ·rcases le _ _ e2 with h2 | h2
    ·exact .inl (by rw [h1]; exact h2)
    ·exact .inr (h1.trans h2)
  rcases this with h | h
  ·rw [if_pos h]
   omega
  ·rw [if_neg (by rw [h]; exact irr _), if_pos h]
   omega
theorem ord_val : Ord3 ordV := (ord_int.on T_impl_Value.fKind).lex ((ord_int.on T_impl_Value.fN).lex (ord_str.on T_impl_Value.fS))
end Go.D
set_option linter.unusedVariables false
namespace Go.D
theorem ins_perm {α : Type} (xs : List α) (m : α) (k : Nat) : (xs.take k ++ m :: xs.drop k).Perm (m :: xs) := by
 have := List.perm_middle (a := m) (l₁ := xs.take k) (l₂ := xs.drop k)
 rwa [List.take_append_drop] at this
theorem ins_asc {α : Type} {R : α → α → Prop} (ht : ∀ a b c, R a b → R b c → R a c) {xs : List α} {m : α} {k : Nat} (hk : k ≤ xs.length) (hs : xs.Pairwise R)
  (h1 : ∀ j (hj : j < xs.length), k ≤ j → R m xs[j]) (h2 : ∀ (hj : k - 1 < xs.length), k ≠ 0 → R (xs[k - 1]'hj) m) : (xs.take k ++ m :: xs.drop k).Pairwise R := by
 have hidx := List.pairwise_iff_getElem.1 hs
 rw [List.pairwise_append, List.pairwise_cons]
 refine ⟨hs.sublist (List.take_sublist _ _), ⟨fun y hy => ?_, hs.sublist (List.drop_sublist _ _)⟩, fun x hx y hy => ?_⟩
 ·obtain ⟨j, hj, rfl⟩ := List.getElem_of_mem hy
  rw [List.getElem_drop]
  exact h1 _ _ (Nat.le_add_right _ _)
 ·obtain ⟨i, hi, rfl⟩ := List.getElem_of_mem hx
  have hi' : i < k := by
   rw [List.length_take] at hi
   omega
  rw [List.getElem_take]
  have hxm : R (xs[i]'(by omega)) m := by
   by_cases e : i = k - 1
   ·subst e
    exact h2 (by omega) (by omega)
   ·exact ht _ _ _ (hidx i (k - 1) (by omega) (by omega) (by omega)) (h2 (by omega) (by omega))
  rcases List.mem_cons.1 hy with rfl | hy
  ·exact hxm
  ·obtain ⟨j, hj, rfl⟩ := List.getElem_of_mem hy
   rw [List.getElem_drop]
   exact ht _ _ _ hxm (h1 _ _ (Nat.le_add_right _ _))
theorem asc_of_adj {α : Type} {R : α → α → Prop} (ht : ∀ a b c, R a b → R b c → R a c) {xs : List α} (h : ∀ i (hi : i + 1 < xs.length), R (xs[i]'(by omega)) xs[i + 1]) : xs.Pairwise R := by
 rw [List.pairwise_iff_getElem]
 intro i j hi hj hij
 have key : ∀ d (hd : i + 1 + d < xs.length), R xs[i] (xs[i + 1 + d]'hd) := by
  intro d
  induction d with
  | zero => exact fun hd => h i hd
  | succ d ih => exact fun hd => ht _ _ _ (ih (by omega)) (h (i + 1 + d) hd)
 have := key (j - (i + 1)) (by omega)
 have e : i + 1 + (j - (i + 1)) = j := by omega
 simp only [e] at this
 exact this
end Go.D
set_option linter.unusedVariables false
namespace Go.D
theorem v2 {rs : List Int} {st : List T_impl_Value} {b a : Int} {r : List Int} (h : rs.length = st.length) (hr : rs = b :: a :: r) : ∃ y x t, st = y :: x :: t ∧ r.length = t.length := by
 subst hr
 match st, h with
 | y :: x :: t, h => exact ⟨y, x, t, rfl, by simpa using h⟩
theorem v1 {rs : List Int} {st : List T_impl_Value} {b : Int} {r : List Int} (h : rs.length = st.length) (hr : rs = b :: r) : ∃ y t, st = y :: t ∧ r.length = t.length := by
 subst hr
 match st, h with
 | y :: t, h => exact ⟨y, t, rfl, by simpa using h⟩
section
variable {α : Type} {xs : List α} (h : xs.length ≤ 2097152)
include h
end
end Go.D
set_option linter.unusedVariables false
namespace Go.D
theorem clip_id {α : Type} (a : List α) : slI a none (some (a.length : Int)) (some (a.length : Int)) = some a := by simp [slI]
section
end
end Go.D
set_option linter.unusedVariables false
namespace Go.D
theorem len_beqN (m n : Nat) : ((m : Int) == (n : Int)) = (m == n) := by
  cases h : m == n with
  | true => have : m = n := by simpa using h
            subst this; simp
  | false => have : m ≠ n := by simpa using h
             simp; omega
theorem toList_loop (s : ByteArray) : ∀ (k i : Nat) (r : List UInt8), i + k = s.size → ByteArray.toList.loop s i r = r.reverse ++ s.data.toList.drop i
 | 0, i, r, h => by
  rw [ByteArray.toList.loop, if_neg (by omega), List.drop_of_length_le (by rw [Array.length_toList]; show s.size ≤ i; omega), List.append_nil]
 | k + 1, i, r, h => by
  have hi : i < s.data.toList.length := by rw [Array.length_toList]; show i < s.size; omega
  rw [ByteArray.toList.loop, if_pos (by omega), toList_loop s k (i + 1) _ (by omega), List.drop_eq_getElem_cons hi, List.reverse_cons, List.append_assoc]
  congr 1
  rw [List.singleton_append]
  congr 1
  show s.data[i]! = _
  rw [getElem!_pos s.data i (by rw [Array.length_toList] at hi; exact hi)]
  simp
theorem bytes_toList (s : ByteArray) : s.toList = s.data.toList := by
 unfold ByteArray.toList
 rw [toList_loop s s.size 0 [] (by omega)]
 simp
theorem eqV_iff (a b : T_impl_Value) : eq_T_impl_Value a b = true ↔ a = b := by
 obtain ⟨k, n, s⟩ := a
 obtain ⟨k', n', s'⟩ := b
 simp only [eq_T_impl_Value, andB, Bool.and_eq_true, beq_iff_eq, T_impl_Value.mk.injEq]
 refine ⟨fun h => ?_, fun h => ?_⟩
 ·obtain ⟨h1, h2, h3⟩ := h
  refine ⟨h1, h2, ?_⟩
  rw [bytes_toList, bytes_toList] at h3
  exact ByteArray.ext (Array.toList_inj.1 h3)
 ·obtain ⟨rfl, rfl, rfl⟩ := h
  exact ⟨rfl, rfl, rfl⟩
def rowEq (a b : List T_impl_Value) : Bool := a.length == b.length && (a.zip b).all fun p => eq_T_impl_Value p.1 p.2
theorem zip_eq : ∀ {a b : List T_impl_Value}, a.length = b.length → (((a.zip b).all fun p => eq_T_impl_Value p.1 p.2) = true ↔ a = b)
 | [], [], _ => by simp
 | x :: xs, [], h => by simp at h
 | [], y :: ys, h => by simp at h
 | x :: xs, y :: ys, h => by
  have := zip_eq (a := xs) (b := ys) (by simpa using h)
  simp only [List.zip_cons_cons, List.all_cons, Bool.and_eq_true, this, eqV_iff, List.cons.injEq]
theorem rowEq_iff {a b : List T_impl_Value} : rowEq a b = true ↔ a = b := by
 unfold rowEq
 rw [Bool.and_eq_true, beq_iff_eq]
 refine ⟨fun h => (zip_eq h.1).1 h.2, fun h => ?_⟩
 have hl : a.length = b.length := by rw [h]
 exact ⟨hl, (zip_eq hl).2 h⟩
theorem rowEq_refl (a : List T_impl_Value) : rowEq a a = true := rowEq_iff.2 rfl
theorem loop_two {α : Type} {xs ys : List α} {L : Nat → Int → Option Bool} {p : α → α → Bool} (hlen : xs.length ≤ 70368744177662) (he : xs.length = ys.length)
  (h : ∀ (f i : Nat) (x y : α), i < xs.length → xs[i]? = some x → ys[i]? = some y → w64 ((i : Int) + 1) = ((i + 1 : Nat) : Int) → L (f + 1) i = bif p x y then L f ((i + 1 : Nat) : Int) else some false)
  (hz : ∀ f, L (f + 1) (xs.length : Int) = some true) : L FUEL 0 = some ((xs.zip ys).all fun q => p q.1 q.2) := by
 have hl : (xs.zip ys).length = xs.length := by rw [List.length_zip]; omega
 have := loop_all (xs := xs.zip ys) (L := L) (p := fun q => p q.1 q.2) (fin := true) (by omega) (fun f i v hi hv hw => by
  obtain ⟨h1, h2⟩ := zip_get he hv
  exact h f i v.1 v.2 (by omega) h1 h2 hw) (fun f => by rw [hl]; exact hz f)
 rw [this, Bool.and_true]
theorem laws_sameRow_ok {a b : List T_impl_Value} (h : a.length ≤ 70368744177662) : laws_sameRow a b = some (rowEq a b) := by
 unfold laws_sameRow rowEq
 have e : ((a.length : Int) == (b.length : Int)) = (a.length == b.length) := len_beqN _ _
 rw [e]
 cases hl : a.length == b.length with
 | false => rfl
 | true =>
  rw [Bool.not_true, cond_false, Bool.true_and]
  refine loop_two (L := fun f i => laws_sameRow_l0 a b f i) h (by simpa using hl) (fun f i x y hi hx hy hw => ?_) (fun f => ?_)
  ·rw [laws_sameRow_l0, decide_eq_true (by omega), cond_true, getI_nat, hx, Option.bind_some, getI_nat, hy, Option.bind_some, hw]
   cases eq_T_impl_Value x y <;> rfl
  ·rw [laws_sameRow_l0, decide_eq_false (Int.lt_irrefl _), cond_false]
theorem slices_Equal_ok {a b : List T_impl_Value} (h : a.length ≤ 70368744177662) : slices_Equal_impl_Value_impl_Value a b = some (rowEq a b) := by
 unfold slices_Equal_impl_Value_impl_Value rowEq
 have e : ((a.length : Int) == (b.length : Int)) = (a.length == b.length) := len_beqN _ _
 rw [e]
 cases hl : a.length == b.length with
 | false => rfl
 | true =>
  rw [Bool.not_true, cond_false, Bool.true_and]
  refine loop_two (L := fun f i => slices_Equal_impl_Value_impl_Value_l0 a b f i) h (by simpa using hl) (fun f i x y hi hx hy hw => ?_) (fun f => ?_)
  ·rw [slices_Equal_impl_Value_impl_Value_l0, decide_eq_true (by omega), cond_true, getI_nat, hx, Option.bind_some, getI_nat, hy, Option.bind_some, hw]
   cases eq_T_impl_Value x y <;> rfl
  ·rw [slices_Equal_impl_Value_impl_Value_l0, decide_eq_false (Int.lt_irrefl _), cond_false]
theorem laws_sameRows_ok {a b : List (List T_impl_Value)} (h : SmRs a) : laws_sameRows a b = some (a.length == b.length && (a.zip b).all fun p => rowEq p.1 p.2) := by
 unfold laws_sameRows
 have e : ((a.length : Int) == (b.length : Int)) = (a.length == b.length) := len_beqN _ _
 have h1 := h.1
 rw [e]
 cases hl : a.length == b.length with
 | false => rfl
 | true =>
  rw [Bool.not_true, cond_false, Bool.true_and]
  refine loop_two (L := fun f i => laws_sameRows_l0 a b f i) (by omega) (by simpa using hl) (fun f i x y hi hx hy hw => ?_) (fun f => ?_)
  ·have hs := (h.2 x (List.mem_of_getElem? hx)).1
   rw [laws_sameRows_l0, decide_eq_true (by omega), cond_true, getI_nat, hx, Option.bind_some, getI_nat, hy, Option.bind_some, laws_sameRow_ok (by omega), Option.bind_some, hw]
   cases rowEq x y <;> rfl
  ·rw [laws_sameRows_l0, decide_eq_false (Int.lt_irrefl _), cond_false]
theorem laws_sameRows_refl {a : List (List T_impl_Value)} (h : SmRs a) : laws_sameRows a a = some true := by
 rw [laws_sameRows_ok h, beq_self_eq_true, Bool.true_and]
 congr 1
 rw [List.all_eq_true]
 intro p hp
 obtain ⟨i, hi, rfl⟩ := List.mem_iff_getElem.1 hp
 rw [List.getElem_zip]
 exact rowEq_refl _
def many (rows : List (List T_impl_Value)) (r : List T_impl_Value) : Nat := rows.countP fun x => rowEq x r
theorem many_nil (r : List T_impl_Value) : many [] r = 0 := rfl
theorem many_app (a b : List (List T_impl_Value)) (r : List T_impl_Value) : many (a ++ b) r = many a r + many b r := List.countP_append
theorem many_pos {rows : List (List T_impl_Value)} {r : List T_impl_Value} : 0 < many rows r ↔ r ∈ rows := by
 unfold many
 rw [List.countP_pos_iff]
 exact ⟨fun ⟨x, h1, h2⟩ => by rw [← rowEq_iff.1 h2]; exact h1, fun h => ⟨r, h, rowEq_refl r⟩⟩
theorem alive_t : laws_alive = some true := by
 have e0 : (ByteArray.mk #[]).size = 0 := rfl
 unfold laws_alive impl_ValueOk
 rw [impl_value (v := T_impl_Value.mk 1 3 (ByteArray.mk #[])) (by simp [e0]), Option.bind_some, impl_value (v := T_impl_Value.mk 9 0 (ByteArray.mk #[])) (by simp [e0]), Option.bind_some]
 have h1 : valOk (T_impl_Value.mk 1 3 (ByteArray.mk #[])) = true := by simp [valOk, inR]
 have h2 : valOk (T_impl_Value.mk 9 0 (ByteArray.mk #[])) = false := by simp [valOk]
 rw [h1, h2]
 rfl
end Go.D
set_option linter.unusedVariables false
namespace Go.D
theorem loop_idx {n : Nat} {L : Nat → Int → Option Bool} {p : Nat → Bool} {fin : Bool} (hn : n ≤ 70368744177662)
  (h : ∀ (f i : Nat), i < n → w64 ((i : Int) + 1) = ((i + 1 : Nat) : Int) → L (f + 1) i = bif p i then L f ((i + 1 : Nat) : Int) else some false)
  (he : ∀ f, L (f + 1) (n : Int) = some fin) : L FUEL 0 = some ((List.range n).all p && fin) := by
 refine loop_all (xs := List.range n) (by simpa using hn) (fun f i v hi hv hw => ?_) (by simpa using he)
 have hi' : i < n := by simpa using hi
 have : v = i := by
  rw [List.getElem?_range hi'] at hv
  exact (Option.some.inj hv).symm
 rw [this]
 exact h f i hi' hw
end Go.D
set_option linter.unusedVariables false
namespace Go.D
def verG (v : T_impl_Version) : Bool := inR v.fKey 0 4 && (inR v.fBorn 1 40 && ((v.fDied == 0 || inR v.fDied (w64 (v.fBorn + 1)) 40) && rowOk v.fRow))
def adjG (w v : T_impl_Version) : Bool := !(decide (w.fKey ≥ v.fKey) && (decide (w.fKey > v.fKey) || (w.fDied == 0 || decide (w.fDied > v.fBorn))))
def adjI (w v : T_impl_Version) : Bool := !(decide (w.fKey > v.fKey) || (w.fKey == v.fKey && (decide (w.fBorn ≥ v.fBorn) || (w.fDied == 0 || decide (w.fDied > v.fBorn)))))
def verP (adj : T_impl_Version → T_impl_Version → Bool) (xs : List T_impl_Version) (i : Nat) : Bool := match xs[i]? with
 | some v => verG v && (i == 0 || match xs[i - 1]? with | some w => adj w v | none => true)
 | none => true
def vOk (xs : List T_impl_Version) : Bool := (List.range xs.length).all (verP adjG xs) && decide (xs.length ≤ 60)
def SmVers (xs : List T_impl_Version) : Prop := Sm xs.length ∧ ∀ v ∈ xs, SmR v.fRow
theorem spec_verG {v : T_impl_Version} (h : SmR v.fRow) : spec_l13Version v = some (verG v) := by
 unfold spec_l13Version verG
 simp only [spec_in, spec_rowOk h, Option.bind_some]
 cases inR v.fKey 0 4 <;> cases inR v.fBorn 1 40 <;> cases v.fDied == 0 <;> cases inR v.fDied (w64 (v.fBorn + 1)) 40 <;> rfl
theorem spec_vOk {xs : List T_impl_Version} (h : SmVers xs) : spec_VersionsOk xs = some (vOk xs) := by
 have hl := h.1
 unfold spec_VersionsOk vOk
 refine loop_idx (by omega) (fun f i hi hw => ?_) (fun f => ?_)
 ·have hv : xs[i]? = some xs[i] := List.getElem?_eq_getElem hi
  have hg : getI xs (i : Int) = some xs[i] := by rw [getI_nat, hv]
  rw [spec_VersionsOk_l0, decide_eq_true (by omega), cond_true, hg, Option.bind_some, spec_verG (h.2 _ (List.getElem_mem hi)), Option.bind_some]
  unfold verP
  rw [hv]
  simp only
  cases verG xs[i] with
  | false => rfl
  | true =>
   rw [Bool.not_true, cond_false, Bool.true_and]
   by_cases h0 : i = 0
   ·subst h0
    rw [decide_eq_false (show ¬ (((0 : Nat) : Int) > 0) by omega), cond_false, spec_VersionsOk_j1, cond_false, hw]
    rfl
   ·have hi1 : i - 1 < xs.length := by omega
    have hw1 : w64 ((i : Int) - 1) = ((i - 1 : Nat) : Int) := by rw [w64_of (by omega) (by omega)]; omega
    have hv1 : xs[i - 1]? = some xs[i - 1] := List.getElem?_eq_getElem hi1
    have hg1 : getI xs (w64 ((i : Int) - 1)) = some xs[i - 1] := by rw [hw1, getI_nat, hv1]
    have e0 : (i == 0) = false := by simpa using h0
    rw [decide_eq_true (show (i : Int) > 0 by omega), cond_true, hv1, e0]
    simp only [hg, hg1, Option.bind_some, Bool.false_or, adjG, spec_VersionsOk_j1, hw]
    cases decide (xs[i - 1].fKey ≥ xs[i].fKey) <;> cases decide (xs[i - 1].fKey > xs[i].fKey) <;> cases xs[i - 1].fDied == 0 <;> cases decide (xs[i - 1].fDied > xs[i].fBorn) <;> rfl
 ·have e : decide ((xs.length : Int) ≤ 60) = decide (xs.length ≤ 60) := decide_eq_decide.2 (by omega)
  rw [spec_VersionsOk_l0, decide_eq_false (Int.lt_irrefl _), cond_false, e]
theorem adj_same {w v : T_impl_Version} (h : verG w = true) : adjI w v = adjG w v := by
 unfold verG at h
 simp only [Bool.and_eq_true, Bool.or_eq_true] at h
 obtain ⟨_, h2, h3, _⟩ := h
 unfold inR at h2 h3
 simp only [Bool.and_eq_true, decide_eq_true_eq, beq_iff_eq] at h2 h3
 have hw : w64 (w.fBorn + 1) = w.fBorn + 1 := w64_of (by omega) (by omega)
 rw [hw] at h3
 unfold adjI adjG
 rw [Bool.eq_iff_iff]
 simp only [Bool.not_eq_true', Bool.or_eq_false_iff, Bool.and_eq_false_iff, decide_eq_false_iff_not, beq_eq_false_iff_ne]
 omega
theorem all_same {xs : List T_impl_Version} : (List.range xs.length).all (verP adjI xs) = (List.range xs.length).all (verP adjG xs) := by
 have key : ∀ n, n ≤ xs.length → (List.range n).all (verP adjI xs) = (List.range n).all (verP adjG xs) := by
  intro n
  induction n with
  | zero => exact fun _ => rfl
  | succ n ih =>
   intro hn
   rw [List.range_succ, List.all_append, List.all_append, ih (by omega)]
   cases hall : (List.range n).all (verP adjG xs) with
   | false => rfl
   | true =>
    simp only [List.all_cons, List.all_nil, Bool.and_true, Bool.true_and]
    unfold verP
    rw [List.getElem?_eq_getElem (by omega)]
    simp only
    by_cases h0 : n = 0
    ·subst h0
     rfl
    ·have hg : verG xs[n - 1] = true := by
      have := List.all_eq_true.1 hall (n - 1) (List.mem_range.2 (by omega))
      unfold verP at this
      rw [List.getElem?_eq_getElem (by omega)] at this
      simp only [Bool.and_eq_true] at this
      exact this.1
     rw [List.getElem?_eq_getElem (by omega)]
     simp only [adj_same hg]
 exact key _ (Nat.le_refl _)
theorem impl_vOk {xs : List T_impl_Version} (h : SmVers xs) : impl_VersionsOk xs = some (vOk xs) := by
 have hl := h.1
 unfold impl_VersionsOk vOk
 rw [← all_same]
 refine loop_idx (by omega) (fun f i hi hw => ?_) (fun f => ?_)
 ·have hv : xs[i]? = some xs[i] := List.getElem?_eq_getElem hi
  have hg : getI xs (i : Int) = some xs[i] := by rw [getI_nat, hv]
  have hk : impl_keyOk xs[i].fKey = some (inR xs[i].fKey 0 4) := by
   unfold impl_keyOk
   rw [impl_in]
   rfl
  have key : ∀ b, verG xs[i] = !b → impl_VersionsOk_j1 xs (i : Int) (impl_VersionsOk_l0 xs f) xs[i] b = bif verP adjI xs i then impl_VersionsOk_l0 xs f ((i + 1 : Nat) : Int) else some false := by
   intro b hb
   unfold verP
   rw [hv]
   simp only
   rw [hb]
   cases b with
   | true => rfl
   | false =>
    rw [impl_VersionsOk_j1, cond_false, Bool.not_false, Bool.true_and]
    by_cases h0 : i = 0
    ·subst h0
     simp only [hw]
     rfl
    ·have hi1 : i - 1 < xs.length := by omega
     have hw1 : w64 ((i : Int) - 1) = ((i - 1 : Nat) : Int) := by rw [w64_of (by omega) (by omega)]; omega
     have hv1 : xs[i - 1]? = some xs[i - 1] := List.getElem?_eq_getElem hi1
     have hg1 : getI xs (w64 ((i : Int) - 1)) = some xs[i - 1] := by rw [hw1, getI_nat, hv1]
     have e0 : (i == 0) = false := by simpa using h0
     have e1 : ((i : Int) == 0) = false := beq_eq_false_iff_ne.2 (by omega)
     rw [e1, cond_false, hv1, e0]
     simp only [hg1, Option.bind_some, Bool.false_or, adjI, impl_VersionsOk_j2, hw]
     cases decide (xs[i - 1].fKey > xs[i].fKey) <;> cases xs[i - 1].fKey == xs[i].fKey <;> cases decide (xs[i - 1].fBorn ≥ xs[i].fBorn) <;> cases xs[i - 1].fDied == 0 <;> cases decide (xs[i - 1].fDied > xs[i].fBorn) <;> rfl
  rw [impl_VersionsOk_l0, decide_eq_true (by omega), cond_true, hg, Option.bind_some, hk, Option.bind_some, impl_in, Option.bind_some, impl_in, Option.bind_some, impl_rowOk (h.2 _ (List.getElem_mem hi)), Option.bind_some]
  have k1 := key true
  have k0 := key false
  have kd := key
  unfold verG at k1 k0 kd
  cases e1 : inR xs[i].fKey 0 4
  ·rw [e1] at k1
   exact k1 rfl
  cases e2 : inR xs[i].fBorn 1 40
  ·rw [e1, e2] at k1
   exact k1 rfl
  rw [e1, e2] at kd
  cases e3 : xs[i].fDied == 0
  ·cases e4 : inR xs[i].fDied (w64 (xs[i].fBorn + 1)) 40
   ·rw [e3, e4] at kd
    exact kd true rfl
   ·rw [e3, e4] at kd
    exact kd (!rowOk xs[i].fRow) (by simp)
  ·rw [e3] at kd
   exact kd (!rowOk xs[i].fRow) (by simp)
 ·have e : decide ((xs.length : Int) ≤ 60) = decide (xs.length ≤ 60) := decide_eq_decide.2 (by omega)
  rw [impl_VersionsOk_l0, decide_eq_false (Int.lt_irrefl _), cond_false, e]
theorem vOk_get {xs : List T_impl_Version} (h : vOk xs = true) {i : Nat} (hi : i < xs.length) : verG xs[i] = true ∧ ∀ (h1 : i + 1 < xs.length), adjG xs[i] xs[i + 1] = true := by
 unfold vOk at h
 rw [Bool.and_eq_true] at h
 have ha := List.all_eq_true.1 h.1
 refine ⟨?_, fun h1 => ?_⟩
 ·have := ha i (List.mem_range.2 hi)
  unfold verP at this
  rw [List.getElem?_eq_getElem hi] at this
  simp only [Bool.and_eq_true] at this
  exact this.1
 ·have := ha (i + 1) (List.mem_range.2 h1)
  unfold verP at this
  rw [List.getElem?_eq_getElem h1, Nat.add_sub_cancel, List.getElem?_eq_getElem hi] at this
  simp only [Bool.and_eq_true] at this
  have e : (i + 1 == 0) = false := beq_eq_false_iff_ne.2 (by omega)
  rw [e, Bool.false_or] at this
  exact this.2
end Go.D
set_option linter.unusedVariables false
namespace Go.D
def disV (a b : T_impl_Version) : Prop := a.fKey < b.fKey ∨ a.fKey = b.fKey ∧ a.fDied ≠ 0 ∧ a.fDied ≤ b.fBorn ∧ a.fBorn < b.fBorn
theorem verG_iff (v : T_impl_Version) : verG v = true ↔ (0 ≤ v.fKey ∧ v.fKey ≤ 4) ∧ (1 ≤ v.fBorn ∧ v.fBorn ≤ 40) ∧ (v.fDied = 0 ∨ v.fBorn + 1 ≤ v.fDied ∧ v.fDied ≤ 40) ∧ rowOk v.fRow = true := by
 unfold verG inR
 simp only [Bool.and_eq_true, Bool.or_eq_true, decide_eq_true_eq, beq_iff_eq]
 constructor
 ·rintro ⟨h1, h2, h3, h4⟩
  rw [w64_of (by omega) (by omega)] at h3
  exact ⟨h1, h2, h3, h4⟩
 ·rintro ⟨h1, h2, h3, h4⟩
  rw [w64_of (by omega) (by omega)]
  exact ⟨h1, h2, h3, h4⟩
theorem vOk_iff (xs : List T_impl_Version) : vOk xs = true ↔ (∀ v ∈ xs, verG v = true) ∧ xs.Pairwise disV ∧ xs.length ≤ 60 := by
 constructor
 ·intro h
  refine ⟨fun v hv => ?_, ?_, ?_⟩
  ·obtain ⟨i, hi, rfl⟩ := List.getElem_of_mem hv
   exact (vOk_get h hi).1
  ·refine asc_of_adj (fun a b c h1 h2 => ?_) fun i hi => ?_
   ·unfold disV at *
    omega
   ·obtain ⟨g1, g2⟩ := vOk_get h (i := i) (by omega)
    have g2 := g2 hi
    obtain ⟨_, h2, h3, _⟩ := (verG_iff _).1 g1
    unfold adjG at g2
    simp only [Bool.not_eq_true', Bool.or_eq_false_iff, Bool.and_eq_false_iff, decide_eq_false_iff_not, beq_eq_false_iff_ne] at g2
    unfold disV
    omega
  ·unfold vOk at h
   rw [Bool.and_eq_true] at h
   exact of_decide_eq_true h.2
 ·rintro ⟨h1, h2, h3⟩
  unfold vOk
  rw [Bool.and_eq_true]
  refine ⟨List.all_eq_true.2 fun i hi => ?_, decide_eq_true h3⟩
  have hi := List.mem_range.1 hi
  unfold verP
  rw [List.getElem?_eq_getElem hi]
  simp only [Bool.and_eq_true]
  refine ⟨h1 _ (List.getElem_mem hi), ?_⟩
  by_cases h0 : i = 0
  ·subst h0; rfl
  ·rw [List.getElem?_eq_getElem (show i - 1 < xs.length by omega)]
   have := List.pairwise_iff_getElem.1 h2 (i - 1) i (by omega) hi (by omega)
   simp only [Bool.or_eq_true]
   right
   unfold adjG
   unfold disV at this
   simp only [Bool.not_eq_true', Bool.or_eq_false_iff, Bool.and_eq_false_iff, decide_eq_false_iff_not, beq_eq_false_iff_ne]
   omega
end Go.D
set_option linter.unusedVariables false
namespace Go.D
def atV (k t : Int) (v : T_impl_Version) : Bool := v.fKey == k && (decide (v.fBorn ≤ t) && (v.fDied == 0 || decide (v.fDied > t)))
def seenV (xs : List T_impl_Version) (k t : Int) : Option T_impl_Version := xs.find? (atV k t)
def rowS : Option T_impl_Version → List T_impl_Value × Bool
 | some v => (v.fRow, true)
 | none => ([], false)
theorem impl_seenV {xs : List T_impl_Version} (h : Sm xs.length) (k t : Int) : impl_seen xs k t = some (match seenV xs k t with | some v => (v, true) | none => (T_impl_Version.mk 0 0 0 [], false)) := by
 unfold impl_seen
 have := loop_opt (xs := xs) (L := fun f i (_ : Unit) => impl_seen_l0 xs k t f i) (fun rest _ => some (match rest.find? (atV k t) with | some v => (v, true) | none => (T_impl_Version.mk 0 0 0 [], false))) (fun _ _ => True) (by omega)
  (fun f i s v hi hv hw _ => by
   have hc : impl_seen_l0 xs k t (f + 1) i = bif atV k t v then some (v, true) else impl_seen_l0 xs k t f ((i + 1 : Nat) : Int) := by
    rw [impl_seen_l0, decide_eq_true (by omega), cond_true, getI_nat, hv, Option.bind_some]
    unfold atV
    simp only [impl_seen_j1, hw]
    cases v.fKey == k <;> cases decide (v.fBorn ≤ t) <;> cases v.fDied == 0 <;> cases decide (v.fDied > t) <;> rfl
   cases ha : atV k t v with
   | true =>
    refine .inl ?_
    rw [hc, ha, cond_true, List.find?_cons, ha]
   | false =>
    refine .inr ⟨(), trivial, by rw [hc, ha, cond_false], ?_⟩
    rw [List.find?_cons, ha])
  (fun f s _ => by rw [impl_seen_l0, decide_eq_false (Int.lt_irrefl _), cond_false]; rfl) (s := ()) trivial
 exact this
theorem impl_cloneV {a : List T_impl_Value} (ha : a.length ≤ 4194304) : impl_clone_impl_Value a = some a := by
 unfold impl_clone_impl_Value slices_Clip_impl_Value_impl_Value
 cases h : ((a.length : Int)) == 0
 ·rw [cond_false, app_lt (by simp; omega), Option.bind_some, List.nil_append, show slI a none (some (a.length : Int)) (some (a.length : Int)) = some a by simp [slI]]
  rfl
 ·have : a = [] := by
   have : (a.length : Int) = 0 := by simpa using h
   exact List.eq_nil_of_length_eq_zero (by omega)
  subst this
  rfl
theorem seenV_mem {xs : List T_impl_Version} {k t : Int} {v : T_impl_Version} (h : seenV xs k t = some v) : v ∈ xs ∧ atV k t v = true := ⟨List.mem_of_find?_eq_some h, List.find?_some h⟩
end Go.D
set_option linter.unusedVariables false
namespace Go.D
def rowOf (xs : List T_impl_Version) (k t : Int) : Option (List T_impl_Value) := (seenV xs k t).map (·.fRow)
def rowsV (xs : List T_impl_Version) (t : Int) : List (List T_impl_Value) := (List.range 5).filterMap fun (k : Nat) => rowOf xs (k : Int) t
theorem rowOf_sm {xs : List T_impl_Version} (h : SmVers xs) {k t : Int} {r : List T_impl_Value} (hr : rowOf xs k t = some r) : SmR r := by
 unfold rowOf at hr
 rw [Option.map_eq_some_iff] at hr
 obtain ⟨v, h1, rfl⟩ := hr
 exact h.2 v (seenV_mem h1).1
theorem fm_len {α : Type} (f : Nat → Option α) (n : Nat) : ((List.range n).filterMap f).length ≤ n := by
 have := List.length_filterMap_le f (List.range n)
 simpa using this
theorem fm_succ {α : Type} (f : Nat → Option α) (n : Nat) : (List.range (n + 1)).filterMap f = (List.range n).filterMap f ++ (f n).toList := by
 rw [List.range_succ, List.filterMap_append]
 congr 1
theorem impl_clipRs {xs : List (List T_impl_Value)} : slices_Clip_impl_Value_impl_Value_s3 xs = some xs := by
 unfold slices_Clip_impl_Value_impl_Value_s3
 rw [show slI xs none (some (xs.length : Int)) (some (xs.length : Int)) = some xs by simp [slI]]
 rfl
end Go.D
set_option linter.unusedVariables false
namespace Go.D
def ordR : List T_impl_Value → List T_impl_Value → Int
 | [], [] => 0
 | [], _ :: _ => -1
 | _ :: _, [] => 1
 | x :: xs, y :: ys => if ordV x y ≠ 0 then ordV x y else ordR xs ys
theorem ordV_0 {a b : T_impl_Value} : ordV a b = 0 ↔ a = b := by
 constructor
 ·intro h
  have e1 : ∀ x y : Int, cmpI x y = 0 → x = y := fun x y h => by
   unfold cmpI at h
   split at h
   ·omega
   ·split at h <;> omega
  unfold ordV at h
  split at h
  ·next hne => exact absurd h hne
  ·next h1 =>
   have k1 := e1 _ _ (Decidable.not_not.1 h1)
   split at h
   ·next hne => exact absurd h hne
   ·next h2 =>
    have k2 := e1 _ _ (Decidable.not_not.1 h2)
    rw [cmpS_eq] at h
    have k3 : a.fS.toList = b.fS.toList := by
     split at h
     ·omega
     ·split at h
      ·assumption
      ·omega
    rw [bytes_toList, bytes_toList] at k3
    cases a with | mk k n s => cases b with | mk k' n' s' =>
    simp only at k1 k2 k3
    subst k1 k2
    congr 1
    cases s with | mk s => cases s' with | mk s' =>
    simp only at k3
    exact congrArg ByteArray.mk (Array.toList_inj.1 k3)
 ·rintro rfl
  exact ord_val.refl _
theorem ord_row : Ord3 ordR := by
 have hr : ∀ x, ordR x x = 0 := by
  intro x
  induction x with
  | nil => rfl
  | cons a x ih => simp only [ordR, ord_val.refl, ne_eq, not_true_eq_false, if_false, ih]
 have hlt : ∀ x y, (ordR x y < 0 → 0 < ordR y x) ∧ (0 < ordR x y → ordR y x < 0) := by
  intro x
  induction x with
  | nil =>
   intro y
   cases y <;> simp [ordR]
  | cons a x ih =>
   intro y
   cases y with
   | nil => simp [ordR]
   | cons b y =>
    simp only [ordR]
    by_cases h : ordV a b = 0
    ·have h' := ord_val.eq h
     rw [if_neg (by simp [h]), if_neg (by simp [h'])]
     exact ih y
    ·have h' : ordV b a ≠ 0 := fun e => h (ord_val.eq e)
     rw [if_pos h, if_pos h']
     exact ⟨ord_val.lt a b, ord_val.gt a b⟩
 refine ⟨hr, fun x y => (hlt x y).1, fun x y => (hlt x y).2, ?_⟩
 intro x
 induction x with
 | nil =>
  intro y z h1 h2
  cases z with
  | nil => simp [ordR]
  | cons c z => simp [ordR]
 | cons a x ih =>
  intro y z h1 h2
  cases y with
  | nil => simp [ordR] at h1
  | cons b y =>
   cases z with
   | nil => simp [ordR] at h2
   | cons c z =>
    simp only [ordR] at h1 h2 ⊢
    by_cases k1 : ordV a b = 0
    ·have e := ordV_0.1 k1
     subst e
     rw [if_neg (by simp [k1])] at h1
     by_cases k2 : ordV a c = 0
     ·rw [if_neg (by simp [k2])] at h2 ⊢
      exact ih _ _ h1 h2
     ·rw [if_pos k2] at h2 ⊢
      exact h2
    ·rw [if_pos k1] at h1
     by_cases k2 : ordV b c = 0
     ·have e := ordV_0.1 k2
      subst e
      rw [if_pos k1]
      exact h1
     ·rw [if_pos k2] at h2
      have h3 := ord_val.le _ _ _ h1 h2
      by_cases k3 : ordV a c = 0
      ·have e := ordV_0.1 k3
       subst e
       have := ord_val.lt a b (by omega)
       omega
      ·rw [if_pos k3]
       exact h3
theorem ordR_0 : ∀ {a b : List T_impl_Value}, ordR a b = 0 ↔ a = b
 | [], [] => by simp [ordR]
 | [], _ :: _ => by simp [ordR]
 | _ :: _, [] => by simp [ordR]
 | x :: xs, y :: ys => by
  simp only [ordR]
  by_cases h : ordV x y = 0
  ·rw [if_neg (by simp [h]), ordR_0, ordV_0.1 h]
   simp
  ·rw [if_pos h]
   constructor
   ·intro e
    exact absurd e h
   ·intro e
    injection e with e1 e2
    exact absurd (ordV_0.2 e1) h
theorem cmpF_l0 (a b : List T_impl_Value) (ha : a.length ≤ 4194304) : ∀ (k i f : Nat), i + k = a.length → k < f → slices_CompareFunc_impl_Value_impl_Value_impl_Value_impl_Value_s2_l0 a b impl_Value_order f (i : Int) = some (ordR (a.drop i) (b.drop i))
 | 0, i, f + 1, hi, _ => by
  have hd : a.drop i = [] := List.drop_of_length_le (by omega)
  have h0 : ¬ (i : Int) < (a.length : Int) := by omega
  unfold slices_CompareFunc_impl_Value_impl_Value_impl_Value_impl_Value_s2_l0
  rw [decide_eq_false h0, cond_false, hd]
  by_cases hb : a.length < b.length
  ·have : (a.length : Int) < (b.length : Int) := by omega
   rw [decide_eq_true this, cond_true]
   cases hbd : b.drop i with
   | nil =>
    have := congrArg List.length hbd
    simp at this
    omega
   | cons y ys => rfl
  ·have : ¬ (a.length : Int) < (b.length : Int) := by omega
   rw [decide_eq_false this, cond_false, List.drop_of_length_le (by omega : b.length ≤ i)]
   rfl
 | k + 1, i, f + 1, hi, hf => by
  have hlt : i < a.length := by omega
  have h0 : (i : Int) < (a.length : Int) := by omega
  unfold slices_CompareFunc_impl_Value_impl_Value_impl_Value_impl_Value_s2_l0
  rw [decide_eq_true h0, cond_true, getI_nat, List.getElem?_eq_getElem hlt, Option.bind_some, List.drop_eq_getElem_cons hlt]
  by_cases hb : i < b.length
  ·have : ¬ (i : Int) ≥ (b.length : Int) := by omega
   rw [decide_eq_false this, cond_false, getI_nat, List.getElem?_eq_getElem hb, Option.bind_some, impl_ord, Option.bind_some, List.drop_eq_getElem_cons hb, succ_w hlt (by omega), cmpF_l0 a b ha k (i + 1) f (by omega) (by omega)]
   simp only [ordR]
   by_cases h : ordV a[i] b[i] = 0
   ·rw [h]
    simp
   ·have : (ordV a[i] b[i] == 0) = false := by simp [h]
    rw [this, if_pos h]
    rfl
  ·have : (i : Int) ≥ (b.length : Int) := by omega
   rw [decide_eq_true this, cond_true, List.drop_of_length_le (by omega : b.length ≤ i)]
   rfl
theorem cmpOr2 (a b : Int) : cmp_Or_int [a, b] = some (if a ≠ 0 then a else b) := by
 obtain ⟨F, hF⟩ : ∃ F, FUEL = F + 1 + 1 + 1 := ⟨FUEL - 3, by decide⟩
 unfold cmp_Or_int
 rw [hF]
 have e1 : w64 ((0 : Int) + 1) = 1 := by decide
 have e2 : w64 ((1 : Int) + 1) = 2 := by decide
 have g0 : getI [a, b] 0 = some a := rfl
 have g1 : getI [a, b] 1 = some b := rfl
 simp only [cmp_Or_int_l0, List.length_cons, List.length_nil, g0, g1, Option.bind_some, e1, e2]
 by_cases ha : a = 0
 ·subst ha
  by_cases hb : b = 0
  ·subst hb
   rfl
  ·have hb' : (b == 0) = false := by simp [hb]
   simp [hb']
 ·have ha' : (a == 0) = false := by simp [ha]
  simp [ha, ha']
theorem impl_ordR {a b : List T_impl_Value} (ha : Sm a.length) : impl_rowOrder a b = some (ordR a b) := by
 unfold impl_rowOrder slices_CompareFunc_impl_Value_impl_Value_impl_Value_impl_Value_s2
 have h := cmpF_l0 a b (by omega) a.length 0 FUEL (by omega) (Nat.lt_of_le_of_lt ha (by decide))
 rw [show ((0 : Nat) : Int) = 0 from rfl] at h
 rw [h, Option.bind_some, impl_cmpI, Option.bind_some, cmpOr2, List.drop_zero, List.drop_zero, Option.bind_some]
 by_cases e : ordR a b = 0
 ·rw [if_neg (by simp [e]), ordR_0.1 e, cmpI_eq, ord_row.refl]
 ·rw [if_pos e]
def ordK (a b : List T_impl_Value) : Int := bif rowOk a && rowOk b then ordR a b else 0
theorem impl_ordK {a b : List T_impl_Value} (ha : SmR a) (hb : SmR b) : impl_RowOrder a b = some (ordK a b) := by
 unfold impl_RowOrder ordK
 rw [impl_rowOk ha, Option.bind_some]
 cases va : rowOk a with
 | false => rfl
 | true =>
  rw [Bool.not_true, cond_false, impl_rowOk hb, Option.bind_some]
  cases vb : rowOk b with
  | false => rfl
  | true =>
   simp only [Bool.not_true, impl_RowOrder_j0, cond_false]
   rw [impl_ordR ha.1]
   rfl
def posV (out : List (List T_impl_Value)) (r : List T_impl_Value) : Nat → Nat
 | 0 => 0
 | n + 1 => match out[n]? with
  | some x => if ordK x r > 0 then posV out r n else n + 1
  | none => n + 1
def insV (out : List (List T_impl_Value)) (r : List T_impl_Value) : List (List T_impl_Value) := out.take (posV out r out.length) ++ [r] ++ out.drop (posV out r out.length)
def sortedV (xs : List (List T_impl_Value)) : List (List T_impl_Value) := xs.foldl insV []
theorem posV_le (out : List (List T_impl_Value)) (r : List T_impl_Value) : ∀ n, posV out r n ≤ n
 | 0 => Nat.le_refl _
 | n + 1 => by
  unfold posV
  split
  ·split
   ·exact Nat.le_succ_of_le (posV_le out r n)
   ·exact Nat.le_refl _
  ·exact Nat.le_refl _
theorem insV_len (out : List (List T_impl_Value)) (r : List T_impl_Value) : (insV out r).length = out.length + 1 := by
 have := posV_le out r out.length
 unfold insV
 simp only [List.length_append, List.length_take, List.length_drop, List.length_cons, List.length_nil]
 omega
theorem insV_perm (out : List (List T_impl_Value)) (r : List T_impl_Value) : (insV out r).Perm (r :: out) := by
 unfold insV
 rw [List.append_assoc]
 exact ins_perm out r _
theorem insV_mem {out : List (List T_impl_Value)} {r x : List T_impl_Value} : x ∈ insV out r ↔ x = r ∨ x ∈ out := by
 rw [(insV_perm out r).mem_iff]
 simp
theorem sorted_perm_go : ∀ (xs out : List (List T_impl_Value)), (xs.foldl insV out).Perm (out ++ xs)
 | [], out => by simp
 | x :: xs, out => by
  rw [List.foldl_cons]
  refine (sorted_perm_go xs (insV out x)).trans ?_
  refine ((insV_perm out x).append_right xs).trans ?_
  exact (List.perm_middle (l₁ := out) (a := x) (l₂ := xs)).symm
theorem sortedV_perm (xs : List (List T_impl_Value)) : (sortedV xs).Perm xs := by
 have := sorted_perm_go xs []
 rwa [List.nil_append] at this
theorem posV_spec (out : List (List T_impl_Value)) (r : List T_impl_Value) : ∀ n, n ≤ out.length → (∀ j (hj : j < out.length), posV out r n ≤ j → j < n → 0 < ordK out[j] r) ∧ (∀ (hj : posV out r n - 1 < out.length), posV out r n ≠ 0 → ordK (out[posV out r n - 1]'hj) r ≤ 0)
 | 0, _ => ⟨fun j hj h1 h2 => by omega, fun hj h => absurd rfl h⟩
 | n + 1, hn => by
  have hlt : n < out.length := by omega
  obtain ⟨ih1, ih2⟩ := posV_spec out r n (by omega)
  have hp : posV out r (n + 1) = if ordK out[n] r > 0 then posV out r n else n + 1 := by
   rw [posV]
   rw [List.getElem?_eq_getElem hlt]
  by_cases h : ordK out[n] r > 0
  ·rw [if_pos h] at hp
   rw [hp]
   refine ⟨fun j hj h1 h2 => ?_, ih2⟩
   by_cases e : j = n
   ·subst e
    exact h
   ·exact ih1 j hj h1 (by omega)
  ·rw [if_neg h] at hp
   rw [hp]
   refine ⟨fun j hj h1 h2 => by omega, fun hj _ => ?_⟩
   simp only [Nat.add_sub_cancel]
   omega
theorem ordK_ok {a b : List T_impl_Value} (ha : rowOk a = true) (hb : rowOk b = true) : ordK a b = ordR a b := by
 unfold ordK
 rw [ha, hb]
 rfl
abbrev AscR (xs : List (List T_impl_Value)) : Prop := xs.Pairwise fun a b => ordR a b ≤ 0
theorem insV_asc {out : List (List T_impl_Value)} {r : List T_impl_Value} (ho : ∀ x ∈ out, rowOk x = true) (hr : rowOk r = true) (h : AscR out) : AscR (insV out r) := by
 obtain ⟨h1, h2⟩ := posV_spec out r out.length (Nat.le_refl _)
 unfold insV
 rw [List.append_assoc]
 refine ins_asc (R := fun a b => ordR a b ≤ 0) (fun a b c => ord_row.le a b c) (posV_le out r _) h (fun j hj hk => ?_) (fun hj hk => ?_)
 ·have := h1 j hj hk hj
  rw [ordK_ok (ho _ (List.getElem_mem hj)) hr] at this
  exact Int.le_of_lt (ord_row.gt _ _ this)
 ·have := h2 hj hk
  rwa [ordK_ok (ho _ (List.getElem_mem hj)) hr] at this
theorem sorted_asc_go : ∀ (xs out : List (List T_impl_Value)), (∀ x ∈ out, rowOk x = true) → (∀ x ∈ xs, rowOk x = true) → AscR out → AscR (xs.foldl insV out)
 | [], out, _, _, h => h
 | x :: xs, out, ho, hx, h => sorted_asc_go xs (insV out x) (fun y hy => by
   rcases insV_mem.1 hy with rfl | hy
   ·exact hx _ (by simp)
   ·exact ho y hy) (fun y hy => hx y (by simp [hy])) (insV_asc ho (hx x (by simp)) h)
theorem sortedV_asc {xs : List (List T_impl_Value)} (h : ∀ x ∈ xs, rowOk x = true) : AscR (sortedV xs) := sorted_asc_go xs [] (fun _ h => by cases h) h List.Pairwise.nil
theorem asc_uniq : ∀ {xs ys : List (List T_impl_Value)}, xs.Perm ys → AscR xs → AscR ys → xs = ys
 | [], ys, hp, _, _ => (List.Perm.nil_eq hp)
 | x :: xs, [], hp, _, _ => absurd hp.length_eq (by simp)
 | x :: xs, y :: ys, hp, hx, hy => by
  rw [AscR, List.pairwise_cons] at hx hy
  have e : x = y := by
   have m1 : x ∈ y :: ys := hp.mem_iff.1 (by simp)
   have m2 : y ∈ x :: xs := hp.mem_iff.2 (by simp)
   rcases List.mem_cons.1 m1 with h | h
   ·exact h
   ·rcases List.mem_cons.1 m2 with k | k
    ·exact k.symm
    ·have a1 := hx.1 y k
     have a2 := hy.1 x h
     refine ordR_0.1 ?_
     by_cases h0 : ordR x y < 0
     ·have := ord_row.lt _ _ h0
      omega
     ·omega
  subst e
  rw [asc_uniq (List.Perm.cons_inv hp) hx.2 hy.2]
theorem sortedV_sm {xs : List (List T_impl_Value)} (h : SmRs xs) : SmRs (sortedV xs) := by
 refine ⟨?_, fun x hx => h.2 x ((sortedV_perm xs).mem_iff.1 hx)⟩
 rw [(sortedV_perm xs).length_eq]
 exact h.1
theorem spec_ownR {a : List T_impl_Value} (ha : Sm a.length) : spec_l3Own a = some a := by
 unfold spec_l3Own
 rw [app_lt (by simp; omega)]
 rfl
theorem insR_at {out : List (List T_impl_Value)} {r : List T_impl_Value} {p : Nat} (hp : p ≤ out.length) (hl : out.length ≤ 4194304) : insR out (p : Int) [r] = some (out.take p ++ [r] ++ out.drop p) := by
 unfold insR
 rw [decide_eq_true (by omega), decide_eq_true (by omega), decide_eq_true (by simp), decide_eq_true (by simp; omega)]
 simp
theorem impl_sort_at (xs out : List (List T_impl_Value)) (hx : SmRs xs) (hl : out.length ≤ 4194304) (hs : ∀ x ∈ out, SmR x) (i : Nat) (hi : i < xs.length) (K : Int → List (List T_impl_Value) → Option (List (List T_impl_Value))) : ∀ (n f : Nat), n ≤ out.length → n < f →
  impl_RowsSorted_l1 (i : Int) out K xs[i] f (n : Int) = K ((i + 1 : Nat) : Int) (out.take (posV out xs[i] n) ++ [xs[i]] ++ out.drop (posV out xs[i] n))
 | n, f + 1, hn, hf => by
  have hr := hx.2 _ (List.getElem_mem hi)
  have fin : ∀ p : Nat, p ≤ out.length → impl_RowsSorted_j2 (i : Int) out K xs[i] (p : Int) (impl_RowsSorted_l1 (i : Int) out K xs[i] f) false = K ((i + 1 : Nat) : Int) (out.take p ++ [xs[i]] ++ out.drop p) := fun p hp => by
   unfold impl_RowsSorted_j2
   rw [cond_false, insR_at hp hl, Option.bind_some, succ_w hi (by have := hx.1; omega)]
  cases n with
  | zero =>
   unfold impl_RowsSorted_l1
   rw [decide_eq_false (by omega), cond_false]
   exact fin 0 (by omega)
  | succ n =>
   have hlt : n < out.length := by omega
   have hw : w64 (((n + 1 : Nat) : Int) - 1) = (n : Int) := by rw [w64_of] <;> omega
   unfold impl_RowsSorted_l1
   rw [decide_eq_true (by omega), cond_true, hw, getI_nat, List.getElem?_eq_getElem hlt, Option.bind_some, impl_ordK (hs _ (List.getElem_mem hlt)) hr, Option.bind_some]
   have hp : posV out xs[i] (n + 1) = if ordK out[n] xs[i] > 0 then posV out xs[i] n else n + 1 := by
    rw [posV, List.getElem?_eq_getElem hlt]
   by_cases h : ordK out[n] xs[i] > 0
   ·rw [decide_eq_true h, hp, if_pos h]
    simp only [impl_RowsSorted_j2, cond_true, hw]
    exact impl_sort_at xs out hx hl hs i hi K n f (by omega) (by omega)
   ·rw [decide_eq_false h, hp, if_neg h]
    exact fin (n + 1) hn
theorem impl_copyL0 {xs : List (List T_impl_Value)} (hl : xs.length ≤ 4194304) (h : ∀ r ∈ xs, SmR r) : impl_rowsCopy_L0 xs = some xs := by
 have key : ∀ (k i f : Nat), i + k = xs.length → k < f → impl_rowsCopy_L0_l0 xs f (i : Int) (xs.take i) = some xs := by
  intro k
  induction k with
  | zero =>
   intro i f hi hf
   cases f with
   | zero => omega
   | succ f =>
    unfold impl_rowsCopy_L0_l0
    rw [decide_eq_false (by omega), cond_false, impl_clipRs, Option.bind_some, List.take_of_length_le (by omega)]
  | succ k ih =>
   intro i f hi hf
   cases f with
   | zero => omega
   | succ f =>
    have hlt : i < xs.length := by omega
    unfold impl_rowsCopy_L0_l0
    rw [decide_eq_true (by omega), cond_true, getI_nat, List.getElem?_eq_getElem hlt, Option.bind_some, impl_cloneV (by have := (h _ (List.getElem_mem hlt)).1; omega), Option.bind_some, app_lt (by simp; omega), Option.bind_some, succ_w hlt (by omega),
     List.take_append_getElem hlt]
    exact ih (i + 1) f (by omega) (by omega)
 have := key xs.length 0 FUEL (by omega) (Nat.lt_of_le_of_lt hl (by decide))
 exact this
theorem impl_sort_l0 (xs : List (List T_impl_Value)) (hx : SmRs xs) : ∀ (k i f : Nat) (out : List (List T_impl_Value)), i + k = xs.length → out.length = i → (∀ x ∈ out, SmR x) → k < f → impl_RowsSorted_l0 xs f (i : Int) out = some ((xs.drop i).foldl insV out)
 | 0, i, f + 1, out, hi, ho, hs, _ => by
  have hsm := hx.1
  unfold impl_RowsSorted_l0
  rw [decide_eq_false (by omega), cond_false, List.drop_of_length_le (by omega), impl_copyL0 (by omega) hs]
  rfl
 | k + 1, i, f + 1, out, hi, ho, hs, hf => by
  have hlt : i < xs.length := by omega
  have hsm := hx.1
  unfold impl_RowsSorted_l0
  rw [decide_eq_true (by omega), cond_true, getI_nat, List.getElem?_eq_getElem hlt, Option.bind_some, impl_sort_at xs out hx (by omega) hs i hlt _ out.length FUEL (Nat.le_refl _) (Nat.lt_of_le_of_lt (show out.length ≤ 2097152 by omega) (by decide)), List.drop_eq_getElem_cons hlt, List.foldl_cons]
  exact impl_sort_l0 xs hx k (i + 1) f (insV out xs[i]) (by omega) (by rw [insV_len]; omega) (fun x h => by
   rcases insV_mem.1 h with rfl | h
   ·exact hx.2 _ (List.getElem_mem hlt)
   ·exact hs x h) (by omega)
theorem impl_sorted {xs : List (List T_impl_Value)} (hx : SmRs xs) : impl_RowsSorted xs = some (sortedV xs) := by
 have h := impl_sort_l0 xs hx xs.length 0 FUEL [] (by omega) rfl (fun _ h => by cases h) (Nat.lt_of_le_of_lt hx.1 (by decide))
 exact h
end Go.D
set_option linter.unusedVariables false
namespace Go.D
end Go.D
set_option linter.unusedVariables false
namespace Go.D
section
end
end Go.D
set_option linter.unusedVariables false
namespace Go.D
section
end
end Go.D
set_option linter.unusedVariables false
namespace Go.D
theorem SmRs.app {a b : List (List T_impl_Value)} (ha : SmRs a) (hb : SmRs b) (h : a.length + b.length ≤ 2097152) : SmRs (a ++ b) := ⟨by rw [List.length_append]; exact h, fun r hr => (List.mem_append.1 hr).elim (ha.2 r) (hb.2 r)⟩
end Go.D
set_option linter.unusedVariables false
namespace Go.D
end Go.D
set_option linter.unusedVariables false
namespace Go.D
abbrev RowL := List (List T_impl_Value)
def allR (a : RowL) : Bool := a.all rowOk
theorem allR_mem {a : RowL} (h : allR a = true) : ∀ r ∈ a, rowOk r = true := List.all_eq_true.1 h
theorem impl_allR {a : RowL} (h : SmRs a) : impl_allOk a = some (allR a) := by
 unfold impl_allOk slices_ContainsFunc_impl_Value_impl_Value_s3 slices_IndexFunc_impl_Value_impl_Value_s3
 have hl := h.1
 obtain ⟨x, h1, h2⟩ := loop_find (xs := a) (L := slices_IndexFunc_impl_Value_impl_Value_s3_l0 a impl_allOk_1) (p := fun v => !(rowOk v)) (by omega) (fun f i v hi hv hw => by
  have : (i : Int) < a.length := by omega
  simp only [slices_IndexFunc_impl_Value_impl_Value_s3_l0, this, decide_true, cond_true, getI_nat, hv, Option.bind_some, impl_allOk_1, impl_rowOk (h.2 v (List.mem_of_getElem? hv)), hw]) (fun f => by
  simp only [slices_IndexFunc_impl_Value_impl_Value_s3_l0, Int.lt_irrefl, decide_false, cond_false])
 rw [h1, Option.bind_some, h2, Option.bind_some, not_any_not]
 rfl
theorem spec_sameR {a b : List T_impl_Value} (h : a.length ≤ 70368744177662) : spec_l3Same a b = some (rowEq a b) := by
 unfold spec_l3Same rowEq
 have e : ((a.length : Int) == (b.length : Int)) = (a.length == b.length) := len_beqN _ _
 rw [e]
 cases hl : a.length == b.length with
 | false => rfl
 | true =>
  rw [Bool.not_true, cond_false, Bool.true_and]
  refine loop_two (L := fun f i => spec_l3Same_l0 a b f i) h (by simpa using hl) (fun f i x y hi hx hy hw => ?_) (fun f => ?_)
  ·rw [spec_l3Same_l0, decide_eq_true (by omega), cond_true, getI_nat, hx, Option.bind_some, getI_nat, hy, Option.bind_some, hw]
   cases eq_T_impl_Value x y <;> rfl
  ·rw [spec_l3Same_l0, decide_eq_false (Int.lt_irrefl _), cond_false]
theorem many_consR (v : List T_impl_Value) (rest : RowL) (r : List T_impl_Value) : many (v :: rest) r = many rest r + if rowEq v r = true then 1 else 0 := List.countP_cons
theorem many_perm {a b : RowL} (h : a.Perm b) (r : List T_impl_Value) : many a r = many b r := h.countP_eq _
theorem perm_of_many : ∀ {a b : RowL}, (∀ r, many a r = many b r) → a.Perm b
 | [], b, h => by
  have : b = [] := by
   cases b with
   | nil => rfl
   | cons x b =>
    have := h x
    rw [many_nil, many_consR, rowEq_refl] at this
    simp at this
  rw [this]
 | x :: a, b, h => by
  have hx : x ∈ b := by
   rw [← many_pos, ← h x, many_consR, rowEq_refl]
   simp
  obtain ⟨l, r, rfl⟩ := List.append_of_mem hx
  have : a.Perm (l ++ r) := perm_of_many fun y => by
   have := h y
   rw [many_consR, many_app, many_consR] at this
   rw [many_app]
   omega
  exact (this.cons x).trans List.perm_middle.symm
theorem sortedV_eq {a b : RowL} (h : a.Perm b) (hb : allR b = true) : sortedV a = sortedV b :=
 asc_uniq ((sortedV_perm a).trans (h.trans (sortedV_perm b).symm)) (sortedV_asc fun x hx => allR_mem hb x (h.mem_iff.1 hx)) (sortedV_asc (allR_mem hb))
structure SmDs (ds : List T_impl_Delta) : Prop where
 len : ds.length ≤ 2097152
 row : ∀ d ∈ ds, SmR d.fRow
 one : ∀ d ∈ ds, -1 ≤ d.fMany ∧ d.fMany ≤ 1
end Go.D
set_option linter.unusedVariables false
namespace Go.D
theorem loop_fidx {α : Type} {xs : List α} {L : Nat → Int → Option Int} {p : α → Bool} (hlen : xs.length ≤ 70368744177662)
  (h : ∀ (f i : Nat) (v : α), i < xs.length → xs[i]? = some v → w64 ((i : Int) + 1) = ((i + 1 : Nat) : Int) → L (f + 1) i = bif p v then some (i : Int) else L f ((i + 1 : Nat) : Int)) (he : ∀ f, L (f + 1) (xs.length : Int) = some (-1)) :
  L FUEL 0 = some (match xs.findIdx? p with | some i => (i : Int) | none => -1) := by
 have main : ∀ (k i f : Nat), i + k = xs.length → k < f → L f (i : Int) = some (match (xs.drop i).findIdx? p with | some j => ((i + j : Nat) : Int) | none => -1) := by
  intro k
  induction k with
  | zero =>
   intro i f hi hf
   obtain ⟨f, rfl⟩ : ∃ f', f = f' + 1 := ⟨f - 1, by omega⟩
   have : i = xs.length := by omega
   subst this
   rw [he, List.drop_length]
   rfl
  | succ k ih =>
   intro i f hi hf
   obtain ⟨f, rfl⟩ : ∃ f', f = f' + 1 := ⟨f - 1, by omega⟩
   have hlt : i < xs.length := by omega
   rw [h f i xs[i] hlt (List.getElem?_eq_getElem hlt) (succ_w hlt (by omega)), List.drop_eq_getElem_cons hlt, List.findIdx?_cons]
   cases hp : p xs[i] with
   | true => simp
   | false =>
    rw [cond_false, ih (i + 1) f (by omega) (by omega)]
    simp only [Bool.false_eq_true, if_false]
    cases (xs.drop (i + 1)).findIdx? p with
    | none => rfl
    | some j =>
     simp only [Option.map_some]
     congr 2
     omega
 have := main xs.length 0 FUEL (by omega) (by unfold FUEL; omega)
 rw [show ((0 : Nat) : Int) = 0 from rfl, List.drop_zero] at this
 rw [this]
 simp
def rem1 (r : List T_impl_Value) (o : RowL) : Option RowL := (o.findIdx? fun x => rowEq x r).map fun i => o.take i ++ o.drop (i + 1)
def remN (r : List T_impl_Value) : Nat → RowL → Option RowL
 | 0, o => some o
 | n + 1, o => (rem1 r o).bind (remN r n)
def step1 (o : RowL) (d : T_impl_Delta) : Option RowL := if 0 ≤ d.fMany then some (o ++ List.replicate d.fMany.toNat d.fRow) else remN d.fRow (-d.fMany).toNat o
def stepsV : List T_impl_Delta → RowL → Option RowL
 | [], o => some o
 | d :: ds, o => (step1 o d).bind (stepsV ds)
def dOk (d : T_impl_Delta) : Bool := rowOk d.fRow && inR d.fMany (-100) 100
def rowsD (a : RowL) (ds : List T_impl_Delta) : RowL × Bool := bif allR a && ds.all dOk then (match stepsV ds a with
 | some o => (sortedV o, true)
 | none => ([], false)) else ([], false)
theorem rem1_some {r : List T_impl_Value} {o o' : RowL} (h : rem1 r o = some o') : o.Perm (r :: o') := by
 unfold rem1 at h
 cases hi : o.findIdx? fun x => rowEq x r with
 | none => rw [hi] at h; cases h
 | some i =>
  rw [hi] at h
  cases h
  obtain ⟨hlt, hp, _⟩ := List.findIdx?_eq_some_iff_getElem.1 hi
  have e : o[i] = r := rowEq_iff.1 hp
  have : o = o.take i ++ o[i] :: o.drop (i + 1) := by rw [← List.drop_eq_getElem_cons hlt, List.take_append_drop]
  rw [e] at this
  conv => lhs; rw [this]
  exact List.perm_middle
theorem rem1_none {r : List T_impl_Value} {o : RowL} : rem1 r o = none ↔ many o r = 0 := by
 unfold rem1
 rw [Option.map_eq_none_iff, List.findIdx?_eq_none_iff]
 constructor
 ·intro h
  by_cases hm : many o r = 0
  ·exact hm
  ·have := h r (many_pos.1 (by omega))
   rw [rowEq_refl] at this
   cases this
 ·intro h x hx
  cases hq : rowEq x r with
  | false => rfl
  | true =>
   have := many_pos.2 hx
   rw [rowEq_iff.1 hq] at this
   omega
theorem rem1_many {r : List T_impl_Value} {o o' : RowL} (h : rem1 r o = some o') (x : List T_impl_Value) : many o x = many o' x + if rowEq r x = true then 1 else 0 := by
 rw [many_perm (rem1_some h), many_consR]
theorem remN_many {r : List T_impl_Value} : ∀ {n : Nat} {o o' : RowL}, remN r n o = some o' → ∀ x, (many o' x : Int) = many o x - if rowEq r x = true then (n : Int) else 0
 | 0, o, o', h, x => by
  cases h
  split <;> simp
 | n + 1, o, o', h, x => by
  unfold remN at h
  cases h1 : rem1 r o with
  | none => rw [h1] at h; cases h
  | some o1 =>
   rw [h1] at h
   have e1 := rem1_many h1 x
   have e2 := remN_many (o := o1) h x
   split at e1
   ·next hq =>
    rw [if_pos hq] at e2 ⊢
    omega
   ·next hq =>
    rw [if_neg hq] at e2 ⊢
    omega
theorem remN_ok {r : List T_impl_Value} : ∀ {n : Nat} {o : RowL}, n ≤ many o r → ∃ o', remN r n o = some o'
 | 0, o, _ => ⟨o, rfl⟩
 | n + 1, o, h => by
  cases h1 : rem1 r o with
  | none =>
   have := rem1_none.1 h1
   omega
  | some o1 =>
   have e1 := rem1_many h1 r
   rw [if_pos (rowEq_refl r)] at e1
   obtain ⟨o', h'⟩ := remN_ok (r := r) (n := n) (o := o1) (by omega)
   exact ⟨o', by rw [remN, h1]; exact h'⟩
theorem stepsV_mem {ds : List T_impl_Delta} {o o' : RowL} (h : stepsV ds o = some o') {p : List T_impl_Value → Prop} (ho : ∀ r ∈ o, p r) (hd : ∀ d ∈ ds, p d.fRow) : ∀ r ∈ o', p r := by
 have rem : ∀ (r : List T_impl_Value) (n : Nat) (o o' : RowL), remN r n o = some o' → (∀ x ∈ o, p x) → ∀ x ∈ o', p x := by
  intro r n
  induction n with
  | zero =>
   intro o o' h ho
   cases h
   exact ho
  | succ n ih =>
   intro o o' h ho
   unfold remN at h
   cases h1 : rem1 r o with
   | none => rw [h1] at h; cases h
   | some o1 =>
    rw [h1] at h
    exact ih o1 o' h fun x hx => ho x ((rem1_some h1).mem_iff.2 (by simp [hx]))
 induction ds generalizing o with
 | nil => cases h; exact ho
 | cons d ds ih =>
  unfold stepsV at h
  cases h1 : step1 o d with
  | none => rw [h1] at h; cases h
  | some o1 =>
   rw [h1] at h
   refine ih h (fun x hx => ?_) (fun d' hd' => hd d' (by simp [hd']))
   unfold step1 at h1
   split at h1
   ·cases h1
    rcases List.mem_append.1 hx with hx | hx
    ·exact ho x hx
    ·rw [(List.mem_replicate.1 hx).2]
     exact hd d (by simp)
   ·exact rem _ _ _ _ h1 ho x hx
theorem remN_len {r : List T_impl_Value} : ∀ {n : Nat} {o o' : RowL}, remN r n o = some o' → o'.length ≤ o.length
 | 0, o, o', h => by cases h; exact Nat.le_refl _
 | n + 1, o, o', h => by
  unfold remN at h
  cases h1 : rem1 r o with
  | none => rw [h1] at h; cases h
  | some o1 =>
   rw [h1] at h
   have e1 := (rem1_some h1).length_eq
   have e2 := remN_len (o := o1) h
   simp only [List.length_cons] at e1
   omega
theorem step1_len {o o' : RowL} {d : T_impl_Delta} (h : step1 o d = some o') (hd : dOk d = true) : o'.length ≤ o.length + 100 := by
 unfold step1 at h
 have hr : inR d.fMany (-100) 100 = true := by
  unfold dOk at hd
  simp only [Bool.and_eq_true] at hd
  exact hd.2
 simp only [inR, Bool.and_eq_true, decide_eq_true_eq] at hr
 split at h
 ·cases h
  simp only [List.length_append, List.length_replicate]
  omega
 ·have := remN_len h
  omega
theorem impl_idxR {o : RowL} (h : o.length ≤ 8388608) (hs : ∀ r ∈ o, SmR r) (d : T_impl_Delta) : slices_IndexFunc_impl_Value_impl_Value_s3 o (fun z0 => impl_afterDeltas_1 z0 d) = some (match o.findIdx? (fun x => rowEq x d.fRow) with | some i => (i : Int) | none => -1) := by
 unfold slices_IndexFunc_impl_Value_impl_Value_s3
 refine loop_fidx (L := fun f i => slices_IndexFunc_impl_Value_impl_Value_s3_l0 o (fun z0 => impl_afterDeltas_1 z0 d) f i) (p := fun x => rowEq x d.fRow) (by omega) (fun f i v hi hv hw => ?_) (fun f => ?_)
 ·rw [slices_IndexFunc_impl_Value_impl_Value_s3_l0, decide_eq_true (by omega), cond_true, getI_nat, hv, Option.bind_some]
  unfold impl_afterDeltas_1
  rw [slices_Equal_ok (by have := (hs v (List.mem_of_getElem? hv)).1; omega), Option.bind_some, Option.bind_some, hw]
 ·rw [slices_IndexFunc_impl_Value_impl_Value_s3_l0, decide_eq_false (Int.lt_irrefl _), cond_false]
theorem impl_del {o : RowL} (h : o.length ≤ 8388608) (hs : ∀ r ∈ o, SmR r) (x4 : Int) (K : Int → RowL → Option (RowL × Bool)) (d : T_impl_Delta) : ∀ (k f : Nat) (o : RowL), k ≤ 1000000 → o.length ≤ 8388608 → (∀ r ∈ o, SmR r) → k < f →
  impl_afterDeltas_l2 x4 K d f (-(k : Int)) o = match remN d.fRow k o with | some o' => K (w64 (x4 + 1)) o' | none => some ([], false)
 | 0, f + 1, o, _, _, _, _ => by
  rw [impl_afterDeltas_l2, decide_eq_false (by omega), cond_false]
  rfl
 | k + 1, f + 1, o, hk, hl, hs, hf => by
  rw [impl_afterDeltas_l2, decide_eq_true (by omega), cond_true, impl_idxR hl hs, Option.bind_some, remN, rem1]
  cases hi : o.findIdx? fun x => rowEq x d.fRow with
  | none => rfl
  | some i =>
   obtain ⟨hlt, hp, _⟩ := List.findIdx?_eq_some_iff_getElem.1 hi
   have hw : w64 ((i : Int) + 1) = ((i + 1 : Nat) : Int) := by rw [w64_of] <;> omega
   have hd : delR o (i : Int) ((i + 1 : Nat) : Int) = some (o.take i ++ o.drop (i + 1)) := by
    unfold delR
    rw [decide_eq_true (by omega), decide_eq_true (by omega), decide_eq_true (by omega)]
    simp
   have h1 : rem1 d.fRow o = some (o.take i ++ o.drop (i + 1)) := by
    unfold rem1
    rw [hi]
    rfl
   have hw2 : w64 (-((k + 1 : Nat) : Int) + 1) = -(k : Int) := by rw [w64_of] <;> omega
   simp only [Option.map_some, Option.bind_some]
   rw [decide_eq_false (by omega), cond_false, hw, hd, Option.bind_some, hw2]
   refine impl_del h ‹_› x4 K d k f _ (by omega) ?_ (fun r hr => hs r ((rem1_some h1).mem_iff.2 (by simp only [List.mem_cons]; exact .inr hr))) (by omega)
   simp only [List.length_append, List.length_take, List.length_drop]
   omega
theorem impl_add (x4 : Int) (K : Int → RowL → Option (RowL × Bool)) (d : T_impl_Delta) (hd : d.fMany ≤ 1000000) : ∀ (k i f : Nat) (o : RowL), (i : Int) + k = d.fMany → o.length ≤ 4194304 + i → k < f →
  impl_afterDeltas_l1 x4 K d f (i : Int) o = impl_afterDeltas_l2 x4 K d FUEL d.fMany (o ++ List.replicate k d.fRow)
 | 0, i, f + 1, o, hi, _, _ => by
  rw [impl_afterDeltas_l1, decide_eq_false (by omega), cond_false]
  simp
 | k + 1, i, f + 1, o, hi, hl, hf => by
  rw [impl_afterDeltas_l1, decide_eq_true (by omega), cond_true, app_lt (by simp; omega), Option.bind_some, show w64 ((i : Int) + 1) = ((i + 1 : Nat) : Int) by rw [w64_of] <;> omega, impl_add x4 K d hd k (i + 1) f _ (by omega) (by simp; omega) (by omega), List.append_assoc]
  rfl
theorem impl_step {d : T_impl_Delta} (hd : dOk d = true) (x4 : Int) (K : Int → RowL → Option (RowL × Bool)) {o : RowL} (hl : o.length ≤ 4194304) (hs : ∀ r ∈ o, SmR r) (hr : SmR d.fRow) :
  impl_afterDeltas_l1 x4 K d FUEL 0 o = match step1 o d with | some o' => K (w64 (x4 + 1)) o' | none => some ([], false) := by
 have hr2 : inR d.fMany (-100) 100 = true := by
  unfold dOk at hd
  simp only [Bool.and_eq_true] at hd
  exact hd.2
 simp only [inR, Bool.and_eq_true, decide_eq_true_eq] at hr2
 unfold step1
 by_cases h0 : 0 ≤ d.fMany
 ·rw [if_pos h0]
  have h1 := impl_add x4 K d (by omega) d.fMany.toNat 0 FUEL o (by omega) (by omega) (by unfold FUEL; omega)
  rw [show ((0 : Nat) : Int) = 0 from rfl] at h1
  rw [h1]
  obtain ⟨F, hF⟩ : ∃ F, FUEL = F + 1 := ⟨FUEL - 1, by decide⟩
  rw [hF, impl_afterDeltas_l2, decide_eq_false (by omega), cond_false]
 ·rw [if_neg h0]
  obtain ⟨F, hF⟩ : ∃ F, FUEL = F + 1 := ⟨FUEL - 1, by decide⟩
  have e : impl_afterDeltas_l1 x4 K d FUEL 0 o = impl_afterDeltas_l2 x4 K d FUEL d.fMany o := by
   conv => lhs; rw [hF, impl_afterDeltas_l1, decide_eq_false (by omega), cond_false]
  have em : d.fMany = -(((-d.fMany).toNat : Nat) : Int) := by omega
  rw [e]
  conv => lhs; rw [em]
  exact impl_del (by omega) hs x4 K d (-d.fMany).toNat FUEL o (by omega) (by omega) hs (by unfold FUEL; omega)
theorem impl_cloneRs {a : RowL} (h : a.length ≤ 8388608) : slices_Clone_impl_Value_impl_Value_s3 a = some a := by
 unfold slices_Clone_impl_Value_impl_Value_s3 slices_Clone_impl_Value_impl_Value_s3_j0
 rw [cond_false, app_lt (by simp; omega)]
 rfl
theorem impl_after {a : RowL} (ha : SmRs a) {ds : List T_impl_Delta} (hdl : ds.length ≤ 10000) (hal : a.length ≤ 1000000) (hd : ∀ d ∈ ds, SmR d.fRow) (hk : ds.all dOk = true) :
  impl_afterDeltas a ds = some (match stepsV ds a with | some o => (sortedV o, true) | none => ([], false)) := by
 unfold impl_afterDeltas
 rw [impl_cloneRs (by have := ha.1; omega), Option.bind_some]
 rw [List.all_eq_true] at hk
 have := loop_opt (xs := ds) (L := fun f i (o : RowL) => impl_afterDeltas_l0 ds f i o) (fun rest o => some (match stepsV rest o with | some o => (sortedV o, true) | none => ([], false))) (fun i o => o.length ≤ a.length + 100 * i ∧ ∀ r ∈ o, SmR r) (by omega)
  (fun f i o v hi hv hw hI => by
   have hm := List.mem_of_getElem? hv
   have h1 := hI.1
   have e : impl_afterDeltas_l0 ds (f + 1) i o = match step1 o v with | some o' => impl_afterDeltas_l0 ds f ((i + 1 : Nat) : Int) o' | none => some ([], false) := by
    rw [impl_afterDeltas_l0, decide_eq_true (by omega), cond_true, getI_nat, hv, Option.bind_some, impl_step (hk v hm) (i : Int) _ (by omega) hI.2 (hd v hm), hw]
   cases hs : step1 o v with
   | none =>
    refine .inl ?_
    rw [e, hs]
    simp [stepsV, hs]
   | some o' =>
    refine .inr ⟨o', ⟨?_, ?_⟩, ?_, ?_⟩
    ·have := step1_len hs (hk v hm)
     omega
    ·exact stepsV_mem (ds := [v]) (o := o) (by simp [stepsV, hs]) hI.2 (fun d hd' => by
      have : d = v := by simpa using hd'
      rw [this]; exact hd v hm)
    ·rw [e, hs]
    ·simp [stepsV, hs])
  (fun f o hI => by
   have h1 := hI.1
   rw [impl_afterDeltas_l0, decide_eq_false (Int.lt_irrefl _), cond_false, impl_sorted ⟨by omega, hI.2⟩, Option.bind_some]
   rfl) (s := a) ⟨by omega, ha.2⟩
 exact this
theorem impl_rowsD {a : RowL} (ha : SmRs a) (hal : a.length ≤ 1000000) {ds : List T_impl_Delta} (hdl : ds.length ≤ 10000) (hd : ∀ d ∈ ds, SmR d.fRow) : impl_DeltaRows a ds = some (rowsD a ds) := by
 unfold impl_DeltaRows rowsD
 rw [impl_allR ha, Option.bind_some]
 cases va : allR a with
 | false => rfl
 | true =>
  rw [Bool.not_true, cond_false]
  unfold slices_ContainsFunc_impl_Delta_impl_Delta slices_IndexFunc_impl_Delta_impl_Delta
  obtain ⟨x, h1, h2⟩ := loop_find (xs := ds) (L := slices_IndexFunc_impl_Delta_impl_Delta_l0 ds impl_DeltaRows_1) (p := fun v => !(dOk v)) (by omega) (fun f i v hi hv hw => by
   have hlt : (i : Int) < ds.length := by omega
   have e : impl_DeltaRows_1 v = some (!(dOk v)) := by
    unfold impl_DeltaRows_1 dOk
    rw [impl_rowOk (hd v (List.mem_of_getElem? hv)), Option.bind_some, impl_in]
    cases rowOk v.fRow <;> simp
   simp only [slices_IndexFunc_impl_Delta_impl_Delta_l0, hlt, decide_true, cond_true, getI_nat, hv, Option.bind_some, e, hw]) (fun f => by
   simp only [slices_IndexFunc_impl_Delta_impl_Delta_l0, Int.lt_irrefl, decide_false, cond_false])
  rw [h1, Option.bind_some, h2, Option.bind_some]
  have hn : (ds.any fun v => !(dOk v)) = !(ds.all dOk) := by rw [← not_any_not, Bool.not_not]
  rw [hn]
  cases hk : ds.all dOk with
  | false => rfl
  | true =>
   simp only [Bool.not_true, impl_DeltaRows_j0, cond_false, Bool.and_self, cond_true]
   rw [impl_after ha hdl hal hd hk]
   rfl
end Go.D
set_option linter.unusedVariables false
namespace Go.D
def wrG (w : T_impl_Write) : Bool := inR w.fKey 0 4 && (rowOk w.fRow && !(w.fGone && decide (0 < w.fRow.length)))
def wrP (ws : List T_impl_Write) (i : Nat) : Bool := match ws[i]? with
 | some w => wrG w && (i == 0 || match ws[i - 1]? with | some u => decide (u.fKey < w.fKey) | none => true)
 | none => true
def wOk (ws : List T_impl_Write) : Bool := (List.range ws.length).all (wrP ws)
def SmWrs (ws : List T_impl_Write) : Prop := Sm ws.length ∧ ∀ w ∈ ws, SmR w.fRow
theorem ownR {a : List T_impl_Value} (h : SmR a) : spec_l3Own a = some a := by
 have := h.1
 unfold spec_l3Own
 rw [app_lt (by simp; omega), Option.bind_some]
 rfl
theorem spec_wOk {ws : List T_impl_Write} (h : SmWrs ws) : spec_WritesOk ws = some (wOk ws) := by
 have hl := h.1
 unfold spec_WritesOk wOk
 have := loop_idx (n := ws.length) (L := spec_WritesOk_l0 ws) (p := wrP ws) (fin := true) (by omega) (fun f i hi hw => by
  have hv : ws[i]? = some ws[i] := List.getElem?_eq_getElem hi
  have hg : getI ws (i : Int) = some ws[i] := by rw [getI_nat, hv]
  rw [spec_WritesOk_l0, decide_eq_true (by omega), cond_true, hg, Option.bind_some, spec_in, Option.bind_some, spec_rowOk (h.2 _ (List.getElem_mem hi)), Option.bind_some]
  unfold wrP wrG
  rw [hv]
  simp only
  have hlen : decide ((ws[i].fRow.length : Int) > 0) = decide (0 < ws[i].fRow.length) := decide_eq_decide.2 (by omega)
  rw [hlen]
  cases inR ws[i].fKey 0 4 with
  | false => rfl
  | true =>
   cases rowOk ws[i].fRow with
   | false => rfl
   | true =>
    simp only [Bool.not_true, cond_false, Bool.true_and]
    by_cases h0 : i = 0
    ·subst h0
     simp only [show decide (((0 : Nat) : Int) > 0) = false from rfl, cond_false, spec_WritesOk_j1, hw]
     cases ws[0].fGone <;> cases decide (0 < ws[0].fRow.length) <;> rfl
    ·have hi1 : i - 1 < ws.length := by omega
     have hw1 : w64 ((i : Int) - 1) = ((i - 1 : Nat) : Int) := by rw [w64_of (by omega) (by omega)]; omega
     have hv1 : ws[i - 1]? = some ws[i - 1] := List.getElem?_eq_getElem hi1
     have e0 : (i == 0) = false := by simpa using h0
     have hge : decide (ws[i - 1].fKey ≥ ws[i].fKey) = !(decide (ws[i - 1].fKey < ws[i].fKey)) := by
      rw [← decide_not]
      exact decide_eq_decide.2 (by omega)
     simp only [decide_eq_true (show (i : Int) > 0 by omega), cond_true, hw1, getI_nat, hv1, Option.bind_some, e0, Bool.false_or, spec_WritesOk_j1, hw, hge]
     cases ws[i].fGone <;> cases decide (0 < ws[i].fRow.length) <;> cases decide (ws[i - 1].fKey < ws[i].fKey) <;> rfl)
  (fun f => by rw [spec_WritesOk_l0, decide_eq_false (Int.lt_irrefl _), cond_false])
 rw [this, Bool.and_true]
def lastT (xs : List T_impl_Version) (k : Int) : Int := xs.foldl (fun n v => bif v.fKey == k then maxL n [v.fBorn, v.fDied] else n) 0
theorem spec_last {xs : List T_impl_Version} (h : SmVers xs) (k : Int) : spec_LastTurn xs k = some (bif vOk xs then lastT xs k else 0) := by
 have hl := h.1
 unfold spec_LastTurn
 cases hv : vOk xs with
 | false =>
  rw [cond_false, spec_LastTurn_l0.eq_def]
  show (bif _ then _ else _) = _
  rw [spec_vOk h, Option.bind_some, hv]
  cases decide ((0 : Int) < xs.length) <;> rfl
 | true =>
  rw [cond_true]
  have := loop_opt (xs := xs) (L := fun f i (s : Int) => spec_LastTurn_l0 xs k f s i) (fun rest s => some (rest.foldl (fun n v => bif v.fKey == k then maxL n [v.fBorn, v.fDied] else n) s)) (fun _ _ => True) (by omega)
   (fun f i s v hi hvi hw _ => .inr ⟨bif v.fKey == k then maxL s [v.fBorn, v.fDied] else s, trivial, by
    rw [spec_LastTurn_l0, decide_eq_true (by omega), cond_true, spec_vOk h, hv, Option.bind_some, spec_LastTurn_j1, cond_true, getI_nat, hvi, Option.bind_some]
    cases v.fKey == k
    ·rw [cond_false, cond_false, spec_LastTurn_j2, hw]
    ·rw [cond_true, cond_true, Option.bind_some, Option.bind_some, spec_LastTurn_j2, hw], by rw [List.foldl_cons]⟩)
   (fun f s _ => by rw [spec_LastTurn_l0, decide_eq_false (Int.lt_irrefl _), cond_false, spec_LastTurn_j1, cond_false]; rfl) (s := 0) trivial
  exact this
def newV (w : T_impl_Write) (t : Int) : T_impl_Version := ⟨w.fKey, t, 0, w.fRow⟩
def closeV (w : T_impl_Write) (t : Int) (v : T_impl_Version) : T_impl_Version := bif v.fKey == w.fKey && v.fDied == 0 then { v with fDied := t } else v
def putR (w : T_impl_Write) (t : Int) : Bool → List T_impl_Version → List T_impl_Version
 | d, [] => bif d then [] else [newV w t]
 | d, v :: r => bif decide (v.fKey > w.fKey) && !d then newV w t :: closeV w t v :: putR w t true r else closeV w t v :: putR w t d r
def writtenV (xs : List T_impl_Version) (ws : List T_impl_Write) (t : Int) : List T_impl_Version := ws.foldl (fun ys w => putR w t w.fGone ys) xs
theorem closeV_row (w : T_impl_Write) (t : Int) (v : T_impl_Version) : (closeV w t v).fRow = v.fRow := by
 unfold closeV
 cases v.fKey == w.fKey && v.fDied == 0 <;> rfl
theorem putR_len (w : T_impl_Write) (t : Int) : ∀ (d : Bool) (xs : List T_impl_Version), (putR w t d xs).length ≤ xs.length + 1 ∧ (d = true → (putR w t d xs).length = xs.length)
 | true, [] => ⟨by simp [putR], fun _ => rfl⟩
 | false, [] => ⟨by simp [putR], fun h => by cases h⟩
 | d, v :: r => by
  obtain ⟨h1, h2⟩ := putR_len w t true r
  obtain ⟨h3, h4⟩ := putR_len w t d r
  have h2 := h2 rfl
  unfold putR
  cases d with
  | true =>
   have h4 := h4 rfl
   rw [Bool.not_true, Bool.and_false, cond_false]
   simp only [List.length_cons]
   omega
  | false =>
   cases decide (v.fKey > w.fKey)
   ·simp only [Bool.false_and, cond_false, List.length_cons]
    exact ⟨by omega, fun h => by cases h⟩
   ·simp only [Bool.not_false, Bool.true_and, cond_true, List.length_cons]
    exact ⟨by omega, fun h => by cases h⟩
theorem putR_rows {Q : List T_impl_Value → Prop} (w : T_impl_Write) (t : Int) (hw : Q w.fRow) : ∀ (d : Bool) (xs : List T_impl_Version), (∀ v ∈ xs, Q v.fRow) → ∀ v ∈ putR w t d xs, Q v.fRow
 | true, [], _, v, hv => by cases hv
 | false, [], _, v, hv => by
  have : v = newV w t := by simpa [putR] using hv
  rw [this]
  exact hw
 | d, u :: r, h, v, hv => by
  have hu : Q (closeV w t u).fRow := by rw [closeV_row]; exact h u (by simp)
  have hr := fun d => putR_rows w t hw d r fun v hv => h v (List.mem_cons_of_mem _ hv)
  unfold putR at hv
  cases hc : decide (u.fKey > w.fKey) && !d with
  | true =>
   rw [hc, cond_true, List.mem_cons, List.mem_cons] at hv
   rcases hv with rfl | rfl | hv
   ·exact hw
   ·exact hu
   ·exact hr _ v hv
  | false =>
   rw [hc, cond_false, List.mem_cons] at hv
   rcases hv with rfl | hv
   ·exact hu
   ·exact hr _ v hv
theorem written_small {Q : List T_impl_Value → Prop} (t : Int) : ∀ (ws : List T_impl_Write) (xs : List T_impl_Version), (∀ w ∈ ws, Q w.fRow) → (∀ v ∈ xs, Q v.fRow) → (writtenV xs ws t).length ≤ xs.length + ws.length ∧ ∀ v ∈ writtenV xs ws t, Q v.fRow
 | [], xs, _, hx => ⟨Nat.le_refl _, hx⟩
 | w :: ws, xs, hw, hx => by
  have h1 := (putR_len w t w.fGone xs).1
  have h2 := putR_rows w t (hw w (by simp)) w.fGone xs hx
  obtain ⟨h3, h4⟩ := written_small t ws (putR w t w.fGone xs) (fun u hu => hw u (List.mem_cons_of_mem _ hu)) h2
  refine ⟨?_, h4⟩
  show (writtenV (putR w t w.fGone xs) ws t).length ≤ _
  simp only [List.length_cons]
  omega
end Go.D
set_option linter.unusedVariables false
namespace Go.D
theorem spec_put {xs : List T_impl_Version} {w : T_impl_Write} (hx : xs.length ≤ 3000000) (hw : SmR w.fRow) (t : Int) : spec_l13Written_R_L0 xs w t = some (putR w t w.fGone xs) := by
 unfold spec_l13Written_R_L0
 have := loop_opt (xs := xs) (L := fun f i (s : Bool × List T_impl_Version) => spec_l13Written_R_L0_l0 xs w t f s.1 i s.2) (fun rest s => some (s.2 ++ putR w t s.1 rest)) (fun i s => s.2.length ≤ 2 * i) (by omega)
  (fun f i s v hi hv hw' hI => by
   obtain ⟨d, out⟩ := s
   simp only at hI ⊢
   have key : ∀ (d' : Bool) (o : List T_impl_Version), o.length ≤ 2 * i + 1 → spec_l13Written_R_L0_j1 w t (i : Int) (spec_l13Written_R_L0_l0 xs w t f) v d' o = spec_l13Written_R_L0_l0 xs w t f d' ((i + 1 : Nat) : Int) (o ++ [closeV w t v]) := by
    intro d' o ho
    unfold spec_l13Written_R_L0_j1 spec_l13Written_R_L0_j3 spec_l13Written_R_L0_j2 closeV
    cases v.fKey == w.fKey <;> cases v.fDied == 0 <;> simp only [cond_true, cond_false, Bool.and_true, Bool.and_false] <;> rw [app_lt (by simp; omega), Option.bind_some, hw']
   rw [spec_l13Written_R_L0_l0, decide_eq_true (by omega), cond_true, getI_nat, hv, Option.bind_some]
   have j4 : ∀ b, spec_l13Written_R_L0_j4 w t d (i : Int) out (spec_l13Written_R_L0_l0 xs w t f) v b = bif b then spec_l13Written_R_L0_l0 xs w t f true ((i + 1 : Nat) : Int) (out ++ [newV w t] ++ [closeV w t v]) else spec_l13Written_R_L0_l0 xs w t f d ((i + 1 : Nat) : Int) (out ++ [closeV w t v]) := by
    intro b
    unfold spec_l13Written_R_L0_j4
    cases b with
    | false => rw [cond_false, cond_false, key _ _ (by omega)]
    | true => rw [cond_true, cond_true, ownR hw, Option.bind_some, app_lt (by simp; omega), Option.bind_some, key _ _ (by simp; omega)]; rfl
   refine .inr ⟨bif decide (v.fKey > w.fKey) && !d then (true, out ++ [newV w t] ++ [closeV w t v]) else (d, out ++ [closeV w t v]), ?_, ?_, ?_⟩
   ·cases decide (v.fKey > w.fKey) && !d <;> simp <;> omega
   ·simp only [j4]
    cases decide (v.fKey > w.fKey) <;> cases d <;> rfl
   ·simp only [putR]
    cases decide (v.fKey > w.fKey) <;> cases d <;> simp)
  (fun f s hI => by
   obtain ⟨d, out⟩ := s
   simp only at hI ⊢
   rw [spec_l13Written_R_L0_l0, decide_eq_false (Int.lt_irrefl _), cond_false]
   cases d with
   | true => simp [putR]
   | false =>
    rw [Bool.not_false, cond_true, ownR hw, Option.bind_some, app_lt (by simp; omega), Option.bind_some]
    rfl) (s := (w.fGone, [])) (by simp)
 exact this
theorem spec_copyV {xs : List T_impl_Version} (h : SmVers xs) : spec_l13Copy_R_L0 xs = some xs := by
 have hl := h.1
 unfold spec_l13Copy_R_L0
 have := loop_opt (xs := xs) (L := fun f i (s : List T_impl_Version) => spec_l13Copy_R_L0_l0 xs f i s) (fun rest s => some (s ++ rest)) (fun i s => s.length = i) (by omega)
  (fun f i s v hi hv hw hI => .inr ⟨s ++ [v], by simp; omega, by
   rw [spec_l13Copy_R_L0_l0, decide_eq_true (by omega), cond_true, getI_nat, hv, Option.bind_some, ownR (h.2 v (List.mem_of_getElem? hv)), Option.bind_some, app_lt (by simp; omega), Option.bind_some, hw], by simp⟩)
  (fun f s hI => by rw [spec_l13Copy_R_L0_l0, decide_eq_false (Int.lt_irrefl _), cond_false]; simp) (s := []) rfl
 simpa using this
def wrAt (xs : List T_impl_Version) (ws : List T_impl_Write) (t : Int) : List T_impl_Version × Bool :=
 bif vOk xs && (wOk ws && (inR t 1 40 && ((List.range 5).all (fun k => decide (lastT xs (k : Int) < t)) && decide ((writtenV xs ws t).length ≤ 60)))) then (writtenV xs ws t, true) else ([], false)
theorem spec_written {ws : List T_impl_Write} (hw : SmWrs ws) (t : Int) {xs : List T_impl_Version} (hx : xs.length + ws.length ≤ 3000000) : spec_WrittenAt_R_L0_l2 ws t FUEL 0 xs = some (bif decide ((writtenV xs ws t).length ≤ 60) then (writtenV xs ws t, true) else ([], false)) := by
 have hl := hw.1
 have := loop_opt (xs := ws) (L := fun f i (s : List T_impl_Version) => spec_WrittenAt_R_L0_l2 ws t f i s) (fun rest s => some (bif decide ((writtenV s rest t).length ≤ 60) then (writtenV s rest t, true) else ([], false))) (fun i s => s.length ≤ xs.length + i) (by omega)
  (fun f i s v hi hv hw' hI => .inr ⟨putR v t v.fGone s, by have := (putR_len v t v.fGone s).1; omega, by
   rw [spec_WrittenAt_R_L0_l2, decide_eq_true (by omega), cond_true, getI_nat, hv, Option.bind_some, spec_put (by omega) (hw.2 v (List.mem_of_getElem? hv)), Option.bind_some, hw'], rfl⟩)
  (fun f s hI => by
   rw [spec_WrittenAt_R_L0_l2, decide_eq_false (Int.lt_irrefl _), cond_false]
   have e : decide ((s.length : Int) > 60) = !(decide (s.length ≤ 60)) := by
    rw [← decide_not]
    exact decide_eq_decide.2 (by omega)
   rw [e]
   show _ = some (bif decide (s.length ≤ 60) then (s, true) else ([], false))
   cases decide (s.length ≤ 60) <;> rfl) (s := xs) (by omega)
 exact this
theorem spec_wrAt {xs : List T_impl_Version} {ws : List T_impl_Write} (h : SmVers xs) (hw : SmWrs ws) (hs : xs.length + ws.length ≤ 3000000) (t : Int) : spec_WrittenAt_R_L0 xs ws t = some (wrAt xs ws t) := by
 have hj : ∀ b, spec_WrittenAt_R_L0_j0 xs ws t b = bif b then some ([], false) else spec_WrittenAt_R_L0_l1 xs ws t FUEL 0 := fun _ => rfl
 unfold spec_WrittenAt_R_L0 wrAt
 rw [spec_vOk h, Option.bind_some, spec_wOk hw, Option.bind_some, spec_in, Option.bind_some]
 simp only [hj]
 cases hv : vOk xs with
 | false => rfl
 | true =>
  cases wOk ws with
  | false => rfl
  | true =>
   cases inR t 1 40 with
   | false => rfl
   | true =>
    simp only [Bool.not_true, cond_false, Bool.true_and]
    have := loop_opt (xs := List.range 5) (L := fun f i (_ : Unit) => spec_WrittenAt_R_L0_l1 xs ws t f i)
     (fun rest _ => bif rest.all (fun k => decide (lastT xs (k : Int) < t)) then some (bif decide ((writtenV xs ws t).length ≤ 60) then (writtenV xs ws t, true) else ([], false)) else some ([], false)) (fun _ _ => True) (by simp)
     (fun f i s v hi hvi hw' _ => by
      have hi5 : i < 5 := by simpa using hi
      have ev : v = i := by
       rw [List.getElem?_range hi5] at hvi
       exact (Option.some.inj hvi).symm
      subst ev
      have e : decide (lastT xs (v : Int) ≥ t) = !(decide (lastT xs (v : Int) < t)) := by
       rw [← decide_not]
       exact decide_eq_decide.2 (by omega)
      cases hc : decide (lastT xs (v : Int) < t) with
      | false =>
       refine .inl ?_
       rw [spec_WrittenAt_R_L0_l1, decide_eq_true (by omega), cond_true, spec_last h, hv, cond_true, Option.bind_some, e, hc]
       simp [hc]
      | true =>
       refine .inr ⟨(), trivial, ?_, ?_⟩
       ·rw [spec_WrittenAt_R_L0_l1, decide_eq_true (by omega), cond_true, spec_last h, hv, cond_true, Option.bind_some, e, hc, hw']
        rfl
       ·simp [hc])
     (fun f s _ => by
      show spec_WrittenAt_R_L0_l1 xs ws t (f + 1) (((List.range 5).length : Nat) : Int) = _
      rw [List.length_range, spec_WrittenAt_R_L0_l1, decide_eq_false (by omega), cond_false, spec_copyV h, Option.bind_some, spec_written hw t hs]
      rfl) (s := ()) trivial
    rw [this]
    cases (List.range 5).all (fun k => decide (lastT xs (k : Int) < t)) <;> rfl
end Go.D
set_option linter.unusedVariables false
namespace Go.D
structure RdOk (n : Int) (r : T_spec_l20Rd) : Prop where
 len : r.fB.length ≤ 2000
 lo : 0 ≤ r.fP
 hi : r.fP ≤ n
theorem RdOk.up {n m : Int} {r : T_spec_l20Rd} (h : RdOk n r) (hm : n ≤ m) : RdOk m r := ⟨h.len, h.lo, by have := h.hi; omega⟩
theorem remI_pos {a b : Int} (ha : 0 ≤ a) (hb : 0 < b) : ∃ k, remI a b = some k ∧ 0 ≤ k ∧ k < b := by
 unfold remI
 rw [if_neg (by omega)]
 refine ⟨_, rfl, ?_, ?_⟩
 ·rw [Int.tmod_eq_emod_of_nonneg ha]
  exact Int.emod_nonneg _ (by omega)
 ·rw [Int.tmod_eq_emod_of_nonneg ha]
  exact Int.emod_lt_of_pos _ hb
theorem quoI_pos {a b : Int} (ha : 0 ≤ a) (ha2 : a ≤ 4611686018427387904) (hb : 0 < b) : ∃ k, quoI a b = some k ∧ 0 ≤ k ∧ k ≤ a := by
 unfold quoI
 rw [if_neg (by omega), Int.tdiv_eq_ediv_of_nonneg ha]
 have h0 : 0 ≤ a / b := Int.ediv_nonneg ha (by omega)
 have h1 : a / b ≤ a := Int.ediv_le_self _ ha
 rw [w64_of (by omega) (by omega)]
 exact ⟨_, rfl, h0, h1⟩
theorem xor_w {a b : Int} (ha : 0 ≤ a) (hb : 0 ≤ b) (ha2 : a < 4611686018427387904) (hb2 : b < 4611686018427387904) : 0 ≤ w64 (((BitVec.ofInt 64 a ^^^ BitVec.ofInt 64 b).toNat : Nat) : Int) := by
 obtain ⟨m, rfl⟩ := Int.eq_ofNat_of_zero_le ha
 obtain ⟨n, rfl⟩ := Int.eq_ofNat_of_zero_le hb
 have hm : m < 2 ^ 62 := by omega
 have hn : n < 2 ^ 62 := by omega
 have e : (BitVec.ofInt 64 (m : Int) ^^^ BitVec.ofInt 64 (n : Int)).toNat = m ^^^ n := by
  rw [BitVec.toNat_xor, BitVec.ofInt_natCast, BitVec.ofInt_natCast, BitVec.toNat_ofNat, BitVec.toNat_ofNat, Nat.mod_eq_of_lt (by omega), Nat.mod_eq_of_lt (by omega)]
 rw [e]
 have := Nat.xor_lt_two_pow hm hn
 rw [w64_of (by omega) (by omega)]
 omega
theorem pick_ok {n : Int} {r : T_spec_l20Rd} (h : RdOk n r) (hn : n ≤ 1000000) (a : Int) : ∃ k r', spec_l20Rd_pick r a = some (k, r') ∧ RdOk (n + 1) r' ∧ 0 ≤ k ∧ (a < 1 → k = 0) ∧ (1 ≤ a → k < a) := by
 obtain ⟨fB, fP⟩ := r
 obtain ⟨h1, h2, h3⟩ := h
 simp only at h1 h2 h3
 have w1 : w64 (fP + 1) = fP + 1 := w64_of (by omega) (by omega)
 have w2 : w64 (fP + 1 - 1) = fP := by rw [show fP + 1 - 1 = fP by omega]; exact w64_of (by omega) (by omega)
 have hr : RdOk (n + 1) ⟨fB, fP + 1⟩ := ⟨h1, by simp only; omega, by simp only; omega⟩
 unfold spec_l20Rd_pick
 by_cases ha : a < 1
 ·rw [decide_eq_true ha, cond_true]
  unfold spec_l20Rd_pick_j0
  simp only [cond_true, w1]
  exact ⟨0, _, rfl, hr, Int.le_refl _, fun _ => rfl, fun h => by omega⟩
 rw [decide_eq_false ha, cond_false]
 unfold spec_l20Rd_pick_j0
 simp only [w1, w2]
 by_cases hl : fB.length = 0
 ·have : ((fB.length : Int) == 0) = true := by rw [hl]; rfl
  rw [this, cond_true]
  exact ⟨0, _, rfl, hr, Int.le_refl _, fun _ => rfl, fun h => by omega⟩
 have : ((fB.length : Int) == 0) = false := by
  rw [beq_eq_false_iff_ne]
  omega
 rw [this, cond_false]
 have hpos : (0 : Int) < fB.length := by omega
 by_cases hp : fP < (fB.length : Int)
 ·rw [decide_eq_true hp, cond_true]
  obtain ⟨b, hb, _⟩ := getI_lt (xs := fB) h2 hp
  have hb8 : b.toNat < 256 := b.toNat_lt
  have w3 : w64 (b.toNat : Int) = b.toNat := w64_of (by omega) (by omega)
  obtain ⟨k, hk, k0, k1⟩ := remI_pos (a := (b.toNat : Int)) (b := a) (by omega) (by omega)
  rw [hb, Option.bind_some, w3, hk, Option.bind_some]
  exact ⟨k, _, rfl, hr, k0, fun h => by omega, fun _ => k1⟩
 ·rw [decide_eq_false hp, cond_false]
  have w4 : w64 (fP * 7) = fP * 7 := w64_of (by omega) (by omega)
  have w5 : w64 (fP * 7 + 3) = fP * 7 + 3 := w64_of (by omega) (by omega)
  have w6 : w64 (fP * 29) = fP * 29 := w64_of (by omega) (by omega)
  obtain ⟨k1, e1, l1, u1⟩ := remI_pos (a := fP) (b := (fB.length : Int)) h2 hpos
  obtain ⟨b1, g1, _⟩ := getI_lt (xs := fB) l1 u1
  obtain ⟨k2, e2, l2, u2⟩ := remI_pos (a := fP * 7 + 3) (b := (fB.length : Int)) (by omega) hpos
  obtain ⟨b2, g2, _⟩ := getI_lt (xs := fB) l2 u2
  obtain ⟨k3, e3, l3, u3⟩ := quoI_pos (a := fP) (b := (fB.length : Int)) h2 (by omega) hpos
  have hb1 : b1.toNat < 256 := b1.toNat_lt
  have hb2 : b2.toNat < 256 := b2.toNat_lt
  have w7 : w64 (b1.toNat : Int) = b1.toNat := w64_of (by omega) (by omega)
  have w8 : w64 (b2.toNat : Int) = b2.toNat := w64_of (by omega) (by omega)
  have w9 : w64 ((b1.toNat : Int) * 131) = (b1.toNat : Int) * 131 := w64_of (by omega) (by omega)
  have w10 : w64 ((b2.toNat : Int) * 1117) = (b2.toNat : Int) * 1117 := w64_of (by omega) (by omega)
  have w11 : w64 ((b1.toNat : Int) * 131 + (b2.toNat : Int) * 1117) = (b1.toNat : Int) * 131 + (b2.toNat : Int) * 1117 := w64_of (by omega) (by omega)
  have w12 : w64 ((b1.toNat : Int) * 131 + (b2.toNat : Int) * 1117 + fP * 29) = (b1.toNat : Int) * 131 + (b2.toNat : Int) * 1117 + fP * 29 := w64_of (by omega) (by omega)
  have w13 : w64 (k3 * 53) = k3 * 53 := w64_of (by omega) (by omega)
  have w14 : w64 ((b1.toNat : Int) * 131 + (b2.toNat : Int) * 1117 + fP * 29 + k3 * 53) = (b1.toNat : Int) * 131 + (b2.toNat : Int) * 1117 + fP * 29 + k3 * 53 := w64_of (by omega) (by omega)
  simp only [w4, w5, w6, e1, g1, e2, g2, e3, Option.bind_some, w7, w8, w9, w10, w11, w12, w13, w14]
  generalize hx : (b1.toNat : Int) * 131 + (b2.toNat : Int) * 1117 + fP * 29 + k3 * 53 = x
  have x0 : 0 ≤ x := by omega
  have x1 : x ≤ 100000000 := by omega
  have y0 : 0 ≤ x.tdiv 64 := by rw [Int.tdiv_eq_ediv_of_nonneg x0]; omega
  have y1 : x.tdiv 64 ≤ x := by rw [Int.tdiv_eq_ediv_of_nonneg x0]; omega
  have w15 : w64 (x.tdiv 64) = x.tdiv 64 := w64_of (by omega) (by omega)
  rw [w15]
  obtain ⟨k, hk, k0, kk⟩ := remI_pos (b := a) (xor_w (a := x) (b := x.tdiv 64) x0 y0 (by omega) (by omega)) (by omega)
  rw [hk, Option.bind_some]
  exact ⟨k, _, rfl, hr, k0, fun h => by omega, fun _ => kk⟩
theorem odd_ok {n : Int} {r : T_spec_l20Rd} (h : RdOk n r) (hn : n ≤ 1000000) (a : Int) : ∃ b r', spec_l20Rd_odd r a = some (b, r') ∧ RdOk (n + 1) r' := by
 unfold spec_l20Rd_odd
 by_cases ha : a > 0
 ·obtain ⟨k, r', e, hr, _⟩ := pick_ok h hn a
  rw [decide_eq_true ha, cond_true, e, Option.bind_some]
  exact ⟨_, _, rfl, hr⟩
 ·rw [decide_eq_false ha, cond_false]
  exact ⟨_, _, rfl, h.up (by omega)⟩
theorem open_ok {b : List UInt8} (hb : b.length ≤ 1048576) : ∃ r, spec_l20Open b = some r ∧ RdOk 0 r := by
 unfold spec_l20Open spec_l20Open_j0
 by_cases h : (b.length : Int) > 2000
 ·rw [decide_eq_true h, cond_true]
  have e : slI b none (some 2000) none = some (b.take 2000) := by
   unfold slI
   rw [if_pos (by simp only [Option.getD_none, Option.getD_some]; omega)]
   simp
  rw [e, Option.bind_some]
  exact ⟨_, rfl, by simp only [List.length_take]; omega, Int.le_refl _, Int.le_refl _⟩
 ·rw [decide_eq_false h, cond_false]
  exact ⟨_, rfl, by simp only; omega, Int.le_refl _, Int.le_refl _⟩
end Go.D
set_option linter.unusedVariables false
namespace Go.D
def Wp {α : Type} (m : Option (α × T_spec_l20Rd)) (Q : α → T_spec_l20Rd → Prop) : Prop := ∃ x r, m = some (x, r) ∧ Q x r
theorem wp_some {α : Type} {x : α} {r : T_spec_l20Rd} {Q : α → T_spec_l20Rd → Prop} (h : Q x r) : Wp (some (x, r)) Q := ⟨x, r, rfl, h⟩
theorem wp_pick {α : Type} {r : T_spec_l20Rd} {a n : Int} {f : Int × T_spec_l20Rd → Option (α × T_spec_l20Rd)} {Q : α → T_spec_l20Rd → Prop} (h : RdOk n r) (hn : n ≤ 1000000)
  (hk : ∀ k r', RdOk (n + 1) r' → 0 ≤ k → (a < 1 → k = 0) → (1 ≤ a → k < a) → Wp (f (k, r')) Q) : Wp ((spec_l20Rd_pick r a).bind f) Q := by
 obtain ⟨k, r', e, h1, h2, h3, h4⟩ := pick_ok h hn a
 rw [e, Option.bind_some]
 exact hk k r' h1 h2 h3 h4
theorem wp_odd {α : Type} {r : T_spec_l20Rd} {a n : Int} {f : Bool × T_spec_l20Rd → Option (α × T_spec_l20Rd)} {Q : α → T_spec_l20Rd → Prop} (h : RdOk n r) (hn : n ≤ 1000000)
  (hk : ∀ b r', RdOk (n + 1) r' → Wp (f (b, r')) Q) : Wp ((spec_l20Rd_odd r a).bind f) Q := by
 obtain ⟨k, r', e, h1⟩ := odd_ok h hn a
 rw [e, Option.bind_some]
 exact hk k r' h1
theorem wp_bif {α : Type} {c : Bool} {a b : Option (α × T_spec_l20Rd)} {Q : α → T_spec_l20Rd → Prop} (h1 : c = true → Wp a Q) (h2 : c = false → Wp b Q) : Wp (bif c then a else b) Q := by
 cases c with
 | true => exact h1 rfl
 | false => exact h2 rfl
theorem wp_app {α β : Type} {xs ys : List β} {f : List β → Option (α × T_spec_l20Rd)} {Q : α → T_spec_l20Rd → Prop} (h : xs.length + ys.length < 68719476736) (hk : Wp (f (xs ++ ys)) Q) : Wp ((app xs ys).bind f) Q := by
 rw [app_lt h, Option.bind_some]
 exact hk
theorem wp_addS {α : Type} {a b : ByteArray} {f : ByteArray → Option (α × T_spec_l20Rd)} {Q : α → T_spec_l20Rd → Prop} (h : a.size + b.size ≤ 1000000) (hk : ∀ s, s.size = a.size + b.size → Wp (f s) Q) : Wp ((addS a b).bind f) Q := by
 have e : addS a b = some (a ++ b) := if_pos (by omega)
 rw [e, Option.bind_some]
 exact hk _ ByteArray.size_append
theorem wp_getI {α β : Type} {xs : List β} {i : Int} {f : β → Option (α × T_spec_l20Rd)} {Q : α → T_spec_l20Rd → Prop} (h0 : 0 ≤ i) (h1 : i < xs.length) (hk : ∀ x ∈ xs, Wp (f x) Q) : Wp ((getI xs i).bind f) Q := by
 obtain ⟨x, h, hx⟩ := getI_lt h0 h1
 rw [h, Option.bind_some]
 exact hk x (List.mem_of_getElem? hx)
theorem wp_then {α β : Type} {m : Option (β × T_spec_l20Rd)} {f : β × T_spec_l20Rd → Option (α × T_spec_l20Rd)} {P : β → T_spec_l20Rd → Prop} {Q : α → T_spec_l20Rd → Prop} (h : Wp m P) (hk : ∀ x r, P x r → Wp (f (x, r)) Q) : Wp (m.bind f) Q := by
 obtain ⟨x, r, e, hp⟩ := h
 rw [e, Option.bind_some]
 exact hk x r hp
theorem wp_mono {α : Type} {m : Option (α × T_spec_l20Rd)} {P Q : α → T_spec_l20Rd → Prop} (h : Wp m P) (hk : ∀ x r, P x r → Q x r) : Wp m Q := by
 obtain ⟨x, r, e, hp⟩ := h
 exact ⟨x, r, e, hk x r hp⟩
theorem loop_down {σ β : Type} {L : Nat → Int → σ → Option (β × T_spec_l20Rd)} {Q : β → T_spec_l20Rd → Prop} (Inv : Nat → σ → Prop)
  (h : ∀ (f k : Nat) (s : σ), k ≤ 1000000 → w64 (((k + 1 : Nat) : Int) - 1) = (k : Int) → Inv (k + 1) s → (∀ s', Inv k s' → Wp (L f (k : Int) s') Q) → Wp (L (f + 1) ((k + 1 : Nat) : Int) s) Q)
  (he : ∀ (f : Nat) (s : σ), Inv 0 s → Wp (L (f + 1) 0 s) Q) (k : Nat) (s : σ) (hI : Inv k s) (hk : k ≤ 1000000) : Wp (L FUEL (k : Int) s) Q := by
 have main : ∀ (k f : Nat) (s : σ), k < f → k ≤ 1000000 → Inv k s → Wp (L f (k : Int) s) Q := by
  intro k
  induction k with
  | zero =>
   intro f s hf _ hI
   obtain ⟨f, rfl⟩ : ∃ f', f = f' + 1 := ⟨f - 1, by omega⟩
   exact he f s hI
  | succ k ih =>
   intro f s hf hk hI
   obtain ⟨f, rfl⟩ : ∃ f', f = f' + 1 := ⟨f - 1, by omega⟩
   exact h f k s (by omega) (by rw [w64_of] <;> omega) hI fun s' hI' => ih f s' (by omega) (by omega) hI'
 exact main k FUEL s (by unfold FUEL; omega) hk hI
theorem columns_ok {n : Int} {r : T_spec_l20Rd} (h : RdOk n r) (hn : n ≤ 900000) (a : Int) : Wp (spec_l20Columns r a) fun cs r' => RdOk (n + 9) r' ∧ 1 ≤ cs.length ∧ cs.length ≤ 6 := by
 unfold spec_l20Columns
 refine wp_pick h (by omega) fun v r1 h1 v0 _ v1 => ?_
 have v1 := v1 (by omega)
 have e : w64 (1 + v) = ((v.toNat + 1 : Nat) : Int) := by rw [w64_of (by omega) (by omega)]; omega
 simp only
 rw [e]
 have := loop_down (L := fun f i (s : T_spec_l20Rd × List T_impl_Column) => spec_l20Columns_l0 a f i s.1 s.2) (Q := fun cs r' => RdOk (n + 9) r' ∧ 1 ≤ cs.length ∧ cs.length ≤ 6)
  (fun k s => RdOk (n + 1 + 2 * (3 - k)) s.1 ∧ s.2.length + k = v.toNat + 1)
  (fun f k s hk hw hI hrec => by
   obtain ⟨r, xs⟩ := s
   obtain ⟨hI1, hI2⟩ := hI
   simp only at hI1 hI2 ⊢
   rw [spec_l20Columns_l0, decide_eq_true (by omega), cond_true]
   refine wp_pick hI1 (by omega) fun k1 r1 h1 p0 _ p1 => ?_
   refine wp_getI p0 (by have := p1 (by omega); simp; omega) fun c hc => ?_
   refine wp_pick h1 (by omega) fun k2 r2 h2 q0 _ q1 => ?_
   refine wp_app (by simp; omega) ?_
   simp only [hw]
   exact hrec (r2, _) ⟨h2.up (by (try simp only); omega), by simp; omega⟩)
  (fun f s hI => by
   obtain ⟨r, xs⟩ := s
   obtain ⟨hI1, hI2⟩ := hI
   simp only at hI1 hI2 ⊢
   rw [spec_l20Columns_l0, decide_eq_false (by omega), cond_false]
   refine wp_odd hI1 (by omega) fun b r1 h1 => wp_bif (fun _ => ?_) fun _ => ?_
   ·refine wp_pick h1 (by omega) fun k1 r2 h2 _ _ _ => wp_app (by simp; omega) (wp_some ⟨h2.up (by omega), ?_, ?_⟩)
    ·simp
    ·simp; omega
   ·exact wp_some ⟨h1.up (by omega), by omega, by omega⟩)
  (v.toNat + 1) (r1, []) ⟨h1.up (by (try simp only); omega), by simp⟩ (by omega)
 exact this
theorem like_ok {n : Int} {r : T_spec_l20Rd} (h : RdOk n r) (hn : n ≤ 900000) (c : T_impl_Column) : Wp (spec_l20Like r c) fun v r' => RdOk (n + 2) r' ∧ v.fS.size ≤ 2 := by
 have e0 : (ByteArray.mk #[]).size = 0 := rfl
 have key : ∀ (m : Int) (r : T_spec_l20Rd) (b : Bool), RdOk m r → m ≤ n + 1 → Wp (spec_l20Like_j0 c b r) fun v r' => RdOk (n + 2) r' ∧ v.fS.size ≤ 2 := by
  intro m r b h hm
  unfold spec_l20Like_j0
  refine wp_bif (fun _ => wp_some ⟨h.up (by omega), by simp [e0]⟩) fun _ => wp_bif (fun _ => ?_) fun _ => wp_bif (fun _ => ?_) fun _ => ?_
  ·exact wp_pick h (by omega) fun k r1 h1 _ _ _ => wp_some ⟨h1.up (by omega), by simp [e0]⟩
  ·refine wp_pick h (by omega) fun k r1 h1 p0 _ p1 => wp_getI p0 (by have := p1 (by omega); simp; omega) fun s hs => wp_some ⟨h1.up (by omega), ?_⟩
   simp only [List.mem_cons, List.not_mem_nil, or_false] at hs
   rcases hs with rfl | rfl | rfl | rfl <;> decide
  ·exact wp_pick h (by omega) fun k r1 h1 _ _ _ => wp_some ⟨h1.up (by omega), by simp [e0]⟩
 unfold spec_l20Like
 refine wp_bif (fun _ => wp_pick h (by omega) fun k r1 h1 _ _ _ => key _ _ _ h1 (by omega)) fun _ => key _ _ _ h (by omega)
theorem value_j0 {n : Int} {r : T_spec_l20Rd} (h : RdOk n r) (hn : n ≤ 900000) (a : Int) {v : T_impl_Value} (hv : v.fS.size ≤ 3) : Wp (spec_l20Value_j0 a r v) fun v r' => RdOk (n + 3) r' ∧ v.fS.size ≤ 10 := by
 unfold spec_l20Value_j0
 have e1 : (ByteArray.mk #[97, 98, 99, 100, 101, 102, 103]).size = 7 := rfl
 have e2 : (ByteArray.mk #[65]).size = 1 := rfl
 refine wp_odd h (by omega) fun b r1 h1 => wp_bif (fun _ => ?_) fun _ => wp_some ⟨h1.up (by omega), by omega⟩
 refine wp_pick h1 (by omega) fun k r2 h2 _ _ _ => wp_bif (fun _ => wp_some ⟨h2.up (by omega), by simp only; omega⟩) fun _ => wp_bif (fun _ => ?_) fun _ => wp_bif (fun _ => ?_) fun _ => ?_
 ·exact wp_addS (by omega) fun s hs => wp_some ⟨h2.up (by omega), by simp only; omega⟩
 ·exact wp_pick h2 (by omega) fun k r3 h3 _ _ _ => wp_some ⟨h3.up (by omega), by simp only; omega⟩
 ·exact wp_addS (by omega) fun s hs => wp_some ⟨h2.up (by omega), by simp only; omega⟩
theorem value_ok {n : Int} {r : T_spec_l20Rd} (h : RdOk n r) (hn : n ≤ 800000) (a : Int) : Wp (spec_l20Value r a) fun v r' => RdOk (n + 9) r' ∧ v.fS.size ≤ 10 := by
 have e0 : (ByteArray.mk #[]).size = 0 := rfl
 have fin : ∀ (m : Int) (r : T_spec_l20Rd) (v : T_impl_Value), RdOk m r → m ≤ n + 6 → v.fS.size ≤ 3 → Wp (spec_l20Value_j0 a r v) fun v r' => RdOk (n + 9) r' ∧ v.fS.size ≤ 10 :=
  fun m r v h hm hv => wp_mono (value_j0 h (by omega) a hv) fun v r' hq => ⟨hq.1.up (by omega), hq.2⟩
 have j2 : ∀ (x : Int × T_spec_l20Rd) (b : Bool), RdOk (n + 1) x.2 → Wp (spec_l20Value_j2 a x b) fun v r' => RdOk (n + 9) r' ∧ v.fS.size ≤ 10 := by
  intro x b hx
  have j3 : ∀ b, Wp (spec_l20Value_j3 a x b) fun v r' => RdOk (n + 9) r' ∧ v.fS.size ≤ 10 := by
   intro b
   unfold spec_l20Value_j3
   refine wp_bif (fun _ => ?_) fun _ => wp_pick hx (by omega) fun k r1 h1 _ _ _ => fin _ _ _ h1 (by omega) (by simp [e0])
   refine wp_pick hx (by omega) fun k r1 h1 p0 _ p1 => ?_
   have p1 := p1 (by omega)
   have e : k = ((k.toNat : Nat) : Int) := by omega
   simp only
   rw [e]
   have := loop_down (L := fun f i (s : T_spec_l20Rd × T_impl_Value) => spec_l20Value_l4 a f i s.1 s.2) (Q := fun v r' => RdOk (n + 9) r' ∧ v.fS.size ≤ 10)
    (fun k s => k ≤ 3 ∧ RdOk (n + 2 + (3 - k)) s.1 ∧ s.2.fS.size + k ≤ 3)
    (fun f k s hk hw hI hrec => by
     obtain ⟨r, v⟩ := s
     obtain ⟨hI0, hI1, hI2⟩ := hI
     simp only at hI1 hI2 ⊢
     have es : ∀ b : UInt8, (ByteArray.mk (List.toArray ([b] : List UInt8))).size = 1 := fun _ => rfl
     rw [spec_l20Value_l4, decide_eq_true (by omega), cond_true]
     refine wp_pick hI1 (by omega) fun k1 r1 h1 _ _ _ => wp_addS (by rw [es]; omega) fun s hs => ?_
     rw [es] at hs
     simp only [hw]
     exact hrec (r1, _) ⟨by omega, h1.up (by omega), by simp only; omega⟩)
    (fun f s hI => by
     obtain ⟨r, v⟩ := s
     obtain ⟨hI0, hI1, hI2⟩ := hI
     simp only at hI1 hI2 ⊢
     rw [spec_l20Value_l4, decide_eq_false (by omega), cond_false]
     exact fin _ _ _ hI1 (by omega) (by omega))
    k.toNat (r1, T_impl_Value.mk 2 0 (ByteArray.mk #[])) ⟨by omega, h1.up (by omega), by simp only [e0]; omega⟩ (by omega)
   exact this
  unfold spec_l20Value_j2
  refine wp_bif (fun _ => ?_) fun _ => wp_bif (fun _ => j3 _) fun _ => j3 _
  refine wp_pick hx (by omega) fun k r1 h1 _ _ _ => wp_pick h1 (by omega) fun k2 r2 h2 _ _ _ => wp_bif (fun _ => ?_) fun _ => fin _ _ _ h2 (by omega) (by simp [e0])
  exact wp_pick h2 (by omega) fun k3 r3 h3 p0 _ p1 => wp_getI p0 (by have := p1 (by omega); simp; omega) fun x hx => fin _ _ _ h3 (by omega) (by simp [e0])
 unfold spec_l20Value
 refine wp_pick h (by omega) fun k r1 h1 _ _ _ => wp_bif (fun _ => fin _ _ _ h1 (by omega) (by simp [e0])) fun _ => wp_bif (fun _ => j2 _ _ h1) fun _ => wp_bif (fun _ => j2 _ _ h1) fun _ => j2 _ _ h1
end Go.D
set_option linter.unusedVariables false
namespace Go.D
end Go.D
set_option linter.unusedVariables false
namespace Go.D
theorem loop_up {γ σ β : Type} {xs : List γ} {L : Nat → Int → σ → Option (β × T_spec_l20Rd)} {Q : β → T_spec_l20Rd → Prop} (Inv : Nat → σ → Prop) (hlen : xs.length ≤ 1000000)
  (h : ∀ (f i : Nat) (s : σ) (v : γ), i < xs.length → xs[i]? = some v → w64 ((i : Int) + 1) = ((i + 1 : Nat) : Int) → Inv i s → (∀ s', Inv (i + 1) s' → Wp (L f ((i + 1 : Nat) : Int) s') Q) → Wp (L (f + 1) (i : Int) s) Q)
  (he : ∀ (f : Nat) (s : σ), Inv xs.length s → Wp (L (f + 1) (xs.length : Int) s) Q) (s : σ) (h0 : Inv 0 s) : Wp (L FUEL 0 s) Q := by
 have main : ∀ (k f i : Nat) (s : σ), i + k = xs.length → k < f → Inv i s → Wp (L f (i : Int) s) Q := by
  intro k
  induction k with
  | zero =>
   intro f i s hi hf hI
   obtain ⟨f, rfl⟩ : ∃ f', f = f' + 1 := ⟨f - 1, by omega⟩
   have : i = xs.length := by omega
   subst this
   exact he f s hI
  | succ k ih =>
   intro f i s hi hf hI
   obtain ⟨f, rfl⟩ : ∃ f', f = f' + 1 := ⟨f - 1, by omega⟩
   have hlt : i < xs.length := by omega
   exact h f i s xs[i] hlt (List.getElem?_eq_getElem hlt) (succ_w hlt (by omega)) hI fun s' hI' => ih f (i + 1) s' (by omega) (by omega) hI'
 exact main xs.length FUEL 0 s (by omega) (by unfold FUEL; omega) h0
def Sr (m : Nat) (row : List T_impl_Value) : Prop := row.length ≤ m ∧ ∀ v ∈ row, v.fS.size ≤ 10
theorem Sr.sm {m : Nat} {row : List T_impl_Value} (h : Sr m row) (hm : m ≤ 1000) : SmR row := ⟨by have := h.1; omega, fun v hv => by have := h.2 v hv; unfold SmV; omega⟩
theorem Sr.app {m k : Nat} {row r2 : List T_impl_Value} (h : Sr m row) (h2 : Sr k r2) : Sr (m + k) (row ++ r2) := ⟨by have := h.1; have := h2.1; rw [List.length_append]; omega, fun v hv => (List.mem_append.1 hv).elim (h.2 v) (h2.2 v)⟩
theorem Sr.one {v : T_impl_Value} (h : v.fS.size ≤ 10) : Sr 1 [v] := ⟨by simp, fun u hu => by simp at hu; subst hu; exact h⟩
theorem fit_ok {n : Int} {r : T_spec_l20Rd} (h : RdOk n r) (hn : n ≤ 700000) {cs : List T_impl_Column} (hc : cs.length ≤ 6) (a : Int) : Wp (spec_l20Fit r cs a) fun row r' => RdOk (n + 41) r' ∧ Sr 9 row := by
 unfold spec_l20Fit
 have e0 : (ByteArray.mk #[]).size = 0 := rfl
 exact loop_up (xs := cs) (L := fun f i (s : T_spec_l20Rd × List T_impl_Value) => spec_l20Fit_l0 cs a f i s.1 s.2) (Q := fun row r' => RdOk (n + 41) r' ∧ Sr 9 row)
  (fun i s => RdOk (n + 2 * i) s.1 ∧ Sr i s.2 ∧ s.2.length = i) (by omega)
  (fun f i s c hi hv hw hI hrec => by
   obtain ⟨r, row⟩ := s
   obtain ⟨h1, h2, h3⟩ := hI
   simp only at h1 h2 h3 ⊢
   rw [spec_l20Fit_l0, decide_eq_true (by omega), cond_true, getI_nat, hv, Option.bind_some]
   refine wp_then (like_ok h1 (by omega) c) fun v r1 hq => wp_app (by simp; omega) ?_
   simp only [hw]
   exact hrec (r1, _) ⟨hq.1.up (by omega), h2.app (.one (Nat.le_trans hq.2 (by omega))), by simp; omega⟩)
  (fun f s hI => by
   obtain ⟨r, row⟩ := s
   obtain ⟨h1, h2, h3⟩ := hI
   simp only at h1 h2 h3 ⊢
   have h9 : Sr 9 row := ⟨by omega, h2.2⟩
   rw [spec_l20Fit_l0, decide_eq_false (Int.lt_irrefl _), cond_false]
   refine wp_odd h1 (by omega) fun b r1 g1 => wp_bif (fun _ => ?_) fun _ => wp_some ⟨g1.up (by omega), h9⟩
   refine wp_pick g1 (by omega) fun k r2 g2 _ _ _ => wp_bif (fun _ => ?_) fun _ => wp_bif (fun _ => wp_bif (fun hp => ?_) fun _ => ?_) fun _ => ?_
   ·exact wp_app (by simp; omega) (wp_some ⟨g2.up (by omega), by have := (h2.app (.one (v := T_impl_Value.mk 0 0 (ByteArray.mk #[])) (by simp [e0]))).1; simp at this ⊢; exact ⟨by simp; omega, (h2.app (.one (v := T_impl_Value.mk 0 0 (ByteArray.mk #[])) (by simp [e0]))).2⟩⟩)
   ·have hp := of_decide_eq_true hp
    refine wp_pick g2 (by omega) fun k2 r3 g3 p0 _ p1 => wp_then (value_ok g3 (by omega) 3) fun v r4 hq => wp_getI p0 (p1 (by omega)) fun o ho => wp_some ⟨hq.1.up (by omega), ?_, ?_⟩
    ·rw [List.length_set]; omega
    ·intro u hu
     rcases List.mem_or_eq_of_mem_set hu with hu | rfl
     ·exact h2.2 u hu
     ·exact hq.2
   ·exact wp_some ⟨g2.up (by omega), h9⟩
   ·refine wp_then (value_ok g2 (by omega) 0) fun v1 r3 q1 => wp_then (value_ok q1.1 (by omega) 0) fun v2 r4 q2 => wp_then (value_ok q2.1 (by omega) 0) fun v3 r5 q3 => wp_app (by simp; omega) (wp_some ⟨q3.1.up (by omega), ?_⟩)
    have hs : Sr 3 [v1, v2, v3] := ⟨by simp, fun u hu => by
     simp only [List.mem_cons, List.not_mem_nil, or_false] at hu
     rcases hu with rfl | rfl | rfl
     ·exact q1.2
     ·exact q2.2
     ·exact q3.2⟩
    have := h2.app hs
    exact ⟨by have := this.1; simp at this ⊢; omega, this.2⟩) (r, []) ⟨h.up (by simp), ⟨by simp, fun v hv => by cases hv⟩, rfl⟩
end Go.D
set_option linter.unusedVariables false
namespace Go.D
def Wrs (m : Nat) (ws : List T_impl_Write) : Prop := ws.length ≤ m ∧ ∀ w ∈ ws, Sr 9 w.fRow
def Vrs (m : Nat) (xs : List T_impl_Version) : Prop := xs.length ≤ m ∧ ∀ v ∈ xs, Sr 9 v.fRow
theorem Wrs.sm {m : Nat} {ws : List T_impl_Write} (h : Wrs m ws) (hm : m ≤ 1000) : SmWrs ws := ⟨by have := h.1; omega, fun w hw => (h.2 w hw).sm (by omega)⟩
theorem Vrs.sm {m : Nat} {xs : List T_impl_Version} (h : Vrs m xs) (hm : m ≤ 1000) : SmVers xs := ⟨by have := h.1; omega, fun w hw => (h.2 w hw).sm (by omega)⟩
theorem Wrs.snoc {m : Nat} {ws : List T_impl_Write} (h : Wrs m ws) {w : T_impl_Write} (hw : Sr 9 w.fRow) : Wrs (m + 1) (ws ++ [w]) := ⟨by have := h.1; simp; omega, fun u hu => (List.mem_append.1 hu).elim (h.2 u) fun hu => by simp at hu; subst hu; exact hw⟩
theorem Vrs.snoc {m : Nat} {ws : List T_impl_Version} (h : Vrs m ws) {w : T_impl_Version} (hw : Sr 9 w.fRow) : Vrs (m + 1) (ws ++ [w]) := ⟨by have := h.1; simp; omega, fun u hu => (List.mem_append.1 hu).elim (h.2 u) fun hu => by simp at hu; subst hu; exact hw⟩
theorem Vrs.set {m : Nat} {ws : List T_impl_Version} (h : Vrs m ws) (i : Nat) {w : T_impl_Version} (hw : Sr 9 w.fRow) : Vrs m (ws.set i w) := ⟨by have := h.1; simp; omega, fun u hu => by
 rcases List.mem_or_eq_of_mem_set hu with hu | rfl
 ·exact h.2 u hu
 ·exact hw⟩
theorem Sr.nil9 : Sr 9 [] := ⟨by simp, fun v hv => by cases hv⟩
theorem Sr.up {m k : Nat} {r : List T_impl_Value} (h : Sr m r) (hk : m ≤ k) : Sr k r := ⟨Nat.le_trans h.1 hk, h.2⟩
theorem small_ok {n : Int} {r : T_spec_l20Rd} (h : RdOk n r) (hn : n ≤ 900000) : Wp (spec_l20Small r) fun row r' => RdOk (n + 1) r' ∧ Sr 9 row := by
 have e0 : (ByteArray.mk #[]).size = 0 := rfl
 unfold spec_l20Small
 exact wp_pick h (by omega) fun k r1 h1 _ _ _ => wp_some ⟨h1, (Sr.one (by simp [e0])).up (by omega)⟩
theorem any_ok {n : Int} {r : T_spec_l20Rd} (h : RdOk n r) (hn : n ≤ 600000) (a : Int) : Wp (spec_l20Any r a) fun row r' => RdOk (n + 50) r' ∧ Sr 9 row := by
 unfold spec_l20Any
 refine wp_then (columns_ok h (by omega) 0) fun cs r1 h1 => wp_then (fit_ok h1.1 (by omega) h1.2.2 a) fun row r2 h2 => wp_some ⟨h2.1.up (by omega), h2.2⟩
theorem writes_ok {n : Int} {r : T_spec_l20Rd} (h : RdOk n r) (hn : n ≤ 500000) (a : Int) : Wp (spec_l20Writes r a) fun ws r' => RdOk (n + 70) r' ∧ Wrs 6 ws := by
 unfold spec_l20Writes
 have := loop_up (xs := List.range 5) (L := fun f i (s : T_spec_l20Rd × List T_impl_Write) => spec_l20Writes_l0 a f i s.1 s.2) (Q := fun ws r' => RdOk (n + 70) r' ∧ Wrs 6 ws)
  (fun i s => RdOk (n + 3 * i) s.1 ∧ Wrs i s.2 ∧ i ≤ 5) (by simp)
  (fun f i s v hi hv hw hI hrec => by
   obtain ⟨r, ws⟩ := s
   obtain ⟨h1, h2, h3⟩ := hI
   have hi : i < 5 := by simpa using hi
   simp only at h1 h2 ⊢
   rw [spec_l20Writes_l0, decide_eq_true (by omega), cond_true]
   have j2 : ∀ (r2 : T_spec_l20Rd) (w : T_impl_Write), RdOk (n + 3 * i + 3) r2 → Sr 9 w.fRow → Wp (spec_l20Writes_j2 (i : Int) ws (spec_l20Writes_l0 a f) r2 w) fun ws r' => RdOk (n + 70) r' ∧ Wrs 6 ws := by
    intro r2 w g1 g2
    unfold spec_l20Writes_j2 spec_l20Writes_j1
    refine wp_app (by have := h2.1; simp; omega) ?_
    rw [hw]
    exact hrec (r2, _) ⟨g1.up (by simp; omega), h2.snoc g2, by omega⟩
   refine wp_pick h1 (by omega) fun k1 r1 g1 _ _ _ => wp_bif (fun _ => ?_) fun _ => ?_
   ·refine wp_pick g1 (by omega) fun k2 r2 g2 _ _ _ => wp_bif (fun _ => j2 _ _ (g2.up (by omega)) Sr.nil9) fun _ => ?_
    exact wp_then (small_ok g2 (by omega)) fun row r3 g3 => j2 _ _ (g3.1.up (by omega)) g3.2
   ·unfold spec_l20Writes_j1
    simp only
    rw [hw]
    exact hrec (r1, _) ⟨g1.up (by simp; omega), ⟨by have := h2.1; simp only; omega, h2.2⟩, by omega⟩)
  (fun f s hI => by
   obtain ⟨r, ws⟩ := s
   obtain ⟨h1, h2, h3⟩ := hI
   simp only [List.length_range] at h1 h2 ⊢
   rw [spec_l20Writes_l0, decide_eq_false (by omega), cond_false]
   have hl := h2.1
   refine wp_odd h1 (by omega) fun b r1 g1 => wp_bif (fun _ => ?_) fun _ => wp_some ⟨g1.up (by omega), by omega, h2.2⟩
   refine wp_pick g1 (by omega) fun k2 r2 g2 _ _ _ => wp_bif (fun _ => ?_) fun _ => wp_bif (fun _ => ?_) fun _ => ?_
   ·exact wp_pick g2 (by omega) fun k3 r3 g3 _ _ _ => wp_app (by simp; omega) (wp_some ⟨g3.up (by omega), h2.snoc Sr.nil9⟩)
   ·exact wp_then (small_ok g2 (by omega)) fun row r3 g3 => wp_app (by simp; omega) (wp_some ⟨g3.1.up (by omega), h2.snoc g3.2⟩)
   ·exact wp_then (any_ok g2 (by omega) 1) fun row r3 g3 => wp_app (by simp; omega) (wp_some ⟨g3.1.up (by omega), h2.snoc g3.2⟩))
  (r, []) ⟨h.up (by simp), ⟨by simp, fun w hw => by cases hw⟩, by omega⟩
 exact this
end Go.D
set_option linter.unusedVariables false
namespace Go.D
theorem wrAt_small {xs : List T_impl_Version} {ws : List T_impl_Write} {m k : Nat} (h : Vrs m xs) (hw : Wrs k ws) (t : Int) : Vrs (m + k) (wrAt xs ws t).1 := by
 unfold wrAt
 obtain ⟨h1, h2⟩ := written_small (Q := Sr 9) t ws xs hw.2 h.2
 have := h.1
 have := hw.1
 cases vOk xs && (wOk ws && (inR t 1 40 && ((List.range 5).all (fun k => decide (lastT xs (k : Int) < t)) && decide ((writtenV xs ws t).length ≤ 60)))) with
 | false => exact ⟨by simp, fun v hv => by cases hv⟩
 | true => exact ⟨by rw [cond_true]; simp only; omega, h2⟩
theorem versions_ok {n : Int} {r : T_spec_l20Rd} (h : RdOk n r) (hn : n ≤ 400000) (a : Int) : Wp (spec_l20Versions r a) fun p r' => RdOk (n + 450) r' ∧ Vrs 40 p.1 ∧ 0 ≤ p.2 ∧ p.2 ≤ 20 := by
 unfold spec_l20Versions
 refine wp_pick h (by omega) fun k0 r0 h0 k0l _ k0u => ?_
 have k0u := k0u (by omega)
 have e : k0 = ((k0.toNat : Nat) : Int) := by omega
 simp only
 rw [e]
 have := loop_down (L := fun f i (s : Int × T_spec_l20Rd × List T_impl_Version) => spec_l20Versions_l0 a f s.1 i s.2.1 s.2.2) (Q := fun p r' => RdOk (n + 450) r' ∧ Vrs 40 p.1 ∧ 0 ≤ p.2 ∧ p.2 ≤ 20)
  (fun k s => k ≤ 6 ∧ RdOk (n + 1 + 71 * (6 - k)) s.2.1 ∧ Vrs (6 * (6 - k)) s.2.2 ∧ 1 ≤ s.1 ∧ s.1 ≤ 1 + 2 * (6 - k))
  (fun f k s hk hw hI hrec => by
   obtain ⟨t, r, xs⟩ := s
   obtain ⟨h1, h2, h3, h4, h5⟩ := hI
   simp only at h2 h3 h4 h5 ⊢
   rw [spec_l20Versions_l0, decide_eq_true (by omega), cond_true]
   refine wp_then (writes_ok h2 (by omega) 0) fun ws r1 g1 => ?_
   have hxl := h3.1
   have hwl := g1.2.1
   simp only
   rw [spec_wrAt (h3.sm (by omega)) (g1.2.sm (by omega)) (by omega), Option.bind_some]
   have j1 : ∀ ys, Vrs (6 * (6 - k)) ys → Wp (spec_l20Versions_j1 t ((k + 1 : Nat) : Int) (spec_l20Versions_l0 a f) r1 ys) fun p r' => RdOk (n + 450) r' ∧ Vrs 40 p.1 ∧ 0 ≤ p.2 ∧ p.2 ≤ 20 := by
    intro ys hy
    unfold spec_l20Versions_j1
    refine wp_pick g1.1 (by omega) fun k2 r2 g2 k2l _ k2u => ?_
    have k2u := k2u (by omega)
    have ew : w64 (w64 (t + 1) + k2) = t + 1 + k2 := by
     rw [show w64 (t + 1) = t + 1 from w64_of (by omega) (by omega)]
     exact w64_of (by omega) (by omega)
    simp only
    rw [hw, ew]
    exact hrec (_, r2, ys) ⟨by omega, g2.up (by (try simp only); omega), hy, by (try simp only); omega, by (try simp only); omega⟩
   have hup : Vrs (6 * (6 - k)) xs := ⟨by have := h3.1; omega, h3.2⟩
   have hwr : Vrs (6 * (6 - k)) (wrAt xs ws t).1 := by
    have := wrAt_small h3 g1.2 t
    exact ⟨by have := this.1; omega, this.2⟩
   exact wp_bif (fun _ => j1 _ hwr) fun _ => j1 _ hup)
  (fun f s hI => by
   obtain ⟨t, r, xs⟩ := s
   obtain ⟨h1, h2, h3, h4, h5⟩ := hI
   simp only at h2 h3 h4 h5 ⊢
   rw [spec_l20Versions_l0, decide_eq_false (by omega), cond_false]
   have hxl := h3.1
   have h3' : Vrs 39 xs := ⟨by omega, h3.2⟩
   have j2 : ∀ (r2 : T_spec_l20Rd) ys, RdOk (n + 450) r2 → Vrs 40 ys → Wp (spec_l20Versions_j2 t r2 ys) fun p r' => RdOk (n + 450) r' ∧ Vrs 40 p.1 ∧ 0 ≤ p.2 ∧ p.2 ≤ 20 :=
    fun r2 ys g1 g2 => wp_some ⟨g1, g2, by (try simp only); omega, by (try simp only); omega⟩
   have up40 : ∀ ys, Vrs 39 ys → Vrs 40 ys := fun ys hy => ⟨by have := hy.1; omega, hy.2⟩
   have j3f : ∀ r2, RdOk (n + 450) r2 → Wp (spec_l20Versions_j3 t xs false r2) fun p r' => RdOk (n + 450) r' ∧ Vrs 40 p.1 ∧ 0 ≤ p.2 ∧ p.2 ≤ 20 :=
    fun r2 g1 => j2 _ _ g1 (up40 _ h3')
   refine wp_bif (fun hpos => ?_) fun _ => j3f _ (h2.up (by omega))
   have hpos : (0 : Int) < xs.length := of_decide_eq_true hpos
   refine wp_odd h2 (by omega) fun b r1 g1 => ?_
   cases b with
   | false => exact j3f _ (g1.up (by omega))
   | true =>
    unfold spec_l20Versions_j3
    refine wp_bif (fun _ => ?_) fun hc => absurd hc (by simp)
    refine wp_pick g1 (by omega) fun k1 r2 g2 p0 _ p1 => wp_pick g2 (by omega) fun k2 r3 g3 _ _ _ => ?_
    have p1 := p1 (by omega)
    refine wp_bif (fun _ => ?_) fun _ => wp_bif (fun _ => ?_) fun _ => wp_bif (fun _ => ?_) fun _ => ?_
    ·exact wp_pick g3 (by omega) fun k3 r4 g4 _ _ _ => wp_getI p0 p1 fun v hv => j2 _ _ (g4.up (by omega)) (up40 _ (h3'.set _ (h3.2 v hv)))
    ·exact wp_pick g3 (by omega) fun k3 r4 g4 _ _ _ => wp_getI p0 p1 fun v hv => j2 _ _ (g4.up (by omega)) (up40 _ (h3'.set _ (h3.2 v hv)))
    ·exact wp_pick g3 (by omega) fun k3 r4 g4 _ _ _ => wp_getI p0 p1 fun v hv => j2 _ _ (g4.up (by omega)) (up40 _ (h3'.set _ (h3.2 v hv)))
    ·exact wp_getI p0 p1 fun v hv => wp_app (by simp; omega) (j2 _ _ (g3.up (by omega)) (h3'.snoc (h3.2 v hv))))
  k0.toNat (1, r0, []) ⟨by omega, h0.up (by omega), ⟨by simp, fun v hv => by cases hv⟩, by (try simp only); omega, by (try simp only); omega⟩ (by omega)
 exact this
end Go.D
set_option linter.unusedVariables false
namespace Go.D
open Go.Proofs
theorem rd_5 : Rd Try.prog 5 UInt8 u8W := rd_u8 Try.underlying5 (by kernel_rfl)
theorem rd_22 : Rd Try.prog 22 (List UInt8) (listW u8W) := rd_slice Try.underlying22 (by kernel_rfl) rd_5
end Go.D
set_option linter.unusedVariables false
namespace Go.D
theorem spec_seenC {xs : List T_impl_Version} (h : SmVers xs) (k t : Int) : spec_SeenAt xs k t = some (bif vOk xs then rowS (seenV xs k t) else ([], false)) := by
 have hl := h.1
 unfold spec_SeenAt
 cases hv : vOk xs with
 | false =>
  rw [cond_false, spec_SeenAt_l0.eq_def]
  show (bif _ then _ else _) = _
  rw [spec_vOk h, Option.bind_some, hv]
  cases decide ((0 : Int) < xs.length) <;> rfl
 | true =>
  rw [cond_true]
  have := loop_opt (xs := xs) (L := fun f i (_ : Unit) => spec_SeenAt_l0 xs k t f i) (fun rest _ => some (rowS (rest.find? (atV k t)))) (fun _ _ => True) (by omega)
   (fun f i s v hi hvi hw _ => by
    have hr := h.2 v (List.mem_of_getElem? hvi)
    have hs : spec_l13Seen v t = some (decide (v.fBorn ≤ t) && (v.fDied == 0 || decide (v.fDied > t))) := by
     unfold spec_l13Seen
     cases decide (v.fBorn ≤ t) <;> cases v.fDied == 0 <;> rfl
    have hc : spec_SeenAt_l0 xs k t (f + 1) i = bif atV k t v then some (v.fRow, true) else spec_SeenAt_l0 xs k t f ((i + 1 : Nat) : Int) := by
     rw [spec_SeenAt_l0, decide_eq_true (by omega), cond_true, spec_vOk h, Option.bind_some, hv, spec_SeenAt_j1, cond_true, getI_nat, hvi, Option.bind_some, Option.bind_some, hs]
     unfold atV
     simp only [spec_SeenAt_j2, Option.bind_some, hw, getI_nat, hvi, spec_ownR hr.1]
     cases v.fKey == k <;> cases decide (v.fBorn ≤ t) <;> cases v.fDied == 0 <;> cases decide (v.fDied > t) <;> rfl
    cases ha : atV k t v with
    | true => exact .inl (by rw [hc, ha, cond_true, List.find?_cons, ha]; rfl)
    | false => exact .inr ⟨(), trivial, by rw [hc, ha, cond_false], by rw [List.find?_cons, ha]⟩)
   (fun f s _ => by rw [spec_SeenAt_l0, decide_eq_false (Int.lt_irrefl _), cond_false, spec_SeenAt_j1, cond_false]; rfl) (s := ()) trivial
  exact this
theorem impl_rowsAtL {xs : List T_impl_Version} (h : SmVers xs) (t : Int) : impl_RowsAt xs t = some (bif vOk xs then rowsV xs t else []) := by
 unfold impl_RowsAt
 rw [impl_vOk h, Option.bind_some]
 cases vOk xs with
 | false => rfl
 | true =>
  rw [Bool.not_true, cond_false, cond_true]
  have := loop_opt (xs := List.range 5) (L := fun f i (s : List (List T_impl_Value)) => impl_RowsAt_l0 xs t f i s) (fun _ _ => some (rowsV xs t)) (fun i s => s = (List.range i).filterMap (fun (k : Nat) => rowOf xs (k : Int) t) ∧ s.length ≤ i) (by simp)
   (fun f i s v hi hv hw hI => by
    obtain ⟨hI, hIl⟩ := hI
    have hi5 : i < 5 := by simpa using hi
    refine .inr ⟨s ++ (rowOf xs (i : Int) t).toList, ⟨by rw [fm_succ, ← hI], ?_⟩, ?_, rfl⟩
    ·cases rowOf xs (i : Int) t <;> simp <;> omega
    ·rw [impl_RowsAt_l0, decide_eq_true (by omega), cond_true, impl_seenV h.1, Option.bind_some]
     unfold rowOf
     cases seenV xs (i : Int) t with
     | none => simp only [cond_false, hw]; simp
     | some v =>
      simp only [cond_true]
      rw [app_lt (by simp; omega), Option.bind_some, hw]
      rfl)
   (fun f s hI => by
    obtain ⟨hI, hIl⟩ := hI
    rw [List.length_range] at hI hIl
    show impl_RowsAt_l0 xs t (f + 1) (((List.range 5).length : Nat) : Int) s = _
    rw [List.length_range, impl_RowsAt_l0, decide_eq_false (by omega), cond_false, impl_copyL0 (by omega) (fun r hr => by
     rw [hI] at hr
     obtain ⟨k, _, hk⟩ := List.mem_filterMap.1 hr
     exact rowOf_sm h hk), Option.bind_some, hI]
    rfl) (s := []) ⟨rfl, Nat.le_refl _⟩
  exact this
def eqO (f g : Option (List T_impl_Value)) : Bool := f.isSome == g.isSome && rowEq (f.getD []) (g.getD [])
theorem eqO_iff {f g : Option (List T_impl_Value)} : eqO f g = true ↔ f = g := by
 unfold eqO
 cases f <;> cases g <;> simp [rowEq_iff]
def chK (f g : Option (List T_impl_Value)) : List T_impl_Change := bif eqO f g then [] else (f.map fun r => T_impl_Change.mk 0 r false).toList ++ (g.map fun r => T_impl_Change.mk 0 r true).toList
def chgsV (xs : List T_impl_Version) (t : Int) : List T_impl_Change := (List.range 5).flatMap fun (k : Nat) => chK (rowOf xs (k : Int) t) (rowOf xs (k : Int) (w64 (t + 1)))
theorem chK_len (f g : Option (List T_impl_Value)) : (chK f g).length ≤ 2 := by
 unfold chK
 cases eqO f g <;> cases f <;> cases g <;> simp
theorem fl_succ {α : Type} (f : Nat → List α) (n : Nat) : (List.range (n + 1)).flatMap f = (List.range n).flatMap f ++ f n := by
 rw [List.range_succ, List.flatMap_append]
 simp
theorem clipChg {xs : List T_impl_Change} : slices_Clip_impl_Change_impl_Change xs = some xs := by
 unfold slices_Clip_impl_Change_impl_Change slI
 simp
theorem seen_ex {xs : List T_impl_Version} (h : Sm xs.length) (k t : Int) : ∃ A, impl_seen xs k t = some A ∧ A.2 = (rowOf xs k t).isSome ∧ A.1.fRow = (rowOf xs k t).getD [] := by
 refine ⟨_, impl_seenV h k t, ?_, ?_⟩ <;> unfold rowOf <;> cases seenV xs k t <;> rfl
theorem rowD_sm {xs : List T_impl_Version} (h : SmVers xs) (k t : Int) : SmR ((rowOf xs k t).getD []) := by
 cases hr : rowOf xs k t with
 | none => exact ⟨by simp, fun v hv => by cases hv⟩
 | some r => exact rowOf_sm h hr
theorem impl_chgs {xs : List T_impl_Version} (h : SmVers xs) (t : Int) : impl_ChangesOf xs t = some (bif vOk xs && inR t 0 40 then chgsV xs t else []) := by
 unfold impl_ChangesOf
 rw [impl_vOk h, Option.bind_some]
 cases vOk xs with
 | false => rfl
 | true =>
  rw [Bool.not_true, cond_false, impl_in, Option.bind_some]
  cases inR t 0 40 with
  | false => rfl
  | true =>
   simp only [Bool.not_true, impl_ChangesOf_j0, cond_false, Bool.and_self, cond_true]
   unfold impl_changesOf
   have := loop_opt (xs := List.range 5) (L := fun f i (s : List T_impl_Change) => impl_changesOf_l0 xs t f i s) (fun _ _ => some (chgsV xs t)) (fun i s => s = (List.range i).flatMap (fun (k : Nat) => chK (rowOf xs (k : Int) t) (rowOf xs (k : Int) (w64 (t + 1)))) ∧ s.length ≤ 2 * i) (by simp)
    (fun f i s v hi hv hw hI => by
     obtain ⟨hI, hIl⟩ := hI
     have hi5 : i < 5 := by simpa using hi
     have hcl := chK_len (rowOf xs (i : Int) t) (rowOf xs (i : Int) (w64 (t + 1)))
     refine .inr ⟨s ++ chK (rowOf xs (i : Int) t) (rowOf xs (i : Int) (w64 (t + 1))), ⟨by rw [fl_succ, ← hI], by rw [List.length_append]; omega⟩, ?_, rfl⟩
     obtain ⟨A, a0, a1, a2⟩ := seen_ex h.1 (i : Int) t
     obtain ⟨B, b0, b1, b2⟩ := seen_ex h.1 (i : Int) (w64 (t + 1))
     have sa := rowD_sm h (i : Int) t
     have sb := rowD_sm h (i : Int) (w64 (t + 1))
     rw [impl_changesOf_l0, decide_eq_true (by omega), cond_true, a0, Option.bind_some, b0, Option.bind_some]
     generalize rowOf xs (i : Int) t = F at a1 a2 sa ⊢
     generalize rowOf xs (i : Int) (w64 (t + 1)) = G at b1 b2 sb ⊢
     have sl := sa.1
     have sl2 := sb.1
     have se := slices_Equal_ok (a := F.getD []) (b := G.getD []) (by omega)
     rw [a1, b1, a2, b2, se]
     unfold chK eqO impl_changesOf_j1 impl_changesOf_j2
     rw [a1, a2, b1, b2, hw]
     cases F with
     | none =>
      cases G with
      | none => simp [rowEq_refl]
      | some b =>
       simp only [Option.isSome_none, Option.isSome_some, Option.getD_none, Option.getD_some, show (false == true) = false from rfl, show (true == false) = false from rfl, Bool.false_and, cond_false, cond_true, Option.map_none, Option.map_some, Option.toList_none, Option.toList_some, List.nil_append]
       have sl2 : Sm b.length := sb.1
       rw [impl_cloneV (by omega), Option.bind_some, app_lt (by simp; omega), Option.bind_some]
     | some a =>
      have sl : Sm a.length := sa.1
      cases G with
      | none =>
       simp only [Option.isSome_none, Option.isSome_some, Option.getD_none, Option.getD_some, show (false == true) = false from rfl, show (true == false) = false from rfl, Bool.false_and, cond_false, cond_true, Option.map_none, Option.map_some, Option.toList_none, Option.toList_some, List.append_nil]
       rw [impl_cloneV (by omega), Option.bind_some, app_lt (by simp; omega), Option.bind_some]
      | some b =>
       have sl2 : Sm b.length := sb.1
       simp only [Option.isSome_some, Option.getD_some, Option.map_some, Option.toList_some, beq_self_eq_true, cond_true, Option.bind_some, Bool.true_and]
       cases rowEq a b with
       | true => simp
       | false =>
        rw [cond_false, cond_false, impl_cloneV (by omega), Option.bind_some, app_lt (by simp; omega), Option.bind_some, impl_cloneV (by omega), Option.bind_some, app_lt (by simp; omega), Option.bind_some]
        simp)
    (fun f s hI => by
     obtain ⟨hI, hIl⟩ := hI
     show impl_changesOf_l0 xs t (f + 1) (((List.range 5).length : Nat) : Int) s = _
     rw [List.length_range] at hI ⊢
     rw [impl_changesOf_l0, decide_eq_false (by omega), cond_false, clipChg, Option.bind_some, hI]
     rfl) (s := []) ⟨rfl, Nat.le_refl _⟩
   rw [this]
   rfl
theorem rowS_eq (xs : List T_impl_Version) (k t : Int) : rowS (seenV xs k t) = ((rowOf xs k t).getD [], (rowOf xs k t).isSome) := by
 unfold rowOf
 cases seenV xs k t <;> rfl
theorem spec_chgs {xs : List T_impl_Version} (h : SmVers xs) (t : Int) : spec_ChangesOf xs t = some (bif vOk xs && inR t 0 40 then chgsV xs t else []) := by
 unfold spec_ChangesOf
 rw [spec_vOk h, Option.bind_some]
 cases hvk : vOk xs with
 | false => rfl
 | true =>
  rw [Bool.not_true, cond_false, spec_in, Option.bind_some]
  cases inR t 0 40 with
  | false => rfl
  | true =>
   simp only [Bool.not_true, spec_ChangesOf_j0, cond_false, Bool.and_self, cond_true]
   have := loop_opt (xs := List.range 5) (L := fun f i (s : List T_impl_Change) => spec_ChangesOf_l1 xs t f i s) (fun _ _ => some (chgsV xs t)) (fun i s => s = (List.range i).flatMap (fun (k : Nat) => chK (rowOf xs (k : Int) t) (rowOf xs (k : Int) (w64 (t + 1)))) ∧ s.length ≤ 2 * i) (by simp)
    (fun f i s v hi hv hw hI => by
     obtain ⟨hI, hIl⟩ := hI
     have hi5 : i < 5 := by simpa using hi
     have hcl := chK_len (rowOf xs (i : Int) t) (rowOf xs (i : Int) (w64 (t + 1)))
     refine .inr ⟨s ++ chK (rowOf xs (i : Int) t) (rowOf xs (i : Int) (w64 (t + 1))), ⟨by rw [fl_succ, ← hI], by rw [List.length_append]; omega⟩, ?_, rfl⟩
     have sa := rowD_sm h (i : Int) t
     have sb := rowD_sm h (i : Int) (w64 (t + 1))
     rw [spec_ChangesOf_l1, decide_eq_true (by omega), cond_true, spec_seenC h, Option.bind_some, spec_seenC h, Option.bind_some, hvk, cond_true, cond_true, rowS_eq, rowS_eq]
     generalize rowOf xs (i : Int) t = F at sa ⊢
     generalize rowOf xs (i : Int) (w64 (t + 1)) = G at sb ⊢
     have sl := sa.1
     have sl2 := sb.1
     have se := spec_sameR (a := F.getD []) (b := G.getD []) (by omega)
     simp only [se]
     unfold chK eqO spec_ChangesOf_j3 spec_ChangesOf_j4 spec_ChangesOf_j2
     simp only [hw]
     cases F with
     | none =>
      cases G with
      | none => simp [rowEq_refl]
      | some b =>
       simp only [Option.isSome_none, Option.isSome_some, Option.getD_none, Option.getD_some, show (false == true) = false from rfl, show (true == false) = false from rfl, Bool.false_and, cond_false, cond_true, Option.map_none, Option.map_some, Option.toList_none, Option.toList_some, List.nil_append]
       rw [app_lt (by simp; omega), Option.bind_some]
     | some a =>
      cases G with
      | none =>
       simp only [Option.isSome_none, Option.isSome_some, Option.getD_none, Option.getD_some, show (false == true) = false from rfl, show (true == false) = false from rfl, Bool.false_and, cond_false, cond_true, Option.map_none, Option.map_some, Option.toList_none, Option.toList_some, List.append_nil]
       rw [app_lt (by simp; omega), Option.bind_some]
      | some b =>
       simp only [Option.isSome_some, Option.getD_some, Option.map_some, Option.toList_some, beq_self_eq_true, cond_true, Option.bind_some, Bool.true_and]
       cases rowEq a b with
       | true => simp
       | false =>
        rw [cond_false, cond_false, app_lt (by simp; omega), Option.bind_some, app_lt (by simp; omega), Option.bind_some]
        simp)
    (fun f s hI => by
     obtain ⟨hI, hIl⟩ := hI
     show spec_ChangesOf_l1 xs t (f + 1) (((List.range 5).length : Nat) : Int) s = _
     rw [List.length_range] at hI ⊢
     rw [spec_ChangesOf_l1, decide_eq_false (by omega), cond_false, hI]
     rfl) (s := []) ⟨rfl, Nat.le_refl _⟩
   rw [this]
def dC (c : T_impl_Change) : T_impl_Delta := ⟨c.fRow, bif c.fCome then 1 else -1⟩
theorem chK_steps {f g : Option (List T_impl_Value)} {o : RowL} (h : ∀ r, many f.toList r ≤ many o r) : ∃ o', stepsV ((chK f g).map dC) o = some o' ∧ ∀ r, many o' r + many f.toList r = many o r + many g.toList r := by
 have main : ∃ o', stepsV (((f.map fun r => T_impl_Change.mk 0 r false).toList ++ (g.map fun r => T_impl_Change.mk 0 r true).toList).map dC) o = some o' ∧ ∀ r, many o' r + many f.toList r = many o r + many g.toList r := by
  have second : ∀ o1 : RowL, ∃ o', stepsV ((g.map fun r => T_impl_Change.mk 0 r true).toList.map dC) o1 = some o' ∧ ∀ r, many o' r = many o1 r + many g.toList r := fun o1 => by
   cases g with
   | none => exact ⟨o1, rfl, fun r => by simp [many_nil]⟩
   | some b =>
    refine ⟨o1 ++ [b], rfl, fun r => ?_⟩
    rw [many_app]
    rfl
  cases f with
  | none =>
   obtain ⟨o', h1, h2⟩ := second o
   exact ⟨o', h1, fun r => by rw [h2]; simp [many_nil]⟩
  | some a =>
   have ha := h a
   have e1 : many (some a).toList a = 1 := by simp [many_consR, rowEq_refl, many_nil]
   obtain ⟨o1, h1⟩ := remN_ok (r := a) (n := 1) (o := o) (by omega)
   have h2 := remN_many h1
   obtain ⟨o', h3, h4⟩ := second o1
   refine ⟨o', ?_, fun r => ?_⟩
   ·have : step1 o (dC (T_impl_Change.mk 0 a false)) = some o1 := by
     unfold step1 dC
     simp only [cond_false]
     rw [if_neg (by decide)]
     exact h1
    simp only [Option.map_some, Option.toList_some, List.map_append, List.map_cons, List.map_nil, List.singleton_append, stepsV, this, Option.bind_some]
    exact h3
   ·have h5 := h4 r
    have h6 := h2 r
    have e2 : many (some a).toList r = if rowEq a r = true then 1 else 0 := by simp [many_consR, many_nil]
    rw [e2]
    split at h6 <;> rename_i hq
    ·rw [if_pos hq]; omega
    ·rw [if_neg hq]; omega
 unfold chK
 cases he : eqO f g with
 | false => exact main
 | true =>
  have := eqO_iff.1 he
  subst this
  exact ⟨o, rfl, fun r => rfl⟩
theorem stepsV_app : ∀ (xs ys : List T_impl_Delta) (o : RowL), stepsV (xs ++ ys) o = (stepsV xs o).bind (stepsV ys)
 | [], ys, o => rfl
 | x :: xs, ys, o => by
  simp only [List.cons_append, stepsV]
  cases step1 o x with
  | none => rfl
  | some o1 => exact stepsV_app xs ys o1
theorem chgs_steps (F G : Nat → Option (List T_impl_Value)) : ∀ (ks : List Nat) (o : RowL), (∀ r, many (ks.filterMap F) r ≤ many o r) → ∃ o', stepsV ((ks.flatMap fun k => chK (F k) (G k)).map dC) o = some o' ∧ ∀ r, many o' r + many (ks.filterMap F) r = many o r + many (ks.filterMap G) r
 | [], o, _ => ⟨o, rfl, fun r => rfl⟩
 | k :: ks, o, h => by
  have split1 : ∀ (H : Nat → Option (List T_impl_Value)) r, many ((k :: ks).filterMap H) r = many (H k).toList r + many (ks.filterMap H) r := fun H r => by
   rw [List.filterMap_cons]
   cases H k with
   | none => simp [many_nil]
   | some a => simp [many_consR, many_nil, Nat.add_comm]
  obtain ⟨o1, h1, h2⟩ := chK_steps (f := F k) (g := G k) (o := o) fun r => by
   have := h r
   rw [split1 F] at this
   omega
  obtain ⟨o', h3, h4⟩ := chgs_steps F G ks o1 fun r => by
   have e1 := h r
   have e2 := h2 r
   rw [split1 F] at e1
   omega
  refine ⟨o', ?_, fun r => ?_⟩
  ·rw [List.flatMap_cons, List.map_append, stepsV_app, h1, Option.bind_some]
   exact h3
  ·have e2 := h2 r
   have e4 := h4 r
   rw [split1 F, split1 G]
   omega
theorem rowOf_ok {xs : List T_impl_Version} (h : vOk xs = true) {k t : Int} {r : List T_impl_Value} (hr : rowOf xs k t = some r) : rowOk r = true := by
 unfold rowOf at hr
 cases hs : seenV xs k t with
 | none => rw [hs] at hr; cases hr
 | some v =>
  rw [hs] at hr
  cases hr
  exact ((verG_iff v).1 (((vOk_iff xs).1 h).1 v (seenV_mem hs).1)).2.2.2
theorem rowsV_ok {xs : List T_impl_Version} (h : vOk xs = true) (t : Int) : allR (rowsV xs t) = true := List.all_eq_true.2 fun r hr => by
 obtain ⟨k, _, hk⟩ := List.mem_filterMap.1 hr
 exact rowOf_ok h hk
theorem rowsV_sm {xs : List T_impl_Version} (h : SmVers xs) (t : Int) : SmRs (rowsV xs t) := ⟨Nat.le_trans (fm_len _ 5) (by decide), fun r hr => by
 obtain ⟨k, _, hk⟩ := List.mem_filterMap.1 hr
 exact rowOf_sm h hk⟩
theorem chgsV_mem {xs : List T_impl_Version} {t : Int} {c : T_impl_Change} (hc : c ∈ chgsV xs t) : ∃ k u, rowOf xs k u = some c.fRow := by
 obtain ⟨k, _, hk⟩ := List.mem_flatMap.1 hc
 unfold chK at hk
 cases he : eqO (rowOf xs (k : Int) t) (rowOf xs (k : Int) (w64 (t + 1))) with
 | true => rw [he] at hk; cases hk
 | false =>
  rw [he, cond_false] at hk
  rcases List.mem_append.1 hk with hk | hk
  ·cases h1 : rowOf xs (k : Int) t with
   | none => rw [h1] at hk; cases hk
   | some a =>
    rw [h1] at hk
    have : c = ⟨0, a, false⟩ := by simpa using hk
    exact ⟨_, _, by rw [h1, this]⟩
  ·cases h1 : rowOf xs (k : Int) (w64 (t + 1)) with
   | none => rw [h1] at hk; cases hk
   | some a =>
    rw [h1] at hk
    have : c = ⟨0, a, true⟩ := by simpa using hk
    exact ⟨_, _, by rw [h1, this]⟩
theorem chgsV_len (xs : List T_impl_Version) (t : Int) : (chgsV xs t).length ≤ 10 := by
 have : ∀ n, ((List.range n).flatMap fun (k : Nat) => chK (rowOf xs (k : Int) t) (rowOf xs (k : Int) (w64 (t + 1)))).length ≤ 2 * n := by
  intro n
  induction n with
  | zero => simp
  | succ n ih =>
   rw [fl_succ, List.length_append]
   have := chK_len (rowOf xs (n : Int) t) (rowOf xs (n : Int) (w64 (t + 1)))
   omega
 exact this 5
theorem draw_chg {b : List UInt8} (hb : b.length ≤ 1048576) : ∃ p, spec_DrawChangesOf b = some p ∧ Vrs 40 p.1 ∧ 0 ≤ p.2 ∧ p.2 ≤ 40 := by
 obtain ⟨r, e, h⟩ := open_ok hb
 obtain ⟨p, r', e2, h1, h2, h3, h4⟩ := versions_ok h (by omega) 15
 unfold spec_DrawChangesOf
 rw [e, Option.bind_some, e2, Option.bind_some]
 have hw : w64 (p.2 + 1) = p.2 + 1 := by rw [w64_of] <;> omega
 simp only [hw]
 obtain ⟨k, r3, e3, _, k0, _, k1⟩ := pick_ok h1 (by omega) (p.2 + 1)
 have k1 := k1 (by omega)
 rw [e3, Option.bind_some]
 exact ⟨_, rfl, h2, k0, by simp only; omega⟩
theorem law_changesOf {a0 : List UInt8} (w0 : listW u8W a0) : laws_FnChangesOf a0 = some true := by
 unfold laws_FnChangesOf
 by_cases hl : (a0.length : Int) > 1048576
 ·rw [decide_eq_true hl, cond_true]
 rw [decide_eq_false hl, cond_false]
 obtain ⟨p, e, h, t0, t1⟩ := draw_chg (b := a0) (by omega)
 have hs := h.sm (by omega)
 have hin : inR p.2 0 40 = true := by
  unfold inR
  rw [decide_eq_true t0, decide_eq_true t1]
  rfl
 rw [e, Option.bind_some, impl_chgs hs, Option.bind_some, spec_chgs hs, Option.bind_some, beq_self_eq_true, Bool.not_true, cond_false, hin, Bool.and_true]
 generalize hC : (bif vOk p.1 then chgsV p.1 p.2 else []) = C
 have hCl : C.length ≤ 10 := by
  rw [← hC]
  cases vOk p.1 with
  | false => simp
  | true => exact chgsV_len _ _
 have hCs : ∀ c ∈ C, SmR c.fRow := fun c hc => by
  rw [← hC] at hc
  cases hv : vOk p.1 with
  | false => rw [hv] at hc; cases hc
  | true =>
   rw [hv, cond_true] at hc
   obtain ⟨k, u, hk⟩ := chgsV_mem hc
   exact rowOf_sm hs hk
 have last : ((impl_VersionsOk p.1).bind fun v41 => bif (!v41) then bif (((C.length : Int)) == 0) then (laws_alive).bind fun v44 => some v44 else some false else (impl_RowsAt p.1 p.2).bind fun v47 => (impl_DeltaRows v47 (C.map dC)).bind fun v49 =>
   bif v49.2 then (impl_RowsAt p.1 ((w64 (p.2 + 1)))).bind fun v51 => (impl_RowsSorted v51).bind fun v53 => (laws_sameRows v49.1 v53).bind fun v55 => bif v55 then (laws_alive).bind fun v57 => some v57 else some false else some false) = some true := by
  rw [impl_vOk hs, Option.bind_some]
  cases hv : vOk p.1 with
  | false =>
   rw [hv, cond_false] at hC
   rw [← hC, Bool.not_false, cond_true, alive_t]
   rfl
  | true =>
   rw [hv, cond_true] at hC
   rw [Bool.not_true, cond_false, impl_rowsAtL hs, Option.bind_some, hv, cond_true, impl_rowsD (rowsV_sm hs _) (by have := fm_len (fun (k : Nat) => rowOf p.1 (k : Int) p.2) 5; unfold rowsV; omega) (by rw [List.length_map]; omega) (fun d hd => by
    obtain ⟨c, hc, rfl⟩ := List.mem_map.1 hd
    exact hCs c hc), Option.bind_some]
   obtain ⟨o, h1, h2⟩ := chgs_steps (fun k => rowOf p.1 (k : Int) p.2) (fun k => rowOf p.1 (k : Int) (w64 (p.2 + 1))) (List.range 5) (rowsV p.1 p.2) fun r => Nat.le_refl _
   have hp : o.Perm (rowsV p.1 (w64 (p.2 + 1))) := perm_of_many fun r => by
    have e1 := h2 r
    have e2 : many ((List.range 5).filterMap fun (k : Nat) => rowOf p.1 (k : Int) p.2) r = many (rowsV p.1 p.2) r := rfl
    have e3 : many ((List.range 5).filterMap fun (k : Nat) => rowOf p.1 (k : Int) (w64 (p.2 + 1))) r = many (rowsV p.1 (w64 (p.2 + 1))) r := rfl
    rw [e2, e3] at e1
    omega
   have hok : (C.map dC).all dOk = true := List.all_eq_true.2 fun d hd => by
    obtain ⟨c, hc, rfl⟩ := List.mem_map.1 hd
    rw [← hC] at hc
    obtain ⟨k, u, hk⟩ := chgsV_mem hc
    unfold dOk dC inR
    simp only [rowOf_ok hv hk, Bool.true_and]
    cases c.fCome <;> rfl
   have hst : stepsV (C.map dC) (rowsV p.1 p.2) = some o := by
    rw [← hC]
    exact h1
   have hD : rowsD (rowsV p.1 p.2) (C.map dC) = (sortedV (rowsV p.1 (w64 (p.2 + 1))), true) := by
    unfold rowsD
    rw [rowsV_ok hv, hok, Bool.and_self, cond_true, hst]
    simp only [sortedV_eq hp (rowsV_ok hv _)]
   rw [hD, cond_true, impl_rowsAtL hs, Option.bind_some, hv, cond_true, impl_sorted (rowsV_sm hs _), Option.bind_some, laws_sameRows_refl (sortedV_sm (rowsV_sm hs _)), Option.bind_some, cond_true, alive_t]
   rfl
 have := loop_opt (xs := C) (L := fun f i (s : List T_impl_Delta) => laws_FnChangesOf_l0 p C C f i s) (fun _ _ => some true) (fun i s => s = (C.take i).map dC ∧ s.length ≤ i) (by omega)
  (fun f i s v hi hv hw hI => by
   obtain ⟨hI, hIl⟩ := hI
   have hr : laws_sameRow v.fRow v.fRow = some true := by rw [laws_sameRow_ok (by have := (hCs v (List.mem_of_getElem? hv)).1; omega), rowEq_refl]
   refine .inr ⟨s ++ [dC v], ⟨?_, by simp; omega⟩, ?_, rfl⟩
   ·rw [hI, List.take_add_one, hv]
    simp
   ·rw [laws_FnChangesOf_l0, decide_eq_true (by omega), cond_true, getI_nat, hv, Option.bind_some, Option.bind_some, beq_self_eq_true, Bool.not_true, cond_false, Option.bind_some, Option.bind_some, beq_self_eq_true, Bool.not_true, cond_false, Option.bind_some, Option.bind_some, hr,
     Option.bind_some, laws_FnChangesOf_j1, Bool.not_true, cond_false, getI_nat, hv, Option.bind_some]
    unfold laws_FnChangesOf_j2 dC
    cases v.fCome <;> simp only [cond_true, cond_false] <;> rw [getI_nat, hv, Option.bind_some, app_lt (by simp; omega), Option.bind_some, hw])
  (fun f s hI => by
   obtain ⟨hI, hIl⟩ := hI
   rw [List.take_length] at hI
   rw [laws_FnChangesOf_l0, decide_eq_false (Int.lt_irrefl _), cond_false, hI, last]) (s := []) ⟨rfl, Nat.le_refl _⟩
 exact this
end Go.D
set_option linter.unusedVariables false
namespace Go.D
open Go.ChangeShapes Go.RowKit
theorem trodAll_carry {H : Type} {enc : TypeId × Value → H} {P : Program} {w w' : World} {base : Nat} {sp : Nat → Bool} {held : Bool} : ∀ {ts : List TypeId} {vs : List Value} {ds : List (DataW H)} {ps : List MemPlace},
  DataW.TrodAll enc P w base sp held ts vs ds ps → (∀ p ∈ ps, w.sameAt w' p) → DataW.TrodAll enc P w' base sp held ts vs ds ps
 | [], [], [], _, h, _ => h
 | _ :: _, _ :: _, _ :: _, _, ⟨p, q, ⟨n, hn⟩, h2, e⟩, hs =>
  ⟨p, q, ⟨n, DataW.trod_carry n _ _ _ hn fun x hx => hs x (by rw [e]; exact List.mem_append_left _ hx)⟩, trodAll_carry h2 fun x hx => hs x (by rw [e]; exact List.mem_append_right _ hx), e⟩
theorem Kept.sameAt {w w' : World} (h : Grew w w') {p : MemPlace} (hp : p.block < w.heap.size) : w.sameAt w' p := by
 have hb := h.block p.block hp (fun h => h)
 cases p with
 | cell b off =>
  show w'.cell? ⟨b, off, none⟩ = w.cell? ⟨b, off, none⟩
  unfold World.cell?
  have hb : w'.heap[b]? = w.heap[b]? := hb
  simp only [hb]
 | map b => exact hb
theorem Kept.keptBut {w w' : World} (h : Grew w w') (may : MemPlace → Prop) : w.keptBut w' may := by
 refine ⟨h.os, h.output, fun i hi => ?_⟩
 rw [h.block i hi (fun h => h)]
 cases w.heap[i]? with
 | none => trivial
 | some o => cases o <;> simp
theorem contract_of {P : Program} {fid : FuncId} {fn : Func} {s : ChangeSpec} {tb : TypeId} {H : Type} {enc : TypeId × Value → H}
  (hK : Kids P (· < P.types.size)) (hfull : ∀ t e, t < P.types.size → P.underlying t = some (.slice e) → 0 < P.cellsOf e)
  (hp : ∀ t ∈ fn.params.toList, t < P.types.size) (hv : s.vars = []) (hr : fn.resultTypes = #[tb]) (hb : P.underlying tb = some .bool)
  {n : Nat} (hn : fn.params.toList.length = n) (hs : ∀ ds : List (DataW H), ds.length = n → s.fn H ds = { results := [.lit (.bool true)], args := ds })
  {W : World} {args : Array Value} {ds gs : List (DataW H)} {before : List MemPlace}
  (hlaw : ∀ p, DataW.TrodAll enc P W 0 (fun _ => true) true fn.params.toList args.toList ds p → ∃ ins, FrL W (fun _ => False) ins args.toList ∧ OK P fid ins (B true))
  (hW : DataW.Whole enc P fn.params.toList s.vars false W args.toList ds gs before) :
  Calls P fid args W fun e W' => ∃ v, e = .returned v ∧ s.post enc P fn false true false false W args v W' := by
 have hlt := hW.lt
 have hW' := hW
 obtain ⟨p, q, hA, hV, rfl, hfz, hnd⟩ := hW
 rw [hv] at hV
 obtain ⟨rfl, rfl⟩ := trodVars_none hV
 obtain ⟨ins, h1, h2⟩ := hlaw p hA
 have hlen : ∀ {ts : List TypeId} {vs : List Value} {ds : List (DataW H)} {ps : List MemPlace}, DataW.TrodAll enc P W 0 (fun _ => true) true ts vs ds ps → ds.length = ts.length := by
  intro ts
  induction ts with
  | nil => intro vs ds ps h; obtain ⟨_, rfl, _⟩ := trodAll_nil h; rfl
  | cons t ts ih =>
   intro vs ds ps h
   obtain ⟨_, _, _, _, _, _, rfl, rfl, rfl, _, h⟩ := trodAll_cons h
   simp [ih h]
 have hds : ds.length = n := (hlen hA).trans hn
 have hc := h2.2 W args.toList (fun _ => False) (fun b h => h.elim) h1
 have ha : args.toList.toArray = args := by simp
 rw [ha] at hc
 refine hc.mono fun e W' ⟨v, fp, he, hg, ho, _⟩ => ⟨v, he, ?_⟩
 simp only [B, Ow] at ho
 obtain ⟨rfl, rfl⟩ := ho
 have hsame : ∀ x ∈ p, W.sameAt W' x := fun x hx => Kept.sameAt hg (hlt x (by simpa using hx))
 refine ⟨ds, [], p ++ [], [], p, [], hW', ?_, ?_, ?_, Kept.keptBut hg _, fun h => by cases h⟩
 ·rw [List.append_nil, hs ds hds, hr]
  exact trodAll_mk1 (shut_bool hb true)
 ·rw [List.append_nil, hs ds hds]
  exact trodAll_carry (DataW.TrodAll.respare hK hfull hp hA fun x hx => by
   have := hlt x (by simpa using hx)
   simpa using this) hsame
 ·rw [hv, List.append_nil, hs ds hds]
  rfl
end Go.D
