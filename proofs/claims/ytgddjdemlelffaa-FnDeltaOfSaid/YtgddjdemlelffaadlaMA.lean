import Derived.Test.YtgddjdemlelffaadlaDXFB
import Derived.Test.YtgddjdemlelffaadlaDShow
import Derived.ChangeArms
import Derived.ChangeShapes
import Derived.Deep.Slices
import Derived.Test.YtgddjdemlelffaadlaDOwn3
import Derived.Test.YtgddjdemlelffaadlaDNil
import Derived.Test.YtgddjdemlelffaadlaDMore
import Derived.Test.YtgddjdemlelffaadlaDOrd3
import Derived.Test.YtgddjdemlelffaadlaDXT
import Derived.OpenShut
import Derived.ReadAgain
import Derived.ProofKit
set_option linter.unusedVariables false
namespace Go.D
end Go.D
set_option linter.unusedVariables false
namespace Go.D
def Rd (P : Program) (t : TypeId) (α : Type) [Enc α] (W : α → Prop) : Prop :=
 P.cellsOf t = Enc.sz α ∧ ∀ (H : Type) (enc : TypeId × Value → H) (w : World) (base : Nat) (sp : Nat → Bool) (held : Bool) (fuel : Nat) (cs : List Value) (x : DataW H × List MemPlace), DataW.trod enc P w base sp held fuel t cs = some x →
  ∃ y : α, FrL w (fun _ => False) (Enc.cells y) cs ∧ W y
def u8W (_ : UInt8) : Prop := True
def listW {α : Type} (W : α → Prop) (l : List α) : Prop := l.length ≤ 9223372036854775807 ∧ ∀ x ∈ l, W x
section
variable {P : Program}
theorem rd_u8 {t : TypeId} (ht : P.underlying t = some (.int .u8)) (hc : P.cellsOf t = 1) : Rd P t UInt8 u8W := ⟨hc, fun H enc w base sp held fuel cs x h => by
 obtain ⟨n, rfl, _, hw⟩ := DataW.trod_int ht h
 have hn : 0 ≤ n ∧ n ≤ 255 := by simpa [Lit.wf, IntKind.min, IntKind.max, IntKind.signed, IntKind.bits] using hw
 refine ⟨UInt8.ofNat n.toNat, ?_, trivial⟩
 show FrL w _ [.lit (.int .u8 (UInt8.ofNat n.toNat).toNat)] _
 simp only [FrL]
 refine ⟨_, _, rfl, ?_, rfl⟩
 simp only [Fr]
 congr 1
 rw [UInt8.toNat_ofNat']
 omega⟩
theorem eL_flat {α : Type} [Enc α] {w : World} {M : Nat → Prop} : ∀ {ys : List α} {uss : List (List Value)}, ys.length = uss.length → (∀ (i : Nat) (y : α) (us : List Value), ys[i]? = some y → uss[i]? = some us → FrL w M (Enc.cells y) us) → FrL w M (eL ys) uss.flatten
 | [], [], _, _ => by simp [eL, FrL]
 | [], _ :: _, h, _ => by simp at h
 | _ :: _, [], h, _ => by simp at h
 | y :: ys, us :: uss, h, k => by
  simp only [eL, List.flatten_cons]
  exact FrL.append (k 0 y us rfl rfl) (eL_flat (by simpa using h) fun i y' us' h1 h2 => k (i + 1) y' us' (by simpa using h1) (by simpa using h2))
theorem flat_get {sz : Nat} (hsz : 0 < sz) : ∀ {uss : List (List Value)}, (∀ us ∈ uss, us.length = sz) → ∀ {j : Nat} {v : Value}, uss.flatten[j]? = some v → ∃ us, uss[j / sz]? = some us ∧ us[j % sz]? = some v
 | [], _, j, v, h => by simp at h
 | us :: uss, hl, j, v, h => by
  have h0 : us.length = sz := hl us (by simp)
  simp only [List.flatten_cons] at h
  rcases Nat.lt_or_ge j sz with hj | hj
  ·rw [List.getElem?_append_left (by omega)] at h
   refine ⟨us, by rw [Nat.div_eq_of_lt hj]; rfl, by rw [Nat.mod_eq_of_lt hj]; exact h⟩
  ·rw [List.getElem?_append_right (by omega), h0] at h
   obtain ⟨us', h1, h2⟩ := flat_get hsz (fun us' hu => hl us' (by simp [hu])) h
   refine ⟨us', ?_, ?_⟩
   ·have : j / sz = (j - sz) / sz + 1 := by rw [Nat.div_eq_sub_div hsz hj]
    rw [this]
    simpa using h1
   ·rw [Nat.mod_eq_sub_mod hj]; exact h2
theorem rd_slice {t e : TypeId} {α : Type} [Enc α] {W : α → Prop} (ht : P.underlying t = some (.slice e)) (hc : P.cellsOf t = 1) (he : Rd P e α W) : Rd P t (List α) (listW W) := ⟨hc, fun H enc w base sp held fuel cs x h => by
 obtain ⟨hce, he⟩ := he
 have hpos : 0 < Enc.sz α := Enc.pos
 have fin : ∀ (ys : List α) (v : Value), Fr w (fun _ => False) (A ys) v → listW W ys → ∃ y : List α, FrL w (fun _ => False) (Enc.cells y) [v] ∧ listW W y := fun ys v h1 h2 => ⟨ys, by
  show FrL w _ [A ys] _
  simp only [FrL]
  exact ⟨_, _, rfl, h1, rfl⟩, h2⟩
 rcases Go.Deep.open_slice ht h with ⟨rfl, _⟩ | ⟨a, len, cap, m, n, D, Pl, rfl, hb, hl, hm, hmm, _, hx⟩
 ·exact fin [] _ (Fr.nil w _ _ hpos) ⟨by simp, by simp⟩
 ·have hcapm : cap ≤ maxI := by simpa [maxLen, maxI] using hm
  by_cases h0 : len = 0
  ·subst h0
   refine fin [] _ ?_ ⟨by simp, by simp⟩
   simp only [Fr]
   exact ⟨some a, cap, rfl, ⟨hpos, by simp [eL], by simp, hcapm, fun h => by cases h⟩, .inl rfl⟩
  ·have hlm : len ≤ m := by rw [hmm]; split <;> omega
   have hel : ∀ i, i < len → ∃ p : List Value × α, w.cells? base (a.add (i * P.cellsOf e)) (P.cellsOf e) = some p.1 ∧ FrL w (fun _ => False) (Enc.cells p.2) p.1 ∧ W p.2 := by
    intro i hi
    obtain ⟨cs', h1, h2⟩ := hx i (by omega)
    obtain ⟨y, h3, h4⟩ := he H enc w base sp held n cs' _ h2
    exact ⟨(cs', y), h1, h3, h4⟩
   obtain ⟨p0, hp0⟩ := hel 0 (by omega)
   haveI : Inhabited (List Value × α) := ⟨p0⟩
   obtain ⟨F, hF⟩ := Go.Deep.choose_lt (α := List Value × α) (p := fun i p => w.cells? base (a.add (i * P.cellsOf e)) (P.cellsOf e) = some p.1 ∧ FrL w (fun _ => False) (Enc.cells p.2) p.1 ∧ W p.2) hel
   let ys : List α := (List.range len).map fun i => (F i).2
   let uss : List (List Value) := (List.range len).map fun i => (F i).1
   have hul : ∀ us ∈ uss, us.length = Enc.sz α := by
    intro us hu
    obtain ⟨i, hi, rfl⟩ := List.mem_map.1 hu
    have := (World.cells?_some (hF i (List.mem_range.1 hi)).1).2.1
    rw [this, hce]
   have hys : ys.length = len := by simp [ys]
   have hfl : FrL w (fun _ => False) (eL ys) uss.flatten := eL_flat (by simp [ys, uss]) fun i y us h1 h2 => by
    simp only [ys, uss, List.getElem?_map] at h1 h2
    have hi : i < len := by
     cases hr : (List.range len)[i]? with
     | none => rw [hr] at h1; cases h1
     | some k => have := (List.getElem?_eq_some_iff.1 hr).1; simpa using this
    rw [List.getElem?_range hi] at h1 h2
    simp only [Option.map_some, Option.some.injEq] at h1 h2
    rw [← h1, ← h2]
    exact (hF i hi).2.1
   have hul0 : ((F 0).1).length = Enc.sz α := hul _ (List.mem_map.2 ⟨0, by simp; omega, rfl⟩)
   have h00 : ∃ v, w.cell? a = some v := by
    have h1 := (World.cells?_some (hF 0 (by omega)).1).2.2 0 (by rw [hce]; exact hpos)
    rw [List.getElem?_eq_getElem (by omega)] at h1
    refine ⟨_, Eq.trans ?_ h1⟩
    simp [Addr.add]
   obtain ⟨v00, hv00⟩ := h00
   have hspot : a.spot = none := World.cell?_spot hv00
   obtain ⟨ab, ao, as_⟩ := a
   simp only at hspot
   subst hspot
   have hcell : ∀ i j, i < len → j < Enc.sz α → w.cell? ⟨ab, ao + (i * Enc.sz α + j), none⟩ = ((F i).1)[j]? := by
    intro i j hi hj
    have := (World.cells?_some (hF i hi).1).2.2 j (by rw [hce]; exact hj)
    rw [hce] at this
    rw [← this]
    congr 1
    unfold Addr.add
    split <;> split <;> simp_all <;> omega
   refine fin ys _ ?_ ⟨by rw [hys]; simp only [maxI] at hcapm; omega, fun y hy => by
    obtain ⟨i, hi, rfl⟩ := List.mem_map.1 hy
    exact (hF i (List.mem_range.1 hi)).2.2⟩
   simp only [Fr]
   refine ⟨some ⟨ab, ao, none⟩, cap, by rw [hys], ⟨hpos, by rw [eL_len], by rw [hys]; exact hl, hcapm, fun h => by cases h⟩, .inr ⟨ab, ao, uss.flatten, rfl, World.block_lt_of_cell? _ _ hv00, fun h => h, hfl, fun j hj => ?_⟩⟩
   obtain ⟨us, h1, h2⟩ := flat_get hpos hul (List.getElem?_eq_getElem hj)
   have hi : j / Enc.sz α < len := by
    have := (List.getElem?_eq_some_iff.1 h1).1
    simpa [uss] using this
   simp only [uss, List.getElem?_map, List.getElem?_range hi, Option.map_some, Option.some.injEq] at h1
   have := hcell (j / Enc.sz α) (j % Enc.sz α) hi (Nat.mod_lt _ hpos)
   rw [h1, h2] at this
   have e1 : j / Enc.sz α * Enc.sz α + j % Enc.sz α = j := by rw [Nat.mul_comm]; exact Nat.div_add_mod j _
   rw [e1] at this
   rw [List.getElem?_eq_getElem hj, ← this]⟩
end
end Go.D
set_option linter.unusedVariables false
namespace Go.D
theorem w64_of {n : Int} (h1 : -9223372036854775808 ≤ n) (h2 : n ≤ 9223372036854775807) : w64 n = n := by
 have hm : IntKind.i64.min = -9223372036854775808 := by decide
 have hM : IntKind.i64.max = 9223372036854775807 := by decide
 simp [w64, IntKind.wrap, IntKind.signed, IntKind.bits]
 omega
theorem getI_nat {α : Type} {xs : List α} {i : Nat} : getI xs (i : Int) = xs[i]? := by
 unfold getI
 rw [if_pos (by omega), Int.toNat_natCast]
theorem getI_lt {α : Type} {xs : List α} {i : Int} (h0 : 0 ≤ i) (h1 : i < xs.length) : ∃ x, getI xs i = some x ∧ xs[i.toNat]? = some x := by
 unfold getI
 rw [if_pos h0]
 have : i.toNat < xs.length := by omega
 exact ⟨xs[i.toNat], by rw [List.getElem?_eq_getElem this], by rw [List.getElem?_eq_getElem this]⟩
theorem app_lt {α : Type} {xs ys : List α} (h : xs.length + ys.length < 68719476736) : app xs ys = some (xs ++ ys) := if_pos h
theorem succ_w {i n : Nat} (h : i < n) (hn : n ≤ 70368744177663) : w64 ((i : Int) + 1) = ((i + 1 : Nat) : Int) := by
 rw [w64_of (by omega) (by omega)]
 omega
theorem loop_all {α : Type} {xs : List α} {L : Nat → Int → Option Bool} {p : α → Bool} {fin : Bool} (hlen : xs.length ≤ 70368744177662)
  (h : ∀ (f i : Nat) (v : α), i < xs.length → xs[i]? = some v → w64 ((i : Int) + 1) = ((i + 1 : Nat) : Int) → L (f + 1) i = bif p v then L f ((i + 1 : Nat) : Int) else some false)
  (he : ∀ f, L (f + 1) (xs.length : Int) = some fin) : L FUEL 0 = some (xs.all p && fin) := by
 have main : ∀ (k f i : Nat), i + k = xs.length → k < f → L f (i : Int) = some ((xs.drop i).all p && fin) := by
  intro k
  induction k with
  | zero =>
   intro f i hi hf
   obtain ⟨f, rfl⟩ : ∃ f', f = f' + 1 := ⟨f - 1, by omega⟩
   have : i = xs.length := by omega
   subst this
   rw [he, List.drop_length]
   simp
  | succ k ih =>
   intro f i hi hf
   obtain ⟨f, rfl⟩ : ∃ f', f = f' + 1 := ⟨f - 1, by omega⟩
   have hlt : i < xs.length := by omega
   rw [h f i xs[i] hlt (List.getElem?_eq_getElem hlt) (succ_w hlt (by omega)), ih f (i + 1) (by omega) (by omega), List.drop_eq_getElem_cons hlt, List.all_cons]
   cases p xs[i] <;> simp
 have := main xs.length FUEL 0 (by omega) (by unfold FUEL; omega)
 simpa using this
theorem loop_find {α : Type} {xs : List α} {L : Nat → Int → Option Int} {p : α → Bool} (hlen : xs.length ≤ 70368744177662)
  (h : ∀ (f i : Nat) (v : α), i < xs.length → xs[i]? = some v → w64 ((i : Int) + 1) = ((i + 1 : Nat) : Int) → L (f + 1) i = bif p v then some (i : Int) else L f ((i + 1 : Nat) : Int))
  (he : ∀ f, L (f + 1) (xs.length : Int) = some (-1)) : ∃ r, L FUEL 0 = some r ∧ decide (r ≥ 0) = xs.any p := by
 have main : ∀ (k f i : Nat), i + k = xs.length → k < f → ∃ r, L f (i : Int) = some r ∧ decide (r ≥ 0) = (xs.drop i).any p := by
  intro k
  induction k with
  | zero =>
   intro f i hi hf
   obtain ⟨f, rfl⟩ : ∃ f', f = f' + 1 := ⟨f - 1, by omega⟩
   have : i = xs.length := by omega
   subst this
   rw [he, List.drop_length]
   exact ⟨_, rfl, by simp⟩
  | succ k ih =>
   intro f i hi hf
   obtain ⟨f, rfl⟩ : ∃ f', f = f' + 1 := ⟨f - 1, by omega⟩
   have hlt : i < xs.length := by omega
   rw [h f i xs[i] hlt (List.getElem?_eq_getElem hlt) (succ_w hlt (by omega)), List.drop_eq_getElem_cons hlt, List.any_cons]
   cases hp : p xs[i] with
   | true => exact ⟨_, rfl, by simp⟩
   | false =>
    obtain ⟨r, h1, h2⟩ := ih f (i + 1) (by omega) (by omega)
    exact ⟨r, h1, by simp [h2]⟩
 have := main xs.length FUEL 0 (by omega) (by unfold FUEL; omega)
 simpa using this
end Go.D
set_option linter.unusedVariables false
namespace Go.D
abbrev Sm (n : Nat) : Prop := n ≤ 2097152
def inR (a b c : Int) : Bool := decide (b ≤ a) && decide (a ≤ c)
theorem spec_in (a b c : Int) : spec_l1In a b c = some (inR a b c) := by
 unfold spec_l1In inR
 by_cases h : b ≤ a <;> simp [h]
theorem impl_in (a b c : Int) : impl_between a b c = some (inR a b c) := by
 unfold impl_between inR
 by_cases h : b ≤ a <;> simp [h]
theorem not_any_not {α : Type} (xs : List α) (p : α → Bool) : (!(xs.any fun x => !(p x))) = xs.all p := by
 induction xs with
 | nil => rfl
 | cons x xs ih => simp [← ih]
theorem cast_le6 (n : Nat) : decide ((n : Int) ≤ 6) = decide (n ≤ 6) := by
 simp only [decide_eq_decide]
 omega
theorem getB_nat {s : ByteArray} {i : Nat} : getB s (i : Int) = s.data.toList[i]? := by
 unfold getB
 rw [if_pos (by omega), Int.toNat_natCast]
 by_cases h : i < s.size
 ·rw [getElem?_pos s i h, List.getElem?_eq_getElem (by simpa using h)]
  simp only [Option.some.injEq]
  rfl
 ·rw [getElem?_neg s i h, List.getElem?_eq_none (by simpa using h)]
def letter (b : UInt8) : Bool := decide (97 ≤ b.toNat) && decide (b.toNat ≤ 122)
def textOk (s : ByteArray) : Bool := s.data.toList.all letter && decide (s.size ≤ 6)
theorem size_list (s : ByteArray) : s.data.toList.length = s.size := Array.length_toList
theorem spec_text {s : ByteArray} (h : Sm s.size) : spec_l1Text s = some (textOk s) := by
 unfold spec_l1Text textOk
 have hl := size_list s
 refine loop_all (xs := s.data.toList) (by omega) (fun f i v hi hv hw => ?_) (fun f => ?_)
 ·have : (i : Int) < s.size := by omega
  simp only [spec_l1Text_l0, this, decide_true, cond_true, getB_nat, hv, Option.bind_some, spec_l1Text_j1, hw]
  unfold letter
  by_cases h1 : (v.toNat : Int) < 97
  ·have : ¬ 97 ≤ v.toNat := by omega
   simp [h1, this]
  ·have h1' : 97 ≤ v.toNat := by omega
   by_cases h2 : (v.toNat : Int) > 122
   ·have : ¬ v.toNat ≤ 122 := by omega
    simp [h1, h1', h2, this]
   ·have : v.toNat ≤ 122 := by omega
    simp [h1, h1', h2, this]
 ·rw [hl]
  unfold spec_l1Text_l0
  rw [show decide ((s.size : Int) < (s.size : Int)) = false from decide_eq_false (Int.lt_irrefl _), cond_false, cast_le6]
theorem impl_lettersOk {s : ByteArray} (h : Sm s.size) : impl_letters s = some (s.data.toList.all letter) := by
 have hl := size_list s
 unfold impl_letters bytesOf
 rw [if_pos (by omega), Option.bind_some, ← Bool.and_true (s.data.toList.all letter)]
 refine loop_all (xs := s.data.toList) (by omega) (fun f i v hi hv hw => ?_) (fun f => ?_)
 ·have : (i : Int) < s.data.toList.length := by omega
  have hb : v.toNat < 256 := v.toNat_lt
  have h1 : w64 (v.toNat : Int) = v.toNat := w64_of (by omega) (by omega)
  simp only [impl_letters_l0, this, decide_true, cond_true, getI_nat, hv, Option.bind_some, impl_in, hw, h1]
  have : inR (v.toNat : Int) 97 122 = letter v := by
   unfold inR letter
   congr 1 <;> simp only [decide_eq_decide] <;> omega
  rw [this]
  cases letter v <;> rfl
 ·simp only [impl_letters_l0, Int.lt_irrefl, decide_false, cond_false]
def valOk (v : T_impl_Value) : Bool := bif v.fKind == 0 then v.fN == 0 && v.fS.toList == (ByteArray.mk #[]).toList else bif v.fKind == 1 then inR v.fN (-9999) 9999 && v.fS.toList == (ByteArray.mk #[]).toList else
 bif v.fKind == 2 then v.fN == 0 && textOk v.fS else bif v.fKind == 3 then inR v.fN 0 1 && v.fS.toList == (ByteArray.mk #[]).toList else false
theorem spec_value {v : T_impl_Value} (h : Sm v.fS.size) : spec_ValueOk v = some (valOk v) := by
 unfold spec_ValueOk valOk
 simp only [spec_in, spec_text h, Option.bind_some]
 cases v.fKind == 0 <;> cases v.fKind == 1 <;> cases v.fKind == 2 <;> cases v.fKind == 3 <;> cases v.fN == 0 <;> cases inR v.fN (-9999) 9999 <;> cases inR v.fN 0 1 <;> rfl
theorem impl_value {v : T_impl_Value} (h : Sm v.fS.size) : impl_Value_ok v = some (valOk v) := by
 unfold impl_Value_ok valOk
 simp only [impl_in, impl_lettersOk h, Option.bind_some]
 have e : eq_T_impl_Value v ((T_impl_Value.mk 0 0 (ByteArray.mk #[]))) = (v.fKind == 0 && (v.fN == 0 && v.fS.toList == (ByteArray.mk #[]).toList)) := rfl
 have e2 : decide ((v.fS.size : Int) ≤ 6) = decide (v.fS.size ≤ 6) := by
  simp only [decide_eq_decide]
  omega
 have e3 : textOk v.fS = (v.fS.data.toList.all letter && decide (v.fS.size ≤ 6)) := rfl
 rw [e, e2, e3]
 cases v.fKind == 0 <;> cases v.fKind == 1 <;> cases v.fKind == 2 <;> cases v.fKind == 3 <;> cases v.fN == 0 <;> cases inR v.fN (-9999) 9999 <;> cases inR v.fN 0 1 <;> cases v.fS.toList == (ByteArray.mk #[]).toList <;>
  cases decide (v.fS.size ≤ 6) <;> cases v.fS.data.toList.all letter <;> rfl
def SmV (v : T_impl_Value) : Prop := Sm v.fS.size
def SmR (r : List T_impl_Value) : Prop := Sm r.length ∧ ∀ v ∈ r, SmV v
def rowOk (r : List T_impl_Value) : Bool := r.all valOk && decide (r.length ≤ 4)
theorem spec_rowOk {r : List T_impl_Value} (h : SmR r) : spec_RowOk r = some (rowOk r) := by
 unfold spec_RowOk rowOk
 have hl := h.1
 refine loop_all (by omega) (fun f i v hi hv hw => ?_) (fun f => ?_)
 ·have : (i : Int) < r.length := by omega
  simp only [spec_RowOk_l0, this, decide_true, cond_true, getI_nat, hv, Option.bind_some, spec_value (h.2 v (List.mem_of_getElem? hv)), hw]
  cases valOk v <;> rfl
 ·simp only [spec_RowOk_l0, Int.lt_irrefl, decide_false, cond_false]
  congr 1
  simp only [decide_eq_decide]
  omega
theorem impl_rowAny {r : List T_impl_Value} (h : SmR r) : slices_ContainsFunc_impl_Value_impl_Value r impl_RowOk_1 = some (r.any fun v => !(valOk v)) := by
 unfold slices_ContainsFunc_impl_Value_impl_Value slices_IndexFunc_impl_Value_impl_Value
 have hl := h.1
 obtain ⟨x, h1, h2⟩ := loop_find (xs := r) (L := slices_IndexFunc_impl_Value_impl_Value_l0 r impl_RowOk_1) (p := fun v => !(valOk v)) (by omega) (fun f i v hi hv hw => by
  have : (i : Int) < r.length := by omega
  simp only [slices_IndexFunc_impl_Value_impl_Value_l0, this, decide_true, cond_true, getI_nat, hv, Option.bind_some, impl_RowOk_1, impl_value (h.2 v (List.mem_of_getElem? hv)), hw]) (fun f => by
  simp only [slices_IndexFunc_impl_Value_impl_Value_l0, Int.lt_irrefl, decide_false, cond_false])
 rw [h1, Option.bind_some, h2]
theorem le4 {α : Type} (xs : List α) : decide ((xs.length : Int) ≤ 4) = decide (xs.length ≤ 4) := by
 simp only [decide_eq_decide]
 omega
theorem impl_rowOk {r : List T_impl_Value} (h : SmR r) : impl_RowOk r = some (rowOk r) := by
 unfold impl_RowOk rowOk
 rw [impl_rowAny h, Option.bind_some, not_any_not, le4]
 cases decide (r.length ≤ 4) <;> simp
theorem zip_get {α β : Type} {xs : List α} {ys : List β} (h : xs.length = ys.length) {i : Nat} {p : α × β} (hp : (xs.zip ys)[i]? = some p) : xs[i]? = some p.1 ∧ ys[i]? = some p.2 := by
 rw [List.getElem?_zip_eq_some] at hp
 exact hp
def SmRs (rs : List (List T_impl_Value)) : Prop := Sm rs.length ∧ ∀ r ∈ rs, SmR r
end Go.D
set_option linter.unusedVariables false
namespace Go.D
theorem g2 {α : Type} {xs : List α} (a b : α) : getI (xs ++ [a, b]) (xs.length : Int) = some a := by
 rw [getI_nat]
 simp
theorem g3 {α : Type} {xs : List α} (b : α) : getI (xs ++ [b]) (xs.length : Int) = some b := by
 rw [getI_nat]
 simp
section
variable {α : Type} {xs : List α} (h : xs.length ≤ 2097152)
include h
theorem g1 (a b : α) : getI (xs ++ [a, b]) (w64 (((xs ++ [a, b]).length : Int) - 1)) = some b := by
 have e : (((xs ++ [a, b]).length : Int) - 1) = ((xs.length + 1 : Nat) : Int) := by simp only [List.length_append, List.length_cons, List.length_nil]; omega
 rw [e, w64_of (by omega) (by omega), getI_nat]
 simp
end
section
variable {α : Type} {xs : List α}
end
end Go.D
set_option linter.unusedVariables false
namespace Go.D
end Go.D
set_option linter.unusedVariables false
namespace Go.D
theorem fuel3 : ∃ F, FUEL = F + 1 + 1 + 1 := by
 have h : 3 ≤ FUEL := by unfold FUEL; omega
 exact ⟨FUEL - 3, by omega⟩
end Go.D
set_option linter.unusedVariables false
namespace Go.D
end Go.D
set_option linter.unusedVariables false
namespace Go.D
theorem loop_opt {α σ β : Type} {xs : List α} {L : Nat → Int → σ → Option β} (R : List α → σ → Option β) (Inv : Nat → σ → Prop) (hlen : xs.length ≤ 70368744177662)
  (h : ∀ (f i : Nat) (s : σ) (v : α), i < xs.length → xs[i]? = some v → w64 ((i : Int) + 1) = ((i + 1 : Nat) : Int) → Inv i s →
   L (f + 1) i s = R (v :: xs.drop (i + 1)) s ∨ ∃ s', Inv (i + 1) s' ∧ L (f + 1) i s = L f ((i + 1 : Nat) : Int) s' ∧ R (v :: xs.drop (i + 1)) s = R (xs.drop (i + 1)) s')
  (he : ∀ f s, Inv xs.length s → L (f + 1) (xs.length : Int) s = R [] s) {s : σ} (h0 : Inv 0 s) : L FUEL 0 s = R xs s := by
 have main : ∀ (k f i : Nat) (s : σ), i + k = xs.length → k < f → Inv i s → L f (i : Int) s = R (xs.drop i) s := by
  intro k
  induction k with
  | zero =>
   intro f i s hi hf hI
   obtain ⟨f, rfl⟩ : ∃ f', f = f' + 1 := ⟨f - 1, by omega⟩
   have : i = xs.length := by omega
   subst this
   rw [he _ _ hI, List.drop_length]
  | succ k ih =>
   intro f i s hi hf hI
   obtain ⟨f, rfl⟩ : ∃ f', f = f' + 1 := ⟨f - 1, by omega⟩
   have hlt : i < xs.length := by omega
   rw [List.drop_eq_getElem_cons hlt]
   rcases h f i s xs[i] hlt (List.getElem?_eq_getElem hlt) (succ_w hlt (by omega)) hI with h1 | ⟨s', h1, h2, h3⟩
   ·exact h1
   ·rw [h2, h3]
    exact ih f (i + 1) s' (by omega) (by omega) h1
 have := main xs.length FUEL 0 s (by omega) (by unfold FUEL; omega) h0
 simpa using this
end Go.D
set_option linter.unusedVariables false
namespace Go.D
def cmpI (a b : Int) : Int := if a < b then -1 else if a > b then 1 else 0
def cmpS (a b : ByteArray) : Int := bif Op.bytesLess a.toList b.toList then -1 else bif !Op.bytesLess a.toList b.toList && !(a.toList == b.toList) then 1 else 0
def ordV (a b : T_impl_Value) : Int := if cmpI a.fKind b.fKind ≠ 0 then cmpI a.fKind b.fKind else if cmpI a.fN b.fN ≠ 0 then cmpI a.fN b.fN else cmpS a.fS b.fS
theorem impl_cmpI (a b : Int) : cmp_Compare_int a b = some (cmpI a b) := by
 unfold cmp_Compare_int cmp_isNaN_int cmpI
 simp only [beq_self_eq_true, Bool.not_true, Option.bind_some, cond_false]
 by_cases h : a < b
 ·simp [h]
 ·by_cases h2 : a > b
  ·simp [h, h2]
  ·simp [h, h2]
theorem impl_cmpS (a b : ByteArray) : cmp_Compare_string a b = some (cmpS a b) := by
 unfold cmp_Compare_string cmp_isNaN_string cmpS
 simp only [beq_self_eq_true, Bool.not_true, Option.bind_some, cond_false]
 cases Op.bytesLess a.toList b.toList <;> cases a.toList == b.toList <;> rfl
theorem fuel4 : ∃ F, FUEL = F + 1 + 1 + 1 + 1 := by
 have h : 4 ≤ FUEL := by unfold FUEL; omega
 exact ⟨FUEL - 4, by omega⟩
theorem impl_or3 (a b c : Int) : cmp_Or_int [a, b, c] = some (if a ≠ 0 then a else if b ≠ 0 then b else c) := by
 obtain ⟨F, hF⟩ := fuel4
 unfold cmp_Or_int
 rw [hF]
 have w3 : w64 (0 + 1) = 1 := w64_of (by omega) (by omega)
 have w4 : w64 (1 + 1) = 2 := w64_of (by omega) (by omega)
 have w5 : w64 (2 + 1) = 3 := w64_of (by omega) (by omega)
 have i0 : getI [a, b, c] 0 = some a := rfl
 have i1 : getI [a, b, c] 1 = some b := rfl
 have i2 : getI [a, b, c] 2 = some c := rfl
 have l0 : decide ((0 : Int) < (([a, b, c] : List Int).length : Int)) = true := rfl
 have l1 : decide ((1 : Int) < (([a, b, c] : List Int).length : Int)) = true := rfl
 have l2 : decide ((2 : Int) < (([a, b, c] : List Int).length : Int)) = true := rfl
 have l3 : decide ((3 : Int) < (([a, b, c] : List Int).length : Int)) = false := rfl
 rw [cmp_Or_int_l0, l0, cond_true, i0, Option.bind_some, w3, cmp_Or_int_l0, l1, cond_true, i1, Option.bind_some, w4, cmp_Or_int_l0, l2, cond_true, i2, Option.bind_some, w5, cmp_Or_int_l0, l3, cond_false]
 have bf : ∀ {x : Int}, ¬ x = 0 → (x == 0) = false := fun h => by simp [h]
 by_cases ha : a = 0
 ·subst ha
  by_cases hb : b = 0
  ·subst hb
   by_cases hc : c = 0
   ·subst hc
    rfl
   ·rw [bf hc]
    simp
  ·rw [bf hb]
   simp [hb]
 ·rw [bf ha]
  simp [ha]
theorem impl_ord (a b : T_impl_Value) : impl_Value_order a b = some (ordV a b) := by
 unfold impl_Value_order
 simp only [impl_cmpI, impl_cmpS, impl_or3, Option.bind_some, ordV]
theorem spec_less (a b : Int) : (bif !(a == b) then (spec_l1Less b a).bind fun v => some (w64 (w64 (2 * v) - 1)) else none) = (if a = b then none else some (cmpI a b)) := by
 have w1 : w64 (w64 (2 * 1) - 1) = 1 := by rw [w64_of (n := 2 * 1) (by omega) (by omega), w64_of] <;> omega
 have w0 : w64 (w64 (2 * 0) - 1) = -1 := by rw [w64_of (n := 2 * 0) (by omega) (by omega), w64_of] <;> omega
 unfold spec_l1Less cmpI
 by_cases h : a = b
 ·simp [h]
 ·have e : (a == b) = false := by simp [h]
  rw [e, if_neg h, Bool.not_false, cond_true]
  by_cases h1 : b < a
  ·have : ¬ a < b := by omega
   rw [decide_eq_true h1, cond_true, Option.bind_some, w1, if_neg this, if_pos h1]
  ·have : a < b := by omega
   rw [decide_eq_false h1, cond_false, Option.bind_some, w0, if_pos this]
theorem cmpI_ne {a b : Int} (h : a ≠ b) : cmpI a b ≠ 0 := by
 unfold cmpI
 split
 ·omega
 ·split <;> omega
theorem cmpI_eq (a : Int) : cmpI a a = 0 := by simp [cmpI]
theorem spec_ord {a b : T_impl_Value} (sa : SmV a) (sb : SmV b) (ha : valOk a = true) (hb : valOk b = true) : spec_ValueOrder a b = some (ordV a b) := by
 unfold spec_ValueOrder
 rw [spec_value sa, Option.bind_some, spec_value sb, Option.bind_some, ha, hb]
 simp only [Bool.not_true, cond_false, spec_ValueOrder_j0]
 have hk := spec_less a.fKind b.fKind
 have hn := spec_less a.fN b.fN
 unfold ordV
 by_cases h1 : a.fKind = b.fKind
 ·rw [if_neg (by rw [h1, cmpI_eq]; simp)]
  by_cases h2 : a.fN = b.fN
  ·rw [if_neg (by rw [h2, cmpI_eq]; simp)]
   simp only [h1, h2, beq_self_eq_true, Bool.not_true, cond_false, spec_l1Cmp, cmpS]
   cases Op.bytesLess a.fS.toList b.fS.toList <;> cases a.fS.toList == b.fS.toList <;> rfl
  ·rw [if_pos (cmpI_ne h2)]
   rw [if_neg h2] at hn
   have e : (a.fN == b.fN) = false := by simp [h2]
   rw [e] at hn ⊢
   simp only [h1, beq_self_eq_true, Bool.not_true, cond_false]
   exact hn
 ·rw [if_pos (cmpI_ne h1)]
  rw [if_neg h1] at hk
  have e : (a.fKind == b.fKind) = false := by simp [h1]
  rw [e] at hk ⊢
  exact hk
end Go.D
set_option linter.unusedVariables false
namespace Go.D
theorem ord_int : Ord3 cmpI := by
 refine ⟨fun x => ?_, fun x y e => ?_, fun x y e => ?_, fun x y z e1 e2 => ?_⟩ <;> unfold cmpI at *
 ·simp
 ·repeat' split at e
  all_goals (repeat' split) <;> omega
 ·repeat' split at e
  all_goals (repeat' split) <;> omega
 ·repeat' split at e1
  all_goals (repeat' split at e2)
  all_goals (repeat' split) <;> omega
end Go.D
set_option linter.unusedVariables false
namespace Go.D
theorem bl_eq : ∀ (x y : List UInt8), Op.bytesLess x y = decide (x < y)
 | [], [] => by simp [Op.bytesLess]
 | _ :: _, [] => by simp [Op.bytesLess]
 | [], _ :: _ => by simp [Op.bytesLess]
 | a :: x, b :: y => by
  rw [Op.bytesLess, bl_eq x y]
  simp only [List.cons_lt_cons_iff]
  by_cases h1 : a < b <;> by_cases h2 : a = b <;> by_cases h3 : x < y <;> simp [h1, h2, h3]
theorem cmpS_eq (a b : ByteArray) : cmpS a b = if a.toList < b.toList then -1 else if a.toList = b.toList then 0 else 1 := by
 unfold cmpS
 rw [bl_eq]
 by_cases h : a.toList < b.toList
 ·simp [h]
 ·by_cases e : a.toList = b.toList
  ·simp [e]
  ·have e2 : (a.toList == b.toList) = false := beq_eq_false_iff_ne.2 e
   rw [decide_eq_false h, e2, if_neg h, if_neg e]
   rfl
theorem ord_str : Ord3 cmpS := by
 have tri : ∀ a b : List UInt8, ¬ a < b → a ≠ b → b < a := fun a b h n => by
  rcases List.le_total a b with k | k
  ·exact absurd (List.le_antisymm k (List.not_lt.1 h)) n
  ·rcases List.le_iff_lt_or_eq.1 k with k | k
   ·exact k
   ·exact absurd k.symm n
 have irr : ∀ a : List UInt8, ¬ a < a := fun a => List.lt_irrefl a
 have asy : ∀ a b : List UInt8, a < b → ¬ b < a := fun a b h k => List.lt_irrefl a (List.lt_trans h k)
 refine ⟨fun x => ?_, fun x y e => ?_, fun x y e => ?_, fun x y z e1 e2 => ?_⟩
 ·rw [cmpS_eq, if_neg (irr _), if_pos rfl]
 ·rw [cmpS_eq] at e ⊢
  have h : x.toList < y.toList := by
   split at e
   ·assumption
   ·split at e <;> omega
  rw [if_neg (asy _ _ h), if_neg (fun k => irr _ (by rw [k] at h; exact h))]
  omega
 ·rw [cmpS_eq] at e ⊢
  have h : y.toList < x.toList := by
   split at e
   ·omega
   ·split at e
    ·omega
    ·exact tri _ _ (by assumption) (by assumption)
  rw [if_pos h]
  omega
 ·rw [cmpS_eq] at e1 e2 ⊢
  have le : ∀ a b : ByteArray, (if a.toList < b.toList then (-1 : Int) else if a.toList = b.toList then 0 else 1) ≤ 0 → a.toList < b.toList ∨ a.toList = b.toList := fun a b e => by
   split at e
   ·exact .inl (by assumption)
   ·split at e
    ·exact .inr (by assumption)
    ·omega
  have : x.toList < z.toList ∨ x.toList = z.toList := by
   rcases le _ _ e1 with h1 | h1
   ·rcases le _ _ e2 with h2 | h2
    ·exact .inl (List.lt_trans h1 h2)
    ·exact .inl (by rw [← h2]; exact h1)
   ·rcases le _ _ e2 with h2 | h2
    ·exact .inl (by rw [h1]; exact h2)
    ·exact .inr (h1.trans h2)
  rcases this with h | h
  ·rw [if_pos h]
   omega
  ·rw [if_neg (by rw [h]; exact irr _), if_pos h]
   omega
theorem ord_val : Ord3 ordV := (ord_int.on T_impl_Value.fKind).lex ((ord_int.on T_impl_Value.fN).lex (ord_str.on T_impl_Value.fS))
end Go.D
set_option linter.unusedVariables false
namespace Go.D
theorem ins_perm {α : Type} (xs : List α) (m : α) (k : Nat) : (xs.take k ++ m :: xs.drop k).Perm (m :: xs) := by
 have := List.perm_middle (a := m) (l₁ := xs.take k) (l₂ := xs.drop k)
 rwa [List.take_append_drop] at this
theorem ins_asc {α : Type} {R : α → α → Prop} (ht : ∀ a b c, R a b → R b c → R a c) {xs : List α} {m : α} {k : Nat} (hk : k ≤ xs.length) (hs : xs.Pairwise R)
  (h1 : ∀ j (hj : j < xs.length), k ≤ j → R m xs[j]) (h2 : ∀ (hj : k - 1 < xs.length), k ≠ 0 → R (xs[k - 1]'hj) m) : (xs.take k ++ m :: xs.drop k).Pairwise R := by
 have hidx := List.pairwise_iff_getElem.1 hs
 rw [List.pairwise_append, List.pairwise_cons]
 refine ⟨hs.sublist (List.take_sublist _ _), ⟨fun y hy => ?_, hs.sublist (List.drop_sublist _ _)⟩, fun x hx y hy => ?_⟩
 ·obtain ⟨j, hj, rfl⟩ := List.getElem_of_mem hy
  rw [List.getElem_drop]
  exact h1 _ _ (Nat.le_add_right _ _)
 ·obtain ⟨i, hi, rfl⟩ := List.getElem_of_mem hx
  have hi' : i < k := by
   rw [List.length_take] at hi
   omega
  rw [List.getElem_take]
  have hxm : R (xs[i]'(by omega)) m := by
   by_cases e : i = k - 1
   ·subst e
    exact h2 (by omega) (by omega)
   ·exact ht _ _ _ (hidx i (k - 1) (by omega) (by omega) (by omega)) (h2 (by omega) (by omega))
  rcases List.mem_cons.1 hy with rfl | hy
  ·exact hxm
  ·obtain ⟨j, hj, rfl⟩ := List.getElem_of_mem hy
   rw [List.getElem_drop]
   exact ht _ _ _ hxm (h1 _ _ (Nat.le_add_right _ _))
end Go.D
set_option linter.unusedVariables false
namespace Go.D
theorem v2 {rs : List Int} {st : List T_impl_Value} {b a : Int} {r : List Int} (h : rs.length = st.length) (hr : rs = b :: a :: r) : ∃ y x t, st = y :: x :: t ∧ r.length = t.length := by
 subst hr
 match st, h with
 | y :: x :: t, h => exact ⟨y, x, t, rfl, by simpa using h⟩
theorem v1 {rs : List Int} {st : List T_impl_Value} {b : Int} {r : List Int} (h : rs.length = st.length) (hr : rs = b :: r) : ∃ y t, st = y :: t ∧ r.length = t.length := by
 subst hr
 match st, h with
 | y :: t, h => exact ⟨y, t, rfl, by simpa using h⟩
section
variable {α : Type} {xs : List α} (h : xs.length ≤ 2097152)
include h
end
end Go.D
set_option linter.unusedVariables false
namespace Go.D
theorem clip_id {α : Type} (a : List α) : slI a none (some (a.length : Int)) (some (a.length : Int)) = some a := by simp [slI]
section
end
end Go.D
set_option linter.unusedVariables false
namespace Go.D
theorem len_beqN (m n : Nat) : ((m : Int) == (n : Int)) = (m == n) := by
  cases h : m == n with
  | true => have : m = n := by simpa using h
            subst this; simp
  | false => have : m ≠ n := by simpa using h
             simp; omega
theorem toList_loop (s : ByteArray) : ∀ (k i : Nat) (r : List UInt8), i + k = s.size → ByteArray.toList.loop s i r = r.reverse ++ s.data.toList.drop i
 | 0, i, r, h => by
  rw [ByteArray.toList.loop, if_neg (by omega), List.drop_of_length_le (by rw [Array.length_toList]; show s.size ≤ i; omega), List.append_nil]
 | k + 1, i, r, h => by
  have hi : i < s.data.toList.length := by rw [Array.length_toList]; show i < s.size; omega
  rw [ByteArray.toList.loop, if_pos (by omega), toList_loop s k (i + 1) _ (by omega), List.drop_eq_getElem_cons hi, List.reverse_cons, List.append_assoc]
  congr 1
  rw [List.singleton_append]
  congr 1
  show s.data[i]! = _
  rw [getElem!_pos s.data i (by rw [Array.length_toList] at hi; exact hi)]
  simp
theorem bytes_toList (s : ByteArray) : s.toList = s.data.toList := by
 unfold ByteArray.toList
 rw [toList_loop s s.size 0 [] (by omega)]
 simp
theorem eqV_iff (a b : T_impl_Value) : eq_T_impl_Value a b = true ↔ a = b := by
 obtain ⟨k, n, s⟩ := a
 obtain ⟨k', n', s'⟩ := b
 simp only [eq_T_impl_Value, andB, Bool.and_eq_true, beq_iff_eq, T_impl_Value.mk.injEq]
 refine ⟨fun h => ?_, fun h => ?_⟩
 ·obtain ⟨h1, h2, h3⟩ := h
  refine ⟨h1, h2, ?_⟩
  rw [bytes_toList, bytes_toList] at h3
  exact ByteArray.ext (Array.toList_inj.1 h3)
 ·obtain ⟨rfl, rfl, rfl⟩ := h
  exact ⟨rfl, rfl, rfl⟩
def rowEq (a b : List T_impl_Value) : Bool := a.length == b.length && (a.zip b).all fun p => eq_T_impl_Value p.1 p.2
theorem zip_eq : ∀ {a b : List T_impl_Value}, a.length = b.length → (((a.zip b).all fun p => eq_T_impl_Value p.1 p.2) = true ↔ a = b)
 | [], [], _ => by simp
 | x :: xs, [], h => by simp at h
 | [], y :: ys, h => by simp at h
 | x :: xs, y :: ys, h => by
  have := zip_eq (a := xs) (b := ys) (by simpa using h)
  simp only [List.zip_cons_cons, List.all_cons, Bool.and_eq_true, this, eqV_iff, List.cons.injEq]
theorem rowEq_iff {a b : List T_impl_Value} : rowEq a b = true ↔ a = b := by
 unfold rowEq
 rw [Bool.and_eq_true, beq_iff_eq]
 refine ⟨fun h => (zip_eq h.1).1 h.2, fun h => ?_⟩
 have hl : a.length = b.length := by rw [h]
 exact ⟨hl, (zip_eq hl).2 h⟩
theorem rowEq_refl (a : List T_impl_Value) : rowEq a a = true := rowEq_iff.2 rfl
theorem loop_two {α : Type} {xs ys : List α} {L : Nat → Int → Option Bool} {p : α → α → Bool} (hlen : xs.length ≤ 70368744177662) (he : xs.length = ys.length)
  (h : ∀ (f i : Nat) (x y : α), i < xs.length → xs[i]? = some x → ys[i]? = some y → w64 ((i : Int) + 1) = ((i + 1 : Nat) : Int) → L (f + 1) i = bif p x y then L f ((i + 1 : Nat) : Int) else some false)
  (hz : ∀ f, L (f + 1) (xs.length : Int) = some true) : L FUEL 0 = some ((xs.zip ys).all fun q => p q.1 q.2) := by
 have hl : (xs.zip ys).length = xs.length := by rw [List.length_zip]; omega
 have := loop_all (xs := xs.zip ys) (L := L) (p := fun q => p q.1 q.2) (fin := true) (by omega) (fun f i v hi hv hw => by
  obtain ⟨h1, h2⟩ := zip_get he hv
  exact h f i v.1 v.2 (by omega) h1 h2 hw) (fun f => by rw [hl]; exact hz f)
 rw [this, Bool.and_true]
theorem laws_sameRow_ok {a b : List T_impl_Value} (h : a.length ≤ 70368744177662) : laws_sameRow a b = some (rowEq a b) := by
 unfold laws_sameRow rowEq
 have e : ((a.length : Int) == (b.length : Int)) = (a.length == b.length) := len_beqN _ _
 rw [e]
 cases hl : a.length == b.length with
 | false => rfl
 | true =>
  rw [Bool.not_true, cond_false, Bool.true_and]
  refine loop_two (L := fun f i => laws_sameRow_l0 a b f i) h (by simpa using hl) (fun f i x y hi hx hy hw => ?_) (fun f => ?_)
  ·rw [laws_sameRow_l0, decide_eq_true (by omega), cond_true, getI_nat, hx, Option.bind_some, getI_nat, hy, Option.bind_some, hw]
   cases eq_T_impl_Value x y <;> rfl
  ·rw [laws_sameRow_l0, decide_eq_false (Int.lt_irrefl _), cond_false]
theorem slices_Equal_ok {a b : List T_impl_Value} (h : a.length ≤ 70368744177662) : slices_Equal_impl_Value_impl_Value a b = some (rowEq a b) := by
 unfold slices_Equal_impl_Value_impl_Value rowEq
 have e : ((a.length : Int) == (b.length : Int)) = (a.length == b.length) := len_beqN _ _
 rw [e]
 cases hl : a.length == b.length with
 | false => rfl
 | true =>
  rw [Bool.not_true, cond_false, Bool.true_and]
  refine loop_two (L := fun f i => slices_Equal_impl_Value_impl_Value_l0 a b f i) h (by simpa using hl) (fun f i x y hi hx hy hw => ?_) (fun f => ?_)
  ·rw [slices_Equal_impl_Value_impl_Value_l0, decide_eq_true (by omega), cond_true, getI_nat, hx, Option.bind_some, getI_nat, hy, Option.bind_some, hw]
   cases eq_T_impl_Value x y <;> rfl
  ·rw [slices_Equal_impl_Value_impl_Value_l0, decide_eq_false (Int.lt_irrefl _), cond_false]
theorem laws_sameRows_ok {a b : List (List T_impl_Value)} (h : SmRs a) : laws_sameRows a b = some (a.length == b.length && (a.zip b).all fun p => rowEq p.1 p.2) := by
 unfold laws_sameRows
 have e : ((a.length : Int) == (b.length : Int)) = (a.length == b.length) := len_beqN _ _
 have h1 := h.1
 rw [e]
 cases hl : a.length == b.length with
 | false => rfl
 | true =>
  rw [Bool.not_true, cond_false, Bool.true_and]
  refine loop_two (L := fun f i => laws_sameRows_l0 a b f i) (by omega) (by simpa using hl) (fun f i x y hi hx hy hw => ?_) (fun f => ?_)
  ·have hs := (h.2 x (List.mem_of_getElem? hx)).1
   rw [laws_sameRows_l0, decide_eq_true (by omega), cond_true, getI_nat, hx, Option.bind_some, getI_nat, hy, Option.bind_some, laws_sameRow_ok (by omega), Option.bind_some, hw]
   cases rowEq x y <;> rfl
  ·rw [laws_sameRows_l0, decide_eq_false (Int.lt_irrefl _), cond_false]
theorem laws_sameRows_refl {a : List (List T_impl_Value)} (h : SmRs a) : laws_sameRows a a = some true := by
 rw [laws_sameRows_ok h, beq_self_eq_true, Bool.true_and]
 congr 1
 rw [List.all_eq_true]
 intro p hp
 obtain ⟨i, hi, rfl⟩ := List.mem_iff_getElem.1 hp
 rw [List.getElem_zip]
 exact rowEq_refl _
def many (rows : List (List T_impl_Value)) (r : List T_impl_Value) : Nat := rows.countP fun x => rowEq x r
theorem many_nil (r : List T_impl_Value) : many [] r = 0 := rfl
theorem many_app (a b : List (List T_impl_Value)) (r : List T_impl_Value) : many (a ++ b) r = many a r + many b r := List.countP_append
theorem many_pos {rows : List (List T_impl_Value)} {r : List T_impl_Value} : 0 < many rows r ↔ r ∈ rows := by
 unfold many
 rw [List.countP_pos_iff]
 exact ⟨fun ⟨x, h1, h2⟩ => by rw [← rowEq_iff.1 h2]; exact h1, fun h => ⟨r, h, rowEq_refl r⟩⟩
theorem impl_many {rows : List (List T_impl_Value)} (h : SmRs rows) (r : List T_impl_Value) : impl_RowMany rows r = some (many rows r : Int) := by
 have h1 := h.1
 unfold impl_RowMany
 have := loop_opt (xs := rows) (L := fun f i (n : Int) => impl_RowMany_l0 rows r f n i) (fun rest n => some (n + (many rest r : Int))) (fun i n => 0 ≤ n ∧ n ≤ (i : Int)) (by omega)
  (fun f i n v hi hv hw hI => by
   have hs := (h.2 v (List.mem_of_getElem? hv)).1
   have hI1 := hI.1
   have hI2 := hI.2
   have e1 : ∀ rest, many (v :: rest) r = many rest r + if rowEq v r = true then 1 else 0 := fun rest => List.countP_cons
   cases hr : rowEq v r with
   | true =>
    refine .inr ⟨n + 1, ⟨by omega, by omega⟩, ?_, ?_⟩
    ·rw [impl_RowMany_l0, decide_eq_true (by omega), cond_true, getI_nat, hv, Option.bind_some, slices_Equal_ok (by omega), Option.bind_some, hr, cond_true, hw, w64_of (by omega) (by omega)]
    ·rw [e1, hr]; simp only [if_true]; congr 1; omega
   | false =>
    refine .inr ⟨n, ⟨by omega, by omega⟩, ?_, ?_⟩
    ·rw [impl_RowMany_l0, decide_eq_true (by omega), cond_true, getI_nat, hv, Option.bind_some, slices_Equal_ok (by omega), Option.bind_some, hr, cond_false, hw]
    ·rw [e1, hr]; simp)
  (fun f n hI => by rw [impl_RowMany_l0, decide_eq_false (Int.lt_irrefl _), cond_false, many_nil]; simp) (s := 0) ⟨by omega, by simp⟩
 rw [this, Int.zero_add]
theorem alive_t : laws_alive = some true := by
 have e0 : (ByteArray.mk #[]).size = 0 := rfl
 unfold laws_alive impl_ValueOk
 rw [impl_value (v := T_impl_Value.mk 1 3 (ByteArray.mk #[])) (by simp [e0]), Option.bind_some, impl_value (v := T_impl_Value.mk 9 0 (ByteArray.mk #[])) (by simp [e0]), Option.bind_some]
 have h1 : valOk (T_impl_Value.mk 1 3 (ByteArray.mk #[])) = true := by simp [valOk, inR]
 have h2 : valOk (T_impl_Value.mk 9 0 (ByteArray.mk #[])) = false := by simp [valOk]
 rw [h1, h2]
 rfl
end Go.D
set_option linter.unusedVariables false
namespace Go.D
end Go.D
set_option linter.unusedVariables false
namespace Go.D
end Go.D
set_option linter.unusedVariables false
namespace Go.D
end Go.D
set_option linter.unusedVariables false
namespace Go.D
theorem impl_cloneV {a : List T_impl_Value} (ha : a.length ≤ 4194304) : impl_clone_impl_Value a = some a := by
 unfold impl_clone_impl_Value slices_Clip_impl_Value_impl_Value
 cases h : ((a.length : Int)) == 0
 ·rw [cond_false, app_lt (by simp; omega), Option.bind_some, List.nil_append, show slI a none (some (a.length : Int)) (some (a.length : Int)) = some a by simp [slI]]
  rfl
 ·have : a = [] := by
   have : (a.length : Int) = 0 := by simpa using h
   exact List.eq_nil_of_length_eq_zero (by omega)
  subst this
  rfl
end Go.D
set_option linter.unusedVariables false
namespace Go.D
theorem impl_clipRs {xs : List (List T_impl_Value)} : slices_Clip_impl_Value_impl_Value_s3 xs = some xs := by
 unfold slices_Clip_impl_Value_impl_Value_s3
 rw [show slI xs none (some (xs.length : Int)) (some (xs.length : Int)) = some xs by simp [slI]]
 rfl
end Go.D
set_option linter.unusedVariables false
namespace Go.D
def ordR : List T_impl_Value → List T_impl_Value → Int
 | [], [] => 0
 | [], _ :: _ => -1
 | _ :: _, [] => 1
 | x :: xs, y :: ys => if ordV x y ≠ 0 then ordV x y else ordR xs ys
theorem ordV_0 {a b : T_impl_Value} : ordV a b = 0 ↔ a = b := by
 constructor
 ·intro h
  have e1 : ∀ x y : Int, cmpI x y = 0 → x = y := fun x y h => by
   unfold cmpI at h
   split at h
   ·omega
   ·split at h <;> omega
  unfold ordV at h
  split at h
  ·next hne => exact absurd h hne
  ·next h1 =>
   have k1 := e1 _ _ (Decidable.not_not.1 h1)
   split at h
   ·next hne => exact absurd h hne
   ·next h2 =>
    have k2 := e1 _ _ (Decidable.not_not.1 h2)
    rw [cmpS_eq] at h
    have k3 : a.fS.toList = b.fS.toList := by
     split at h
     ·omega
     ·split at h
      ·assumption
      ·omega
    rw [bytes_toList, bytes_toList] at k3
    cases a with | mk k n s => cases b with | mk k' n' s' =>
    simp only at k1 k2 k3
    subst k1 k2
    congr 1
    cases s with | mk s => cases s' with | mk s' =>
    simp only at k3
    exact congrArg ByteArray.mk (Array.toList_inj.1 k3)
 ·rintro rfl
  exact ord_val.refl _
theorem ord_row : Ord3 ordR := by
 have hr : ∀ x, ordR x x = 0 := by
  intro x
  induction x with
  | nil => rfl
  | cons a x ih => simp only [ordR, ord_val.refl, ne_eq, not_true_eq_false, if_false, ih]
 have hlt : ∀ x y, (ordR x y < 0 → 0 < ordR y x) ∧ (0 < ordR x y → ordR y x < 0) := by
  intro x
  induction x with
  | nil =>
   intro y
   cases y <;> simp [ordR]
  | cons a x ih =>
   intro y
   cases y with
   | nil => simp [ordR]
   | cons b y =>
    simp only [ordR]
    by_cases h : ordV a b = 0
    ·have h' := ord_val.eq h
     rw [if_neg (by simp [h]), if_neg (by simp [h'])]
     exact ih y
    ·have h' : ordV b a ≠ 0 := fun e => h (ord_val.eq e)
     rw [if_pos h, if_pos h']
     exact ⟨ord_val.lt a b, ord_val.gt a b⟩
 refine ⟨hr, fun x y => (hlt x y).1, fun x y => (hlt x y).2, ?_⟩
 intro x
 induction x with
 | nil =>
  intro y z h1 h2
  cases z with
  | nil => simp [ordR]
  | cons c z => simp [ordR]
 | cons a x ih =>
  intro y z h1 h2
  cases y with
  | nil => simp [ordR] at h1
  | cons b y =>
   cases z with
   | nil => simp [ordR] at h2
   | cons c z =>
    simp only [ordR] at h1 h2 ⊢
    by_cases k1 : ordV a b = 0
    ·have e := ordV_0.1 k1
     subst e
     rw [if_neg (by simp [k1])] at h1
     by_cases k2 : ordV a c = 0
     ·rw [if_neg (by simp [k2])] at h2 ⊢
      exact ih _ _ h1 h2
     ·rw [if_pos k2] at h2 ⊢
      exact h2
    ·rw [if_pos k1] at h1
     by_cases k2 : ordV b c = 0
     ·have e := ordV_0.1 k2
      subst e
      rw [if_pos k1]
      exact h1
     ·rw [if_pos k2] at h2
      have h3 := ord_val.le _ _ _ h1 h2
      by_cases k3 : ordV a c = 0
      ·have e := ordV_0.1 k3
       subst e
       have := ord_val.lt a b (by omega)
       omega
      ·rw [if_pos k3]
       exact h3
theorem ordR_0 : ∀ {a b : List T_impl_Value}, ordR a b = 0 ↔ a = b
 | [], [] => by simp [ordR]
 | [], _ :: _ => by simp [ordR]
 | _ :: _, [] => by simp [ordR]
 | x :: xs, y :: ys => by
  simp only [ordR]
  by_cases h : ordV x y = 0
  ·rw [if_neg (by simp [h]), ordR_0, ordV_0.1 h]
   simp
  ·rw [if_pos h]
   constructor
   ·intro e
    exact absurd e h
   ·intro e
    injection e with e1 e2
    exact absurd (ordV_0.2 e1) h
theorem cmpF_l0 (a b : List T_impl_Value) (ha : a.length ≤ 4194304) : ∀ (k i f : Nat), i + k = a.length → k < f → slices_CompareFunc_impl_Value_impl_Value_impl_Value_impl_Value_s2_l0 a b impl_Value_order f (i : Int) = some (ordR (a.drop i) (b.drop i))
 | 0, i, f + 1, hi, _ => by
  have hd : a.drop i = [] := List.drop_of_length_le (by omega)
  have h0 : ¬ (i : Int) < (a.length : Int) := by omega
  unfold slices_CompareFunc_impl_Value_impl_Value_impl_Value_impl_Value_s2_l0
  rw [decide_eq_false h0, cond_false, hd]
  by_cases hb : a.length < b.length
  ·have : (a.length : Int) < (b.length : Int) := by omega
   rw [decide_eq_true this, cond_true]
   cases hbd : b.drop i with
   | nil =>
    have := congrArg List.length hbd
    simp at this
    omega
   | cons y ys => rfl
  ·have : ¬ (a.length : Int) < (b.length : Int) := by omega
   rw [decide_eq_false this, cond_false, List.drop_of_length_le (by omega : b.length ≤ i)]
   rfl
 | k + 1, i, f + 1, hi, hf => by
  have hlt : i < a.length := by omega
  have h0 : (i : Int) < (a.length : Int) := by omega
  unfold slices_CompareFunc_impl_Value_impl_Value_impl_Value_impl_Value_s2_l0
  rw [decide_eq_true h0, cond_true, getI_nat, List.getElem?_eq_getElem hlt, Option.bind_some, List.drop_eq_getElem_cons hlt]
  by_cases hb : i < b.length
  ·have : ¬ (i : Int) ≥ (b.length : Int) := by omega
   rw [decide_eq_false this, cond_false, getI_nat, List.getElem?_eq_getElem hb, Option.bind_some, impl_ord, Option.bind_some, List.drop_eq_getElem_cons hb, succ_w hlt (by omega), cmpF_l0 a b ha k (i + 1) f (by omega) (by omega)]
   simp only [ordR]
   by_cases h : ordV a[i] b[i] = 0
   ·rw [h]
    simp
   ·have : (ordV a[i] b[i] == 0) = false := by simp [h]
    rw [this, if_pos h]
    rfl
  ·have : (i : Int) ≥ (b.length : Int) := by omega
   rw [decide_eq_true this, cond_true, List.drop_of_length_le (by omega : b.length ≤ i)]
   rfl
theorem cmpOr2 (a b : Int) : cmp_Or_int [a, b] = some (if a ≠ 0 then a else b) := by
 obtain ⟨F, hF⟩ : ∃ F, FUEL = F + 1 + 1 + 1 := ⟨FUEL - 3, by decide⟩
 unfold cmp_Or_int
 rw [hF]
 have e1 : w64 ((0 : Int) + 1) = 1 := by decide
 have e2 : w64 ((1 : Int) + 1) = 2 := by decide
 have g0 : getI [a, b] 0 = some a := rfl
 have g1 : getI [a, b] 1 = some b := rfl
 simp only [cmp_Or_int_l0, List.length_cons, List.length_nil, g0, g1, Option.bind_some, e1, e2]
 by_cases ha : a = 0
 ·subst ha
  by_cases hb : b = 0
  ·subst hb
   rfl
  ·have hb' : (b == 0) = false := by simp [hb]
   simp [hb']
 ·have ha' : (a == 0) = false := by simp [ha]
  simp [ha, ha']
theorem impl_ordR {a b : List T_impl_Value} (ha : Sm a.length) : impl_rowOrder a b = some (ordR a b) := by
 unfold impl_rowOrder slices_CompareFunc_impl_Value_impl_Value_impl_Value_impl_Value_s2
 have h := cmpF_l0 a b (by omega) a.length 0 FUEL (by omega) (Nat.lt_of_le_of_lt ha (by decide))
 rw [show ((0 : Nat) : Int) = 0 from rfl] at h
 rw [h, Option.bind_some, impl_cmpI, Option.bind_some, cmpOr2, List.drop_zero, List.drop_zero, Option.bind_some]
 by_cases e : ordR a b = 0
 ·rw [if_neg (by simp [e]), ordR_0.1 e, cmpI_eq, ord_row.refl]
 ·rw [if_pos e]
theorem l1Less_eq (a b : Int) : spec_l1Less a b = some (if a < b then 1 else 0) := by
 unfold spec_l1Less
 by_cases h : a < b
 ·rw [decide_eq_true h, if_pos h]; rfl
 ·rw [decide_eq_false h, if_neg h]; rfl
theorem spec_ordR_l (a b : List T_impl_Value) (ha : SmR a) (hb : SmR b) (va : ∀ v ∈ a, valOk v = true) (vb : ∀ v ∈ b, valOk v = true) : ∀ (k i f : Nat), i + k = a.length → i ≤ b.length → k < f → spec_RowOrder_l1 a b f (i : Int) = some (ordR (a.drop i) (b.drop i))
 | 0, i, f + 1, hi, hib, _ => by
  have hd : a.drop i = [] := List.drop_of_length_le (by omega)
  have h0 : ¬ (i : Int) < (a.length : Int) := by omega
  unfold spec_RowOrder_l1
  rw [decide_eq_false h0, cond_false, hd]
  simp only [spec_RowOrder_j2, cond_false, l1Less_eq, Option.bind_some]
  by_cases hb' : a.length < b.length
  ·have h1 : ¬ (b.length : Int) < (a.length : Int) := by omega
   have h2 : (a.length : Int) < (b.length : Int) := by omega
   rw [if_neg h1, if_pos h2]
   cases hbd : b.drop i with
   | nil =>
    have := congrArg List.length hbd
    simp at this
    omega
   | cons y ys => rfl
  ·have h2 : ¬ (a.length : Int) < (b.length : Int) := by omega
   rw [List.drop_of_length_le (by omega : b.length ≤ i), if_neg h2]
   by_cases h1 : (b.length : Int) < (a.length : Int)
   ·omega
   ·rw [if_neg h1]
    rfl
 | k + 1, i, f + 1, hi, hib, hf => by
  have hlt : i < a.length := by omega
  have h0 : (i : Int) < (a.length : Int) := by omega
  unfold spec_RowOrder_l1
  rw [decide_eq_true h0, cond_true, List.drop_eq_getElem_cons hlt]
  by_cases hb' : i < b.length
  ·have : (i : Int) < (b.length : Int) := by omega
   rw [decide_eq_true this, List.drop_eq_getElem_cons hb']
   simp only [spec_RowOrder_j2, cond_true]
   rw [getI_nat, List.getElem?_eq_getElem hlt, Option.bind_some, getI_nat, List.getElem?_eq_getElem hb', Option.bind_some, spec_ord (ha.2 _ (List.getElem_mem hlt)) (hb.2 _ (List.getElem_mem hb')) (va _ (List.getElem_mem hlt)) (vb _ (List.getElem_mem hb')), Option.bind_some,
    succ_w hlt (by have := ha.1; omega), spec_ordR_l a b ha hb va vb k (i + 1) f (by omega) (by omega) (by omega)]
   simp only [ordR]
   by_cases h : ordV a[i] b[i] = 0
   ·rw [h]
    simp
   ·have : (ordV a[i] b[i] == 0) = false := by simp [h]
    rw [this, if_pos h]
    rfl
  ·have : ¬ (i : Int) < (b.length : Int) := by omega
   have h1 : (b.length : Int) < (a.length : Int) := by omega
   have h2 : ¬ (a.length : Int) < (b.length : Int) := by omega
   rw [decide_eq_false this, List.drop_of_length_le (by omega : b.length ≤ i)]
   simp only [spec_RowOrder_j2, cond_false, l1Less_eq, Option.bind_some]
   rw [if_pos h1, if_neg h2]
   rfl
theorem rowOk_vals {r : List T_impl_Value} (h : rowOk r = true) : ∀ v ∈ r, valOk v = true := by
 unfold rowOk at h
 simp only [Bool.and_eq_true, List.all_eq_true] at h
 exact h.1
def ordK (a b : List T_impl_Value) : Int := bif rowOk a && rowOk b then ordR a b else 0
theorem spec_ordK {a b : List T_impl_Value} (ha : SmR a) (hb : SmR b) : spec_RowOrder a b = some (ordK a b) := by
 unfold spec_RowOrder ordK
 rw [spec_rowOk ha, Option.bind_some]
 cases va : rowOk a with
 | false => rfl
 | true =>
  rw [Bool.not_true, cond_false, spec_rowOk hb, Option.bind_some]
  cases vb : rowOk b with
  | false => rfl
  | true =>
   have h := spec_ordR_l a b ha hb (rowOk_vals va) (rowOk_vals vb) a.length 0 FUEL (by omega) (by omega) (Nat.lt_of_le_of_lt ha.1 (by decide))
   rw [show ((0 : Nat) : Int) = 0 from rfl, List.drop_zero, List.drop_zero] at h
   exact h
theorem impl_ordK {a b : List T_impl_Value} (ha : SmR a) (hb : SmR b) : impl_RowOrder a b = some (ordK a b) := by
 unfold impl_RowOrder ordK
 rw [impl_rowOk ha, Option.bind_some]
 cases va : rowOk a with
 | false => rfl
 | true =>
  rw [Bool.not_true, cond_false, impl_rowOk hb, Option.bind_some]
  cases vb : rowOk b with
  | false => rfl
  | true =>
   simp only [Bool.not_true, impl_RowOrder_j0, cond_false]
   rw [impl_ordR ha.1]
   rfl
def posV (out : List (List T_impl_Value)) (r : List T_impl_Value) : Nat → Nat
 | 0 => 0
 | n + 1 => match out[n]? with
  | some x => if ordK x r > 0 then posV out r n else n + 1
  | none => n + 1
def insV (out : List (List T_impl_Value)) (r : List T_impl_Value) : List (List T_impl_Value) := out.take (posV out r out.length) ++ [r] ++ out.drop (posV out r out.length)
def sortedV (xs : List (List T_impl_Value)) : List (List T_impl_Value) := xs.foldl insV []
theorem posV_le (out : List (List T_impl_Value)) (r : List T_impl_Value) : ∀ n, posV out r n ≤ n
 | 0 => Nat.le_refl _
 | n + 1 => by
  unfold posV
  split
  ·split
   ·exact Nat.le_succ_of_le (posV_le out r n)
   ·exact Nat.le_refl _
  ·exact Nat.le_refl _
theorem insV_len (out : List (List T_impl_Value)) (r : List T_impl_Value) : (insV out r).length = out.length + 1 := by
 have := posV_le out r out.length
 unfold insV
 simp only [List.length_append, List.length_take, List.length_drop, List.length_cons, List.length_nil]
 omega
theorem insV_perm (out : List (List T_impl_Value)) (r : List T_impl_Value) : (insV out r).Perm (r :: out) := by
 unfold insV
 rw [List.append_assoc]
 exact ins_perm out r _
theorem insV_mem {out : List (List T_impl_Value)} {r x : List T_impl_Value} : x ∈ insV out r ↔ x = r ∨ x ∈ out := by
 rw [(insV_perm out r).mem_iff]
 simp
theorem sorted_perm_go : ∀ (xs out : List (List T_impl_Value)), (xs.foldl insV out).Perm (out ++ xs)
 | [], out => by simp
 | x :: xs, out => by
  rw [List.foldl_cons]
  refine (sorted_perm_go xs (insV out x)).trans ?_
  refine ((insV_perm out x).append_right xs).trans ?_
  exact (List.perm_middle (l₁ := out) (a := x) (l₂ := xs)).symm
theorem sortedV_perm (xs : List (List T_impl_Value)) : (sortedV xs).Perm xs := by
 have := sorted_perm_go xs []
 rwa [List.nil_append] at this
theorem posV_spec (out : List (List T_impl_Value)) (r : List T_impl_Value) : ∀ n, n ≤ out.length → (∀ j (hj : j < out.length), posV out r n ≤ j → j < n → 0 < ordK out[j] r) ∧ (∀ (hj : posV out r n - 1 < out.length), posV out r n ≠ 0 → ordK (out[posV out r n - 1]'hj) r ≤ 0)
 | 0, _ => ⟨fun j hj h1 h2 => by omega, fun hj h => absurd rfl h⟩
 | n + 1, hn => by
  have hlt : n < out.length := by omega
  obtain ⟨ih1, ih2⟩ := posV_spec out r n (by omega)
  have hp : posV out r (n + 1) = if ordK out[n] r > 0 then posV out r n else n + 1 := by
   rw [posV]
   rw [List.getElem?_eq_getElem hlt]
  by_cases h : ordK out[n] r > 0
  ·rw [if_pos h] at hp
   rw [hp]
   refine ⟨fun j hj h1 h2 => ?_, ih2⟩
   by_cases e : j = n
   ·subst e
    exact h
   ·exact ih1 j hj h1 (by omega)
  ·rw [if_neg h] at hp
   rw [hp]
   refine ⟨fun j hj h1 h2 => by omega, fun hj _ => ?_⟩
   simp only [Nat.add_sub_cancel]
   omega
theorem ordK_ok {a b : List T_impl_Value} (ha : rowOk a = true) (hb : rowOk b = true) : ordK a b = ordR a b := by
 unfold ordK
 rw [ha, hb]
 rfl
abbrev AscR (xs : List (List T_impl_Value)) : Prop := xs.Pairwise fun a b => ordR a b ≤ 0
theorem insV_asc {out : List (List T_impl_Value)} {r : List T_impl_Value} (ho : ∀ x ∈ out, rowOk x = true) (hr : rowOk r = true) (h : AscR out) : AscR (insV out r) := by
 obtain ⟨h1, h2⟩ := posV_spec out r out.length (Nat.le_refl _)
 unfold insV
 rw [List.append_assoc]
 refine ins_asc (R := fun a b => ordR a b ≤ 0) (fun a b c => ord_row.le a b c) (posV_le out r _) h (fun j hj hk => ?_) (fun hj hk => ?_)
 ·have := h1 j hj hk hj
  rw [ordK_ok (ho _ (List.getElem_mem hj)) hr] at this
  exact Int.le_of_lt (ord_row.gt _ _ this)
 ·have := h2 hj hk
  rwa [ordK_ok (ho _ (List.getElem_mem hj)) hr] at this
theorem sorted_asc_go : ∀ (xs out : List (List T_impl_Value)), (∀ x ∈ out, rowOk x = true) → (∀ x ∈ xs, rowOk x = true) → AscR out → AscR (xs.foldl insV out)
 | [], out, _, _, h => h
 | x :: xs, out, ho, hx, h => sorted_asc_go xs (insV out x) (fun y hy => by
   rcases insV_mem.1 hy with rfl | hy
   ·exact hx _ (by simp)
   ·exact ho y hy) (fun y hy => hx y (by simp [hy])) (insV_asc ho (hx x (by simp)) h)
theorem sortedV_asc {xs : List (List T_impl_Value)} (h : ∀ x ∈ xs, rowOk x = true) : AscR (sortedV xs) := sorted_asc_go xs [] (fun _ h => by cases h) h List.Pairwise.nil
theorem asc_uniq : ∀ {xs ys : List (List T_impl_Value)}, xs.Perm ys → AscR xs → AscR ys → xs = ys
 | [], ys, hp, _, _ => (List.Perm.nil_eq hp)
 | x :: xs, [], hp, _, _ => absurd hp.length_eq (by simp)
 | x :: xs, y :: ys, hp, hx, hy => by
  rw [AscR, List.pairwise_cons] at hx hy
  have e : x = y := by
   have m1 : x ∈ y :: ys := hp.mem_iff.1 (by simp)
   have m2 : y ∈ x :: xs := hp.mem_iff.2 (by simp)
   rcases List.mem_cons.1 m1 with h | h
   ·exact h
   ·rcases List.mem_cons.1 m2 with k | k
    ·exact k.symm
    ·have a1 := hx.1 y k
     have a2 := hy.1 x h
     refine ordR_0.1 ?_
     by_cases h0 : ordR x y < 0
     ·have := ord_row.lt _ _ h0
      omega
     ·omega
  subst e
  rw [asc_uniq (List.Perm.cons_inv hp) hx.2 hy.2]
theorem sortedV_sm {xs : List (List T_impl_Value)} (h : SmRs xs) : SmRs (sortedV xs) := by
 refine ⟨?_, fun x hx => h.2 x ((sortedV_perm xs).mem_iff.1 hx)⟩
 rw [(sortedV_perm xs).length_eq]
 exact h.1
theorem spec_ownR {a : List T_impl_Value} (ha : Sm a.length) : spec_l3Own a = some a := by
 unfold spec_l3Own
 rw [app_lt (by simp; omega)]
 rfl
theorem slI_front {α : Type} {xs : List α} {n : Nat} (h : n ≤ xs.length) : slI xs none (some (n : Int)) none = some (xs.take n) := by
 unfold slI
 simp only [Option.getD_none, Option.getD_some]
 rw [if_pos (by omega)]
 simp
theorem slI_back {α : Type} {xs : List α} {n : Nat} (h : n ≤ xs.length) : slI xs (some (n : Int)) none none = some (xs.drop n) := by
 unfold slI
 simp only [Option.getD_none, Option.getD_some]
 rw [if_pos (by omega)]
 have : (xs.drop n).take (xs.length - n) = xs.drop n := List.take_of_length_le (by simp)
 simp only [Int.toNat_natCast]
 rw [this]
theorem spec_sort_at (xs out : List (List T_impl_Value)) (hx : SmRs xs) (hl : out.length ≤ 4194304) (hs : ∀ x ∈ out, SmR x) (i : Nat) (hi : i < xs.length) (K : List (List T_impl_Value) → Int → Option (List (List T_impl_Value))) : ∀ (n f : Nat), n ≤ out.length → n < f →
  spec_RowsSorted_l1 xs out (i : Int) K f (n : Int) = K (out.take (posV out xs[i] n) ++ [xs[i]] ++ out.drop (posV out xs[i] n)) ((i + 1 : Nat) : Int)
 | n, f + 1, hn, hf => by
  have hr := hx.2 _ (List.getElem_mem hi)
  have fin : ∀ p : Nat, p ≤ out.length → spec_RowsSorted_j2 xs out (i : Int) K (p : Int) (spec_RowsSorted_l1 xs out (i : Int) K f) false = K (out.take p ++ [xs[i]] ++ out.drop p) ((i + 1 : Nat) : Int) := fun p hp => by
   unfold spec_RowsSorted_j2
   rw [cond_false, slI_front hp, Option.bind_some, app_lt (by simp; omega), Option.bind_some, getI_nat, List.getElem?_eq_getElem hi, Option.bind_some, spec_ownR hr.1, Option.bind_some, List.nil_append, app_lt (by simp; omega), Option.bind_some, slI_back hp, Option.bind_some,
    app_lt (by simp; omega), Option.bind_some, succ_w hi (by have := hx.1; omega)]
  cases n with
  | zero =>
   unfold spec_RowsSorted_l1
   rw [decide_eq_false (by omega), cond_false]
   exact fin 0 (by omega)
  | succ n =>
   have hlt : n < out.length := by omega
   have hw : w64 (((n + 1 : Nat) : Int) - 1) = (n : Int) := by rw [w64_of] <;> omega
   unfold spec_RowsSorted_l1
   rw [decide_eq_true (by omega), cond_true, hw, getI_nat, List.getElem?_eq_getElem hlt, Option.bind_some, getI_nat, List.getElem?_eq_getElem hi, Option.bind_some, spec_ordK (hs _ (List.getElem_mem hlt)) hr, Option.bind_some]
   have hp : posV out xs[i] (n + 1) = if ordK out[n] xs[i] > 0 then posV out xs[i] n else n + 1 := by
    rw [posV, List.getElem?_eq_getElem hlt]
   by_cases h : ordK out[n] xs[i] > 0
   ·rw [decide_eq_true h, hp, if_pos h]
    simp only [spec_RowsSorted_j2, cond_true, hw]
    exact spec_sort_at xs out hx hl hs i hi K n f (by omega) (by omega)
   ·rw [decide_eq_false h, hp, if_neg h]
    exact fin (n + 1) hn
theorem spec_sort_l0 (xs : List (List T_impl_Value)) (hx : SmRs xs) : ∀ (k i f : Nat) (out : List (List T_impl_Value)), i + k = xs.length → out.length = i → (∀ x ∈ out, SmR x) → k < f → spec_RowsSorted_l0 xs f out (i : Int) = some ((xs.drop i).foldl insV out)
 | 0, i, f + 1, out, hi, ho, hs, _ => by
  unfold spec_RowsSorted_l0
  rw [decide_eq_false (by omega), cond_false, List.drop_of_length_le (by omega)]
  rfl
 | k + 1, i, f + 1, out, hi, ho, hs, hf => by
  have hlt : i < xs.length := by omega
  have hsm := hx.1
  unfold spec_RowsSorted_l0
  rw [decide_eq_true (by omega), cond_true, spec_sort_at xs out hx (by omega) hs i hlt _ out.length FUEL (Nat.le_refl _) (Nat.lt_of_le_of_lt (show out.length ≤ 2097152 by omega) (by decide)), List.drop_eq_getElem_cons hlt, List.foldl_cons]
  exact spec_sort_l0 xs hx k (i + 1) f (insV out xs[i]) (by omega) (by rw [insV_len]; omega) (fun x h => by
   rcases insV_mem.1 h with rfl | h
   ·exact hx.2 _ (List.getElem_mem hlt)
   ·exact hs x h) (by omega)
theorem spec_sorted {xs : List (List T_impl_Value)} (hx : SmRs xs) : spec_RowsSorted xs = some (sortedV xs) := by
 have h := spec_sort_l0 xs hx xs.length 0 FUEL [] (by omega) rfl (fun _ h => by cases h) (Nat.lt_of_le_of_lt hx.1 (by decide))
 exact h
theorem insR_at {out : List (List T_impl_Value)} {r : List T_impl_Value} {p : Nat} (hp : p ≤ out.length) (hl : out.length ≤ 4194304) : insR out (p : Int) [r] = some (out.take p ++ [r] ++ out.drop p) := by
 unfold insR
 rw [decide_eq_true (by omega), decide_eq_true (by omega), decide_eq_true (by simp), decide_eq_true (by simp; omega)]
 simp
theorem impl_sort_at (xs out : List (List T_impl_Value)) (hx : SmRs xs) (hl : out.length ≤ 4194304) (hs : ∀ x ∈ out, SmR x) (i : Nat) (hi : i < xs.length) (K : Int → List (List T_impl_Value) → Option (List (List T_impl_Value))) : ∀ (n f : Nat), n ≤ out.length → n < f →
  impl_RowsSorted_l1 (i : Int) out K xs[i] f (n : Int) = K ((i + 1 : Nat) : Int) (out.take (posV out xs[i] n) ++ [xs[i]] ++ out.drop (posV out xs[i] n))
 | n, f + 1, hn, hf => by
  have hr := hx.2 _ (List.getElem_mem hi)
  have fin : ∀ p : Nat, p ≤ out.length → impl_RowsSorted_j2 (i : Int) out K xs[i] (p : Int) (impl_RowsSorted_l1 (i : Int) out K xs[i] f) false = K ((i + 1 : Nat) : Int) (out.take p ++ [xs[i]] ++ out.drop p) := fun p hp => by
   unfold impl_RowsSorted_j2
   rw [cond_false, insR_at hp hl, Option.bind_some, succ_w hi (by have := hx.1; omega)]
  cases n with
  | zero =>
   unfold impl_RowsSorted_l1
   rw [decide_eq_false (by omega), cond_false]
   exact fin 0 (by omega)
  | succ n =>
   have hlt : n < out.length := by omega
   have hw : w64 (((n + 1 : Nat) : Int) - 1) = (n : Int) := by rw [w64_of] <;> omega
   unfold impl_RowsSorted_l1
   rw [decide_eq_true (by omega), cond_true, hw, getI_nat, List.getElem?_eq_getElem hlt, Option.bind_some, impl_ordK (hs _ (List.getElem_mem hlt)) hr, Option.bind_some]
   have hp : posV out xs[i] (n + 1) = if ordK out[n] xs[i] > 0 then posV out xs[i] n else n + 1 := by
    rw [posV, List.getElem?_eq_getElem hlt]
   by_cases h : ordK out[n] xs[i] > 0
   ·rw [decide_eq_true h, hp, if_pos h]
    simp only [impl_RowsSorted_j2, cond_true, hw]
    exact impl_sort_at xs out hx hl hs i hi K n f (by omega) (by omega)
   ·rw [decide_eq_false h, hp, if_neg h]
    exact fin (n + 1) hn
theorem impl_copyL0 {xs : List (List T_impl_Value)} (hl : xs.length ≤ 4194304) (h : ∀ r ∈ xs, SmR r) : impl_rowsCopy_L0 xs = some xs := by
 have key : ∀ (k i f : Nat), i + k = xs.length → k < f → impl_rowsCopy_L0_l0 xs f (i : Int) (xs.take i) = some xs := by
  intro k
  induction k with
  | zero =>
   intro i f hi hf
   cases f with
   | zero => omega
   | succ f =>
    unfold impl_rowsCopy_L0_l0
    rw [decide_eq_false (by omega), cond_false, impl_clipRs, Option.bind_some, List.take_of_length_le (by omega)]
  | succ k ih =>
   intro i f hi hf
   cases f with
   | zero => omega
   | succ f =>
    have hlt : i < xs.length := by omega
    unfold impl_rowsCopy_L0_l0
    rw [decide_eq_true (by omega), cond_true, getI_nat, List.getElem?_eq_getElem hlt, Option.bind_some, impl_cloneV (by have := (h _ (List.getElem_mem hlt)).1; omega), Option.bind_some, app_lt (by simp; omega), Option.bind_some, succ_w hlt (by omega),
     List.take_append_getElem hlt]
    exact ih (i + 1) f (by omega) (by omega)
 have := key xs.length 0 FUEL (by omega) (Nat.lt_of_le_of_lt hl (by decide))
 exact this
theorem impl_sort_l0 (xs : List (List T_impl_Value)) (hx : SmRs xs) : ∀ (k i f : Nat) (out : List (List T_impl_Value)), i + k = xs.length → out.length = i → (∀ x ∈ out, SmR x) → k < f → impl_RowsSorted_l0 xs f (i : Int) out = some ((xs.drop i).foldl insV out)
 | 0, i, f + 1, out, hi, ho, hs, _ => by
  have hsm := hx.1
  unfold impl_RowsSorted_l0
  rw [decide_eq_false (by omega), cond_false, List.drop_of_length_le (by omega), impl_copyL0 (by omega) hs]
  rfl
 | k + 1, i, f + 1, out, hi, ho, hs, hf => by
  have hlt : i < xs.length := by omega
  have hsm := hx.1
  unfold impl_RowsSorted_l0
  rw [decide_eq_true (by omega), cond_true, getI_nat, List.getElem?_eq_getElem hlt, Option.bind_some, impl_sort_at xs out hx (by omega) hs i hlt _ out.length FUEL (Nat.le_refl _) (Nat.lt_of_le_of_lt (show out.length ≤ 2097152 by omega) (by decide)), List.drop_eq_getElem_cons hlt, List.foldl_cons]
  exact impl_sort_l0 xs hx k (i + 1) f (insV out xs[i]) (by omega) (by rw [insV_len]; omega) (fun x h => by
   rcases insV_mem.1 h with rfl | h
   ·exact hx.2 _ (List.getElem_mem hlt)
   ·exact hs x h) (by omega)
theorem impl_sorted {xs : List (List T_impl_Value)} (hx : SmRs xs) : impl_RowsSorted xs = some (sortedV xs) := by
 have h := impl_sort_l0 xs hx xs.length 0 FUEL [] (by omega) rfl (fun _ h => by cases h) (Nat.lt_of_le_of_lt hx.1 (by decide))
 exact h
end Go.D
namespace Go.D
theorem half_of {x : Int} (h0 : 0 ≤ x) (h1 : x < 4611686018427387904) : w64 (shrU (u64 x) 1) = x / 2 := by
 unfold shrU u64
 have e1 : Go.IntKind.wrap .u64 x = x := by
  simp [Go.IntKind.wrap, Go.IntKind.bits]
  omega
 rw [e1]
 have e2 : min (Int.toNat 1) (Go.IntKind.bits .u64) = 1 := by decide
 rw [e2]
 have : x.fdiv (2 ^ 1) = x / 2 := by
  rw [Int.fdiv_eq_ediv_of_nonneg]
  ·rfl
  ·decide
 rw [this, w64_of (by omega) (by omega)]
end Go.D
set_option linter.unusedVariables false
namespace Go.D
theorem set_at {α : Type} (A : List α) (x y : α) (B : List α) : (A ++ x :: B).set A.length y = A ++ y :: B := by
 rw [List.set_append_right _ _ (Nat.le_refl _), Nat.sub_self]
 rfl
theorem getI_at {α : Type} (A : List α) (x : α) (B : List α) : getI (A ++ x :: B) (A.length : Int) = some x := by
 rw [getI_nat, List.getElem?_append_right (Nat.le_refl _), Nat.sub_self]
 rfl
theorem swap_at {α : Type} (A : List α) (x : α) (M : List α) (y : α) (B : List α) : ((A ++ x :: M ++ y :: B).set A.length y).set (A.length + 1 + M.length) x = A ++ y :: M ++ x :: B := by
 have e1 : A ++ x :: M ++ y :: B = A ++ x :: (M ++ y :: B) := by simp
 rw [e1, set_at]
 have e2 : A ++ y :: (M ++ y :: B) = (A ++ y :: M) ++ y :: B := by simp
 have e3 : A.length + 1 + M.length = (A ++ y :: M).length := by simp; omega
 rw [e2, e3, set_at]
theorem get_1 {α : Type} (A : List α) (x : α) (M : List α) (y : α) (B : List α) {i : Int} (hi : i = A.length) : getI (A ++ x :: M ++ y :: B) i = some x := by
 have e1 : A ++ x :: M ++ y :: B = A ++ x :: (M ++ y :: B) := by simp
 rw [hi, e1, getI_at]
theorem get_2 {α : Type} (A : List α) (x : α) (M : List α) (y : α) (B : List α) {i : Int} (hi : i = ((A.length + 1 + M.length : Nat) : Int)) : getI (A ++ x :: M ++ y :: B) i = some y := by
 have e3 : A.length + 1 + M.length = (A ++ x :: M).length := by simp; omega
 rw [hi, e3, getI_at]
theorem get_3 {α : Type} (A : List α) (x : α) (M : List α) (y z : α) (B : List α) {i : Int} (hi : i = ((A.length + 1 + M.length : Nat) : Int)) : ∃ w, getI ((A ++ x :: M ++ y :: B).set A.length z) i = some w := by
 rw [hi, getI_nat, List.getElem?_set_ne (by omega)]
 exact ⟨y, by rw [← getI_nat]; exact get_2 A x M y B rfl⟩
theorem swap_to {α : Type} (A : List α) (x : α) (M : List α) (y : α) (B : List α) {i j : Nat} (hi : i = A.length) (hj : j = A.length + 1 + M.length) : ((A ++ x :: M ++ y :: B).set i y).set j x = A ++ y :: M ++ x :: B := by
 subst hi hj
 exact swap_at A x M y B
theorem swap_back {α : Type} (A : List α) (x : α) (M : List α) (y : α) (B : List α) {i j : Nat} (hi : i = A.length) (hj : j = A.length + 1 + M.length) : ((A ++ x :: M ++ y :: B).set j x).set i y = A ++ y :: M ++ x :: B := by
 rw [List.set_comm _ _ (by omega)]
 exact swap_to A x M y B hi hj
section
variable (cmp : (List T_impl_Value) → (List T_impl_Value) → Option Int)
theorem sw_ok (A B M : List (List T_impl_Value)) (X Y : List (List T_impl_Value)) (h : X.length = Y.length) (hn : (A ++ X ++ M ++ Y ++ B).length < 1000000000) :
  slices_swapRangeCmpFunc_impl_Value (A ++ X ++ M ++ Y ++ B) (A.length : Int) ((A.length + X.length + M.length : Nat) : Int) (X.length : Int) cmp = some (A ++ Y ++ M ++ X ++ B) := by
 have main : ∀ (k f : Nat) (X1 Y1 X2 Y2 : List (List T_impl_Value)), X2.length = k → Y2.length = k → X1.length = Y1.length → X1.length + k = X.length → k < f → (A ++ Y1 ++ X2 ++ M ++ X1 ++ Y2 ++ B).length < 1000000000 →
   slices_swapRangeCmpFunc_impl_Value_l0 (A.length : Int) ((A.length + X.length + M.length : Nat) : Int) (X.length : Int) f (X1.length : Int) (A ++ Y1 ++ X2 ++ M ++ X1 ++ Y2 ++ B) = some (A ++ Y1 ++ Y2 ++ M ++ X1 ++ X2 ++ B) := by
  intro k
  induction k with
  | zero =>
   intro f X1 Y1 X2 Y2 h1 h2 h3 h4 hf hl
   obtain ⟨f, rfl⟩ : ∃ f', f = f' + 1 := ⟨f - 1, by omega⟩
   have e1 := List.eq_nil_of_length_eq_zero h1
   have e2 := List.eq_nil_of_length_eq_zero h2
   subst e1 e2
   rw [slices_swapRangeCmpFunc_impl_Value_l0, decide_eq_false (by omega), cond_false]
  | succ k ih =>
   intro f X1 Y1 X2 Y2 h1 h2 h3 h4 hf hl
   obtain ⟨f, rfl⟩ : ∃ f', f = f' + 1 := ⟨f - 1, by omega⟩
   match X2, Y2, h1, h2 with
   | x :: X2, y :: Y2, h1, h2 =>
    simp only [List.length_cons, Nat.add_right_cancel_iff] at h1 h2
    have es : A ++ Y1 ++ (x :: X2) ++ M ++ X1 ++ (y :: Y2) ++ B = (A ++ Y1) ++ x :: (X2 ++ M ++ X1) ++ y :: (Y2 ++ B) := by simp
    rw [es]
    simp only [List.length_append, List.length_cons] at hl
    have w1 : w64 ((A.length : Int) + (X1.length : Int)) = (((A ++ Y1).length : Nat) : Int) := by rw [w64_of (by omega) (by omega), List.length_append]; omega
    have w2 : w64 (((A.length + X.length + M.length : Nat) : Int) + (X1.length : Int)) = (((A ++ Y1).length + 1 + (X2 ++ M ++ X1).length : Nat) : Int) := by rw [w64_of (by omega) (by omega)]; simp only [List.length_append]; omega
    have w3 : w64 ((X1.length : Int) + 1) = (((X1 ++ [x]).length : Nat) : Int) := by rw [w64_of (by omega) (by omega)]; simp
    obtain ⟨q, hq⟩ := get_3 (A ++ Y1) x (X2 ++ M ++ X1) y y (Y2 ++ B) rfl
    rw [slices_swapRangeCmpFunc_impl_Value_l0, decide_eq_true (by omega), cond_true, w1, w2, w3, get_2 (A ++ Y1) x _ y _ rfl, Option.bind_some, get_1 (A ++ Y1) x _ y _ rfl, Option.bind_some, Option.bind_some, Int.toNat_natCast, Int.toNat_natCast, hq, Option.bind_some, swap_at]
    have e4 : (A ++ Y1) ++ y :: (X2 ++ M ++ X1) ++ x :: (Y2 ++ B) = A ++ (Y1 ++ [y]) ++ X2 ++ M ++ (X1 ++ [x]) ++ Y2 ++ B := by simp
    rw [e4, ih f (X1 ++ [x]) (Y1 ++ [y]) X2 Y2 h1 h2 (by simp; omega) (by simp; omega) (by omega) (by simp; omega)]
    simp
 have := main X.length FUEL [] [] X Y rfl h.symm rfl (by simp) (by unfold FUEL; simp only [List.length_append] at hn; omega) (by simpa using hn)
 unfold slices_swapRangeCmpFunc_impl_Value slices_swapRangeCmpFunc_impl_Value_w
 simp only [List.append_nil, List.length_nil, Int.ofNat_eq_natCast, Int.cast_ofNat_Int] at this
 rw [this, Option.bind_some]
 have e : ((A ++ Y ++ M ++ X ++ B).length == (A ++ X ++ M ++ Y ++ B).length) = true := by simp; omega
 rw [e, cond_true]
theorem ro_ok (A U V B : List (List T_impl_Value)) (hU : U ≠ []) (hV : V ≠ []) (hn : (A ++ U ++ V ++ B).length < 1000000000) :
  slices_rotateCmpFunc_impl_Value (A ++ U ++ V ++ B) (A.length : Int) ((A.length + U.length : Nat) : Int) ((A.length + U.length + V.length : Nat) : Int) cmp = some (A ++ V ++ U ++ B) := by
 have main : ∀ (k f : Nat) (A U V B : List (List T_impl_Value)), U ≠ [] → V ≠ [] → U.length + V.length ≤ k → k < f → (A ++ U ++ V ++ B).length < 1000000000 →
   slices_rotateCmpFunc_impl_Value_l0 ((A.length + U.length : Nat) : Int) cmp f (U.length : Int) (V.length : Int) (A ++ U ++ V ++ B) = some (A ++ V ++ U ++ B) := by
  intro k
  induction k with
  | zero =>
   intro f A U V B hU _ hk
   exact absurd (List.eq_nil_of_length_eq_zero (by omega)) hU
  | succ k ih =>
   intro f A U V B hU hV hk hf hl
   obtain ⟨f, rfl⟩ : ∃ f', f = f' + 1 := ⟨f - 1, by omega⟩
   have pU := List.length_pos_iff.2 hU
   have pV := List.length_pos_iff.2 hV
   have hl' := hl
   simp only [List.length_append] at hl'
   have w1 : w64 (((A.length + U.length : Nat) : Int) - (U.length : Int)) = (A.length : Int) := by rw [w64_of (by omega) (by omega)]; omega
   rw [slices_rotateCmpFunc_impl_Value_l0]
   by_cases he : U.length = V.length
   ·have e : ((U.length : Int) == (V.length : Int)) = true := by rw [he]; simp
    rw [e, Bool.not_true, cond_false, w1]
    have := sw_ok cmp A B [] U V he (by simpa using hl)
    simp only [List.append_nil, List.length_nil, Nat.add_zero] at this
    rw [this, Option.bind_some]
   ·have e : ((U.length : Int) == (V.length : Int)) = false := beq_eq_false_iff_ne.2 (by omega)
    rw [e, Bool.not_false, cond_true]
    by_cases hgt : V.length < U.length
    ·rw [decide_eq_true (show (U.length : Int) > (V.length : Int) by omega), cond_true, w1]
     have eU : U = U.take V.length ++ U.drop V.length := (List.take_append_drop _ _).symm
     have l1 : (U.take V.length).length = V.length := by rw [List.length_take]; omega
     have l2 : (U.drop V.length).length = U.length - V.length := List.length_drop
     generalize U.take V.length = U1 at eU l1
     generalize U.drop V.length = U2 at eU l2
     subst eU
     rw [List.length_append] at l2 hgt
     have := sw_ok cmp A B U2 U1 V l1 (by simp only [List.length_append] at hl' ⊢; omega)
     have ea : A ++ (U1 ++ U2) ++ V ++ B = A ++ U1 ++ U2 ++ V ++ B := by simp
     have eb : ((A.length + (U1 ++ U2).length : Nat) : Int) = ((A.length + U1.length + U2.length : Nat) : Int) := by rw [List.length_append]; omega
     rw [ea, eb, ← l1, this, Option.bind_some]
     have w2 : w64 (((U1 ++ U2).length : Int) - (U1.length : Int)) = (U2.length : Int) := by rw [w64_of (by simp only [List.length_append]; omega) (by simp only [List.length_append]; omega), List.length_append]; omega
     rw [w2]
     have pU2 : U2 ≠ [] := List.length_pos_iff.1 (by omega)
     have pU1 : U1 ≠ [] := List.length_pos_iff.1 (by omega)
     have := ih f (A ++ V) U2 U1 B pU2 pU1 (by simp only [List.length_append] at hk; omega) (by omega) (by simp only [List.length_append] at hl' ⊢; omega)
     have ec : (((A ++ V).length + U2.length : Nat) : Int) = ((A.length + U1.length + U2.length : Nat) : Int) := by rw [List.length_append]; omega
     rw [ec] at this
     rw [this]
     simp
    ·rw [decide_eq_false (show ¬ (U.length : Int) > (V.length : Int) by omega), cond_false, w1]
     have eV : V = V.take (V.length - U.length) ++ V.drop (V.length - U.length) := (List.take_append_drop _ _).symm
     have l1 : (V.take (V.length - U.length)).length = V.length - U.length := by rw [List.length_take]; omega
     have l2 : (V.drop (V.length - U.length)).length = U.length := by rw [List.length_drop]; omega
     generalize V.take (V.length - U.length) = V1 at eV l1
     generalize V.drop (V.length - U.length) = V2 at eV l2
     subst eV
     rw [List.length_append] at l1 hgt he
     have := sw_ok cmp A B V1 U V2 l2.symm (by simp only [List.length_append] at hl' ⊢; omega)
     have ea : A ++ U ++ (V1 ++ V2) ++ B = A ++ U ++ V1 ++ V2 ++ B := by simp
     have w3 : w64 (w64 (((A.length + U.length : Nat) : Int) + ((V1 ++ V2).length : Int)) - (U.length : Int)) = ((A.length + U.length + V1.length : Nat) : Int) := by
      rw [w64_of (n := ((A.length + U.length : Nat) : Int) + ((V1 ++ V2).length : Int)) (by simp only [List.length_append]; omega) (by simp only [List.length_append] at hl' ⊢; omega)]
      rw [w64_of (by simp only [List.length_append]; omega) (by simp only [List.length_append] at hl' ⊢; omega), List.length_append]
      omega
     rw [ea, w3, this, Option.bind_some]
     have w2 : w64 (((V1 ++ V2).length : Int) - (U.length : Int)) = (V1.length : Int) := by rw [w64_of (by simp only [List.length_append]; omega) (by simp only [List.length_append] at hl' ⊢; omega), List.length_append]; omega
     rw [w2]
     have pV2 : V2 ≠ [] := List.length_pos_iff.1 (by omega)
     have pV1 : V1 ≠ [] := List.length_pos_iff.1 (by omega)
     have := ih f A V2 V1 (U ++ B) pV2 pV1 (by simp only [List.length_append] at hk; omega) (by omega) (by simp only [List.length_append] at hl' ⊢; omega)
     rw [l2] at this
     have ed : A ++ V2 ++ V1 ++ U ++ B = A ++ V2 ++ V1 ++ (U ++ B) := by simp
     rw [ed, this]
     simp
 have hl' := hn
 simp only [List.length_append] at hl'
 have := main (U.length + V.length) FUEL A U V B hU hV (Nat.le_refl _) (by unfold FUEL; omega) hn
 unfold slices_rotateCmpFunc_impl_Value slices_rotateCmpFunc_impl_Value_w
 have w1 : w64 (((A.length + U.length : Nat) : Int) - (A.length : Int)) = (U.length : Int) := by rw [w64_of (by omega) (by omega)]; omega
 have w2 : w64 (((A.length + U.length + V.length : Nat) : Int) - ((A.length + U.length : Nat) : Int)) = (V.length : Int) := by rw [w64_of (by omega) (by omega)]; omega
 rw [w1, w2, this, Option.bind_some]
 have e : ((A ++ V ++ U ++ B).length == (A ++ U ++ V ++ B).length) = true := by simp; omega
 rw [e, cond_true]
end
end Go.D
set_option linter.unusedVariables false
namespace Go.D
theorem mB1 {α : Type} (A L R T : List α) (x y z : α) : z ∈ A ++ L ++ x :: (y :: R) ++ T → z ∈ A ++ (L ++ [y]) ++ x :: R ++ T := by grind
theorem mB2 {α : Type} (A W Q B : List α) (x z : α) : z ∈ A ++ W ++ x :: [] ++ (Q ++ B) → z ∈ A ++ W ++ x :: Q ++ B := by grind
theorem mB3 {α : Type} {A W1 W Q B : List α} {x : α} (h : W1.Perm (x :: (W ++ []))) (z : α) : z ∈ A ++ W1 ++ Q ++ B → z ∈ A ++ W ++ x :: Q ++ B := by have := h.mem_iff (a := z); grind
theorem mB4 {α : Type} (A S B : List α) (s z : α) : z ∈ A ++ [s] ++ S ++ B → z ∈ A ++ (s :: S) ++ B := by grind
theorem mD1 {α : Type} (A U1 U2 V1 V2 B : List α) (z : α) : z ∈ A ++ U1 ++ V1 ++ (U2 ++ V2 ++ B) → z ∈ A ++ (U1 ++ U2) ++ (V1 ++ V2) ++ B := by grind
theorem mD2 {α : Type} {A W1 U1 U2 V1 V2 B : List α} (h : W1.Perm (U1 ++ V1)) (z : α) : z ∈ A ++ W1 ++ U2 ++ V2 ++ B → z ∈ A ++ (U1 ++ U2) ++ (V1 ++ V2) ++ B := by have := h.mem_iff (a := z); grind
theorem mE1 {α : Type} (P S Q : List α) (z : α) : z ∈ P ++ S ++ Q → z ∈ P ++ (S ++ Q) := by grind
theorem mE2 {α : Type} {P S W Q : List α} (h : W.Perm S) (z : α) : z ∈ P ++ W ++ Q → z ∈ P ++ (S ++ Q) := by have := h.mem_iff (a := z); grind
theorem mE3 {α : Type} (P S T Q : List α) (z : α) : z ∈ P ++ S ++ T ++ Q → z ∈ P ++ (S ++ (T ++ Q)) := by grind
theorem mE4 {α : Type} {P S T W Q : List α} (h : W.Perm (S ++ T)) (z : α) : z ∈ P ++ W ++ Q → z ∈ P ++ (S ++ (T ++ Q)) := by have := h.mem_iff (a := z); grind
theorem mE5 {α : Type} (P S T : List α) (z : α) : z ∈ P ++ S ++ T ++ [] → z ∈ P ++ (S ++ T) := by grind
def Asc {α : Type} (cf : α → α → Int) (xs : List α) : Prop := xs.Pairwise fun a b => cf a b ≤ 0
section
variable {cf : (List T_impl_Value) → (List T_impl_Value) → Int} {F : (List T_impl_Value) → (List T_impl_Value) → Option Int} {p : (List T_impl_Value) → Prop} (hF : ∀ x y, p x → p y → F x y = some (cf x y)) (hO : Ord3 cf)
include hF hO
theorem in_step (A L R T : List (List T_impl_Value)) (x : (List T_impl_Value)) (k : Int) (hx : ∀ r ∈ R, cf x r ≤ 0) (hs : Asc cf (L ++ R)) (K : Int → List (List T_impl_Value) → Option (List (List T_impl_Value))) (hn : (A ++ L ++ x :: R ++ T).length < 1000000000 ∧ ∀ z ∈ A ++ L ++ x :: R ++ T, p z) :
  ∀ f, L.length < f → ∃ W, slices_insertionSortCmpFunc_impl_Value_l1 (A.length : Int) F k K f ((A.length + L.length : Nat) : Int) (A ++ L ++ x :: R ++ T) = K (w64 (k + 1)) (A ++ W ++ T) ∧ W.Perm (x :: (L ++ R)) ∧ Asc cf W := by
 have main : ∀ (m : Nat) (L R : List (List T_impl_Value)), L.length = m → (∀ r ∈ R, cf x r ≤ 0) → Asc cf (L ++ R) → ((A ++ L ++ x :: R ++ T).length < 1000000000 ∧ ∀ z ∈ A ++ L ++ x :: R ++ T, p z) → ∀ f, L.length < f →
   ∃ W, slices_insertionSortCmpFunc_impl_Value_l1 (A.length : Int) F k K f ((A.length + L.length : Nat) : Int) (A ++ L ++ x :: R ++ T) = K (w64 (k + 1)) (A ++ W ++ T) ∧ W.Perm (x :: (L ++ R)) ∧ Asc cf W := by
  intro m
  induction m with
  | zero =>
   intro L R hL hx hs hn f hf
   obtain ⟨f, rfl⟩ : ∃ f', f = f' + 1 := ⟨f - 1, by omega⟩
   have := List.eq_nil_of_length_eq_zero hL
   subst this
   refine ⟨x :: R, ?_, List.Perm.refl _, ?_⟩
   ·rw [slices_insertionSortCmpFunc_impl_Value_l1, decide_eq_false (by simp), cond_false, slices_insertionSortCmpFunc_impl_Value_j2, cond_false]
    simp
   ·exact List.pairwise_cons.2 ⟨hx, hs⟩
  | succ m ih =>
   intro L R hL hx hs hn f hf
   obtain ⟨f, rfl⟩ : ∃ f', f = f' + 1 := ⟨f - 1, by omega⟩
   have hne : L ≠ [] := fun e => by rw [e] at hL; cases hL
   obtain ⟨L', y, rfl⟩ : ∃ L' y, L = L' ++ [y] := ⟨L.dropLast, L.getLast hne, (List.dropLast_concat_getLast hne).symm⟩
   have hL' : L'.length = m := by simpa using hL
   simp only [List.length_append, List.length_cons, List.length_nil] at hn
   have e1 : A ++ (L' ++ [y]) ++ x :: R ++ T = (A ++ L') ++ y :: [] ++ x :: (R ++ T) := by simp
   have w1 : w64 (((A.length + (L' ++ [y]).length : Nat) : Int) - 1) = (((A ++ L').length : Nat) : Int) := by rw [w64_of (by simp; omega) (by simp; omega)]; simp; omega
   have p2 : ((A.length + (L' ++ [y]).length : Nat) : Int) = (((A ++ L').length + 1 + ([] : List (List T_impl_Value)).length : Nat) : Int) := by simp; omega
   obtain ⟨q, hq⟩ := get_3 (A ++ L') y [] x x (R ++ T) rfl
   have hq' : ∃ q, getI ((((A ++ L') ++ y :: [] ++ x :: (R ++ T))).set (((A ++ L').length + 1 + ([] : List (List T_impl_Value)).length : Nat)) y) (((A ++ L').length : Nat) : Int) = some q := by
    rw [getI_nat, List.getElem?_set_ne (by simp)]
    exact ⟨y, by rw [← getI_nat]; exact get_1 (A ++ L') y [] x (R ++ T) rfl⟩
   obtain ⟨q2, hq2⟩ := hq'
   rw [e1, slices_insertionSortCmpFunc_impl_Value_l1, decide_eq_true (by simp; omega), cond_true, w1, p2, get_2 (A ++ L') y [] x _ rfl, Option.bind_some, get_1 (A ++ L') y [] x _ rfl, Option.bind_some, hF x y (hn.2 x (by simp)) (hn.2 y (by simp)), Option.bind_some]
   by_cases hlt : cf x y < 0
   ·rw [decide_eq_true hlt, slices_insertionSortCmpFunc_impl_Value_j2, cond_true, ← p2, w1, p2, get_1 (A ++ L') y [] x _ rfl, Option.bind_some, get_2 (A ++ L') y [] x _ rfl, Option.bind_some, Option.bind_some, Int.toNat_natCast, hq2, Option.bind_some, Int.toNat_natCast,
     swap_back (A ++ L') y [] x _ rfl rfl]
    have hs' : Asc cf (L' ++ y :: R) := by simpa using hs
    have hsp := List.pairwise_append.1 hs'
    obtain ⟨W, h1, h2, h3⟩ := ih L' (y :: R) hL' (fun r hr => by
     rcases List.mem_cons.1 hr with rfl | hr
     ·omega
     ·exact hO.le _ _ _ (by omega) ((List.pairwise_cons.1 hsp.2.1).1 r hr)) hs' ⟨by simp; omega, fun z hz => hn.2 z (mB1 A L' R T x y z hz)⟩ f (by simp at hf; omega)
    refine ⟨W, ?_, ?_, h3⟩
    ·have e2 : (A ++ L') ++ x :: [] ++ y :: (R ++ T) = A ++ L' ++ x :: (y :: R) ++ T := by simp
     rw [e2, List.length_append]
     exact h1
    ·simpa using h2
   ·refine ⟨(L' ++ [y]) ++ x :: R, ?_, ?_, ?_⟩
    ·rw [decide_eq_false hlt, slices_insertionSortCmpFunc_impl_Value_j2, cond_false]
     simp
    ·exact List.perm_middle
    ·have hyx : cf y x ≤ 0 := hO.ge (by omega)
     have hsp := List.pairwise_append.1 hs
     refine List.pairwise_append.2 ⟨hsp.1, List.pairwise_cons.2 ⟨hx, hsp.2.1⟩, fun a ha b hb => ?_⟩
     rcases List.mem_cons.1 hb with rfl | hb
     ·rcases List.mem_append.1 ha with ha | ha
      ·exact hO.le _ _ _ ((List.pairwise_append.1 hsp.1).2.2 a ha y (by simp)) hyx
      ·simp at ha
       rw [ha]
       exact hyx
     ·exact hsp.2.2 a ha b hb
 exact main L.length L R rfl hx hs hn
theorem in_ok (A S B : List (List T_impl_Value)) (hn : (A ++ S ++ B).length < 1000000000 ∧ ∀ z ∈ A ++ S ++ B, p z) :
  ∃ W, slices_insertionSortCmpFunc_impl_Value (A ++ S ++ B) (A.length : Int) ((A.length + S.length : Nat) : Int) F = some (A ++ W ++ B) ∧ W.Perm S ∧ Asc cf W := by
 have main : ∀ (k f : Nat) (W Q : List (List T_impl_Value)), Q.length = k → k < f → Asc cf W → ((A ++ W ++ Q ++ B).length < 1000000000 ∧ ∀ z ∈ A ++ W ++ Q ++ B, p z) → ((A.length + S.length : Nat) : Int) = ((A.length + W.length + Q.length : Nat) : Int) →
   ∃ W', slices_insertionSortCmpFunc_impl_Value_l0 (A.length : Int) ((A.length + S.length : Nat) : Int) F f ((A.length + W.length : Nat) : Int) (A ++ W ++ Q ++ B) = some (A ++ W' ++ B) ∧ W'.Perm (W ++ Q) ∧ Asc cf W' := by
  intro k
  induction k with
  | zero =>
   intro f W Q hQ hf hW hl he
   obtain ⟨f, rfl⟩ : ∃ f', f = f' + 1 := ⟨f - 1, by omega⟩
   have := List.eq_nil_of_length_eq_zero hQ
   subst this
   refine ⟨W, ?_, by simp, hW⟩
   rw [slices_insertionSortCmpFunc_impl_Value_l0, decide_eq_false (by rw [he]; simp), cond_false]
   simp
  | succ k ih =>
   intro f W Q hQ hf hW hl he
   obtain ⟨f, rfl⟩ : ∃ f', f = f' + 1 := ⟨f - 1, by omega⟩
   match Q, hQ with
   | x :: Q, hQ =>
    simp only [List.length_cons, Nat.add_right_cancel_iff] at hQ
    simp only [List.length_append, List.length_cons] at hl
    have e1 : A ++ W ++ x :: Q ++ B = A ++ W ++ x :: [] ++ (Q ++ B) := by simp
    obtain ⟨W1, h1, h2, h3⟩ := in_step hF hO A W [] (Q ++ B) x ((A.length + W.length : Nat) : Int) (by simp) (by simpa using hW) (slices_insertionSortCmpFunc_impl_Value_l0 (A.length : Int) ((A.length + S.length : Nat) : Int) F f) ⟨by simp; omega, fun z hz => hl.2 z (mB2 A W Q B x z hz)⟩ FUEL (by unfold FUEL; omega)
    have hw1 : W1.length = W.length + 1 := by rw [h2.length_eq]; simp
    have w1 : w64 (((A.length + W.length : Nat) : Int) + 1) = ((A.length + W1.length : Nat) : Int) := by rw [w64_of (by omega) (by omega)]; omega
    obtain ⟨W2, g1, g2, g3⟩ := ih f W1 Q hQ (by omega) h3 ⟨by simp; omega, fun z hz => hl.2 z (mB3 h2 z hz)⟩ (by rw [he]; simp; omega)
    refine ⟨W2, ?_, ?_, g3⟩
    ·rw [e1, slices_insertionSortCmpFunc_impl_Value_l0, decide_eq_true (by rw [he]; simp; omega), cond_true, h1, w1]
     have e2 : A ++ W1 ++ (Q ++ B) = A ++ W1 ++ Q ++ B := by simp
     rw [e2]
     exact g1
    ·refine g2.trans ((h2.append_right Q).trans ?_)
     simp only [List.append_nil, List.cons_append]
     exact (List.perm_middle (l₁ := W) (a := x) (l₂ := Q)).symm
 unfold slices_insertionSortCmpFunc_impl_Value slices_insertionSortCmpFunc_impl_Value_w
 simp only [List.length_append] at hn
 cases S with
 | nil =>
  refine ⟨[], ?_, List.Perm.refl _, List.Pairwise.nil⟩
  have w1 : w64 ((A.length : Int) + 1) = (A.length : Int) + 1 := w64_of (by omega) (by omega)
  have : slices_insertionSortCmpFunc_impl_Value_l0 (A.length : Int) ((A.length + ([] : List (List T_impl_Value)).length : Nat) : Int) F FUEL (w64 ((A.length : Int) + 1)) (A ++ [] ++ B) = some (A ++ [] ++ B) := by
   rw [w1]
   show slices_insertionSortCmpFunc_impl_Value_l0 (A.length : Int) ((A.length + ([] : List (List T_impl_Value)).length : Nat) : Int) F (FUEL - 1 + 1) _ _ = _
   rw [slices_insertionSortCmpFunc_impl_Value_l0, decide_eq_false (by simp; omega), cond_false]
  rw [this, Option.bind_some, beq_self_eq_true, cond_true]
 | cons s S =>
  obtain ⟨W, h1, h2, h3⟩ := main S.length FUEL [s] S rfl (by unfold FUEL; simp only [List.length_cons] at hn; omega) (List.pairwise_singleton _ _) ⟨by simp only [List.length_append, List.length_cons, List.length_nil] at hn ⊢; omega, fun z hz => hn.2 z (mB4 A S B s z hz)⟩ (by simp; omega)
  refine ⟨W, ?_, by simpa using h2, h3⟩
  have w1 : w64 ((A.length : Int) + 1) = ((A.length + [s].length : Nat) : Int) := by rw [w64_of (by omega) (by omega)]; simp
  have e1 : A ++ (s :: S) ++ B = A ++ [s] ++ S ++ B := by simp
  have hl : W.length = S.length + 1 := by rw [h2.length_eq]; simp
  rw [w1, e1, h1, Option.bind_some]
  have e : ((A ++ W ++ B).length == (A ++ [s] ++ S ++ B).length) = true := by simp; omega
  rw [e, cond_true]
end
end Go.D
set_option linter.unusedVariables false
namespace Go.D
theorem half_nat {i j : Nat} (h : i + j < 2000000000) : w64 (shrU (u64 (w64 ((i : Int) + (j : Int)))) 1) = (((i + j) / 2 : Nat) : Int) := by
 have e : w64 ((i : Int) + (j : Int)) = (i : Int) + (j : Int) := w64_of (by omega) (by omega)
 rw [e, half_of (by omega) (by omega)]
 omega
section
variable {cf : (List T_impl_Value) → (List T_impl_Value) → Int} {F : (List T_impl_Value) → (List T_impl_Value) → Option Int} {p : (List T_impl_Value) → Prop} (hF : ∀ x y, p x → p y → F x y = some (cf x y)) (hO : Ord3 cf)
omit hF hO in
theorem mv_right (u : (List T_impl_Value)) (T : List (List T_impl_Value)) (A : List (List T_impl_Value)) : ∀ (Y X : List (List T_impl_Value)) (f : Nat), Y.length < f → (A ++ X ++ u :: Y ++ T).length < 1000000000 →
  slices_symMergeCmpFunc_impl_Value_l1 ((A.length + X.length + Y.length + 1 : Nat) : Int) f ((A.length + X.length : Nat) : Int) (A ++ X ++ u :: Y ++ T) = some (A ++ X ++ Y ++ u :: T)
 | [], X, f, hf, hn => by
  obtain ⟨f, rfl⟩ : ∃ f', f = f' + 1 := ⟨f - 1, by omega⟩
  have w1 : w64 (((A.length + X.length + ([] : List (List T_impl_Value)).length + 1 : Nat) : Int) - 1) = ((A.length + X.length : Nat) : Int) := by simp only [List.length_append, List.length_cons, List.length_nil] at hn; rw [w64_of (by simp only [List.length_nil]; omega) (by simp only [List.length_nil]; omega)]; simp
  rw [slices_symMergeCmpFunc_impl_Value_l1, w1, decide_eq_false (by omega), cond_false]
  simp
 | y :: Y, X, f, hf, hn => by
  obtain ⟨f, rfl⟩ : ∃ f', f = f' + 1 := ⟨f - 1, by omega⟩
  simp only [List.length_append, List.length_cons] at hn hf
  have w1 : w64 (((A.length + X.length + (y :: Y).length + 1 : Nat) : Int) - 1) = ((A.length + X.length + Y.length + 1 : Nat) : Int) := by rw [w64_of (by simp only [List.length_cons]; omega) (by simp only [List.length_cons]; omega)]; simp only [List.length_cons]; omega
  have w2 : w64 (((A.length + X.length : Nat) : Int) + 1) = (((A ++ X).length + 1 + ([] : List (List T_impl_Value)).length : Nat) : Int) := by rw [w64_of (by omega) (by omega)]; simp
  have p1 : ((A.length + X.length : Nat) : Int) = (((A ++ X).length : Nat) : Int) := by simp
  have e1 : A ++ X ++ u :: (y :: Y) ++ T = (A ++ X) ++ u :: [] ++ y :: (Y ++ T) := by simp
  obtain ⟨q, hq⟩ := get_3 (A ++ X) u [] y y (Y ++ T) rfl
  have e2 : (A ++ X) ++ y :: [] ++ u :: (Y ++ T) = A ++ (X ++ [y]) ++ u :: Y ++ T := by simp
  have p3 : ((A.length + X.length + (y :: Y).length + 1 : Nat) : Int) = ((A.length + (X ++ [y]).length + Y.length + 1 : Nat) : Int) := by simp; omega
  have p4 : (((A ++ X).length + 1 + ([] : List (List T_impl_Value)).length : Nat) : Int) = ((A.length + (X ++ [y]).length : Nat) : Int) := by simp; omega
  have ih := mv_right u T A Y (X ++ [y]) f (by omega) (by simp; omega)
  rw [slices_symMergeCmpFunc_impl_Value_l1, w1, decide_eq_true (by omega), cond_true, w2, p1, e1, get_2 (A ++ X) u [] y _ rfl, Option.bind_some, get_1 (A ++ X) u [] y _ rfl, Option.bind_some, Option.bind_some, Int.toNat_natCast, hq, Option.bind_some, Int.toNat_natCast,
   swap_to (A ++ X) u [] y _ rfl rfl, e2, p3, p4, ih]
  simp
omit hF hO in
theorem mv_left (x : (List T_impl_Value)) (T : List (List T_impl_Value)) (A : List (List T_impl_Value)) : ∀ (k : Nat) (Y Z : List (List T_impl_Value)) (f : Nat), Y.length = k → k < f → (A ++ Y ++ x :: Z ++ T).length < 1000000000 →
  slices_symMergeCmpFunc_impl_Value_l3 (A.length : Int) f ((A.length + Y.length : Nat) : Int) (A ++ Y ++ x :: Z ++ T) = some (A ++ x :: Y ++ Z ++ T)
 | 0, Y, Z, f, hY, hf, hn => by
  obtain ⟨f, rfl⟩ : ∃ f', f = f' + 1 := ⟨f - 1, by omega⟩
  have := List.eq_nil_of_length_eq_zero hY
  subst this
  rw [slices_symMergeCmpFunc_impl_Value_l3, decide_eq_false (by simp), cond_false]
  simp
 | k + 1, Y, Z, f, hY, hf, hn => by
  obtain ⟨f, rfl⟩ : ∃ f', f = f' + 1 := ⟨f - 1, by omega⟩
  have hne : Y ≠ [] := fun e => by rw [e] at hY; cases hY
  obtain ⟨Y, y, rfl⟩ : ∃ L' y, Y = L' ++ [y] := ⟨Y.dropLast, Y.getLast hne, (List.dropLast_concat_getLast hne).symm⟩
  simp only [List.length_append, List.length_cons, List.length_nil] at hn hY
  have w1 : w64 (((A.length + (Y ++ [y]).length : Nat) : Int) - 1) = (((A ++ Y).length : Nat) : Int) := by rw [w64_of (by simp; omega) (by simp; omega)]; simp; omega
  have p2 : ((A.length + (Y ++ [y]).length : Nat) : Int) = (((A ++ Y).length + 1 + ([] : List (List T_impl_Value)).length : Nat) : Int) := by simp; omega
  have e1 : A ++ (Y ++ [y]) ++ x :: Z ++ T = (A ++ Y) ++ y :: [] ++ x :: (Z ++ T) := by simp
  have hq : ∃ q, getI ((((A ++ Y) ++ y :: [] ++ x :: (Z ++ T))).set (((A ++ Y).length + 1 + ([] : List (List T_impl_Value)).length : Nat)) y) (((A ++ Y).length : Nat) : Int) = some q := by
   rw [getI_nat, List.getElem?_set_ne (by simp)]
   exact ⟨y, by rw [← getI_nat]; exact get_1 (A ++ Y) y [] x (Z ++ T) rfl⟩
  obtain ⟨q, hq⟩ := hq
  have e2 : (A ++ Y) ++ x :: [] ++ y :: (Z ++ T) = A ++ Y ++ x :: (y :: Z) ++ T := by simp
  have ih := mv_left x T A k Y (y :: Z) f (by omega) (by omega) (by simp; omega)
  have w3 : w64 ((((A ++ Y).length + 1 + ([] : List (List T_impl_Value)).length : Nat) : Int) - 1) = (((A ++ Y).length : Nat) : Int) := by rw [← p2]; exact w1
  rw [slices_symMergeCmpFunc_impl_Value_l3, decide_eq_true (by simp; omega), cond_true, p2, e1, w3, get_1 (A ++ Y) y [] x _ rfl, Option.bind_some, get_2 (A ++ Y) y [] x _ rfl, Option.bind_some, Option.bind_some, Int.toNat_natCast, hq, Option.bind_some, Int.toNat_natCast,
   swap_back (A ++ Y) y [] x _ rfl rfl, e2]
  have p3 : (((A ++ Y).length : Nat) : Int) = ((A.length + Y.length : Nat) : Int) := by simp
  rw [p3, ih]
  simp
include hF hO
theorem find_right (A : List (List T_impl_Value)) (u : (List T_impl_Value)) (V B : List (List T_impl_Value)) (hV : Asc cf V) (hn : (A ++ u :: V ++ B).length < 1000000000 ∧ ∀ z ∈ A ++ u :: V ++ B, p z) : ∀ (k p q f : Nat), q - p ≤ k → k < f → p ≤ q → q ≤ V.length → (∀ v ∈ V.take p, cf v u ≤ 0) → (∀ v ∈ V.drop q, cf u v ≤ 0) →
  ∃ r, r ≤ V.length ∧ slices_symMergeCmpFunc_impl_Value_l0 (A ++ u :: V ++ B) (A.length : Int) F f ((A.length + 1 + p : Nat) : Int) ((A.length + 1 + q : Nat) : Int) = slices_symMergeCmpFunc_impl_Value_l1 ((A.length + 1 + r : Nat) : Int) FUEL (A.length : Int) (A ++ u :: V ++ B) ∧ (∀ v ∈ V.take r, cf v u ≤ 0) ∧ (∀ v ∈ V.drop r, cf u v ≤ 0)
 | k, p, q, 0, _, hf, _, _, _, _ => absurd hf (by omega)
 | k, p, q, f + 1, hk, hf, hpq, hq, h1, h2 => by
  simp only [List.length_append, List.length_cons] at hn
  by_cases hlt : p < q
  ·obtain ⟨k, rfl⟩ : ∃ k', k = k' + 1 := ⟨k - 1, by omega⟩
   have hw : w64 (shrU (u64 (w64 (((A.length + 1 + p : Nat) : Int) + ((A.length + 1 + q : Nat) : Int)))) 1) = ((A.length + 1 + (p + q) / 2 : Nat) : Int) := by rw [half_nat (by omega)]; omega
   generalize hh : (p + q) / 2 = h at hw
   have hh1 : p ≤ h ∧ h < q := by omega
   have hvl : h < V.length := by omega
   have hg : getI (A ++ u :: V ++ B) ((A.length + 1 + h : Nat) : Int) = some V[h] := by
    rw [getI_nat, show A ++ u :: V ++ B = (A ++ [u]) ++ (V ++ B) by simp, List.getElem?_append_right (by simp; try omega), List.getElem?_append_left (by simp; try omega)]
    have : A.length + 1 + h - (A ++ [u]).length = h := by simp
    rw [this, List.getElem?_eq_getElem hvl]
   have hgu : getI (A ++ u :: V ++ B) (A.length : Int) = some u := by
    rw [show A ++ u :: V ++ B = A ++ u :: (V ++ B) by simp, getI_at]
   have w2 : w64 (((A.length + 1 + h : Nat) : Int) + 1) = ((A.length + 1 + (h + 1) : Nat) : Int) := by rw [w64_of (by omega) (by omega)]; omega
   have hidx := List.pairwise_iff_getElem.1 hV
   rw [slices_symMergeCmpFunc_impl_Value_l0, decide_eq_true (by omega), cond_true, hw, hg, Option.bind_some, hgu, Option.bind_some, hF _ _ (hn.2 V[h] (by simp)) (hn.2 u (by simp)), Option.bind_some]
   by_cases hc : cf V[h] u < 0
   ·rw [decide_eq_true hc, cond_true, w2]
    exact find_right A u V B hV ⟨by simp only [List.length_append, List.length_cons]; omega, hn.2⟩ k (h + 1) q f (by omega) (by omega) (by omega) hq (fun v hv => by
     obtain ⟨i, hi, rfl⟩ := List.getElem_of_mem hv
     rw [List.length_take] at hi
     rw [List.getElem_take]
     by_cases e : i = h
     ·subst e; omega
     ·exact hO.le _ _ _ (hidx i h (by omega) hvl (by omega)) (by omega)) h2
   ·rw [decide_eq_false hc, cond_false]
    exact find_right A u V B hV ⟨by simp only [List.length_append, List.length_cons]; omega, hn.2⟩ k p h f (by omega) (by omega) (by omega) (by omega) h1 (fun v hv => by
     obtain ⟨i, hi, rfl⟩ := List.getElem_of_mem hv
     rw [List.length_drop] at hi
     rw [List.getElem_drop]
     have h0 : cf u V[h] ≤ 0 := hO.ge (by omega)
     by_cases e : i = 0
     ·subst e; simpa using h0
     ·exact hO.le _ _ _ h0 (hidx h (h + i) hvl (by omega) (by omega)))
  ·have : p = q := by omega
   subst this
   refine ⟨p, hq, ?_, h1, h2⟩
   rw [slices_symMergeCmpFunc_impl_Value_l0, decide_eq_false (by omega), cond_false]
theorem find_left (A : List (List T_impl_Value)) (x : (List T_impl_Value)) (U B : List (List T_impl_Value)) (hU : Asc cf U) (hn : (A ++ U ++ x :: B).length < 1000000000 ∧ ∀ z ∈ A ++ U ++ x :: B, p z) : ∀ (k p q f : Nat), q - p ≤ k → k < f → p ≤ q → q ≤ U.length → (∀ v ∈ U.take p, cf v x ≤ 0) → (∀ v ∈ U.drop q, cf x v ≤ 0) →
  ∃ r, r ≤ U.length ∧ slices_symMergeCmpFunc_impl_Value_l2 (A ++ U ++ x :: B) ((A.length + U.length : Nat) : Int) F f ((A.length + p : Nat) : Int) ((A.length + q : Nat) : Int) = slices_symMergeCmpFunc_impl_Value_l3 ((A.length + r : Nat) : Int) FUEL ((A.length + U.length : Nat) : Int) (A ++ U ++ x :: B) ∧ (∀ v ∈ U.take r, cf v x ≤ 0) ∧ (∀ v ∈ U.drop r, cf x v ≤ 0)
 | k, p, q, 0, _, hf, _, _, _, _ => absurd hf (by omega)
 | k, p, q, f + 1, hk, hf, hpq, hq, h1, h2 => by
  simp only [List.length_append, List.length_cons] at hn
  by_cases hlt : p < q
  ·obtain ⟨k, rfl⟩ : ∃ k', k = k' + 1 := ⟨k - 1, by omega⟩
   have hw : w64 (shrU (u64 (w64 (((A.length + p : Nat) : Int) + ((A.length + q : Nat) : Int)))) 1) = ((A.length + (p + q) / 2 : Nat) : Int) := by rw [half_nat (by omega)]; omega
   generalize hh : (p + q) / 2 = h at hw
   have hh1 : p ≤ h ∧ h < q := by omega
   have hvl : h < U.length := by omega
   have hg : getI (A ++ U ++ x :: B) ((A.length + h : Nat) : Int) = some U[h] := by
    rw [getI_nat, show A ++ U ++ x :: B = A ++ (U ++ x :: B) by simp, List.getElem?_append_right (by omega), List.getElem?_append_left (by omega), Nat.add_sub_cancel_left, List.getElem?_eq_getElem hvl]
   have hgu : getI (A ++ U ++ x :: B) ((A.length + U.length : Nat) : Int) = some x := by
    rw [← List.length_append, getI_at]
   have w2 : w64 (((A.length + h : Nat) : Int) + 1) = ((A.length + (h + 1) : Nat) : Int) := by rw [w64_of (by omega) (by omega)]; omega
   have hidx := List.pairwise_iff_getElem.1 hU
   rw [slices_symMergeCmpFunc_impl_Value_l2, decide_eq_true (by omega), cond_true, hw, hgu, Option.bind_some, hg, Option.bind_some, hF _ _ (hn.2 x (by simp)) (hn.2 U[h] (by simp)), Option.bind_some]
   by_cases hc : cf x U[h] < 0
   ·rw [decide_eq_true hc, Bool.not_true, cond_false]
    exact find_left A x U B hU ⟨by simp only [List.length_append, List.length_cons]; omega, hn.2⟩ k p h f (by omega) (by omega) (by omega) (by omega) h1 (fun v hv => by
     obtain ⟨i, hi, rfl⟩ := List.getElem_of_mem hv
     rw [List.length_drop] at hi
     rw [List.getElem_drop]
     by_cases e : i = 0
     ·subst e; simp only [Nat.add_zero]; omega
     ·exact hO.le _ _ _ (by omega) (hidx h (h + i) hvl (by omega) (by omega)))
   ·rw [decide_eq_false hc, Bool.not_false, cond_true, w2]
    exact find_left A x U B hU ⟨by simp only [List.length_append, List.length_cons]; omega, hn.2⟩ k (h + 1) q f (by omega) (by omega) (by omega) hq (fun v hv => by
     obtain ⟨i, hi, rfl⟩ := List.getElem_of_mem hv
     rw [List.length_take] at hi
     rw [List.getElem_take]
     have h0 : cf U[h] x ≤ 0 := hO.ge (by omega)
     by_cases e : i = h
     ·subst e; exact h0
     ·exact hO.le _ _ _ (hidx i h (by omega) hvl (by omega)) h0) h2
  ·have : p = q := by omega
   subst this
   refine ⟨p, hq, ?_, h1, h2⟩
   rw [slices_symMergeCmpFunc_impl_Value_l2, decide_eq_false (by omega), cond_false]
theorem sm_right (A : List (List T_impl_Value)) (u : (List T_impl_Value)) (V B : List (List T_impl_Value)) (hV : Asc cf V) (hn : (A ++ u :: V ++ B).length < 1000000000 ∧ ∀ z ∈ A ++ u :: V ++ B, p z) :
  ∃ W, slices_symMergeCmpFunc_impl_Value_l0 (A ++ u :: V ++ B) (A.length : Int) F FUEL ((A.length + 1 : Nat) : Int) ((A.length + 1 + V.length : Nat) : Int) = some (A ++ W ++ B) ∧ W.Perm (u :: V) ∧ Asc cf W := by
 have hl := hn
 simp only [List.length_append, List.length_cons] at hl
 obtain ⟨r, hr, e, h1, h2⟩ := find_right hF hO A u V B hV hn V.length 0 V.length FUEL (by omega) (by unfold FUEL; omega) (Nat.zero_le _) (Nat.le_refl _) (by simp) (by simp)
 have eV : V.take r ++ V.drop r = V := List.take_append_drop _ _
 refine ⟨V.take r ++ u :: V.drop r, ?_, ?_, ?_⟩
 ·rw [Nat.add_zero] at e
  rw [e]
  have := mv_right u (V.drop r ++ B) A (V.take r) [] FUEL (by unfold FUEL; rw [List.length_take]; omega) (by simp; omega)
  have q1 : ((A.length + ([] : List (List T_impl_Value)).length + (V.take r).length + 1 : Nat) : Int) = ((A.length + 1 + r : Nat) : Int) := by rw [List.length_take]; simp; omega
  have q2 : ((A.length + ([] : List (List T_impl_Value)).length : Nat) : Int) = (A.length : Int) := by simp
  have q3 : A ++ [] ++ u :: V.take r ++ (V.drop r ++ B) = A ++ u :: V ++ B := by
   simp
   rw [← List.append_assoc, eV]
  rw [q1, q2, q3] at this
  rw [this]
  simp
 ·refine List.perm_middle.trans ?_
  rw [eV]
 ·have hsp := List.pairwise_append.1 (show Asc cf (V.take r ++ V.drop r) by rw [eV]; exact hV)
  refine List.pairwise_append.2 ⟨hsp.1, List.pairwise_cons.2 ⟨h2, hsp.2.1⟩, fun a ha b hb => ?_⟩
  rcases List.mem_cons.1 hb with rfl | hb
  ·exact h1 a ha
  ·exact hsp.2.2 a ha b hb
theorem sm_left (A : List (List T_impl_Value)) (x : (List T_impl_Value)) (U B : List (List T_impl_Value)) (hU : Asc cf U) (hn : (A ++ U ++ x :: B).length < 1000000000 ∧ ∀ z ∈ A ++ U ++ x :: B, p z) :
  ∃ W, slices_symMergeCmpFunc_impl_Value_l2 (A ++ U ++ x :: B) ((A.length + U.length : Nat) : Int) F FUEL (A.length : Int) ((A.length + U.length : Nat) : Int) = some (A ++ W ++ B) ∧ W.Perm (U ++ [x]) ∧ Asc cf W := by
 have hl := hn
 simp only [List.length_append, List.length_cons] at hl
 obtain ⟨r, hr, e, h1, h2⟩ := find_left hF hO A x U B hU hn U.length 0 U.length FUEL (by omega) (by unfold FUEL; omega) (Nat.zero_le _) (Nat.le_refl _) (by simp) (by simp)
 have eU : U.take r ++ U.drop r = U := List.take_append_drop _ _
 refine ⟨U.take r ++ x :: U.drop r, ?_, ?_, ?_⟩
 ·rw [Nat.add_zero] at e
  rw [e]
  have := mv_left x B (A ++ U.take r) (U.drop r).length (U.drop r) [] FUEL rfl (by unfold FUEL; rw [List.length_drop]; omega) (by simp; omega)
  have q1 : (((A ++ U.take r).length : Nat) : Int) = ((A.length + r : Nat) : Int) := by rw [List.length_append, List.length_take]; omega
  have q2 : (((A ++ U.take r).length + (U.drop r).length : Nat) : Int) = ((A.length + U.length : Nat) : Int) := by rw [List.length_append, List.length_take, List.length_drop]; omega
  have q3 : A ++ U.take r ++ U.drop r ++ x :: [] ++ B = A ++ U ++ x :: B := by rw [List.append_assoc A, eU]; simp
  rw [q1, q2, q3] at this
  rw [this]
  simp
 ·refine (List.perm_middle.trans ?_)
  rw [eU]
  exact (List.perm_append_comm (l₁ := U) (l₂ := [x])).symm
 ·have hsp := List.pairwise_append.1 (show Asc cf (U.take r ++ U.drop r) by rw [eU]; exact hU)
  refine List.pairwise_append.2 ⟨hsp.1, List.pairwise_cons.2 ⟨h2, hsp.2.1⟩, fun a ha b hb => ?_⟩
  rcases List.mem_cons.1 hb with rfl | hb
  ·exact h1 a ha
  ·exact hsp.2.2 a ha b hb
end
end Go.D
set_option linter.unusedVariables false
namespace Go.D
def MidL {α : Type} (cf : α → α → Int) (L : List α) (n s0 s : Nat) : Prop := s0 < s → ∃ x y, L[n - s]? = some x ∧ L[s - 1]? = some y ∧ ¬ cf x y < 0
def MidR {α : Type} (cf : α → α → Int) (L : List α) (n s r0 : Nat) : Prop := s < r0 → ∃ x y, L[n - 1 - s]? = some x ∧ L[s]? = some y ∧ cf x y < 0
section
variable {cf : (List T_impl_Value) → (List T_impl_Value) → Int} {F : (List T_impl_Value) → (List T_impl_Value) → Option Int} {p : (List T_impl_Value) → Prop} (hF : ∀ x y, p x → p y → F x y = some (cf x y)) (hO : Ord3 cf)
include hF
theorem find_mid (rec0 : List (List T_impl_Value) → Int → Int → Int → Option (List (List T_impl_Value))) (L : List (List T_impl_Value)) (a m b mid : Nat) (s0 r0 : Nat) (hmid : w64 (shrU (u64 (w64 ((a : Int) + (b : Int)))) 1) = (mid : Int)) (hb : L.length < 1000000000 ∧ ∀ z ∈ L, p z) (hbl : b ≤ L.length) (hm : mid ≤ b) (hmb : m ≤ b)
  (h1 : mid + m ≤ b + s0) (h2 : r0 ≤ mid + m) (h3 : r0 ≤ b) (Fin : Nat → Option (List (List T_impl_Value))) (hfin : ∀ (f : Nat) (s : Nat), s ≤ r0 → slices_symMergeCmpFunc_impl_Value_l5 rec0 L (a : Int) (m : Int) (b : Int) F (f + 1) (s : Int) (s : Int) = Fin s) :
  ∀ (k s r f : Nat), r - s ≤ k → k < f → s0 ≤ s → s ≤ r → r ≤ r0 → MidL cf L (mid + m) s0 s → MidR cf L (mid + m) r r0 →
  ∃ s', s0 ≤ s' ∧ s' ≤ r0 ∧ slices_symMergeCmpFunc_impl_Value_l5 rec0 L (a : Int) (m : Int) (b : Int) F f (s : Int) (r : Int) = Fin s' ∧ MidL cf L (mid + m) s0 s' ∧ MidR cf L (mid + m) s' r0
 | k, s, r, 0, _, hf, _, _, _, _, _ => absurd hf (by omega)
 | k, s, r, f + 1, hk, hf, hs0, hsr, hr0, hp1, hp2 => by
  by_cases hlt : s < r
  ·obtain ⟨k, rfl⟩ : ∃ k', k = k' + 1 := ⟨k - 1, by omega⟩
   have hw : w64 (shrU (u64 (w64 ((s : Int) + (r : Int)))) 1) = (((s + r) / 2 : Nat) : Int) := half_nat (by omega)
   generalize hh : (s + r) / 2 = c at hw
   have hc1 : s ≤ c ∧ c < r := by omega
   have w1 : w64 ((mid : Int) + (m : Int)) = ((mid + m : Nat) : Int) := by rw [w64_of (by omega) (by omega)]; omega
   have w2 : w64 (((mid + m : Nat) : Int) - 1) = ((mid + m - 1 : Nat) : Int) := by rw [w64_of (by omega) (by omega)]; omega
   have w3 : w64 (((mid + m - 1 : Nat) : Int) - (c : Int)) = ((mid + m - 1 - c : Nat) : Int) := by rw [w64_of (by omega) (by omega)]; omega
   have w4 : w64 ((c : Int) + 1) = ((c + 1 : Nat) : Int) := by rw [w64_of (by omega) (by omega)]; omega
   have hx : L[mid + m - 1 - c]? = some L[mid + m - 1 - c] := List.getElem?_eq_getElem (by omega)
   have hy : L[c]? = some L[c] := List.getElem?_eq_getElem (by omega)
   rw [slices_symMergeCmpFunc_impl_Value_l5, decide_eq_true (by omega), cond_true, hmid, w1, w2, hw, w3, getI_nat, hx, Option.bind_some, getI_nat, hy, Option.bind_some, hF _ _ (hb.2 _ (List.getElem_mem _)) (hb.2 _ (List.getElem_mem _)), Option.bind_some]
   by_cases hc : cf L[mid + m - 1 - c] L[c] < 0
   ·rw [decide_eq_true hc, Bool.not_true, cond_false]
    exact find_mid rec0 L a m b mid s0 r0 hmid hb hbl hm hmb h1 h2 h3 Fin hfin k s c f (by omega) (by omega) hs0 (by omega) (by omega) hp1 (fun _ => ⟨_, _, hx, hy, hc⟩)
   ·rw [decide_eq_false hc, Bool.not_false, cond_true, w4]
    exact find_mid rec0 L a m b mid s0 r0 hmid hb hbl hm hmb h1 h2 h3 Fin hfin k (c + 1) r f (by omega) (by omega) (by omega) (by omega) hr0 (fun _ => ⟨_, _, by rw [show mid + m - (c + 1) = mid + m - 1 - c by omega]; exact hx, hy, hc⟩) hp2
  ·have : s = r := by omega
   subst this
   exact ⟨s, hs0, hr0, hfin f s hr0, hp1, hp2⟩
include hO
omit hF in
theorem asc_join {X Y : List (List T_impl_Value)} {x y : (List T_impl_Value)} (hX : Asc cf (X ++ [x])) (hY : Asc cf (y :: Y)) (h : cf x y ≤ 0) : ∀ p ∈ X ++ [x], ∀ q ∈ y :: Y, cf p q ≤ 0 := by
 intro p hp q hq
 have h1 : cf p x ≤ 0 := by
  rcases List.mem_append.1 hp with hp | hp
  ·exact (List.pairwise_append.1 hX).2.2 p hp x (by simp)
  ·simp at hp
   rw [hp, hO.refl]
   exact Int.le_refl _
 have h2 : cf y q ≤ 0 := by
  rcases List.mem_cons.1 hq with rfl | hq
  ·rw [hO.refl]
   exact Int.le_refl _
  ·exact (List.pairwise_cons.1 hY).1 q hq
 exact hO.le _ _ _ (hO.le _ _ _ h1 h) h2
theorem sm_ok : ∀ (k f : Nat) (A U V B : List (List T_impl_Value)), U.length + V.length ≤ k → k < f → U ≠ [] → V ≠ [] → Asc cf U → Asc cf V → ((A ++ U ++ V ++ B).length < 1000000000 ∧ ∀ z ∈ A ++ U ++ V ++ B, p z) →
  ∃ W, slices_symMergeCmpFunc_impl_Value_f F f (A ++ U ++ V ++ B) (A.length : Int) ((A.length + U.length : Nat) : Int) ((A.length + U.length + V.length : Nat) : Int) = some (A ++ W ++ B) ∧ W.Perm (U ++ V) ∧ Asc cf W
 | 0, f, A, U, V, B, hk, _, hU, _, _, _, _ => absurd (List.eq_nil_of_length_eq_zero (by omega)) hU
 | k + 1, 0, A, U, V, B, _, hf, _, _, _, _, _ => absurd hf (by omega)
 | k + 1, f + 1, A, U, V, B, hk, hf, hU, hV, aU, aV, hn => by
  have pU := List.length_pos_iff.2 hU
  have pV := List.length_pos_iff.2 hV
  have hl := hn
  simp only [List.length_append] at hl
  suffices hs : ∃ W, slices_symMergeCmpFunc_impl_Value_s (slices_symMergeCmpFunc_impl_Value_f F f) (A ++ U ++ V ++ B) (A.length : Int) ((A.length + U.length : Nat) : Int) ((A.length + U.length + V.length : Nat) : Int) F = some (A ++ W ++ B) ∧ W.Perm (U ++ V) ∧ Asc cf W by
   obtain ⟨W, e, hp, ha⟩ := hs
   refine ⟨W, ?_, hp, ha⟩
   have hwl := hp.length_eq
   rw [slices_symMergeCmpFunc_impl_Value_f, e, Option.bind_some]
   have e : ((A ++ W ++ B).length == (A ++ U ++ V ++ B).length) = true := by
    simp only [List.length_append] at hwl ⊢
    simp
    omega
   rw [e, cond_true]
  have w1 : w64 (((A.length + U.length : Nat) : Int) - (A.length : Int)) = (U.length : Int) := by rw [w64_of (by omega) (by omega)]; omega
  have w2 : w64 (((A.length + U.length + V.length : Nat) : Int) - ((A.length + U.length : Nat) : Int)) = (V.length : Int) := by rw [w64_of (by omega) (by omega)]; omega
  unfold slices_symMergeCmpFunc_impl_Value_s
  rw [w1, w2]
  by_cases hu1 : U.length = 1
  ·have e : ((U.length : Int) == 1) = true := by rw [hu1]; rfl
   rw [e, cond_true]
   match U, hu1 with
   | [u], _ =>
    obtain ⟨W, e1, e2, e3⟩ := sm_right hF hO A u V B aV (by simpa using hn)
    refine ⟨W, ?_, by simpa using e2, e3⟩
    have : A ++ [u] ++ V ++ B = A ++ u :: V ++ B := by simp
    rw [this]
    exact e1
  have e : ((U.length : Int) == 1) = false := beq_eq_false_iff_ne.2 (by omega)
  rw [e, cond_false]
  by_cases hv1 : V.length = 1
  ·have e : ((V.length : Int) == 1) = true := by rw [hv1]; rfl
   rw [e, cond_true]
   match V, hv1 with
   | [x], _ =>
    obtain ⟨W, e1, e2, e3⟩ := sm_left hF hO A x U B aU (by simpa using hn)
    refine ⟨W, ?_, e2, e3⟩
    have : A ++ U ++ [x] ++ B = A ++ U ++ x :: B := by simp
    rw [this]
    exact e1
  have e : ((V.length : Int) == 1) = false := beq_eq_false_iff_ne.2 (by omega)
  rw [e, cond_false]
  -- the general case
  have hmid : w64 (shrU (u64 (w64 ((A.length : Int) + ((A.length + U.length + V.length : Nat) : Int)))) 1) = (((A.length + (A.length + U.length + V.length)) / 2 : Nat) : Int) := half_nat (by omega)
  generalize hmd : (A.length + (A.length + U.length + V.length)) / 2 = mid at hmid
  generalize hrec : slices_symMergeCmpFunc_impl_Value_f F f = rec0
  have w3 : w64 ((mid : Int) + ((A.length + U.length : Nat) : Int)) = ((mid + (A.length + U.length) : Nat) : Int) := by rw [w64_of (by omega) (by omega)]; omega
  -- behind the place
  have fin : ∀ (s : Nat), A.length ≤ s → s ≤ A.length + U.length → s ≤ mid → mid + (A.length + U.length) ≤ A.length + U.length + V.length + s →
    (∀ (U1 U2 V1 V2 : List (List T_impl_Value)), U = U1 ++ U2 → V = V1 ++ V2 → A.length + U1.length = s → (∀ x ∈ U1, ∀ y ∈ V2, cf x y ≤ 0) ∧ (∀ x ∈ V1, ∀ y ∈ U2, cf x y ≤ 0) ∨ ¬ (U1.length + V1.length = mid - A.length)) →
    ∃ W, (bif decide ((s : Int) < ((A.length + U.length : Nat) : Int)) then slices_symMergeCmpFunc_impl_Value_j10 rec0 (A ++ U ++ V ++ B) (A.length : Int) ((A.length + U.length : Nat) : Int) ((A.length + U.length + V.length : Nat) : Int) F (s : Int) (decide (((A.length + U.length : Nat) : Int) < w64 (w64 (w64 (shrU (u64 (w64 ((A.length : Int) + ((A.length + U.length + V.length : Nat) : Int)))) 1) + ((A.length + U.length : Nat) : Int)) - (s : Int))))
     else slices_symMergeCmpFunc_impl_Value_j10 rec0 (A ++ U ++ V ++ B) (A.length : Int) ((A.length + U.length : Nat) : Int) ((A.length + U.length + V.length : Nat) : Int) F (s : Int) false) = some (A ++ W ++ B) ∧ W.Perm (U ++ V) ∧ Asc cf W := by
   intro s hs1 hs2 hs3 hs4 hx
   have eU : U = U.take (s - A.length) ++ U.drop (s - A.length) := (List.take_append_drop _ _).symm
   have l1 : (U.take (s - A.length)).length = s - A.length := by rw [List.length_take]; omega
   have eV : V = V.take (mid - s) ++ V.drop (mid - s) := (List.take_append_drop _ _).symm
   have l2 : (V.take (mid - s)).length = mid - s := by rw [List.length_take]; omega
   generalize U.take (s - A.length) = U1 at eU l1
   generalize U.drop (s - A.length) = U2 at eU
   generalize V.take (mid - s) = V1 at eV l2
   generalize V.drop (mid - s) = V2 at eV
   have hcross := (hx U1 U2 V1 V2 eU eV (by omega)).resolve_right (by omega)
   have lU : U.length = U1.length + U2.length := by rw [eU, List.length_append]
   have lV : V.length = V1.length + V2.length := by rw [eV, List.length_append]
   have aU' := List.pairwise_append.1 (show Asc cf (U1 ++ U2) by rw [← eU]; exact aU)
   have aV' := List.pairwise_append.1 (show Asc cf (V1 ++ V2) by rw [← eV]; exact aV)
   have w4 : w64 (((mid + (A.length + U.length) : Nat) : Int) - (s : Int)) = ((mid + (A.length + U.length) - s : Nat) : Int) := by rw [w64_of (by omega) (by omega)]; omega
   have hend : mid + (A.length + U.length) - s = A.length + U.length + V1.length := by omega
   rw [hmid, w3, w4, hend]
   -- the rotation
   have rot : (bif decide ((s : Int) < ((A.length + U.length : Nat) : Int)) then slices_symMergeCmpFunc_impl_Value_j10 rec0 (A ++ U ++ V ++ B) (A.length : Int) ((A.length + U.length : Nat) : Int) ((A.length + U.length + V.length : Nat) : Int) F (s : Int) (decide (((A.length + U.length : Nat) : Int) < ((A.length + U.length + V1.length : Nat) : Int)))
     else slices_symMergeCmpFunc_impl_Value_j10 rec0 (A ++ U ++ V ++ B) (A.length : Int) ((A.length + U.length : Nat) : Int) ((A.length + U.length + V.length : Nat) : Int) F (s : Int) false)
     = slices_symMergeCmpFunc_impl_Value_j6 rec0 (A.length : Int) ((A.length + U.length : Nat) : Int) ((A.length + U.length + V.length : Nat) : Int) (s : Int) (A ++ U1 ++ V1 ++ U2 ++ V2 ++ B) := by
    unfold slices_symMergeCmpFunc_impl_Value_j10
    by_cases h1 : U2 = []
    ·subst h1
     rw [decide_eq_false (by simp at lU; omega), cond_false, cond_false]
     congr 1
     rw [eU, eV]
     simp
    ·have p2 := List.length_pos_iff.2 h1
     rw [decide_eq_true (by omega), cond_true]
     by_cases h2 : V1 = []
     ·subst h2
      rw [decide_eq_false (by simp), cond_false]
      congr 1
      rw [eU, eV]
      simp
     ·have p1 := List.length_pos_iff.2 h2
      rw [decide_eq_true (by omega), cond_true, hmid, w3, w4, hend]
      have := ro_ok F (A ++ U1) U2 V1 (V2 ++ B) h1 h2 (by simp only [List.length_append]; omega)
      have q1 : A ++ U ++ V ++ B = A ++ U1 ++ U2 ++ V1 ++ (V2 ++ B) := by rw [eU, eV]; simp
      have q2 : (s : Int) = (((A ++ U1).length : Nat) : Int) := by rw [List.length_append]; omega
      have q3 : ((A.length + U.length : Nat) : Int) = (((A ++ U1).length + U2.length : Nat) : Int) := by rw [List.length_append]; omega
      have q4 : ((A.length + U.length + V1.length : Nat) : Int) = (((A ++ U1).length + U2.length + V1.length : Nat) : Int) := by rw [List.length_append]; omega
      have q5 : slices_rotateCmpFunc_impl_Value (A ++ U ++ V ++ B) (s : Int) ((A.length + U.length : Nat) : Int) ((A.length + U.length + V1.length : Nat) : Int) F = some (A ++ U1 ++ V1 ++ U2 ++ (V2 ++ B)) := by
       rw [q1, q2, q3, q4]
       exact this
      rw [q5, Option.bind_some]
      congr 1
      simp
   rw [rot]
   -- the front
   have front : ∃ W1, slices_symMergeCmpFunc_impl_Value_j6 rec0 (A.length : Int) ((A.length + U.length : Nat) : Int) ((A.length + U.length + V.length : Nat) : Int) (s : Int) (A ++ U1 ++ V1 ++ U2 ++ V2 ++ B)
     = slices_symMergeCmpFunc_impl_Value_j7 rec0 (A.length : Int) ((A.length + U.length : Nat) : Int) ((A.length + U.length + V.length : Nat) : Int) (s : Int) (A ++ W1 ++ U2 ++ V2 ++ B) ∧ W1.Perm (U1 ++ V1) ∧ Asc cf W1 := by
    unfold slices_symMergeCmpFunc_impl_Value_j6 slices_symMergeCmpFunc_impl_Value_j9
    by_cases h1 : U1 = []
    ·subst h1
     refine ⟨V1, ?_, by simp, aV'.1⟩
     rw [decide_eq_false (by simp at l1; omega), cond_false, cond_false]
     congr 1
     simp
    ·have p1 := List.length_pos_iff.2 h1
     rw [decide_eq_true (by omega), cond_true]
     by_cases h2 : V1 = []
     ·subst h2
      refine ⟨U1, ?_, by simp, aU'.1⟩
      rw [hmid, decide_eq_false (by simp at l2; omega), cond_false]
      congr 1
      simp
     ·have p2 := List.length_pos_iff.2 h2
      obtain ⟨W1, e1, e2, e3⟩ := sm_ok k f A U1 V1 (U2 ++ V2 ++ B) (by omega) (by omega) h1 h2 aU'.1 aV'.1 ⟨by simp only [List.length_append]; omega, fun z hz => hn.2 z (by rw [eU, eV]; exact mD1 A U1 U2 V1 V2 B z hz)⟩
      refine ⟨W1, ?_, e2, e3⟩
      rw [hmid, decide_eq_true (by omega), cond_true]
      have q1 : A ++ U1 ++ V1 ++ U2 ++ V2 ++ B = A ++ U1 ++ V1 ++ (U2 ++ V2 ++ B) := by simp
      have q2 : (s : Int) = ((A.length + U1.length : Nat) : Int) := by omega
      have q3 : (mid : Int) = ((A.length + U1.length + V1.length : Nat) : Int) := by omega
      have q4 : rec0 (A ++ U1 ++ V1 ++ U2 ++ V2 ++ B) (A.length : Int) (s : Int) (mid : Int) = some (A ++ W1 ++ (U2 ++ V2 ++ B)) := by
       rw [q1, q2, q3, ← hrec]
       exact e1
      rw [q4, Option.bind_some]
      congr 1
      simp
   obtain ⟨W1, f1, f2, f3⟩ := front
   have lW1 : W1.length = U1.length + V1.length := by rw [f2.length_eq, List.length_append]
   rw [f1]
   -- the back
   have back : ∃ W2, slices_symMergeCmpFunc_impl_Value_j7 rec0 (A.length : Int) ((A.length + U.length : Nat) : Int) ((A.length + U.length + V.length : Nat) : Int) (s : Int) (A ++ W1 ++ U2 ++ V2 ++ B) = some (A ++ (W1 ++ W2) ++ B) ∧ W2.Perm (U2 ++ V2) ∧ Asc cf W2 := by
    unfold slices_symMergeCmpFunc_impl_Value_j7 slices_symMergeCmpFunc_impl_Value_j8
    rw [hmid, w3, w4, hend]
    by_cases h1 : U2 = []
    ·subst h1
     refine ⟨V2, ?_, by simp, aV'.2.1⟩
     rw [decide_eq_false (by simp at lU; omega), cond_false, cond_false]
     simp
    ·have p1 := List.length_pos_iff.2 h1
     rw [decide_eq_true (by omega), cond_true]
     by_cases h2 : V2 = []
     ·subst h2
      refine ⟨U2, ?_, by simp, aU'.2.1⟩
      rw [decide_eq_false (by simp at lV; omega), cond_false]
      simp
     ·have p2 := List.length_pos_iff.2 h2
      obtain ⟨W2, e1, e2, e3⟩ := sm_ok k f (A ++ W1) U2 V2 B (by omega) (by omega) h1 h2 aU'.2.1 aV'.2.1 ⟨by simp only [List.length_append]; omega, fun z hz => hn.2 z (by rw [eU, eV]; exact mD2 f2 z hz)⟩
      refine ⟨W2, ?_, e2, e3⟩
      rw [decide_eq_true (by omega), cond_true]
      have q2 : (mid : Int) = (((A ++ W1).length : Nat) : Int) := by rw [List.length_append]; omega
      have q3 : ((A.length + U.length + V1.length : Nat) : Int) = (((A ++ W1).length + U2.length : Nat) : Int) := by rw [List.length_append]; omega
      have q5 : ((A.length + U.length + V.length : Nat) : Int) = (((A ++ W1).length + U2.length + V2.length : Nat) : Int) := by rw [List.length_append]; omega
      have q4 : rec0 (A ++ W1 ++ U2 ++ V2 ++ B) (mid : Int) ((A.length + U.length + V1.length : Nat) : Int) ((A.length + U.length + V.length : Nat) : Int) = some (A ++ W1 ++ W2 ++ B) := by
       rw [q2, q3, q5, ← hrec]
       exact e1
      rw [q4, Option.bind_some]
      simp
   obtain ⟨W2, g1, g2, g3⟩ := back
   refine ⟨W1 ++ W2, g1, ?_, ?_⟩
   ·refine (f2.append g2).trans ?_
    rw [eU, eV]
    have : (U1 ++ V1 ++ (U2 ++ V2)).Perm (U1 ++ (U2 ++ (V1 ++ V2))) := by
     rw [List.append_assoc]
     refine List.Perm.append_left U1 ?_
     rw [← List.append_assoc, ← List.append_assoc]
     exact List.Perm.append_right V2 List.perm_append_comm
    simpa using this
   ·refine List.pairwise_append.2 ⟨f3, g3, fun x hx y hy => ?_⟩
    have hx := f2.subset hx
    have hy := g2.subset hy
    rcases List.mem_append.1 hx with hx | hx <;> rcases List.mem_append.1 hy with hy | hy
    ·exact aU'.2.2 x hx y hy
    ·exact hcross.1 x hx y hy
    ·exact hcross.2 x hx y hy
    ·exact aV'.2.2 x hx y hy
  -- what the search gives
  have cross : ∀ (s s0 r0 : Nat), MidL cf (A ++ U ++ V ++ B) (mid + (A.length + U.length)) s0 s → MidR cf (A ++ U ++ V ++ B) (mid + (A.length + U.length)) s r0 →
    (s = s0 → s = A.length ∨ mid + (A.length + U.length) - s = A.length + U.length + V.length) → (s = r0 → s = A.length + U.length ∨ mid = s) → s0 ≤ s → s ≤ r0 →
    (∀ (U1 U2 V1 V2 : List (List T_impl_Value)), U = U1 ++ U2 → V = V1 ++ V2 → A.length + U1.length = s → (∀ x ∈ U1, ∀ y ∈ V2, cf x y ≤ 0) ∧ (∀ x ∈ V1, ∀ y ∈ U2, cf x y ≤ 0) ∨ ¬ (U1.length + V1.length = mid - A.length)) := by
   intro s s0 r0 hp1 hp2 hb1 hb2 hs0 hr0 U1 U2 V1 V2 eU eV hs
   by_cases hlen : U1.length + V1.length = mid - A.length
   ·refine .inl ⟨?_, ?_⟩
    ·have lU : U.length = U1.length + U2.length := by rw [eU, List.length_append]
     have lV : V.length = V1.length + V2.length := by rw [eV, List.length_append]
     by_cases h1 : U1 = []
     ·subst h1
      exact fun x hx => by cases hx
     by_cases h2 : V2 = []
     ·subst h2
      exact fun x _ y hy => by cases hy
     have q1 := List.length_pos_iff.2 h1
     have q2 := List.length_pos_iff.2 h2
     obtain ⟨x, y, e1, e2, e3⟩ := hp1 (by
      rcases Nat.lt_or_ge s0 s with h | h
      ·exact h
      ·rcases hb1 (by omega) with h | h <;> omega)
     obtain ⟨X, z, rfl⟩ : ∃ L' y, U1 = L' ++ [y] := ⟨U1.dropLast, U1.getLast h1, (List.dropLast_concat_getLast h1).symm⟩
     match V2, h2 with
     | h :: T, _ =>
      have d1 : (A ++ U ++ V ++ B)[s - 1]? = some z := by
       rw [eU, show A ++ (X ++ [z] ++ U2) ++ V ++ B = (A ++ X) ++ z :: (U2 ++ V ++ B) by simp, show s - 1 = (A ++ X).length by simp at hs ⊢; omega, ← getI_nat, getI_at]
      have d2 : (A ++ U ++ V ++ B)[mid + (A.length + U.length) - s]? = some h := by
       rw [eV, show A ++ U ++ (V1 ++ h :: T) ++ B = (A ++ U ++ V1) ++ h :: (T ++ B) by simp, show mid + (A.length + U.length) - s = (A ++ U ++ V1).length by simp only [List.length_append, List.length_cons, List.length_nil] at hs hlen lU ⊢; omega, ← getI_nat, getI_at]
      rw [d1] at e2
      rw [d2] at e1
      rw [← Option.some.inj e1, ← Option.some.inj e2] at e3
      exact asc_join hO (List.pairwise_append.1 (show Asc cf ((X ++ [z]) ++ U2) by rw [← eU]; exact aU)).1 (List.pairwise_append.1 (show Asc cf (V1 ++ h :: T) by rw [← eV]; exact aV)).2.1 (hO.ge (by omega))
    ·have lU : U.length = U1.length + U2.length := by rw [eU, List.length_append]
     have lV : V.length = V1.length + V2.length := by rw [eV, List.length_append]
     by_cases h1 : V1 = []
     ·subst h1
      exact fun x hx => by cases hx
     by_cases h2 : U2 = []
     ·subst h2
      exact fun x _ y hy => by cases hy
     have q1 := List.length_pos_iff.2 h1
     have q2 := List.length_pos_iff.2 h2
     obtain ⟨x, y, e1, e2, e3⟩ := hp2 (by
      rcases Nat.lt_or_ge s r0 with h | h
      ·exact h
      ·rcases hb2 (by omega) with h | h <;> omega)
     obtain ⟨X, z, rfl⟩ : ∃ L' y, V1 = L' ++ [y] := ⟨V1.dropLast, V1.getLast h1, (List.dropLast_concat_getLast h1).symm⟩
     match U2, h2 with
     | h :: T, _ =>
      have d1 : (A ++ U ++ V ++ B)[mid + (A.length + U.length) - 1 - s]? = some z := by
       rw [eV, show A ++ U ++ (X ++ [z] ++ V2) ++ B = (A ++ U ++ X) ++ z :: (V2 ++ B) by simp, show mid + (A.length + U.length) - 1 - s = (A ++ U ++ X).length by simp only [List.length_append, List.length_cons, List.length_nil] at hs hlen lU ⊢; omega, ← getI_nat, getI_at]
      have d2 : (A ++ U ++ V ++ B)[s]? = some h := by
       rw [eU, show A ++ (U1 ++ h :: T) ++ V ++ B = (A ++ U1) ++ h :: (T ++ V ++ B) by simp, show s = (A ++ U1).length by simp at hs ⊢; omega, ← getI_nat, getI_at]
      rw [d1] at e1
      rw [d2] at e2
      rw [← Option.some.inj e1, ← Option.some.inj e2] at e3
      exact asc_join hO (List.pairwise_append.1 (show Asc cf ((X ++ [z]) ++ V2) by rw [← eV]; exact aV)).1 (List.pairwise_append.1 (show Asc cf (U1 ++ h :: T) by rw [← eU]; exact aU)).2.1 (by omega)
   ·exact .inr hlen
  have hfin : ∀ (f' s : Nat), slices_symMergeCmpFunc_impl_Value_l5 rec0 (A ++ U ++ V ++ B) (A.length : Int) ((A.length + U.length : Nat) : Int) ((A.length + U.length + V.length : Nat) : Int) F (f' + 1) (s : Int) (s : Int)
    = (bif decide ((s : Int) < ((A.length + U.length : Nat) : Int)) then slices_symMergeCmpFunc_impl_Value_j10 rec0 (A ++ U ++ V ++ B) (A.length : Int) ((A.length + U.length : Nat) : Int) ((A.length + U.length + V.length : Nat) : Int) F (s : Int) (decide (((A.length + U.length : Nat) : Int) < w64 (w64 (w64 (shrU (u64 (w64 ((A.length : Int) + ((A.length + U.length + V.length : Nat) : Int)))) 1) + ((A.length + U.length : Nat) : Int)) - (s : Int))))
     else slices_symMergeCmpFunc_impl_Value_j10 rec0 (A ++ U ++ V ++ B) (A.length : Int) ((A.length + U.length : Nat) : Int) ((A.length + U.length + V.length : Nat) : Int) F (s : Int) false) := by
   intro f' s
   rw [slices_symMergeCmpFunc_impl_Value_l5, decide_eq_false (Int.lt_irrefl _), cond_false]
  rw [hmid]
  unfold slices_symMergeCmpFunc_impl_Value_j4
  by_cases hgt : mid < A.length + U.length
  ·rw [decide_eq_true (by omega), cond_true, w3]
   have w5 : w64 (((mid + (A.length + U.length) : Nat) : Int) - ((A.length + U.length + V.length : Nat) : Int)) = ((mid - V.length : Nat) : Int) := by rw [w64_of (by omega) (by omega)]; omega
   rw [w5]
   obtain ⟨s, s1, s2, s3, s4, s5⟩ := find_mid hF rec0 (A ++ U ++ V ++ B) A.length (A.length + U.length) (A.length + U.length + V.length) mid (mid - V.length) mid hmid hn (by simp only [List.length_append]; omega) (by omega) (by omega) (by omega) (by omega) (by omega) _ (fun f' s _ => hfin f' s)
    mid (mid - V.length) mid FUEL (by omega) (by unfold FUEL; omega) (Nat.le_refl _) (by omega) (Nat.le_refl _) (fun h => absurd h (Nat.lt_irrefl _)) (fun h => absurd h (Nat.lt_irrefl _))
   rw [s3]
   exact fin s (by omega) (by omega) (by omega) (by omega) (cross s (mid - V.length) mid s4 s5 (fun e => .inr (by omega)) (fun e => .inr e.symm) s1 s2)
  ·rw [decide_eq_false (by omega), cond_false]
   obtain ⟨s, s1, s2, s3, s4, s5⟩ := find_mid hF rec0 (A ++ U ++ V ++ B) A.length (A.length + U.length) (A.length + U.length + V.length) mid A.length (A.length + U.length) hmid hn (by simp only [List.length_append]; omega) (by omega) (by omega) (by omega) (by omega) (by omega) _ (fun f' s _ => hfin f' s)
    (A.length + U.length) A.length (A.length + U.length) FUEL (by omega) (by unfold FUEL; omega) (Nat.le_refl _) (by omega) (Nat.le_refl _) (fun h => absurd h (Nat.lt_irrefl _)) (fun h => absurd h (Nat.lt_irrefl _))
   rw [s3]
   exact fin s (by omega) (by omega) (by omega) (by omega) (cross s A.length (A.length + U.length) s4 s5 (fun e => .inl e) (fun e => .inl e) s1 s2)
end
end Go.D
set_option linter.unusedVariables false
namespace Go.D
inductive Runs {α : Type} (cf : α → α → Int) (bs : Nat) : List α → Prop
 | last {S : List α} : S.length ≤ bs → Asc cf S → Runs cf bs S
 | cons {S Q : List α} : S.length = bs → Asc cf S → Runs cf bs Q → Runs cf bs (S ++ Q)
theorem Runs.asc {α : Type} {cf : α → α → Int} {bs : Nat} {Q : List α} (h : Runs cf bs Q) (hl : Q.length ≤ bs) : Asc cf Q := by
 cases h with
 | last _ h => exact h
 | @cons S Q1 h1 h2 h3 =>
  rw [List.length_append] at hl
  have : Q1 = [] := List.eq_nil_of_length_eq_zero (by omega)
  subst this
  rw [List.append_nil]
  exact h2
theorem Runs.split {α : Type} {cf : α → α → Int} {bs : Nat} {Q : List α} (h : Runs cf bs Q) (hl : bs < Q.length) : ∃ S Q1, Q = S ++ Q1 ∧ S.length = bs ∧ Asc cf S ∧ Runs cf bs Q1 := by
 cases h with
 | last h1 _ => omega
 | @cons S Q1 h1 h2 h3 => exact ⟨S, Q1, rfl, h1, h2, h3⟩
section
variable {cf : (List T_impl_Value) → (List T_impl_Value) → Int} {F : (List T_impl_Value) → (List T_impl_Value) → Option Int} {p : (List T_impl_Value) → Prop} (hF : ∀ x y, p x → p y → F x y = some (cf x y)) (hO : Ord3 cf)
include hF hO
theorem sm_all (A U V B : List (List T_impl_Value)) (hU : U ≠ []) (hV : V ≠ []) (aU : Asc cf U) (aV : Asc cf V) (hn : (A ++ U ++ V ++ B).length < 1000000000 ∧ ∀ z ∈ A ++ U ++ V ++ B, p z) :
  ∃ W, slices_symMergeCmpFunc_impl_Value (A ++ U ++ V ++ B) (A.length : Int) ((A.length + U.length : Nat) : Int) ((A.length + U.length + V.length : Nat) : Int) F = some (A ++ W ++ B) ∧ W.Perm (U ++ V) ∧ Asc cf W := by
 unfold slices_symMergeCmpFunc_impl_Value
 exact sm_ok hF hO (U.length + V.length) FUEL A U V B (Nat.le_refl _) (by unfold FUEL; simp only [List.length_append] at hn; omega) hU hV aU aV hn
theorem blocks_ok : ∀ (k f : Nat) (P Q : List (List T_impl_Value)), Q.length ≤ k → k < f → ((P ++ Q).length < 1000000000 ∧ ∀ z ∈ P ++ Q, p z) →
  ∃ W, slices_stableCmpFunc_impl_Value_l0 ((P.length + Q.length : Nat) : Int) F f (P.length : Int) ((P.length + 20 : Nat) : Int) (P ++ Q) = slices_stableCmpFunc_impl_Value_l1 ((P.length + Q.length : Nat) : Int) F FUEL 20 (P ++ W) ∧ W.Perm Q ∧ Runs cf 20 W
 | k, 0, P, Q, _, hf, _ => absurd hf (by omega)
 | k, f + 1, P, Q, hk, hf, hn => by
  have hl := hn
  rw [List.length_append] at hl
  by_cases h : 20 ≤ Q.length
  ·obtain ⟨k, rfl⟩ : ∃ k', k = k' + 1 := ⟨k - 1, by omega⟩
   have eQ : Q = Q.take 20 ++ Q.drop 20 := (List.take_append_drop _ _).symm
   have l1 : (Q.take 20).length = 20 := by rw [List.length_take]; omega
   generalize Q.take 20 = S at eQ l1
   generalize Q.drop 20 = Q1 at eQ
   subst eQ
   rw [List.length_append] at hl hk
   obtain ⟨W, h1, h2, h3⟩ := in_ok hF hO P S Q1 ⟨by simp only [List.length_append]; omega, fun z hz => hn.2 z (mE1 P S Q1 z hz)⟩
   have lW : W.length = 20 := by rw [h2.length_eq, l1]
   obtain ⟨W2, g1, g2, g3⟩ := blocks_ok k f (P ++ W) Q1 (by omega) (by omega) ⟨by simp only [List.length_append]; omega, fun z hz => hn.2 z (mE2 h2 z hz)⟩
   refine ⟨W ++ W2, ?_, h2.append g2, .cons lW h3 g3⟩
   have q1 : ((P.length + 20 : Nat) : Int) = ((P.length + S.length : Nat) : Int) := by rw [l1]
   have q2 : P ++ (S ++ Q1) = P ++ S ++ Q1 := by simp
   have w1 : w64 (((P.length + S.length : Nat) : Int) + 20) = (((P ++ W).length + 20 : Nat) : Int) := by rw [w64_of (by omega) (by omega), List.length_append]; omega
   have q3 : ((P.length + S.length : Nat) : Int) = (((P ++ W).length : Nat) : Int) := by rw [List.length_append]; omega
   have q4 : ((P.length + (S ++ Q1).length : Nat) : Int) = (((P ++ W).length + Q1.length : Nat) : Int) := by simp only [List.length_append]; omega
   rw [slices_stableCmpFunc_impl_Value_l0, decide_eq_true (by rw [List.length_append]; omega), cond_true, q1, q2, h1, Option.bind_some, w1, q3, q4, g1]
   simp
  ·rw [slices_stableCmpFunc_impl_Value_l0, decide_eq_false (by omega), cond_false]
   obtain ⟨W, h1, h2, h3⟩ := in_ok hF hO P Q [] (by simpa using hn)
   simp only [List.append_nil] at h1
   refine ⟨W, ?_, h2, .last (by rw [h2.length_eq]; omega) h3⟩
   rw [h1, Option.bind_some]
theorem pass_ok (bs : Nat) (hb : 0 < bs) (hb2 : bs < 1000000000) (K : Int → List (List T_impl_Value) → Option (List (List T_impl_Value))) : ∀ (k f : Nat) (P Q : List (List T_impl_Value)), Q.length ≤ k → k < f → ((P ++ Q).length < 1000000000 ∧ ∀ z ∈ P ++ Q, p z) → Runs cf bs Q →
  ∃ W, slices_stableCmpFunc_impl_Value_l2 ((P.length + Q.length : Nat) : Int) F (bs : Int) K f (P.length : Int) ((P.length + 2 * bs : Nat) : Int) (P ++ Q) = K (w64 ((bs : Int) * 2)) (P ++ W) ∧ W.Perm Q ∧ Runs cf (2 * bs) W
 | k, 0, P, Q, _, hf, _, _ => absurd hf (by omega)
 | k, f + 1, P, Q, hk, hf, hn, hr => by
  have hl := hn
  rw [List.length_append] at hl
  have w1 : w64 ((P.length : Int) + (bs : Int)) = ((P.length + bs : Nat) : Int) := by rw [w64_of (by omega) (by omega)]; omega
  have w2 : w64 (2 * (bs : Int)) = ((2 * bs : Nat) : Int) := by rw [w64_of (by omega) (by omega)]; omega
  by_cases h : 2 * bs ≤ Q.length
  ·obtain ⟨k, rfl⟩ : ∃ k', k = k' + 1 := ⟨k - 1, by omega⟩
   obtain ⟨S1, Q1, rfl, s1, s2, s3⟩ := hr.split (by omega)
   rw [List.length_append] at hl hk h
   have : ∃ S2 Q2, Q1 = S2 ++ Q2 ∧ S2.length = bs ∧ Asc cf S2 ∧ Runs cf bs Q2 := by
    by_cases e : bs < Q1.length
    ·exact s3.split e
    ·exact ⟨Q1, [], by simp, by omega, s3.asc (by omega), .last (by simp) List.Pairwise.nil⟩
   obtain ⟨S2, Q2, rfl, t1, t2, t3⟩ := this
   rw [List.length_append] at hl hk h
   obtain ⟨W, h1, h2, h3⟩ := sm_all hF hO P S1 S2 Q2 (List.length_pos_iff.1 (by omega)) (List.length_pos_iff.1 (by omega)) s2 t2 ⟨by simp only [List.length_append]; omega, fun z hz => hn.2 z (mE3 P S1 S2 Q2 z hz)⟩
   have lW : W.length = 2 * bs := by rw [h2.length_eq, List.length_append]; omega
   obtain ⟨W2, g1, g2, g3⟩ := pass_ok bs hb hb2 K k f (P ++ W) Q2 (by omega) (by omega) ⟨by simp only [List.length_append]; omega, fun z hz => hn.2 z (mE4 h2 z hz)⟩ t3
   refine ⟨W ++ W2, ?_, ?_, .cons lW h3 g3⟩
   ·have q1 : ((P.length + bs : Nat) : Int) = ((P.length + S1.length : Nat) : Int) := by rw [s1]
    have q2 : P ++ (S1 ++ (S2 ++ Q2)) = P ++ S1 ++ S2 ++ Q2 := by simp
    have q3 : ((P.length + 2 * bs : Nat) : Int) = ((P.length + S1.length + S2.length : Nat) : Int) := by omega
    have w3 : w64 (((P.length + S1.length + S2.length : Nat) : Int) + w64 (2 * (bs : Int))) = (((P ++ W).length + 2 * bs : Nat) : Int) := by rw [w2, w64_of (by omega) (by omega), List.length_append]; omega
    have q5 : ((P.length + S1.length + S2.length : Nat) : Int) = (((P ++ W).length : Nat) : Int) := by rw [List.length_append]; omega
    have q4 : ((P.length + (S1 ++ (S2 ++ Q2)).length : Nat) : Int) = (((P ++ W).length + Q2.length : Nat) : Int) := by simp only [List.length_append]; omega
    rw [slices_stableCmpFunc_impl_Value_l2, decide_eq_true (by simp only [List.length_append]; omega), cond_true, w1, q1, q2, q3, h1, Option.bind_some, w3, q5, q4, g1]
    simp
   ·have := h2.append g2
    simpa using this
  ·rw [slices_stableCmpFunc_impl_Value_l2, decide_eq_false (by omega), cond_false, w1]
   by_cases h' : bs < Q.length
   ·obtain ⟨S1, S2, rfl, s1, s2, s3⟩ := hr.split h'
    rw [List.length_append] at hl hk h h'
    rw [decide_eq_true (by rw [List.length_append]; omega), cond_true]
    obtain ⟨W, h1, h2, h3⟩ := sm_all hF hO P S1 S2 [] (List.length_pos_iff.1 (by omega)) (List.length_pos_iff.1 (by omega)) s2 (s3.asc (by omega)) ⟨by simp only [List.length_append, List.length_nil]; omega, fun z hz => hn.2 z (mE5 P S1 S2 z hz)⟩
    refine ⟨W, ?_, h2, .last (by rw [h2.length_eq, List.length_append]; omega) h3⟩
    have q1 : ((P.length + bs : Nat) : Int) = ((P.length + S1.length : Nat) : Int) := by rw [s1]
    have q2 : P ++ (S1 ++ S2) = P ++ S1 ++ S2 ++ [] := by simp
    have q3 : ((P.length + (S1 ++ S2).length : Nat) : Int) = ((P.length + S1.length + S2.length : Nat) : Int) := by rw [List.length_append]; omega
    rw [q1, q2, q3, h1, Option.bind_some, slices_stableCmpFunc_impl_Value_j3]
    simp
   ·rw [decide_eq_false (by omega), cond_false, slices_stableCmpFunc_impl_Value_j3]
    exact ⟨Q, rfl, List.Perm.refl _, .last (by omega) (hr.asc (by omega))⟩
theorem passes_ok : ∀ (k f bs : Nat) (Q : List (List T_impl_Value)), Q.length - bs ≤ k → k < f → 0 < bs → bs < 1000000000 → (Q.length < 500000000 ∧ ∀ z ∈ Q, p z) → Runs cf bs Q →
  ∃ W, slices_stableCmpFunc_impl_Value_l1 (Q.length : Int) F f (bs : Int) Q = some W ∧ W.Perm Q ∧ Asc cf W
 | k, 0, bs, Q, _, hf, _, _, _, _ => absurd hf (by omega)
 | k, f + 1, bs, Q, hk, hf, hb, hb2, hn, hr => by
  rw [slices_stableCmpFunc_impl_Value_l1]
  by_cases h : bs < Q.length
  ·obtain ⟨k, rfl⟩ : ∃ k', k = k' + 1 := ⟨k - 1, by omega⟩
   rw [decide_eq_true (by omega), cond_true]
   obtain ⟨W, h1, h2, h3⟩ := pass_ok hF hO bs hb hb2 (slices_stableCmpFunc_impl_Value_l1 (Q.length : Int) F f) Q.length FUEL [] Q (Nat.le_refl _) (by unfold FUEL; omega) ⟨by simp; omega, fun z hz => hn.2 z (by simpa using hz)⟩ hr
   have w2 : w64 (2 * (bs : Int)) = ((([] : List (List T_impl_Value)).length + 2 * bs : Nat) : Int) := by rw [w64_of (by omega) (by omega)]; simp
   have q1 : (Q.length : Int) = ((([] : List (List T_impl_Value)).length + Q.length : Nat) : Int) := by simp
   have w3 : w64 ((bs : Int) * 2) = ((2 * bs : Nat) : Int) := by rw [w64_of (by omega) (by omega)]; omega
   have lW := h2.length_eq
   obtain ⟨W2, g1, g2, g3⟩ := passes_ok k f (2 * bs) W (by omega) (by omega) (by omega) (by omega) ⟨by omega, fun z hz => hn.2 z (h2.mem_iff.1 hz)⟩ h3
   refine ⟨W2, ?_, g2.trans h2, g3⟩
   have h1' : slices_stableCmpFunc_impl_Value_l2 (Q.length : Int) F (bs : Int) (slices_stableCmpFunc_impl_Value_l1 (Q.length : Int) F f) FUEL 0 (w64 (2 * (bs : Int))) Q = slices_stableCmpFunc_impl_Value_l1 (Q.length : Int) F f (w64 ((bs : Int) * 2)) W := by
    rw [w2]
    simp only [List.length_nil, Nat.zero_add, List.nil_append] at h1 ⊢
    exact h1
   rw [h1', w3, ← lW]
   exact g1
  ·rw [decide_eq_false (by omega), cond_false]
   exact ⟨Q, rfl, List.Perm.refl _, hr.asc (by omega)⟩
theorem stable_ok (Q : List (List T_impl_Value)) (hn : Q.length < 500000000 ∧ ∀ z ∈ Q, p z) : ∃ W, slices_SortStableFunc_impl_Value_impl_Value_s3 Q F = some W ∧ W.Perm Q ∧ Asc cf W := by
 obtain ⟨W, h1, h2, h3⟩ := blocks_ok hF hO Q.length FUEL [] Q (Nat.le_refl _) (by unfold FUEL; omega) ⟨by simp; omega, fun z hz => hn.2 z (by simpa using hz)⟩
 have lW := h2.length_eq
 obtain ⟨W2, g1, g2, g3⟩ := passes_ok hF hO Q.length FUEL 20 W (by omega) (by unfold FUEL; omega) (by omega) (by omega) ⟨by omega, fun z hz => hn.2 z (h2.mem_iff.1 hz)⟩ h3
 have hp := g2.trans h2
 have lW2 := hp.length_eq
 refine ⟨W2, ?_, hp, g3⟩
 have e : (W2.length == Q.length) = true := by rw [lW2]; exact beq_self_eq_true _
 have h1' : slices_stableCmpFunc_impl_Value_l0 (Q.length : Int) F FUEL 0 20 Q = slices_stableCmpFunc_impl_Value_l1 (Q.length : Int) F FUEL 20 W := by
  simp only [List.length_nil, Nat.zero_add, List.nil_append] at h1
  exact h1
 have g1' : slices_stableCmpFunc_impl_Value_l1 (Q.length : Int) F FUEL 20 W = some W2 := by
  rw [← lW]
  exact g1
 unfold slices_SortStableFunc_impl_Value_impl_Value_s3 slices_SortStableFunc_impl_Value_impl_Value_s3_w slices_stableCmpFunc_impl_Value slices_stableCmpFunc_impl_Value_w
 rw [h1', g1', Option.bind_some, e, cond_true, Option.bind_some, Option.bind_some, e, cond_true]
end
end Go.D
set_option linter.unusedVariables false
namespace Go.D
theorem impl_growR {n : Nat} (hn : n ≤ 4194304) : slices_Grow_impl_Value_impl_Value_s3_n0 (n : Int) = some [] := by
 unfold slices_Grow_impl_Value_impl_Value_s3_n0
 have h0 : w64 (0 - 0) = 0 := w64_of (by omega) (by omega)
 have h1 : w64 ((n : Int) - 0) = n := by rw [w64_of] <;> omega
 have h2 : decide ((n : Int) < 0) = false := by simp
 rw [h2, h0, h1]
 simp only [cond_false]
 by_cases hp : (n : Int) > 0
 ·have h3 : decide ((n : Int) > 0) = true := decide_eq_true hp
  rw [h3, cond_true]
  unfold apzI
  rw [if_pos (by omega)]
  simp [slI]
 ·have h3 : decide ((n : Int) > 0) = false := decide_eq_false hp
  rw [h3, cond_false]
theorem concatR_l1 (F : Nat) {a b : List (List T_impl_Value)} (ha : Sm a.length) (hb : Sm b.length) : slices_Concat_impl_Value_impl_Value_s3_l1 [a, b] (F + 1 + 1 + 1) 0 [] = some (a ++ b) := by
 have w3 : w64 (0 + 1) = 1 := w64_of (by omega) (by omega)
 have w4 : w64 (1 + 1) = 2 := w64_of (by omega) (by omega)
 have i0 : getI [a, b] 0 = some a := rfl
 have i1 : getI [a, b] 1 = some b := rfl
 have l0 : decide ((0 : Int) < (([a, b] : List (List (List T_impl_Value))).length : Int)) = true := rfl
 have l1 : decide ((1 : Int) < (([a, b] : List (List (List T_impl_Value))).length : Int)) = true := rfl
 have l2 : decide ((2 : Int) < (([a, b] : List (List (List T_impl_Value))).length : Int)) = false := rfl
 rw [slices_Concat_impl_Value_impl_Value_s3_l1, l0, cond_true, i0, Option.bind_some, app_lt (xs := ([] : List (List T_impl_Value))) (ys := a) (by simp; omega), Option.bind_some, List.nil_append, w3]
 rw [slices_Concat_impl_Value_impl_Value_s3_l1, l1, cond_true, i1, Option.bind_some, app_lt (xs := a) (ys := b) (by omega), Option.bind_some, w4]
 rw [slices_Concat_impl_Value_impl_Value_s3_l1, l2, cond_false]
theorem concatR_l0 (F : Nat) {a b : List (List T_impl_Value)} (ha : Sm a.length) (hb : Sm b.length) : slices_Concat_impl_Value_impl_Value_s3_l0 [a, b] (F + 1 + 1 + 1) 0 0 = slices_Concat_impl_Value_impl_Value_s3_l1 [a, b] FUEL 0 [] := by
 have w1 : w64 (0 + (a.length : Int)) = a.length := by rw [w64_of] <;> omega
 have w2 : w64 ((a.length : Int) + b.length) = ((a.length + b.length : Nat) : Int) := by rw [w64_of] <;> omega
 have w3 : w64 (0 + 1) = 1 := w64_of (by omega) (by omega)
 have w4 : w64 (1 + 1) = 2 := w64_of (by omega) (by omega)
 have n1 : decide ((a.length : Int) < 0) = false := by simp
 have n2 : decide (((a.length + b.length : Nat) : Int) < 0) = false := by
  rw [decide_eq_false_iff_not]
  omega
 have i0 : getI [a, b] 0 = some a := rfl
 have i1 : getI [a, b] 1 = some b := rfl
 have l0 : decide ((0 : Int) < (([a, b] : List (List (List T_impl_Value))).length : Int)) = true := rfl
 have l1 : decide ((1 : Int) < (([a, b] : List (List (List T_impl_Value))).length : Int)) = true := rfl
 have l2 : decide ((2 : Int) < (([a, b] : List (List (List T_impl_Value))).length : Int)) = false := rfl
 rw [slices_Concat_impl_Value_impl_Value_s3_l0, l0, cond_true, i0, Option.bind_some, w1, n1, cond_false, w3]
 rw [slices_Concat_impl_Value_impl_Value_s3_l0, l1, cond_true, i1, Option.bind_some, w2, n2, cond_false, w4]
 rw [slices_Concat_impl_Value_impl_Value_s3_l0, l2, cond_false, impl_growR (n := a.length + b.length) (by omega), Option.bind_some]
theorem impl_concatR {a b : List (List T_impl_Value)} (ha : Sm a.length) (hb : Sm b.length) : slices_Concat_impl_Value_impl_Value_s3 [a, b] = some (a ++ b) := by
 obtain ⟨F, hF⟩ := fuel3
 have h0 := concatR_l0 F ha hb
 have h1 := concatR_l1 F ha hb
 rw [← hF] at h0 h1
 exact h0.trans h1
end Go.D
set_option linter.unusedVariables false
namespace Go.D
section
end
end Go.D
set_option linter.unusedVariables false
namespace Go.D
section
end
end Go.D
set_option linter.unusedVariables false
namespace Go.D
theorem many_cons (x : List T_impl_Value) (xs : List (List T_impl_Value)) (r : List T_impl_Value) : many (x :: xs) r = many xs r + if rowEq x r = true then 1 else 0 := List.countP_cons
theorem SmRs.app {a b : List (List T_impl_Value)} (ha : SmRs a) (hb : SmRs b) (h : a.length + b.length ≤ 2097152) : SmRs (a ++ b) := ⟨by rw [List.length_append]; exact h, fun r hr => (List.mem_append.1 hr).elim (ha.2 r) (hb.2 r)⟩
end Go.D
set_option linter.unusedVariables false
namespace Go.D
def onceGo : List (List T_impl_Value) → List (List T_impl_Value) → List (List T_impl_Value)
 | acc, [] => acc
 | acc, x :: xs => bif decide (0 < many acc x) then onceGo acc xs else onceGo (acc ++ [x]) xs
def once (xs : List (List T_impl_Value)) : List (List T_impl_Value) := onceGo [] xs
theorem onceGo_sm : ∀ {xs acc : List (List T_impl_Value)}, SmRs acc → SmRs xs → acc.length + xs.length ≤ 2097152 → SmRs (onceGo acc xs)
 | [], acc, ha, _, _ => ha
 | x :: xs, acc, ha, hx, hl => by
  have hx' : SmRs xs := ⟨by have := hx.1; simp at this; omega, fun r hr => hx.2 r (by simp [hr])⟩
  simp only [List.length_cons] at hl
  unfold onceGo
  cases decide (0 < many acc x)
  ·exact onceGo_sm ⟨by simp; omega, fun r hr => (List.mem_append.1 hr).elim (ha.2 r) (fun h => by
    have : r = x := by simpa using h
    rw [this]; exact hx.2 x (by simp))⟩ hx' (by simp; omega)
  ·exact onceGo_sm ha hx' (by omega)
theorem once_sm {xs : List (List T_impl_Value)} (h : SmRs xs) : SmRs (once xs) := onceGo_sm (acc := []) ⟨Nat.zero_le _, fun r hr => by cases hr⟩ h (by have := h.1; simpa using this)
theorem onceGo_many : ∀ (xs acc : List (List T_impl_Value)), (∀ r, many acc r ≤ 1) → ∀ r, many (onceGo acc xs) r = if 0 < many acc r ∨ 0 < many xs r then 1 else 0
 | [], acc, h, r => by
  have := h r
  simp only [onceGo, many_nil, Nat.lt_irrefl, or_false]
  split <;> omega
 | x :: xs, acc, h, r => by
  unfold onceGo
  cases hd : decide (0 < many acc x) with
  | true =>
   have hx := of_decide_eq_true hd
   rw [cond_true, onceGo_many xs acc h r, many_cons]
   cases he : rowEq x r with
   | true =>
    have := rowEq_iff.1 he
    subst this
    rw [if_pos (.inl hx), if_pos (.inl hx)]
   | false => simp
  | false =>
   have hx := of_decide_eq_false hd
   have hacc : ∀ q, many (acc ++ [x]) q = many acc q + if rowEq x q = true then 1 else 0 := fun q => by
    rw [many_app, many_cons, many_nil, Nat.zero_add]
   rw [cond_false, onceGo_many xs (acc ++ [x]) (fun q => by
    rw [hacc]
    cases he : rowEq x q with
    | true =>
     have := rowEq_iff.1 he
     subst this
     simp; omega
    | false => have := h q; simpa using this) r, hacc, many_cons]
   cases he : rowEq x r with
   | true => simp
   | false => simp
theorem once_many (xs : List (List T_impl_Value)) (r : List T_impl_Value) : many (once xs) r = if 0 < many xs r then 1 else 0 := by
 unfold once
 rw [onceGo_many xs [] (fun q => by rw [many_nil]; omega) r, many_nil]
 simp
theorem onceGo_len : ∀ (xs acc : List (List T_impl_Value)), (onceGo acc xs).length ≤ acc.length + xs.length
 | [], acc => by simp [onceGo]
 | x :: xs, acc => by
  unfold onceGo
  cases decide (0 < many acc x)
  ·have := onceGo_len xs (acc ++ [x])
   simp only [List.length_append, List.length_singleton] at this
   simp only [cond_false, List.length_cons]
   omega
  ·have := onceGo_len xs acc
   simp only [cond_true, List.length_cons]
   omega
end Go.D
set_option linter.unusedVariables false
namespace Go.D
abbrev RowL := List (List T_impl_Value)
def allR (a : RowL) : Bool := a.all rowOk
theorem allR_mem {a : RowL} (h : allR a = true) : ∀ r ∈ a, rowOk r = true := List.all_eq_true.1 h
theorem impl_allR {a : RowL} (h : SmRs a) : impl_allOk a = some (allR a) := by
 unfold impl_allOk slices_ContainsFunc_impl_Value_impl_Value_s3 slices_IndexFunc_impl_Value_impl_Value_s3
 have hl := h.1
 obtain ⟨x, h1, h2⟩ := loop_find (xs := a) (L := slices_IndexFunc_impl_Value_impl_Value_s3_l0 a impl_allOk_1) (p := fun v => !(rowOk v)) (by omega) (fun f i v hi hv hw => by
  have : (i : Int) < a.length := by omega
  simp only [slices_IndexFunc_impl_Value_impl_Value_s3_l0, this, decide_true, cond_true, getI_nat, hv, Option.bind_some, impl_allOk_1, impl_rowOk (h.2 v (List.mem_of_getElem? hv)), hw]) (fun f => by
  simp only [slices_IndexFunc_impl_Value_impl_Value_s3_l0, Int.lt_irrefl, decide_false, cond_false])
 rw [h1, Option.bind_some, h2, Option.bind_some, not_any_not]
 rfl
theorem spec_sameR {a b : List T_impl_Value} (h : a.length ≤ 70368744177662) : spec_l3Same a b = some (rowEq a b) := by
 unfold spec_l3Same rowEq
 have e : ((a.length : Int) == (b.length : Int)) = (a.length == b.length) := len_beqN _ _
 rw [e]
 cases hl : a.length == b.length with
 | false => rfl
 | true =>
  rw [Bool.not_true, cond_false, Bool.true_and]
  refine loop_two (L := fun f i => spec_l3Same_l0 a b f i) h (by simpa using hl) (fun f i x y hi hx hy hw => ?_) (fun f => ?_)
  ·rw [spec_l3Same_l0, decide_eq_true (by omega), cond_true, getI_nat, hx, Option.bind_some, getI_nat, hy, Option.bind_some, hw]
   cases eq_T_impl_Value x y <;> rfl
  ·rw [spec_l3Same_l0, decide_eq_false (Int.lt_irrefl _), cond_false]
theorem many_consR (v : List T_impl_Value) (rest : RowL) (r : List T_impl_Value) : many (v :: rest) r = many rest r + if rowEq v r = true then 1 else 0 := List.countP_cons
theorem many_le (a : RowL) (r : List T_impl_Value) : many a r ≤ a.length := List.countP_le_length
theorem spec_manyR {rows : RowL} (h : SmRs rows) (r : List T_impl_Value) : spec_RowMany rows r = some (many rows r : Int) := by
 have h1 := h.1
 unfold spec_RowMany
 have := loop_opt (xs := rows) (L := fun f i (n : Int) => spec_RowMany_l0 rows r f n i) (fun rest n => some (n + (many rest r : Int))) (fun i n => 0 ≤ n ∧ n ≤ (i : Int)) (by omega)
  (fun f i n v hi hv hw hI => by
   have hs := (h.2 v (List.mem_of_getElem? hv)).1
   have hI1 := hI.1
   have hI2 := hI.2
   cases hr : rowEq v r with
   | true =>
    refine .inr ⟨n + 1, ⟨by omega, by omega⟩, ?_, ?_⟩
    ·rw [spec_RowMany_l0, decide_eq_true (by omega), cond_true, getI_nat, hv, Option.bind_some, spec_sameR (by omega), Option.bind_some, hr, cond_true, spec_RowMany_j1, hw, w64_of (by omega) (by omega)]
    ·rw [many_consR, hr]; simp only [if_true]; congr 1; omega
   | false =>
    refine .inr ⟨n, ⟨by omega, by omega⟩, ?_, ?_⟩
    ·rw [spec_RowMany_l0, decide_eq_true (by omega), cond_true, getI_nat, hv, Option.bind_some, spec_sameR (by omega), Option.bind_some, hr, cond_false, spec_RowMany_j1, hw]
    ·rw [many_consR, hr]; simp)
  (fun f n hI => by rw [spec_RowMany_l0, decide_eq_false (Int.lt_irrefl _), cond_false, many_nil]; simp) (s := 0) ⟨by omega, by simp⟩
 rw [this, Int.zero_add]
theorem clipRs_R {xs : RowL} : slices_Clip_impl_Value_impl_Value_s3_R xs = some xs := by
 unfold slices_Clip_impl_Value_impl_Value_s3_R slI
 simp
theorem impl_copyRR {xs : RowL} (hl : xs.length ≤ 4194304) (h : ∀ r ∈ xs, SmR r) : impl_rowsCopy_R xs = some xs := by
 have key : ∀ (k i f : Nat), i + k = xs.length → k < f → impl_rowsCopy_R_l0 xs f (i : Int) (xs.take i) = some xs := by
  intro k
  induction k with
  | zero =>
   intro i f hi hf
   cases f with
   | zero => omega
   | succ f =>
    unfold impl_rowsCopy_R_l0
    rw [decide_eq_false (by omega), cond_false, clipRs_R, Option.bind_some, List.take_of_length_le (by omega)]
  | succ k ih =>
   intro i f hi hf
   cases f with
   | zero => omega
   | succ f =>
    have hlt : i < xs.length := by omega
    unfold impl_rowsCopy_R_l0
    rw [decide_eq_true (by omega), cond_true, getI_nat, List.getElem?_eq_getElem hlt, Option.bind_some, impl_cloneV (by have := (h _ (List.getElem_mem hlt)).1; omega), Option.bind_some, app_lt (by simp; omega), Option.bind_some, succ_w hlt (by omega),
     List.take_append_getElem hlt]
    exact ih (i + 1) f (by omega) (by omega)
 have := key xs.length 0 FUEL (by omega) (Nat.lt_of_le_of_lt hl (by decide))
 exact this
theorem dec_many (s : RowL) (v : List T_impl_Value) : decide ((many s v : Int) > 0) = decide (0 < many s v) := by
 by_cases hp : 0 < many s v
 ·rw [decide_eq_true hp, decide_eq_true (by omega)]
 ·rw [decide_eq_false hp, decide_eq_false (by omega)]
theorem impl_onceR {xs : RowL} (h : SmRs xs) : impl_RowsOnce_R xs = some (once xs) := by
 have hl := h.1
 unfold impl_RowsOnce_R
 have := loop_opt (xs := xs) (L := fun f i (s : RowL) => impl_RowsOnce_R_l0 xs f i s) (fun rest s => some (onceGo s rest)) (fun i s => s.length ≤ i ∧ ∀ r ∈ s, SmR r) (by omega)
  (fun f i s v hi hv hw hI => by
   have hm := List.mem_of_getElem? hv
   have hs : SmRs s := ⟨by have := hI.1; omega, hI.2⟩
   have hI1 := hI.1
   cases hd : decide (0 < many s v) with
   | true =>
    refine .inr ⟨s, ⟨by omega, hI.2⟩, ?_, by simp [onceGo, hd]⟩
    rw [impl_RowsOnce_R_l0, decide_eq_true (by omega), cond_true, getI_nat, hv, Option.bind_some]
    unfold impl_rowsHas
    rw [impl_many hs, Option.bind_some, dec_many, hd, Option.bind_some, Bool.not_true, cond_false, hw]
   | false =>
    refine .inr ⟨s ++ [v], ⟨by simp; omega, fun r hr => (List.mem_append.1 hr).elim (hI.2 r) (fun h' => by
     have : r = v := by simpa using h'
     rw [this]; exact h.2 v hm)⟩, ?_, by simp [onceGo, hd]⟩
    rw [impl_RowsOnce_R_l0, decide_eq_true (by omega), cond_true, getI_nat, hv, Option.bind_some]
    unfold impl_rowsHas
    rw [impl_many hs, Option.bind_some, dec_many, hd, Option.bind_some, Bool.not_false, cond_true, app_lt (by simp; omega), Option.bind_some, hw])
  (fun f s hI => by
   rw [impl_RowsOnce_R_l0, decide_eq_false (Int.lt_irrefl _), cond_false, impl_copyRR (by have := hI.1; omega) hI.2, Option.bind_some]
   rfl) (s := []) ⟨Nat.zero_le _, fun r hr => by cases hr⟩
 exact this
theorem spec_onceL {xs : RowL} (h : SmRs xs) : spec_RowsOnce_L0 xs = some (once xs) := by
 have hl := h.1
 unfold spec_RowsOnce_L0
 have := loop_opt (xs := xs) (L := fun f i (s : RowL) => spec_RowsOnce_L0_l0 xs f i s) (fun rest s => some (onceGo s rest)) (fun i s => s.length ≤ i ∧ ∀ r ∈ s, SmR r) (by omega)
  (fun f i s v hi hv hw hI => by
   have hm := List.mem_of_getElem? hv
   have hs : SmRs s := ⟨by have := hI.1; omega, hI.2⟩
   have hI1 := hI.1
   cases hd : decide (0 < many s v) with
   | true =>
    refine .inr ⟨s, ⟨by omega, hI.2⟩, ?_, by simp [onceGo, hd]⟩
    have hd' := of_decide_eq_true hd
    have e : ((many s v : Int) == 0) = false := by simp; omega
    rw [spec_RowsOnce_L0_l0, decide_eq_true (by omega), cond_true, getI_nat, hv, Option.bind_some, spec_manyR hs, Option.bind_some, e, cond_false, spec_RowsOnce_L0_j1, hw]
   | false =>
    refine .inr ⟨s ++ [v], ⟨by simp; omega, fun r hr => (List.mem_append.1 hr).elim (hI.2 r) (fun h' => by
     have : r = v := by simpa using h'
     rw [this]; exact h.2 v hm)⟩, ?_, by simp [onceGo, hd]⟩
    have hd' := of_decide_eq_false hd
    have e : ((many s v : Int) == 0) = true := by simp; omega
    rw [spec_RowsOnce_L0_l0, decide_eq_true (by omega), cond_true, getI_nat, hv, Option.bind_some, spec_manyR hs, Option.bind_some, e, cond_true, Option.bind_some, spec_ownR (h.2 v hm).1, Option.bind_some, app_lt (by simp; omega), Option.bind_some,
     spec_RowsOnce_L0_j1, hw])
  (fun f s hI => by
   rw [spec_RowsOnce_L0_l0, decide_eq_false (Int.lt_irrefl _), cond_false]
   rfl) (s := []) ⟨Nat.zero_le _, fun r hr => by cases hr⟩
 exact this
theorem once_mem {xs : RowL} {r : List T_impl_Value} : r ∈ once xs ↔ r ∈ xs := by
 rw [← many_pos, ← many_pos, once_many]
 split
 ·next h => exact ⟨fun _ => h, fun _ => by omega⟩
 ·next h => exact ⟨fun k => by omega, fun k => absurd k h⟩
theorem once_len (xs : RowL) : (once xs).length ≤ xs.length := by
 have := onceGo_len xs []
 simpa [once] using this
theorem many_perm {a b : RowL} (h : a.Perm b) (r : List T_impl_Value) : many a r = many b r := h.countP_eq _
theorem perm_of_many : ∀ {a b : RowL}, (∀ r, many a r = many b r) → a.Perm b
 | [], b, h => by
  have : b = [] := by
   cases b with
   | nil => rfl
   | cons x b =>
    have := h x
    rw [many_nil, many_consR, rowEq_refl] at this
    simp at this
  rw [this]
 | x :: a, b, h => by
  have hx : x ∈ b := by
   rw [← many_pos, ← h x, many_consR, rowEq_refl]
   simp
  obtain ⟨l, r, rfl⟩ := List.append_of_mem hx
  have : a.Perm (l ++ r) := perm_of_many fun y => by
   have := h y
   rw [many_consR, many_app, many_consR] at this
   rw [many_app]
   omega
  exact (this.cons x).trans List.perm_middle.symm
theorem sortedV_eq {a b : RowL} (h : a.Perm b) (hb : allR b = true) : sortedV a = sortedV b :=
 asc_uniq ((sortedV_perm a).trans (h.trans (sortedV_perm b).symm)) (sortedV_asc fun x hx => allR_mem hb x (h.mem_iff.1 hx)) (sortedV_asc (allR_mem hb))
def dOf (a b : RowL) (r : List T_impl_Value) : Option T_impl_Delta := bif ((many b r : Int) - many a r) == 0 then none else some ⟨r, (many b r : Int) - many a r⟩
def deltaL (a b S : RowL) : List T_impl_Delta := S.filterMap (dOf a b)
def deltaV (a b : RowL) : List T_impl_Delta := bif allR a && allR b then deltaL a b (sortedV (once (a ++ b))) else []
theorem sm_app {a b : RowL} (ha : SmRs a) (hb : SmRs b) (hl : a.length + b.length ≤ 2097152) : SmRs (a ++ b) :=
 ⟨by simp only [List.length_append]; omega, fun r hr => (List.mem_append.1 hr).elim (ha.2 r) (hb.2 r)⟩
theorem clipDl {xs : List T_impl_Delta} : slices_Clip_impl_Delta_impl_Delta xs = some xs := by
 unfold slices_Clip_impl_Delta_impl_Delta slI
 simp
theorem impl_deltaL {a b S : RowL} (ha : SmRs a) (hb : SmRs b) (hS : S.length ≤ 2097152) : impl_deltaOf_l0 a b S FUEL 0 [] = some (deltaL a b S) := by
 have ha1 := ha.1
 have hb1 := hb.1
 have := loop_opt (xs := S) (L := fun f i (s : List T_impl_Delta) => impl_deltaOf_l0 a b S f i s) (fun rest s => some (s ++ deltaL a b rest)) (fun i s => s.length ≤ i) (by omega)
  (fun f i s v hi hv hw hI => by
   have m1 := many_le a v
   have m2 := many_le b v
   have hw2 : w64 ((many b v : Int) - many a v) = (many b v : Int) - many a v := by rw [w64_of] <;> omega
   cases hd : ((many b v : Int) - many a v) == 0 with
   | true =>
    refine .inr ⟨s, by omega, ?_, by simp [deltaL, dOf, hd]⟩
    rw [impl_deltaOf_l0, decide_eq_true (by omega), cond_true, getI_nat, hv, Option.bind_some, impl_many hb, Option.bind_some, impl_many ha, Option.bind_some, hw2, hd, Bool.not_true, cond_false, hw]
   | false =>
    refine .inr ⟨s ++ [⟨v, (many b v : Int) - many a v⟩], by simp; omega, ?_, by simp [deltaL, dOf, hd]⟩
    rw [impl_deltaOf_l0, decide_eq_true (by omega), cond_true, getI_nat, hv, Option.bind_some, impl_many hb, Option.bind_some, impl_many ha, Option.bind_some, hw2, hd, Bool.not_false, cond_true, app_lt (by simp; omega), Option.bind_some, hw])
  (fun f s hI => by
   rw [impl_deltaOf_l0, decide_eq_false (Int.lt_irrefl _), cond_false, clipDl, Option.bind_some]
   simp [deltaL]) (s := []) (Nat.le_refl _)
 exact this
theorem impl_deltaV {a b : RowL} (ha : SmRs a) (hb : SmRs b) (hl : a.length + b.length ≤ 2000000) : impl_DeltaOf a b = some (deltaV a b) := by
 unfold impl_DeltaOf deltaV
 rw [impl_allR ha, Option.bind_some]
 cases va : allR a with
 | false => rfl
 | true =>
  rw [Bool.not_true, cond_false, impl_allR hb, Option.bind_some]
  cases vb : allR b with
  | false => rfl
  | true =>
   have hs := sm_app ha hb (by omega)
   have ho := once_sm hs
   have hol := once_len (a ++ b)
   rw [List.length_append] at hol
   have hok : ∀ r ∈ once (a ++ b), rowOk r = true := fun r hr => (List.mem_append.1 (once_mem.1 hr)).elim (allR_mem va r) (allR_mem vb r)
   simp only [impl_DeltaOf_j0, Bool.not_true, cond_false, Bool.and_self, cond_true]
   unfold impl_deltaOf
   rw [impl_concatR ha.1 hb.1, Option.bind_some, impl_onceR hs, Option.bind_some]
   obtain ⟨W, h1, h2, h3⟩ := stable_ok (p := fun r => Sm r.length) (cf := ordR) (F := impl_rowOrder) (fun x y hx _ => impl_ordR hx) ord_row (once (a ++ b)) ⟨by omega, fun z hz => (ho.2 z hz).1⟩
   have hW : W = sortedV (once (a ++ b)) := asc_uniq (h2.trans (sortedV_perm _).symm) h3 (sortedV_asc hok)
   rw [h1, Option.bind_some, hW, impl_deltaL ha hb (by rw [(sortedV_perm _).length_eq]; omega)]
   rfl
def sumD : List T_impl_Delta → List T_impl_Value → Int
 | [], _ => 0
 | d :: ds, r => (if rowEq d.fRow r = true then d.fMany else 0) + sumD ds r
theorem sumD_app (xs ys : List T_impl_Delta) (r : List T_impl_Value) : sumD (xs ++ ys) r = sumD xs r + sumD ys r := by
 induction xs with
 | nil => simp [sumD]
 | cons x xs ih => simp only [List.cons_append, sumD, ih]; omega
theorem sumD_map (a : RowL) (k : Int) (r : List T_impl_Value) : sumD (a.map fun x => ⟨x, k⟩) r = k * many a r := by
 induction a with
 | nil => simp [sumD, many_nil]
 | cons x a ih =>
  simp only [List.map_cons, sumD, ih, many_consR]
  split
  ·rw [Int.natCast_add, Int.mul_add]; simp; omega
  ·simp
def sumOf (list : List T_impl_Delta) (r : List T_impl_Value) : Option T_impl_Delta := bif sumD list r == 0 then none else some ⟨r, sumD list r⟩
structure SmDs (ds : List T_impl_Delta) : Prop where
 len : ds.length ≤ 2097152
 row : ∀ d ∈ ds, SmR d.fRow
 one : ∀ d ∈ ds, -1 ≤ d.fMany ∧ d.fMany ≤ 1
theorem spec_sum_in {list : List T_impl_Delta} (h : SmDs list) {S : RowL} {i : Nat} {r : List T_impl_Value} (hr : S[i]? = some r) (s : List T_impl_Delta) (hs : s.length ≤ 4194304) (K : Int → List T_impl_Delta → Option (List T_impl_Delta)) :
  spec_l11Sum_l3 list S (i : Int) s K FUEL 0 0 = K (w64 ((i : Int) + 1)) (s ++ (sumOf list r).toList) := by
 have hl := h.len
 have := loop_opt (xs := list) (L := fun f j (n : Int) => spec_l11Sum_l3 list S (i : Int) s K f n j) (fun rest n => K (w64 ((i : Int) + 1)) (s ++ (bif n + sumD rest r == 0 then none else some ⟨r, n + sumD rest r⟩ : Option T_impl_Delta).toList))
  (fun j n => -(j : Int) ≤ n ∧ n ≤ (j : Int)) (by omega)
  (fun f j n v hi hv hw hI => by
   have hm := List.mem_of_getElem? hv
   obtain ⟨o1, o2⟩ := h.one v hm
   have i1 := hI.1
   have i2 := hI.2
   cases hq : rowEq v.fRow r with
   | true =>
    refine .inr ⟨n + v.fMany, ⟨by omega, by omega⟩, ?_, ?_⟩
    ·rw [spec_l11Sum_l3, decide_eq_true (by omega), cond_true, getI_nat, hv, Option.bind_some, getI_nat, hr, Option.bind_some, spec_sameR (by have := (h.row v hm).1; omega), Option.bind_some, hq, cond_true, Option.bind_some, spec_l11Sum_j4, hw, w64_of (by omega) (by omega)]
    ·simp only [sumD, hq, if_true, Int.add_assoc]
   | false =>
    refine .inr ⟨n, ⟨by omega, by omega⟩, ?_, ?_⟩
    ·rw [spec_l11Sum_l3, decide_eq_true (by omega), cond_true, getI_nat, hv, Option.bind_some, getI_nat, hr, Option.bind_some, spec_sameR (by have := (h.row v hm).1; omega), Option.bind_some, hq, cond_false, spec_l11Sum_j4, hw]
    ·simp [sumD, hq])
  (fun f n hI => by
   rw [spec_l11Sum_l3, decide_eq_false (Int.lt_irrefl _), cond_false]
   simp only [sumD, Int.add_zero]
   cases n == 0 with
   | true => simp [spec_l11Sum_j2]
   | false =>
    rw [Bool.not_false, cond_true, getI_nat, hr, Option.bind_some, app_lt (by simp; omega), Option.bind_some, spec_l11Sum_j2]
    rfl) (s := 0) ⟨by simp, by simp⟩
 rw [this]
 simp [sumOf]
theorem spec_sum {list : List T_impl_Delta} (h : SmDs list) : spec_l11Sum list = some ((sortedV (once (list.map (·.fRow)))).filterMap (sumOf list)) := by
 have hl := h.len
 have hsm : SmRs (list.map (·.fRow)) := ⟨by simpa using hl, fun r hr => by
  obtain ⟨d, hd, rfl⟩ := List.mem_map.1 hr
  exact h.row d hd⟩
 have ho := once_sm hsm
 have hol := once_len (list.map (·.fRow))
 rw [List.length_map] at hol
 have hsl : (sortedV (once (list.map (·.fRow)))).length = (once (list.map (·.fRow))).length := (sortedV_perm _).length_eq
 have outer : spec_l11Sum_l1 list (sortedV (once (list.map (·.fRow)))) FUEL 0 [] = some ((sortedV (once (list.map (·.fRow)))).filterMap (sumOf list)) := by
  generalize sortedV (once (list.map (·.fRow))) = S at hsl ⊢
  have := loop_opt (xs := S) (L := fun f i (s : List T_impl_Delta) => spec_l11Sum_l1 list S f i s) (fun rest s => some (s ++ rest.filterMap (sumOf list))) (fun i s => s.length ≤ i) (by omega)
   (fun f i s v hi hv hw hI => by
    refine .inr ⟨s ++ (sumOf list v).toList, ?_, ?_, ?_⟩
    ·rw [List.length_append]
     cases sumOf list v <;> simp <;> omega
    ·rw [spec_l11Sum_l1, decide_eq_true (by omega), cond_true, spec_sum_in h hv s (by omega), hw]
    ·rw [List.filterMap_cons]
     cases sumOf list v <;> simp)
   (fun f s hI => by
    rw [spec_l11Sum_l1, decide_eq_false (Int.lt_irrefl _), cond_false]
    simp) (s := []) (Nat.le_refl _)
  exact this
 unfold spec_l11Sum
 have := loop_opt (xs := list) (L := fun f i (s : RowL) => spec_l11Sum_l0 list f i s) (fun rest s => (spec_RowsOnce_L0 (s ++ rest.map (·.fRow))).bind fun v11 => (spec_RowsSorted v11).bind fun v13 => spec_l11Sum_l1 list v13 FUEL 0 []) (fun i s => s.length = i) (by omega)
  (fun f i s v hi hv hw hI => by
   refine .inr ⟨s ++ [v.fRow], by simp; omega, ?_, by simp⟩
   rw [spec_l11Sum_l0, decide_eq_true (by omega), cond_true, getI_nat, hv, Option.bind_some, app_lt (by simp; omega), Option.bind_some, hw])
  (fun f s hI => by
   rw [spec_l11Sum_l0, decide_eq_false (Int.lt_irrefl _), cond_false]
   simp) (s := []) rfl
 rw [this, List.nil_append, spec_onceL hsm, Option.bind_some, spec_sorted ho, Option.bind_some, outer]
theorem spec_deltaV {a b : RowL} (ha : SmRs a) (hb : SmRs b) (hl : a.length + b.length ≤ 2000000) : spec_DeltaOf_R a b = some (deltaV a b) := by
 have hA := ha.1
 have hB := hb.1
 unfold spec_DeltaOf_R
 have last : ∀ (s : List T_impl_Delta), s.length ≤ 2097152 → spec_DeltaOf_R_l1 b FUEL 0 s = bif b.all rowOk then spec_l11Sum (s ++ b.map fun r => ⟨r, 1⟩) else some [] := fun s hs => by
  have := loop_opt (xs := b) (L := fun f i (s : List T_impl_Delta) => spec_DeltaOf_R_l1 b f i s) (fun rest s => bif rest.all rowOk then spec_l11Sum (s ++ rest.map fun r => ⟨r, 1⟩) else some []) (fun i s => s.length ≤ 2097152 + i) (by omega)
   (fun f i s v hi hv hw hI => by
    have hm := List.mem_of_getElem? hv
    cases hk : rowOk v with
    | true =>
     refine .inr ⟨s ++ [⟨v, 1⟩], by simp; omega, ?_, by simp [hk]⟩
     rw [spec_DeltaOf_R_l1, decide_eq_true (by omega), cond_true, getI_nat, hv, Option.bind_some, spec_rowOk (hb.2 v hm), Option.bind_some, hk, Bool.not_true, cond_false, Option.bind_some, app_lt (by simp; omega), Option.bind_some, hw]
    | false =>
     refine .inl ?_
     rw [spec_DeltaOf_R_l1, decide_eq_true (by omega), cond_true, getI_nat, hv, Option.bind_some, spec_rowOk (hb.2 v hm), Option.bind_some, hk, Bool.not_false, cond_true]
     simp [hk])
   (fun f s hI => by
    rw [spec_DeltaOf_R_l1, decide_eq_false (Int.lt_irrefl _), cond_false]
    simp) (s := s) (by omega)
  exact this
 have := loop_opt (xs := a) (L := fun f i (s : List T_impl_Delta) => spec_DeltaOf_R_l0 a b f i s) (fun rest s => bif rest.all rowOk then (bif b.all rowOk then spec_l11Sum (s ++ (rest.map fun r => ⟨r, -1⟩) ++ b.map fun r => ⟨r, 1⟩) else some []) else some []) (fun i s => s.length = i) (by omega)
  (fun f i s v hi hv hw hI => by
   have hm := List.mem_of_getElem? hv
   cases hk : rowOk v with
   | true =>
    refine .inr ⟨s ++ [⟨v, -1⟩], by simp; omega, ?_, by simp [hk]⟩
    rw [spec_DeltaOf_R_l0, decide_eq_true (by omega), cond_true, getI_nat, hv, Option.bind_some, spec_rowOk (ha.2 v hm), Option.bind_some, hk, Bool.not_true, cond_false, Option.bind_some, app_lt (by simp; omega), Option.bind_some, hw]
   | false =>
    refine .inl ?_
    rw [spec_DeltaOf_R_l0, decide_eq_true (by omega), cond_true, getI_nat, hv, Option.bind_some, spec_rowOk (ha.2 v hm), Option.bind_some, hk, Bool.not_false, cond_true]
    simp [hk])
  (fun f s hI => by
   rw [spec_DeltaOf_R_l0, decide_eq_false (Int.lt_irrefl _), cond_false, last s (by omega)]
   simp) (s := []) rfl
 rw [this, List.nil_append]
 unfold deltaV allR
 cases va : a.all rowOk with
 | false => rfl
 | true =>
  cases vb : b.all rowOk with
  | false => rfl
  | true =>
   simp only [cond_true, Bool.and_self]
   have hd : SmDs ((a.map fun r => (⟨r, -1⟩ : T_impl_Delta)) ++ b.map fun r => ⟨r, 1⟩) := by
    refine ⟨by simp; omega, fun d hd => ?_, fun d hd => ?_⟩ <;> rcases List.mem_append.1 hd with hd | hd <;> obtain ⟨r, hr, rfl⟩ := List.mem_map.1 hd
    ·exact ha.2 r hr
    ·exact hb.2 r hr
    ·exact ⟨(by decide : (-1 : Int) ≤ -1), (by decide : (-1 : Int) ≤ 1)⟩
    ·exact ⟨(by decide : (-1 : Int) ≤ 1), (by decide : (1 : Int) ≤ 1)⟩
   rw [spec_sum hd]
   have e1 : ((a.map fun r => (⟨r, -1⟩ : T_impl_Delta)) ++ b.map fun r => (⟨r, 1⟩ : T_impl_Delta)).map (fun d : T_impl_Delta => d.fRow) = a ++ b := by simp [List.map_map, Function.comp_def]
   rw [e1]
   have e2 : sumOf ((a.map fun r => (⟨r, -1⟩ : T_impl_Delta)) ++ b.map fun r => ⟨r, 1⟩) = dOf a b := by
    funext r
    unfold sumOf dOf
    rw [sumD_app, sumD_map, sumD_map]
    have : (-1 : Int) * many a r + 1 * many b r = (many b r : Int) - many a r := by omega
    rw [this]
   rw [e2]
   rfl
end Go.D
set_option linter.unusedVariables false
namespace Go.D
theorem loop_fidx {α : Type} {xs : List α} {L : Nat → Int → Option Int} {p : α → Bool} (hlen : xs.length ≤ 70368744177662)
  (h : ∀ (f i : Nat) (v : α), i < xs.length → xs[i]? = some v → w64 ((i : Int) + 1) = ((i + 1 : Nat) : Int) → L (f + 1) i = bif p v then some (i : Int) else L f ((i + 1 : Nat) : Int)) (he : ∀ f, L (f + 1) (xs.length : Int) = some (-1)) :
  L FUEL 0 = some (match xs.findIdx? p with | some i => (i : Int) | none => -1) := by
 have main : ∀ (k i f : Nat), i + k = xs.length → k < f → L f (i : Int) = some (match (xs.drop i).findIdx? p with | some j => ((i + j : Nat) : Int) | none => -1) := by
  intro k
  induction k with
  | zero =>
   intro i f hi hf
   obtain ⟨f, rfl⟩ : ∃ f', f = f' + 1 := ⟨f - 1, by omega⟩
   have : i = xs.length := by omega
   subst this
   rw [he, List.drop_length]
   rfl
  | succ k ih =>
   intro i f hi hf
   obtain ⟨f, rfl⟩ : ∃ f', f = f' + 1 := ⟨f - 1, by omega⟩
   have hlt : i < xs.length := by omega
   rw [h f i xs[i] hlt (List.getElem?_eq_getElem hlt) (succ_w hlt (by omega)), List.drop_eq_getElem_cons hlt, List.findIdx?_cons]
   cases hp : p xs[i] with
   | true => simp
   | false =>
    rw [cond_false, ih (i + 1) f (by omega) (by omega)]
    simp only [Bool.false_eq_true, if_false]
    cases (xs.drop (i + 1)).findIdx? p with
    | none => rfl
    | some j =>
     simp only [Option.map_some]
     congr 2
     omega
 have := main xs.length 0 FUEL (by omega) (by unfold FUEL; omega)
 rw [show ((0 : Nat) : Int) = 0 from rfl, List.drop_zero] at this
 rw [this]
 simp
def rem1 (r : List T_impl_Value) (o : RowL) : Option RowL := (o.findIdx? fun x => rowEq x r).map fun i => o.take i ++ o.drop (i + 1)
def remN (r : List T_impl_Value) : Nat → RowL → Option RowL
 | 0, o => some o
 | n + 1, o => (rem1 r o).bind (remN r n)
def step1 (o : RowL) (d : T_impl_Delta) : Option RowL := if 0 ≤ d.fMany then some (o ++ List.replicate d.fMany.toNat d.fRow) else remN d.fRow (-d.fMany).toNat o
def stepsV : List T_impl_Delta → RowL → Option RowL
 | [], o => some o
 | d :: ds, o => (step1 o d).bind (stepsV ds)
def dOk (d : T_impl_Delta) : Bool := rowOk d.fRow && inR d.fMany (-100) 100
def rowsD (a : RowL) (ds : List T_impl_Delta) : RowL × Bool := bif allR a && ds.all dOk then (match stepsV ds a with
 | some o => (sortedV o, true)
 | none => ([], false)) else ([], false)
theorem rem1_some {r : List T_impl_Value} {o o' : RowL} (h : rem1 r o = some o') : o.Perm (r :: o') := by
 unfold rem1 at h
 cases hi : o.findIdx? fun x => rowEq x r with
 | none => rw [hi] at h; cases h
 | some i =>
  rw [hi] at h
  cases h
  obtain ⟨hlt, hp, _⟩ := List.findIdx?_eq_some_iff_getElem.1 hi
  have e : o[i] = r := rowEq_iff.1 hp
  have : o = o.take i ++ o[i] :: o.drop (i + 1) := by rw [← List.drop_eq_getElem_cons hlt, List.take_append_drop]
  rw [e] at this
  conv => lhs; rw [this]
  exact List.perm_middle
theorem rem1_none {r : List T_impl_Value} {o : RowL} : rem1 r o = none ↔ many o r = 0 := by
 unfold rem1
 rw [Option.map_eq_none_iff, List.findIdx?_eq_none_iff]
 constructor
 ·intro h
  by_cases hm : many o r = 0
  ·exact hm
  ·have := h r (many_pos.1 (by omega))
   rw [rowEq_refl] at this
   cases this
 ·intro h x hx
  cases hq : rowEq x r with
  | false => rfl
  | true =>
   have := many_pos.2 hx
   rw [rowEq_iff.1 hq] at this
   omega
theorem rem1_many {r : List T_impl_Value} {o o' : RowL} (h : rem1 r o = some o') (x : List T_impl_Value) : many o x = many o' x + if rowEq r x = true then 1 else 0 := by
 rw [many_perm (rem1_some h), many_consR]
theorem remN_many {r : List T_impl_Value} : ∀ {n : Nat} {o o' : RowL}, remN r n o = some o' → ∀ x, (many o' x : Int) = many o x - if rowEq r x = true then (n : Int) else 0
 | 0, o, o', h, x => by
  cases h
  split <;> simp
 | n + 1, o, o', h, x => by
  unfold remN at h
  cases h1 : rem1 r o with
  | none => rw [h1] at h; cases h
  | some o1 =>
   rw [h1] at h
   have e1 := rem1_many h1 x
   have e2 := remN_many (o := o1) h x
   split at e1
   ·next hq =>
    rw [if_pos hq] at e2 ⊢
    omega
   ·next hq =>
    rw [if_neg hq] at e2 ⊢
    omega
theorem remN_ok {r : List T_impl_Value} : ∀ {n : Nat} {o : RowL}, n ≤ many o r → ∃ o', remN r n o = some o'
 | 0, o, _ => ⟨o, rfl⟩
 | n + 1, o, h => by
  cases h1 : rem1 r o with
  | none =>
   have := rem1_none.1 h1
   omega
  | some o1 =>
   have e1 := rem1_many h1 r
   rw [if_pos (rowEq_refl r)] at e1
   obtain ⟨o', h'⟩ := remN_ok (r := r) (n := n) (o := o1) (by omega)
   exact ⟨o', by rw [remN, h1]; exact h'⟩
theorem many_rep (n : Nat) (r x : List T_impl_Value) : many (List.replicate n r) x = if rowEq r x = true then n else 0 := by
 induction n with
 | zero => simp [many_nil]
 | succ n ih =>
  rw [List.replicate_succ, many_consR, ih]
  split <;> simp
theorem step1_many {o o' : RowL} {d : T_impl_Delta} (h : step1 o d = some o') (x : List T_impl_Value) : (many o' x : Int) = many o x + if rowEq d.fRow x = true then d.fMany else 0 := by
 unfold step1 at h
 split at h
 ·next h0 =>
  cases h
  rw [many_app, many_rep]
  split <;> omega
 ·next h0 =>
  have := remN_many h x
  rw [this]
  split <;> omega
theorem stepsV_mem {ds : List T_impl_Delta} {o o' : RowL} (h : stepsV ds o = some o') {p : List T_impl_Value → Prop} (ho : ∀ r ∈ o, p r) (hd : ∀ d ∈ ds, p d.fRow) : ∀ r ∈ o', p r := by
 have rem : ∀ (r : List T_impl_Value) (n : Nat) (o o' : RowL), remN r n o = some o' → (∀ x ∈ o, p x) → ∀ x ∈ o', p x := by
  intro r n
  induction n with
  | zero =>
   intro o o' h ho
   cases h
   exact ho
  | succ n ih =>
   intro o o' h ho
   unfold remN at h
   cases h1 : rem1 r o with
   | none => rw [h1] at h; cases h
   | some o1 =>
    rw [h1] at h
    exact ih o1 o' h fun x hx => ho x ((rem1_some h1).mem_iff.2 (by simp [hx]))
 induction ds generalizing o with
 | nil => cases h; exact ho
 | cons d ds ih =>
  unfold stepsV at h
  cases h1 : step1 o d with
  | none => rw [h1] at h; cases h
  | some o1 =>
   rw [h1] at h
   refine ih h (fun x hx => ?_) (fun d' hd' => hd d' (by simp [hd']))
   unfold step1 at h1
   split at h1
   ·cases h1
    rcases List.mem_append.1 hx with hx | hx
    ·exact ho x hx
    ·rw [(List.mem_replicate.1 hx).2]
     exact hd d (by simp)
   ·exact rem _ _ _ _ h1 ho x hx
theorem remN_len {r : List T_impl_Value} : ∀ {n : Nat} {o o' : RowL}, remN r n o = some o' → o'.length ≤ o.length
 | 0, o, o', h => by cases h; exact Nat.le_refl _
 | n + 1, o, o', h => by
  unfold remN at h
  cases h1 : rem1 r o with
  | none => rw [h1] at h; cases h
  | some o1 =>
   rw [h1] at h
   have e1 := (rem1_some h1).length_eq
   have e2 := remN_len (o := o1) h
   simp only [List.length_cons] at e1
   omega
theorem step1_len {o o' : RowL} {d : T_impl_Delta} (h : step1 o d = some o') (hd : dOk d = true) : o'.length ≤ o.length + 100 := by
 unfold step1 at h
 have hr : inR d.fMany (-100) 100 = true := by
  unfold dOk at hd
  simp only [Bool.and_eq_true] at hd
  exact hd.2
 simp only [inR, Bool.and_eq_true, decide_eq_true_eq] at hr
 split at h
 ·cases h
  simp only [List.length_append, List.length_replicate]
  omega
 ·have := remN_len h
  omega
theorem impl_idxR {o : RowL} (h : o.length ≤ 8388608) (hs : ∀ r ∈ o, SmR r) (d : T_impl_Delta) : slices_IndexFunc_impl_Value_impl_Value_s3 o (fun z0 => impl_afterDeltas_1 z0 d) = some (match o.findIdx? (fun x => rowEq x d.fRow) with | some i => (i : Int) | none => -1) := by
 unfold slices_IndexFunc_impl_Value_impl_Value_s3
 refine loop_fidx (L := fun f i => slices_IndexFunc_impl_Value_impl_Value_s3_l0 o (fun z0 => impl_afterDeltas_1 z0 d) f i) (p := fun x => rowEq x d.fRow) (by omega) (fun f i v hi hv hw => ?_) (fun f => ?_)
 ·rw [slices_IndexFunc_impl_Value_impl_Value_s3_l0, decide_eq_true (by omega), cond_true, getI_nat, hv, Option.bind_some]
  unfold impl_afterDeltas_1
  rw [slices_Equal_ok (by have := (hs v (List.mem_of_getElem? hv)).1; omega), Option.bind_some, Option.bind_some, hw]
 ·rw [slices_IndexFunc_impl_Value_impl_Value_s3_l0, decide_eq_false (Int.lt_irrefl _), cond_false]
theorem impl_del {o : RowL} (h : o.length ≤ 8388608) (hs : ∀ r ∈ o, SmR r) (x4 : Int) (K : Int → RowL → Option (RowL × Bool)) (d : T_impl_Delta) : ∀ (k f : Nat) (o : RowL), k ≤ 1000000 → o.length ≤ 8388608 → (∀ r ∈ o, SmR r) → k < f →
  impl_afterDeltas_l2 x4 K d f (-(k : Int)) o = match remN d.fRow k o with | some o' => K (w64 (x4 + 1)) o' | none => some ([], false)
 | 0, f + 1, o, _, _, _, _ => by
  rw [impl_afterDeltas_l2, decide_eq_false (by omega), cond_false]
  rfl
 | k + 1, f + 1, o, hk, hl, hs, hf => by
  rw [impl_afterDeltas_l2, decide_eq_true (by omega), cond_true, impl_idxR hl hs, Option.bind_some, remN, rem1]
  cases hi : o.findIdx? fun x => rowEq x d.fRow with
  | none => rfl
  | some i =>
   obtain ⟨hlt, hp, _⟩ := List.findIdx?_eq_some_iff_getElem.1 hi
   have hw : w64 ((i : Int) + 1) = ((i + 1 : Nat) : Int) := by rw [w64_of] <;> omega
   have hd : delR o (i : Int) ((i + 1 : Nat) : Int) = some (o.take i ++ o.drop (i + 1)) := by
    unfold delR
    rw [decide_eq_true (by omega), decide_eq_true (by omega), decide_eq_true (by omega)]
    simp
   have h1 : rem1 d.fRow o = some (o.take i ++ o.drop (i + 1)) := by
    unfold rem1
    rw [hi]
    rfl
   have hw2 : w64 (-((k + 1 : Nat) : Int) + 1) = -(k : Int) := by rw [w64_of] <;> omega
   simp only [Option.map_some, Option.bind_some]
   rw [decide_eq_false (by omega), cond_false, hw, hd, Option.bind_some, hw2]
   refine impl_del h ‹_› x4 K d k f _ (by omega) ?_ (fun r hr => hs r ((rem1_some h1).mem_iff.2 (by simp only [List.mem_cons]; exact .inr hr))) (by omega)
   simp only [List.length_append, List.length_take, List.length_drop]
   omega
theorem impl_add (x4 : Int) (K : Int → RowL → Option (RowL × Bool)) (d : T_impl_Delta) (hd : d.fMany ≤ 1000000) : ∀ (k i f : Nat) (o : RowL), (i : Int) + k = d.fMany → o.length ≤ 4194304 + i → k < f →
  impl_afterDeltas_l1 x4 K d f (i : Int) o = impl_afterDeltas_l2 x4 K d FUEL d.fMany (o ++ List.replicate k d.fRow)
 | 0, i, f + 1, o, hi, _, _ => by
  rw [impl_afterDeltas_l1, decide_eq_false (by omega), cond_false]
  simp
 | k + 1, i, f + 1, o, hi, hl, hf => by
  rw [impl_afterDeltas_l1, decide_eq_true (by omega), cond_true, app_lt (by simp; omega), Option.bind_some, show w64 ((i : Int) + 1) = ((i + 1 : Nat) : Int) by rw [w64_of] <;> omega, impl_add x4 K d hd k (i + 1) f _ (by omega) (by simp; omega) (by omega), List.append_assoc]
  rfl
theorem impl_step {d : T_impl_Delta} (hd : dOk d = true) (x4 : Int) (K : Int → RowL → Option (RowL × Bool)) {o : RowL} (hl : o.length ≤ 4194304) (hs : ∀ r ∈ o, SmR r) (hr : SmR d.fRow) :
  impl_afterDeltas_l1 x4 K d FUEL 0 o = match step1 o d with | some o' => K (w64 (x4 + 1)) o' | none => some ([], false) := by
 have hr2 : inR d.fMany (-100) 100 = true := by
  unfold dOk at hd
  simp only [Bool.and_eq_true] at hd
  exact hd.2
 simp only [inR, Bool.and_eq_true, decide_eq_true_eq] at hr2
 unfold step1
 by_cases h0 : 0 ≤ d.fMany
 ·rw [if_pos h0]
  have h1 := impl_add x4 K d (by omega) d.fMany.toNat 0 FUEL o (by omega) (by omega) (by unfold FUEL; omega)
  rw [show ((0 : Nat) : Int) = 0 from rfl] at h1
  rw [h1]
  obtain ⟨F, hF⟩ : ∃ F, FUEL = F + 1 := ⟨FUEL - 1, by decide⟩
  rw [hF, impl_afterDeltas_l2, decide_eq_false (by omega), cond_false]
 ·rw [if_neg h0]
  obtain ⟨F, hF⟩ : ∃ F, FUEL = F + 1 := ⟨FUEL - 1, by decide⟩
  have e : impl_afterDeltas_l1 x4 K d FUEL 0 o = impl_afterDeltas_l2 x4 K d FUEL d.fMany o := by
   conv => lhs; rw [hF, impl_afterDeltas_l1, decide_eq_false (by omega), cond_false]
  have em : d.fMany = -(((-d.fMany).toNat : Nat) : Int) := by omega
  rw [e]
  conv => lhs; rw [em]
  exact impl_del (by omega) hs x4 K d (-d.fMany).toNat FUEL o (by omega) (by omega) hs (by unfold FUEL; omega)
theorem impl_cloneRs {a : RowL} (h : a.length ≤ 8388608) : slices_Clone_impl_Value_impl_Value_s3 a = some a := by
 unfold slices_Clone_impl_Value_impl_Value_s3 slices_Clone_impl_Value_impl_Value_s3_j0
 rw [cond_false, app_lt (by simp; omega)]
 rfl
theorem impl_after {a : RowL} (ha : SmRs a) {ds : List T_impl_Delta} (hdl : ds.length ≤ 10000) (hal : a.length ≤ 1000000) (hd : ∀ d ∈ ds, SmR d.fRow) (hk : ds.all dOk = true) :
  impl_afterDeltas a ds = some (match stepsV ds a with | some o => (sortedV o, true) | none => ([], false)) := by
 unfold impl_afterDeltas
 rw [impl_cloneRs (by have := ha.1; omega), Option.bind_some]
 rw [List.all_eq_true] at hk
 have := loop_opt (xs := ds) (L := fun f i (o : RowL) => impl_afterDeltas_l0 ds f i o) (fun rest o => some (match stepsV rest o with | some o => (sortedV o, true) | none => ([], false))) (fun i o => o.length ≤ a.length + 100 * i ∧ ∀ r ∈ o, SmR r) (by omega)
  (fun f i o v hi hv hw hI => by
   have hm := List.mem_of_getElem? hv
   have h1 := hI.1
   have e : impl_afterDeltas_l0 ds (f + 1) i o = match step1 o v with | some o' => impl_afterDeltas_l0 ds f ((i + 1 : Nat) : Int) o' | none => some ([], false) := by
    rw [impl_afterDeltas_l0, decide_eq_true (by omega), cond_true, getI_nat, hv, Option.bind_some, impl_step (hk v hm) (i : Int) _ (by omega) hI.2 (hd v hm), hw]
   cases hs : step1 o v with
   | none =>
    refine .inl ?_
    rw [e, hs]
    simp [stepsV, hs]
   | some o' =>
    refine .inr ⟨o', ⟨?_, ?_⟩, ?_, ?_⟩
    ·have := step1_len hs (hk v hm)
     omega
    ·exact stepsV_mem (ds := [v]) (o := o) (by simp [stepsV, hs]) hI.2 (fun d hd' => by
      have : d = v := by simpa using hd'
      rw [this]; exact hd v hm)
    ·rw [e, hs]
    ·simp [stepsV, hs])
  (fun f o hI => by
   have h1 := hI.1
   rw [impl_afterDeltas_l0, decide_eq_false (Int.lt_irrefl _), cond_false, impl_sorted ⟨by omega, hI.2⟩, Option.bind_some]
   rfl) (s := a) ⟨by omega, ha.2⟩
 exact this
theorem impl_rowsD {a : RowL} (ha : SmRs a) (hal : a.length ≤ 1000000) {ds : List T_impl_Delta} (hdl : ds.length ≤ 10000) (hd : ∀ d ∈ ds, SmR d.fRow) : impl_DeltaRows a ds = some (rowsD a ds) := by
 unfold impl_DeltaRows rowsD
 rw [impl_allR ha, Option.bind_some]
 cases va : allR a with
 | false => rfl
 | true =>
  rw [Bool.not_true, cond_false]
  unfold slices_ContainsFunc_impl_Delta_impl_Delta slices_IndexFunc_impl_Delta_impl_Delta
  obtain ⟨x, h1, h2⟩ := loop_find (xs := ds) (L := slices_IndexFunc_impl_Delta_impl_Delta_l0 ds impl_DeltaRows_1) (p := fun v => !(dOk v)) (by omega) (fun f i v hi hv hw => by
   have hlt : (i : Int) < ds.length := by omega
   have e : impl_DeltaRows_1 v = some (!(dOk v)) := by
    unfold impl_DeltaRows_1 dOk
    rw [impl_rowOk (hd v (List.mem_of_getElem? hv)), Option.bind_some, impl_in]
    cases rowOk v.fRow <;> simp
   simp only [slices_IndexFunc_impl_Delta_impl_Delta_l0, hlt, decide_true, cond_true, getI_nat, hv, Option.bind_some, e, hw]) (fun f => by
   simp only [slices_IndexFunc_impl_Delta_impl_Delta_l0, Int.lt_irrefl, decide_false, cond_false])
  rw [h1, Option.bind_some, h2, Option.bind_some]
  have hn : (ds.any fun v => !(dOk v)) = !(ds.all dOk) := by rw [← not_any_not, Bool.not_not]
  rw [hn]
  cases hk : ds.all dOk with
  | false => rfl
  | true =>
   simp only [Bool.not_true, impl_DeltaRows_j0, cond_false, Bool.and_self, cond_true]
   rw [impl_after ha hdl hal hd hk]
   rfl
theorem deltaL_steps {a b : RowL} : ∀ (S : RowL), S.Nodup → ∀ o : RowL, (∀ r ∈ S, many o r = many a r) → ∃ o', stepsV (deltaL a b S) o = some o' ∧ (∀ r, r ∈ S → many o' r = many b r) ∧ ∀ r, r ∉ S → many o' r = many o r
 | [], _, o, _ => ⟨o, rfl, fun r hr => by (cases hr), fun r _ => rfl⟩
 | s :: S, hn, o, ho => by
  rw [List.nodup_cons] at hn
  have hs := ho s (by simp)
  unfold deltaL
  rw [List.filterMap_cons]
  unfold dOf
  cases hz : ((many b s : Int) - many a s) == 0 with
  | true =>
   have hz' : (many b s : Int) - many a s = 0 := by simpa using hz
   obtain ⟨o', h1, h2, h3⟩ := deltaL_steps (a := a) (b := b) S hn.2 o fun r hr => ho r (by simp [hr])
   refine ⟨o', h1, fun r hr => ?_, fun r hr => h3 r fun h => hr (by simp [h])⟩
   rcases List.mem_cons.1 hr with rfl | hr
   ·rw [h3 r hn.1]
    omega
   ·exact h2 r hr
  | false =>
   have hz' : (many b s : Int) - many a s ≠ 0 := by simpa using hz
   obtain ⟨o1, e1⟩ : ∃ o1, step1 o ⟨s, (many b s : Int) - many a s⟩ = some o1 := by
    unfold step1
    split
    ·exact ⟨_, rfl⟩
    ·next h0 =>
     simp only at h0 ⊢
     exact remN_ok (by omega)
   have m1 := step1_many e1
   have hne : ∀ r ∈ S, rowEq s r = false := fun r hr => by
    cases hq : rowEq s r with
    | false => rfl
    | true => exact absurd (rowEq_iff.1 hq ▸ hr) hn.1
   obtain ⟨o', h1, h2, h3⟩ := deltaL_steps (a := a) (b := b) S hn.2 o1 fun r hr => by
    have := m1 r
    simp only [hne r hr, Bool.false_eq_true, if_false] at this
    have := ho r (by simp [hr])
    omega
   refine ⟨o', by simp only [cond_false, stepsV, e1, Option.bind_some]; exact h1, fun r hr => ?_, fun r hr => ?_⟩
   ·rcases List.mem_cons.1 hr with rfl | hr
    ·rw [h3 r hn.1]
     have := m1 r
     simp only [rowEq_refl, if_true] at this
     omega
    ·exact h2 r hr
   ·have hrs : rowEq s r = false := by
     cases hq : rowEq s r with
     | false => rfl
     | true => exact absurd (by rw [rowEq_iff.1 hq]; simp) hr
    rw [h3 r fun h => hr (by simp [h])]
    have := m1 r
    simp only [hrs, Bool.false_eq_true, if_false] at this
    omega
theorem nodup_of_many {S : RowL} (h : ∀ r, many S r ≤ 1) : S.Nodup := by
 induction S with
 | nil => exact List.nodup_nil
 | cons s S ih =>
  refine List.nodup_cons.2 ⟨fun hs => ?_, ih fun r => ?_⟩
  ·have h1 := h s
   have h2 := many_pos.2 hs
   rw [many_consR, rowEq_refl] at h1
   simp at h1
   omega
  ·have := h r
   rw [many_consR] at this
   omega
theorem onceS_nodup (xs : RowL) : (sortedV (once xs)).Nodup := by
 rw [(sortedV_perm _).nodup_iff]
 refine nodup_of_many fun r => ?_
 rw [once_many]
 split <;> omega
theorem onceS_mem {xs : RowL} {r : List T_impl_Value} : r ∈ sortedV (once xs) ↔ r ∈ xs := by
 rw [(sortedV_perm _).mem_iff, once_mem]
theorem delta_leads {a b : RowL} (ha : allR a = true) (hb : allR b = true) : ∃ o, stepsV (deltaV a b) a = some o ∧ o.Perm b := by
 unfold deltaV
 rw [ha, hb, Bool.and_self, cond_true]
 obtain ⟨o, h1, h2, h3⟩ := deltaL_steps (a := a) (b := b) (sortedV (once (a ++ b))) (onceS_nodup _) a fun r _ => rfl
 refine ⟨o, h1, perm_of_many fun r => ?_⟩
 by_cases hr : r ∈ sortedV (once (a ++ b))
 ·exact h2 r hr
 ·rw [h3 r hr]
  rw [onceS_mem] at hr
  have e1 : many a r = 0 := by
   by_cases h : many a r = 0
   ·exact h
   ·exact absurd (List.mem_append_left b (many_pos.1 (by omega))) hr
  have e2 : many b r = 0 := by
   by_cases h : many b r = 0
   ·exact h
   ·exact absurd (List.mem_append_right a (many_pos.1 (by omega))) hr
  omega
theorem deltaV_mem {a b : RowL} {d : T_impl_Delta} (h : d ∈ deltaV a b) : d.fRow ∈ a ++ b ∧ rowOk d.fRow = true ∧ d.fMany ≠ 0 ∧ d.fMany = (many b d.fRow : Int) - many a d.fRow := by
 unfold deltaV at h
 cases va : allR a with
 | false => rw [va] at h; cases h
 | true =>
  cases vb : allR b with
  | false => rw [va, vb] at h; cases h
  | true =>
   rw [va, vb, Bool.and_self, cond_true] at h
   obtain ⟨r, hr, e⟩ := List.mem_filterMap.1 h
   have hm := onceS_mem.1 hr
   unfold dOf at e
   cases hz : ((many b r : Int) - many a r) == 0 with
   | true => rw [hz] at e; cases e
   | false =>
    rw [hz] at e
    cases e
    exact ⟨hm, (List.mem_append.1 hm).elim (allR_mem va r) (allR_mem vb r), by simpa using hz, rfl⟩
theorem deltaV_ok {a b : RowL} (h : a.length ≤ 100) (k : b.length ≤ 100) : (deltaV a b).all dOk = true := by
 rw [List.all_eq_true]
 intro d hd
 obtain ⟨h1, h2, h3, h4⟩ := deltaV_mem hd
 have m1 := many_le a d.fRow
 have m2 := many_le b d.fRow
 unfold dOk inR
 rw [h2, Bool.true_and, Bool.and_eq_true, decide_eq_true_eq, decide_eq_true_eq]
 omega
theorem deltaV_len (a b : RowL) : (deltaV a b).length ≤ a.length + b.length := by
 unfold deltaV
 cases allR a && allR b with
 | false => simp
 | true =>
  rw [cond_true]
  refine Nat.le_trans (List.length_filterMap_le _ _) ?_
  rw [(sortedV_perm _).length_eq]
  have := once_len (a ++ b)
  rwa [List.length_append] at this
theorem rowsD_delta {a b : RowL} (ha : allR a = true) (hb : allR b = true) (h : a.length ≤ 100) (k : b.length ≤ 100) : rowsD a (deltaV a b) = (sortedV b, true) := by
 obtain ⟨o, h1, h2⟩ := delta_leads ha hb
 unfold rowsD
 rw [ha, deltaV_ok h k, Bool.and_self, cond_true, h1]
 simp only [sortedV_eq h2 hb]
end Go.D
set_option linter.unusedVariables false
namespace Go.D
structure RdOk (n : Int) (r : T_spec_l20Rd) : Prop where
 len : r.fB.length ≤ 2000
 lo : 0 ≤ r.fP
 hi : r.fP ≤ n
theorem RdOk.up {n m : Int} {r : T_spec_l20Rd} (h : RdOk n r) (hm : n ≤ m) : RdOk m r := ⟨h.len, h.lo, by have := h.hi; omega⟩
theorem remI_pos {a b : Int} (ha : 0 ≤ a) (hb : 0 < b) : ∃ k, remI a b = some k ∧ 0 ≤ k ∧ k < b := by
 unfold remI
 rw [if_neg (by omega)]
 refine ⟨_, rfl, ?_, ?_⟩
 ·rw [Int.tmod_eq_emod_of_nonneg ha]
  exact Int.emod_nonneg _ (by omega)
 ·rw [Int.tmod_eq_emod_of_nonneg ha]
  exact Int.emod_lt_of_pos _ hb
theorem quoI_pos {a b : Int} (ha : 0 ≤ a) (ha2 : a ≤ 4611686018427387904) (hb : 0 < b) : ∃ k, quoI a b = some k ∧ 0 ≤ k ∧ k ≤ a := by
 unfold quoI
 rw [if_neg (by omega), Int.tdiv_eq_ediv_of_nonneg ha]
 have h0 : 0 ≤ a / b := Int.ediv_nonneg ha (by omega)
 have h1 : a / b ≤ a := Int.ediv_le_self _ ha
 rw [w64_of (by omega) (by omega)]
 exact ⟨_, rfl, h0, h1⟩
theorem xor_w {a b : Int} (ha : 0 ≤ a) (hb : 0 ≤ b) (ha2 : a < 4611686018427387904) (hb2 : b < 4611686018427387904) : 0 ≤ w64 (((BitVec.ofInt 64 a ^^^ BitVec.ofInt 64 b).toNat : Nat) : Int) := by
 obtain ⟨m, rfl⟩ := Int.eq_ofNat_of_zero_le ha
 obtain ⟨n, rfl⟩ := Int.eq_ofNat_of_zero_le hb
 have hm : m < 2 ^ 62 := by omega
 have hn : n < 2 ^ 62 := by omega
 have e : (BitVec.ofInt 64 (m : Int) ^^^ BitVec.ofInt 64 (n : Int)).toNat = m ^^^ n := by
  rw [BitVec.toNat_xor, BitVec.ofInt_natCast, BitVec.ofInt_natCast, BitVec.toNat_ofNat, BitVec.toNat_ofNat, Nat.mod_eq_of_lt (by omega), Nat.mod_eq_of_lt (by omega)]
 rw [e]
 have := Nat.xor_lt_two_pow hm hn
 rw [w64_of (by omega) (by omega)]
 omega
theorem pick_ok {n : Int} {r : T_spec_l20Rd} (h : RdOk n r) (hn : n ≤ 1000000) (a : Int) : ∃ k r', spec_l20Rd_pick r a = some (k, r') ∧ RdOk (n + 1) r' ∧ 0 ≤ k ∧ (a < 1 → k = 0) ∧ (1 ≤ a → k < a) := by
 obtain ⟨fB, fP⟩ := r
 obtain ⟨h1, h2, h3⟩ := h
 simp only at h1 h2 h3
 have w1 : w64 (fP + 1) = fP + 1 := w64_of (by omega) (by omega)
 have w2 : w64 (fP + 1 - 1) = fP := by rw [show fP + 1 - 1 = fP by omega]; exact w64_of (by omega) (by omega)
 have hr : RdOk (n + 1) ⟨fB, fP + 1⟩ := ⟨h1, by simp only; omega, by simp only; omega⟩
 unfold spec_l20Rd_pick
 by_cases ha : a < 1
 ·rw [decide_eq_true ha, cond_true]
  unfold spec_l20Rd_pick_j0
  simp only [cond_true, w1]
  exact ⟨0, _, rfl, hr, Int.le_refl _, fun _ => rfl, fun h => by omega⟩
 rw [decide_eq_false ha, cond_false]
 unfold spec_l20Rd_pick_j0
 simp only [w1, w2]
 by_cases hl : fB.length = 0
 ·have : ((fB.length : Int) == 0) = true := by rw [hl]; rfl
  rw [this, cond_true]
  exact ⟨0, _, rfl, hr, Int.le_refl _, fun _ => rfl, fun h => by omega⟩
 have : ((fB.length : Int) == 0) = false := by
  rw [beq_eq_false_iff_ne]
  omega
 rw [this, cond_false]
 have hpos : (0 : Int) < fB.length := by omega
 by_cases hp : fP < (fB.length : Int)
 ·rw [decide_eq_true hp, cond_true]
  obtain ⟨b, hb, _⟩ := getI_lt (xs := fB) h2 hp
  have hb8 : b.toNat < 256 := b.toNat_lt
  have w3 : w64 (b.toNat : Int) = b.toNat := w64_of (by omega) (by omega)
  obtain ⟨k, hk, k0, k1⟩ := remI_pos (a := (b.toNat : Int)) (b := a) (by omega) (by omega)
  rw [hb, Option.bind_some, w3, hk, Option.bind_some]
  exact ⟨k, _, rfl, hr, k0, fun h => by omega, fun _ => k1⟩
 ·rw [decide_eq_false hp, cond_false]
  have w4 : w64 (fP * 7) = fP * 7 := w64_of (by omega) (by omega)
  have w5 : w64 (fP * 7 + 3) = fP * 7 + 3 := w64_of (by omega) (by omega)
  have w6 : w64 (fP * 29) = fP * 29 := w64_of (by omega) (by omega)
  obtain ⟨k1, e1, l1, u1⟩ := remI_pos (a := fP) (b := (fB.length : Int)) h2 hpos
  obtain ⟨b1, g1, _⟩ := getI_lt (xs := fB) l1 u1
  obtain ⟨k2, e2, l2, u2⟩ := remI_pos (a := fP * 7 + 3) (b := (fB.length : Int)) (by omega) hpos
  obtain ⟨b2, g2, _⟩ := getI_lt (xs := fB) l2 u2
  obtain ⟨k3, e3, l3, u3⟩ := quoI_pos (a := fP) (b := (fB.length : Int)) h2 (by omega) hpos
  have hb1 : b1.toNat < 256 := b1.toNat_lt
  have hb2 : b2.toNat < 256 := b2.toNat_lt
  have w7 : w64 (b1.toNat : Int) = b1.toNat := w64_of (by omega) (by omega)
  have w8 : w64 (b2.toNat : Int) = b2.toNat := w64_of (by omega) (by omega)
  have w9 : w64 ((b1.toNat : Int) * 131) = (b1.toNat : Int) * 131 := w64_of (by omega) (by omega)
  have w10 : w64 ((b2.toNat : Int) * 1117) = (b2.toNat : Int) * 1117 := w64_of (by omega) (by omega)
  have w11 : w64 ((b1.toNat : Int) * 131 + (b2.toNat : Int) * 1117) = (b1.toNat : Int) * 131 + (b2.toNat : Int) * 1117 := w64_of (by omega) (by omega)
  have w12 : w64 ((b1.toNat : Int) * 131 + (b2.toNat : Int) * 1117 + fP * 29) = (b1.toNat : Int) * 131 + (b2.toNat : Int) * 1117 + fP * 29 := w64_of (by omega) (by omega)
  have w13 : w64 (k3 * 53) = k3 * 53 := w64_of (by omega) (by omega)
  have w14 : w64 ((b1.toNat : Int) * 131 + (b2.toNat : Int) * 1117 + fP * 29 + k3 * 53) = (b1.toNat : Int) * 131 + (b2.toNat : Int) * 1117 + fP * 29 + k3 * 53 := w64_of (by omega) (by omega)
  simp only [w4, w5, w6, e1, g1, e2, g2, e3, Option.bind_some, w7, w8, w9, w10, w11, w12, w13, w14]
  generalize hx : (b1.toNat : Int) * 131 + (b2.toNat : Int) * 1117 + fP * 29 + k3 * 53 = x
  have x0 : 0 ≤ x := by omega
  have x1 : x ≤ 100000000 := by omega
  have y0 : 0 ≤ x.tdiv 64 := by rw [Int.tdiv_eq_ediv_of_nonneg x0]; omega
  have y1 : x.tdiv 64 ≤ x := by rw [Int.tdiv_eq_ediv_of_nonneg x0]; omega
  have w15 : w64 (x.tdiv 64) = x.tdiv 64 := w64_of (by omega) (by omega)
  rw [w15]
  obtain ⟨k, hk, k0, kk⟩ := remI_pos (b := a) (xor_w (a := x) (b := x.tdiv 64) x0 y0 (by omega) (by omega)) (by omega)
  rw [hk, Option.bind_some]
  exact ⟨k, _, rfl, hr, k0, fun h => by omega, fun _ => kk⟩
theorem odd_ok {n : Int} {r : T_spec_l20Rd} (h : RdOk n r) (hn : n ≤ 1000000) (a : Int) : ∃ b r', spec_l20Rd_odd r a = some (b, r') ∧ RdOk (n + 1) r' := by
 unfold spec_l20Rd_odd
 by_cases ha : a > 0
 ·obtain ⟨k, r', e, hr, _⟩ := pick_ok h hn a
  rw [decide_eq_true ha, cond_true, e, Option.bind_some]
  exact ⟨_, _, rfl, hr⟩
 ·rw [decide_eq_false ha, cond_false]
  exact ⟨_, _, rfl, h.up (by omega)⟩
theorem open_ok {b : List UInt8} (hb : b.length ≤ 1048576) : ∃ r, spec_l20Open b = some r ∧ RdOk 0 r := by
 unfold spec_l20Open spec_l20Open_j0
 by_cases h : (b.length : Int) > 2000
 ·rw [decide_eq_true h, cond_true]
  have e : slI b none (some 2000) none = some (b.take 2000) := by
   unfold slI
   rw [if_pos (by simp only [Option.getD_none, Option.getD_some]; omega)]
   simp
  rw [e, Option.bind_some]
  exact ⟨_, rfl, by simp only [List.length_take]; omega, Int.le_refl _, Int.le_refl _⟩
 ·rw [decide_eq_false h, cond_false]
  exact ⟨_, rfl, by simp only; omega, Int.le_refl _, Int.le_refl _⟩
end Go.D
set_option linter.unusedVariables false
namespace Go.D
def Wp {α : Type} (m : Option (α × T_spec_l20Rd)) (Q : α → T_spec_l20Rd → Prop) : Prop := ∃ x r, m = some (x, r) ∧ Q x r
theorem wp_some {α : Type} {x : α} {r : T_spec_l20Rd} {Q : α → T_spec_l20Rd → Prop} (h : Q x r) : Wp (some (x, r)) Q := ⟨x, r, rfl, h⟩
theorem wp_pick {α : Type} {r : T_spec_l20Rd} {a n : Int} {f : Int × T_spec_l20Rd → Option (α × T_spec_l20Rd)} {Q : α → T_spec_l20Rd → Prop} (h : RdOk n r) (hn : n ≤ 1000000)
  (hk : ∀ k r', RdOk (n + 1) r' → 0 ≤ k → (a < 1 → k = 0) → (1 ≤ a → k < a) → Wp (f (k, r')) Q) : Wp ((spec_l20Rd_pick r a).bind f) Q := by
 obtain ⟨k, r', e, h1, h2, h3, h4⟩ := pick_ok h hn a
 rw [e, Option.bind_some]
 exact hk k r' h1 h2 h3 h4
theorem wp_odd {α : Type} {r : T_spec_l20Rd} {a n : Int} {f : Bool × T_spec_l20Rd → Option (α × T_spec_l20Rd)} {Q : α → T_spec_l20Rd → Prop} (h : RdOk n r) (hn : n ≤ 1000000)
  (hk : ∀ b r', RdOk (n + 1) r' → Wp (f (b, r')) Q) : Wp ((spec_l20Rd_odd r a).bind f) Q := by
 obtain ⟨k, r', e, h1⟩ := odd_ok h hn a
 rw [e, Option.bind_some]
 exact hk k r' h1
theorem wp_bif {α : Type} {c : Bool} {a b : Option (α × T_spec_l20Rd)} {Q : α → T_spec_l20Rd → Prop} (h1 : c = true → Wp a Q) (h2 : c = false → Wp b Q) : Wp (bif c then a else b) Q := by
 cases c with
 | true => exact h1 rfl
 | false => exact h2 rfl
theorem wp_app {α β : Type} {xs ys : List β} {f : List β → Option (α × T_spec_l20Rd)} {Q : α → T_spec_l20Rd → Prop} (h : xs.length + ys.length < 68719476736) (hk : Wp (f (xs ++ ys)) Q) : Wp ((app xs ys).bind f) Q := by
 rw [app_lt h, Option.bind_some]
 exact hk
theorem wp_addS {α : Type} {a b : ByteArray} {f : ByteArray → Option (α × T_spec_l20Rd)} {Q : α → T_spec_l20Rd → Prop} (h : a.size + b.size ≤ 1000000) (hk : ∀ s, s.size = a.size + b.size → Wp (f s) Q) : Wp ((addS a b).bind f) Q := by
 have e : addS a b = some (a ++ b) := if_pos (by omega)
 rw [e, Option.bind_some]
 exact hk _ ByteArray.size_append
theorem wp_getI {α β : Type} {xs : List β} {i : Int} {f : β → Option (α × T_spec_l20Rd)} {Q : α → T_spec_l20Rd → Prop} (h0 : 0 ≤ i) (h1 : i < xs.length) (hk : ∀ x ∈ xs, Wp (f x) Q) : Wp ((getI xs i).bind f) Q := by
 obtain ⟨x, h, hx⟩ := getI_lt h0 h1
 rw [h, Option.bind_some]
 exact hk x (List.mem_of_getElem? hx)
theorem wp_then {α β : Type} {m : Option (β × T_spec_l20Rd)} {f : β × T_spec_l20Rd → Option (α × T_spec_l20Rd)} {P : β → T_spec_l20Rd → Prop} {Q : α → T_spec_l20Rd → Prop} (h : Wp m P) (hk : ∀ x r, P x r → Wp (f (x, r)) Q) : Wp (m.bind f) Q := by
 obtain ⟨x, r, e, hp⟩ := h
 rw [e, Option.bind_some]
 exact hk x r hp
theorem wp_mono {α : Type} {m : Option (α × T_spec_l20Rd)} {P Q : α → T_spec_l20Rd → Prop} (h : Wp m P) (hk : ∀ x r, P x r → Q x r) : Wp m Q := by
 obtain ⟨x, r, e, hp⟩ := h
 exact ⟨x, r, e, hk x r hp⟩
theorem loop_down {σ β : Type} {L : Nat → Int → σ → Option (β × T_spec_l20Rd)} {Q : β → T_spec_l20Rd → Prop} (Inv : Nat → σ → Prop)
  (h : ∀ (f k : Nat) (s : σ), k ≤ 1000000 → w64 (((k + 1 : Nat) : Int) - 1) = (k : Int) → Inv (k + 1) s → (∀ s', Inv k s' → Wp (L f (k : Int) s') Q) → Wp (L (f + 1) ((k + 1 : Nat) : Int) s) Q)
  (he : ∀ (f : Nat) (s : σ), Inv 0 s → Wp (L (f + 1) 0 s) Q) (k : Nat) (s : σ) (hI : Inv k s) (hk : k ≤ 1000000) : Wp (L FUEL (k : Int) s) Q := by
 have main : ∀ (k f : Nat) (s : σ), k < f → k ≤ 1000000 → Inv k s → Wp (L f (k : Int) s) Q := by
  intro k
  induction k with
  | zero =>
   intro f s hf _ hI
   obtain ⟨f, rfl⟩ : ∃ f', f = f' + 1 := ⟨f - 1, by omega⟩
   exact he f s hI
  | succ k ih =>
   intro f s hf hk hI
   obtain ⟨f, rfl⟩ : ∃ f', f = f' + 1 := ⟨f - 1, by omega⟩
   exact h f k s (by omega) (by rw [w64_of] <;> omega) hI fun s' hI' => ih f s' (by omega) (by omega) hI'
 exact main k FUEL s (by unfold FUEL; omega) hk hI
theorem columns_ok {n : Int} {r : T_spec_l20Rd} (h : RdOk n r) (hn : n ≤ 900000) (a : Int) : Wp (spec_l20Columns r a) fun cs r' => RdOk (n + 9) r' ∧ 1 ≤ cs.length ∧ cs.length ≤ 6 := by
 unfold spec_l20Columns
 refine wp_pick h (by omega) fun v r1 h1 v0 _ v1 => ?_
 have v1 := v1 (by omega)
 have e : w64 (1 + v) = ((v.toNat + 1 : Nat) : Int) := by rw [w64_of (by omega) (by omega)]; omega
 simp only
 rw [e]
 have := loop_down (L := fun f i (s : T_spec_l20Rd × List T_impl_Column) => spec_l20Columns_l0 a f i s.1 s.2) (Q := fun cs r' => RdOk (n + 9) r' ∧ 1 ≤ cs.length ∧ cs.length ≤ 6)
  (fun k s => RdOk (n + 1 + 2 * (3 - k)) s.1 ∧ s.2.length + k = v.toNat + 1)
  (fun f k s hk hw hI hrec => by
   obtain ⟨r, xs⟩ := s
   obtain ⟨hI1, hI2⟩ := hI
   simp only at hI1 hI2 ⊢
   rw [spec_l20Columns_l0, decide_eq_true (by omega), cond_true]
   refine wp_pick hI1 (by omega) fun k1 r1 h1 p0 _ p1 => ?_
   refine wp_getI p0 (by have := p1 (by omega); simp; omega) fun c hc => ?_
   refine wp_pick h1 (by omega) fun k2 r2 h2 q0 _ q1 => ?_
   refine wp_app (by simp; omega) ?_
   simp only [hw]
   exact hrec (r2, _) ⟨h2.up (by (try simp only); omega), by simp; omega⟩)
  (fun f s hI => by
   obtain ⟨r, xs⟩ := s
   obtain ⟨hI1, hI2⟩ := hI
   simp only at hI1 hI2 ⊢
   rw [spec_l20Columns_l0, decide_eq_false (by omega), cond_false]
   refine wp_odd hI1 (by omega) fun b r1 h1 => wp_bif (fun _ => ?_) fun _ => ?_
   ·refine wp_pick h1 (by omega) fun k1 r2 h2 _ _ _ => wp_app (by simp; omega) (wp_some ⟨h2.up (by omega), ?_, ?_⟩)
    ·simp
    ·simp; omega
   ·exact wp_some ⟨h1.up (by omega), by omega, by omega⟩)
  (v.toNat + 1) (r1, []) ⟨h1.up (by (try simp only); omega), by simp⟩ (by omega)
 exact this
theorem like_ok {n : Int} {r : T_spec_l20Rd} (h : RdOk n r) (hn : n ≤ 900000) (c : T_impl_Column) : Wp (spec_l20Like r c) fun v r' => RdOk (n + 2) r' ∧ v.fS.size ≤ 2 := by
 have e0 : (ByteArray.mk #[]).size = 0 := rfl
 have key : ∀ (m : Int) (r : T_spec_l20Rd) (b : Bool), RdOk m r → m ≤ n + 1 → Wp (spec_l20Like_j0 c b r) fun v r' => RdOk (n + 2) r' ∧ v.fS.size ≤ 2 := by
  intro m r b h hm
  unfold spec_l20Like_j0
  refine wp_bif (fun _ => wp_some ⟨h.up (by omega), by simp [e0]⟩) fun _ => wp_bif (fun _ => ?_) fun _ => wp_bif (fun _ => ?_) fun _ => ?_
  ·exact wp_pick h (by omega) fun k r1 h1 _ _ _ => wp_some ⟨h1.up (by omega), by simp [e0]⟩
  ·refine wp_pick h (by omega) fun k r1 h1 p0 _ p1 => wp_getI p0 (by have := p1 (by omega); simp; omega) fun s hs => wp_some ⟨h1.up (by omega), ?_⟩
   simp only [List.mem_cons, List.not_mem_nil, or_false] at hs
   rcases hs with rfl | rfl | rfl | rfl <;> decide
  ·exact wp_pick h (by omega) fun k r1 h1 _ _ _ => wp_some ⟨h1.up (by omega), by simp [e0]⟩
 unfold spec_l20Like
 refine wp_bif (fun _ => wp_pick h (by omega) fun k r1 h1 _ _ _ => key _ _ _ h1 (by omega)) fun _ => key _ _ _ h (by omega)
theorem value_j0 {n : Int} {r : T_spec_l20Rd} (h : RdOk n r) (hn : n ≤ 900000) (a : Int) {v : T_impl_Value} (hv : v.fS.size ≤ 3) : Wp (spec_l20Value_j0 a r v) fun v r' => RdOk (n + 3) r' ∧ v.fS.size ≤ 10 := by
 unfold spec_l20Value_j0
 have e1 : (ByteArray.mk #[97, 98, 99, 100, 101, 102, 103]).size = 7 := rfl
 have e2 : (ByteArray.mk #[65]).size = 1 := rfl
 refine wp_odd h (by omega) fun b r1 h1 => wp_bif (fun _ => ?_) fun _ => wp_some ⟨h1.up (by omega), by omega⟩
 refine wp_pick h1 (by omega) fun k r2 h2 _ _ _ => wp_bif (fun _ => wp_some ⟨h2.up (by omega), by simp only; omega⟩) fun _ => wp_bif (fun _ => ?_) fun _ => wp_bif (fun _ => ?_) fun _ => ?_
 ·exact wp_addS (by omega) fun s hs => wp_some ⟨h2.up (by omega), by simp only; omega⟩
 ·exact wp_pick h2 (by omega) fun k r3 h3 _ _ _ => wp_some ⟨h3.up (by omega), by simp only; omega⟩
 ·exact wp_addS (by omega) fun s hs => wp_some ⟨h2.up (by omega), by simp only; omega⟩
theorem value_ok {n : Int} {r : T_spec_l20Rd} (h : RdOk n r) (hn : n ≤ 800000) (a : Int) : Wp (spec_l20Value r a) fun v r' => RdOk (n + 9) r' ∧ v.fS.size ≤ 10 := by
 have e0 : (ByteArray.mk #[]).size = 0 := rfl
 have fin : ∀ (m : Int) (r : T_spec_l20Rd) (v : T_impl_Value), RdOk m r → m ≤ n + 6 → v.fS.size ≤ 3 → Wp (spec_l20Value_j0 a r v) fun v r' => RdOk (n + 9) r' ∧ v.fS.size ≤ 10 :=
  fun m r v h hm hv => wp_mono (value_j0 h (by omega) a hv) fun v r' hq => ⟨hq.1.up (by omega), hq.2⟩
 have j2 : ∀ (x : Int × T_spec_l20Rd) (b : Bool), RdOk (n + 1) x.2 → Wp (spec_l20Value_j2 a x b) fun v r' => RdOk (n + 9) r' ∧ v.fS.size ≤ 10 := by
  intro x b hx
  have j3 : ∀ b, Wp (spec_l20Value_j3 a x b) fun v r' => RdOk (n + 9) r' ∧ v.fS.size ≤ 10 := by
   intro b
   unfold spec_l20Value_j3
   refine wp_bif (fun _ => ?_) fun _ => wp_pick hx (by omega) fun k r1 h1 _ _ _ => fin _ _ _ h1 (by omega) (by simp [e0])
   refine wp_pick hx (by omega) fun k r1 h1 p0 _ p1 => ?_
   have p1 := p1 (by omega)
   have e : k = ((k.toNat : Nat) : Int) := by omega
   simp only
   rw [e]
   have := loop_down (L := fun f i (s : T_spec_l20Rd × T_impl_Value) => spec_l20Value_l4 a f i s.1 s.2) (Q := fun v r' => RdOk (n + 9) r' ∧ v.fS.size ≤ 10)
    (fun k s => k ≤ 3 ∧ RdOk (n + 2 + (3 - k)) s.1 ∧ s.2.fS.size + k ≤ 3)
    (fun f k s hk hw hI hrec => by
     obtain ⟨r, v⟩ := s
     obtain ⟨hI0, hI1, hI2⟩ := hI
     simp only at hI1 hI2 ⊢
     have es : ∀ b : UInt8, (ByteArray.mk (List.toArray ([b] : List UInt8))).size = 1 := fun _ => rfl
     rw [spec_l20Value_l4, decide_eq_true (by omega), cond_true]
     refine wp_pick hI1 (by omega) fun k1 r1 h1 _ _ _ => wp_addS (by rw [es]; omega) fun s hs => ?_
     rw [es] at hs
     simp only [hw]
     exact hrec (r1, _) ⟨by omega, h1.up (by omega), by simp only; omega⟩)
    (fun f s hI => by
     obtain ⟨r, v⟩ := s
     obtain ⟨hI0, hI1, hI2⟩ := hI
     simp only at hI1 hI2 ⊢
     rw [spec_l20Value_l4, decide_eq_false (by omega), cond_false]
     exact fin _ _ _ hI1 (by omega) (by omega))
    k.toNat (r1, T_impl_Value.mk 2 0 (ByteArray.mk #[])) ⟨by omega, h1.up (by omega), by simp only [e0]; omega⟩ (by omega)
   exact this
  unfold spec_l20Value_j2
  refine wp_bif (fun _ => ?_) fun _ => wp_bif (fun _ => j3 _) fun _ => j3 _
  refine wp_pick hx (by omega) fun k r1 h1 _ _ _ => wp_pick h1 (by omega) fun k2 r2 h2 _ _ _ => wp_bif (fun _ => ?_) fun _ => fin _ _ _ h2 (by omega) (by simp [e0])
  exact wp_pick h2 (by omega) fun k3 r3 h3 p0 _ p1 => wp_getI p0 (by have := p1 (by omega); simp; omega) fun x hx => fin _ _ _ h3 (by omega) (by simp [e0])
 unfold spec_l20Value
 refine wp_pick h (by omega) fun k r1 h1 _ _ _ => wp_bif (fun _ => fin _ _ _ h1 (by omega) (by simp [e0])) fun _ => wp_bif (fun _ => j2 _ _ h1) fun _ => wp_bif (fun _ => j2 _ _ h1) fun _ => j2 _ _ h1
end Go.D
set_option linter.unusedVariables false
namespace Go.D
end Go.D
set_option linter.unusedVariables false
namespace Go.D
theorem loop_up {γ σ β : Type} {xs : List γ} {L : Nat → Int → σ → Option (β × T_spec_l20Rd)} {Q : β → T_spec_l20Rd → Prop} (Inv : Nat → σ → Prop) (hlen : xs.length ≤ 1000000)
  (h : ∀ (f i : Nat) (s : σ) (v : γ), i < xs.length → xs[i]? = some v → w64 ((i : Int) + 1) = ((i + 1 : Nat) : Int) → Inv i s → (∀ s', Inv (i + 1) s' → Wp (L f ((i + 1 : Nat) : Int) s') Q) → Wp (L (f + 1) (i : Int) s) Q)
  (he : ∀ (f : Nat) (s : σ), Inv xs.length s → Wp (L (f + 1) (xs.length : Int) s) Q) (s : σ) (h0 : Inv 0 s) : Wp (L FUEL 0 s) Q := by
 have main : ∀ (k f i : Nat) (s : σ), i + k = xs.length → k < f → Inv i s → Wp (L f (i : Int) s) Q := by
  intro k
  induction k with
  | zero =>
   intro f i s hi hf hI
   obtain ⟨f, rfl⟩ : ∃ f', f = f' + 1 := ⟨f - 1, by omega⟩
   have : i = xs.length := by omega
   subst this
   exact he f s hI
  | succ k ih =>
   intro f i s hi hf hI
   obtain ⟨f, rfl⟩ : ∃ f', f = f' + 1 := ⟨f - 1, by omega⟩
   have hlt : i < xs.length := by omega
   exact h f i s xs[i] hlt (List.getElem?_eq_getElem hlt) (succ_w hlt (by omega)) hI fun s' hI' => ih f (i + 1) s' (by omega) (by omega) hI'
 exact main xs.length FUEL 0 s (by omega) (by unfold FUEL; omega) h0
def Sr (m : Nat) (row : List T_impl_Value) : Prop := row.length ≤ m ∧ ∀ v ∈ row, v.fS.size ≤ 10
theorem Sr.sm {m : Nat} {row : List T_impl_Value} (h : Sr m row) (hm : m ≤ 1000) : SmR row := ⟨by have := h.1; omega, fun v hv => by have := h.2 v hv; unfold SmV; omega⟩
theorem Sr.app {m k : Nat} {row r2 : List T_impl_Value} (h : Sr m row) (h2 : Sr k r2) : Sr (m + k) (row ++ r2) := ⟨by have := h.1; have := h2.1; rw [List.length_append]; omega, fun v hv => (List.mem_append.1 hv).elim (h.2 v) (h2.2 v)⟩
theorem Sr.one {v : T_impl_Value} (h : v.fS.size ≤ 10) : Sr 1 [v] := ⟨by simp, fun u hu => by simp at hu; subst hu; exact h⟩
theorem fit_ok {n : Int} {r : T_spec_l20Rd} (h : RdOk n r) (hn : n ≤ 700000) {cs : List T_impl_Column} (hc : cs.length ≤ 6) (a : Int) : Wp (spec_l20Fit r cs a) fun row r' => RdOk (n + 41) r' ∧ Sr 9 row := by
 unfold spec_l20Fit
 have e0 : (ByteArray.mk #[]).size = 0 := rfl
 exact loop_up (xs := cs) (L := fun f i (s : T_spec_l20Rd × List T_impl_Value) => spec_l20Fit_l0 cs a f i s.1 s.2) (Q := fun row r' => RdOk (n + 41) r' ∧ Sr 9 row)
  (fun i s => RdOk (n + 2 * i) s.1 ∧ Sr i s.2 ∧ s.2.length = i) (by omega)
  (fun f i s c hi hv hw hI hrec => by
   obtain ⟨r, row⟩ := s
   obtain ⟨h1, h2, h3⟩ := hI
   simp only at h1 h2 h3 ⊢
   rw [spec_l20Fit_l0, decide_eq_true (by omega), cond_true, getI_nat, hv, Option.bind_some]
   refine wp_then (like_ok h1 (by omega) c) fun v r1 hq => wp_app (by simp; omega) ?_
   simp only [hw]
   exact hrec (r1, _) ⟨hq.1.up (by omega), h2.app (.one (Nat.le_trans hq.2 (by omega))), by simp; omega⟩)
  (fun f s hI => by
   obtain ⟨r, row⟩ := s
   obtain ⟨h1, h2, h3⟩ := hI
   simp only at h1 h2 h3 ⊢
   have h9 : Sr 9 row := ⟨by omega, h2.2⟩
   rw [spec_l20Fit_l0, decide_eq_false (Int.lt_irrefl _), cond_false]
   refine wp_odd h1 (by omega) fun b r1 g1 => wp_bif (fun _ => ?_) fun _ => wp_some ⟨g1.up (by omega), h9⟩
   refine wp_pick g1 (by omega) fun k r2 g2 _ _ _ => wp_bif (fun _ => ?_) fun _ => wp_bif (fun _ => wp_bif (fun hp => ?_) fun _ => ?_) fun _ => ?_
   ·exact wp_app (by simp; omega) (wp_some ⟨g2.up (by omega), by have := (h2.app (.one (v := T_impl_Value.mk 0 0 (ByteArray.mk #[])) (by simp [e0]))).1; simp at this ⊢; exact ⟨by simp; omega, (h2.app (.one (v := T_impl_Value.mk 0 0 (ByteArray.mk #[])) (by simp [e0]))).2⟩⟩)
   ·have hp := of_decide_eq_true hp
    refine wp_pick g2 (by omega) fun k2 r3 g3 p0 _ p1 => wp_then (value_ok g3 (by omega) 3) fun v r4 hq => wp_getI p0 (p1 (by omega)) fun o ho => wp_some ⟨hq.1.up (by omega), ?_, ?_⟩
    ·rw [List.length_set]; omega
    ·intro u hu
     rcases List.mem_or_eq_of_mem_set hu with hu | rfl
     ·exact h2.2 u hu
     ·exact hq.2
   ·exact wp_some ⟨g2.up (by omega), h9⟩
   ·refine wp_then (value_ok g2 (by omega) 0) fun v1 r3 q1 => wp_then (value_ok q1.1 (by omega) 0) fun v2 r4 q2 => wp_then (value_ok q2.1 (by omega) 0) fun v3 r5 q3 => wp_app (by simp; omega) (wp_some ⟨q3.1.up (by omega), ?_⟩)
    have hs : Sr 3 [v1, v2, v3] := ⟨by simp, fun u hu => by
     simp only [List.mem_cons, List.not_mem_nil, or_false] at hu
     rcases hu with rfl | rfl | rfl
     ·exact q1.2
     ·exact q2.2
     ·exact q3.2⟩
    have := h2.app hs
    exact ⟨by have := this.1; simp at this ⊢; omega, this.2⟩) (r, []) ⟨h.up (by simp), ⟨by simp, fun v hv => by cases hv⟩, rfl⟩
def Srs (rows : List (List T_impl_Value)) : Prop := rows.length ≤ 6 ∧ ∀ r ∈ rows, Sr 9 r
theorem own_ok {a : List T_impl_Value} (ha : Sr 9 a) : spec_l3Own a = some a := by
 unfold spec_l3Own
 rw [app_lt (by have := ha.1; simp; omega), List.nil_append, Option.bind_some]
theorem bag_ok {n : Int} {r : T_spec_l20Rd} (h : RdOk n r) (hn : n ≤ 600000) {cs : List T_impl_Column} (hc : cs.length ≤ 6) (a : Int) : Wp (spec_l20Bag r cs a) fun rows r' => RdOk (n + 260) r' ∧ Srs rows := by
 unfold spec_l20Bag
 refine wp_pick h (by omega) fun v r1 h1 v0 _ v1 => ?_
 have v1 := v1 (by omega)
 have e : v = ((v.toNat : Nat) : Int) := by omega
 simp only
 rw [e]
 exact loop_down (L := fun f i (s : T_spec_l20Rd × List (List T_impl_Value)) => spec_l20Bag_l0 cs a f i s.1 s.2) (Q := fun rows r' => RdOk (n + 260) r' ∧ Srs rows)
  (fun k s => k ≤ 6 ∧ RdOk (n + 1 + 43 * (6 - k)) s.1 ∧ s.2.length + k ≤ 6 ∧ ∀ r ∈ s.2, Sr 9 r)
  (fun f k s hk hw hI hrec => by
   obtain ⟨r, rows⟩ := s
   obtain ⟨i0, i1, i2, i3⟩ := hI
   simp only at i1 i2 i3 ⊢
   have add : ∀ (m : Int) (r' : T_spec_l20Rd) (row : List T_impl_Value), RdOk m r' → m ≤ n + 1 + 43 * (6 - (k + 1 : Nat)) + 43 → Sr 9 row → Wp (spec_l20Bag_j1 ((k + 1 : Nat) : Int) (spec_l20Bag_l0 cs a f) r' (rows ++ [row])) fun rows r' => RdOk (n + 260) r' ∧ Srs rows := by
    intro m r' row hr hm hs
    unfold spec_l20Bag_j1
    rw [hw]
    refine hrec (r', _) ⟨by omega, hr.up (by omega), by simp; omega, fun u hu => ?_⟩
    rcases List.mem_append.1 hu with hu | hu
    ·exact i3 u hu
    ·have : u = row := by simpa using hu
     rw [this]; exact hs
   have j2 : ∀ (m : Int) (r' : T_spec_l20Rd) (b : Bool), RdOk m r' → m ≤ n + 1 + 43 * (6 - (k + 1 : Nat)) + 1 → (b = true → 0 < rows.length) → Wp (spec_l20Bag_j2 cs a ((k + 1 : Nat) : Int) rows (spec_l20Bag_l0 cs a f) b r') fun rows r' => RdOk (n + 260) r' ∧ Srs rows := by
    intro m r' b hr hm hb
    unfold spec_l20Bag_j2
    refine wp_bif (fun hbt => ?_) fun _ => ?_
    ·have := hb hbt
     refine wp_pick hr (by omega) fun k2 r3 g3 p0 _ p1 => wp_getI p0 (p1 (by omega)) fun row hrow => ?_
     rw [own_ok (i3 row hrow), Option.bind_some]
     exact wp_app (by simp; omega) (add _ _ _ g3 (by omega) (i3 row hrow))
    ·exact wp_then (fit_ok hr (by omega) hc a) fun row r3 hq => wp_app (by simp; omega) (add _ _ _ hq.1 (by omega) hq.2)
   rw [spec_l20Bag_l0, decide_eq_true (by omega), cond_true]
   refine wp_bif (fun hp => ?_) fun _ => j2 _ _ _ i1 (by omega) (fun h => by cases h)
   have hp := of_decide_eq_true hp
   exact wp_pick i1 (by omega) fun k2 r3 g3 _ _ _ => j2 _ _ _ g3 (by omega) (fun _ => by omega))
  (fun f s hI => by
   obtain ⟨r, rows⟩ := s
   obtain ⟨i0, i1, i2, i3⟩ := hI
   simp only at i1 i2 i3 ⊢
   rw [spec_l20Bag_l0, decide_eq_false (by omega), cond_false]
   exact wp_some ⟨i1.up (by omega), by omega, i3⟩)
  v.toNat (r1, []) ⟨by omega, h1.up (by omega), by simp; omega, fun r hr => by cases hr⟩ (by omega)
end Go.D
set_option linter.unusedVariables false
namespace Go.D
theorem Srs.sms {a : List (List T_impl_Value)} (h : Srs a) : SmRs a := ⟨Nat.le_trans h.1 (by decide), fun r hr => (h.2 r hr).sm (by omega)⟩
theorem Srs.sorted {a : List (List T_impl_Value)} (h : Srs a) : Srs (sortedV a) := ⟨by rw [(sortedV_perm a).length_eq]; exact h.1, fun r hr => h.2 r ((sortedV_perm a).mem_iff.1 hr)⟩
theorem two_ok {n : Int} {r : T_spec_l20Rd} (h : RdOk n r) (hn : n ≤ 400000) : Wp (spec_l20Two r) fun x r' => RdOk (n + 600) r' ∧ Srs x.1 ∧ Srs x.2 := by
 unfold spec_l20Two
 refine wp_then (columns_ok h (by omega) 0) fun cs r1 hc => ?_
 obtain ⟨c1, c2, c3⟩ := hc
 have e : slI cs none (some (1 : Int)) none = some (cs.take 1) := slI_front (n := 1) c2
 simp only
 rw [e, Option.bind_some]
 have hl : (cs.take 1).length ≤ 6 := by rw [List.length_take]; omega
 refine wp_then (bag_ok c1 (by omega) hl 0) fun a r2 ha => ?_
 refine wp_pick ha.1 (by omega) fun k r3 h3 _ _ _ => ?_
 refine wp_bif (fun _ => ?_) fun _ => ?_
 ·simp only
  rw [spec_sorted ha.2.sms, Option.bind_some]
  exact wp_some ⟨h3.up (by omega), ha.2, ha.2.sorted⟩
 ·refine wp_then (bag_ok h3 (by omega) hl 0) fun b r4 hb => ?_
  exact wp_some ⟨hb.1.up (by omega), ha.2, hb.2⟩
end Go.D
set_option linter.unusedVariables false
namespace Go.D
open Go.Proofs
theorem rd_5 : Rd Try.prog 5 UInt8 u8W := rd_u8 Try.underlying5 (by kernel_rfl)
theorem rd_22 : Rd Try.prog 22 (List UInt8) (listW u8W) := rd_slice Try.underlying22 (by kernel_rfl) rd_5
end Go.D
set_option linter.unusedVariables false
namespace Go.D
theorem draw_two {b : List UInt8} (hb : b.length ≤ 1048576) : ∃ p, spec_DrawDeltaOf b = some p ∧ Srs p.1 ∧ Srs p.2 := by
 obtain ⟨r, e, h⟩ := open_ok hb
 obtain ⟨p, r', e2, h1, h2, h3⟩ := two_ok h (by omega)
 refine ⟨(p.1, p.2), ?_, h2, h3⟩
 unfold spec_DrawDeltaOf
 rw [e, Option.bind_some, e2, Option.bind_some]
theorem same_deltas_refl {ds : List T_impl_Delta} (hl : ds.length ≤ 1000000) (h : ∀ d ∈ ds, SmR d.fRow) : laws_sameDeltas ds ds = some true := by
 unfold laws_sameDeltas
 rw [beq_self_eq_true, Bool.not_true, cond_false]
 have := loop_all (xs := ds) (L := fun f i => laws_sameDeltas_l0 ds ds f i) (p := fun _ => true) (fin := true) (by omega)
  (fun f i v hi hv hw => by
   have hr : laws_sameRow v.fRow v.fRow = some true := by rw [laws_sameRow_ok (by have := (h v (List.mem_of_getElem? hv)).1; omega), rowEq_refl]
   rw [laws_sameDeltas_l0, decide_eq_true (by omega), cond_true, getI_nat, hv, Option.bind_some, Option.bind_some, beq_self_eq_true, Bool.not_true, cond_false, Option.bind_some, Option.bind_some, hr, Option.bind_some, laws_sameDeltas_j1, hw]
   rfl)
  (fun f => by rw [laws_sameDeltas_l0, decide_eq_false (Int.lt_irrefl _), cond_false])
 rw [this, List.all_eq_true.2 fun _ _ => rfl]
 rfl
theorem allRows_ok {a : RowL} (h : SmRs a) : laws_allRows a = some (allR a) := by
 unfold laws_allRows
 have hl := h.1
 have := loop_all (xs := a) (L := fun f i => laws_allRows_l0 a f i) (p := rowOk) (fin := true) (by omega)
  (fun f i v hi hv hw => by
   rw [laws_allRows_l0, decide_eq_true (by omega), cond_true, getI_nat, hv, Option.bind_some, impl_rowOk (h.2 v (List.mem_of_getElem? hv)), Option.bind_some, hw]
   cases rowOk v <;> rfl)
  (fun f => by rw [laws_allRows_l0, decide_eq_false (Int.lt_irrefl _), cond_false])
 rw [this, Bool.and_true]
 rfl
def negD (d : T_impl_Delta) : T_impl_Delta := ⟨d.fRow, -d.fMany⟩
theorem dOf_neg (a b : RowL) (r : List T_impl_Value) : dOf b a r = (dOf a b r).map negD := by
 unfold dOf
 have e : (((many a r : Int) - many b r) == 0) = (((many b r : Int) - many a r) == 0) := by
  rw [Bool.eq_iff_iff, beq_iff_eq, beq_iff_eq]
  omega
 rw [e]
 cases ((many b r : Int) - many a r) == 0 with
 | true => rfl
 | false =>
  simp only [cond_false, Option.map_some, negD]
  congr 2
  omega
theorem deltaV_neg (a b : RowL) : deltaV b a = (deltaV a b).map negD := by
 unfold deltaV
 rw [Bool.and_comm (allR b)]
 cases hk : allR a && allR b with
 | false => rfl
 | true =>
  simp only [Bool.and_eq_true] at hk
  have e : sortedV (once (b ++ a)) = sortedV (once (a ++ b)) := sortedV_eq (perm_of_many fun r => by
   rw [once_many, once_many, many_app, many_app, Nat.add_comm]) (List.all_eq_true.2 fun r hr => (List.mem_append.1 (once_mem.1 hr)).elim (allR_mem hk.1 r) (allR_mem hk.2 r))
  rw [cond_true, cond_true, e]
  unfold deltaL
  rw [List.map_filterMap]
  congr 1
  funext r
  exact dOf_neg a b r
theorem law_deltaOf {a0 : List UInt8} (w0 : listW u8W a0) : laws_FnDeltaOf a0 = some true := by
 unfold laws_FnDeltaOf
 by_cases hl : (a0.length : Int) > 1048576
 ·rw [decide_eq_true hl, cond_true]
 rw [decide_eq_false hl, cond_false]
 obtain ⟨p, e, ha, hb⟩ := draw_two (b := a0) (by omega)
 have sa := ha.sms
 have sb := hb.sms
 have la := ha.1
 have lb := hb.1
 have dl := deltaV_len p.1 p.2
 have dr : ∀ d ∈ deltaV p.1 p.2, SmR d.fRow := fun d hd => (List.mem_append.1 (deltaV_mem hd).1).elim (sa.2 _) (sb.2 _)
 rw [e, Option.bind_some, impl_deltaV sa sb (by omega), Option.bind_some, spec_deltaV sa sb (by omega), Option.bind_some, same_deltas_refl (by omega) dr, Option.bind_some, Bool.not_true, cond_false, impl_deltaV sb sa (by omega), Option.bind_some, deltaV_neg,
  List.length_map, beq_self_eq_true, Bool.not_true, cond_false]
 have fin : ((impl_DeltaRows p.1 (deltaV p.1 p.2)).bind fun v34 => (laws_allRows p.1).bind fun v36 => bif (!v36) then (laws_alive).bind fun v38 => some v38 else (laws_allRows p.2).bind fun v40 => bif (!v40) then (laws_alive).bind fun v42 => some v42 else
   bif v34.2 then (impl_RowsSorted p.2).bind fun v44 => (laws_sameRows v34.1 v44).bind fun v46 => bif v46 then (laws_alive).bind fun v48 => some v48 else some false else some false) = some true := by
  rw [impl_rowsD sa (by omega) (by omega) dr, Option.bind_some, allRows_ok sa, Option.bind_some]
  cases va : allR p.1 with
  | false => rw [Bool.not_false, cond_true, alive_t]; rfl
  | true =>
   rw [Bool.not_true, cond_false, allRows_ok sb, Option.bind_some]
   cases vb : allR p.2 with
   | false => rw [Bool.not_false, cond_true, alive_t]; rfl
   | true =>
    rw [Bool.not_true, cond_false, rowsD_delta va vb (by omega) (by omega), cond_true, impl_sorted sb, Option.bind_some, laws_sameRows_refl (sortedV_sm sb), Option.bind_some, cond_true, alive_t]
    rfl
 have := loop_opt (xs := deltaV p.1 p.2) (L := fun f i (_ : Unit) => laws_FnDeltaOf_l0 p (deltaV p.1 p.2) ((deltaV p.1 p.2).map negD) f i) (fun _ _ => some true) (fun _ _ => True) (by omega)
  (fun f i s v hi hv hw _ => by
   refine .inr ⟨(), trivial, ?_, rfl⟩
   have hm := List.mem_of_getElem? hv
   obtain ⟨m1, m2, m3, m4⟩ := deltaV_mem hm
   have hv2 : ((deltaV p.1 p.2).map negD)[i]? = some (negD v) := by rw [List.getElem?_map, hv]; rfl
   have h0 : (v.fMany == 0) = false := by simpa using m3
   have k1 := many_le p.1 v.fRow
   have k2 := many_le p.2 v.fRow
   have h2 : (negD v).fMany == w64 (-v.fMany) := by rw [w64_of (by omega) (by omega)]; simp [negD]
   have hr : laws_sameRow (negD v).fRow v.fRow = some true := by
    show laws_sameRow v.fRow v.fRow = _
    rw [laws_sameRow_ok (by have := (dr v hm).1; omega), rowEq_refl]
   rw [laws_FnDeltaOf_l0, decide_eq_true (by omega), cond_true, getI_nat, hv, Option.bind_some, h0, cond_false, getI_nat, hv2, Option.bind_some, Option.bind_some, h2, Bool.not_true, cond_false, Option.bind_some, Option.bind_some, hr, Option.bind_some, laws_FnDeltaOf_j1, hw]
   rfl)
  (fun f s _ => by
   rw [laws_FnDeltaOf_l0, decide_eq_false (Int.lt_irrefl _), cond_false]
   exact fin) (s := ()) trivial
 exact this
end Go.D
set_option linter.unusedVariables false
namespace Go.D
open Go.ChangeShapes Go.RowKit
theorem trodAll_carry {H : Type} {enc : TypeId × Value → H} {P : Program} {w w' : World} {base : Nat} {sp : Nat → Bool} {held : Bool} : ∀ {ts : List TypeId} {vs : List Value} {ds : List (DataW H)} {ps : List MemPlace},
  DataW.TrodAll enc P w base sp held ts vs ds ps → (∀ p ∈ ps, w.sameAt w' p) → DataW.TrodAll enc P w' base sp held ts vs ds ps
 | [], [], [], _, h, _ => h
 | _ :: _, _ :: _, _ :: _, _, ⟨p, q, ⟨n, hn⟩, h2, e⟩, hs =>
  ⟨p, q, ⟨n, DataW.trod_carry n _ _ _ hn fun x hx => hs x (by rw [e]; exact List.mem_append_left _ hx)⟩, trodAll_carry h2 fun x hx => hs x (by rw [e]; exact List.mem_append_right _ hx), e⟩
theorem Kept.sameAt {w w' : World} (h : Grew w w') {p : MemPlace} (hp : p.block < w.heap.size) : w.sameAt w' p := by
 have hb := h.block p.block hp (fun h => h)
 cases p with
 | cell b off =>
  show w'.cell? ⟨b, off, none⟩ = w.cell? ⟨b, off, none⟩
  unfold World.cell?
  have hb : w'.heap[b]? = w.heap[b]? := hb
  simp only [hb]
 | map b => exact hb
theorem Kept.keptBut {w w' : World} (h : Grew w w') (may : MemPlace → Prop) : w.keptBut w' may := by
 refine ⟨h.os, h.output, fun i hi => ?_⟩
 rw [h.block i hi (fun h => h)]
 cases w.heap[i]? with
 | none => trivial
 | some o => cases o <;> simp
theorem contract_of {P : Program} {fid : FuncId} {fn : Func} {s : ChangeSpec} {tb : TypeId} {H : Type} {enc : TypeId × Value → H}
  (hK : Kids P (· < P.types.size)) (hfull : ∀ t e, t < P.types.size → P.underlying t = some (.slice e) → 0 < P.cellsOf e)
  (hp : ∀ t ∈ fn.params.toList, t < P.types.size) (hv : s.vars = []) (hr : fn.resultTypes = #[tb]) (hb : P.underlying tb = some .bool)
  {n : Nat} (hn : fn.params.toList.length = n) (hs : ∀ ds : List (DataW H), ds.length = n → s.fn H ds = { results := [.lit (.bool true)], args := ds })
  {W : World} {args : Array Value} {ds gs : List (DataW H)} {before : List MemPlace}
  (hlaw : ∀ p, DataW.TrodAll enc P W 0 (fun _ => true) true fn.params.toList args.toList ds p → ∃ ins, FrL W (fun _ => False) ins args.toList ∧ OK P fid ins (B true))
  (hW : DataW.Whole enc P fn.params.toList s.vars false W args.toList ds gs before) :
  Calls P fid args W fun e W' => ∃ v, e = .returned v ∧ s.post enc P fn false true false false W args v W' := by
 have hlt := hW.lt
 have hW' := hW
 obtain ⟨p, q, hA, hV, rfl, hfz, hnd⟩ := hW
 rw [hv] at hV
 obtain ⟨rfl, rfl⟩ := trodVars_none hV
 obtain ⟨ins, h1, h2⟩ := hlaw p hA
 have hlen : ∀ {ts : List TypeId} {vs : List Value} {ds : List (DataW H)} {ps : List MemPlace}, DataW.TrodAll enc P W 0 (fun _ => true) true ts vs ds ps → ds.length = ts.length := by
  intro ts
  induction ts with
  | nil => intro vs ds ps h; obtain ⟨_, rfl, _⟩ := trodAll_nil h; rfl
  | cons t ts ih =>
   intro vs ds ps h
   obtain ⟨_, _, _, _, _, _, rfl, rfl, rfl, _, h⟩ := trodAll_cons h
   simp [ih h]
 have hds : ds.length = n := (hlen hA).trans hn
 have hc := h2.2 W args.toList (fun _ => False) (fun b h => h.elim) h1
 have ha : args.toList.toArray = args := by simp
 rw [ha] at hc
 refine hc.mono fun e W' ⟨v, fp, he, hg, ho, _⟩ => ⟨v, he, ?_⟩
 simp only [B, Ow] at ho
 obtain ⟨rfl, rfl⟩ := ho
 have hsame : ∀ x ∈ p, W.sameAt W' x := fun x hx => Kept.sameAt hg (hlt x (by simpa using hx))
 refine ⟨ds, [], p ++ [], [], p, [], hW', ?_, ?_, ?_, Kept.keptBut hg _, fun h => by cases h⟩
 ·rw [List.append_nil, hs ds hds, hr]
  exact trodAll_mk1 (shut_bool hb true)
 ·rw [List.append_nil, hs ds hds]
  exact trodAll_carry (DataW.TrodAll.respare hK hfull hp hA fun x hx => by
   have := hlt x (by simpa using hx)
   simpa using this) hsame
 ·rw [hv, List.append_nil, hs ds hds]
  rfl
end Go.D
