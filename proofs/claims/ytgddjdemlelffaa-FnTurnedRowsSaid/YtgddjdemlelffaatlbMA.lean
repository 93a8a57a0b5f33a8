import Derived.Test.YtgddjdemlelffaatlbDXFB
import Derived.Test.YtgddjdemlelffaatlbDShow
import Derived.ChangeArms
import Derived.ChangeShapes
import Derived.Deep.Slices
import Derived.Test.YtgddjdemlelffaatlbDOwn3
import Derived.Test.YtgddjdemlelffaatlbDNil
import Derived.Test.YtgddjdemlelffaatlbDMore
import Derived.Test.YtgddjdemlelffaatlbDOrd3
import Derived.Test.YtgddjdemlelffaatlbDXT
import Derived.OpenShut
import Derived.ReadAgain
import Derived.ProofKit
set_option linter.unusedVariables false
namespace Go.D
end Go.D
set_option linter.unusedVariables false
namespace Go.D
def Rd (P : Program) (t : TypeId) (α : Type) [Enc α] (W : α → Prop) : Prop :=
 P.cellsOf t = Enc.sz α ∧ ∀ (H : Type) (enc : TypeId × Value → H) (w : World) (base : Nat) (sp : Nat → Bool) (held : Bool) (fuel : Nat) (cs : List Value) (x : DataW H × List MemPlace), DataW.trod enc P w base sp held fuel t cs = some x →
  ∃ y : α, FrL w (fun _ => False) (Enc.cells y) cs ∧ W y
def u8W (_ : UInt8) : Prop := True
def listW {α : Type} (W : α → Prop) (l : List α) : Prop := l.length ≤ 9223372036854775807 ∧ ∀ x ∈ l, W x
section
variable {P : Program}
theorem rd_u8 {t : TypeId} (ht : P.underlying t = some (.int .u8)) (hc : P.cellsOf t = 1) : Rd P t UInt8 u8W := ⟨hc, fun H enc w base sp held fuel cs x h => by
 obtain ⟨n, rfl, _, hw⟩ := DataW.trod_int ht h
 have hn : 0 ≤ n ∧ n ≤ 255 := by simpa [Lit.wf, IntKind.min, IntKind.max, IntKind.signed, IntKind.bits] using hw
 refine ⟨UInt8.ofNat n.toNat, ?_, trivial⟩
 show FrL w _ [.lit (.int .u8 (UInt8.ofNat n.toNat).toNat)] _
 simp only [FrL]
 refine ⟨_, _, rfl, ?_, rfl⟩
 simp only [Fr]
 congr 1
 rw [UInt8.toNat_ofNat']
 omega⟩
theorem eL_flat {α : Type} [Enc α] {w : World} {M : Nat → Prop} : ∀ {ys : List α} {uss : List (List Value)}, ys.length = uss.length → (∀ (i : Nat) (y : α) (us : List Value), ys[i]? = some y → uss[i]? = some us → FrL w M (Enc.cells y) us) → FrL w M (eL ys) uss.flatten
 | [], [], _, _ => by simp [eL, FrL]
 | [], _ :: _, h, _ => by simp at h
 | _ :: _, [], h, _ => by simp at h
 | y :: ys, us :: uss, h, k => by
  simp only [eL, List.flatten_cons]
  exact FrL.append (k 0 y us rfl rfl) (eL_flat (by simpa using h) fun i y' us' h1 h2 => k (i + 1) y' us' (by simpa using h1) (by simpa using h2))
theorem flat_get {sz : Nat} (hsz : 0 < sz) : ∀ {uss : List (List Value)}, (∀ us ∈ uss, us.length = sz) → ∀ {j : Nat} {v : Value}, uss.flatten[j]? = some v → ∃ us, uss[j / sz]? = some us ∧ us[j % sz]? = some v
 | [], _, j, v, h => by simp at h
 | us :: uss, hl, j, v, h => by
  have h0 : us.length = sz := hl us (by simp)
  simp only [List.flatten_cons] at h
  rcases Nat.lt_or_ge j sz with hj | hj
  ·rw [List.getElem?_append_left (by omega)] at h
   refine ⟨us, by rw [Nat.div_eq_of_lt hj]; rfl, by rw [Nat.mod_eq_of_lt hj]; exact h⟩
  ·rw [List.getElem?_append_right (by omega), h0] at h
   obtain ⟨us', h1, h2⟩ := flat_get hsz (fun us' hu => hl us' (by simp [hu])) h
   refine ⟨us', ?_, ?_⟩
   ·have : j / sz = (j - sz) / sz + 1 := by rw [Nat.div_eq_sub_div hsz hj]
    rw [this]
    simpa using h1
   ·rw [Nat.mod_eq_sub_mod hj]; exact h2
theorem rd_slice {t e : TypeId} {α : Type} [Enc α] {W : α → Prop} (ht : P.underlying t = some (.slice e)) (hc : P.cellsOf t = 1) (he : Rd P e α W) : Rd P t (List α) (listW W) := ⟨hc, fun H enc w base sp held fuel cs x h => by
 obtain ⟨hce, he⟩ := he
 have hpos : 0 < Enc.sz α := Enc.pos
 have fin : ∀ (ys : List α) (v : Value), Fr w (fun _ => False) (A ys) v → listW W ys → ∃ y : List α, FrL w (fun _ => False) (Enc.cells y) [v] ∧ listW W y := fun ys v h1 h2 => ⟨ys, by
  show FrL w _ [A ys] _
  simp only [FrL]
  exact ⟨_, _, rfl, h1, rfl⟩, h2⟩
 rcases Go.Deep.open_slice ht h with ⟨rfl, _⟩ | ⟨a, len, cap, m, n, D, Pl, rfl, hb, hl, hm, hmm, _, hx⟩
 ·exact fin [] _ (Fr.nil w _ _ hpos) ⟨by simp, by simp⟩
 ·have hcapm : cap ≤ maxI := by simpa [maxLen, maxI] using hm
  by_cases h0 : len = 0
  ·subst h0
   refine fin [] _ ?_ ⟨by simp, by simp⟩
   simp only [Fr]
   exact ⟨some a, cap, rfl, ⟨hpos, by simp [eL], by simp, hcapm, fun h => by cases h⟩, .inl rfl⟩
  ·have hlm : len ≤ m := by rw [hmm]; split <;> omega
   have hel : ∀ i, i < len → ∃ p : List Value × α, w.cells? base (a.add (i * P.cellsOf e)) (P.cellsOf e) = some p.1 ∧ FrL w (fun _ => False) (Enc.cells p.2) p.1 ∧ W p.2 := by
    intro i hi
    obtain ⟨cs', h1, h2⟩ := hx i (by omega)
    obtain ⟨y, h3, h4⟩ := he H enc w base sp held n cs' _ h2
    exact ⟨(cs', y), h1, h3, h4⟩
   obtain ⟨p0, hp0⟩ := hel 0 (by omega)
   haveI : Inhabited (List Value × α) := ⟨p0⟩
   obtain ⟨F, hF⟩ := Go.Deep.choose_lt (α := List Value × α) (p := fun i p => w.cells? base (a.add (i * P.cellsOf e)) (P.cellsOf e) = some p.1 ∧ FrL w (fun _ => False) (Enc.cells p.2) p.1 ∧ W p.2) hel
   let ys : List α := (List.range len).map fun i => (F i).2
   let uss : List (List Value) := (List.range len).map fun i => (F i).1
   have hul : ∀ us ∈ uss, us.length = Enc.sz α := by
    intro us hu
    obtain ⟨i, hi, rfl⟩ := List.mem_map.1 hu
    have := (World.cells?_some (hF i (List.mem_range.1 hi)).1).2.1
    rw [this, hce]
   have hys : ys.length = len := by simp [ys]
   have hfl : FrL w (fun _ => False) (eL ys) uss.flatten := eL_flat (by simp [ys, uss]) fun i y us h1 h2 => by
    simp only [ys, uss, List.getElem?_map] at h1 h2
    have hi : i < len := by
     cases hr : (List.range len)[i]? with
     | none => rw [hr] at h1; cases h1
     | some k => have := (List.getElem?_eq_some_iff.1 hr).1; simpa using this
    rw [List.getElem?_range hi] at h1 h2
    simp only [Option.map_some, Option.some.injEq] at h1 h2
    rw [← h1, ← h2]
    exact (hF i hi).2.1
   have hul0 : ((F 0).1).length = Enc.sz α := hul _ (List.mem_map.2 ⟨0, by simp; omega, rfl⟩)
   have h00 : ∃ v, w.cell? a = some v := by
    have h1 := (World.cells?_some (hF 0 (by omega)).1).2.2 0 (by rw [hce]; exact hpos)
    rw [List.getElem?_eq_getElem (by omega)] at h1
    refine ⟨_, Eq.trans ?_ h1⟩
    simp [Addr.add]
   obtain ⟨v00, hv00⟩ := h00
   have hspot : a.spot = none := World.cell?_spot hv00
   obtain ⟨ab, ao, as_⟩ := a
   simp only at hspot
   subst hspot
   have hcell : ∀ i j, i < len → j < Enc.sz α → w.cell? ⟨ab, ao + (i * Enc.sz α + j), none⟩ = ((F i).1)[j]? := by
    intro i j hi hj
    have := (World.cells?_some (hF i hi).1).2.2 j (by rw [hce]; exact hj)
    rw [hce] at this
    rw [← this]
    congr 1
    unfold Addr.add
    split <;> split <;> simp_all <;> omega
   refine fin ys _ ?_ ⟨by rw [hys]; simp only [maxI] at hcapm; omega, fun y hy => by
    obtain ⟨i, hi, rfl⟩ := List.mem_map.1 hy
    exact (hF i (List.mem_range.1 hi)).2.2⟩
   simp only [Fr]
   refine ⟨some ⟨ab, ao, none⟩, cap, by rw [hys], ⟨hpos, by rw [eL_len], by rw [hys]; exact hl, hcapm, fun h => by cases h⟩, .inr ⟨ab, ao, uss.flatten, rfl, World.block_lt_of_cell? _ _ hv00, fun h => h, hfl, fun j hj => ?_⟩⟩
   obtain ⟨us, h1, h2⟩ := flat_get hpos hul (List.getElem?_eq_getElem hj)
   have hi : j / Enc.sz α < len := by
    have := (List.getElem?_eq_some_iff.1 h1).1
    simpa [uss] using this
   simp only [uss, List.getElem?_map, List.getElem?_range hi, Option.map_some, Option.some.injEq] at h1
   have := hcell (j / Enc.sz α) (j % Enc.sz α) hi (Nat.mod_lt _ hpos)
   rw [h1, h2] at this
   have e1 : j / Enc.sz α * Enc.sz α + j % Enc.sz α = j := by rw [Nat.mul_comm]; exact Nat.div_add_mod j _
   rw [e1] at this
   rw [List.getElem?_eq_getElem hj, ← this]⟩
end
end Go.D
set_option linter.unusedVariables false
namespace Go.D
theorem w64_of {n : Int} (h1 : -9223372036854775808 ≤ n) (h2 : n ≤ 9223372036854775807) : w64 n = n := by
 have hm : IntKind.i64.min = -9223372036854775808 := by decide
 have hM : IntKind.i64.max = 9223372036854775807 := by decide
 simp [w64, IntKind.wrap, IntKind.signed, IntKind.bits]
 omega
theorem getI_nat {α : Type} {xs : List α} {i : Nat} : getI xs (i : Int) = xs[i]? := by
 unfold getI
 rw [if_pos (by omega), Int.toNat_natCast]
theorem getI_lt {α : Type} {xs : List α} {i : Int} (h0 : 0 ≤ i) (h1 : i < xs.length) : ∃ x, getI xs i = some x ∧ xs[i.toNat]? = some x := by
 unfold getI
 rw [if_pos h0]
 have : i.toNat < xs.length := by omega
 exact ⟨xs[i.toNat], by rw [List.getElem?_eq_getElem this], by rw [List.getElem?_eq_getElem this]⟩
theorem app_lt {α : Type} {xs ys : List α} (h : xs.length + ys.length < 68719476736) : app xs ys = some (xs ++ ys) := if_pos h
theorem succ_w {i n : Nat} (h : i < n) (hn : n ≤ 70368744177663) : w64 ((i : Int) + 1) = ((i + 1 : Nat) : Int) := by
 rw [w64_of (by omega) (by omega)]
 omega
theorem loop_all {α : Type} {xs : List α} {L : Nat → Int → Option Bool} {p : α → Bool} {fin : Bool} (hlen : xs.length ≤ 70368744177662)
  (h : ∀ (f i : Nat) (v : α), i < xs.length → xs[i]? = some v → w64 ((i : Int) + 1) = ((i + 1 : Nat) : Int) → L (f + 1) i = bif p v then L f ((i + 1 : Nat) : Int) else some false)
  (he : ∀ f, L (f + 1) (xs.length : Int) = some fin) : L FUEL 0 = some (xs.all p && fin) := by
 have main : ∀ (k f i : Nat), i + k = xs.length → k < f → L f (i : Int) = some ((xs.drop i).all p && fin) := by
  intro k
  induction k with
  | zero =>
   intro f i hi hf
   obtain ⟨f, rfl⟩ : ∃ f', f = f' + 1 := ⟨f - 1, by omega⟩
   have : i = xs.length := by omega
   subst this
   rw [he, List.drop_length]
   simp
  | succ k ih =>
   intro f i hi hf
   obtain ⟨f, rfl⟩ : ∃ f', f = f' + 1 := ⟨f - 1, by omega⟩
   have hlt : i < xs.length := by omega
   rw [h f i xs[i] hlt (List.getElem?_eq_getElem hlt) (succ_w hlt (by omega)), ih f (i + 1) (by omega) (by omega), List.drop_eq_getElem_cons hlt, List.all_cons]
   cases p xs[i] <;> simp
 have := main xs.length FUEL 0 (by omega) (by unfold FUEL; omega)
 simpa using this
theorem loop_find {α : Type} {xs : List α} {L : Nat → Int → Option Int} {p : α → Bool} (hlen : xs.length ≤ 70368744177662)
  (h : ∀ (f i : Nat) (v : α), i < xs.length → xs[i]? = some v → w64 ((i : Int) + 1) = ((i + 1 : Nat) : Int) → L (f + 1) i = bif p v then some (i : Int) else L f ((i + 1 : Nat) : Int))
  (he : ∀ f, L (f + 1) (xs.length : Int) = some (-1)) : ∃ r, L FUEL 0 = some r ∧ decide (r ≥ 0) = xs.any p := by
 have main : ∀ (k f i : Nat), i + k = xs.length → k < f → ∃ r, L f (i : Int) = some r ∧ decide (r ≥ 0) = (xs.drop i).any p := by
  intro k
  induction k with
  | zero =>
   intro f i hi hf
   obtain ⟨f, rfl⟩ : ∃ f', f = f' + 1 := ⟨f - 1, by omega⟩
   have : i = xs.length := by omega
   subst this
   rw [he, List.drop_length]
   exact ⟨_, rfl, by simp⟩
  | succ k ih =>
   intro f i hi hf
   obtain ⟨f, rfl⟩ : ∃ f', f = f' + 1 := ⟨f - 1, by omega⟩
   have hlt : i < xs.length := by omega
   rw [h f i xs[i] hlt (List.getElem?_eq_getElem hlt) (succ_w hlt (by omega)), List.drop_eq_getElem_cons hlt, List.any_cons]
   cases hp : p xs[i] with
   | true => exact ⟨_, rfl, by simp⟩
   | false =>
    obtain ⟨r, h1, h2⟩ := ih f (i + 1) (by omega) (by omega)
    exact ⟨r, h1, by simp [h2]⟩
 have := main xs.length FUEL 0 (by omega) (by unfold FUEL; omega)
 simpa using this
end Go.D
set_option linter.unusedVariables false
namespace Go.D
abbrev Sm (n : Nat) : Prop := n ≤ 2097152
def inR (a b c : Int) : Bool := decide (b ≤ a) && decide (a ≤ c)
theorem spec_in (a b c : Int) : spec_l1In a b c = some (inR a b c) := by
 unfold spec_l1In inR
 by_cases h : b ≤ a <;> simp [h]
theorem impl_in (a b c : Int) : impl_between a b c = some (inR a b c) := by
 unfold impl_between inR
 by_cases h : b ≤ a <;> simp [h]
def colsOk (cs : List T_impl_Column) : Bool := cs.all (fun c => inR c.fKind 1 3) && decide (cs.length ≤ 4)
theorem not_any_not {α : Type} (xs : List α) (p : α → Bool) : (!(xs.any fun x => !(p x))) = xs.all p := by
 induction xs with
 | nil => rfl
 | cons x xs ih => simp [← ih]
theorem cast_le6 (n : Nat) : decide ((n : Int) ≤ 6) = decide (n ≤ 6) := by
 simp only [decide_eq_decide]
 omega
theorem getB_nat {s : ByteArray} {i : Nat} : getB s (i : Int) = s.data.toList[i]? := by
 unfold getB
 rw [if_pos (by omega), Int.toNat_natCast]
 by_cases h : i < s.size
 ·rw [getElem?_pos s i h, List.getElem?_eq_getElem (by simpa using h)]
  simp only [Option.some.injEq]
  rfl
 ·rw [getElem?_neg s i h, List.getElem?_eq_none (by simpa using h)]
def letter (b : UInt8) : Bool := decide (97 ≤ b.toNat) && decide (b.toNat ≤ 122)
def textOk (s : ByteArray) : Bool := s.data.toList.all letter && decide (s.size ≤ 6)
theorem size_list (s : ByteArray) : s.data.toList.length = s.size := Array.length_toList
theorem spec_text {s : ByteArray} (h : Sm s.size) : spec_l1Text s = some (textOk s) := by
 unfold spec_l1Text textOk
 have hl := size_list s
 refine loop_all (xs := s.data.toList) (by omega) (fun f i v hi hv hw => ?_) (fun f => ?_)
 ·have : (i : Int) < s.size := by omega
  simp only [spec_l1Text_l0, this, decide_true, cond_true, getB_nat, hv, Option.bind_some, spec_l1Text_j1, hw]
  unfold letter
  by_cases h1 : (v.toNat : Int) < 97
  ·have : ¬ 97 ≤ v.toNat := by omega
   simp [h1, this]
  ·have h1' : 97 ≤ v.toNat := by omega
   by_cases h2 : (v.toNat : Int) > 122
   ·have : ¬ v.toNat ≤ 122 := by omega
    simp [h1, h1', h2, this]
   ·have : v.toNat ≤ 122 := by omega
    simp [h1, h1', h2, this]
 ·rw [hl]
  unfold spec_l1Text_l0
  rw [show decide ((s.size : Int) < (s.size : Int)) = false from decide_eq_false (Int.lt_irrefl _), cond_false, cast_le6]
theorem impl_lettersOk {s : ByteArray} (h : Sm s.size) : impl_letters s = some (s.data.toList.all letter) := by
 have hl := size_list s
 unfold impl_letters bytesOf
 rw [if_pos (by omega), Option.bind_some, ← Bool.and_true (s.data.toList.all letter)]
 refine loop_all (xs := s.data.toList) (by omega) (fun f i v hi hv hw => ?_) (fun f => ?_)
 ·have : (i : Int) < s.data.toList.length := by omega
  have hb : v.toNat < 256 := v.toNat_lt
  have h1 : w64 (v.toNat : Int) = v.toNat := w64_of (by omega) (by omega)
  simp only [impl_letters_l0, this, decide_true, cond_true, getI_nat, hv, Option.bind_some, impl_in, hw, h1]
  have : inR (v.toNat : Int) 97 122 = letter v := by
   unfold inR letter
   congr 1 <;> simp only [decide_eq_decide] <;> omega
  rw [this]
  cases letter v <;> rfl
 ·simp only [impl_letters_l0, Int.lt_irrefl, decide_false, cond_false]
def valOk (v : T_impl_Value) : Bool := bif v.fKind == 0 then v.fN == 0 && v.fS.toList == (ByteArray.mk #[]).toList else bif v.fKind == 1 then inR v.fN (-9999) 9999 && v.fS.toList == (ByteArray.mk #[]).toList else
 bif v.fKind == 2 then v.fN == 0 && textOk v.fS else bif v.fKind == 3 then inR v.fN 0 1 && v.fS.toList == (ByteArray.mk #[]).toList else false
theorem spec_value {v : T_impl_Value} (h : Sm v.fS.size) : spec_ValueOk v = some (valOk v) := by
 unfold spec_ValueOk valOk
 simp only [spec_in, spec_text h, Option.bind_some]
 cases v.fKind == 0 <;> cases v.fKind == 1 <;> cases v.fKind == 2 <;> cases v.fKind == 3 <;> cases v.fN == 0 <;> cases inR v.fN (-9999) 9999 <;> cases inR v.fN 0 1 <;> rfl
theorem impl_value {v : T_impl_Value} (h : Sm v.fS.size) : impl_Value_ok v = some (valOk v) := by
 unfold impl_Value_ok valOk
 simp only [impl_in, impl_lettersOk h, Option.bind_some]
 have e : eq_T_impl_Value v ((T_impl_Value.mk 0 0 (ByteArray.mk #[]))) = (v.fKind == 0 && (v.fN == 0 && v.fS.toList == (ByteArray.mk #[]).toList)) := rfl
 have e2 : decide ((v.fS.size : Int) ≤ 6) = decide (v.fS.size ≤ 6) := by
  simp only [decide_eq_decide]
  omega
 have e3 : textOk v.fS = (v.fS.data.toList.all letter && decide (v.fS.size ≤ 6)) := rfl
 rw [e, e2, e3]
 cases v.fKind == 0 <;> cases v.fKind == 1 <;> cases v.fKind == 2 <;> cases v.fKind == 3 <;> cases v.fN == 0 <;> cases inR v.fN (-9999) 9999 <;> cases inR v.fN 0 1 <;> cases v.fS.toList == (ByteArray.mk #[]).toList <;>
  cases decide (v.fS.size ≤ 6) <;> cases v.fS.data.toList.all letter <;> rfl
def SmV (v : T_impl_Value) : Prop := Sm v.fS.size
def SmR (r : List T_impl_Value) : Prop := Sm r.length ∧ ∀ v ∈ r, SmV v
def rowOk (r : List T_impl_Value) : Bool := r.all valOk && decide (r.length ≤ 4)
theorem spec_rowOk {r : List T_impl_Value} (h : SmR r) : spec_RowOk r = some (rowOk r) := by
 unfold spec_RowOk rowOk
 have hl := h.1
 refine loop_all (by omega) (fun f i v hi hv hw => ?_) (fun f => ?_)
 ·have : (i : Int) < r.length := by omega
  simp only [spec_RowOk_l0, this, decide_true, cond_true, getI_nat, hv, Option.bind_some, spec_value (h.2 v (List.mem_of_getElem? hv)), hw]
  cases valOk v <;> rfl
 ·simp only [spec_RowOk_l0, Int.lt_irrefl, decide_false, cond_false]
  congr 1
  simp only [decide_eq_decide]
  omega
theorem impl_rowAny {r : List T_impl_Value} (h : SmR r) : slices_ContainsFunc_impl_Value_impl_Value r impl_RowOk_1 = some (r.any fun v => !(valOk v)) := by
 unfold slices_ContainsFunc_impl_Value_impl_Value slices_IndexFunc_impl_Value_impl_Value
 have hl := h.1
 obtain ⟨x, h1, h2⟩ := loop_find (xs := r) (L := slices_IndexFunc_impl_Value_impl_Value_l0 r impl_RowOk_1) (p := fun v => !(valOk v)) (by omega) (fun f i v hi hv hw => by
  have : (i : Int) < r.length := by omega
  simp only [slices_IndexFunc_impl_Value_impl_Value_l0, this, decide_true, cond_true, getI_nat, hv, Option.bind_some, impl_RowOk_1, impl_value (h.2 v (List.mem_of_getElem? hv)), hw]) (fun f => by
  simp only [slices_IndexFunc_impl_Value_impl_Value_l0, Int.lt_irrefl, decide_false, cond_false])
 rw [h1, Option.bind_some, h2]
theorem le4 {α : Type} (xs : List α) : decide ((xs.length : Int) ≤ 4) = decide (xs.length ≤ 4) := by
 simp only [decide_eq_decide]
 omega
theorem impl_rowOk {r : List T_impl_Value} (h : SmR r) : impl_RowOk r = some (rowOk r) := by
 unfold impl_RowOk rowOk
 rw [impl_rowAny h, Option.bind_some, not_any_not, le4]
 cases decide (r.length ≤ 4) <;> simp
def fits (c : T_impl_Column) (v : T_impl_Value) : Bool := v.fKind == c.fKind || (v.fKind == 0 && c.fEmpty)
def rowFits (cs : List T_impl_Column) (r : List T_impl_Value) : Bool := colsOk cs && (rowOk r && (r.length == cs.length && (r.zip cs).all fun p => fits p.2 p.1))
theorem zip_get {α β : Type} {xs : List α} {ys : List β} (h : xs.length = ys.length) {i : Nat} {p : α × β} (hp : (xs.zip ys)[i]? = some p) : xs[i]? = some p.1 ∧ ys[i]? = some p.2 := by
 rw [List.getElem?_zip_eq_some] at hp
 exact hp
def SmRs (rs : List (List T_impl_Value)) : Prop := Sm rs.length ∧ ∀ r ∈ rs, SmR r
def rowsOk (cs : List T_impl_Column) (rs : List (List T_impl_Value)) : Bool := colsOk cs && rs.all (rowFits cs)
end Go.D
set_option linter.unusedVariables false
namespace Go.D
theorem g2 {α : Type} {xs : List α} (a b : α) : getI (xs ++ [a, b]) (xs.length : Int) = some a := by
 rw [getI_nat]
 simp
theorem g3 {α : Type} {xs : List α} (b : α) : getI (xs ++ [b]) (xs.length : Int) = some b := by
 rw [getI_nat]
 simp
section
variable {α : Type} {xs : List α} (h : xs.length ≤ 2097152)
include h
theorem g1 (a b : α) : getI (xs ++ [a, b]) (w64 (((xs ++ [a, b]).length : Int) - 1)) = some b := by
 have e : (((xs ++ [a, b]).length : Int) - 1) = ((xs.length + 1 : Nat) : Int) := by simp only [List.length_append, List.length_cons, List.length_nil]; omega
 rw [e, w64_of (by omega) (by omega), getI_nat]
 simp
end
section
variable {α : Type} {xs : List α}
end
end Go.D
set_option linter.unusedVariables false
namespace Go.D
end Go.D
set_option linter.unusedVariables false
namespace Go.D
theorem fuel3 : ∃ F, FUEL = F + 1 + 1 + 1 := by
 have h : 3 ≤ FUEL := by unfold FUEL; omega
 exact ⟨FUEL - 3, by omega⟩
end Go.D
set_option linter.unusedVariables false
namespace Go.D
end Go.D
set_option linter.unusedVariables false
namespace Go.D
theorem loop_opt {α σ β : Type} {xs : List α} {L : Nat → Int → σ → Option β} (R : List α → σ → Option β) (Inv : Nat → σ → Prop) (hlen : xs.length ≤ 70368744177662)
  (h : ∀ (f i : Nat) (s : σ) (v : α), i < xs.length → xs[i]? = some v → w64 ((i : Int) + 1) = ((i + 1 : Nat) : Int) → Inv i s →
   L (f + 1) i s = R (v :: xs.drop (i + 1)) s ∨ ∃ s', Inv (i + 1) s' ∧ L (f + 1) i s = L f ((i + 1 : Nat) : Int) s' ∧ R (v :: xs.drop (i + 1)) s = R (xs.drop (i + 1)) s')
  (he : ∀ f s, Inv xs.length s → L (f + 1) (xs.length : Int) s = R [] s) {s : σ} (h0 : Inv 0 s) : L FUEL 0 s = R xs s := by
 have main : ∀ (k f i : Nat) (s : σ), i + k = xs.length → k < f → Inv i s → L f (i : Int) s = R (xs.drop i) s := by
  intro k
  induction k with
  | zero =>
   intro f i s hi hf hI
   obtain ⟨f, rfl⟩ : ∃ f', f = f' + 1 := ⟨f - 1, by omega⟩
   have : i = xs.length := by omega
   subst this
   rw [he _ _ hI, List.drop_length]
  | succ k ih =>
   intro f i s hi hf hI
   obtain ⟨f, rfl⟩ : ∃ f', f = f' + 1 := ⟨f - 1, by omega⟩
   have hlt : i < xs.length := by omega
   rw [List.drop_eq_getElem_cons hlt]
   rcases h f i s xs[i] hlt (List.getElem?_eq_getElem hlt) (succ_w hlt (by omega)) hI with h1 | ⟨s', h1, h2, h3⟩
   ·exact h1
   ·rw [h2, h3]
    exact ih f (i + 1) s' (by omega) (by omega) h1
 have := main xs.length FUEL 0 s (by omega) (by unfold FUEL; omega) h0
 simpa using this
end Go.D
set_option linter.unusedVariables false
namespace Go.D
def cmpI (a b : Int) : Int := if a < b then -1 else if a > b then 1 else 0
def cmpS (a b : ByteArray) : Int := bif Op.bytesLess a.toList b.toList then -1 else bif !Op.bytesLess a.toList b.toList && !(a.toList == b.toList) then 1 else 0
def ordV (a b : T_impl_Value) : Int := if cmpI a.fKind b.fKind ≠ 0 then cmpI a.fKind b.fKind else if cmpI a.fN b.fN ≠ 0 then cmpI a.fN b.fN else cmpS a.fS b.fS
theorem impl_cmpI (a b : Int) : cmp_Compare_int a b = some (cmpI a b) := by
 unfold cmp_Compare_int cmp_isNaN_int cmpI
 simp only [beq_self_eq_true, Bool.not_true, Option.bind_some, cond_false]
 by_cases h : a < b
 ·simp [h]
 ·by_cases h2 : a > b
  ·simp [h, h2]
  ·simp [h, h2]
theorem impl_cmpS (a b : ByteArray) : cmp_Compare_string a b = some (cmpS a b) := by
 unfold cmp_Compare_string cmp_isNaN_string cmpS
 simp only [beq_self_eq_true, Bool.not_true, Option.bind_some, cond_false]
 cases Op.bytesLess a.toList b.toList <;> cases a.toList == b.toList <;> rfl
theorem fuel4 : ∃ F, FUEL = F + 1 + 1 + 1 + 1 := by
 have h : 4 ≤ FUEL := by unfold FUEL; omega
 exact ⟨FUEL - 4, by omega⟩
theorem impl_or3 (a b c : Int) : cmp_Or_int [a, b, c] = some (if a ≠ 0 then a else if b ≠ 0 then b else c) := by
 obtain ⟨F, hF⟩ := fuel4
 unfold cmp_Or_int
 rw [hF]
 have w3 : w64 (0 + 1) = 1 := w64_of (by omega) (by omega)
 have w4 : w64 (1 + 1) = 2 := w64_of (by omega) (by omega)
 have w5 : w64 (2 + 1) = 3 := w64_of (by omega) (by omega)
 have i0 : getI [a, b, c] 0 = some a := rfl
 have i1 : getI [a, b, c] 1 = some b := rfl
 have i2 : getI [a, b, c] 2 = some c := rfl
 have l0 : decide ((0 : Int) < (([a, b, c] : List Int).length : Int)) = true := rfl
 have l1 : decide ((1 : Int) < (([a, b, c] : List Int).length : Int)) = true := rfl
 have l2 : decide ((2 : Int) < (([a, b, c] : List Int).length : Int)) = true := rfl
 have l3 : decide ((3 : Int) < (([a, b, c] : List Int).length : Int)) = false := rfl
 rw [cmp_Or_int_l0, l0, cond_true, i0, Option.bind_some, w3, cmp_Or_int_l0, l1, cond_true, i1, Option.bind_some, w4, cmp_Or_int_l0, l2, cond_true, i2, Option.bind_some, w5, cmp_Or_int_l0, l3, cond_false]
 have bf : ∀ {x : Int}, ¬ x = 0 → (x == 0) = false := fun h => by simp [h]
 by_cases ha : a = 0
 ·subst ha
  by_cases hb : b = 0
  ·subst hb
   by_cases hc : c = 0
   ·subst hc
    rfl
   ·rw [bf hc]
    simp
  ·rw [bf hb]
   simp [hb]
 ·rw [bf ha]
  simp [ha]
theorem impl_ord (a b : T_impl_Value) : impl_Value_order a b = some (ordV a b) := by
 unfold impl_Value_order
 simp only [impl_cmpI, impl_cmpS, impl_or3, Option.bind_some, ordV]
theorem spec_less (a b : Int) : (bif !(a == b) then (spec_l1Less b a).bind fun v => some (w64 (w64 (2 * v) - 1)) else none) = (if a = b then none else some (cmpI a b)) := by
 have w1 : w64 (w64 (2 * 1) - 1) = 1 := by rw [w64_of (n := 2 * 1) (by omega) (by omega), w64_of] <;> omega
 have w0 : w64 (w64 (2 * 0) - 1) = -1 := by rw [w64_of (n := 2 * 0) (by omega) (by omega), w64_of] <;> omega
 unfold spec_l1Less cmpI
 by_cases h : a = b
 ·simp [h]
 ·have e : (a == b) = false := by simp [h]
  rw [e, if_neg h, Bool.not_false, cond_true]
  by_cases h1 : b < a
  ·have : ¬ a < b := by omega
   rw [decide_eq_true h1, cond_true, Option.bind_some, w1, if_neg this, if_pos h1]
  ·have : a < b := by omega
   rw [decide_eq_false h1, cond_false, Option.bind_some, w0, if_pos this]
theorem cmpI_ne {a b : Int} (h : a ≠ b) : cmpI a b ≠ 0 := by
 unfold cmpI
 split
 ·omega
 ·split <;> omega
theorem cmpI_eq (a : Int) : cmpI a a = 0 := by simp [cmpI]
theorem spec_ord {a b : T_impl_Value} (sa : SmV a) (sb : SmV b) (ha : valOk a = true) (hb : valOk b = true) : spec_ValueOrder a b = some (ordV a b) := by
 unfold spec_ValueOrder
 rw [spec_value sa, Option.bind_some, spec_value sb, Option.bind_some, ha, hb]
 simp only [Bool.not_true, cond_false, spec_ValueOrder_j0]
 have hk := spec_less a.fKind b.fKind
 have hn := spec_less a.fN b.fN
 unfold ordV
 by_cases h1 : a.fKind = b.fKind
 ·rw [if_neg (by rw [h1, cmpI_eq]; simp)]
  by_cases h2 : a.fN = b.fN
  ·rw [if_neg (by rw [h2, cmpI_eq]; simp)]
   simp only [h1, h2, beq_self_eq_true, Bool.not_true, cond_false, spec_l1Cmp, cmpS]
   cases Op.bytesLess a.fS.toList b.fS.toList <;> cases a.fS.toList == b.fS.toList <;> rfl
  ·rw [if_pos (cmpI_ne h2)]
   rw [if_neg h2] at hn
   have e : (a.fN == b.fN) = false := by simp [h2]
   rw [e] at hn ⊢
   simp only [h1, beq_self_eq_true, Bool.not_true, cond_false]
   exact hn
 ·rw [if_pos (cmpI_ne h1)]
  rw [if_neg h1] at hk
  have e : (a.fKind == b.fKind) = false := by simp [h1]
  rw [e] at hk ⊢
  exact hk
end Go.D
set_option linter.unusedVariables false
namespace Go.D
theorem ord_int : Ord3 cmpI := by
 refine ⟨fun x => ?_, fun x y e => ?_, fun x y e => ?_, fun x y z e1 e2 => ?_⟩ <;> unfold cmpI at *
 ·simp
 ·repeat' split at e
  all_goals (repeat' split) <;> omega
 ·repeat' split at e
  all_goals (repeat' split) <;> omega
 ·repeat' split at e1
  all_goals (repeat' split at e2)
  all_goals (repeat' split) <;> omega
end Go.D
set_option linter.unusedVariables false
namespace Go.D
theorem bl_eq : ∀ (x y : List UInt8), Op.bytesLess x y = decide (x < y)
 | [], [] => by simp [Op.bytesLess]
 | _ :: _, [] => by simp [Op.bytesLess]
 | [], _ :: _ => by simp [Op.bytesLess]
 | a :: x, b :: y => by
  rw [Op.bytesLess, bl_eq x y]
  simp only [List.cons_lt_cons_iff]
  by_cases h1 : a < b <;> by_cases h2 : a = b <;> by_cases h3 : x < y <;> simp [h1, h2, h3]
theorem cmpS_eq (a b : ByteArray) : cmpS a b = if a.toList < b.toList then -1 else if a.toList = b.toList then 0 else 1 := by
 unfold cmpS
 rw [bl_eq]
 by_cases h : a.toList < b.toList
 ·simp [h]
 ·by_cases e : a.toList = b.toList
  ·simp [e]
  ·have e2 : (a.toList == b.toList) = false := beq_eq_false_iff_ne.2 e
   rw [decide_eq_false h, e2, if_neg h, if_neg e]
   rfl
theorem ord_str : Ord3 cmpS := by
 have tri : ∀ a b : List UInt8, ¬ a < b → a ≠ b → b < a := fun a b h n => by
  rcases List.le_total a b with k | k
  ·exact absurd (List.le_antisymm k (List.not_lt.1 h)) n
  ·rcases List.le_iff_lt_or_eq.1 k with k | k
   ·exact k
   ·exact absurd k.symm n
 have irr : ∀ a : List UInt8, ¬ a < a := fun a => List.lt_irrefl a
 have asy : ∀ a b : List UInt8, a < b → ¬ b < a := fun a b h k => List.lt_irrefl a (List.lt_trans h k)
 refine ⟨fun x => ?_, fun x y e => ?_, fun x y e => ?_, fun x y z e1 e2 => ?_⟩
 ·rw [cmpS_eq, if_neg (irr _), if_pos rfl]
 ·rw [cmpS_eq] at e ⊢
  have h : x.toList < y.toList := by
   split at e
   ·assumption
   ·split at e <;> omega
  rw [if_neg (asy _ _ h), if_neg (fun k => irr _ (by rw [k] at h; exact h))]
  omega
 ·rw [cmpS_eq] at e ⊢
  have h : y.toList < x.toList := by
   split at e
   ·omega
   ·split at e
    ·omega
    ·exact tri _ _ (by assumption) (by assumption)
  rw [if_pos h]
  omega
 ·rw [cmpS_eq] at e1 e2 ⊢
  have le : ∀ a b : ByteArray, (if a.toList < b.toList then (-1 : Int) else if a.toList = b.toList then 0 else 1) ≤ 0 → a.toList < b.toList ∨ a.toList = b.toList := fun a b e => by
   split at e
   ·exact .inl (by assumption)
   ·split at e
    ·exact .inr (by assumption)
    ·omega
  have : x.toList < z.toList ∨ x.toList = z.toList := by
   rcases le _ _ e1 with h1 | h1
   ·rcases le _ _ e2 with h2 | h2
    ·exact .inl (List.lt_trans h1 h2)
    ·exact .inl (by rw [← h2]; exact h1)
   ·rcases le _ _ e2 with h2 | h2
    ·exact .inl (by rw [h1]; exact h2)
    ·exact .inr (h1.trans h2)
  rcases this with h | h
  ·rw [if_pos h]
   omega
  ·rw [if_neg (by rw [h]; exact irr _), if_pos h]
   omega
theorem ord_val : Ord3 ordV := (ord_int.on T_impl_Value.fKind).lex ((ord_int.on T_impl_Value.fN).lex (ord_str.on T_impl_Value.fS))
end Go.D
set_option linter.unusedVariables false
namespace Go.D
theorem ins_perm {α : Type} (xs : List α) (m : α) (k : Nat) : (xs.take k ++ m :: xs.drop k).Perm (m :: xs) := by
 have := List.perm_middle (a := m) (l₁ := xs.take k) (l₂ := xs.drop k)
 rwa [List.take_append_drop] at this
theorem ins_asc {α : Type} {R : α → α → Prop} (ht : ∀ a b c, R a b → R b c → R a c) {xs : List α} {m : α} {k : Nat} (hk : k ≤ xs.length) (hs : xs.Pairwise R)
  (h1 : ∀ j (hj : j < xs.length), k ≤ j → R m xs[j]) (h2 : ∀ (hj : k - 1 < xs.length), k ≠ 0 → R (xs[k - 1]'hj) m) : (xs.take k ++ m :: xs.drop k).Pairwise R := by
 have hidx := List.pairwise_iff_getElem.1 hs
 rw [List.pairwise_append, List.pairwise_cons]
 refine ⟨hs.sublist (List.take_sublist _ _), ⟨fun y hy => ?_, hs.sublist (List.drop_sublist _ _)⟩, fun x hx y hy => ?_⟩
 ·obtain ⟨j, hj, rfl⟩ := List.getElem_of_mem hy
  rw [List.getElem_drop]
  exact h1 _ _ (Nat.le_add_right _ _)
 ·obtain ⟨i, hi, rfl⟩ := List.getElem_of_mem hx
  have hi' : i < k := by
   rw [List.length_take] at hi
   omega
  rw [List.getElem_take]
  have hxm : R (xs[i]'(by omega)) m := by
   by_cases e : i = k - 1
   ·subst e
    exact h2 (by omega) (by omega)
   ·exact ht _ _ _ (hidx i (k - 1) (by omega) (by omega) (by omega)) (h2 (by omega) (by omega))
  rcases List.mem_cons.1 hy with rfl | hy
  ·exact hxm
  ·obtain ⟨j, hj, rfl⟩ := List.getElem_of_mem hy
   rw [List.getElem_drop]
   exact ht _ _ _ hxm (h1 _ _ (Nat.le_add_right _ _))
end Go.D
set_option linter.unusedVariables false
namespace Go.D
theorem v1 {rs : List Int} {st : List T_impl_Value} {b : Int} {r : List Int} (h : rs.length = st.length) (hr : rs = b :: r) : ∃ y t, st = y :: t ∧ r.length = t.length := by
 subst hr
 match st, h with
 | y :: t, h => exact ⟨y, t, rfl, by simpa using h⟩
section
variable {α : Type} {xs : List α} (h : xs.length ≤ 2097152)
include h
end
end Go.D
set_option linter.unusedVariables false
namespace Go.D
section
end
end Go.D
set_option linter.unusedVariables false
namespace Go.D
theorem len_beqN (m n : Nat) : ((m : Int) == (n : Int)) = (m == n) := by
  cases h : m == n with
  | true => have : m = n := by simpa using h
            subst this; simp
  | false => have : m ≠ n := by simpa using h
             simp; omega
theorem toList_loop (s : ByteArray) : ∀ (k i : Nat) (r : List UInt8), i + k = s.size → ByteArray.toList.loop s i r = r.reverse ++ s.data.toList.drop i
 | 0, i, r, h => by
  rw [ByteArray.toList.loop, if_neg (by omega), List.drop_of_length_le (by rw [Array.length_toList]; show s.size ≤ i; omega), List.append_nil]
 | k + 1, i, r, h => by
  have hi : i < s.data.toList.length := by rw [Array.length_toList]; show i < s.size; omega
  rw [ByteArray.toList.loop, if_pos (by omega), toList_loop s k (i + 1) _ (by omega), List.drop_eq_getElem_cons hi, List.reverse_cons, List.append_assoc]
  congr 1
  rw [List.singleton_append]
  congr 1
  show s.data[i]! = _
  rw [getElem!_pos s.data i (by rw [Array.length_toList] at hi; exact hi)]
  simp
theorem bytes_toList (s : ByteArray) : s.toList = s.data.toList := by
 unfold ByteArray.toList
 rw [toList_loop s s.size 0 [] (by omega)]
 simp
theorem eqV_iff (a b : T_impl_Value) : eq_T_impl_Value a b = true ↔ a = b := by
 obtain ⟨k, n, s⟩ := a
 obtain ⟨k', n', s'⟩ := b
 simp only [eq_T_impl_Value, andB, Bool.and_eq_true, beq_iff_eq, T_impl_Value.mk.injEq]
 refine ⟨fun h => ?_, fun h => ?_⟩
 ·obtain ⟨h1, h2, h3⟩ := h
  refine ⟨h1, h2, ?_⟩
  rw [bytes_toList, bytes_toList] at h3
  exact ByteArray.ext (Array.toList_inj.1 h3)
 ·obtain ⟨rfl, rfl, rfl⟩ := h
  exact ⟨rfl, rfl, rfl⟩
def rowEq (a b : List T_impl_Value) : Bool := a.length == b.length && (a.zip b).all fun p => eq_T_impl_Value p.1 p.2
theorem zip_eq : ∀ {a b : List T_impl_Value}, a.length = b.length → (((a.zip b).all fun p => eq_T_impl_Value p.1 p.2) = true ↔ a = b)
 | [], [], _ => by simp
 | x :: xs, [], h => by simp at h
 | [], y :: ys, h => by simp at h
 | x :: xs, y :: ys, h => by
  have := zip_eq (a := xs) (b := ys) (by simpa using h)
  simp only [List.zip_cons_cons, List.all_cons, Bool.and_eq_true, this, eqV_iff, List.cons.injEq]
theorem rowEq_iff {a b : List T_impl_Value} : rowEq a b = true ↔ a = b := by
 unfold rowEq
 rw [Bool.and_eq_true, beq_iff_eq]
 refine ⟨fun h => (zip_eq h.1).1 h.2, fun h => ?_⟩
 have hl : a.length = b.length := by rw [h]
 exact ⟨hl, (zip_eq hl).2 h⟩
theorem rowEq_refl (a : List T_impl_Value) : rowEq a a = true := rowEq_iff.2 rfl
theorem loop_two {α : Type} {xs ys : List α} {L : Nat → Int → Option Bool} {p : α → α → Bool} (hlen : xs.length ≤ 70368744177662) (he : xs.length = ys.length)
  (h : ∀ (f i : Nat) (x y : α), i < xs.length → xs[i]? = some x → ys[i]? = some y → w64 ((i : Int) + 1) = ((i + 1 : Nat) : Int) → L (f + 1) i = bif p x y then L f ((i + 1 : Nat) : Int) else some false)
  (hz : ∀ f, L (f + 1) (xs.length : Int) = some true) : L FUEL 0 = some ((xs.zip ys).all fun q => p q.1 q.2) := by
 have hl : (xs.zip ys).length = xs.length := by rw [List.length_zip]; omega
 have := loop_all (xs := xs.zip ys) (L := L) (p := fun q => p q.1 q.2) (fin := true) (by omega) (fun f i v hi hv hw => by
  obtain ⟨h1, h2⟩ := zip_get he hv
  exact h f i v.1 v.2 (by omega) h1 h2 hw) (fun f => by rw [hl]; exact hz f)
 rw [this, Bool.and_true]
theorem laws_sameRow_ok {a b : List T_impl_Value} (h : a.length ≤ 70368744177662) : laws_sameRow a b = some (rowEq a b) := by
 unfold laws_sameRow rowEq
 have e : ((a.length : Int) == (b.length : Int)) = (a.length == b.length) := len_beqN _ _
 rw [e]
 cases hl : a.length == b.length with
 | false => rfl
 | true =>
  rw [Bool.not_true, cond_false, Bool.true_and]
  refine loop_two (L := fun f i => laws_sameRow_l0 a b f i) h (by simpa using hl) (fun f i x y hi hx hy hw => ?_) (fun f => ?_)
  ·rw [laws_sameRow_l0, decide_eq_true (by omega), cond_true, getI_nat, hx, Option.bind_some, getI_nat, hy, Option.bind_some, hw]
   cases eq_T_impl_Value x y <;> rfl
  ·rw [laws_sameRow_l0, decide_eq_false (Int.lt_irrefl _), cond_false]
theorem slices_Equal_ok {a b : List T_impl_Value} (h : a.length ≤ 70368744177662) : slices_Equal_impl_Value_impl_Value a b = some (rowEq a b) := by
 unfold slices_Equal_impl_Value_impl_Value rowEq
 have e : ((a.length : Int) == (b.length : Int)) = (a.length == b.length) := len_beqN _ _
 rw [e]
 cases hl : a.length == b.length with
 | false => rfl
 | true =>
  rw [Bool.not_true, cond_false, Bool.true_and]
  refine loop_two (L := fun f i => slices_Equal_impl_Value_impl_Value_l0 a b f i) h (by simpa using hl) (fun f i x y hi hx hy hw => ?_) (fun f => ?_)
  ·rw [slices_Equal_impl_Value_impl_Value_l0, decide_eq_true (by omega), cond_true, getI_nat, hx, Option.bind_some, getI_nat, hy, Option.bind_some, hw]
   cases eq_T_impl_Value x y <;> rfl
  ·rw [slices_Equal_impl_Value_impl_Value_l0, decide_eq_false (Int.lt_irrefl _), cond_false]
def many (rows : List (List T_impl_Value)) (r : List T_impl_Value) : Nat := rows.countP fun x => rowEq x r
theorem many_nil (r : List T_impl_Value) : many [] r = 0 := rfl
theorem many_app (a b : List (List T_impl_Value)) (r : List T_impl_Value) : many (a ++ b) r = many a r + many b r := List.countP_append
theorem many_pos {rows : List (List T_impl_Value)} {r : List T_impl_Value} : 0 < many rows r ↔ r ∈ rows := by
 unfold many
 rw [List.countP_pos_iff]
 exact ⟨fun ⟨x, h1, h2⟩ => by rw [← rowEq_iff.1 h2]; exact h1, fun h => ⟨r, h, rowEq_refl r⟩⟩
theorem impl_many {rows : List (List T_impl_Value)} (h : SmRs rows) (r : List T_impl_Value) : impl_RowMany rows r = some (many rows r : Int) := by
 have h1 := h.1
 unfold impl_RowMany
 have := loop_opt (xs := rows) (L := fun f i (n : Int) => impl_RowMany_l0 rows r f n i) (fun rest n => some (n + (many rest r : Int))) (fun i n => 0 ≤ n ∧ n ≤ (i : Int)) (by omega)
  (fun f i n v hi hv hw hI => by
   have hs := (h.2 v (List.mem_of_getElem? hv)).1
   have hI1 := hI.1
   have hI2 := hI.2
   have e1 : ∀ rest, many (v :: rest) r = many rest r + if rowEq v r = true then 1 else 0 := fun rest => List.countP_cons
   cases hr : rowEq v r with
   | true =>
    refine .inr ⟨n + 1, ⟨by omega, by omega⟩, ?_, ?_⟩
    ·rw [impl_RowMany_l0, decide_eq_true (by omega), cond_true, getI_nat, hv, Option.bind_some, slices_Equal_ok (by omega), Option.bind_some, hr, cond_true, hw, w64_of (by omega) (by omega)]
    ·rw [e1, hr]; simp only [if_true]; congr 1; omega
   | false =>
    refine .inr ⟨n, ⟨by omega, by omega⟩, ?_, ?_⟩
    ·rw [impl_RowMany_l0, decide_eq_true (by omega), cond_true, getI_nat, hv, Option.bind_some, slices_Equal_ok (by omega), Option.bind_some, hr, cond_false, hw]
    ·rw [e1, hr]; simp)
  (fun f n hI => by rw [impl_RowMany_l0, decide_eq_false (Int.lt_irrefl _), cond_false, many_nil]; simp) (s := 0) ⟨by omega, by simp⟩
 rw [this, Int.zero_add]
theorem alive_t : laws_alive = some true := by
 have e0 : (ByteArray.mk #[]).size = 0 := rfl
 unfold laws_alive impl_ValueOk
 rw [impl_value (v := T_impl_Value.mk 1 3 (ByteArray.mk #[])) (by simp [e0]), Option.bind_some, impl_value (v := T_impl_Value.mk 9 0 (ByteArray.mk #[])) (by simp [e0]), Option.bind_some]
 have h1 : valOk (T_impl_Value.mk 1 3 (ByteArray.mk #[])) = true := by simp [valOk, inR]
 have h2 : valOk (T_impl_Value.mk 9 0 (ByteArray.mk #[])) = false := by simp [valOk]
 rw [h1, h2]
 rfl
end Go.D
set_option linter.unusedVariables false
namespace Go.D
def ordR : List T_impl_Value → List T_impl_Value → Int
 | [], [] => 0
 | [], _ :: _ => -1
 | _ :: _, [] => 1
 | x :: xs, y :: ys => if ordV x y ≠ 0 then ordV x y else ordR xs ys
theorem ordV_0 {a b : T_impl_Value} : ordV a b = 0 ↔ a = b := by
 constructor
 ·intro h
  have e1 : ∀ x y : Int, cmpI x y = 0 → x = y := fun x y h => by
   unfold cmpI at h
   split at h
   ·omega
   ·split at h <;> omega
  unfold ordV at h
  split at h
  ·next hne => exact absurd h hne
  ·next h1 =>
   have k1 := e1 _ _ (Decidable.not_not.1 h1)
   split at h
   ·next hne => exact absurd h hne
   ·next h2 =>
    have k2 := e1 _ _ (Decidable.not_not.1 h2)
    rw [cmpS_eq] at h
    have k3 : a.fS.toList = b.fS.toList := by
     split at h
     ·omega
     ·split at h
      ·assumption
      ·omega
    rw [bytes_toList, bytes_toList] at k3
    cases a with | mk k n s => cases b with | mk k' n' s' =>
    simp only at k1 k2 k3
    subst k1 k2
    congr 1
    cases s with | mk s => cases s' with | mk s' =>
    simp only at k3
    exact congrArg ByteArray.mk (Array.toList_inj.1 k3)
 ·rintro rfl
  exact ord_val.refl _
theorem ord_row : Ord3 ordR := by
 have hr : ∀ x, ordR x x = 0 := by
  intro x
  induction x with
  | nil => rfl
  | cons a x ih => simp only [ordR, ord_val.refl, ne_eq, not_true_eq_false, if_false, ih]
 have hlt : ∀ x y, (ordR x y < 0 → 0 < ordR y x) ∧ (0 < ordR x y → ordR y x < 0) := by
  intro x
  induction x with
  | nil =>
   intro y
   cases y <;> simp [ordR]
  | cons a x ih =>
   intro y
   cases y with
   | nil => simp [ordR]
   | cons b y =>
    simp only [ordR]
    by_cases h : ordV a b = 0
    ·have h' := ord_val.eq h
     rw [if_neg (by simp [h]), if_neg (by simp [h'])]
     exact ih y
    ·have h' : ordV b a ≠ 0 := fun e => h (ord_val.eq e)
     rw [if_pos h, if_pos h']
     exact ⟨ord_val.lt a b, ord_val.gt a b⟩
 refine ⟨hr, fun x y => (hlt x y).1, fun x y => (hlt x y).2, ?_⟩
 intro x
 induction x with
 | nil =>
  intro y z h1 h2
  cases z with
  | nil => simp [ordR]
  | cons c z => simp [ordR]
 | cons a x ih =>
  intro y z h1 h2
  cases y with
  | nil => simp [ordR] at h1
  | cons b y =>
   cases z with
   | nil => simp [ordR] at h2
   | cons c z =>
    simp only [ordR] at h1 h2 ⊢
    by_cases k1 : ordV a b = 0
    ·have e := ordV_0.1 k1
     subst e
     rw [if_neg (by simp [k1])] at h1
     by_cases k2 : ordV a c = 0
     ·rw [if_neg (by simp [k2])] at h2 ⊢
      exact ih _ _ h1 h2
     ·rw [if_pos k2] at h2 ⊢
      exact h2
    ·rw [if_pos k1] at h1
     by_cases k2 : ordV b c = 0
     ·have e := ordV_0.1 k2
      subst e
      rw [if_pos k1]
      exact h1
     ·rw [if_pos k2] at h2
      have h3 := ord_val.le _ _ _ h1 h2
      by_cases k3 : ordV a c = 0
      ·have e := ordV_0.1 k3
       subst e
       have := ord_val.lt a b (by omega)
       omega
      ·rw [if_pos k3]
       exact h3
theorem ordR_0 : ∀ {a b : List T_impl_Value}, ordR a b = 0 ↔ a = b
 | [], [] => by simp [ordR]
 | [], _ :: _ => by simp [ordR]
 | _ :: _, [] => by simp [ordR]
 | x :: xs, y :: ys => by
  simp only [ordR]
  by_cases h : ordV x y = 0
  ·rw [if_neg (by simp [h]), ordR_0, ordV_0.1 h]
   simp
  ·rw [if_pos h]
   constructor
   ·intro e
    exact absurd e h
   ·intro e
    injection e with e1 e2
    exact absurd (ordV_0.2 e1) h
theorem cmpF_l0 (a b : List T_impl_Value) (ha : a.length ≤ 4194304) : ∀ (k i f : Nat), i + k = a.length → k < f → slices_CompareFunc_impl_Value_impl_Value_impl_Value_impl_Value_s2_l0 a b impl_Value_order f (i : Int) = some (ordR (a.drop i) (b.drop i))
 | 0, i, f + 1, hi, _ => by
  have hd : a.drop i = [] := List.drop_of_length_le (by omega)
  have h0 : ¬ (i : Int) < (a.length : Int) := by omega
  unfold slices_CompareFunc_impl_Value_impl_Value_impl_Value_impl_Value_s2_l0
  rw [decide_eq_false h0, cond_false, hd]
  by_cases hb : a.length < b.length
  ·have : (a.length : Int) < (b.length : Int) := by omega
   rw [decide_eq_true this, cond_true]
   cases hbd : b.drop i with
   | nil =>
    have := congrArg List.length hbd
    simp at this
    omega
   | cons y ys => rfl
  ·have : ¬ (a.length : Int) < (b.length : Int) := by omega
   rw [decide_eq_false this, cond_false, List.drop_of_length_le (by omega : b.length ≤ i)]
   rfl
 | k + 1, i, f + 1, hi, hf => by
  have hlt : i < a.length := by omega
  have h0 : (i : Int) < (a.length : Int) := by omega
  unfold slices_CompareFunc_impl_Value_impl_Value_impl_Value_impl_Value_s2_l0
  rw [decide_eq_true h0, cond_true, getI_nat, List.getElem?_eq_getElem hlt, Option.bind_some, List.drop_eq_getElem_cons hlt]
  by_cases hb : i < b.length
  ·have : ¬ (i : Int) ≥ (b.length : Int) := by omega
   rw [decide_eq_false this, cond_false, getI_nat, List.getElem?_eq_getElem hb, Option.bind_some, impl_ord, Option.bind_some, List.drop_eq_getElem_cons hb, succ_w hlt (by omega), cmpF_l0 a b ha k (i + 1) f (by omega) (by omega)]
   simp only [ordR]
   by_cases h : ordV a[i] b[i] = 0
   ·rw [h]
    simp
   ·have : (ordV a[i] b[i] == 0) = false := by simp [h]
    rw [this, if_pos h]
    rfl
  ·have : (i : Int) ≥ (b.length : Int) := by omega
   rw [decide_eq_true this, cond_true, List.drop_of_length_le (by omega : b.length ≤ i)]
   rfl
theorem cmpOr2 (a b : Int) : cmp_Or_int [a, b] = some (if a ≠ 0 then a else b) := by
 obtain ⟨F, hF⟩ : ∃ F, FUEL = F + 1 + 1 + 1 := ⟨FUEL - 3, by decide⟩
 unfold cmp_Or_int
 rw [hF]
 have e1 : w64 ((0 : Int) + 1) = 1 := by decide
 have e2 : w64 ((1 : Int) + 1) = 2 := by decide
 have g0 : getI [a, b] 0 = some a := rfl
 have g1 : getI [a, b] 1 = some b := rfl
 simp only [cmp_Or_int_l0, List.length_cons, List.length_nil, g0, g1, Option.bind_some, e1, e2]
 by_cases ha : a = 0
 ·subst ha
  by_cases hb : b = 0
  ·subst hb
   rfl
  ·have hb' : (b == 0) = false := by simp [hb]
   simp [hb']
 ·have ha' : (a == 0) = false := by simp [ha]
  simp [ha, ha']
theorem impl_ordR {a b : List T_impl_Value} (ha : Sm a.length) : impl_rowOrder a b = some (ordR a b) := by
 unfold impl_rowOrder slices_CompareFunc_impl_Value_impl_Value_impl_Value_impl_Value_s2
 have h := cmpF_l0 a b (by omega) a.length 0 FUEL (by omega) (Nat.lt_of_le_of_lt ha (by decide))
 rw [show ((0 : Nat) : Int) = 0 from rfl] at h
 rw [h, Option.bind_some, impl_cmpI, Option.bind_some, cmpOr2, List.drop_zero, List.drop_zero, Option.bind_some]
 by_cases e : ordR a b = 0
 ·rw [if_neg (by simp [e]), ordR_0.1 e, cmpI_eq, ord_row.refl]
 ·rw [if_pos e]
theorem l1Less_eq (a b : Int) : spec_l1Less a b = some (if a < b then 1 else 0) := by
 unfold spec_l1Less
 by_cases h : a < b
 ·rw [decide_eq_true h, if_pos h]; rfl
 ·rw [decide_eq_false h, if_neg h]; rfl
theorem spec_ordR_l (a b : List T_impl_Value) (ha : SmR a) (hb : SmR b) (va : ∀ v ∈ a, valOk v = true) (vb : ∀ v ∈ b, valOk v = true) : ∀ (k i f : Nat), i + k = a.length → i ≤ b.length → k < f → spec_RowOrder_l1 a b f (i : Int) = some (ordR (a.drop i) (b.drop i))
 | 0, i, f + 1, hi, hib, _ => by
  have hd : a.drop i = [] := List.drop_of_length_le (by omega)
  have h0 : ¬ (i : Int) < (a.length : Int) := by omega
  unfold spec_RowOrder_l1
  rw [decide_eq_false h0, cond_false, hd]
  simp only [spec_RowOrder_j2, cond_false, l1Less_eq, Option.bind_some]
  by_cases hb' : a.length < b.length
  ·have h1 : ¬ (b.length : Int) < (a.length : Int) := by omega
   have h2 : (a.length : Int) < (b.length : Int) := by omega
   rw [if_neg h1, if_pos h2]
   cases hbd : b.drop i with
   | nil =>
    have := congrArg List.length hbd
    simp at this
    omega
   | cons y ys => rfl
  ·have h2 : ¬ (a.length : Int) < (b.length : Int) := by omega
   rw [List.drop_of_length_le (by omega : b.length ≤ i), if_neg h2]
   by_cases h1 : (b.length : Int) < (a.length : Int)
   ·omega
   ·rw [if_neg h1]
    rfl
 | k + 1, i, f + 1, hi, hib, hf => by
  have hlt : i < a.length := by omega
  have h0 : (i : Int) < (a.length : Int) := by omega
  unfold spec_RowOrder_l1
  rw [decide_eq_true h0, cond_true, List.drop_eq_getElem_cons hlt]
  by_cases hb' : i < b.length
  ·have : (i : Int) < (b.length : Int) := by omega
   rw [decide_eq_true this, List.drop_eq_getElem_cons hb']
   simp only [spec_RowOrder_j2, cond_true]
   rw [getI_nat, List.getElem?_eq_getElem hlt, Option.bind_some, getI_nat, List.getElem?_eq_getElem hb', Option.bind_some, spec_ord (ha.2 _ (List.getElem_mem hlt)) (hb.2 _ (List.getElem_mem hb')) (va _ (List.getElem_mem hlt)) (vb _ (List.getElem_mem hb')), Option.bind_some,
    succ_w hlt (by have := ha.1; omega), spec_ordR_l a b ha hb va vb k (i + 1) f (by omega) (by omega) (by omega)]
   simp only [ordR]
   by_cases h : ordV a[i] b[i] = 0
   ·rw [h]
    simp
   ·have : (ordV a[i] b[i] == 0) = false := by simp [h]
    rw [this, if_pos h]
    rfl
  ·have : ¬ (i : Int) < (b.length : Int) := by omega
   have h1 : (b.length : Int) < (a.length : Int) := by omega
   have h2 : ¬ (a.length : Int) < (b.length : Int) := by omega
   rw [decide_eq_false this, List.drop_of_length_le (by omega : b.length ≤ i)]
   simp only [spec_RowOrder_j2, cond_false, l1Less_eq, Option.bind_some]
   rw [if_pos h1, if_neg h2]
   rfl
theorem rowOk_vals {r : List T_impl_Value} (h : rowOk r = true) : ∀ v ∈ r, valOk v = true := by
 unfold rowOk at h
 simp only [Bool.and_eq_true, List.all_eq_true] at h
 exact h.1
def ordK (a b : List T_impl_Value) : Int := bif rowOk a && rowOk b then ordR a b else 0
theorem spec_ordK {a b : List T_impl_Value} (ha : SmR a) (hb : SmR b) : spec_RowOrder a b = some (ordK a b) := by
 unfold spec_RowOrder ordK
 rw [spec_rowOk ha, Option.bind_some]
 cases va : rowOk a with
 | false => rfl
 | true =>
  rw [Bool.not_true, cond_false, spec_rowOk hb, Option.bind_some]
  cases vb : rowOk b with
  | false => rfl
  | true =>
   have h := spec_ordR_l a b ha hb (rowOk_vals va) (rowOk_vals vb) a.length 0 FUEL (by omega) (by omega) (Nat.lt_of_le_of_lt ha.1 (by decide))
   rw [show ((0 : Nat) : Int) = 0 from rfl, List.drop_zero, List.drop_zero] at h
   exact h
def posV (out : List (List T_impl_Value)) (r : List T_impl_Value) : Nat → Nat
 | 0 => 0
 | n + 1 => match out[n]? with
  | some x => if ordK x r > 0 then posV out r n else n + 1
  | none => n + 1
def insV (out : List (List T_impl_Value)) (r : List T_impl_Value) : List (List T_impl_Value) := out.take (posV out r out.length) ++ [r] ++ out.drop (posV out r out.length)
def sortedV (xs : List (List T_impl_Value)) : List (List T_impl_Value) := xs.foldl insV []
theorem posV_le (out : List (List T_impl_Value)) (r : List T_impl_Value) : ∀ n, posV out r n ≤ n
 | 0 => Nat.le_refl _
 | n + 1 => by
  unfold posV
  split
  ·split
   ·exact Nat.le_succ_of_le (posV_le out r n)
   ·exact Nat.le_refl _
  ·exact Nat.le_refl _
theorem insV_perm (out : List (List T_impl_Value)) (r : List T_impl_Value) : (insV out r).Perm (r :: out) := by
 unfold insV
 rw [List.append_assoc]
 exact ins_perm out r _
theorem insV_mem {out : List (List T_impl_Value)} {r x : List T_impl_Value} : x ∈ insV out r ↔ x = r ∨ x ∈ out := by
 rw [(insV_perm out r).mem_iff]
 simp
theorem sorted_perm_go : ∀ (xs out : List (List T_impl_Value)), (xs.foldl insV out).Perm (out ++ xs)
 | [], out => by simp
 | x :: xs, out => by
  rw [List.foldl_cons]
  refine (sorted_perm_go xs (insV out x)).trans ?_
  refine ((insV_perm out x).append_right xs).trans ?_
  exact (List.perm_middle (l₁ := out) (a := x) (l₂ := xs)).symm
theorem sortedV_perm (xs : List (List T_impl_Value)) : (sortedV xs).Perm xs := by
 have := sorted_perm_go xs []
 rwa [List.nil_append] at this
theorem posV_spec (out : List (List T_impl_Value)) (r : List T_impl_Value) : ∀ n, n ≤ out.length → (∀ j (hj : j < out.length), posV out r n ≤ j → j < n → 0 < ordK out[j] r) ∧ (∀ (hj : posV out r n - 1 < out.length), posV out r n ≠ 0 → ordK (out[posV out r n - 1]'hj) r ≤ 0)
 | 0, _ => ⟨fun j hj h1 h2 => by omega, fun hj h => absurd rfl h⟩
 | n + 1, hn => by
  have hlt : n < out.length := by omega
  obtain ⟨ih1, ih2⟩ := posV_spec out r n (by omega)
  have hp : posV out r (n + 1) = if ordK out[n] r > 0 then posV out r n else n + 1 := by
   rw [posV]
   rw [List.getElem?_eq_getElem hlt]
  by_cases h : ordK out[n] r > 0
  ·rw [if_pos h] at hp
   rw [hp]
   refine ⟨fun j hj h1 h2 => ?_, ih2⟩
   by_cases e : j = n
   ·subst e
    exact h
   ·exact ih1 j hj h1 (by omega)
  ·rw [if_neg h] at hp
   rw [hp]
   refine ⟨fun j hj h1 h2 => by omega, fun hj _ => ?_⟩
   simp only [Nat.add_sub_cancel]
   omega
theorem ordK_ok {a b : List T_impl_Value} (ha : rowOk a = true) (hb : rowOk b = true) : ordK a b = ordR a b := by
 unfold ordK
 rw [ha, hb]
 rfl
abbrev AscR (xs : List (List T_impl_Value)) : Prop := xs.Pairwise fun a b => ordR a b ≤ 0
theorem insV_asc {out : List (List T_impl_Value)} {r : List T_impl_Value} (ho : ∀ x ∈ out, rowOk x = true) (hr : rowOk r = true) (h : AscR out) : AscR (insV out r) := by
 obtain ⟨h1, h2⟩ := posV_spec out r out.length (Nat.le_refl _)
 unfold insV
 rw [List.append_assoc]
 refine ins_asc (R := fun a b => ordR a b ≤ 0) (fun a b c => ord_row.le a b c) (posV_le out r _) h (fun j hj hk => ?_) (fun hj hk => ?_)
 ·have := h1 j hj hk hj
  rw [ordK_ok (ho _ (List.getElem_mem hj)) hr] at this
  exact Int.le_of_lt (ord_row.gt _ _ this)
 ·have := h2 hj hk
  rwa [ordK_ok (ho _ (List.getElem_mem hj)) hr] at this
theorem sorted_asc_go : ∀ (xs out : List (List T_impl_Value)), (∀ x ∈ out, rowOk x = true) → (∀ x ∈ xs, rowOk x = true) → AscR out → AscR (xs.foldl insV out)
 | [], out, _, _, h => h
 | x :: xs, out, ho, hx, h => sorted_asc_go xs (insV out x) (fun y hy => by
   rcases insV_mem.1 hy with rfl | hy
   ·exact hx _ (by simp)
   ·exact ho y hy) (fun y hy => hx y (by simp [hy])) (insV_asc ho (hx x (by simp)) h)
theorem sortedV_asc {xs : List (List T_impl_Value)} (h : ∀ x ∈ xs, rowOk x = true) : AscR (sortedV xs) := sorted_asc_go xs [] (fun _ h => by cases h) h List.Pairwise.nil
theorem asc_uniq : ∀ {xs ys : List (List T_impl_Value)}, xs.Perm ys → AscR xs → AscR ys → xs = ys
 | [], ys, hp, _, _ => (List.Perm.nil_eq hp)
 | x :: xs, [], hp, _, _ => absurd hp.length_eq (by simp)
 | x :: xs, y :: ys, hp, hx, hy => by
  rw [AscR, List.pairwise_cons] at hx hy
  have e : x = y := by
   have m1 : x ∈ y :: ys := hp.mem_iff.1 (by simp)
   have m2 : y ∈ x :: xs := hp.mem_iff.2 (by simp)
   rcases List.mem_cons.1 m1 with h | h
   ·exact h
   ·rcases List.mem_cons.1 m2 with k | k
    ·exact k.symm
    ·have a1 := hx.1 y k
     have a2 := hy.1 x h
     refine ordR_0.1 ?_
     by_cases h0 : ordR x y < 0
     ·have := ord_row.lt _ _ h0
      omega
     ·omega
  subst e
  rw [asc_uniq (List.Perm.cons_inv hp) hx.2 hy.2]
theorem slI_front {α : Type} {xs : List α} {n : Nat} (h : n ≤ xs.length) : slI xs none (some (n : Int)) none = some (xs.take n) := by
 unfold slI
 simp only [Option.getD_none, Option.getD_some]
 rw [if_pos (by omega)]
 simp
theorem clone_v0 {a : List T_impl_Value} (ha : a.length ≤ 4194304) : impl_clone_impl_Value a = some a := by
 unfold impl_clone_impl_Value slices_Clip_impl_Value_impl_Value
 cases h : ((a.length : Int)) == 0
 ·rw [cond_false, app_lt (by simp; omega), Option.bind_some, List.nil_append, show slI a none (some (a.length : Int)) (some (a.length : Int)) = some a by simp [slI]]
  rfl
 ·have : a = [] := by
   have : (a.length : Int) = 0 := by simpa using h
   exact List.eq_nil_of_length_eq_zero (by omega)
  subst this
  rfl
end Go.D
namespace Go.D
theorem half_of {x : Int} (h0 : 0 ≤ x) (h1 : x < 4611686018427387904) : w64 (shrU (u64 x) 1) = x / 2 := by
 unfold shrU u64
 have e1 : Go.IntKind.wrap .u64 x = x := by
  simp [Go.IntKind.wrap, Go.IntKind.bits]
  omega
 rw [e1]
 have e2 : min (Int.toNat 1) (Go.IntKind.bits .u64) = 1 := by decide
 rw [e2]
 have : x.fdiv (2 ^ 1) = x / 2 := by
  rw [Int.fdiv_eq_ediv_of_nonneg]
  ·rfl
  ·decide
 rw [this, w64_of (by omega) (by omega)]
end Go.D
set_option linter.unusedVariables false
namespace Go.D
abbrev Tal := T_impl_Tally
theorem len_is (n k : Nat) : ((n : Int) == (k : Int)) = (n == k) := by
 rw [Bool.eq_iff_iff, beq_iff_eq, beq_iff_eq]
 omega
def talG (t : Tal) : Bool := t.fKey.length == 1 && (rowOk t.fKey && (inR t.fRows 1 100 && (inR t.fMany 0 t.fRows && inR t.fSum (w64 ((-9999) * t.fMany)) (w64 (9999 * t.fMany)))))
def prevOk (pr : Option (List T_impl_Value)) (k : List T_impl_Value) : Bool := match pr with
 | some p => !(decide (ordR p k ≥ 0))
 | none => true
def talsGo : Option (List T_impl_Value) → List Tal → Bool
 | _, [] => true
 | pr, t :: ts => talG t && (prevOk pr t.fKey && talsGo (some t.fKey) ts)
def talsOk (xs : List Tal) : Bool := talsGo none xs
def SmTl (xs : List Tal) : Prop := xs.length ≤ 2097152 ∧ ∀ t ∈ xs, SmR t.fKey
theorem ordR_ltt {a b c : List T_impl_Value} (h : ordR a b < 0) (k : ordR b c < 0) : ordR a c < 0 := by
 have h1 := ord_row.le a b c (by omega) (by omega)
 by_cases h0 : ordR a c = 0
 ·have e := ordR_0.1 h0
  subst e
  have := ord_row.lt _ _ h
  omega
 ·omega
theorem talsGo_iff : ∀ (ts : List Tal) (k : List T_impl_Value), talsGo (some k) ts = true ↔ (∀ t ∈ ts, talG t = true ∧ ordR k t.fKey < 0) ∧ ts.Pairwise fun a b => ordR a.fKey b.fKey < 0
 | [], k => by simp [talsGo]
 | t :: ts, k => by
  simp only [talsGo, prevOk, Bool.and_eq_true, talsGo_iff ts t.fKey, Bool.not_eq_true', decide_eq_false_iff_not, List.pairwise_cons, List.forall_mem_cons]
  constructor
  ·rintro ⟨h1, h2, h3, h4⟩
   exact ⟨⟨⟨h1, by omega⟩, fun u hu => ⟨(h3 u hu).1, ordR_ltt (by omega) (h3 u hu).2⟩⟩, fun u hu => (h3 u hu).2, h4⟩
  ·rintro ⟨⟨⟨h1, h2⟩, h3⟩, h4, h5⟩
   exact ⟨h1, by omega, fun u hu => ⟨(h3 u hu).1, h4 u hu⟩, h5⟩
theorem talsOk_iff (ts : List Tal) : talsOk ts = true ↔ (∀ t ∈ ts, talG t = true) ∧ ts.Pairwise fun a b => ordR a.fKey b.fKey < 0 := by
 cases ts with
 | nil => simp [talsOk, talsGo]
 | cons t ts =>
  simp only [talsOk, talsGo, prevOk, Bool.and_eq_true, talsGo_iff, List.forall_mem_cons, List.pairwise_cons, Bool.true_and, true_and]
  constructor
  ·rintro ⟨h1, h3, h4⟩
   exact ⟨⟨h1, fun u hu => (h3 u hu).1⟩, fun u hu => (h3 u hu).2, h4⟩
  ·rintro ⟨⟨h1, h3⟩, h4, h5⟩
   exact ⟨h1, fun u hu => ⟨h3 u hu, h4 u hu⟩, h5⟩
theorem talG_row {t : Tal} (h : talG t = true) : rowOk t.fKey = true ∧ t.fKey.length = 1 ∧ (1 ≤ t.fRows ∧ t.fRows ≤ 100) ∧ (0 ≤ t.fMany ∧ t.fMany ≤ t.fRows) ∧ -9999 * t.fMany ≤ t.fSum ∧ t.fSum ≤ 9999 * t.fMany := by
 unfold talG inR at h
 simp only [Bool.and_eq_true, decide_eq_true_eq, beq_iff_eq] at h
 obtain ⟨h1, h2, h3, h4, h5, h6⟩ := h
 rw [w64_of (by omega) (by omega)] at h5
 rw [w64_of (by omega) (by omega)] at h6
 exact ⟨h2, h1, h3, h4, h5, h6⟩
theorem impl_talG {t : Tal} (h : SmR t.fKey) : impl_Tally_ok t = some (talG t) := by
 unfold impl_Tally_ok talG
 rw [show ((t.fKey.length : Int) == 1) = (t.fKey.length == 1) from len_is _ 1]
 cases t.fKey.length == 1 with
 | false => rfl
 | true =>
  rw [cond_true, impl_rowOk h, Option.bind_some]
  cases rowOk t.fKey with
  | false => rfl
  | true =>
   rw [cond_true, impl_in, Option.bind_some]
   cases inR t.fRows 1 100 with
   | false => rfl
   | true =>
    rw [cond_true, impl_in, Option.bind_some]
    cases inR t.fMany 0 t.fRows with
    | false => rfl
    | true => rw [cond_true, impl_in]; rfl
theorem prev_inv {xs : List Tal} {i : Nat} {s : Option (List T_impl_Value)} (hI : s = (if i = 0 then none else (xs[i - 1]?).map (·.fKey))) {v : Tal} (hv : xs[i]? = some v) : some v.fKey = (if i + 1 = 0 then none else (xs[i + 1 - 1]?).map (·.fKey)) := by
 rw [if_neg (by omega), Nat.add_sub_cancel, hv]
 rfl
theorem impl_talsOk {xs : List Tal} (h : SmTl xs) : impl_TalliesOk xs = some (talsOk xs) := by
 have hl := h.1
 unfold impl_TalliesOk
 have := loop_opt (xs := xs) (L := fun f i (_ : Option (List T_impl_Value)) => impl_TalliesOk_l0 xs f i) (fun rest s => some (talsGo s rest)) (fun i s => s = (if i = 0 then none else (xs[i - 1]?).map (·.fKey))) (by omega)
  (fun f i s v hi hv hw hI => by
   have hr := h.2 v (List.mem_of_getElem? hv)
   have st : impl_TalliesOk_l0 xs (f + 1) i = bif talG v && prevOk s v.fKey then impl_TalliesOk_l0 xs f ((i + 1 : Nat) : Int) else some false := by
    rw [impl_TalliesOk_l0, decide_eq_true (by omega), cond_true, getI_nat, hv, Option.bind_some, impl_talG hr, Option.bind_some]
    cases hg : talG v with
    | false => rfl
    | true =>
     rw [Bool.not_true, cond_false, Bool.true_and]
     by_cases h0 : i = 0
     ·rw [if_pos h0] at hI
      subst hI
      rw [decide_eq_false (by omega), cond_false, impl_TalliesOk_j1, cond_false, hw]
      rfl
     ·rw [if_neg h0, List.getElem?_eq_getElem (show i - 1 < xs.length by omega)] at hI
      subst hI
      have hw1 : w64 ((i : Int) - 1) = ((i - 1 : Nat) : Int) := by rw [w64_of] <;> omega
      rw [decide_eq_true (by omega), cond_true, hw1, getI_nat, List.getElem?_eq_getElem (show i - 1 < xs.length by omega), Option.bind_some, impl_ordR (h.2 _ (List.getElem_mem _)).1, Option.bind_some, impl_TalliesOk_j1, hw]
      simp only [Option.map_some, prevOk]
      cases decide (ordR (xs[i - 1]'(by omega)).fKey v.fKey ≥ 0) <;> rfl
   cases hc : talG v && prevOk s v.fKey with
   | false =>
    refine .inl ?_
    rw [st, hc]
    simp only [talsGo]
    rw [← Bool.and_assoc, hc]
    rfl
   | true =>
    refine .inr ⟨some v.fKey, prev_inv hI hv, by rw [st, hc]; rfl, ?_⟩
    simp only [talsGo]
    rw [← Bool.and_assoc, hc, Bool.true_and])
  (fun f s hI => by
   rw [impl_TalliesOk_l0, decide_eq_false (Int.lt_irrefl _), cond_false]
   rfl) (s := none) rfl
 exact this
def addT (x t : Tal) : Tal := ⟨x.fKey, w64 (x.fRows + t.fRows), w64 (x.fMany + t.fMany), w64 (x.fSum + t.fSum)⟩
def zeroT (x : Tal) : Bool := x.fRows == 0 && (x.fMany == 0 && x.fSum == 0)
def turnV (t : Tal) : List Tal → List Tal
 | [] => [t]
 | x :: xs => bif decide (ordR x.fKey t.fKey < 0) then x :: turnV t xs else bif ordR x.fKey t.fKey == 0 then (bif zeroT (addT x t) then xs else addT x t :: xs) else t :: x :: xs
theorem turnV_len (t : Tal) : ∀ xs, (turnV t xs).length ≤ xs.length + 1
 | [] => by simp [turnV]
 | x :: xs => by
  have := turnV_len t xs
  unfold turnV
  cases decide (ordR x.fKey t.fKey < 0) <;> cases ordR x.fKey t.fKey == 0 <;> cases zeroT (addT x t) <;> simp <;> omega
theorem turnV_mem {t : Tal} {p : List T_impl_Value → Prop} (ht : p t.fKey) : ∀ {xs : List Tal}, (∀ x ∈ xs, p x.fKey) → ∀ x ∈ turnV t xs, p x.fKey
 | [], h, x, hx => by
  have : x = t := by simpa [turnV] using hx
  rw [this]; exact ht
 | y :: xs, h, x, hx => by
  have ih := turnV_mem (xs := xs) ht fun z hz => h z (by simp [hz])
  have hy := h y (by simp)
  have hxs := fun z (hz : z ∈ xs) => h z (by simp [hz])
  unfold turnV at hx
  have ha : (addT y t).fKey = y.fKey := rfl
  cases h1 : decide (ordR y.fKey t.fKey < 0) with
  | true =>
   rw [h1, cond_true] at hx
   rcases List.mem_cons.1 hx with rfl | hx
   ·exact hy
   ·exact ih x hx
  | false =>
   rw [h1, cond_false] at hx
   cases h2 : ordR y.fKey t.fKey == 0 with
   | true =>
    rw [h2, cond_true] at hx
    cases h3 : zeroT (addT y t) with
    | true => rw [h3, cond_true] at hx; exact hxs x hx
    | false =>
     rw [h3, cond_false] at hx
     rcases List.mem_cons.1 hx with rfl | hx
     ·exact hy
     ·exact hxs x hx
   | false =>
    rw [h2, cond_false] at hx
    rcases List.mem_cons.1 hx with rfl | hx
    ·exact ht
    ·exact h x hx
theorem turnV_low {t : Tal} : ∀ {lo hi : List Tal}, (∀ x ∈ lo, ordR x.fKey t.fKey < 0) → turnV t (lo ++ hi) = lo ++ turnV t hi
 | [], hi, _ => rfl
 | x :: lo, hi, h => by
  rw [List.cons_append, turnV, decide_eq_true (h x (by simp)), cond_true, turnV_low fun y hy => h y (by simp [hy])]
  rfl
def tOf (r : List T_impl_Value) (n : Int) : Tal := match r with
 | [a, b] => ⟨[a], n, bif b.fKind == 1 then n else 0, bif b.fKind == 1 then w64 (n * b.fN) else 0⟩
 | _ => ⟨[], 0, 0, 0⟩
def cntG (r : List T_impl_Value) : Bool := r.length == 2 && (rowOk r && (match r[1]? with | some b => b.fKind == 1 || b.fKind == 0 | none => false))
theorem cntG_two {r : List T_impl_Value} (h : cntG r = true) : ∃ a b, r = [a, b] ∧ rowOk r = true ∧ valOk a = true ∧ valOk b = true := by
 unfold cntG at h
 simp only [Bool.and_eq_true, beq_iff_eq] at h
 obtain ⟨h1, h2, h3⟩ := h
 match r, h1 with
 | [a, b], _ => exact ⟨a, b, rfl, h2, rowOk_vals h2 a (by simp), rowOk_vals h2 b (by simp)⟩
theorem impl_cntG {r : List T_impl_Value} (h : SmR r) : impl_counted r = some (cntG r) := by
 unfold impl_counted cntG
 rw [show ((r.length : Int) == 2) = (r.length == 2) from len_is _ 2]
 cases hl : r.length == 2 with
 | false => rfl
 | true =>
  rw [cond_true, impl_rowOk h, Option.bind_some]
  cases rowOk r with
  | false => rfl
  | true =>
   have hl' : r.length = 2 := by simpa using hl
   have e : getI r 1 = r[1]? := getI_nat (i := 1)
   rw [cond_true, e, List.getElem?_eq_getElem (show 1 < r.length by omega), Option.bind_some, Option.bind_some]
   simp only [Bool.true_and]
   cases r[1].fKind == 1 <;> rfl
theorem spec_cntG {r : List T_impl_Value} (h : SmR r) : spec_l32Row r = some (cntG r) := by
 unfold spec_l32Row cntG
 rw [spec_rowOk h, Option.bind_some, show ((r.length : Int) == 2) = (r.length == 2) from len_is _ 2]
 cases rowOk r with
 | false => cases r.length == 2 <;> rfl
 | true =>
  rw [cond_true]
  cases hl : r.length == 2 with
  | false => rfl
  | true =>
   have hl' : r.length = 2 := by simpa using hl
   have e : getI r 1 = r[1]? := getI_nat (i := 1)
   rw [cond_true, e, List.getElem?_eq_getElem (show 1 < r.length by omega), Option.bind_some, Option.bind_some]
   simp only [Bool.true_and]
   cases r[1].fKind == 1 <;> rfl
theorem rowOk_one {a : T_impl_Value} (h : valOk a = true) : rowOk [a] = true := by
 unfold rowOk
 simp [h]
theorem smR_one {a b : T_impl_Value} (h : SmR [a, b]) : SmR [a] := ⟨by simp, fun v hv => h.2 v (by simp at hv ⊢; exact .inl hv)⟩
theorem spec_turn {xs : List Tal} (hs : SmTl xs) (hk : ∀ x ∈ xs, rowOk x.fKey = true) (hp : xs.Pairwise fun a b => ordR a.fKey b.fKey < 0) (hz : ∀ x ∈ xs, zeroT x = false) {r : List T_impl_Value} (hr : SmR r) (hc : cntG r = true) (n : Int) :
  ∃ a b, getI r 0 = some a ∧ getI r 1 = some b ∧ spec_l32Turn xs a b n = some (turnV (tOf r n) xs) := by
 obtain ⟨a, b, rfl, h1, h2, h3⟩ := cntG_two hc
 refine ⟨a, b, rfl, rfl, ?_⟩
 have hka := rowOk_one h2
 have hsa := smR_one hr
 have hl := hs.1
 have main : ∀ t : Tal, t.fKey = [a] → spec_l32Turn_j0 xs t = some (turnV t xs) := fun t ht => by
  unfold spec_l32Turn_j0
  have hidx := List.pairwise_iff_getElem.1 hp
  have := loop_opt (xs := xs) (L := fun f i (s : Bool × List Tal) => spec_l32Turn_l1 xs t f s.1 i s.2) (fun rest s => some (s.2 ++ bif s.1 then rest else turnV t rest))
   (fun i s => s.2.length ≤ 2 * i ∧ (s.1 = true → ∀ j (hj : j < xs.length), i ≤ j → ordR xs[j].fKey t.fKey > 0)) (by omega)
   (fun f i s v hi hv hw hI => by
    obtain ⟨d, out⟩ := s
    obtain ⟨i1, i2⟩ := hI
    simp only at i1 i2
    have hm := List.mem_of_getElem? hv
    have ev : xs[i] = v := by
     rw [List.getElem?_eq_getElem hi] at hv
     exact Option.some.inj hv
    have ho : spec_RowOrder v.fKey t.fKey = some (ordR v.fKey t.fKey) := by rw [spec_ordK (hs.2 v hm) (by rw [ht]; exact hsa), ordK_ok (hk v hm) (by rw [ht]; exact hka)]
    have nz : ∀ (K : Bool → Int → List Tal → Option (List Tal)) (out : List Tal) (d : Bool), out.length ≤ 4194304 → spec_l32Turn_j4 (i : Int) K out d v = K d ((i + 1 : Nat) : Int) (out ++ [v]) := fun K out d hol => by
     have hzv := hz v hm
     unfold zeroT at hzv
     unfold spec_l32Turn_j4 spec_l32Turn_j5 spec_l32Turn_j2
     rw [hw]
     cases h4 : v.fRows == 0 <;> cases h5 : v.fMany == 0 <;> cases h6 : v.fSum == 0 <;> simp_all [app_lt] <;> rw [app_lt (by simp; omega)] <;> rfl
    by_cases hlt : ordR v.fKey t.fKey < 0
    ·have hd : d = false := by
      cases d with
      | false => rfl
      | true =>
       have := i2 rfl i hi (Nat.le_refl _)
       rw [ev] at this
       omega
     subst hd
     have e0 : (ordR v.fKey t.fKey == 0) = false := beq_eq_false_iff_ne.2 (by omega)
     refine .inr ⟨(false, out ++ [v]), ⟨by simp; omega, fun h => by cases h⟩, ?_, ?_⟩
     ·simp only
      rw [spec_l32Turn_l1, decide_eq_true (by omega), cond_true, getI_nat, hv, Option.bind_some, ho, Option.bind_some, decide_eq_false (by omega), cond_false, spec_l32Turn_j6, cond_false, spec_l32Turn_j3, e0, cond_false, nz _ _ _ (by omega)]
     ·simp only [cond_false, turnV, decide_eq_true hlt, cond_true, List.append_assoc, List.singleton_append]
    ·by_cases heq : ordR v.fKey t.fKey = 0
     ·have hd : d = false := by
       cases d with
       | false => rfl
       | true =>
        have := i2 rfl i hi (Nat.le_refl _)
        rw [ev] at this
        omega
      subst hd
      have ek := ordR_0.1 heq
      have e0 : (ordR v.fKey t.fKey == 0) = true := beq_iff_eq.2 heq
      have rest : ∀ j (hj : j < xs.length), i + 1 ≤ j → ordR xs[j].fKey t.fKey > 0 := fun j hj hij => by
       have := hidx i j hi hj (by omega)
       rw [ev, ek] at this
       exact ord_row.lt _ _ this
      have st : spec_l32Turn_l1 xs t (f + 1) false i out = bif zeroT (addT v t) then spec_l32Turn_l1 xs t f true ((i + 1 : Nat) : Int) out else spec_l32Turn_l1 xs t f true ((i + 1 : Nat) : Int) (out ++ [addT v t]) := by
       rw [spec_l32Turn_l1, decide_eq_true (by omega), cond_true, getI_nat, hv, Option.bind_some, ho, Option.bind_some, decide_eq_false (by omega), cond_false, spec_l32Turn_j6, cond_false, spec_l32Turn_j3, e0, cond_true]
       show spec_l32Turn_j4 (i : Int) _ out true (addT v t) = _
       unfold spec_l32Turn_j4 spec_l32Turn_j5 spec_l32Turn_j2 zeroT
       rw [hw]
       cases h4 : (addT v t).fRows == 0 <;> cases h5 : (addT v t).fMany == 0 <;> cases h6 : (addT v t).fSum == 0 <;> simp [app_lt] <;> rw [app_lt (by simp; omega)] <;> rfl
      cases hq : zeroT (addT v t) with
      | true =>
       refine .inr ⟨(true, out), ⟨by simp only; omega, fun _ j hj hij => rest j hj hij⟩, ?_, ?_⟩
       ·simp only
        rw [st, hq, cond_true]
       ·simp only [cond_false, cond_true, turnV, decide_eq_false hlt, e0, hq]
      | false =>
       refine .inr ⟨(true, out ++ [addT v t]), ⟨by simp; omega, fun _ j hj hij => rest j hj hij⟩, ?_, ?_⟩
       ·simp only
        rw [st, hq, cond_false]
       ·simp only [cond_false, cond_true, turnV, decide_eq_false hlt, e0, hq, List.append_assoc, List.singleton_append]
     ·have hgt : ordR v.fKey t.fKey > 0 := by omega
      have e0 : (ordR v.fKey t.fKey == 0) = false := beq_eq_false_iff_ne.2 heq
      have rest : ∀ j (hj : j < xs.length), i + 1 ≤ j → ordR xs[j].fKey t.fKey > 0 := fun j hj hij => by
       have h1 := hidx i j hi hj (by omega)
       rw [ev] at h1
       have h2 := ord_row.gt _ _ hgt
       exact ord_row.lt _ _ (ordR_ltt h2 h1)
      cases d with
      | true =>
       refine .inr ⟨(true, out ++ [v]), ⟨by simp; omega, fun _ j hj hij => rest j hj hij⟩, ?_, by simp⟩
       simp only
       rw [spec_l32Turn_l1, decide_eq_true (by omega), cond_true, getI_nat, hv, Option.bind_some, ho, Option.bind_some, decide_eq_true hgt, cond_true, spec_l32Turn_j6, Bool.not_true, cond_false, spec_l32Turn_j3, e0, cond_false, nz _ _ _ (by omega)]
      | false =>
       refine .inr ⟨(true, out ++ [t] ++ [v]), ⟨?_, fun _ j hj hij => rest j hj hij⟩, ?_, ?_⟩
       ·simp only [List.length_append, List.length_cons, List.length_nil]; omega
       ·simp only
        rw [spec_l32Turn_l1, decide_eq_true (by omega), cond_true, getI_nat, hv, Option.bind_some, ho, Option.bind_some, decide_eq_true hgt, cond_true, spec_l32Turn_j6, Bool.not_false, cond_true, app_lt (by simp; omega), Option.bind_some, spec_l32Turn_j3, e0, cond_false, nz _ _ _ (by simp; omega)]
       ·simp [turnV, decide_eq_false hlt, e0])
   (fun f s hI => by
    obtain ⟨d, out⟩ := s
    obtain ⟨i1, i2⟩ := hI
    simp only at i1 i2 ⊢
    rw [spec_l32Turn_l1, decide_eq_false (Int.lt_irrefl _), cond_false]
    cases d with
    | true => simp
    | false =>
     rw [Bool.not_false, cond_true, app_lt (by simp; omega), Option.bind_some]
     rfl) (s := (false, [])) ⟨Nat.zero_le _, fun h => by cases h⟩
  exact this
 unfold spec_l32Turn tOf
 cases hb : b.fKind == 1 with
 | true => rw [cond_true, main _ rfl]; simp only [hb, cond_true]
 | false => rw [cond_false, main _ rfl]; simp only [hb, cond_false]
end Go.D
set_option linter.unusedVariables false
namespace Go.D
theorem half_two {i j : Nat} (h : i + j < 2000000000) : w64 (shrU (u64 (w64 ((i : Int) + (j : Int)))) 1) = (((i + j) / 2 : Nat) : Int) := by
 have e : w64 ((i : Int) + (j : Int)) = (i : Int) + (j : Int) := w64_of (by omega) (by omega)
 rw [e, half_of (by omega) (by omega)]
 omega
theorem impl_tell1 {x : Tal} (h : SmR x.fKey) (k : List T_impl_Value) : impl_tell_1 x k = some (ordR x.fKey k) := by
 unfold impl_tell_1
 rw [impl_ordR h.1]
 rfl
theorem bsearch {xs : List Tal} (hs : SmTl xs) (hp : xs.Pairwise fun a b => ordR a.fKey b.fKey < 0) (k : List T_impl_Value) : ∀ (n f lo hi : Nat), hi - lo ≤ n → n < f → lo ≤ hi → hi ≤ xs.length → (∀ j (hj : j < xs.length), j < lo → ordR xs[j].fKey k < 0) → (∀ j (hj : j < xs.length), hi ≤ j → 0 ≤ ordR xs[j].fKey k) →
  ∃ p, p ≤ xs.length ∧ (∀ j (hj : j < xs.length), j < p → ordR xs[j].fKey k < 0) ∧ (∀ j (hj : j < xs.length), p ≤ j → 0 ≤ ordR xs[j].fKey k) ∧
   slices_BinarySearchFunc_impl_Tally_impl_Tally_impl_Value_s2_l0 xs k impl_tell_1 f (lo : Int) (hi : Int) = some ((p : Int), match xs[p]? with | some x => ordR x.fKey k == 0 | none => false)
 | n, 0, lo, hi, _, hf, _, _, _, _ => absurd hf (by omega)
 | n, f + 1, lo, hi, hn, hf, hlh, hhl, h1, h2 => by
  have hl := hs.1
  have hidx := List.pairwise_iff_getElem.1 hp
  by_cases hlt : lo < hi
  ·obtain ⟨n, rfl⟩ : ∃ n', n = n' + 1 := ⟨n - 1, by omega⟩
   have hw := half_two (i := lo) (j := hi) (by omega)
   have hm : (lo + hi) / 2 < xs.length := by omega
   rw [slices_BinarySearchFunc_impl_Tally_impl_Tally_impl_Value_s2_l0, decide_eq_true (by omega), cond_true, hw, getI_nat, List.getElem?_eq_getElem hm, Option.bind_some, impl_tell1 (hs.2 _ (List.getElem_mem hm)), Option.bind_some]
   by_cases hc : ordR xs[(lo + hi) / 2].fKey k < 0
   ·rw [decide_eq_true hc, cond_true, show w64 ((((lo + hi) / 2 : Nat) : Int) + 1) = (((lo + hi) / 2 + 1 : Nat) : Int) by rw [w64_of] <;> omega]
    exact bsearch hs hp k n f ((lo + hi) / 2 + 1) hi (by omega) (by omega) (by omega) hhl (fun j hj hjl => by
     by_cases e : j = (lo + hi) / 2
     ·subst e; exact hc
     ·exact ordR_ltt (hidx j ((lo + hi) / 2) hj hm (by omega)) hc) h2
   ·rw [decide_eq_false hc, cond_false]
    exact bsearch hs hp k n f lo ((lo + hi) / 2) (by omega) (by omega) (by omega) (by omega) h1 (fun j hj hjl => by
     by_cases e : j = (lo + hi) / 2
     ·subst e; omega
     ·have a := hidx ((lo + hi) / 2) j hm hj (by omega)
      have b := ord_row.lt _ _ a
      by_cases h0 : ordR xs[j].fKey k < 0
      ·exact absurd (ordR_ltt a h0) hc
      ·omega)
  ·have : lo = hi := by omega
   subst this
   refine ⟨lo, hhl, h1, h2, ?_⟩
   rw [slices_BinarySearchFunc_impl_Tally_impl_Tally_impl_Value_s2_l0, decide_eq_false (Int.lt_irrefl _), cond_false]
   by_cases hll : lo < xs.length
   ·rw [decide_eq_true (by omega), cond_true, getI_nat, List.getElem?_eq_getElem hll, Option.bind_some, impl_tell1 (hs.2 _ (List.getElem_mem hll))]
    rfl
   ·rw [decide_eq_false (by omega), cond_false, List.getElem?_eq_none (by omega)]
theorem set_mid {α : Type} (lo hi : List α) (x y : α) : (lo ++ x :: hi).set lo.length y = lo ++ y :: hi := by
 rw [List.set_append_right _ _ (Nat.le_refl _), Nat.sub_self]
 rfl
theorem delT_mid (lo hi : List Tal) (y : Tal) (hl : lo.length + hi.length ≤ 4194304) : delT (lo ++ y :: hi) (lo.length : Int) (w64 ((lo.length : Int) + 1)) = some (lo ++ hi) := by
 rw [show w64 ((lo.length : Int) + 1) = ((lo.length + 1 : Nat) : Int) by rw [w64_of] <;> omega]
 unfold delT
 rw [decide_eq_true (by omega), decide_eq_true (by omega), decide_eq_true (by simp; omega)]
 simp only [Bool.and_self, cond_true, Int.toNat_natCast, List.take_left', List.take_left]
 congr 2
 rw [show lo.length + 1 = (lo ++ [y]).length by simp, show lo ++ y :: hi = (lo ++ [y]) ++ hi by simp, List.drop_left]
theorem tell_at {lo hi : List Tal} {x : Tal} {a b : T_impl_Value} {n : Int} (fnd : Bool) (hl : lo.length + hi.length ≤ 4194304) (hm : -1000000 ≤ x.fMany ∧ x.fMany ≤ 1000000) (hs : -100000000 ≤ x.fSum ∧ x.fSum ≤ 100000000) :
  impl_tell_j0 [a, b] n ((lo.length : Int), fnd) (lo ++ x :: hi) = some (bif zeroT (addT x (tOf [a, b] n)) then lo ++ hi else lo ++ addT x (tOf [a, b] n) :: hi) := by
 have g1 : getI (lo ++ x :: hi) (lo.length : Int) = some x := by
  rw [getI_nat, List.getElem?_append_right (Nat.le_refl _), Nat.sub_self]
  rfl
 have g2 : getI [a, b] 1 = some b := rfl
 unfold impl_tell_j0
 simp only
 rw [g1, Option.bind_some, g2, Option.bind_some]
 cases hk : b.fKind == 1 with
 | true =>
  rw [cond_true, Option.bind_some]
  have ey : addT x (tOf [a, b] n) = ⟨x.fKey, w64 (x.fRows + n), w64 (x.fMany + n), w64 (x.fSum + w64 (n * b.fN))⟩ := by
   unfold addT tOf
   simp only [hk, cond_true]
  rw [ey]
  unfold impl_tell_j1 zeroT
  simp only [Int.toNat_natCast, List.set_set, set_mid]
  cases w64 (x.fRows + n) == 0 with
  | false => rfl
  | true =>
   cases w64 (x.fMany + n) == 0 with
   | false => rfl
   | true =>
    cases w64 (x.fSum + w64 (n * b.fN)) == 0 with
    | false => rfl
    | true =>
     simp only [cond_true, Bool.and_self]
     rw [delT_mid _ _ _ hl]
     rfl
 | false =>
  rw [cond_false]
  have ey : addT x (tOf [a, b] n) = ⟨x.fKey, w64 (x.fRows + n), x.fMany, x.fSum⟩ := by
   unfold addT tOf
   simp only [hk, cond_false, Int.add_zero]
   rw [w64_of (n := x.fMany) (by omega) (by omega), w64_of (n := x.fSum) (by omega) (by omega)]
  rw [ey]
  unfold impl_tell_j2 zeroT
  simp only [Int.toNat_natCast, set_mid]
  cases w64 (x.fRows + n) == 0 with
  | false => rfl
  | true =>
   cases x.fMany == 0 with
   | false => rfl
   | true =>
    cases x.fSum == 0 with
    | false => rfl
    | true =>
     simp only [cond_true, Bool.and_self]
     rw [delT_mid _ _ _ hl]
     rfl
theorem insT_at {lo hi : List Tal} (z : Tal) (hl : lo.length + hi.length ≤ 4194304) : insT (lo ++ hi) (lo.length : Int) [z] = some (lo ++ z :: hi) := by
 unfold insT
 rw [decide_eq_true (by omega), decide_eq_true (by rw [List.length_append]; omega), decide_eq_true (by simp), decide_eq_true (by simp; omega)]
 simp
theorem impl_turn {xs : List Tal} (hs : SmTl xs) (hp : xs.Pairwise fun a b => ordR a.fKey b.fKey < 0) (hb : ∀ x ∈ xs, (-1000000 ≤ x.fMany ∧ x.fMany ≤ 1000000) ∧ (-100000000 ≤ x.fSum ∧ x.fSum ≤ 100000000)) {r : List T_impl_Value} (hr : SmR r) (hc : cntG r = true) {n : Int} (n0 : n ≠ 0) (n1 : -100 ≤ n) (n2 : n ≤ 100) :
  impl_tell xs r n = some (turnV (tOf r n) xs) := by
 obtain ⟨a, b, rfl, h1, h2, h3⟩ := cntG_two hc
 have hl := hs.1
 have e1 : slI [a, b] none (some (1 : Int)) none = some [a] := slI_front (n := 1) (by simp)
 obtain ⟨p, q1, q2, q3, q4⟩ := bsearch hs hp [a] xs.length FUEL 0 xs.length (by omega) (by unfold FUEL; omega) (Nat.zero_le _) (Nat.le_refl _) (fun j hj h => by omega) (fun j hj h => by omega)
 have ht : (tOf [a, b] n).fKey = [a] := rfl
 unfold impl_tell slices_BinarySearchFunc_impl_Tally_impl_Tally_impl_Value_s2
 rw [e1, Option.bind_some]
 rw [show ((0 : Nat) : Int) = 0 from rfl] at q4
 rw [q4, Option.bind_some]
 have exs : xs = xs.take p ++ xs.drop p := (List.take_append_drop p xs).symm
 have llo : (xs.take p).length = p := by rw [List.length_take]; omega
 have hlo : ∀ x ∈ xs.take p, ordR x.fKey (tOf [a, b] n).fKey < 0 := fun x hx => by
  obtain ⟨j, hj, rfl⟩ := List.getElem_of_mem hx
  rw [List.getElem_take, ht]
  exact q2 j (by rw [List.length_take] at hj; omega) (by rw [List.length_take] at hj; omega)
 have hT : turnV (tOf [a, b] n) xs = xs.take p ++ turnV (tOf [a, b] n) (xs.drop p) := by
  conv => lhs; rw [exs]
  exact turnV_low hlo
 rw [hT]
 have fresh : xs.drop p = [] ∨ (∃ x hi, xs.drop p = x :: hi ∧ 0 < ordR x.fKey [a]) → (match xs[p]? with | some x => ordR x.fKey [a] == 0 | none => false) = false →
   (bif !(match xs[p]? with | some x => ordR x.fKey [a] == 0 | none => false) then (slI [a, b] none (some 1) none).bind fun v26 => (impl_clone_impl_Value v26).bind fun v28 => (insT xs (p : Int) [T_impl_Tally.mk v28 0 0 0]).bind fun v30 => impl_tell_j0 [a, b] n ((p : Int), false) v30 else impl_tell_j0 [a, b] n ((p : Int), false) xs) = some (xs.take p ++ turnV (tOf [a, b] n) (xs.drop p)) := fun hd hf => by
  rw [hf, Bool.not_false, cond_true, e1, Option.bind_some, clone_v0 (by simp), Option.bind_some]
  have hi0 : insT xs (p : Int) [T_impl_Tally.mk [a] 0 0 0] = some (xs.take p ++ T_impl_Tally.mk [a] 0 0 0 :: xs.drop p) := by
   have := insT_at (lo := xs.take p) (hi := xs.drop p) (T_impl_Tally.mk [a] 0 0 0) (by rw [llo, List.length_drop]; omega)
   rwa [List.take_append_drop, llo] at this
  rw [hi0, Option.bind_some]
  have := tell_at (lo := xs.take p) (hi := xs.drop p) (x := T_impl_Tally.mk [a] 0 0 0) (a := a) (b := b) (n := n) false (by rw [llo, List.length_drop]; omega) ⟨(by decide : (-1000000 : Int) ≤ 0), (by decide : (0 : Int) ≤ 1000000)⟩ ⟨(by decide : (-100000000 : Int) ≤ 0), (by decide : (0 : Int) ≤ 100000000)⟩
  rw [llo] at this
  rw [this]
  have ea : addT (T_impl_Tally.mk [a] 0 0 0) (tOf [a, b] n) = tOf [a, b] n := by
   have hbn : -9999 ≤ b.fN ∧ b.fN ≤ 9999 ∨ (b.fKind == 1) = false := by
    cases hk : b.fKind == 1 with
    | false => exact .inr rfl
    | true =>
     refine .inl ?_
     have hk1 : b.fKind = 1 := by simpa using hk
     unfold valOk at h3
     rw [hk1] at h3
     simp only [inR] at h3
     simp at h3
     omega
   unfold addT tOf
   simp only [Int.zero_add]
   rw [w64_of (n := n) (by omega) (by omega)]
   cases hk : b.fKind == 1 with
   | false =>
    simp only [cond_false]
    rw [w64_of (n := 0) (by omega) (by omega)]
   | true =>
    simp only [cond_true]
    rw [w64_of (n := n) (by omega) (by omega)]
    rcases hbn with hbn | hbn
    ·have m1 : -999900 ≤ n * b.fN ∧ n * b.fN ≤ 999900 := by
      have : (n * b.fN).natAbs ≤ 100 * 9999 := by
       rw [Int.natAbs_mul]
       exact Nat.mul_le_mul (by omega) (by omega)
      omega
     rw [w64_of (n := n * b.fN) (by omega) (by omega), w64_of (by omega) (by omega)]
    ·rw [hbn] at hk
     cases hk
  rw [ea]
  have hz : zeroT (tOf [a, b] n) = false := by
   unfold zeroT tOf
   simp only
   rw [beq_eq_false_iff_ne.2 n0]
   rfl
  rw [hz, cond_false]
  rcases hd with hd | ⟨x, hi, hd, hx⟩
  ·rw [hd]
   rfl
  ·rw [hd, turnV, ht, decide_eq_false (by omega), cond_false, beq_eq_false_iff_ne.2 (by omega), cond_false]
 by_cases hpl : p < xs.length
 ·have hge := q3 p hpl (Nat.le_refl _)
  have hdr : xs.drop p = xs[p] :: xs.drop (p + 1) := List.drop_eq_getElem_cons hpl
  by_cases h0 : ordR xs[p].fKey [a] = 0
  ·have hm := hb _ (List.getElem_mem hpl)
   have := tell_at (lo := xs.take p) (hi := xs.drop (p + 1)) (x := xs[p]) (a := a) (b := b) (n := n) true (by rw [llo, List.length_drop]; omega) hm.1 hm.2
   rw [llo, ← hdr, List.take_append_drop] at this
   rw [List.getElem?_eq_getElem hpl]
   simp only [beq_iff_eq.2 h0, Bool.not_true, cond_false]
   rw [this, hdr, turnV, ht, decide_eq_false (by omega), cond_false, beq_iff_eq.2 h0, cond_true]
   cases zeroT (addT xs[p] (tOf [a, b] n)) <;> rfl
  ·have hf : (match xs[p]? with | some x => ordR x.fKey [a] == 0 | none => false) = false := by
    rw [List.getElem?_eq_getElem hpl]
    exact beq_eq_false_iff_ne.2 h0
   have := fresh (.inr ⟨xs[p], xs.drop (p + 1), hdr, by omega⟩) hf
   rw [hf] at this ⊢
   exact this
 ·have hf : (match xs[p]? with | some x => ordR x.fKey [a] == 0 | none => false) = false := by rw [List.getElem?_eq_none (by omega)]
  have := fresh (.inl (List.drop_of_length_le (by omega))) hf
  rw [hf] at this ⊢
  exact this
end Go.D
set_option linter.unusedVariables false
namespace Go.D
def dT (d : T_impl_Delta) : Bool := cntG d.fRow && (!(d.fMany == 0) && inR d.fMany (-100) 100)
def turnsV : List T_impl_Delta → List Tal → List Tal × Bool
 | [], xs => (xs, true)
 | d :: ds, xs => bif dT d then (bif talsOk (turnV (tOf d.fRow d.fMany) xs) then turnsV ds (turnV (tOf d.fRow d.fMany) xs) else ([], false)) else ([], false)
def talTurn (xs : List Tal) (ds : List T_impl_Delta) : List Tal × Bool := bif talsOk xs then turnsV ds xs else ([], false)
structure Fine (xs : List Tal) (m : Nat) : Prop where
 len : xs.length ≤ m
 sm : ∀ x ∈ xs, SmR x.fKey
 ok : talsOk xs = true
theorem Fine.next {xs : List Tal} {m : Nat} (h : Fine xs m) {d : T_impl_Delta} (hd : dT d = true) (hr : SmR d.fRow) : (turnV (tOf d.fRow d.fMany) xs).length ≤ m + 1 ∧ ∀ x ∈ turnV (tOf d.fRow d.fMany) xs, SmR x.fKey := by
 unfold dT at hd
 simp only [Bool.and_eq_true] at hd
 obtain ⟨a, b, e, _⟩ := cntG_two hd.1
 rw [e] at hr ⊢
 exact ⟨Nat.le_trans (turnV_len _ _) (by have := h.len; omega), turnV_mem (smR_one hr) h.sm⟩
end Go.D
set_option linter.unusedVariables false
namespace Go.D
theorem impl_growR {n : Nat} (hn : n ≤ 4194304) : slices_Grow_impl_Value_impl_Value_s3_n0 (n : Int) = some [] := by
 unfold slices_Grow_impl_Value_impl_Value_s3_n0
 have h0 : w64 (0 - 0) = 0 := w64_of (by omega) (by omega)
 have h1 : w64 ((n : Int) - 0) = n := by rw [w64_of] <;> omega
 have h2 : decide ((n : Int) < 0) = false := by simp
 rw [h2, h0, h1]
 simp only [cond_false]
 by_cases hp : (n : Int) > 0
 ·have h3 : decide ((n : Int) > 0) = true := decide_eq_true hp
  rw [h3, cond_true]
  unfold apzI
  rw [if_pos (by omega)]
  simp [slI]
 ·have h3 : decide ((n : Int) > 0) = false := decide_eq_false hp
  rw [h3, cond_false]
theorem concatR_l1 (F : Nat) {a b : List (List T_impl_Value)} (ha : Sm a.length) (hb : Sm b.length) : slices_Concat_impl_Value_impl_Value_s3_l1 [a, b] (F + 1 + 1 + 1) 0 [] = some (a ++ b) := by
 have w3 : w64 (0 + 1) = 1 := w64_of (by omega) (by omega)
 have w4 : w64 (1 + 1) = 2 := w64_of (by omega) (by omega)
 have i0 : getI [a, b] 0 = some a := rfl
 have i1 : getI [a, b] 1 = some b := rfl
 have l0 : decide ((0 : Int) < (([a, b] : List (List (List T_impl_Value))).length : Int)) = true := rfl
 have l1 : decide ((1 : Int) < (([a, b] : List (List (List T_impl_Value))).length : Int)) = true := rfl
 have l2 : decide ((2 : Int) < (([a, b] : List (List (List T_impl_Value))).length : Int)) = false := rfl
 rw [slices_Concat_impl_Value_impl_Value_s3_l1, l0, cond_true, i0, Option.bind_some, app_lt (xs := ([] : List (List T_impl_Value))) (ys := a) (by simp; omega), Option.bind_some, List.nil_append, w3]
 rw [slices_Concat_impl_Value_impl_Value_s3_l1, l1, cond_true, i1, Option.bind_some, app_lt (xs := a) (ys := b) (by omega), Option.bind_some, w4]
 rw [slices_Concat_impl_Value_impl_Value_s3_l1, l2, cond_false]
theorem concatR_l0 (F : Nat) {a b : List (List T_impl_Value)} (ha : Sm a.length) (hb : Sm b.length) : slices_Concat_impl_Value_impl_Value_s3_l0 [a, b] (F + 1 + 1 + 1) 0 0 = slices_Concat_impl_Value_impl_Value_s3_l1 [a, b] FUEL 0 [] := by
 have w1 : w64 (0 + (a.length : Int)) = a.length := by rw [w64_of] <;> omega
 have w2 : w64 ((a.length : Int) + b.length) = ((a.length + b.length : Nat) : Int) := by rw [w64_of] <;> omega
 have w3 : w64 (0 + 1) = 1 := w64_of (by omega) (by omega)
 have w4 : w64 (1 + 1) = 2 := w64_of (by omega) (by omega)
 have n1 : decide ((a.length : Int) < 0) = false := by simp
 have n2 : decide (((a.length + b.length : Nat) : Int) < 0) = false := by
  rw [decide_eq_false_iff_not]
  omega
 have i0 : getI [a, b] 0 = some a := rfl
 have i1 : getI [a, b] 1 = some b := rfl
 have l0 : decide ((0 : Int) < (([a, b] : List (List (List T_impl_Value))).length : Int)) = true := rfl
 have l1 : decide ((1 : Int) < (([a, b] : List (List (List T_impl_Value))).length : Int)) = true := rfl
 have l2 : decide ((2 : Int) < (([a, b] : List (List (List T_impl_Value))).length : Int)) = false := rfl
 rw [slices_Concat_impl_Value_impl_Value_s3_l0, l0, cond_true, i0, Option.bind_some, w1, n1, cond_false, w3]
 rw [slices_Concat_impl_Value_impl_Value_s3_l0, l1, cond_true, i1, Option.bind_some, w2, n2, cond_false, w4]
 rw [slices_Concat_impl_Value_impl_Value_s3_l0, l2, cond_false, impl_growR (n := a.length + b.length) (by omega), Option.bind_some]
theorem impl_concatR {a b : List (List T_impl_Value)} (ha : Sm a.length) (hb : Sm b.length) : slices_Concat_impl_Value_impl_Value_s3 [a, b] = some (a ++ b) := by
 obtain ⟨F, hF⟩ := fuel3
 have h0 := concatR_l0 F ha hb
 have h1 := concatR_l1 F ha hb
 rw [← hF] at h0 h1
 exact h0.trans h1
end Go.D
set_option linter.unusedVariables false
namespace Go.D
section
end
end Go.D
set_option linter.unusedVariables false
namespace Go.D
section
end
end Go.D
set_option linter.unusedVariables false
namespace Go.D
theorem many_cons (x : List T_impl_Value) (xs : List (List T_impl_Value)) (r : List T_impl_Value) : many (x :: xs) r = many xs r + if rowEq x r = true then 1 else 0 := List.countP_cons
theorem SmRs.app {a b : List (List T_impl_Value)} (ha : SmRs a) (hb : SmRs b) (h : a.length + b.length ≤ 2097152) : SmRs (a ++ b) := ⟨by rw [List.length_append]; exact h, fun r hr => (List.mem_append.1 hr).elim (ha.2 r) (hb.2 r)⟩
end Go.D
set_option linter.unusedVariables false
namespace Go.D
def onceGo : List (List T_impl_Value) → List (List T_impl_Value) → List (List T_impl_Value)
 | acc, [] => acc
 | acc, x :: xs => bif decide (0 < many acc x) then onceGo acc xs else onceGo (acc ++ [x]) xs
def once (xs : List (List T_impl_Value)) : List (List T_impl_Value) := onceGo [] xs
theorem onceGo_sm : ∀ {xs acc : List (List T_impl_Value)}, SmRs acc → SmRs xs → acc.length + xs.length ≤ 2097152 → SmRs (onceGo acc xs)
 | [], acc, ha, _, _ => ha
 | x :: xs, acc, ha, hx, hl => by
  have hx' : SmRs xs := ⟨by have := hx.1; simp at this; omega, fun r hr => hx.2 r (by simp [hr])⟩
  simp only [List.length_cons] at hl
  unfold onceGo
  cases decide (0 < many acc x)
  ·exact onceGo_sm ⟨by simp; omega, fun r hr => (List.mem_append.1 hr).elim (ha.2 r) (fun h => by
    have : r = x := by simpa using h
    rw [this]; exact hx.2 x (by simp))⟩ hx' (by simp; omega)
  ·exact onceGo_sm ha hx' (by omega)
theorem once_sm {xs : List (List T_impl_Value)} (h : SmRs xs) : SmRs (once xs) := onceGo_sm (acc := []) ⟨Nat.zero_le _, fun r hr => by cases hr⟩ h (by have := h.1; simpa using this)
theorem onceGo_many : ∀ (xs acc : List (List T_impl_Value)), (∀ r, many acc r ≤ 1) → ∀ r, many (onceGo acc xs) r = if 0 < many acc r ∨ 0 < many xs r then 1 else 0
 | [], acc, h, r => by
  have := h r
  simp only [onceGo, many_nil, Nat.lt_irrefl, or_false]
  split <;> omega
 | x :: xs, acc, h, r => by
  unfold onceGo
  cases hd : decide (0 < many acc x) with
  | true =>
   have hx := of_decide_eq_true hd
   rw [cond_true, onceGo_many xs acc h r, many_cons]
   cases he : rowEq x r with
   | true =>
    have := rowEq_iff.1 he
    subst this
    rw [if_pos (.inl hx), if_pos (.inl hx)]
   | false => simp
  | false =>
   have hx := of_decide_eq_false hd
   have hacc : ∀ q, many (acc ++ [x]) q = many acc q + if rowEq x q = true then 1 else 0 := fun q => by
    rw [many_app, many_cons, many_nil, Nat.zero_add]
   rw [cond_false, onceGo_many xs (acc ++ [x]) (fun q => by
    rw [hacc]
    cases he : rowEq x q with
    | true =>
     have := rowEq_iff.1 he
     subst this
     simp; omega
    | false => have := h q; simpa using this) r, hacc, many_cons]
   cases he : rowEq x r with
   | true => simp
   | false => simp
theorem once_many (xs : List (List T_impl_Value)) (r : List T_impl_Value) : many (once xs) r = if 0 < many xs r then 1 else 0 := by
 unfold once
 rw [onceGo_many xs [] (fun q => by rw [many_nil]; omega) r, many_nil]
 simp
theorem onceGo_len : ∀ (xs acc : List (List T_impl_Value)), (onceGo acc xs).length ≤ acc.length + xs.length
 | [], acc => by simp [onceGo]
 | x :: xs, acc => by
  unfold onceGo
  cases decide (0 < many acc x)
  ·have := onceGo_len xs (acc ++ [x])
   simp only [List.length_append, List.length_singleton] at this
   simp only [cond_false, List.length_cons]
   omega
  ·have := onceGo_len xs acc
   simp only [cond_true, List.length_cons]
   omega
end Go.D
set_option linter.unusedVariables false
namespace Go.D
abbrev RowL := List (List T_impl_Value)
def allR (a : RowL) : Bool := a.all rowOk
theorem allR_mem {a : RowL} (h : allR a = true) : ∀ r ∈ a, rowOk r = true := List.all_eq_true.1 h
theorem impl_allR {a : RowL} (h : SmRs a) : impl_allOk a = some (allR a) := by
 unfold impl_allOk slices_ContainsFunc_impl_Value_impl_Value_s3 slices_IndexFunc_impl_Value_impl_Value_s3
 have hl := h.1
 obtain ⟨x, h1, h2⟩ := loop_find (xs := a) (L := slices_IndexFunc_impl_Value_impl_Value_s3_l0 a impl_allOk_1) (p := fun v => !(rowOk v)) (by omega) (fun f i v hi hv hw => by
  have : (i : Int) < a.length := by omega
  simp only [slices_IndexFunc_impl_Value_impl_Value_s3_l0, this, decide_true, cond_true, getI_nat, hv, Option.bind_some, impl_allOk_1, impl_rowOk (h.2 v (List.mem_of_getElem? hv)), hw]) (fun f => by
  simp only [slices_IndexFunc_impl_Value_impl_Value_s3_l0, Int.lt_irrefl, decide_false, cond_false])
 rw [h1, Option.bind_some, h2, Option.bind_some, not_any_not]
 rfl
theorem many_consR (v : List T_impl_Value) (rest : RowL) (r : List T_impl_Value) : many (v :: rest) r = many rest r + if rowEq v r = true then 1 else 0 := List.countP_cons
theorem many_le (a : RowL) (r : List T_impl_Value) : many a r ≤ a.length := List.countP_le_length
theorem clipRs_R {xs : RowL} : slices_Clip_impl_Value_impl_Value_s3_R xs = some xs := by
 unfold slices_Clip_impl_Value_impl_Value_s3_R slI
 simp
theorem impl_copyRR {xs : RowL} (hl : xs.length ≤ 4194304) (h : ∀ r ∈ xs, SmR r) : impl_rowsCopy_R xs = some xs := by
 have key : ∀ (k i f : Nat), i + k = xs.length → k < f → impl_rowsCopy_R_l0 xs f (i : Int) (xs.take i) = some xs := by
  intro k
  induction k with
  | zero =>
   intro i f hi hf
   cases f with
   | zero => omega
   | succ f =>
    unfold impl_rowsCopy_R_l0
    rw [decide_eq_false (by omega), cond_false, clipRs_R, Option.bind_some, List.take_of_length_le (by omega)]
  | succ k ih =>
   intro i f hi hf
   cases f with
   | zero => omega
   | succ f =>
    have hlt : i < xs.length := by omega
    unfold impl_rowsCopy_R_l0
    rw [decide_eq_true (by omega), cond_true, getI_nat, List.getElem?_eq_getElem hlt, Option.bind_some, clone_v0 (by have := (h _ (List.getElem_mem hlt)).1; omega), Option.bind_some, app_lt (by simp; omega), Option.bind_some, succ_w hlt (by omega),
     List.take_append_getElem hlt]
    exact ih (i + 1) f (by omega) (by omega)
 have := key xs.length 0 FUEL (by omega) (Nat.lt_of_le_of_lt hl (by decide))
 exact this
theorem dec_many (s : RowL) (v : List T_impl_Value) : decide ((many s v : Int) > 0) = decide (0 < many s v) := by
 by_cases hp : 0 < many s v
 ·rw [decide_eq_true hp, decide_eq_true (by omega)]
 ·rw [decide_eq_false hp, decide_eq_false (by omega)]
theorem impl_onceR {xs : RowL} (h : SmRs xs) : impl_RowsOnce_R xs = some (once xs) := by
 have hl := h.1
 unfold impl_RowsOnce_R
 have := loop_opt (xs := xs) (L := fun f i (s : RowL) => impl_RowsOnce_R_l0 xs f i s) (fun rest s => some (onceGo s rest)) (fun i s => s.length ≤ i ∧ ∀ r ∈ s, SmR r) (by omega)
  (fun f i s v hi hv hw hI => by
   have hm := List.mem_of_getElem? hv
   have hs : SmRs s := ⟨by have := hI.1; omega, hI.2⟩
   have hI1 := hI.1
   cases hd : decide (0 < many s v) with
   | true =>
    refine .inr ⟨s, ⟨by omega, hI.2⟩, ?_, by simp [onceGo, hd]⟩
    rw [impl_RowsOnce_R_l0, decide_eq_true (by omega), cond_true, getI_nat, hv, Option.bind_some]
    unfold impl_rowsHas
    rw [impl_many hs, Option.bind_some, dec_many, hd, Option.bind_some, Bool.not_true, cond_false, hw]
   | false =>
    refine .inr ⟨s ++ [v], ⟨by simp; omega, fun r hr => (List.mem_append.1 hr).elim (hI.2 r) (fun h' => by
     have : r = v := by simpa using h'
     rw [this]; exact h.2 v hm)⟩, ?_, by simp [onceGo, hd]⟩
    rw [impl_RowsOnce_R_l0, decide_eq_true (by omega), cond_true, getI_nat, hv, Option.bind_some]
    unfold impl_rowsHas
    rw [impl_many hs, Option.bind_some, dec_many, hd, Option.bind_some, Bool.not_false, cond_true, app_lt (by simp; omega), Option.bind_some, hw])
  (fun f s hI => by
   rw [impl_RowsOnce_R_l0, decide_eq_false (Int.lt_irrefl _), cond_false, impl_copyRR (by have := hI.1; omega) hI.2, Option.bind_some]
   rfl) (s := []) ⟨Nat.zero_le _, fun r hr => by cases hr⟩
 exact this
theorem once_mem {xs : RowL} {r : List T_impl_Value} : r ∈ once xs ↔ r ∈ xs := by
 rw [← many_pos, ← many_pos, once_many]
 split
 ·next h => exact ⟨fun _ => h, fun _ => by omega⟩
 ·next h => exact ⟨fun k => by omega, fun k => absurd k h⟩
theorem once_len (xs : RowL) : (once xs).length ≤ xs.length := by
 have := onceGo_len xs []
 simpa [once] using this
theorem many_perm {a b : RowL} (h : a.Perm b) (r : List T_impl_Value) : many a r = many b r := h.countP_eq _
theorem perm_of_many : ∀ {a b : RowL}, (∀ r, many a r = many b r) → a.Perm b
 | [], b, h => by
  have : b = [] := by
   cases b with
   | nil => rfl
   | cons x b =>
    have := h x
    rw [many_nil, many_consR, rowEq_refl] at this
    simp at this
  rw [this]
 | x :: a, b, h => by
  have hx : x ∈ b := by
   rw [← many_pos, ← h x, many_consR, rowEq_refl]
   simp
  obtain ⟨l, r, rfl⟩ := List.append_of_mem hx
  have : a.Perm (l ++ r) := perm_of_many fun y => by
   have := h y
   rw [many_consR, many_app, many_consR] at this
   rw [many_app]
   omega
  exact (this.cons x).trans List.perm_middle.symm
def dOf (a b : RowL) (r : List T_impl_Value) : Option T_impl_Delta := bif ((many b r : Int) - many a r) == 0 then none else some ⟨r, (many b r : Int) - many a r⟩
def deltaL (a b S : RowL) : List T_impl_Delta := S.filterMap (dOf a b)
def deltaV (a b : RowL) : List T_impl_Delta := bif allR a && allR b then deltaL a b (sortedV (once (a ++ b))) else []
theorem sm_app {a b : RowL} (ha : SmRs a) (hb : SmRs b) (hl : a.length + b.length ≤ 2097152) : SmRs (a ++ b) :=
 ⟨by simp only [List.length_append]; omega, fun r hr => (List.mem_append.1 hr).elim (ha.2 r) (hb.2 r)⟩
theorem clipDl {xs : List T_impl_Delta} : slices_Clip_impl_Delta_impl_Delta xs = some xs := by
 unfold slices_Clip_impl_Delta_impl_Delta slI
 simp
theorem impl_deltaL {a b S : RowL} (ha : SmRs a) (hb : SmRs b) (hS : S.length ≤ 2097152) : impl_deltaOf_l0 a b S FUEL 0 [] = some (deltaL a b S) := by
 have ha1 := ha.1
 have hb1 := hb.1
 have := loop_opt (xs := S) (L := fun f i (s : List T_impl_Delta) => impl_deltaOf_l0 a b S f i s) (fun rest s => some (s ++ deltaL a b rest)) (fun i s => s.length ≤ i) (by omega)
  (fun f i s v hi hv hw hI => by
   have m1 := many_le a v
   have m2 := many_le b v
   have hw2 : w64 ((many b v : Int) - many a v) = (many b v : Int) - many a v := by rw [w64_of] <;> omega
   cases hd : ((many b v : Int) - many a v) == 0 with
   | true =>
    refine .inr ⟨s, by omega, ?_, by simp [deltaL, dOf, hd]⟩
    rw [impl_deltaOf_l0, decide_eq_true (by omega), cond_true, getI_nat, hv, Option.bind_some, impl_many hb, Option.bind_some, impl_many ha, Option.bind_some, hw2, hd, Bool.not_true, cond_false, hw]
   | false =>
    refine .inr ⟨s ++ [⟨v, (many b v : Int) - many a v⟩], by simp; omega, ?_, by simp [deltaL, dOf, hd]⟩
    rw [impl_deltaOf_l0, decide_eq_true (by omega), cond_true, getI_nat, hv, Option.bind_some, impl_many hb, Option.bind_some, impl_many ha, Option.bind_some, hw2, hd, Bool.not_false, cond_true, app_lt (by simp; omega), Option.bind_some, hw])
  (fun f s hI => by
   rw [impl_deltaOf_l0, decide_eq_false (Int.lt_irrefl _), cond_false, clipDl, Option.bind_some]
   simp [deltaL]) (s := []) (Nat.le_refl _)
 exact this
structure SmDs (ds : List T_impl_Delta) : Prop where
 len : ds.length ≤ 2097152
 row : ∀ d ∈ ds, SmR d.fRow
 one : ∀ d ∈ ds, -1 ≤ d.fMany ∧ d.fMany ≤ 1
end Go.D
set_option linter.unusedVariables false
namespace Go.D
def rem1 (r : List T_impl_Value) (o : RowL) : Option RowL := (o.findIdx? fun x => rowEq x r).map fun i => o.take i ++ o.drop (i + 1)
def remN (r : List T_impl_Value) : Nat → RowL → Option RowL
 | 0, o => some o
 | n + 1, o => (rem1 r o).bind (remN r n)
def step1 (o : RowL) (d : T_impl_Delta) : Option RowL := if 0 ≤ d.fMany then some (o ++ List.replicate d.fMany.toNat d.fRow) else remN d.fRow (-d.fMany).toNat o
def stepsV : List T_impl_Delta → RowL → Option RowL
 | [], o => some o
 | d :: ds, o => (step1 o d).bind (stepsV ds)
theorem rem1_some {r : List T_impl_Value} {o o' : RowL} (h : rem1 r o = some o') : o.Perm (r :: o') := by
 unfold rem1 at h
 cases hi : o.findIdx? fun x => rowEq x r with
 | none => rw [hi] at h; cases h
 | some i =>
  rw [hi] at h
  cases h
  obtain ⟨hlt, hp, _⟩ := List.findIdx?_eq_some_iff_getElem.1 hi
  have e : o[i] = r := rowEq_iff.1 hp
  have : o = o.take i ++ o[i] :: o.drop (i + 1) := by rw [← List.drop_eq_getElem_cons hlt, List.take_append_drop]
  rw [e] at this
  conv => lhs; rw [this]
  exact List.perm_middle
theorem rem1_none {r : List T_impl_Value} {o : RowL} : rem1 r o = none ↔ many o r = 0 := by
 unfold rem1
 rw [Option.map_eq_none_iff, List.findIdx?_eq_none_iff]
 constructor
 ·intro h
  by_cases hm : many o r = 0
  ·exact hm
  ·have := h r (many_pos.1 (by omega))
   rw [rowEq_refl] at this
   cases this
 ·intro h x hx
  cases hq : rowEq x r with
  | false => rfl
  | true =>
   have := many_pos.2 hx
   rw [rowEq_iff.1 hq] at this
   omega
theorem rem1_many {r : List T_impl_Value} {o o' : RowL} (h : rem1 r o = some o') (x : List T_impl_Value) : many o x = many o' x + if rowEq r x = true then 1 else 0 := by
 rw [many_perm (rem1_some h), many_consR]
theorem remN_many {r : List T_impl_Value} : ∀ {n : Nat} {o o' : RowL}, remN r n o = some o' → ∀ x, (many o' x : Int) = many o x - if rowEq r x = true then (n : Int) else 0
 | 0, o, o', h, x => by
  cases h
  split <;> simp
 | n + 1, o, o', h, x => by
  unfold remN at h
  cases h1 : rem1 r o with
  | none => rw [h1] at h; cases h
  | some o1 =>
   rw [h1] at h
   have e1 := rem1_many h1 x
   have e2 := remN_many (o := o1) h x
   split at e1
   ·next hq =>
    rw [if_pos hq] at e2 ⊢
    omega
   ·next hq =>
    rw [if_neg hq] at e2 ⊢
    omega
theorem remN_ok {r : List T_impl_Value} : ∀ {n : Nat} {o : RowL}, n ≤ many o r → ∃ o', remN r n o = some o'
 | 0, o, _ => ⟨o, rfl⟩
 | n + 1, o, h => by
  cases h1 : rem1 r o with
  | none =>
   have := rem1_none.1 h1
   omega
  | some o1 =>
   have e1 := rem1_many h1 r
   rw [if_pos (rowEq_refl r)] at e1
   obtain ⟨o', h'⟩ := remN_ok (r := r) (n := n) (o := o1) (by omega)
   exact ⟨o', by rw [remN, h1]; exact h'⟩
theorem many_rep (n : Nat) (r x : List T_impl_Value) : many (List.replicate n r) x = if rowEq r x = true then n else 0 := by
 induction n with
 | zero => simp [many_nil]
 | succ n ih =>
  rw [List.replicate_succ, many_consR, ih]
  split <;> simp
theorem step1_many {o o' : RowL} {d : T_impl_Delta} (h : step1 o d = some o') (x : List T_impl_Value) : (many o' x : Int) = many o x + if rowEq d.fRow x = true then d.fMany else 0 := by
 unfold step1 at h
 split at h
 ·next h0 =>
  cases h
  rw [many_app, many_rep]
  split <;> omega
 ·next h0 =>
  have := remN_many h x
  rw [this]
  split <;> omega
theorem stepsV_mem {ds : List T_impl_Delta} {o o' : RowL} (h : stepsV ds o = some o') {p : List T_impl_Value → Prop} (ho : ∀ r ∈ o, p r) (hd : ∀ d ∈ ds, p d.fRow) : ∀ r ∈ o', p r := by
 have rem : ∀ (r : List T_impl_Value) (n : Nat) (o o' : RowL), remN r n o = some o' → (∀ x ∈ o, p x) → ∀ x ∈ o', p x := by
  intro r n
  induction n with
  | zero =>
   intro o o' h ho
   cases h
   exact ho
  | succ n ih =>
   intro o o' h ho
   unfold remN at h
   cases h1 : rem1 r o with
   | none => rw [h1] at h; cases h
   | some o1 =>
    rw [h1] at h
    exact ih o1 o' h fun x hx => ho x ((rem1_some h1).mem_iff.2 (by simp [hx]))
 induction ds generalizing o with
 | nil => cases h; exact ho
 | cons d ds ih =>
  unfold stepsV at h
  cases h1 : step1 o d with
  | none => rw [h1] at h; cases h
  | some o1 =>
   rw [h1] at h
   refine ih h (fun x hx => ?_) (fun d' hd' => hd d' (by simp [hd']))
   unfold step1 at h1
   split at h1
   ·cases h1
    rcases List.mem_append.1 hx with hx | hx
    ·exact ho x hx
    ·rw [(List.mem_replicate.1 hx).2]
     exact hd d (by simp)
   ·exact rem _ _ _ _ h1 ho x hx
theorem remN_len {r : List T_impl_Value} : ∀ {n : Nat} {o o' : RowL}, remN r n o = some o' → o'.length ≤ o.length
 | 0, o, o', h => by cases h; exact Nat.le_refl _
 | n + 1, o, o', h => by
  unfold remN at h
  cases h1 : rem1 r o with
  | none => rw [h1] at h; cases h
  | some o1 =>
   rw [h1] at h
   have e1 := (rem1_some h1).length_eq
   have e2 := remN_len (o := o1) h
   simp only [List.length_cons] at e1
   omega
theorem deltaL_steps {a b : RowL} : ∀ (S : RowL), S.Nodup → ∀ o : RowL, (∀ r ∈ S, many o r = many a r) → ∃ o', stepsV (deltaL a b S) o = some o' ∧ (∀ r, r ∈ S → many o' r = many b r) ∧ ∀ r, r ∉ S → many o' r = many o r
 | [], _, o, _ => ⟨o, rfl, fun r hr => by (cases hr), fun r _ => rfl⟩
 | s :: S, hn, o, ho => by
  rw [List.nodup_cons] at hn
  have hs := ho s (by simp)
  unfold deltaL
  rw [List.filterMap_cons]
  unfold dOf
  cases hz : ((many b s : Int) - many a s) == 0 with
  | true =>
   have hz' : (many b s : Int) - many a s = 0 := by simpa using hz
   obtain ⟨o', h1, h2, h3⟩ := deltaL_steps (a := a) (b := b) S hn.2 o fun r hr => ho r (by simp [hr])
   refine ⟨o', h1, fun r hr => ?_, fun r hr => h3 r fun h => hr (by simp [h])⟩
   rcases List.mem_cons.1 hr with rfl | hr
   ·rw [h3 r hn.1]
    omega
   ·exact h2 r hr
  | false =>
   have hz' : (many b s : Int) - many a s ≠ 0 := by simpa using hz
   obtain ⟨o1, e1⟩ : ∃ o1, step1 o ⟨s, (many b s : Int) - many a s⟩ = some o1 := by
    unfold step1
    split
    ·exact ⟨_, rfl⟩
    ·next h0 =>
     simp only at h0 ⊢
     exact remN_ok (by omega)
   have m1 := step1_many e1
   have hne : ∀ r ∈ S, rowEq s r = false := fun r hr => by
    cases hq : rowEq s r with
    | false => rfl
    | true => exact absurd (rowEq_iff.1 hq ▸ hr) hn.1
   obtain ⟨o', h1, h2, h3⟩ := deltaL_steps (a := a) (b := b) S hn.2 o1 fun r hr => by
    have := m1 r
    simp only [hne r hr, Bool.false_eq_true, if_false] at this
    have := ho r (by simp [hr])
    omega
   refine ⟨o', by simp only [cond_false, stepsV, e1, Option.bind_some]; exact h1, fun r hr => ?_, fun r hr => ?_⟩
   ·rcases List.mem_cons.1 hr with rfl | hr
    ·rw [h3 r hn.1]
     have := m1 r
     simp only [rowEq_refl, if_true] at this
     omega
    ·exact h2 r hr
   ·have hrs : rowEq s r = false := by
     cases hq : rowEq s r with
     | false => rfl
     | true => exact absurd (by rw [rowEq_iff.1 hq]; simp) hr
    rw [h3 r fun h => hr (by simp [h])]
    have := m1 r
    simp only [hrs, Bool.false_eq_true, if_false] at this
    omega
theorem nodup_of_many {S : RowL} (h : ∀ r, many S r ≤ 1) : S.Nodup := by
 induction S with
 | nil => exact List.nodup_nil
 | cons s S ih =>
  refine List.nodup_cons.2 ⟨fun hs => ?_, ih fun r => ?_⟩
  ·have h1 := h s
   have h2 := many_pos.2 hs
   rw [many_consR, rowEq_refl] at h1
   simp at h1
   omega
  ·have := h r
   rw [many_consR] at this
   omega
theorem onceS_nodup (xs : RowL) : (sortedV (once xs)).Nodup := by
 rw [(sortedV_perm _).nodup_iff]
 refine nodup_of_many fun r => ?_
 rw [once_many]
 split <;> omega
theorem onceS_mem {xs : RowL} {r : List T_impl_Value} : r ∈ sortedV (once xs) ↔ r ∈ xs := by
 rw [(sortedV_perm _).mem_iff, once_mem]
theorem deltaV_mem {a b : RowL} {d : T_impl_Delta} (h : d ∈ deltaV a b) : d.fRow ∈ a ++ b ∧ rowOk d.fRow = true ∧ d.fMany ≠ 0 ∧ d.fMany = (many b d.fRow : Int) - many a d.fRow := by
 unfold deltaV at h
 cases va : allR a with
 | false => rw [va] at h; cases h
 | true =>
  cases vb : allR b with
  | false => rw [va, vb] at h; cases h
  | true =>
   rw [va, vb, Bool.and_self, cond_true] at h
   obtain ⟨r, hr, e⟩ := List.mem_filterMap.1 h
   have hm := onceS_mem.1 hr
   unfold dOf at e
   cases hz : ((many b r : Int) - many a r) == 0 with
   | true => rw [hz] at e; cases e
   | false =>
    rw [hz] at e
    cases e
    exact ⟨hm, (List.mem_append.1 hm).elim (allR_mem va r) (allR_mem vb r), by simpa using hz, rfl⟩
theorem deltaV_len (a b : RowL) : (deltaV a b).length ≤ a.length + b.length := by
 unfold deltaV
 cases allR a && allR b with
 | false => simp
 | true =>
  rw [cond_true]
  refine Nat.le_trans (List.length_filterMap_le _ _) ?_
  rw [(sortedV_perm _).length_eq]
  have := once_len (a ++ b)
  rwa [List.length_append] at this
end Go.D
set_option linter.unusedVariables false
namespace Go.D
theorem set_at {α : Type} (A : List α) (x y : α) (B : List α) : (A ++ x :: B).set A.length y = A ++ y :: B := by
 rw [List.set_append_right _ _ (Nat.le_refl _), Nat.sub_self]
 rfl
theorem getI_at {α : Type} (A : List α) (x : α) (B : List α) : getI (A ++ x :: B) (A.length : Int) = some x := by
 rw [getI_nat, List.getElem?_append_right (Nat.le_refl _), Nat.sub_self]
 rfl
theorem swap_at {α : Type} (A : List α) (x : α) (M : List α) (y : α) (B : List α) : ((A ++ x :: M ++ y :: B).set A.length y).set (A.length + 1 + M.length) x = A ++ y :: M ++ x :: B := by
 have e1 : A ++ x :: M ++ y :: B = A ++ x :: (M ++ y :: B) := by simp
 rw [e1, set_at]
 have e2 : A ++ y :: (M ++ y :: B) = (A ++ y :: M) ++ y :: B := by simp
 have e3 : A.length + 1 + M.length = (A ++ y :: M).length := by simp; omega
 rw [e2, e3, set_at]
theorem get_1 {α : Type} (A : List α) (x : α) (M : List α) (y : α) (B : List α) {i : Int} (hi : i = A.length) : getI (A ++ x :: M ++ y :: B) i = some x := by
 have e1 : A ++ x :: M ++ y :: B = A ++ x :: (M ++ y :: B) := by simp
 rw [hi, e1, getI_at]
theorem get_2 {α : Type} (A : List α) (x : α) (M : List α) (y : α) (B : List α) {i : Int} (hi : i = ((A.length + 1 + M.length : Nat) : Int)) : getI (A ++ x :: M ++ y :: B) i = some y := by
 have e3 : A.length + 1 + M.length = (A ++ x :: M).length := by simp; omega
 rw [hi, e3, getI_at]
theorem get_3 {α : Type} (A : List α) (x : α) (M : List α) (y z : α) (B : List α) {i : Int} (hi : i = ((A.length + 1 + M.length : Nat) : Int)) : ∃ w, getI ((A ++ x :: M ++ y :: B).set A.length z) i = some w := by
 rw [hi, getI_nat, List.getElem?_set_ne (by omega)]
 exact ⟨y, by rw [← getI_nat]; exact get_2 A x M y B rfl⟩
theorem swap_to {α : Type} (A : List α) (x : α) (M : List α) (y : α) (B : List α) {i j : Nat} (hi : i = A.length) (hj : j = A.length + 1 + M.length) : ((A ++ x :: M ++ y :: B).set i y).set j x = A ++ y :: M ++ x :: B := by
 subst hi hj
 exact swap_at A x M y B
theorem swap_back {α : Type} (A : List α) (x : α) (M : List α) (y : α) (B : List α) {i j : Nat} (hi : i = A.length) (hj : j = A.length + 1 + M.length) : ((A ++ x :: M ++ y :: B).set j x).set i y = A ++ y :: M ++ x :: B := by
 rw [List.set_comm _ _ (by omega)]
 exact swap_to A x M y B hi hj
section
variable (cmp : (List T_impl_Value) → (List T_impl_Value) → Option Int)
theorem sw_ok (A B M : List (List T_impl_Value)) (X Y : List (List T_impl_Value)) (h : X.length = Y.length) (hn : (A ++ X ++ M ++ Y ++ B).length < 1000000000) :
  slices_swapRangeCmpFunc_impl_Value (A ++ X ++ M ++ Y ++ B) (A.length : Int) ((A.length + X.length + M.length : Nat) : Int) (X.length : Int) cmp = some (A ++ Y ++ M ++ X ++ B) := by
 have main : ∀ (k f : Nat) (X1 Y1 X2 Y2 : List (List T_impl_Value)), X2.length = k → Y2.length = k → X1.length = Y1.length → X1.length + k = X.length → k < f → (A ++ Y1 ++ X2 ++ M ++ X1 ++ Y2 ++ B).length < 1000000000 →
   slices_swapRangeCmpFunc_impl_Value_l0 (A.length : Int) ((A.length + X.length + M.length : Nat) : Int) (X.length : Int) f (X1.length : Int) (A ++ Y1 ++ X2 ++ M ++ X1 ++ Y2 ++ B) = some (A ++ Y1 ++ Y2 ++ M ++ X1 ++ X2 ++ B) := by
  intro k
  induction k with
  | zero =>
   intro f X1 Y1 X2 Y2 h1 h2 h3 h4 hf hl
   obtain ⟨f, rfl⟩ : ∃ f', f = f' + 1 := ⟨f - 1, by omega⟩
   have e1 := List.eq_nil_of_length_eq_zero h1
   have e2 := List.eq_nil_of_length_eq_zero h2
   subst e1 e2
   rw [slices_swapRangeCmpFunc_impl_Value_l0, decide_eq_false (by omega), cond_false]
  | succ k ih =>
   intro f X1 Y1 X2 Y2 h1 h2 h3 h4 hf hl
   obtain ⟨f, rfl⟩ : ∃ f', f = f' + 1 := ⟨f - 1, by omega⟩
   match X2, Y2, h1, h2 with
   | x :: X2, y :: Y2, h1, h2 =>
    simp only [List.length_cons, Nat.add_right_cancel_iff] at h1 h2
    have es : A ++ Y1 ++ (x :: X2) ++ M ++ X1 ++ (y :: Y2) ++ B = (A ++ Y1) ++ x :: (X2 ++ M ++ X1) ++ y :: (Y2 ++ B) := by simp
    rw [es]
    simp only [List.length_append, List.length_cons] at hl
    have w1 : w64 ((A.length : Int) + (X1.length : Int)) = (((A ++ Y1).length : Nat) : Int) := by rw [w64_of (by omega) (by omega), List.length_append]; omega
    have w2 : w64 (((A.length + X.length + M.length : Nat) : Int) + (X1.length : Int)) = (((A ++ Y1).length + 1 + (X2 ++ M ++ X1).length : Nat) : Int) := by rw [w64_of (by omega) (by omega)]; simp only [List.length_append]; omega
    have w3 : w64 ((X1.length : Int) + 1) = (((X1 ++ [x]).length : Nat) : Int) := by rw [w64_of (by omega) (by omega)]; simp
    obtain ⟨q, hq⟩ := get_3 (A ++ Y1) x (X2 ++ M ++ X1) y y (Y2 ++ B) rfl
    rw [slices_swapRangeCmpFunc_impl_Value_l0, decide_eq_true (by omega), cond_true, w1, w2, w3, get_2 (A ++ Y1) x _ y _ rfl, Option.bind_some, get_1 (A ++ Y1) x _ y _ rfl, Option.bind_some, Option.bind_some, Int.toNat_natCast, Int.toNat_natCast, hq, Option.bind_some, swap_at]
    have e4 : (A ++ Y1) ++ y :: (X2 ++ M ++ X1) ++ x :: (Y2 ++ B) = A ++ (Y1 ++ [y]) ++ X2 ++ M ++ (X1 ++ [x]) ++ Y2 ++ B := by simp
    rw [e4, ih f (X1 ++ [x]) (Y1 ++ [y]) X2 Y2 h1 h2 (by simp; omega) (by simp; omega) (by omega) (by simp; omega)]
    simp
 have := main X.length FUEL [] [] X Y rfl h.symm rfl (by simp) (by unfold FUEL; simp only [List.length_append] at hn; omega) (by simpa using hn)
 unfold slices_swapRangeCmpFunc_impl_Value slices_swapRangeCmpFunc_impl_Value_w
 simp only [List.append_nil, List.length_nil, Int.ofNat_eq_natCast, Int.cast_ofNat_Int] at this
 rw [this, Option.bind_some]
 have e : ((A ++ Y ++ M ++ X ++ B).length == (A ++ X ++ M ++ Y ++ B).length) = true := by simp; omega
 rw [e, cond_true]
theorem ro_ok (A U V B : List (List T_impl_Value)) (hU : U ≠ []) (hV : V ≠ []) (hn : (A ++ U ++ V ++ B).length < 1000000000) :
  slices_rotateCmpFunc_impl_Value (A ++ U ++ V ++ B) (A.length : Int) ((A.length + U.length : Nat) : Int) ((A.length + U.length + V.length : Nat) : Int) cmp = some (A ++ V ++ U ++ B) := by
 have main : ∀ (k f : Nat) (A U V B : List (List T_impl_Value)), U ≠ [] → V ≠ [] → U.length + V.length ≤ k → k < f → (A ++ U ++ V ++ B).length < 1000000000 →
   slices_rotateCmpFunc_impl_Value_l0 ((A.length + U.length : Nat) : Int) cmp f (U.length : Int) (V.length : Int) (A ++ U ++ V ++ B) = some (A ++ V ++ U ++ B) := by
  intro k
  induction k with
  | zero =>
   intro f A U V B hU _ hk
   exact absurd (List.eq_nil_of_length_eq_zero (by omega)) hU
  | succ k ih =>
   intro f A U V B hU hV hk hf hl
   obtain ⟨f, rfl⟩ : ∃ f', f = f' + 1 := ⟨f - 1, by omega⟩
   have pU := List.length_pos_iff.2 hU
   have pV := List.length_pos_iff.2 hV
   have hl' := hl
   simp only [List.length_append] at hl'
   have w1 : w64 (((A.length + U.length : Nat) : Int) - (U.length : Int)) = (A.length : Int) := by rw [w64_of (by omega) (by omega)]; omega
   rw [slices_rotateCmpFunc_impl_Value_l0]
   by_cases he : U.length = V.length
   ·have e : ((U.length : Int) == (V.length : Int)) = true := by rw [he]; simp
    rw [e, Bool.not_true, cond_false, w1]
    have := sw_ok cmp A B [] U V he (by simpa using hl)
    simp only [List.append_nil, List.length_nil, Nat.add_zero] at this
    rw [this, Option.bind_some]
   ·have e : ((U.length : Int) == (V.length : Int)) = false := beq_eq_false_iff_ne.2 (by omega)
    rw [e, Bool.not_false, cond_true]
    by_cases hgt : V.length < U.length
    ·rw [decide_eq_true (show (U.length : Int) > (V.length : Int) by omega), cond_true, w1]
     have eU : U = U.take V.length ++ U.drop V.length := (List.take_append_drop _ _).symm
     have l1 : (U.take V.length).length = V.length := by rw [List.length_take]; omega
     have l2 : (U.drop V.length).length = U.length - V.length := List.length_drop
     generalize U.take V.length = U1 at eU l1
     generalize U.drop V.length = U2 at eU l2
     subst eU
     rw [List.length_append] at l2 hgt
     have := sw_ok cmp A B U2 U1 V l1 (by simp only [List.length_append] at hl' ⊢; omega)
     have ea : A ++ (U1 ++ U2) ++ V ++ B = A ++ U1 ++ U2 ++ V ++ B := by simp
     have eb : ((A.length + (U1 ++ U2).length : Nat) : Int) = ((A.length + U1.length + U2.length : Nat) : Int) := by rw [List.length_append]; omega
     rw [ea, eb, ← l1, this, Option.bind_some]
     have w2 : w64 (((U1 ++ U2).length : Int) - (U1.length : Int)) = (U2.length : Int) := by rw [w64_of (by simp only [List.length_append]; omega) (by simp only [List.length_append]; omega), List.length_append]; omega
     rw [w2]
     have pU2 : U2 ≠ [] := List.length_pos_iff.1 (by omega)
     have pU1 : U1 ≠ [] := List.length_pos_iff.1 (by omega)
     have := ih f (A ++ V) U2 U1 B pU2 pU1 (by simp only [List.length_append] at hk; omega) (by omega) (by simp only [List.length_append] at hl' ⊢; omega)
     have ec : (((A ++ V).length + U2.length : Nat) : Int) = ((A.length + U1.length + U2.length : Nat) : Int) := by rw [List.length_append]; omega
     rw [ec] at this
     rw [this]
     simp
    ·rw [decide_eq_false (show ¬ (U.length : Int) > (V.length : Int) by omega), cond_false, w1]
     have eV : V = V.take (V.length - U.length) ++ V.drop (V.length - U.length) := (List.take_append_drop _ _).symm
     have l1 : (V.take (V.length - U.length)).length = V.length - U.length := by rw [List.length_take]; omega
     have l2 : (V.drop (V.length - U.length)).length = U.length := by rw [List.length_drop]; omega
     generalize V.take (V.length - U.length) = V1 at eV l1
     generalize V.drop (V.length - U.length) = V2 at eV l2
     subst eV
     rw [List.length_append] at l1 hgt he
     have := sw_ok cmp A B V1 U V2 l2.symm (by simp only [List.length_append] at hl' ⊢; omega)
     have ea : A ++ U ++ (V1 ++ V2) ++ B = A ++ U ++ V1 ++ V2 ++ B := by simp
     have w3 : w64 (w64 (((A.length + U.length : Nat) : Int) + ((V1 ++ V2).length : Int)) - (U.length : Int)) = ((A.length + U.length + V1.length : Nat) : Int) := by
      rw [w64_of (n := ((A.length + U.length : Nat) : Int) + ((V1 ++ V2).length : Int)) (by simp only [List.length_append]; omega) (by simp only [List.length_append] at hl' ⊢; omega)]
      rw [w64_of (by simp only [List.length_append]; omega) (by simp only [List.length_append] at hl' ⊢; omega), List.length_append]
      omega
     rw [ea, w3, this, Option.bind_some]
     have w2 : w64 (((V1 ++ V2).length : Int) - (U.length : Int)) = (V1.length : Int) := by rw [w64_of (by simp only [List.length_append]; omega) (by simp only [List.length_append] at hl' ⊢; omega), List.length_append]; omega
     rw [w2]
     have pV2 : V2 ≠ [] := List.length_pos_iff.1 (by omega)
     have pV1 : V1 ≠ [] := List.length_pos_iff.1 (by omega)
     have := ih f A V2 V1 (U ++ B) pV2 pV1 (by simp only [List.length_append] at hk; omega) (by omega) (by simp only [List.length_append] at hl' ⊢; omega)
     rw [l2] at this
     have ed : A ++ V2 ++ V1 ++ U ++ B = A ++ V2 ++ V1 ++ (U ++ B) := by simp
     rw [ed, this]
     simp
 have hl' := hn
 simp only [List.length_append] at hl'
 have := main (U.length + V.length) FUEL A U V B hU hV (Nat.le_refl _) (by unfold FUEL; omega) hn
 unfold slices_rotateCmpFunc_impl_Value slices_rotateCmpFunc_impl_Value_w
 have w1 : w64 (((A.length + U.length : Nat) : Int) - (A.length : Int)) = (U.length : Int) := by rw [w64_of (by omega) (by omega)]; omega
 have w2 : w64 (((A.length + U.length + V.length : Nat) : Int) - ((A.length + U.length : Nat) : Int)) = (V.length : Int) := by rw [w64_of (by omega) (by omega)]; omega
 rw [w1, w2, this, Option.bind_some]
 have e : ((A ++ V ++ U ++ B).length == (A ++ U ++ V ++ B).length) = true := by simp; omega
 rw [e, cond_true]
end
end Go.D
set_option linter.unusedVariables false
namespace Go.D
theorem mB1 {α : Type} (A L R T : List α) (x y z : α) : z ∈ A ++ L ++ x :: (y :: R) ++ T → z ∈ A ++ (L ++ [y]) ++ x :: R ++ T := by grind
theorem mB2 {α : Type} (A W Q B : List α) (x z : α) : z ∈ A ++ W ++ x :: [] ++ (Q ++ B) → z ∈ A ++ W ++ x :: Q ++ B := by grind
theorem mB3 {α : Type} {A W1 W Q B : List α} {x : α} (h : W1.Perm (x :: (W ++ []))) (z : α) : z ∈ A ++ W1 ++ Q ++ B → z ∈ A ++ W ++ x :: Q ++ B := by have := h.mem_iff (a := z); grind
theorem mB4 {α : Type} (A S B : List α) (s z : α) : z ∈ A ++ [s] ++ S ++ B → z ∈ A ++ (s :: S) ++ B := by grind
theorem mD1 {α : Type} (A U1 U2 V1 V2 B : List α) (z : α) : z ∈ A ++ U1 ++ V1 ++ (U2 ++ V2 ++ B) → z ∈ A ++ (U1 ++ U2) ++ (V1 ++ V2) ++ B := by grind
theorem mD2 {α : Type} {A W1 U1 U2 V1 V2 B : List α} (h : W1.Perm (U1 ++ V1)) (z : α) : z ∈ A ++ W1 ++ U2 ++ V2 ++ B → z ∈ A ++ (U1 ++ U2) ++ (V1 ++ V2) ++ B := by have := h.mem_iff (a := z); grind
theorem mE1 {α : Type} (P S Q : List α) (z : α) : z ∈ P ++ S ++ Q → z ∈ P ++ (S ++ Q) := by grind
theorem mE2 {α : Type} {P S W Q : List α} (h : W.Perm S) (z : α) : z ∈ P ++ W ++ Q → z ∈ P ++ (S ++ Q) := by have := h.mem_iff (a := z); grind
theorem mE3 {α : Type} (P S T Q : List α) (z : α) : z ∈ P ++ S ++ T ++ Q → z ∈ P ++ (S ++ (T ++ Q)) := by grind
theorem mE4 {α : Type} {P S T W Q : List α} (h : W.Perm (S ++ T)) (z : α) : z ∈ P ++ W ++ Q → z ∈ P ++ (S ++ (T ++ Q)) := by have := h.mem_iff (a := z); grind
theorem mE5 {α : Type} (P S T : List α) (z : α) : z ∈ P ++ S ++ T ++ [] → z ∈ P ++ (S ++ T) := by grind
def Asc {α : Type} (cf : α → α → Int) (xs : List α) : Prop := xs.Pairwise fun a b => cf a b ≤ 0
section
variable {cf : (List T_impl_Value) → (List T_impl_Value) → Int} {F : (List T_impl_Value) → (List T_impl_Value) → Option Int} {p : (List T_impl_Value) → Prop} (hF : ∀ x y, p x → p y → F x y = some (cf x y)) (hO : Ord3 cf)
include hF hO
theorem in_step (A L R T : List (List T_impl_Value)) (x : (List T_impl_Value)) (k : Int) (hx : ∀ r ∈ R, cf x r ≤ 0) (hs : Asc cf (L ++ R)) (K : Int → List (List T_impl_Value) → Option (List (List T_impl_Value))) (hn : (A ++ L ++ x :: R ++ T).length < 1000000000 ∧ ∀ z ∈ A ++ L ++ x :: R ++ T, p z) :
  ∀ f, L.length < f → ∃ W, slices_insertionSortCmpFunc_impl_Value_l1 (A.length : Int) F k K f ((A.length + L.length : Nat) : Int) (A ++ L ++ x :: R ++ T) = K (w64 (k + 1)) (A ++ W ++ T) ∧ W.Perm (x :: (L ++ R)) ∧ Asc cf W := by
 have main : ∀ (m : Nat) (L R : List (List T_impl_Value)), L.length = m → (∀ r ∈ R, cf x r ≤ 0) → Asc cf (L ++ R) → ((A ++ L ++ x :: R ++ T).length < 1000000000 ∧ ∀ z ∈ A ++ L ++ x :: R ++ T, p z) → ∀ f, L.length < f →
   ∃ W, slices_insertionSortCmpFunc_impl_Value_l1 (A.length : Int) F k K f ((A.length + L.length : Nat) : Int) (A ++ L ++ x :: R ++ T) = K (w64 (k + 1)) (A ++ W ++ T) ∧ W.Perm (x :: (L ++ R)) ∧ Asc cf W := by
  intro m
  induction m with
  | zero =>
   intro L R hL hx hs hn f hf
   obtain ⟨f, rfl⟩ : ∃ f', f = f' + 1 := ⟨f - 1, by omega⟩
   have := List.eq_nil_of_length_eq_zero hL
   subst this
   refine ⟨x :: R, ?_, List.Perm.refl _, ?_⟩
   ·rw [slices_insertionSortCmpFunc_impl_Value_l1, decide_eq_false (by simp), cond_false, slices_insertionSortCmpFunc_impl_Value_j2, cond_false]
    simp
   ·exact List.pairwise_cons.2 ⟨hx, hs⟩
  | succ m ih =>
   intro L R hL hx hs hn f hf
   obtain ⟨f, rfl⟩ : ∃ f', f = f' + 1 := ⟨f - 1, by omega⟩
   have hne : L ≠ [] := fun e => by rw [e] at hL; cases hL
   obtain ⟨L', y, rfl⟩ : ∃ L' y, L = L' ++ [y] := ⟨L.dropLast, L.getLast hne, (List.dropLast_concat_getLast hne).symm⟩
   have hL' : L'.length = m := by simpa using hL
   simp only [List.length_append, List.length_cons, List.length_nil] at hn
   have e1 : A ++ (L' ++ [y]) ++ x :: R ++ T = (A ++ L') ++ y :: [] ++ x :: (R ++ T) := by simp
   have w1 : w64 (((A.length + (L' ++ [y]).length : Nat) : Int) - 1) = (((A ++ L').length : Nat) : Int) := by rw [w64_of (by simp; omega) (by simp; omega)]; simp; omega
   have p2 : ((A.length + (L' ++ [y]).length : Nat) : Int) = (((A ++ L').length + 1 + ([] : List (List T_impl_Value)).length : Nat) : Int) := by simp; omega
   obtain ⟨q, hq⟩ := get_3 (A ++ L') y [] x x (R ++ T) rfl
   have hq' : ∃ q, getI ((((A ++ L') ++ y :: [] ++ x :: (R ++ T))).set (((A ++ L').length + 1 + ([] : List (List T_impl_Value)).length : Nat)) y) (((A ++ L').length : Nat) : Int) = some q := by
    rw [getI_nat, List.getElem?_set_ne (by simp)]
    exact ⟨y, by rw [← getI_nat]; exact get_1 (A ++ L') y [] x (R ++ T) rfl⟩
   obtain ⟨q2, hq2⟩ := hq'
   rw [e1, slices_insertionSortCmpFunc_impl_Value_l1, decide_eq_true (by simp; omega), cond_true, w1, p2, get_2 (A ++ L') y [] x _ rfl, Option.bind_some, get_1 (A ++ L') y [] x _ rfl, Option.bind_some, hF x y (hn.2 x (by simp)) (hn.2 y (by simp)), Option.bind_some]
   by_cases hlt : cf x y < 0
   ·rw [decide_eq_true hlt, slices_insertionSortCmpFunc_impl_Value_j2, cond_true, ← p2, w1, p2, get_1 (A ++ L') y [] x _ rfl, Option.bind_some, get_2 (A ++ L') y [] x _ rfl, Option.bind_some, Option.bind_some, Int.toNat_natCast, hq2, Option.bind_some, Int.toNat_natCast,
     swap_back (A ++ L') y [] x _ rfl rfl]
    have hs' : Asc cf (L' ++ y :: R) := by simpa using hs
    have hsp := List.pairwise_append.1 hs'
    obtain ⟨W, h1, h2, h3⟩ := ih L' (y :: R) hL' (fun r hr => by
     rcases List.mem_cons.1 hr with rfl | hr
     ·omega
     ·exact hO.le _ _ _ (by omega) ((List.pairwise_cons.1 hsp.2.1).1 r hr)) hs' ⟨by simp; omega, fun z hz => hn.2 z (mB1 A L' R T x y z hz)⟩ f (by simp at hf; omega)
    refine ⟨W, ?_, ?_, h3⟩
    ·have e2 : (A ++ L') ++ x :: [] ++ y :: (R ++ T) = A ++ L' ++ x :: (y :: R) ++ T := by simp
     rw [e2, List.length_append]
     exact h1
    ·simpa using h2
   ·refine ⟨(L' ++ [y]) ++ x :: R, ?_, ?_, ?_⟩
    ·rw [decide_eq_false hlt, slices_insertionSortCmpFunc_impl_Value_j2, cond_false]
     simp
    ·exact List.perm_middle
    ·have hyx : cf y x ≤ 0 := hO.ge (by omega)
     have hsp := List.pairwise_append.1 hs
     refine List.pairwise_append.2 ⟨hsp.1, List.pairwise_cons.2 ⟨hx, hsp.2.1⟩, fun a ha b hb => ?_⟩
     rcases List.mem_cons.1 hb with rfl | hb
     ·rcases List.mem_append.1 ha with ha | ha
      ·exact hO.le _ _ _ ((List.pairwise_append.1 hsp.1).2.2 a ha y (by simp)) hyx
      ·simp at ha
       rw [ha]
       exact hyx
     ·exact hsp.2.2 a ha b hb
 exact main L.length L R rfl hx hs hn
theorem in_ok (A S B : List (List T_impl_Value)) (hn : (A ++ S ++ B).length < 1000000000 ∧ ∀ z ∈ A ++ S ++ B, p z) :
  ∃ W, slices_insertionSortCmpFunc_impl_Value (A ++ S ++ B) (A.length : Int) ((A.length + S.length : Nat) : Int) F = some (A ++ W ++ B) ∧ W.Perm S ∧ Asc cf W := by
 have main : ∀ (k f : Nat) (W Q : List (List T_impl_Value)), Q.length = k → k < f → Asc cf W → ((A ++ W ++ Q ++ B).length < 1000000000 ∧ ∀ z ∈ A ++ W ++ Q ++ B, p z) → ((A.length + S.length : Nat) : Int) = ((A.length + W.length + Q.length : Nat) : Int) →
   ∃ W', slices_insertionSortCmpFunc_impl_Value_l0 (A.length : Int) ((A.length + S.length : Nat) : Int) F f ((A.length + W.length : Nat) : Int) (A ++ W ++ Q ++ B) = some (A ++ W' ++ B) ∧ W'.Perm (W ++ Q) ∧ Asc cf W' := by
  intro k
  induction k with
  | zero =>
   intro f W Q hQ hf hW hl he
   obtain ⟨f, rfl⟩ : ∃ f', f = f' + 1 := ⟨f - 1, by omega⟩
   have := List.eq_nil_of_length_eq_zero hQ
   subst this
   refine ⟨W, ?_, by simp, hW⟩
   rw [slices_insertionSortCmpFunc_impl_Value_l0, decide_eq_false (by rw [he]; simp), cond_false]
   simp
  | succ k ih =>
   intro f W Q hQ hf hW hl he
   obtain ⟨f, rfl⟩ : ∃ f', f = f' + 1 := ⟨f - 1, by omega⟩
   match Q, hQ with
   | x :: Q, hQ =>
    simp only [List.length_cons, Nat.add_right_cancel_iff] at hQ
    simp only [List.length_append, List.length_cons] at hl
    have e1 : A ++ W ++ x :: Q ++ B = A ++ W ++ x :: [] ++ (Q ++ B) := by simp
    obtain ⟨W1, h1, h2, h3⟩ := in_step hF hO A W [] (Q ++ B) x ((A.length + W.length : Nat) : Int) (by simp) (by simpa using hW) (slices_insertionSortCmpFunc_impl_Value_l0 (A.length : Int) ((A.length + S.length : Nat) : Int) F f) ⟨by simp; omega, fun z hz => hl.2 z (mB2 A W Q B x z hz)⟩ FUEL (by unfold FUEL; omega)
    have hw1 : W1.length = W.length + 1 := by rw [h2.length_eq]; simp
    have w1 : w64 (((A.length + W.length : Nat) : Int) + 1) = ((A.length + W1.length : Nat) : Int) := by rw [w64_of (by omega) (by omega)]; omega
    obtain ⟨W2, g1, g2, g3⟩ := ih f W1 Q hQ (by omega) h3 ⟨by simp; omega, fun z hz => hl.2 z (mB3 h2 z hz)⟩ (by rw [he]; simp; omega)
    refine ⟨W2, ?_, ?_, g3⟩
    ·rw [e1, slices_insertionSortCmpFunc_impl_Value_l0, decide_eq_true (by rw [he]; simp; omega), cond_true, h1, w1]
     have e2 : A ++ W1 ++ (Q ++ B) = A ++ W1 ++ Q ++ B := by simp
     rw [e2]
     exact g1
    ·refine g2.trans ((h2.append_right Q).trans ?_)
     simp only [List.append_nil, List.cons_append]
     exact (List.perm_middle (l₁ := W) (a := x) (l₂ := Q)).symm
 unfold slices_insertionSortCmpFunc_impl_Value slices_insertionSortCmpFunc_impl_Value_w
 simp only [List.length_append] at hn
 cases S with
 | nil =>
  refine ⟨[], ?_, List.Perm.refl _, List.Pairwise.nil⟩
  have w1 : w64 ((A.length : Int) + 1) = (A.length : Int) + 1 := w64_of (by omega) (by omega)
  have : slices_insertionSortCmpFunc_impl_Value_l0 (A.length : Int) ((A.length + ([] : List (List T_impl_Value)).length : Nat) : Int) F FUEL (w64 ((A.length : Int) + 1)) (A ++ [] ++ B) = some (A ++ [] ++ B) := by
   rw [w1]
   show slices_insertionSortCmpFunc_impl_Value_l0 (A.length : Int) ((A.length + ([] : List (List T_impl_Value)).length : Nat) : Int) F (FUEL - 1 + 1) _ _ = _
   rw [slices_insertionSortCmpFunc_impl_Value_l0, decide_eq_false (by simp; omega), cond_false]
  rw [this, Option.bind_some, beq_self_eq_true, cond_true]
 | cons s S =>
  obtain ⟨W, h1, h2, h3⟩ := main S.length FUEL [s] S rfl (by unfold FUEL; simp only [List.length_cons] at hn; omega) (List.pairwise_singleton _ _) ⟨by simp only [List.length_append, List.length_cons, List.length_nil] at hn ⊢; omega, fun z hz => hn.2 z (mB4 A S B s z hz)⟩ (by simp; omega)
  refine ⟨W, ?_, by simpa using h2, h3⟩
  have w1 : w64 ((A.length : Int) + 1) = ((A.length + [s].length : Nat) : Int) := by rw [w64_of (by omega) (by omega)]; simp
  have e1 : A ++ (s :: S) ++ B = A ++ [s] ++ S ++ B := by simp
  have hl : W.length = S.length + 1 := by rw [h2.length_eq]; simp
  rw [w1, e1, h1, Option.bind_some]
  have e : ((A ++ W ++ B).length == (A ++ [s] ++ S ++ B).length) = true := by simp; omega
  rw [e, cond_true]
end
end Go.D
set_option linter.unusedVariables false
namespace Go.D
theorem half_nat {i j : Nat} (h : i + j < 2000000000) : w64 (shrU (u64 (w64 ((i : Int) + (j : Int)))) 1) = (((i + j) / 2 : Nat) : Int) := by
 have e : w64 ((i : Int) + (j : Int)) = (i : Int) + (j : Int) := w64_of (by omega) (by omega)
 rw [e, half_of (by omega) (by omega)]
 omega
section
variable {cf : (List T_impl_Value) → (List T_impl_Value) → Int} {F : (List T_impl_Value) → (List T_impl_Value) → Option Int} {p : (List T_impl_Value) → Prop} (hF : ∀ x y, p x → p y → F x y = some (cf x y)) (hO : Ord3 cf)
omit hF hO in
theorem mv_right (u : (List T_impl_Value)) (T : List (List T_impl_Value)) (A : List (List T_impl_Value)) : ∀ (Y X : List (List T_impl_Value)) (f : Nat), Y.length < f → (A ++ X ++ u :: Y ++ T).length < 1000000000 →
  slices_symMergeCmpFunc_impl_Value_l1 ((A.length + X.length + Y.length + 1 : Nat) : Int) f ((A.length + X.length : Nat) : Int) (A ++ X ++ u :: Y ++ T) = some (A ++ X ++ Y ++ u :: T)
 | [], X, f, hf, hn => by
  obtain ⟨f, rfl⟩ : ∃ f', f = f' + 1 := ⟨f - 1, by omega⟩
  have w1 : w64 (((A.length + X.length + ([] : List (List T_impl_Value)).length + 1 : Nat) : Int) - 1) = ((A.length + X.length : Nat) : Int) := by simp only [List.length_append, List.length_cons, List.length_nil] at hn; rw [w64_of (by simp only [List.length_nil]; omega) (by simp only [List.length_nil]; omega)]; simp
  rw [slices_symMergeCmpFunc_impl_Value_l1, w1, decide_eq_false (by omega), cond_false]
  simp
 | y :: Y, X, f, hf, hn => by
  obtain ⟨f, rfl⟩ : ∃ f', f = f' + 1 := ⟨f - 1, by omega⟩
  simp only [List.length_append, List.length_cons] at hn hf
  have w1 : w64 (((A.length + X.length + (y :: Y).length + 1 : Nat) : Int) - 1) = ((A.length + X.length + Y.length + 1 : Nat) : Int) := by rw [w64_of (by simp only [List.length_cons]; omega) (by simp only [List.length_cons]; omega)]; simp only [List.length_cons]; omega
  have w2 : w64 (((A.length + X.length : Nat) : Int) + 1) = (((A ++ X).length + 1 + ([] : List (List T_impl_Value)).length : Nat) : Int) := by rw [w64_of (by omega) (by omega)]; simp
  have p1 : ((A.length + X.length : Nat) : Int) = (((A ++ X).length : Nat) : Int) := by simp
  have e1 : A ++ X ++ u :: (y :: Y) ++ T = (A ++ X) ++ u :: [] ++ y :: (Y ++ T) := by simp
  obtain ⟨q, hq⟩ := get_3 (A ++ X) u [] y y (Y ++ T) rfl
  have e2 : (A ++ X) ++ y :: [] ++ u :: (Y ++ T) = A ++ (X ++ [y]) ++ u :: Y ++ T := by simp
  have p3 : ((A.length + X.length + (y :: Y).length + 1 : Nat) : Int) = ((A.length + (X ++ [y]).length + Y.length + 1 : Nat) : Int) := by simp; omega
  have p4 : (((A ++ X).length + 1 + ([] : List (List T_impl_Value)).length : Nat) : Int) = ((A.length + (X ++ [y]).length : Nat) : Int) := by simp; omega
  have ih := mv_right u T A Y (X ++ [y]) f (by omega) (by simp; omega)
  rw [slices_symMergeCmpFunc_impl_Value_l1, w1, decide_eq_true (by omega), cond_true, w2, p1, e1, get_2 (A ++ X) u [] y _ rfl, Option.bind_some, get_1 (A ++ X) u [] y _ rfl, Option.bind_some, Option.bind_some, Int.toNat_natCast, hq, Option.bind_some, Int.toNat_natCast,
   swap_to (A ++ X) u [] y _ rfl rfl, e2, p3, p4, ih]
  simp
omit hF hO in
theorem mv_left (x : (List T_impl_Value)) (T : List (List T_impl_Value)) (A : List (List T_impl_Value)) : ∀ (k : Nat) (Y Z : List (List T_impl_Value)) (f : Nat), Y.length = k → k < f → (A ++ Y ++ x :: Z ++ T).length < 1000000000 →
  slices_symMergeCmpFunc_impl_Value_l3 (A.length : Int) f ((A.length + Y.length : Nat) : Int) (A ++ Y ++ x :: Z ++ T) = some (A ++ x :: Y ++ Z ++ T)
 | 0, Y, Z, f, hY, hf, hn => by
  obtain ⟨f, rfl⟩ : ∃ f', f = f' + 1 := ⟨f - 1, by omega⟩
  have := List.eq_nil_of_length_eq_zero hY
  subst this
  rw [slices_symMergeCmpFunc_impl_Value_l3, decide_eq_false (by simp), cond_false]
  simp
 | k + 1, Y, Z, f, hY, hf, hn => by
  obtain ⟨f, rfl⟩ : ∃ f', f = f' + 1 := ⟨f - 1, by omega⟩
  have hne : Y ≠ [] := fun e => by rw [e] at hY; cases hY
  obtain ⟨Y, y, rfl⟩ : ∃ L' y, Y = L' ++ [y] := ⟨Y.dropLast, Y.getLast hne, (List.dropLast_concat_getLast hne).symm⟩
  simp only [List.length_append, List.length_cons, List.length_nil] at hn hY
  have w1 : w64 (((A.length + (Y ++ [y]).length : Nat) : Int) - 1) = (((A ++ Y).length : Nat) : Int) := by rw [w64_of (by simp; omega) (by simp; omega)]; simp; omega
  have p2 : ((A.length + (Y ++ [y]).length : Nat) : Int) = (((A ++ Y).length + 1 + ([] : List (List T_impl_Value)).length : Nat) : Int) := by simp; omega
  have e1 : A ++ (Y ++ [y]) ++ x :: Z ++ T = (A ++ Y) ++ y :: [] ++ x :: (Z ++ T) := by simp
  have hq : ∃ q, getI ((((A ++ Y) ++ y :: [] ++ x :: (Z ++ T))).set (((A ++ Y).length + 1 + ([] : List (List T_impl_Value)).length : Nat)) y) (((A ++ Y).length : Nat) : Int) = some q := by
   rw [getI_nat, List.getElem?_set_ne (by simp)]
   exact ⟨y, by rw [← getI_nat]; exact get_1 (A ++ Y) y [] x (Z ++ T) rfl⟩
  obtain ⟨q, hq⟩ := hq
  have e2 : (A ++ Y) ++ x :: [] ++ y :: (Z ++ T) = A ++ Y ++ x :: (y :: Z) ++ T := by simp
  have ih := mv_left x T A k Y (y :: Z) f (by omega) (by omega) (by simp; omega)
  have w3 : w64 ((((A ++ Y).length + 1 + ([] : List (List T_impl_Value)).length : Nat) : Int) - 1) = (((A ++ Y).length : Nat) : Int) := by rw [← p2]; exact w1
  rw [slices_symMergeCmpFunc_impl_Value_l3, decide_eq_true (by simp; omega), cond_true, p2, e1, w3, get_1 (A ++ Y) y [] x _ rfl, Option.bind_some, get_2 (A ++ Y) y [] x _ rfl, Option.bind_some, Option.bind_some, Int.toNat_natCast, hq, Option.bind_some, Int.toNat_natCast,
   swap_back (A ++ Y) y [] x _ rfl rfl, e2]
  have p3 : (((A ++ Y).length : Nat) : Int) = ((A.length + Y.length : Nat) : Int) := by simp
  rw [p3, ih]
  simp
include hF hO
theorem find_right (A : List (List T_impl_Value)) (u : (List T_impl_Value)) (V B : List (List T_impl_Value)) (hV : Asc cf V) (hn : (A ++ u :: V ++ B).length < 1000000000 ∧ ∀ z ∈ A ++ u :: V ++ B, p z) : ∀ (k p q f : Nat), q - p ≤ k → k < f → p ≤ q → q ≤ V.length → (∀ v ∈ V.take p, cf v u ≤ 0) → (∀ v ∈ V.drop q, cf u v ≤ 0) →
  ∃ r, r ≤ V.length ∧ slices_symMergeCmpFunc_impl_Value_l0 (A ++ u :: V ++ B) (A.length : Int) F f ((A.length + 1 + p : Nat) : Int) ((A.length + 1 + q : Nat) : Int) = slices_symMergeCmpFunc_impl_Value_l1 ((A.length + 1 + r : Nat) : Int) FUEL (A.length : Int) (A ++ u :: V ++ B) ∧ (∀ v ∈ V.take r, cf v u ≤ 0) ∧ (∀ v ∈ V.drop r, cf u v ≤ 0)
 | k, p, q, 0, _, hf, _, _, _, _ => absurd hf (by omega)
 | k, p, q, f + 1, hk, hf, hpq, hq, h1, h2 => by
  simp only [List.length_append, List.length_cons] at hn
  by_cases hlt : p < q
  ·obtain ⟨k, rfl⟩ : ∃ k', k = k' + 1 := ⟨k - 1, by omega⟩
   have hw : w64 (shrU (u64 (w64 (((A.length + 1 + p : Nat) : Int) + ((A.length + 1 + q : Nat) : Int)))) 1) = ((A.length + 1 + (p + q) / 2 : Nat) : Int) := by rw [half_nat (by omega)]; omega
   generalize hh : (p + q) / 2 = h at hw
   have hh1 : p ≤ h ∧ h < q := by omega
   have hvl : h < V.length := by omega
   have hg : getI (A ++ u :: V ++ B) ((A.length + 1 + h : Nat) : Int) = some V[h] := by
    rw [getI_nat, show A ++ u :: V ++ B = (A ++ [u]) ++ (V ++ B) by simp, List.getElem?_append_right (by simp; try omega), List.getElem?_append_left (by simp; try omega)]
    have : A.length + 1 + h - (A ++ [u]).length = h := by simp
    rw [this, List.getElem?_eq_getElem hvl]
   have hgu : getI (A ++ u :: V ++ B) (A.length : Int) = some u := by
    rw [show A ++ u :: V ++ B = A ++ u :: (V ++ B) by simp, getI_at]
   have w2 : w64 (((A.length + 1 + h : Nat) : Int) + 1) = ((A.length + 1 + (h + 1) : Nat) : Int) := by rw [w64_of (by omega) (by omega)]; omega
   have hidx := List.pairwise_iff_getElem.1 hV
   rw [slices_symMergeCmpFunc_impl_Value_l0, decide_eq_true (by omega), cond_true, hw, hg, Option.bind_some, hgu, Option.bind_some, hF _ _ (hn.2 V[h] (by simp)) (hn.2 u (by simp)), Option.bind_some]
   by_cases hc : cf V[h] u < 0
   ·rw [decide_eq_true hc, cond_true, w2]
    exact find_right A u V B hV ⟨by simp only [List.length_append, List.length_cons]; omega, hn.2⟩ k (h + 1) q f (by omega) (by omega) (by omega) hq (fun v hv => by
     obtain ⟨i, hi, rfl⟩ := List.getElem_of_mem hv
     rw [List.length_take] at hi
     rw [List.getElem_take]
     by_cases e : i = h
     ·subst e; omega
     ·exact hO.le _ _ _ (hidx i h (by omega) hvl (by omega)) (by omega)) h2
   ·rw [decide_eq_false hc, cond_false]
    exact find_right A u V B hV ⟨by simp only [List.length_append, List.length_cons]; omega, hn.2⟩ k p h f (by omega) (by omega) (by omega) (by omega) h1 (fun v hv => by
     obtain ⟨i, hi, rfl⟩ := List.getElem_of_mem hv
     rw [List.length_drop] at hi
     rw [List.getElem_drop]
     have h0 : cf u V[h] ≤ 0 := hO.ge (by omega)
     by_cases e : i = 0
     ·subst e; simpa using h0
     ·exact hO.le _ _ _ h0 (hidx h (h + i) hvl (by omega) (by omega)))
  ·have : p = q := by omega
   subst this
   refine ⟨p, hq, ?_, h1, h2⟩
   rw [slices_symMergeCmpFunc_impl_Value_l0, decide_eq_false (by omega), cond_false]
theorem find_left (A : List (List T_impl_Value)) (x : (List T_impl_Value)) (U B : List (List T_impl_Value)) (hU : Asc cf U) (hn : (A ++ U ++ x :: B).length < 1000000000 ∧ ∀ z ∈ A ++ U ++ x :: B, p z) : ∀ (k p q f : Nat), q - p ≤ k → k < f → p ≤ q → q ≤ U.length → (∀ v ∈ U.take p, cf v x ≤ 0) → (∀ v ∈ U.drop q, cf x v ≤ 0) →
  ∃ r, r ≤ U.length ∧ slices_symMergeCmpFunc_impl_Value_l2 (A ++ U ++ x :: B) ((A.length + U.length : Nat) : Int) F f ((A.length + p : Nat) : Int) ((A.length + q : Nat) : Int) = slices_symMergeCmpFunc_impl_Value_l3 ((A.length + r : Nat) : Int) FUEL ((A.length + U.length : Nat) : Int) (A ++ U ++ x :: B) ∧ (∀ v ∈ U.take r, cf v x ≤ 0) ∧ (∀ v ∈ U.drop r, cf x v ≤ 0)
 | k, p, q, 0, _, hf, _, _, _, _ => absurd hf (by omega)
 | k, p, q, f + 1, hk, hf, hpq, hq, h1, h2 => by
  simp only [List.length_append, List.length_cons] at hn
  by_cases hlt : p < q
  ·obtain ⟨k, rfl⟩ : ∃ k', k = k' + 1 := ⟨k - 1, by omega⟩
   have hw : w64 (shrU (u64 (w64 (((A.length + p : Nat) : Int) + ((A.length + q : Nat) : Int)))) 1) = ((A.length + (p + q) / 2 : Nat) : Int) := by rw [half_nat (by omega)]; omega
   generalize hh : (p + q) / 2 = h at hw
   have hh1 : p ≤ h ∧ h < q := by omega
   have hvl : h < U.length := by omega
   have hg : getI (A ++ U ++ x :: B) ((A.length + h : Nat) : Int) = some U[h] := by
    rw [getI_nat, show A ++ U ++ x :: B = A ++ (U ++ x :: B) by simp, List.getElem?_append_right (by omega), List.getElem?_append_left (by omega), Nat.add_sub_cancel_left, List.getElem?_eq_getElem hvl]
   have hgu : getI (A ++ U ++ x :: B) ((A.length + U.length : Nat) : Int) = some x := by
    rw [← List.length_append, getI_at]
   have w2 : w64 (((A.length + h : Nat) : Int) + 1) = ((A.length + (h + 1) : Nat) : Int) := by rw [w64_of (by omega) (by omega)]; omega
   have hidx := List.pairwise_iff_getElem.1 hU
   rw [slices_symMergeCmpFunc_impl_Value_l2, decide_eq_true (by omega), cond_true, hw, hgu, Option.bind_some, hg, Option.bind_some, hF _ _ (hn.2 x (by simp)) (hn.2 U[h] (by simp)), Option.bind_some]
   by_cases hc : cf x U[h] < 0
   ·rw [decide_eq_true hc, Bool.not_true, cond_false]
    exact find_left A x U B hU ⟨by simp only [List.length_append, List.length_cons]; omega, hn.2⟩ k p h f (by omega) (by omega) (by omega) (by omega) h1 (fun v hv => by
     obtain ⟨i, hi, rfl⟩ := List.getElem_of_mem hv
     rw [List.length_drop] at hi
     rw [List.getElem_drop]
     by_cases e : i = 0
     ·subst e; simp only [Nat.add_zero]; omega
     ·exact hO.le _ _ _ (by omega) (hidx h (h + i) hvl (by omega) (by omega)))
   ·rw [decide_eq_false hc, Bool.not_false, cond_true, w2]
    exact find_left A x U B hU ⟨by simp only [List.length_append, List.length_cons]; omega, hn.2⟩ k (h + 1) q f (by omega) (by omega) (by omega) hq (fun v hv => by
     obtain ⟨i, hi, rfl⟩ := List.getElem_of_mem hv
     rw [List.length_take] at hi
     rw [List.getElem_take]
     have h0 : cf U[h] x ≤ 0 := hO.ge (by omega)
     by_cases e : i = h
     ·subst e; exact h0
     ·exact hO.le _ _ _ (hidx i h (by omega) hvl (by omega)) h0) h2
  ·have : p = q := by omega
   subst this
   refine ⟨p, hq, ?_, h1, h2⟩
   rw [slices_symMergeCmpFunc_impl_Value_l2, decide_eq_false (by omega), cond_false]
theorem sm_right (A : List (List T_impl_Value)) (u : (List T_impl_Value)) (V B : List (List T_impl_Value)) (hV : Asc cf V) (hn : (A ++ u :: V ++ B).length < 1000000000 ∧ ∀ z ∈ A ++ u :: V ++ B, p z) :
  ∃ W, slices_symMergeCmpFunc_impl_Value_l0 (A ++ u :: V ++ B) (A.length : Int) F FUEL ((A.length + 1 : Nat) : Int) ((A.length + 1 + V.length : Nat) : Int) = some (A ++ W ++ B) ∧ W.Perm (u :: V) ∧ Asc cf W := by
 have hl := hn
 simp only [List.length_append, List.length_cons] at hl
 obtain ⟨r, hr, e, h1, h2⟩ := find_right hF hO A u V B hV hn V.length 0 V.length FUEL (by omega) (by unfold FUEL; omega) (Nat.zero_le _) (Nat.le_refl _) (by simp) (by simp)
 have eV : V.take r ++ V.drop r = V := List.take_append_drop _ _
 refine ⟨V.take r ++ u :: V.drop r, ?_, ?_, ?_⟩
 ·rw [Nat.add_zero] at e
  rw [e]
  have := mv_right u (V.drop r ++ B) A (V.take r) [] FUEL (by unfold FUEL; rw [List.length_take]; omega) (by simp; omega)
  have q1 : ((A.length + ([] : List (List T_impl_Value)).length + (V.take r).length + 1 : Nat) : Int) = ((A.length + 1 + r : Nat) : Int) := by rw [List.length_take]; simp; omega
  have q2 : ((A.length + ([] : List (List T_impl_Value)).length : Nat) : Int) = (A.length : Int) := by simp
  have q3 : A ++ [] ++ u :: V.take r ++ (V.drop r ++ B) = A ++ u :: V ++ B := by
   simp
   rw [← List.append_assoc, eV]
  rw [q1, q2, q3] at this
  rw [this]
  simp
 ·refine List.perm_middle.trans ?_
  rw [eV]
 ·have hsp := List.pairwise_append.1 (show Asc cf (V.take r ++ V.drop r) by rw [eV]; exact hV)
  refine List.pairwise_append.2 ⟨hsp.1, List.pairwise_cons.2 ⟨h2, hsp.2.1⟩, fun a ha b hb => ?_⟩
  rcases List.mem_cons.1 hb with rfl | hb
  ·exact h1 a ha
  ·exact hsp.2.2 a ha b hb
theorem sm_left (A : List (List T_impl_Value)) (x : (List T_impl_Value)) (U B : List (List T_impl_Value)) (hU : Asc cf U) (hn : (A ++ U ++ x :: B).length < 1000000000 ∧ ∀ z ∈ A ++ U ++ x :: B, p z) :
  ∃ W, slices_symMergeCmpFunc_impl_Value_l2 (A ++ U ++ x :: B) ((A.length + U.length : Nat) : Int) F FUEL (A.length : Int) ((A.length + U.length : Nat) : Int) = some (A ++ W ++ B) ∧ W.Perm (U ++ [x]) ∧ Asc cf W := by
 have hl := hn
 simp only [List.length_append, List.length_cons] at hl
 obtain ⟨r, hr, e, h1, h2⟩ := find_left hF hO A x U B hU hn U.length 0 U.length FUEL (by omega) (by unfold FUEL; omega) (Nat.zero_le _) (Nat.le_refl _) (by simp) (by simp)
 have eU : U.take r ++ U.drop r = U := List.take_append_drop _ _
 refine ⟨U.take r ++ x :: U.drop r, ?_, ?_, ?_⟩
 ·rw [Nat.add_zero] at e
  rw [e]
  have := mv_left x B (A ++ U.take r) (U.drop r).length (U.drop r) [] FUEL rfl (by unfold FUEL; rw [List.length_drop]; omega) (by simp; omega)
  have q1 : (((A ++ U.take r).length : Nat) : Int) = ((A.length + r : Nat) : Int) := by rw [List.length_append, List.length_take]; omega
  have q2 : (((A ++ U.take r).length + (U.drop r).length : Nat) : Int) = ((A.length + U.length : Nat) : Int) := by rw [List.length_append, List.length_take, List.length_drop]; omega
  have q3 : A ++ U.take r ++ U.drop r ++ x :: [] ++ B = A ++ U ++ x :: B := by rw [List.append_assoc A, eU]; simp
  rw [q1, q2, q3] at this
  rw [this]
  simp
 ·refine (List.perm_middle.trans ?_)
  rw [eU]
  exact (List.perm_append_comm (l₁ := U) (l₂ := [x])).symm
 ·have hsp := List.pairwise_append.1 (show Asc cf (U.take r ++ U.drop r) by rw [eU]; exact hU)
  refine List.pairwise_append.2 ⟨hsp.1, List.pairwise_cons.2 ⟨h2, hsp.2.1⟩, fun a ha b hb => ?_⟩
  rcases List.mem_cons.1 hb with rfl | hb
  ·exact h1 a ha
  ·exact hsp.2.2 a ha b hb
end
end Go.D
set_option linter.unusedVariables false
namespace Go.D
def MidL {α : Type} (cf : α → α → Int) (L : List α) (n s0 s : Nat) : Prop := s0 < s → ∃ x y, L[n - s]? = some x ∧ L[s - 1]? = some y ∧ ¬ cf x y < 0
def MidR {α : Type} (cf : α → α → Int) (L : List α) (n s r0 : Nat) : Prop := s < r0 → ∃ x y, L[n - 1 - s]? = some x ∧ L[s]? = some y ∧ cf x y < 0
section
variable {cf : (List T_impl_Value) → (List T_impl_Value) → Int} {F : (List T_impl_Value) → (List T_impl_Value) → Option Int} {p : (List T_impl_Value) → Prop} (hF : ∀ x y, p x → p y → F x y = some (cf x y)) (hO : Ord3 cf)
include hF
theorem find_mid (rec0 : List (List T_impl_Value) → Int → Int → Int → Option (List (List T_impl_Value))) (L : List (List T_impl_Value)) (a m b mid : Nat) (s0 r0 : Nat) (hmid : w64 (shrU (u64 (w64 ((a : Int) + (b : Int)))) 1) = (mid : Int)) (hb : L.length < 1000000000 ∧ ∀ z ∈ L, p z) (hbl : b ≤ L.length) (hm : mid ≤ b) (hmb : m ≤ b)
  (h1 : mid + m ≤ b + s0) (h2 : r0 ≤ mid + m) (h3 : r0 ≤ b) (Fin : Nat → Option (List (List T_impl_Value))) (hfin : ∀ (f : Nat) (s : Nat), s ≤ r0 → slices_symMergeCmpFunc_impl_Value_l5 rec0 L (a : Int) (m : Int) (b : Int) F (f + 1) (s : Int) (s : Int) = Fin s) :
  ∀ (k s r f : Nat), r - s ≤ k → k < f → s0 ≤ s → s ≤ r → r ≤ r0 → MidL cf L (mid + m) s0 s → MidR cf L (mid + m) r r0 →
  ∃ s', s0 ≤ s' ∧ s' ≤ r0 ∧ slices_symMergeCmpFunc_impl_Value_l5 rec0 L (a : Int) (m : Int) (b : Int) F f (s : Int) (r : Int) = Fin s' ∧ MidL cf L (mid + m) s0 s' ∧ MidR cf L (mid + m) s' r0
 | k, s, r, 0, _, hf, _, _, _, _, _ => absurd hf (by omega)
 | k, s, r, f + 1, hk, hf, hs0, hsr, hr0, hp1, hp2 => by
  by_cases hlt : s < r
  ·obtain ⟨k, rfl⟩ : ∃ k', k = k' + 1 := ⟨k - 1, by omega⟩
   have hw : w64 (shrU (u64 (w64 ((s : Int) + (r : Int)))) 1) = (((s + r) / 2 : Nat) : Int) := half_nat (by omega)
   generalize hh : (s + r) / 2 = c at hw
   have hc1 : s ≤ c ∧ c < r := by omega
   have w1 : w64 ((mid : Int) + (m : Int)) = ((mid + m : Nat) : Int) := by rw [w64_of (by omega) (by omega)]; omega
   have w2 : w64 (((mid + m : Nat) : Int) - 1) = ((mid + m - 1 : Nat) : Int) := by rw [w64_of (by omega) (by omega)]; omega
   have w3 : w64 (((mid + m - 1 : Nat) : Int) - (c : Int)) = ((mid + m - 1 - c : Nat) : Int) := by rw [w64_of (by omega) (by omega)]; omega
   have w4 : w64 ((c : Int) + 1) = ((c + 1 : Nat) : Int) := by rw [w64_of (by omega) (by omega)]; omega
   have hx : L[mid + m - 1 - c]? = some L[mid + m - 1 - c] := List.getElem?_eq_getElem (by omega)
   have hy : L[c]? = some L[c] := List.getElem?_eq_getElem (by omega)
   rw [slices_symMergeCmpFunc_impl_Value_l5, decide_eq_true (by omega), cond_true, hmid, w1, w2, hw, w3, getI_nat, hx, Option.bind_some, getI_nat, hy, Option.bind_some, hF _ _ (hb.2 _ (List.getElem_mem _)) (hb.2 _ (List.getElem_mem _)), Option.bind_some]
   by_cases hc : cf L[mid + m - 1 - c] L[c] < 0
   ·rw [decide_eq_true hc, Bool.not_true, cond_false]
    exact find_mid rec0 L a m b mid s0 r0 hmid hb hbl hm hmb h1 h2 h3 Fin hfin k s c f (by omega) (by omega) hs0 (by omega) (by omega) hp1 (fun _ => ⟨_, _, hx, hy, hc⟩)
   ·rw [decide_eq_false hc, Bool.not_false, cond_true, w4]
    exact find_mid rec0 L a m b mid s0 r0 hmid hb hbl hm hmb h1 h2 h3 Fin hfin k (c + 1) r f (by omega) (by omega) (by omega) (by omega) hr0 (fun _ => ⟨_, _, by rw [show mid + m - (c + 1) = mid + m - 1 - c by omega]; exact hx, hy, hc⟩) hp2
  ·have : s = r := by omega
   subst this
   exact ⟨s, hs0, hr0, hfin f s hr0, hp1, hp2⟩
include hO
omit hF in
theorem asc_join {X Y : List (List T_impl_Value)} {x y : (List T_impl_Value)} (hX : Asc cf (X ++ [x])) (hY : Asc cf (y :: Y)) (h : cf x y ≤ 0) : ∀ p ∈ X ++ [x], ∀ q ∈ y :: Y, cf p q ≤ 0 := by
 intro p hp q hq
 have h1 : cf p x ≤ 0 := by
  rcases List.mem_append.1 hp with hp | hp
  ·exact (List.pairwise_append.1 hX).2.2 p hp x (by simp)
  ·simp at hp
   rw [hp, hO.refl]
   exact Int.le_refl _
 have h2 : cf y q ≤ 0 := by
  rcases List.mem_cons.1 hq with rfl | hq
  ·rw [hO.refl]
   exact Int.le_refl _
  ·exact (List.pairwise_cons.1 hY).1 q hq
 exact hO.le _ _ _ (hO.le _ _ _ h1 h) h2
theorem sm_ok : ∀ (k f : Nat) (A U V B : List (List T_impl_Value)), U.length + V.length ≤ k → k < f → U ≠ [] → V ≠ [] → Asc cf U → Asc cf V → ((A ++ U ++ V ++ B).length < 1000000000 ∧ ∀ z ∈ A ++ U ++ V ++ B, p z) →
  ∃ W, slices_symMergeCmpFunc_impl_Value_f F f (A ++ U ++ V ++ B) (A.length : Int) ((A.length + U.length : Nat) : Int) ((A.length + U.length + V.length : Nat) : Int) = some (A ++ W ++ B) ∧ W.Perm (U ++ V) ∧ Asc cf W
 | 0, f, A, U, V, B, hk, _, hU, _, _, _, _ => absurd (List.eq_nil_of_length_eq_zero (by omega)) hU
 | k + 1, 0, A, U, V, B, _, hf, _, _, _, _, _ => absurd hf (by omega)
 | k + 1, f + 1, A, U, V, B, hk, hf, hU, hV, aU, aV, hn => by
  have pU := List.length_pos_iff.2 hU
  have pV := List.length_pos_iff.2 hV
  have hl := hn
  simp only [List.length_append] at hl
  suffices hs : ∃ W, slices_symMergeCmpFunc_impl_Value_s (slices_symMergeCmpFunc_impl_Value_f F f) (A ++ U ++ V ++ B) (A.length : Int) ((A.length + U.length : Nat) : Int) ((A.length + U.length + V.length : Nat) : Int) F = some (A ++ W ++ B) ∧ W.Perm (U ++ V) ∧ Asc cf W by
   obtain ⟨W, e, hp, ha⟩ := hs
   refine ⟨W, ?_, hp, ha⟩
   have hwl := hp.length_eq
   rw [slices_symMergeCmpFunc_impl_Value_f, e, Option.bind_some]
   have e : ((A ++ W ++ B).length == (A ++ U ++ V ++ B).length) = true := by
    simp only [List.length_append] at hwl ⊢
    simp
    omega
   rw [e, cond_true]
  have w1 : w64 (((A.length + U.length : Nat) : Int) - (A.length : Int)) = (U.length : Int) := by rw [w64_of (by omega) (by omega)]; omega
  have w2 : w64 (((A.length + U.length + V.length : Nat) : Int) - ((A.length + U.length : Nat) : Int)) = (V.length : Int) := by rw [w64_of (by omega) (by omega)]; omega
  unfold slices_symMergeCmpFunc_impl_Value_s
  rw [w1, w2]
  by_cases hu1 : U.length = 1
  ·have e : ((U.length : Int) == 1) = true := by rw [hu1]; rfl
   rw [e, cond_true]
   match U, hu1 with
   | [u], _ =>
    obtain ⟨W, e1, e2, e3⟩ := sm_right hF hO A u V B aV (by simpa using hn)
    refine ⟨W, ?_, by simpa using e2, e3⟩
    have : A ++ [u] ++ V ++ B = A ++ u :: V ++ B := by simp
    rw [this]
    exact e1
  have e : ((U.length : Int) == 1) = false := beq_eq_false_iff_ne.2 (by omega)
  rw [e, cond_false]
  by_cases hv1 : V.length = 1
  ·have e : ((V.length : Int) == 1) = true := by rw [hv1]; rfl
   rw [e, cond_true]
   match V, hv1 with
   | [x], _ =>
    obtain ⟨W, e1, e2, e3⟩ := sm_left hF hO A x U B aU (by simpa using hn)
    refine ⟨W, ?_, e2, e3⟩
    have : A ++ U ++ [x] ++ B = A ++ U ++ x :: B := by simp
    rw [this]
    exact e1
  have e : ((V.length : Int) == 1) = false := beq_eq_false_iff_ne.2 (by omega)
  rw [e, cond_false]
  -- the general case
  have hmid : w64 (shrU (u64 (w64 ((A.length : Int) + ((A.length + U.length + V.length : Nat) : Int)))) 1) = (((A.length + (A.length + U.length + V.length)) / 2 : Nat) : Int) := half_nat (by omega)
  generalize hmd : (A.length + (A.length + U.length + V.length)) / 2 = mid at hmid
  generalize hrec : slices_symMergeCmpFunc_impl_Value_f F f = rec0
  have w3 : w64 ((mid : Int) + ((A.length + U.length : Nat) : Int)) = ((mid + (A.length + U.length) : Nat) : Int) := by rw [w64_of (by omega) (by omega)]; omega
  -- behind the place
  have fin : ∀ (s : Nat), A.length ≤ s → s ≤ A.length + U.length → s ≤ mid → mid + (A.length + U.length) ≤ A.length + U.length + V.length + s →
    (∀ (U1 U2 V1 V2 : List (List T_impl_Value)), U = U1 ++ U2 → V = V1 ++ V2 → A.length + U1.length = s → (∀ x ∈ U1, ∀ y ∈ V2, cf x y ≤ 0) ∧ (∀ x ∈ V1, ∀ y ∈ U2, cf x y ≤ 0) ∨ ¬ (U1.length + V1.length = mid - A.length)) →
    ∃ W, (bif decide ((s : Int) < ((A.length + U.length : Nat) : Int)) then slices_symMergeCmpFunc_impl_Value_j10 rec0 (A ++ U ++ V ++ B) (A.length : Int) ((A.length + U.length : Nat) : Int) ((A.length + U.length + V.length : Nat) : Int) F (s : Int) (decide (((A.length + U.length : Nat) : Int) < w64 (w64 (w64 (shrU (u64 (w64 ((A.length : Int) + ((A.length + U.length + V.length : Nat) : Int)))) 1) + ((A.length + U.length : Nat) : Int)) - (s : Int))))
     else slices_symMergeCmpFunc_impl_Value_j10 rec0 (A ++ U ++ V ++ B) (A.length : Int) ((A.length + U.length : Nat) : Int) ((A.length + U.length + V.length : Nat) : Int) F (s : Int) false) = some (A ++ W ++ B) ∧ W.Perm (U ++ V) ∧ Asc cf W := by
   intro s hs1 hs2 hs3 hs4 hx
   have eU : U = U.take (s - A.length) ++ U.drop (s - A.length) := (List.take_append_drop _ _).symm
   have l1 : (U.take (s - A.length)).length = s - A.length := by rw [List.length_take]; omega
   have eV : V = V.take (mid - s) ++ V.drop (mid - s) := (List.take_append_drop _ _).symm
   have l2 : (V.take (mid - s)).length = mid - s := by rw [List.length_take]; omega
   generalize U.take (s - A.length) = U1 at eU l1
   generalize U.drop (s - A.length) = U2 at eU
   generalize V.take (mid - s) = V1 at eV l2
   generalize V.drop (mid - s) = V2 at eV
   have hcross := (hx U1 U2 V1 V2 eU eV (by omega)).resolve_right (by omega)
   have lU : U.length = U1.length + U2.length := by rw [eU, List.length_append]
   have lV : V.length = V1.length + V2.length := by rw [eV, List.length_append]
   have aU' := List.pairwise_append.1 (show Asc cf (U1 ++ U2) by rw [← eU]; exact aU)
   have aV' := List.pairwise_append.1 (show Asc cf (V1 ++ V2) by rw [← eV]; exact aV)
   have w4 : w64 (((mid + (A.length + U.length) : Nat) : Int) - (s : Int)) = ((mid + (A.length + U.length) - s : Nat) : Int) := by rw [w64_of (by omega) (by omega)]; omega
   have hend : mid + (A.length + U.length) - s = A.length + U.length + V1.length := by omega
   rw [hmid, w3, w4, hend]
   -- the rotation
   have rot : (bif decide ((s : Int) < ((A.length + U.length : Nat) : Int)) then slices_symMergeCmpFunc_impl_Value_j10 rec0 (A ++ U ++ V ++ B) (A.length : Int) ((A.length + U.length : Nat) : Int) ((A.length + U.length + V.length : Nat) : Int) F (s : Int) (decide (((A.length + U.length : Nat) : Int) < ((A.length + U.length + V1.length : Nat) : Int)))
     else slices_symMergeCmpFunc_impl_Value_j10 rec0 (A ++ U ++ V ++ B) (A.length : Int) ((A.length + U.length : Nat) : Int) ((A.length + U.length + V.length : Nat) : Int) F (s : Int) false)
     = slices_symMergeCmpFunc_impl_Value_j6 rec0 (A.length : Int) ((A.length + U.length : Nat) : Int) ((A.length + U.length + V.length : Nat) : Int) (s : Int) (A ++ U1 ++ V1 ++ U2 ++ V2 ++ B) := by
    unfold slices_symMergeCmpFunc_impl_Value_j10
    by_cases h1 : U2 = []
    ·subst h1
     rw [decide_eq_false (by simp at lU; omega), cond_false, cond_false]
     congr 1
     rw [eU, eV]
     simp
    ·have p2 := List.length_pos_iff.2 h1
     rw [decide_eq_true (by omega), cond_true]
     by_cases h2 : V1 = []
     ·subst h2
      rw [decide_eq_false (by simp), cond_false]
      congr 1
      rw [eU, eV]
      simp
     ·have p1 := List.length_pos_iff.2 h2
      rw [decide_eq_true (by omega), cond_true, hmid, w3, w4, hend]
      have := ro_ok F (A ++ U1) U2 V1 (V2 ++ B) h1 h2 (by simp only [List.length_append]; omega)
      have q1 : A ++ U ++ V ++ B = A ++ U1 ++ U2 ++ V1 ++ (V2 ++ B) := by rw [eU, eV]; simp
      have q2 : (s : Int) = (((A ++ U1).length : Nat) : Int) := by rw [List.length_append]; omega
      have q3 : ((A.length + U.length : Nat) : Int) = (((A ++ U1).length + U2.length : Nat) : Int) := by rw [List.length_append]; omega
      have q4 : ((A.length + U.length + V1.length : Nat) : Int) = (((A ++ U1).length + U2.length + V1.length : Nat) : Int) := by rw [List.length_append]; omega
      have q5 : slices_rotateCmpFunc_impl_Value (A ++ U ++ V ++ B) (s : Int) ((A.length + U.length : Nat) : Int) ((A.length + U.length + V1.length : Nat) : Int) F = some (A ++ U1 ++ V1 ++ U2 ++ (V2 ++ B)) := by
       rw [q1, q2, q3, q4]
       exact this
      rw [q5, Option.bind_some]
      congr 1
      simp
   rw [rot]
   -- the front
   have front : ∃ W1, slices_symMergeCmpFunc_impl_Value_j6 rec0 (A.length : Int) ((A.length + U.length : Nat) : Int) ((A.length + U.length + V.length : Nat) : Int) (s : Int) (A ++ U1 ++ V1 ++ U2 ++ V2 ++ B)
     = slices_symMergeCmpFunc_impl_Value_j7 rec0 (A.length : Int) ((A.length + U.length : Nat) : Int) ((A.length + U.length + V.length : Nat) : Int) (s : Int) (A ++ W1 ++ U2 ++ V2 ++ B) ∧ W1.Perm (U1 ++ V1) ∧ Asc cf W1 := by
    unfold slices_symMergeCmpFunc_impl_Value_j6 slices_symMergeCmpFunc_impl_Value_j9
    by_cases h1 : U1 = []
    ·subst h1
     refine ⟨V1, ?_, by simp, aV'.1⟩
     rw [decide_eq_false (by simp at l1; omega), cond_false, cond_false]
     congr 1
     simp
    ·have p1 := List.length_pos_iff.2 h1
     rw [decide_eq_true (by omega), cond_true]
     by_cases h2 : V1 = []
     ·subst h2
      refine ⟨U1, ?_, by simp, aU'.1⟩
      rw [hmid, decide_eq_false (by simp at l2; omega), cond_false]
      congr 1
      simp
     ·have p2 := List.length_pos_iff.2 h2
      obtain ⟨W1, e1, e2, e3⟩ := sm_ok k f A U1 V1 (U2 ++ V2 ++ B) (by omega) (by omega) h1 h2 aU'.1 aV'.1 ⟨by simp only [List.length_append]; omega, fun z hz => hn.2 z (by rw [eU, eV]; exact mD1 A U1 U2 V1 V2 B z hz)⟩
      refine ⟨W1, ?_, e2, e3⟩
      rw [hmid, decide_eq_true (by omega), cond_true]
      have q1 : A ++ U1 ++ V1 ++ U2 ++ V2 ++ B = A ++ U1 ++ V1 ++ (U2 ++ V2 ++ B) := by simp
      have q2 : (s : Int) = ((A.length + U1.length : Nat) : Int) := by omega
      have q3 : (mid : Int) = ((A.length + U1.length + V1.length : Nat) : Int) := by omega
      have q4 : rec0 (A ++ U1 ++ V1 ++ U2 ++ V2 ++ B) (A.length : Int) (s : Int) (mid : Int) = some (A ++ W1 ++ (U2 ++ V2 ++ B)) := by
       rw [q1, q2, q3, ← hrec]
       exact e1
      rw [q4, Option.bind_some]
      congr 1
      simp
   obtain ⟨W1, f1, f2, f3⟩ := front
   have lW1 : W1.length = U1.length + V1.length := by rw [f2.length_eq, List.length_append]
   rw [f1]
   -- the back
   have back : ∃ W2, slices_symMergeCmpFunc_impl_Value_j7 rec0 (A.length : Int) ((A.length + U.length : Nat) : Int) ((A.length + U.length + V.length : Nat) : Int) (s : Int) (A ++ W1 ++ U2 ++ V2 ++ B) = some (A ++ (W1 ++ W2) ++ B) ∧ W2.Perm (U2 ++ V2) ∧ Asc cf W2 := by
    unfold slices_symMergeCmpFunc_impl_Value_j7 slices_symMergeCmpFunc_impl_Value_j8
    rw [hmid, w3, w4, hend]
    by_cases h1 : U2 = []
    ·subst h1
     refine ⟨V2, ?_, by simp, aV'.2.1⟩
     rw [decide_eq_false (by simp at lU; omega), cond_false, cond_false]
     simp
    ·have p1 := List.length_pos_iff.2 h1
     rw [decide_eq_true (by omega), cond_true]
     by_cases h2 : V2 = []
     ·subst h2
      refine ⟨U2, ?_, by simp, aU'.2.1⟩
      rw [decide_eq_false (by simp at lV; omega), cond_false]
      simp
     ·have p2 := List.length_pos_iff.2 h2
      obtain ⟨W2, e1, e2, e3⟩ := sm_ok k f (A ++ W1) U2 V2 B (by omega) (by omega) h1 h2 aU'.2.1 aV'.2.1 ⟨by simp only [List.length_append]; omega, fun z hz => hn.2 z (by rw [eU, eV]; exact mD2 f2 z hz)⟩
      refine ⟨W2, ?_, e2, e3⟩
      rw [decide_eq_true (by omega), cond_true]
      have q2 : (mid : Int) = (((A ++ W1).length : Nat) : Int) := by rw [List.length_append]; omega
      have q3 : ((A.length + U.length + V1.length : Nat) : Int) = (((A ++ W1).length + U2.length : Nat) : Int) := by rw [List.length_append]; omega
      have q5 : ((A.length + U.length + V.length : Nat) : Int) = (((A ++ W1).length + U2.length + V2.length : Nat) : Int) := by rw [List.length_append]; omega
      have q4 : rec0 (A ++ W1 ++ U2 ++ V2 ++ B) (mid : Int) ((A.length + U.length + V1.length : Nat) : Int) ((A.length + U.length + V.length : Nat) : Int) = some (A ++ W1 ++ W2 ++ B) := by
       rw [q2, q3, q5, ← hrec]
       exact e1
      rw [q4, Option.bind_some]
      simp
   obtain ⟨W2, g1, g2, g3⟩ := back
   refine ⟨W1 ++ W2, g1, ?_, ?_⟩
   ·refine (f2.append g2).trans ?_
    rw [eU, eV]
    have : (U1 ++ V1 ++ (U2 ++ V2)).Perm (U1 ++ (U2 ++ (V1 ++ V2))) := by
     rw [List.append_assoc]
     refine List.Perm.append_left U1 ?_
     rw [← List.append_assoc, ← List.append_assoc]
     exact List.Perm.append_right V2 List.perm_append_comm
    simpa using this
   ·refine List.pairwise_append.2 ⟨f3, g3, fun x hx y hy => ?_⟩
    have hx := f2.subset hx
    have hy := g2.subset hy
    rcases List.mem_append.1 hx with hx | hx <;> rcases List.mem_append.1 hy with hy | hy
    ·exact aU'.2.2 x hx y hy
    ·exact hcross.1 x hx y hy
    ·exact hcross.2 x hx y hy
    ·exact aV'.2.2 x hx y hy
  -- what the search gives
  have cross : ∀ (s s0 r0 : Nat), MidL cf (A ++ U ++ V ++ B) (mid + (A.length + U.length)) s0 s → MidR cf (A ++ U ++ V ++ B) (mid + (A.length + U.length)) s r0 →
    (s = s0 → s = A.length ∨ mid + (A.length + U.length) - s = A.length + U.length + V.length) → (s = r0 → s = A.length + U.length ∨ mid = s) → s0 ≤ s → s ≤ r0 →
    (∀ (U1 U2 V1 V2 : List (List T_impl_Value)), U = U1 ++ U2 → V = V1 ++ V2 → A.length + U1.length = s → (∀ x ∈ U1, ∀ y ∈ V2, cf x y ≤ 0) ∧ (∀ x ∈ V1, ∀ y ∈ U2, cf x y ≤ 0) ∨ ¬ (U1.length + V1.length = mid - A.length)) := by
   intro s s0 r0 hp1 hp2 hb1 hb2 hs0 hr0 U1 U2 V1 V2 eU eV hs
   by_cases hlen : U1.length + V1.length = mid - A.length
   ·refine .inl ⟨?_, ?_⟩
    ·have lU : U.length = U1.length + U2.length := by rw [eU, List.length_append]
     have lV : V.length = V1.length + V2.length := by rw [eV, List.length_append]
     by_cases h1 : U1 = []
     ·subst h1
      exact fun x hx => by cases hx
     by_cases h2 : V2 = []
     ·subst h2
      exact fun x _ y hy => by cases hy
     have q1 := List.length_pos_iff.2 h1
     have q2 := List.length_pos_iff.2 h2
     obtain ⟨x, y, e1, e2, e3⟩ := hp1 (by
      rcases Nat.lt_or_ge s0 s with h | h
      ·exact h
      ·rcases hb1 (by omega) with h | h <;> omega)
     obtain ⟨X, z, rfl⟩ : ∃ L' y, U1 = L' ++ [y] := ⟨U1.dropLast, U1.getLast h1, (List.dropLast_concat_getLast h1).symm⟩
     match V2, h2 with
     | h :: T, _ =>
      have d1 : (A ++ U ++ V ++ B)[s - 1]? = some z := by
       rw [eU, show A ++ (X ++ [z] ++ U2) ++ V ++ B = (A ++ X) ++ z :: (U2 ++ V ++ B) by simp, show s - 1 = (A ++ X).length by simp at hs ⊢; omega, ← getI_nat, getI_at]
      have d2 : (A ++ U ++ V ++ B)[mid + (A.length + U.length) - s]? = some h := by
       rw [eV, show A ++ U ++ (V1 ++ h :: T) ++ B = (A ++ U ++ V1) ++ h :: (T ++ B) by simp, show mid + (A.length + U.length) - s = (A ++ U ++ V1).length by simp only [List.length_append, List.length_cons, List.length_nil] at hs hlen lU ⊢; omega, ← getI_nat, getI_at]
      rw [d1] at e2
      rw [d2] at e1
      rw [← Option.some.inj e1, ← Option.some.inj e2] at e3
      exact asc_join hO (List.pairwise_append.1 (show Asc cf ((X ++ [z]) ++ U2) by rw [← eU]; exact aU)).1 (List.pairwise_append.1 (show Asc cf (V1 ++ h :: T) by rw [← eV]; exact aV)).2.1 (hO.ge (by omega))
    ·have lU : U.length = U1.length + U2.length := by rw [eU, List.length_append]
     have lV : V.length = V1.length + V2.length := by rw [eV, List.length_append]
     by_cases h1 : V1 = []
     ·subst h1
      exact fun x hx => by cases hx
     by_cases h2 : U2 = []
     ·subst h2
      exact fun x _ y hy => by cases hy
     have q1 := List.length_pos_iff.2 h1
     have q2 := List.length_pos_iff.2 h2
     obtain ⟨x, y, e1, e2, e3⟩ := hp2 (by
      rcases Nat.lt_or_ge s r0 with h | h
      ·exact h
      ·rcases hb2 (by omega) with h | h <;> omega)
     obtain ⟨X, z, rfl⟩ : ∃ L' y, V1 = L' ++ [y] := ⟨V1.dropLast, V1.getLast h1, (List.dropLast_concat_getLast h1).symm⟩
     match U2, h2 with
     | h :: T, _ =>
      have d1 : (A ++ U ++ V ++ B)[mid + (A.length + U.length) - 1 - s]? = some z := by
       rw [eV, show A ++ U ++ (X ++ [z] ++ V2) ++ B = (A ++ U ++ X) ++ z :: (V2 ++ B) by simp, show mid + (A.length + U.length) - 1 - s = (A ++ U ++ X).length by simp only [List.length_append, List.length_cons, List.length_nil] at hs hlen lU ⊢; omega, ← getI_nat, getI_at]
      have d2 : (A ++ U ++ V ++ B)[s]? = some h := by
       rw [eU, show A ++ (U1 ++ h :: T) ++ V ++ B = (A ++ U1) ++ h :: (T ++ V ++ B) by simp, show s = (A ++ U1).length by simp at hs ⊢; omega, ← getI_nat, getI_at]
      rw [d1] at e1
      rw [d2] at e2
      rw [← Option.some.inj e1, ← Option.some.inj e2] at e3
      exact asc_join hO (List.pairwise_append.1 (show Asc cf ((X ++ [z]) ++ V2) by rw [← eV]; exact aV)).1 (List.pairwise_append.1 (show Asc cf (U1 ++ h :: T) by rw [← eU]; exact aU)).2.1 (by omega)
   ·exact .inr hlen
  have hfin : ∀ (f' s : Nat), slices_symMergeCmpFunc_impl_Value_l5 rec0 (A ++ U ++ V ++ B) (A.length : Int) ((A.length + U.length : Nat) : Int) ((A.length + U.length + V.length : Nat) : Int) F (f' + 1) (s : Int) (s : Int)
    = (bif decide ((s : Int) < ((A.length + U.length : Nat) : Int)) then slices_symMergeCmpFunc_impl_Value_j10 rec0 (A ++ U ++ V ++ B) (A.length : Int) ((A.length + U.length : Nat) : Int) ((A.length + U.length + V.length : Nat) : Int) F (s : Int) (decide (((A.length + U.length : Nat) : Int) < w64 (w64 (w64 (shrU (u64 (w64 ((A.length : Int) + ((A.length + U.length + V.length : Nat) : Int)))) 1) + ((A.length + U.length : Nat) : Int)) - (s : Int))))
     else slices_symMergeCmpFunc_impl_Value_j10 rec0 (A ++ U ++ V ++ B) (A.length : Int) ((A.length + U.length : Nat) : Int) ((A.length + U.length + V.length : Nat) : Int) F (s : Int) false) := by
   intro f' s
   rw [slices_symMergeCmpFunc_impl_Value_l5, decide_eq_false (Int.lt_irrefl _), cond_false]
  rw [hmid]
  unfold slices_symMergeCmpFunc_impl_Value_j4
  by_cases hgt : mid < A.length + U.length
  ·rw [decide_eq_true (by omega), cond_true, w3]
   have w5 : w64 (((mid + (A.length + U.length) : Nat) : Int) - ((A.length + U.length + V.length : Nat) : Int)) = ((mid - V.length : Nat) : Int) := by rw [w64_of (by omega) (by omega)]; omega
   rw [w5]
   obtain ⟨s, s1, s2, s3, s4, s5⟩ := find_mid hF rec0 (A ++ U ++ V ++ B) A.length (A.length + U.length) (A.length + U.length + V.length) mid (mid - V.length) mid hmid hn (by simp only [List.length_append]; omega) (by omega) (by omega) (by omega) (by omega) (by omega) _ (fun f' s _ => hfin f' s)
    mid (mid - V.length) mid FUEL (by omega) (by unfold FUEL; omega) (Nat.le_refl _) (by omega) (Nat.le_refl _) (fun h => absurd h (Nat.lt_irrefl _)) (fun h => absurd h (Nat.lt_irrefl _))
   rw [s3]
   exact fin s (by omega) (by omega) (by omega) (by omega) (cross s (mid - V.length) mid s4 s5 (fun e => .inr (by omega)) (fun e => .inr e.symm) s1 s2)
  ·rw [decide_eq_false (by omega), cond_false]
   obtain ⟨s, s1, s2, s3, s4, s5⟩ := find_mid hF rec0 (A ++ U ++ V ++ B) A.length (A.length + U.length) (A.length + U.length + V.length) mid A.length (A.length + U.length) hmid hn (by simp only [List.length_append]; omega) (by omega) (by omega) (by omega) (by omega) (by omega) _ (fun f' s _ => hfin f' s)
    (A.length + U.length) A.length (A.length + U.length) FUEL (by omega) (by unfold FUEL; omega) (Nat.le_refl _) (by omega) (Nat.le_refl _) (fun h => absurd h (Nat.lt_irrefl _)) (fun h => absurd h (Nat.lt_irrefl _))
   rw [s3]
   exact fin s (by omega) (by omega) (by omega) (by omega) (cross s A.length (A.length + U.length) s4 s5 (fun e => .inl e) (fun e => .inl e) s1 s2)
end
end Go.D
set_option linter.unusedVariables false
namespace Go.D
inductive Runs {α : Type} (cf : α → α → Int) (bs : Nat) : List α → Prop
 | last {S : List α} : S.length ≤ bs → Asc cf S → Runs cf bs S
 | cons {S Q : List α} : S.length = bs → Asc cf S → Runs cf bs Q → Runs cf bs (S ++ Q)
theorem Runs.asc {α : Type} {cf : α → α → Int} {bs : Nat} {Q : List α} (h : Runs cf bs Q) (hl : Q.length ≤ bs) : Asc cf Q := by
 cases h with
 | last _ h => exact h
 | @cons S Q1 h1 h2 h3 =>
  rw [List.length_append] at hl
  have : Q1 = [] := List.eq_nil_of_length_eq_zero (by omega)
  subst this
  rw [List.append_nil]
  exact h2
theorem Runs.split {α : Type} {cf : α → α → Int} {bs : Nat} {Q : List α} (h : Runs cf bs Q) (hl : bs < Q.length) : ∃ S Q1, Q = S ++ Q1 ∧ S.length = bs ∧ Asc cf S ∧ Runs cf bs Q1 := by
 cases h with
 | last h1 _ => omega
 | @cons S Q1 h1 h2 h3 => exact ⟨S, Q1, rfl, h1, h2, h3⟩
section
variable {cf : (List T_impl_Value) → (List T_impl_Value) → Int} {F : (List T_impl_Value) → (List T_impl_Value) → Option Int} {p : (List T_impl_Value) → Prop} (hF : ∀ x y, p x → p y → F x y = some (cf x y)) (hO : Ord3 cf)
include hF hO
theorem sm_all (A U V B : List (List T_impl_Value)) (hU : U ≠ []) (hV : V ≠ []) (aU : Asc cf U) (aV : Asc cf V) (hn : (A ++ U ++ V ++ B).length < 1000000000 ∧ ∀ z ∈ A ++ U ++ V ++ B, p z) :
  ∃ W, slices_symMergeCmpFunc_impl_Value (A ++ U ++ V ++ B) (A.length : Int) ((A.length + U.length : Nat) : Int) ((A.length + U.length + V.length : Nat) : Int) F = some (A ++ W ++ B) ∧ W.Perm (U ++ V) ∧ Asc cf W := by
 unfold slices_symMergeCmpFunc_impl_Value
 exact sm_ok hF hO (U.length + V.length) FUEL A U V B (Nat.le_refl _) (by unfold FUEL; simp only [List.length_append] at hn; omega) hU hV aU aV hn
theorem blocks_ok : ∀ (k f : Nat) (P Q : List (List T_impl_Value)), Q.length ≤ k → k < f → ((P ++ Q).length < 1000000000 ∧ ∀ z ∈ P ++ Q, p z) →
  ∃ W, slices_stableCmpFunc_impl_Value_l0 ((P.length + Q.length : Nat) : Int) F f (P.length : Int) ((P.length + 20 : Nat) : Int) (P ++ Q) = slices_stableCmpFunc_impl_Value_l1 ((P.length + Q.length : Nat) : Int) F FUEL 20 (P ++ W) ∧ W.Perm Q ∧ Runs cf 20 W
 | k, 0, P, Q, _, hf, _ => absurd hf (by omega)
 | k, f + 1, P, Q, hk, hf, hn => by
  have hl := hn
  rw [List.length_append] at hl
  by_cases h : 20 ≤ Q.length
  ·obtain ⟨k, rfl⟩ : ∃ k', k = k' + 1 := ⟨k - 1, by omega⟩
   have eQ : Q = Q.take 20 ++ Q.drop 20 := (List.take_append_drop _ _).symm
   have l1 : (Q.take 20).length = 20 := by rw [List.length_take]; omega
   generalize Q.take 20 = S at eQ l1
   generalize Q.drop 20 = Q1 at eQ
   subst eQ
   rw [List.length_append] at hl hk
   obtain ⟨W, h1, h2, h3⟩ := in_ok hF hO P S Q1 ⟨by simp only [List.length_append]; omega, fun z hz => hn.2 z (mE1 P S Q1 z hz)⟩
   have lW : W.length = 20 := by rw [h2.length_eq, l1]
   obtain ⟨W2, g1, g2, g3⟩ := blocks_ok k f (P ++ W) Q1 (by omega) (by omega) ⟨by simp only [List.length_append]; omega, fun z hz => hn.2 z (mE2 h2 z hz)⟩
   refine ⟨W ++ W2, ?_, h2.append g2, .cons lW h3 g3⟩
   have q1 : ((P.length + 20 : Nat) : Int) = ((P.length + S.length : Nat) : Int) := by rw [l1]
   have q2 : P ++ (S ++ Q1) = P ++ S ++ Q1 := by simp
   have w1 : w64 (((P.length + S.length : Nat) : Int) + 20) = (((P ++ W).length + 20 : Nat) : Int) := by rw [w64_of (by omega) (by omega), List.length_append]; omega
   have q3 : ((P.length + S.length : Nat) : Int) = (((P ++ W).length : Nat) : Int) := by rw [List.length_append]; omega
   have q4 : ((P.length + (S ++ Q1).length : Nat) : Int) = (((P ++ W).length + Q1.length : Nat) : Int) := by simp only [List.length_append]; omega
   rw [slices_stableCmpFunc_impl_Value_l0, decide_eq_true (by rw [List.length_append]; omega), cond_true, q1, q2, h1, Option.bind_some, w1, q3, q4, g1]
   simp
  ·rw [slices_stableCmpFunc_impl_Value_l0, decide_eq_false (by omega), cond_false]
   obtain ⟨W, h1, h2, h3⟩ := in_ok hF hO P Q [] (by simpa using hn)
   simp only [List.append_nil] at h1
   refine ⟨W, ?_, h2, .last (by rw [h2.length_eq]; omega) h3⟩
   rw [h1, Option.bind_some]
theorem pass_ok (bs : Nat) (hb : 0 < bs) (hb2 : bs < 1000000000) (K : Int → List (List T_impl_Value) → Option (List (List T_impl_Value))) : ∀ (k f : Nat) (P Q : List (List T_impl_Value)), Q.length ≤ k → k < f → ((P ++ Q).length < 1000000000 ∧ ∀ z ∈ P ++ Q, p z) → Runs cf bs Q →
  ∃ W, slices_stableCmpFunc_impl_Value_l2 ((P.length + Q.length : Nat) : Int) F (bs : Int) K f (P.length : Int) ((P.length + 2 * bs : Nat) : Int) (P ++ Q) = K (w64 ((bs : Int) * 2)) (P ++ W) ∧ W.Perm Q ∧ Runs cf (2 * bs) W
 | k, 0, P, Q, _, hf, _, _ => absurd hf (by omega)
 | k, f + 1, P, Q, hk, hf, hn, hr => by
  have hl := hn
  rw [List.length_append] at hl
  have w1 : w64 ((P.length : Int) + (bs : Int)) = ((P.length + bs : Nat) : Int) := by rw [w64_of (by omega) (by omega)]; omega
  have w2 : w64 (2 * (bs : Int)) = ((2 * bs : Nat) : Int) := by rw [w64_of (by omega) (by omega)]; omega
  by_cases h : 2 * bs ≤ Q.length
  ·obtain ⟨k, rfl⟩ : ∃ k', k = k' + 1 := ⟨k - 1, by omega⟩
   obtain ⟨S1, Q1, rfl, s1, s2, s3⟩ := hr.split (by omega)
   rw [List.length_append] at hl hk h
   have : ∃ S2 Q2, Q1 = S2 ++ Q2 ∧ S2.length = bs ∧ Asc cf S2 ∧ Runs cf bs Q2 := by
    by_cases e : bs < Q1.length
    ·exact s3.split e
    ·exact ⟨Q1, [], by simp, by omega, s3.asc (by omega), .last (by simp) List.Pairwise.nil⟩
   obtain ⟨S2, Q2, rfl, t1, t2, t3⟩ := this
   rw [List.length_append] at hl hk h
   obtain ⟨W, h1, h2, h3⟩ := sm_all hF hO P S1 S2 Q2 (List.length_pos_iff.1 (by omega)) (List.length_pos_iff.1 (by omega)) s2 t2 ⟨by simp only [List.length_append]; omega, fun z hz => hn.2 z (mE3 P S1 S2 Q2 z hz)⟩
   have lW : W.length = 2 * bs := by rw [h2.length_eq, List.length_append]; omega
   obtain ⟨W2, g1, g2, g3⟩ := pass_ok bs hb hb2 K k f (P ++ W) Q2 (by omega) (by omega) ⟨by simp only [List.length_append]; omega, fun z hz => hn.2 z (mE4 h2 z hz)⟩ t3
   refine ⟨W ++ W2, ?_, ?_, .cons lW h3 g3⟩
   ·have q1 : ((P.length + bs : Nat) : Int) = ((P.length + S1.length : Nat) : Int) := by rw [s1]
    have q2 : P ++ (S1 ++ (S2 ++ Q2)) = P ++ S1 ++ S2 ++ Q2 := by simp
    have q3 : ((P.length + 2 * bs : Nat) : Int) = ((P.length + S1.length + S2.length : Nat) : Int) := by omega
    have w3 : w64 (((P.length + S1.length + S2.length : Nat) : Int) + w64 (2 * (bs : Int))) = (((P ++ W).length + 2 * bs : Nat) : Int) := by rw [w2, w64_of (by omega) (by omega), List.length_append]; omega
    have q5 : ((P.length + S1.length + S2.length : Nat) : Int) = (((P ++ W).length : Nat) : Int) := by rw [List.length_append]; omega
    have q4 : ((P.length + (S1 ++ (S2 ++ Q2)).length : Nat) : Int) = (((P ++ W).length + Q2.length : Nat) : Int) := by simp only [List.length_append]; omega
    rw [slices_stableCmpFunc_impl_Value_l2, decide_eq_true (by simp only [List.length_append]; omega), cond_true, w1, q1, q2, q3, h1, Option.bind_some, w3, q5, q4, g1]
    simp
   ·have := h2.append g2
    simpa using this
  ·rw [slices_stableCmpFunc_impl_Value_l2, decide_eq_false (by omega), cond_false, w1]
   by_cases h' : bs < Q.length
   ·obtain ⟨S1, S2, rfl, s1, s2, s3⟩ := hr.split h'
    rw [List.length_append] at hl hk h h'
    rw [decide_eq_true (by rw [List.length_append]; omega), cond_true]
    obtain ⟨W, h1, h2, h3⟩ := sm_all hF hO P S1 S2 [] (List.length_pos_iff.1 (by omega)) (List.length_pos_iff.1 (by omega)) s2 (s3.asc (by omega)) ⟨by simp only [List.length_append, List.length_nil]; omega, fun z hz => hn.2 z (mE5 P S1 S2 z hz)⟩
    refine ⟨W, ?_, h2, .last (by rw [h2.length_eq, List.length_append]; omega) h3⟩
    have q1 : ((P.length + bs : Nat) : Int) = ((P.length + S1.length : Nat) : Int) := by rw [s1]
    have q2 : P ++ (S1 ++ S2) = P ++ S1 ++ S2 ++ [] := by simp
    have q3 : ((P.length + (S1 ++ S2).length : Nat) : Int) = ((P.length + S1.length + S2.length : Nat) : Int) := by rw [List.length_append]; omega
    rw [q1, q2, q3, h1, Option.bind_some, slices_stableCmpFunc_impl_Value_j3]
    simp
   ·rw [decide_eq_false (by omega), cond_false, slices_stableCmpFunc_impl_Value_j3]
    exact ⟨Q, rfl, List.Perm.refl _, .last (by omega) (hr.asc (by omega))⟩
theorem passes_ok : ∀ (k f bs : Nat) (Q : List (List T_impl_Value)), Q.length - bs ≤ k → k < f → 0 < bs → bs < 1000000000 → (Q.length < 500000000 ∧ ∀ z ∈ Q, p z) → Runs cf bs Q →
  ∃ W, slices_stableCmpFunc_impl_Value_l1 (Q.length : Int) F f (bs : Int) Q = some W ∧ W.Perm Q ∧ Asc cf W
 | k, 0, bs, Q, _, hf, _, _, _, _ => absurd hf (by omega)
 | k, f + 1, bs, Q, hk, hf, hb, hb2, hn, hr => by
  rw [slices_stableCmpFunc_impl_Value_l1]
  by_cases h : bs < Q.length
  ·obtain ⟨k, rfl⟩ : ∃ k', k = k' + 1 := ⟨k - 1, by omega⟩
   rw [decide_eq_true (by omega), cond_true]
   obtain ⟨W, h1, h2, h3⟩ := pass_ok hF hO bs hb hb2 (slices_stableCmpFunc_impl_Value_l1 (Q.length : Int) F f) Q.length FUEL [] Q (Nat.le_refl _) (by unfold FUEL; omega) ⟨by simp; omega, fun z hz => hn.2 z (by simpa using hz)⟩ hr
   have w2 : w64 (2 * (bs : Int)) = ((([] : List (List T_impl_Value)).length + 2 * bs : Nat) : Int) := by rw [w64_of (by omega) (by omega)]; simp
   have q1 : (Q.length : Int) = ((([] : List (List T_impl_Value)).length + Q.length : Nat) : Int) := by simp
   have w3 : w64 ((bs : Int) * 2) = ((2 * bs : Nat) : Int) := by rw [w64_of (by omega) (by omega)]; omega
   have lW := h2.length_eq
   obtain ⟨W2, g1, g2, g3⟩ := passes_ok k f (2 * bs) W (by omega) (by omega) (by omega) (by omega) ⟨by omega, fun z hz => hn.2 z (h2.mem_iff.1 hz)⟩ h3
   refine ⟨W2, ?_, g2.trans h2, g3⟩
   have h1' : slices_stableCmpFunc_impl_Value_l2 (Q.length : Int) F (bs : Int) (slices_stableCmpFunc_impl_Value_l1 (Q.length : Int) F f) FUEL 0 (w64 (2 * (bs : Int))) Q = slices_stableCmpFunc_impl_Value_l1 (Q.length : Int) F f (w64 ((bs : Int) * 2)) W := by
    rw [w2]
    simp only [List.length_nil, Nat.zero_add, List.nil_append] at h1 ⊢
    exact h1
   rw [h1', w3, ← lW]
   exact g1
  ·rw [decide_eq_false (by omega), cond_false]
   exact ⟨Q, rfl, List.Perm.refl _, hr.asc (by omega)⟩
theorem stable_ok (Q : List (List T_impl_Value)) (hn : Q.length < 500000000 ∧ ∀ z ∈ Q, p z) : ∃ W, slices_SortStableFunc_impl_Value_impl_Value_s3 Q F = some W ∧ W.Perm Q ∧ Asc cf W := by
 obtain ⟨W, h1, h2, h3⟩ := blocks_ok hF hO Q.length FUEL [] Q (Nat.le_refl _) (by unfold FUEL; omega) ⟨by simp; omega, fun z hz => hn.2 z (by simpa using hz)⟩
 have lW := h2.length_eq
 obtain ⟨W2, g1, g2, g3⟩ := passes_ok hF hO Q.length FUEL 20 W (by omega) (by unfold FUEL; omega) (by omega) (by omega) ⟨by omega, fun z hz => hn.2 z (h2.mem_iff.1 hz)⟩ h3
 have hp := g2.trans h2
 have lW2 := hp.length_eq
 refine ⟨W2, ?_, hp, g3⟩
 have e : (W2.length == Q.length) = true := by rw [lW2]; exact beq_self_eq_true _
 have h1' : slices_stableCmpFunc_impl_Value_l0 (Q.length : Int) F FUEL 0 20 Q = slices_stableCmpFunc_impl_Value_l1 (Q.length : Int) F FUEL 20 W := by
  simp only [List.length_nil, Nat.zero_add, List.nil_append] at h1
  exact h1
 have g1' : slices_stableCmpFunc_impl_Value_l1 (Q.length : Int) F FUEL 20 W = some W2 := by
  rw [← lW]
  exact g1
 unfold slices_SortStableFunc_impl_Value_impl_Value_s3 slices_SortStableFunc_impl_Value_impl_Value_s3_w slices_stableCmpFunc_impl_Value slices_stableCmpFunc_impl_Value_w
 rw [h1', g1', Option.bind_some, e, cond_true, Option.bind_some, Option.bind_some, e, cond_true]
end
end Go.D
set_option linter.unusedVariables false
namespace Go.D
theorem impl_deltaV {a b : RowL} (ha : SmRs a) (hb : SmRs b) (hl : a.length + b.length ≤ 2000000) : impl_DeltaOf a b = some (deltaV a b) := by
 unfold impl_DeltaOf deltaV
 rw [impl_allR ha, Option.bind_some]
 cases va : allR a with
 | false => rfl
 | true =>
  rw [Bool.not_true, cond_false, impl_allR hb, Option.bind_some]
  cases vb : allR b with
  | false => rfl
  | true =>
   have hs := sm_app ha hb (by omega)
   have ho := once_sm hs
   have hol := once_len (a ++ b)
   rw [List.length_append] at hol
   have hok : ∀ r ∈ once (a ++ b), rowOk r = true := fun r hr => (List.mem_append.1 (once_mem.1 hr)).elim (allR_mem va r) (allR_mem vb r)
   simp only [impl_DeltaOf_j0, Bool.not_true, cond_false, Bool.and_self, cond_true]
   unfold impl_deltaOf
   rw [impl_concatR ha.1 hb.1, Option.bind_some, impl_onceR hs, Option.bind_some]
   obtain ⟨W, h1, h2, h3⟩ := stable_ok (p := fun r => Sm r.length) (cf := ordR) (F := impl_rowOrder) (fun x y hx _ => impl_ordR hx) ord_row (once (a ++ b)) ⟨by omega, fun z hz => (ho.2 z hz).1⟩
   have hW : W = sortedV (once (a ++ b)) := asc_uniq (h2.trans (sortedV_perm _).symm) h3 (sortedV_asc hok)
   rw [h1, Option.bind_some, hW, impl_deltaL ha hb (by rw [(sortedV_perm _).length_eq]; omega)]
   rfl
end Go.D
set_option linter.unusedVariables false
namespace Go.D
structure RdOk (n : Int) (r : T_spec_l20Rd) : Prop where
 len : r.fB.length ≤ 2000
 lo : 0 ≤ r.fP
 hi : r.fP ≤ n
theorem RdOk.up {n m : Int} {r : T_spec_l20Rd} (h : RdOk n r) (hm : n ≤ m) : RdOk m r := ⟨h.len, h.lo, by have := h.hi; omega⟩
theorem remI_pos {a b : Int} (ha : 0 ≤ a) (hb : 0 < b) : ∃ k, remI a b = some k ∧ 0 ≤ k ∧ k < b := by
 unfold remI
 rw [if_neg (by omega)]
 refine ⟨_, rfl, ?_, ?_⟩
 ·rw [Int.tmod_eq_emod_of_nonneg ha]
  exact Int.emod_nonneg _ (by omega)
 ·rw [Int.tmod_eq_emod_of_nonneg ha]
  exact Int.emod_lt_of_pos _ hb
theorem quoI_pos {a b : Int} (ha : 0 ≤ a) (ha2 : a ≤ 4611686018427387904) (hb : 0 < b) : ∃ k, quoI a b = some k ∧ 0 ≤ k ∧ k ≤ a := by
 unfold quoI
 rw [if_neg (by omega), Int.tdiv_eq_ediv_of_nonneg ha]
 have h0 : 0 ≤ a / b := Int.ediv_nonneg ha (by omega)
 have h1 : a / b ≤ a := Int.ediv_le_self _ ha
 rw [w64_of (by omega) (by omega)]
 exact ⟨_, rfl, h0, h1⟩
theorem xor_w {a b : Int} (ha : 0 ≤ a) (hb : 0 ≤ b) (ha2 : a < 4611686018427387904) (hb2 : b < 4611686018427387904) : 0 ≤ w64 (((BitVec.ofInt 64 a ^^^ BitVec.ofInt 64 b).toNat : Nat) : Int) := by
 obtain ⟨m, rfl⟩ := Int.eq_ofNat_of_zero_le ha
 obtain ⟨n, rfl⟩ := Int.eq_ofNat_of_zero_le hb
 have hm : m < 2 ^ 62 := by omega
 have hn : n < 2 ^ 62 := by omega
 have e : (BitVec.ofInt 64 (m : Int) ^^^ BitVec.ofInt 64 (n : Int)).toNat = m ^^^ n := by
  rw [BitVec.toNat_xor, BitVec.ofInt_natCast, BitVec.ofInt_natCast, BitVec.toNat_ofNat, BitVec.toNat_ofNat, Nat.mod_eq_of_lt (by omega), Nat.mod_eq_of_lt (by omega)]
 rw [e]
 have := Nat.xor_lt_two_pow hm hn
 rw [w64_of (by omega) (by omega)]
 omega
theorem pick_ok {n : Int} {r : T_spec_l20Rd} (h : RdOk n r) (hn : n ≤ 1000000) (a : Int) : ∃ k r', spec_l20Rd_pick r a = some (k, r') ∧ RdOk (n + 1) r' ∧ 0 ≤ k ∧ (a < 1 → k = 0) ∧ (1 ≤ a → k < a) := by
 obtain ⟨fB, fP⟩ := r
 obtain ⟨h1, h2, h3⟩ := h
 simp only at h1 h2 h3
 have w1 : w64 (fP + 1) = fP + 1 := w64_of (by omega) (by omega)
 have w2 : w64 (fP + 1 - 1) = fP := by rw [show fP + 1 - 1 = fP by omega]; exact w64_of (by omega) (by omega)
 have hr : RdOk (n + 1) ⟨fB, fP + 1⟩ := ⟨h1, by simp only; omega, by simp only; omega⟩
 unfold spec_l20Rd_pick
 by_cases ha : a < 1
 ·rw [decide_eq_true ha, cond_true]
  unfold spec_l20Rd_pick_j0
  simp only [cond_true, w1]
  exact ⟨0, _, rfl, hr, Int.le_refl _, fun _ => rfl, fun h => by omega⟩
 rw [decide_eq_false ha, cond_false]
 unfold spec_l20Rd_pick_j0
 simp only [w1, w2]
 by_cases hl : fB.length = 0
 ·have : ((fB.length : Int) == 0) = true := by rw [hl]; rfl
  rw [this, cond_true]
  exact ⟨0, _, rfl, hr, Int.le_refl _, fun _ => rfl, fun h => by omega⟩
 have : ((fB.length : Int) == 0) = false := by
  rw [beq_eq_false_iff_ne]
  omega
 rw [this, cond_false]
 have hpos : (0 : Int) < fB.length := by omega
 by_cases hp : fP < (fB.length : Int)
 ·rw [decide_eq_true hp, cond_true]
  obtain ⟨b, hb, _⟩ := getI_lt (xs := fB) h2 hp
  have hb8 : b.toNat < 256 := b.toNat_lt
  have w3 : w64 (b.toNat : Int) = b.toNat := w64_of (by omega) (by omega)
  obtain ⟨k, hk, k0, k1⟩ := remI_pos (a := (b.toNat : Int)) (b := a) (by omega) (by omega)
  rw [hb, Option.bind_some, w3, hk, Option.bind_some]
  exact ⟨k, _, rfl, hr, k0, fun h => by omega, fun _ => k1⟩
 ·rw [decide_eq_false hp, cond_false]
  have w4 : w64 (fP * 7) = fP * 7 := w64_of (by omega) (by omega)
  have w5 : w64 (fP * 7 + 3) = fP * 7 + 3 := w64_of (by omega) (by omega)
  have w6 : w64 (fP * 29) = fP * 29 := w64_of (by omega) (by omega)
  obtain ⟨k1, e1, l1, u1⟩ := remI_pos (a := fP) (b := (fB.length : Int)) h2 hpos
  obtain ⟨b1, g1, _⟩ := getI_lt (xs := fB) l1 u1
  obtain ⟨k2, e2, l2, u2⟩ := remI_pos (a := fP * 7 + 3) (b := (fB.length : Int)) (by omega) hpos
  obtain ⟨b2, g2, _⟩ := getI_lt (xs := fB) l2 u2
  obtain ⟨k3, e3, l3, u3⟩ := quoI_pos (a := fP) (b := (fB.length : Int)) h2 (by omega) hpos
  have hb1 : b1.toNat < 256 := b1.toNat_lt
  have hb2 : b2.toNat < 256 := b2.toNat_lt
  have w7 : w64 (b1.toNat : Int) = b1.toNat := w64_of (by omega) (by omega)
  have w8 : w64 (b2.toNat : Int) = b2.toNat := w64_of (by omega) (by omega)
  have w9 : w64 ((b1.toNat : Int) * 131) = (b1.toNat : Int) * 131 := w64_of (by omega) (by omega)
  have w10 : w64 ((b2.toNat : Int) * 1117) = (b2.toNat : Int) * 1117 := w64_of (by omega) (by omega)
  have w11 : w64 ((b1.toNat : Int) * 131 + (b2.toNat : Int) * 1117) = (b1.toNat : Int) * 131 + (b2.toNat : Int) * 1117 := w64_of (by omega) (by omega)
  have w12 : w64 ((b1.toNat : Int) * 131 + (b2.toNat : Int) * 1117 + fP * 29) = (b1.toNat : Int) * 131 + (b2.toNat : Int) * 1117 + fP * 29 := w64_of (by omega) (by omega)
  have w13 : w64 (k3 * 53) = k3 * 53 := w64_of (by omega) (by omega)
  have w14 : w64 ((b1.toNat : Int) * 131 + (b2.toNat : Int) * 1117 + fP * 29 + k3 * 53) = (b1.toNat : Int) * 131 + (b2.toNat : Int) * 1117 + fP * 29 + k3 * 53 := w64_of (by omega) (by omega)
  simp only [w4, w5, w6, e1, g1, e2, g2, e3, Option.bind_some, w7, w8, w9, w10, w11, w12, w13, w14]
  generalize hx : (b1.toNat : Int) * 131 + (b2.toNat : Int) * 1117 + fP * 29 + k3 * 53 = x
  have x0 : 0 ≤ x := by omega
  have x1 : x ≤ 100000000 := by omega
  have y0 : 0 ≤ x.tdiv 64 := by rw [Int.tdiv_eq_ediv_of_nonneg x0]; omega
  have y1 : x.tdiv 64 ≤ x := by rw [Int.tdiv_eq_ediv_of_nonneg x0]; omega
  have w15 : w64 (x.tdiv 64) = x.tdiv 64 := w64_of (by omega) (by omega)
  rw [w15]
  obtain ⟨k, hk, k0, kk⟩ := remI_pos (b := a) (xor_w (a := x) (b := x.tdiv 64) x0 y0 (by omega) (by omega)) (by omega)
  rw [hk, Option.bind_some]
  exact ⟨k, _, rfl, hr, k0, fun h => by omega, fun _ => kk⟩
theorem open_ok {b : List UInt8} (hb : b.length ≤ 1048576) : ∃ r, spec_l20Open b = some r ∧ RdOk 0 r := by
 unfold spec_l20Open spec_l20Open_j0
 by_cases h : (b.length : Int) > 2000
 ·rw [decide_eq_true h, cond_true]
  have e : slI b none (some 2000) none = some (b.take 2000) := by
   unfold slI
   rw [if_pos (by simp only [Option.getD_none, Option.getD_some]; omega)]
   simp
  rw [e, Option.bind_some]
  exact ⟨_, rfl, by simp only [List.length_take]; omega, Int.le_refl _, Int.le_refl _⟩
 ·rw [decide_eq_false h, cond_false]
  exact ⟨_, rfl, by simp only; omega, Int.le_refl _, Int.le_refl _⟩
end Go.D
set_option linter.unusedVariables false
namespace Go.D
def Wp {α : Type} (m : Option (α × T_spec_l20Rd)) (Q : α → T_spec_l20Rd → Prop) : Prop := ∃ x r, m = some (x, r) ∧ Q x r
theorem wp_some {α : Type} {x : α} {r : T_spec_l20Rd} {Q : α → T_spec_l20Rd → Prop} (h : Q x r) : Wp (some (x, r)) Q := ⟨x, r, rfl, h⟩
theorem wp_pick {α : Type} {r : T_spec_l20Rd} {a n : Int} {f : Int × T_spec_l20Rd → Option (α × T_spec_l20Rd)} {Q : α → T_spec_l20Rd → Prop} (h : RdOk n r) (hn : n ≤ 1000000)
  (hk : ∀ k r', RdOk (n + 1) r' → 0 ≤ k → (a < 1 → k = 0) → (1 ≤ a → k < a) → Wp (f (k, r')) Q) : Wp ((spec_l20Rd_pick r a).bind f) Q := by
 obtain ⟨k, r', e, h1, h2, h3, h4⟩ := pick_ok h hn a
 rw [e, Option.bind_some]
 exact hk k r' h1 h2 h3 h4
theorem wp_bif {α : Type} {c : Bool} {a b : Option (α × T_spec_l20Rd)} {Q : α → T_spec_l20Rd → Prop} (h1 : c = true → Wp a Q) (h2 : c = false → Wp b Q) : Wp (bif c then a else b) Q := by
 cases c with
 | true => exact h1 rfl
 | false => exact h2 rfl
theorem wp_app {α β : Type} {xs ys : List β} {f : List β → Option (α × T_spec_l20Rd)} {Q : α → T_spec_l20Rd → Prop} (h : xs.length + ys.length < 68719476736) (hk : Wp (f (xs ++ ys)) Q) : Wp ((app xs ys).bind f) Q := by
 rw [app_lt h, Option.bind_some]
 exact hk
theorem wp_getI {α β : Type} {xs : List β} {i : Int} {f : β → Option (α × T_spec_l20Rd)} {Q : α → T_spec_l20Rd → Prop} (h0 : 0 ≤ i) (h1 : i < xs.length) (hk : ∀ x ∈ xs, Wp (f x) Q) : Wp ((getI xs i).bind f) Q := by
 obtain ⟨x, h, hx⟩ := getI_lt h0 h1
 rw [h, Option.bind_some]
 exact hk x (List.mem_of_getElem? hx)
theorem wp_then {α β : Type} {m : Option (β × T_spec_l20Rd)} {f : β × T_spec_l20Rd → Option (α × T_spec_l20Rd)} {P : β → T_spec_l20Rd → Prop} {Q : α → T_spec_l20Rd → Prop} (h : Wp m P) (hk : ∀ x r, P x r → Wp (f (x, r)) Q) : Wp (m.bind f) Q := by
 obtain ⟨x, r, e, hp⟩ := h
 rw [e, Option.bind_some]
 exact hk x r hp
theorem loop_down {σ β : Type} {L : Nat → Int → σ → Option (β × T_spec_l20Rd)} {Q : β → T_spec_l20Rd → Prop} (Inv : Nat → σ → Prop)
  (h : ∀ (f k : Nat) (s : σ), k ≤ 1000000 → w64 (((k + 1 : Nat) : Int) - 1) = (k : Int) → Inv (k + 1) s → (∀ s', Inv k s' → Wp (L f (k : Int) s') Q) → Wp (L (f + 1) ((k + 1 : Nat) : Int) s) Q)
  (he : ∀ (f : Nat) (s : σ), Inv 0 s → Wp (L (f + 1) 0 s) Q) (k : Nat) (s : σ) (hI : Inv k s) (hk : k ≤ 1000000) : Wp (L FUEL (k : Int) s) Q := by
 have main : ∀ (k f : Nat) (s : σ), k < f → k ≤ 1000000 → Inv k s → Wp (L f (k : Int) s) Q := by
  intro k
  induction k with
  | zero =>
   intro f s hf _ hI
   obtain ⟨f, rfl⟩ : ∃ f', f = f' + 1 := ⟨f - 1, by omega⟩
   exact he f s hI
  | succ k ih =>
   intro f s hf hk hI
   obtain ⟨f, rfl⟩ : ∃ f', f = f' + 1 := ⟨f - 1, by omega⟩
   exact h f k s (by omega) (by rw [w64_of] <;> omega) hI fun s' hI' => ih f s' (by omega) (by omega) hI'
 exact main k FUEL s (by unfold FUEL; omega) hk hI
end Go.D
set_option linter.unusedVariables false
namespace Go.D
end Go.D
set_option linter.unusedVariables false
namespace Go.D
theorem loop_up {γ σ β : Type} {xs : List γ} {L : Nat → Int → σ → Option (β × T_spec_l20Rd)} {Q : β → T_spec_l20Rd → Prop} (Inv : Nat → σ → Prop) (hlen : xs.length ≤ 1000000)
  (h : ∀ (f i : Nat) (s : σ) (v : γ), i < xs.length → xs[i]? = some v → w64 ((i : Int) + 1) = ((i + 1 : Nat) : Int) → Inv i s → (∀ s', Inv (i + 1) s' → Wp (L f ((i + 1 : Nat) : Int) s') Q) → Wp (L (f + 1) (i : Int) s) Q)
  (he : ∀ (f : Nat) (s : σ), Inv xs.length s → Wp (L (f + 1) (xs.length : Int) s) Q) (s : σ) (h0 : Inv 0 s) : Wp (L FUEL 0 s) Q := by
 have main : ∀ (k f i : Nat) (s : σ), i + k = xs.length → k < f → Inv i s → Wp (L f (i : Int) s) Q := by
  intro k
  induction k with
  | zero =>
   intro f i s hi hf hI
   obtain ⟨f, rfl⟩ : ∃ f', f = f' + 1 := ⟨f - 1, by omega⟩
   have : i = xs.length := by omega
   subst this
   exact he f s hI
  | succ k ih =>
   intro f i s hi hf hI
   obtain ⟨f, rfl⟩ : ∃ f', f = f' + 1 := ⟨f - 1, by omega⟩
   have hlt : i < xs.length := by omega
   exact h f i s xs[i] hlt (List.getElem?_eq_getElem hlt) (succ_w hlt (by omega)) hI fun s' hI' => ih f (i + 1) s' (by omega) (by omega) hI'
 exact main xs.length FUEL 0 s (by omega) (by unfold FUEL; omega) h0
def Sr (m : Nat) (row : List T_impl_Value) : Prop := row.length ≤ m ∧ ∀ v ∈ row, v.fS.size ≤ 10
theorem Sr.sm {m : Nat} {row : List T_impl_Value} (h : Sr m row) (hm : m ≤ 1000) : SmR row := ⟨by have := h.1; omega, fun v hv => by have := h.2 v hv; unfold SmV; omega⟩
theorem Sr.app {m k : Nat} {row r2 : List T_impl_Value} (h : Sr m row) (h2 : Sr k r2) : Sr (m + k) (row ++ r2) := ⟨by have := h.1; have := h2.1; rw [List.length_append]; omega, fun v hv => (List.mem_append.1 hv).elim (h.2 v) (h2.2 v)⟩
theorem Sr.one {v : T_impl_Value} (h : v.fS.size ≤ 10) : Sr 1 [v] := ⟨by simp, fun u hu => by simp at hu; subst hu; exact h⟩
theorem own_ok {a : List T_impl_Value} (ha : Sr 9 a) : spec_l3Own a = some a := by
 unfold spec_l3Own
 rw [app_lt (by have := ha.1; simp; omega), List.nil_append, Option.bind_some]
end Go.D
set_option linter.unusedVariables false
namespace Go.D
end Go.D
set_option linter.unusedVariables false
namespace Go.D
def Srn (n : Nat) (rows : List (List T_impl_Value)) : Prop := rows.length ≤ n ∧ ∀ r ∈ rows, Sr 9 r
theorem Srn.app {m k : Nat} {a b : List (List T_impl_Value)} (h : Srn m a) (h2 : Srn k b) : Srn (m + k) (a ++ b) := ⟨by have := h.1; have := h2.1; rw [List.length_append]; omega, fun v hv => (List.mem_append.1 hv).elim (h.2 v) (h2.2 v)⟩
theorem Srn.up {m k : Nat} {a : List (List T_impl_Value)} (h : Srn m a) (hm : m ≤ k) : Srn k a := ⟨Nat.le_trans h.1 hm, h.2⟩
theorem Srn.sm {m : Nat} {a : List (List T_impl_Value)} (h : Srn m a) (hm : m ≤ 1000) : SmRs a := ⟨by have := h.1; omega, fun r hr => (h.2 r hr).sm (by omega)⟩
abbrev PairT := (List T_impl_Column) × (List T_impl_Column) × (List (List T_impl_Value)) × (List (List T_impl_Value)) × Int × Int
structure PairOk (x : PairT) : Prop where
 a1 : 1 ≤ x.1.length
 a2 : x.1.length ≤ 6
 b1 : 1 ≤ x.2.1.length
 b2 : x.2.1.length ≤ 6
 ra : Srn 12 x.2.2.1
 rb : Srn 7 x.2.2.2.1
end Go.D
set_option linter.unusedVariables false
namespace Go.D
theorem wp_odd0 {α : Type} {r : T_spec_l20Rd} {f : Bool × T_spec_l20Rd → Option (α × T_spec_l20Rd)} {Q : α → T_spec_l20Rd → Prop} (hk : Wp (f (false, r)) Q) : Wp ((spec_l20Rd_odd r 0).bind f) Q := hk
def KC (cs : List T_impl_Column) : Prop := ∀ c ∈ cs, inR c.fKind 1 3 = true
theorem KC.app {a b : List T_impl_Column} (h : KC a) (h2 : KC b) : KC (a ++ b) := fun c hc => (List.mem_append.1 hc).elim (h c) (h2 c)
theorem KC.take {a : List T_impl_Column} (h : KC a) (n : Nat) : KC (a.take n) := fun c hc => h c (List.mem_of_mem_take hc)
structure FitR (cs : List T_impl_Column) (r : List T_impl_Value) : Prop where
 l : r.length = cs.length
 v : ∀ v ∈ r, valOk v = true
 z : ((r.zip cs).all fun p => fits p.2 p.1) = true
theorem FitR.snoc {cs : List T_impl_Column} {r : List T_impl_Value} {i : Nat} {c : T_impl_Column} {v : T_impl_Value} (h : FitR (cs.take i) r) (hc : cs[i]? = some c) (hv : valOk v = true) (hf : fits c v = true) : FitR (cs.take (i + 1)) (r ++ [v]) := by
 have e : cs.take (i + 1) = cs.take i ++ [c] := by rw [List.take_add_one, hc]; rfl
 rw [e]
 refine ⟨by rw [List.length_append, List.length_append, h.l]; rfl, fun u hu => ?_, ?_⟩
 ·rcases List.mem_append.1 hu with hu | hu
  ·exact h.v u hu
  ·have : u = v := by simpa using hu
   rw [this]; exact hv
 ·rw [List.zip_append h.l, List.all_append, h.z]
  simpa using hf
theorem FitR.rowFits {cs : List T_impl_Column} {r : List T_impl_Value} (h : FitR cs r) (hc : colsOk cs = true) : rowFits cs r = true := by
 have hl : cs.length ≤ 4 := by
  unfold colsOk at hc
  simp only [Bool.and_eq_true, decide_eq_true_eq] at hc
  exact hc.2
 unfold Go.D.rowFits rowOk
 rw [hc, h.z, List.all_eq_true.2 h.v, decide_eq_true (show r.length ≤ 4 by rw [h.l]; exact hl), h.l, beq_self_eq_true]
 rfl
theorem like_fit {n : Int} {r : T_spec_l20Rd} (h : RdOk n r) (hn : n ≤ 900000) {c : T_impl_Column} (hc : inR c.fKind 1 3 = true) : Wp (spec_l20Like r c) fun v r' => RdOk (n + 2) r' ∧ v.fS.size ≤ 2 ∧ valOk v = true ∧ fits c v = true := by
 have e0 : (ByteArray.mk #[]).size = 0 := rfl
 have key : ∀ (m : Int) (r : T_spec_l20Rd) (b : Bool), RdOk m r → m ≤ n + 1 → (b = true → c.fEmpty = true) → Wp (spec_l20Like_j0 c b r) fun v r' => RdOk (n + 2) r' ∧ v.fS.size ≤ 2 ∧ valOk v = true ∧ fits c v = true := by
  intro m r b h hm hb
  unfold spec_l20Like_j0
  refine wp_bif (fun hbt => wp_some ⟨h.up (by omega), by simp [e0], by unfold valOk; simp, ?_⟩) fun _ => wp_bif (fun hk => ?_) fun hk1 => wp_bif (fun hk => ?_) fun hk2 => ?_
  ·unfold fits; rw [hb hbt]; simp
  ·refine wp_pick h (by omega) fun k r1 h1 p0 _ p1 => wp_some ⟨h1.up (by omega), by simp [e0], ?_, ?_⟩
   ·have := p1 (by omega)
    have : inR k (-9999) 9999 = true := by unfold inR; simp; omega
    show (inR k (-9999) 9999 && _) = true
    rw [this, Bool.true_and]
    exact beq_self_eq_true _
   ·unfold fits; rw [eq_of_beq hk]; rfl
  ·refine wp_pick h (by omega) fun k r1 h1 p0 _ p1 => wp_getI p0 (by have := p1 (by omega); simp; omega) fun s hs => wp_some ⟨h1.up (by omega), ?_, ?_, ?_⟩
   ·simp only [List.mem_cons, List.not_mem_nil, or_false] at hs
    rcases hs with rfl | rfl | rfl | rfl <;> decide
   ·simp only [List.mem_cons, List.not_mem_nil, or_false] at hs
    rcases hs with rfl | rfl | rfl | rfl <;> rfl
   ·unfold fits; rw [eq_of_beq hk]; rfl
  ·refine wp_pick h (by omega) fun k r1 h1 p0 _ p1 => wp_some ⟨h1.up (by omega), by simp [e0], ?_, ?_⟩
   ·have := p1 (by omega)
    have : inR k 0 1 = true := by unfold inR; simp; omega
    show (inR k 0 1 && _) = true
    rw [this, Bool.true_and]
    exact beq_self_eq_true _
   ·have : c.fKind = 3 := by
     unfold inR at hc
     simp at hc hk1 hk2
     omega
    unfold fits; rw [this]; rfl
 unfold spec_l20Like
 refine wp_bif (fun he => wp_pick h (by omega) fun k r1 h1 _ _ _ => key _ _ _ h1 (by omega) fun _ => he) fun _ => key _ _ _ h (by omega) (fun h => by cases h)
theorem row_fit {n : Int} {r : T_spec_l20Rd} (h : RdOk n r) (hn : n ≤ 700000) {cs : List T_impl_Column} (hc : cs.length ≤ 6) (hk : KC cs) : Wp (spec_l20Fit r cs 0) fun row r' => RdOk (n + 41) r' ∧ Sr 9 row ∧ FitR cs row := by
 unfold spec_l20Fit
 have e0 : (ByteArray.mk #[]).size = 0 := rfl
 exact loop_up (xs := cs) (L := fun f i (s : T_spec_l20Rd × List T_impl_Value) => spec_l20Fit_l0 cs 0 f i s.1 s.2) (Q := fun row r' => RdOk (n + 41) r' ∧ Sr 9 row ∧ FitR cs row)
  (fun i s => RdOk (n + 2 * i) s.1 ∧ Sr i s.2 ∧ s.2.length = i ∧ FitR (cs.take i) s.2) (by omega)
  (fun f i s c hi hv hw hI hrec => by
   obtain ⟨r, row⟩ := s
   obtain ⟨h1, h2, h3, h4⟩ := hI
   simp only at h1 h2 h3 h4 ⊢
   rw [spec_l20Fit_l0, decide_eq_true (by omega), cond_true, getI_nat, hv, Option.bind_some]
   refine wp_then (like_fit h1 (by omega) (hk c (List.mem_of_getElem? hv))) fun v r1 hq => wp_app (by simp; omega) ?_
   simp only [hw]
   exact hrec (r1, _) ⟨hq.1.up (by omega), h2.app (.one (Nat.le_trans hq.2.1 (by omega))), by simp; omega, h4.snoc hv hq.2.2.1 hq.2.2.2⟩)
  (fun f s hI => by
   obtain ⟨r, row⟩ := s
   obtain ⟨h1, h2, h3, h4⟩ := hI
   simp only at h1 h2 h3 h4 ⊢
   rw [List.take_length] at h4
   rw [spec_l20Fit_l0, decide_eq_false (Int.lt_irrefl _), cond_false]
   exact wp_odd0 (wp_some ⟨h1.up (by omega), ⟨by omega, h2.2⟩, h4⟩)) (r, []) ⟨h.up (by simp), ⟨by simp, fun v hv => by cases hv⟩, rfl, ⟨rfl, fun v hv => (by cases hv), rfl⟩⟩
def Fn (n : Nat) (cs : List T_impl_Column) (rows : List (List T_impl_Value)) : Prop := rows.length ≤ n ∧ ∀ r ∈ rows, Sr 9 r ∧ FitR cs r
theorem Fn.app {m k : Nat} {cs : List T_impl_Column} {a b : List (List T_impl_Value)} (h : Fn m cs a) (h2 : Fn k cs b) : Fn (m + k) cs (a ++ b) := ⟨by have := h.1; have := h2.1; rw [List.length_append]; omega, fun v hv => (List.mem_append.1 hv).elim (h.2 v) (h2.2 v)⟩
theorem Fn.rows {n : Nat} {cs : List T_impl_Column} {rows : List (List T_impl_Value)} (h : Fn n cs rows) (hc : colsOk cs = true) : rowsOk cs rows = true := by
 unfold rowsOk
 rw [hc, List.all_eq_true.2 fun r hr => (h.2 r hr).2.rowFits hc]
 rfl
theorem bag_fit {n : Int} {r : T_spec_l20Rd} (h : RdOk n r) (hn : n ≤ 600000) {cs : List T_impl_Column} (hc : cs.length ≤ 6) (hk : KC cs) : Wp (spec_l20Bag r cs 0) fun rows r' => RdOk (n + 260) r' ∧ Fn 6 cs rows := by
 unfold spec_l20Bag
 refine wp_pick h (by omega) fun v r1 h1 v0 _ v1 => ?_
 have v1 := v1 (by omega)
 have e : v = ((v.toNat : Nat) : Int) := by omega
 simp only
 rw [e]
 exact loop_down (L := fun f i (s : T_spec_l20Rd × List (List T_impl_Value)) => spec_l20Bag_l0 cs 0 f i s.1 s.2) (Q := fun rows r' => RdOk (n + 260) r' ∧ Fn 6 cs rows)
  (fun k s => k ≤ 6 ∧ RdOk (n + 1 + 43 * (6 - k)) s.1 ∧ s.2.length + k ≤ 6 ∧ ∀ r ∈ s.2, Sr 9 r ∧ FitR cs r)
  (fun f k s hkk hw hI hrec => by
   obtain ⟨r, rows⟩ := s
   obtain ⟨i0, i1, i2, i3⟩ := hI
   simp only at i1 i2 i3 ⊢
   have add : ∀ (m : Int) (r' : T_spec_l20Rd) (row : List T_impl_Value), RdOk m r' → m ≤ n + 1 + 43 * (6 - (k + 1 : Nat)) + 43 → (Sr 9 row ∧ FitR cs row) → Wp (spec_l20Bag_j1 ((k + 1 : Nat) : Int) (spec_l20Bag_l0 cs 0 f) r' (rows ++ [row])) fun rows r' => RdOk (n + 260) r' ∧ Fn 6 cs rows := by
    intro m r' row hr hm hs
    unfold spec_l20Bag_j1
    rw [hw]
    refine hrec (r', _) ⟨by omega, hr.up (by omega), by simp; omega, fun u hu => ?_⟩
    rcases List.mem_append.1 hu with hu | hu
    ·exact i3 u hu
    ·have : u = row := by simpa using hu
     rw [this]; exact hs
   have j2 : ∀ (m : Int) (r' : T_spec_l20Rd) (b : Bool), RdOk m r' → m ≤ n + 1 + 43 * (6 - (k + 1 : Nat)) + 1 → (b = true → 0 < rows.length) → Wp (spec_l20Bag_j2 cs 0 ((k + 1 : Nat) : Int) rows (spec_l20Bag_l0 cs 0 f) b r') fun rows r' => RdOk (n + 260) r' ∧ Fn 6 cs rows := by
    intro m r' b hr hm hb
    unfold spec_l20Bag_j2
    refine wp_bif (fun hbt => ?_) fun _ => ?_
    ·have := hb hbt
     refine wp_pick hr (by omega) fun k2 r3 g3 p0 _ p1 => wp_getI p0 (p1 (by omega)) fun row hrow => ?_
     rw [own_ok (i3 row hrow).1, Option.bind_some]
     exact wp_app (by simp; omega) (add _ _ _ g3 (by omega) (i3 row hrow))
    ·exact wp_then (row_fit hr (by omega) hc hk) fun row r3 hq => wp_app (by simp; omega) (add _ _ _ hq.1 (by omega) hq.2)
   rw [spec_l20Bag_l0, decide_eq_true (by omega), cond_true]
   refine wp_bif (fun hp => ?_) fun _ => j2 _ _ _ i1 (by omega) (fun h => by cases h)
   have hp := of_decide_eq_true hp
   exact wp_pick i1 (by omega) fun k2 r3 g3 _ _ _ => j2 _ _ _ g3 (by omega) (fun _ => by omega))
  (fun f s hI => by
   obtain ⟨r, rows⟩ := s
   obtain ⟨i0, i1, i2, i3⟩ := hI
   simp only at i1 i2 i3 ⊢
   rw [spec_l20Bag_l0, decide_eq_false (by omega), cond_false]
   exact wp_some ⟨i1.up (by omega), by omega, i3⟩)
  v.toNat (r1, []) ⟨by omega, h1.up (by omega), by simp; omega, fun r hr => by cases hr⟩ (by omega)
structure PairFit (x : PairT) : Prop where
 a1 : 1 ≤ x.1.length
 a2 : x.1.length ≤ 6
 b1 : 1 ≤ x.2.1.length
 b2 : x.2.1.length ≤ 6
 ka : KC x.1
 kb : KC x.2.1
 ra : Fn 12 x.1 x.2.2.1
 rb : Fn 6 x.2.1 x.2.2.2.1
end Go.D
set_option linter.unusedVariables false
namespace Go.D
open Go.Proofs
theorem rd_5 : Rd Try.prog 5 UInt8 u8W := rd_u8 Try.underlying5 (by kernel_rfl)
theorem rd_22 : Rd Try.prog 22 (List UInt8) (listW u8W) := rd_slice Try.underlying22 (by kernel_rfl) rd_5
end Go.D
set_option linter.unusedVariables false
namespace Go.D
theorem clipTl_R {xs : List Tal} : slices_Clip_impl_Tally_impl_Tally_R xs = some xs := by
 unfold slices_Clip_impl_Tally_impl_Tally_R slI
 simp
theorem clipTl {xs : List Tal} : slices_Clip_impl_Tally_impl_Tally xs = some xs := by
 unfold slices_Clip_impl_Tally_impl_Tally slI
 simp
theorem impl_talsR {xs : List Tal} (h : SmTl xs) : impl_tallies_R xs = some xs := by
 have hl := h.1
 unfold impl_tallies_R
 have := loop_opt (xs := xs) (L := fun f i (s : List Tal) => impl_tallies_R_l0 xs f i s) (fun rest s => some (s ++ rest)) (fun i s => s.length = i) (by omega)
  (fun f i s v hi hv hw hI => by
   refine .inr ⟨s ++ [v], by simp; omega, ?_, by simp⟩
   rw [impl_tallies_R_l0, decide_eq_true (by omega), cond_true, getI_nat, hv, Option.bind_some, clone_v0 (by have := (h.2 v (List.mem_of_getElem? hv)).1; omega), Option.bind_some, app_lt (by simp; omega), Option.bind_some, hw])
  (fun f s hI => by
   rw [impl_tallies_R_l0, decide_eq_false (Int.lt_irrefl _), cond_false, clipTl_R]
   simp) (s := []) rfl
 exact this
theorem impl_talsL0 {xs : List Tal} (hl : xs.length ≤ 4194304) (h : ∀ t ∈ xs, SmR t.fKey) : impl_tallies_L0 xs = some xs := by
 unfold impl_tallies_L0
 have := loop_opt (xs := xs) (L := fun f i (s : List Tal) => impl_tallies_L0_l0 xs f i s) (fun rest s => some (s ++ rest)) (fun i s => s.length = i) (by omega)
  (fun f i s v hi hv hw hI => by
   refine .inr ⟨s ++ [v], by simp; omega, ?_, by simp⟩
   rw [impl_tallies_L0_l0, decide_eq_true (by omega), cond_true, getI_nat, hv, Option.bind_some, clone_v0 (by have := (h v (List.mem_of_getElem? hv)).1; omega), Option.bind_some, app_lt (by simp; omega), Option.bind_some, hw])
  (fun f s hI => by
   rw [impl_tallies_L0_l0, decide_eq_false (Int.lt_irrefl _), cond_false, clipTl]
   simp) (s := []) rfl
 exact this
theorem impl_talsP {xs : List Tal} (hl : xs.length ≤ 4194304) (h : ∀ t ∈ xs, SmR t.fKey) : impl_tallies xs = some xs := by
 unfold impl_tallies
 have := loop_opt (xs := xs) (L := fun f i (s : List Tal) => impl_tallies_l0 xs f i s) (fun rest s => some (s ++ rest)) (fun i s => s.length = i) (by omega)
  (fun f i s v hi hv hw hI => by
   refine .inr ⟨s ++ [v], by simp; omega, ?_, by simp⟩
   rw [impl_tallies_l0, decide_eq_true (by omega), cond_true, getI_nat, hv, Option.bind_some, clone_v0 (by have := (h v (List.mem_of_getElem? hv)).1; omega), Option.bind_some, app_lt (by simp; omega), Option.bind_some, hw])
  (fun f s hI => by
   rw [impl_tallies_l0, decide_eq_false (Int.lt_irrefl _), cond_false, clipTl]
   simp) (s := []) rfl
 exact this
theorem impl_turnsL {ds : List T_impl_Delta} (hdl : ds.length ≤ 1048576) (hd : ∀ d ∈ ds, SmR d.fRow) {xs : List Tal} (h : Fine xs 1048576) : impl_TalliesTurned_l0 ds FUEL 0 xs = some (turnsV ds xs) := by
 have := loop_opt (xs := ds) (L := fun f i (s : List Tal) => impl_TalliesTurned_l0 ds f i s) (fun rest s => some (turnsV rest s)) (fun i s => Fine s (1048576 + i)) (by omega)
  (fun f i s v hi hv hw hI => by
   have hm := List.mem_of_getElem? hv
   have hsl := hI.len
   obtain ⟨t1, t2⟩ := (talsOk_iff s).1 hI.ok
   have st : impl_TalliesTurned_l0 ds (f + 1) i s = bif dT v then (bif talsOk (turnV (tOf v.fRow v.fMany) s) then impl_TalliesTurned_l0 ds f ((i + 1 : Nat) : Int) (turnV (tOf v.fRow v.fMany) s) else some ([], false)) else some ([], false) := by
    rw [impl_TalliesTurned_l0, decide_eq_true (by omega), cond_true, getI_nat, hv, Option.bind_some, impl_cntG (hd v hm), Option.bind_some]
    cases hdt : dT v with
    | false =>
     unfold dT at hdt
     cases hc : cntG v.fRow with
     | false => rfl
     | true =>
      rw [hc, Bool.true_and] at hdt
      rw [Bool.not_true, cond_false]
      cases h0 : v.fMany == 0 with
      | true => rfl
      | false =>
       rw [h0, Bool.not_false, Bool.true_and] at hdt
       rw [cond_false, impl_in, Option.bind_some, hdt]
       rfl
    | true =>
     have hdt' := hdt
     unfold dT at hdt'
     simp only [Bool.and_eq_true, Bool.not_eq_true'] at hdt'
     have hin := hdt'.2.2
     simp only [inR, Bool.and_eq_true, decide_eq_true_eq] at hin
     have e3 := impl_turn (xs := s) ⟨by omega, hI.sm⟩ t2 (fun x hx => by
      obtain ⟨_, _, r1, r2, r3⟩ := talG_row (t1 x hx)
      omega) (hd v hm) hdt'.1 (n := v.fMany) (by simpa using hdt'.2.1) hin.1 hin.2
     obtain ⟨n1, n2⟩ := hI.next hdt (hd v hm)
     rw [hdt'.1, Bool.not_true, cond_false, hdt'.2.1, cond_false, impl_in, Option.bind_some, hdt'.2.2, Bool.not_true]
     unfold impl_TalliesTurned_j1
     rw [cond_false, e3, Option.bind_some, impl_talsOk ⟨by omega, n2⟩, Option.bind_some, hw]
     cases talsOk (turnV (tOf v.fRow v.fMany) s) <;> rfl
   cases hdt : dT v with
   | false =>
    refine .inl ?_
    rw [st, hdt]
    simp only [turnsV, hdt, cond_false]
   | true =>
    cases hk : talsOk (turnV (tOf v.fRow v.fMany) s) with
    | false =>
     refine .inl ?_
     rw [st, hdt, hk]
     simp only [turnsV, hdt, hk, cond_false, cond_true]
    | true =>
     obtain ⟨n1, n2⟩ := hI.next hdt (hd v hm)
     refine .inr ⟨turnV (tOf v.fRow v.fMany) s, ⟨by omega, n2, hk⟩, by rw [st, hdt, hk]; rfl, ?_⟩
     simp only [turnsV, hdt, hk, cond_true])
  (fun f s hI => by
   have hsl := hI.len
   rw [impl_TalliesTurned_l0, decide_eq_false (Int.lt_irrefl _), cond_false, impl_talsL0 (by omega) hI.sm]
   rfl) (s := xs) h
 exact this
theorem impl_talTurnL {xs : List Tal} (hl : xs.length ≤ 1048576) (h : ∀ x ∈ xs, SmR x.fKey) {ds : List T_impl_Delta} (hdl : ds.length ≤ 1048576) (hd : ∀ d ∈ ds, SmR d.fRow) : impl_TalliesTurned xs ds = some (talTurn xs ds) := by
 have hs : SmTl xs := ⟨by omega, h⟩
 unfold impl_TalliesTurned talTurn
 rw [impl_talsOk hs, Option.bind_some]
 cases hk : talsOk xs with
 | false => rfl
 | true => rw [Bool.not_true, cond_false, impl_talsR hs, Option.bind_some, impl_turnsL hdl hd ⟨hl, h, hk⟩]; rfl
def kOf (r : List T_impl_Value) : List T_impl_Value := r.take 1
def c1 (r : List T_impl_Value) : Int := 1
def cN (r : List T_impl_Value) : Int := match r with
 | [_, b] => bif b.fKind == 1 then 1 else 0
 | _ => 0
def cS (r : List T_impl_Value) : Int := match r with
 | [_, b] => bif b.fKind == 1 then b.fN else 0
 | _ => 0
def sumK (f : List T_impl_Value → Int) : RowL → List T_impl_Value → Int
 | [], _ => 0
 | r :: o, k => (if rowEq (kOf r) k = true then f r else 0) + sumK f o k
theorem sumK_app (f : List T_impl_Value → Int) (k : List T_impl_Value) : ∀ a b : RowL, sumK f (a ++ b) k = sumK f a k + sumK f b k
 | [], b => by simp [sumK]
 | r :: a, b => by
  simp only [List.cons_append, sumK, sumK_app f k a b]
  omega
theorem sumK_perm (f : List T_impl_Value → Int) (k : List T_impl_Value) {a b : RowL} (h : a.Perm b) : sumK f a k = sumK f b k := by
 induction h with
 | nil => rfl
 | cons x _ ih => simp only [sumK, ih]
 | swap x y l => simp only [sumK]; omega
 | trans _ _ ih1 ih2 => exact ih1.trans ih2
theorem sumK_rep (f : List T_impl_Value → Int) (k r : List T_impl_Value) : ∀ n : Nat, sumK f (List.replicate n r) k = n * (if rowEq (kOf r) k = true then f r else 0)
 | 0 => by simp [sumK]
 | n + 1 => by
  rw [List.replicate_succ, sumK, sumK_rep f k r n, Int.natCast_succ, Int.add_mul]
  omega
theorem sumK_step (f : List T_impl_Value → Int) {o o' : RowL} {d : T_impl_Delta} (h : step1 o d = some o') (k : List T_impl_Value) : sumK f o' k = sumK f o k + d.fMany * (if rowEq (kOf d.fRow) k = true then f d.fRow else 0) := by
 have rem : ∀ (r : List T_impl_Value) (n : Nat) (o o' : RowL), remN r n o = some o' → sumK f o' k = sumK f o k - n * (if rowEq (kOf r) k = true then f r else 0) := by
  intro r n
  induction n with
  | zero =>
   intro o o' h
   cases h
   simp
  | succ n ih =>
   intro o o' h
   unfold remN at h
   cases h1 : rem1 r o with
   | none => rw [h1] at h; cases h
   | some o1 =>
    rw [h1] at h
    rw [ih o1 o' h, sumK_perm f k (rem1_some h1), sumK, Int.natCast_succ, Int.add_mul]
    omega
 unfold step1 at h
 split at h
 ·next h0 =>
  cases h
  rw [sumK_app, sumK_rep, Int.toNat_of_nonneg h0]
 ·next h0 =>
  rw [rem _ _ _ _ h, Int.toNat_of_nonneg (by omega), Int.neg_mul]
  omega
def cntA (o : RowL) : Prop := ∀ r ∈ o, cntG r = true
theorem sum_one (o : RowL) (k : List T_impl_Value) : 0 ≤ sumK c1 o k ∧ sumK c1 o k ≤ o.length := by
 induction o with
 | nil => simp [sumK]
 | cons r o ih =>
  simp only [sumK, c1, List.length_cons]
  split <;> omega
theorem cnt_N {r : List T_impl_Value} (h : cntG r = true) : 0 ≤ cN r ∧ cN r ≤ 1 ∧ -9999 * cN r ≤ cS r ∧ cS r ≤ 9999 * cN r := by
 obtain ⟨a, b, rfl, _, _, h3⟩ := cntG_two h
 unfold cN cS
 simp only
 cases hk : b.fKind == 1 with
 | false => simp
 | true =>
  have hk1 : b.fKind = 1 := by simpa using hk
  unfold valOk at h3
  rw [hk1] at h3
  simp only [inR] at h3
  simp at h3
  simp only [cond_true]
  omega
theorem sum_N {o : RowL} (h : cntA o) (k : List T_impl_Value) : 0 ≤ sumK cN o k ∧ sumK cN o k ≤ sumK c1 o k ∧ -9999 * sumK cN o k ≤ sumK cS o k ∧ sumK cS o k ≤ 9999 * sumK cN o k := by
 induction o with
 | nil => simp [sumK]
 | cons r o ih =>
  have := cnt_N (h r (by simp))
  have := ih fun x hx => h x (by simp [hx])
  simp only [sumK]
  split
  ·simp only [c1]
   omega
  ·omega
def gets (s : Tal → Int) : List Tal → List T_impl_Value → Int
 | [], _ => 0
 | x :: xs, k => (if rowEq x.fKey k = true then s x else 0) + gets s xs k
theorem gets_low (s : Tal → Int) {k : List T_impl_Value} : ∀ {xs : List Tal}, (∀ x ∈ xs, x.fKey ≠ k) → gets s xs k = 0
 | [], _ => rfl
 | x :: xs, h => by
  have hx : ¬ rowEq x.fKey k = true := fun e => h x (by simp) (rowEq_iff.1 e)
  rw [gets, if_neg hx, gets_low s fun y hy => h y (by simp [hy])]
  rfl
abbrev AscT (xs : List Tal) : Prop := xs.Pairwise fun a b => ordR a.fKey b.fKey < 0
theorem lt_ne {a b : List T_impl_Value} (h : ordR a b < 0) : b ≠ a := fun e => by
 subst e
 rw [ord_row.refl] at h
 exact absurd h (Int.lt_irrefl 0)
theorem gets_mem (s : Tal → Int) : ∀ {xs : List Tal}, AscT xs → ∀ {x : Tal}, x ∈ xs → gets s xs x.fKey = s x
 | y :: ys, hp, x, hx => by
  rw [AscT, List.pairwise_cons] at hp
  rcases List.mem_cons.1 hx with rfl | hx
  ·rw [gets, if_pos (rowEq_refl _), gets_low s fun z hz => lt_ne (hp.1 z hz)]
   omega
  ·have hn : ¬ rowEq y.fKey x.fKey = true := fun e => lt_ne (hp.1 x hx) (rowEq_iff.1 e).symm
   rw [gets, if_neg hn, gets_mem s hp.2 hx]
   omega
theorem turnV_asc {t : Tal} : ∀ {xs : List Tal}, AscT xs → AscT (turnV t xs)
 | [], _ => by simp [turnV]
 | x :: xs, hp => by
  rw [AscT, List.pairwise_cons] at hp
  unfold turnV
  by_cases h1 : ordR x.fKey t.fKey < 0
  ·rw [decide_eq_true h1, cond_true]
   exact List.pairwise_cons.2 ⟨turnV_mem (p := fun k => ordR x.fKey k < 0) h1 hp.1, turnV_asc hp.2⟩
  ·rw [decide_eq_false h1, cond_false]
   by_cases h2 : ordR x.fKey t.fKey = 0
   ·rw [beq_iff_eq.2 h2, cond_true]
    cases zeroT (addT x t) with
    | true => exact hp.2
    | false => exact List.pairwise_cons.2 ⟨hp.1, hp.2⟩
   ·rw [beq_eq_false_iff_ne.2 h2, cond_false]
    have h3 : ordR t.fKey x.fKey < 0 := ord_row.gt _ _ (by omega)
    refine List.pairwise_cons.2 ⟨fun y hy => ?_, List.pairwise_cons.2 hp⟩
    rcases List.mem_cons.1 hy with rfl | hy
    ·exact h3
    ·exact ordR_ltt h3 (hp.1 y hy)
def zeros (xs : List Tal) : Prop := ∀ x ∈ xs, zeroT x = false
theorem turnV_nz {t : Tal} (ht : zeroT t = false) : ∀ {xs : List Tal}, zeros xs → zeros (turnV t xs)
 | [], _ => fun x hx => by
  have : x = t := by simpa [turnV] using hx
  rw [this]; exact ht
 | y :: xs, h => fun x hx => by
  have hxs : zeros xs := fun z hz => h z (by simp [hz])
  unfold turnV at hx
  cases h1 : decide (ordR y.fKey t.fKey < 0) with
  | true =>
   rw [h1, cond_true] at hx
   rcases List.mem_cons.1 hx with rfl | hx
   ·exact h x (by simp)
   ·exact turnV_nz ht hxs x hx
  | false =>
   rw [h1, cond_false] at hx
   cases h2 : ordR y.fKey t.fKey == 0 with
   | true =>
    rw [h2, cond_true] at hx
    cases h3 : zeroT (addT y t) with
    | true => rw [h3, cond_true] at hx; exact hxs x hx
    | false =>
     rw [h3, cond_false] at hx
     rcases List.mem_cons.1 hx with rfl | hx
     ·exact h3
     ·exact hxs x hx
   | false =>
    rw [h2, cond_false] at hx
    rcases List.mem_cons.1 hx with rfl | hx
    ·exact ht
    ·exact h x hx
theorem zeroT_iff {x : Tal} : zeroT x = true ↔ x.fRows = 0 ∧ x.fMany = 0 ∧ x.fSum = 0 := by
 unfold zeroT
 simp
def Adds (s : Tal → Int) (xs : List Tal) (t : Tal) : Prop := (∀ x ∈ xs, s (addT x t) = s x + s t) ∧ ∀ x, zeroT x = true → s x = 0
theorem gets_turn {s : Tal → Int} {t : Tal} (k : List T_impl_Value) : ∀ {xs : List Tal}, Adds s xs t → gets s (turnV t xs) k = gets s xs k + if rowEq t.fKey k = true then s t else 0
 | [], _ => by simp [turnV, gets]
 | x :: xs, h => by
  have ih := gets_turn (s := s) (t := t) k (xs := xs) ⟨fun y hy => h.1 y (by simp [hy]), h.2⟩
  have hx := h.1 x (by simp)
  unfold turnV
  by_cases h1 : ordR x.fKey t.fKey < 0
  ·rw [decide_eq_true h1, cond_true, gets, ih, gets]
   omega
  ·rw [decide_eq_false h1, cond_false]
   by_cases h2 : ordR x.fKey t.fKey = 0
   ·have ek : x.fKey = t.fKey := ordR_0.1 h2
    rw [beq_iff_eq.2 h2, cond_true]
    cases h3 : zeroT (addT x t) with
    | true =>
     have h0 := h.2 _ h3
     rw [cond_true, gets, ek]
     split <;> omega
    | false =>
     rw [cond_false, gets, gets]
     show (if rowEq x.fKey k = true then s (addT x t) else 0) + _ = _
     rw [hx, ek]
     split <;> omega
   ·rw [beq_eq_false_iff_ne.2 h2, cond_false, gets, gets]
    omega
theorem tal_ext {x y : Tal} (h1 : x.fKey = y.fKey) (h2 : x.fRows = y.fRows) (h3 : x.fMany = y.fMany) (h4 : x.fSum = y.fSum) : x = y := by
 cases x
 cases y
 simp only at h1 h2 h3 h4
 subst h1 h2 h3 h4
 rfl
theorem tals_uniq : ∀ {xs ys : List Tal}, AscT xs → AscT ys → zeros xs → zeros ys → (∀ k, gets (·.fRows) xs k = gets (·.fRows) ys k) → (∀ k, gets (·.fMany) xs k = gets (·.fMany) ys k) → (∀ k, gets (·.fSum) xs k = gets (·.fSum) ys k) → xs = ys
 | [], [], _, _, _, _, _, _, _ => rfl
 | x :: xs, ys, ax, ay, zx, zy, g1, g2, g3 => by
  have key : ∀ (x : Tal) (xs ys : List Tal), AscT (x :: xs) → zeroT x = false → (∀ k, gets (·.fRows) (x :: xs) k = gets (·.fRows) ys k) → (∀ k, gets (·.fMany) (x :: xs) k = gets (·.fMany) ys k) → (∀ k, gets (·.fSum) (x :: xs) k = gets (·.fSum) ys k) → ¬ ∀ y ∈ ys, y.fKey ≠ x.fKey := by
   intro x xs ys ax zx g1 g2 g3 hn
   have e : ∀ s : Tal → Int, gets s (x :: xs) x.fKey = s x := fun s => gets_mem s ax (by simp)
   have k1 := g1 x.fKey
   have k2 := g2 x.fKey
   have k3 := g3 x.fKey
   rw [e, gets_low _ hn] at k1 k2 k3
   have : zeroT x = true := zeroT_iff.2 ⟨k1, k2, k3⟩
   rw [zx] at this
   cases this
  cases ys with
  | nil => exact absurd (fun y hy => by cases hy) (key x xs [] ax (zx x (by simp)) g1 g2 g3)
  | cons y ys =>
   have hx := List.pairwise_cons.1 ax
   have hy := List.pairwise_cons.1 ay
   have ek : x.fKey = y.fKey := by
    refine ordR_0.1 ?_
    by_cases h1 : ordR x.fKey y.fKey < 0
    ·refine absurd (fun z hz => ?_) (key x xs (y :: ys) ax (zx x (by simp)) g1 g2 g3)
     rcases List.mem_cons.1 hz with rfl | hz
     ·exact lt_ne h1
     ·exact lt_ne (ordR_ltt h1 (hy.1 z hz))
    ·by_cases h2 : 0 < ordR x.fKey y.fKey
     ·have h2 := ord_row.gt _ _ h2
      refine absurd (fun z hz => ?_) (key y ys (x :: xs) ay (zy y (by simp)) (fun k => (g1 k).symm) (fun k => (g2 k).symm) (fun k => (g3 k).symm))
      rcases List.mem_cons.1 hz with rfl | hz
      ·exact lt_ne h2
      ·exact lt_ne (ordR_ltt h2 (hx.1 z hz))
     ·omega
   have e : ∀ s : Tal → Int, gets s (x :: xs) x.fKey = s x := fun s => gets_mem s ax (by simp)
   have e' : ∀ s : Tal → Int, gets s (y :: ys) x.fKey = s y := fun s => by rw [ek]; exact gets_mem s ay (by simp)
   have k1 := g1 x.fKey
   have k2 := g2 x.fKey
   have k3 := g3 x.fKey
   rw [e, e'] at k1 k2 k3
   have exy : x = y := tal_ext ek k1 k2 k3
   subst exy
   rw [tals_uniq hx.2 hy.2 (fun z hz => zx z (by simp [hz])) (fun z hz => zy z (by simp [hz])) (fun k => by have := g1 k; simp only [gets] at this; omega) (fun k => by have := g2 k; simp only [gets] at this; omega) (fun k => by have := g3 k; simp only [gets] at this; omega)]
 | [], y :: ys, ax, ay, zx, zy, g1, g2, g3 => by
  have e : ∀ s : Tal → Int, gets s (y :: ys) y.fKey = s y := fun s => gets_mem s ay (by simp)
  have k1 := g1 y.fKey
  have k2 := g2 y.fKey
  have k3 := g3 y.fKey
  rw [e] at k1 k2 k3
  have : zeroT y = true := zeroT_iff.2 ⟨k1.symm, k2.symm, k3.symm⟩
  rw [zy y (by simp)] at this
  cases this
structure Tof (xs : List Tal) (o : RowL) : Prop where
 asc : AscT xs
 nz : zeros xs
 key : ∀ x ∈ xs, rowOk x.fKey = true ∧ x.fKey.length = 1 ∧ SmR x.fKey
 g1 : ∀ k, gets (·.fRows) xs k = sumK c1 o k
 g2 : ∀ k, gets (·.fMany) xs k = sumK cN o k
 g3 : ∀ k, gets (·.fSum) xs k = sumK cS o k
theorem Tof.nil : Tof [] [] := ⟨List.Pairwise.nil, fun x hx => (by cases hx), fun x hx => (by cases hx), fun k => rfl, fun k => rfl, fun k => rfl⟩
theorem Tof.num {xs : List Tal} {o : RowL} (h : Tof xs o) (hc : cntA o) (hl : o.length ≤ 200) {x : Tal} (hx : x ∈ xs) : 1 ≤ x.fRows ∧ x.fRows ≤ o.length ∧ (0 ≤ x.fMany ∧ x.fMany ≤ x.fRows) ∧ -9999 * x.fMany ≤ x.fSum ∧ x.fSum ≤ 9999 * x.fMany := by
 have e1 := h.g1 x.fKey
 have e2 := h.g2 x.fKey
 have e3 := h.g3 x.fKey
 rw [gets_mem _ h.asc hx] at e1 e2 e3
 have b1 := sum_one o x.fKey
 have b2 := sum_N hc x.fKey
 have hz := h.nz x hx
 have : ¬ (x.fRows = 0 ∧ x.fMany = 0 ∧ x.fSum = 0) := fun hh => by
  rw [zeroT_iff.2 hh] at hz
  cases hz
 omega
theorem Tof.tals {xs : List Tal} {o : RowL} (h : Tof xs o) (hc : cntA o) (hl : o.length ≤ 100) : talsOk xs = true := by
 refine (talsOk_iff xs).2 ⟨fun x hx => ?_, h.asc⟩
 obtain ⟨k1, k2, _⟩ := h.key x hx
 obtain ⟨n1, n2, n3, n4, n5⟩ := h.num hc (by omega) hx
 unfold talG inR
 rw [k1, beq_iff_eq.2 k2, w64_of (n := (-9999) * x.fMany) (by omega) (by omega), w64_of (n := 9999 * x.fMany) (by omega) (by omega)]
 rw [decide_eq_true n1, decide_eq_true (by omega), decide_eq_true n3.1, decide_eq_true n3.2, decide_eq_true n4, decide_eq_true n5]
 rfl
theorem mulB {n b : Int} (h1 : -100 ≤ n) (h2 : n ≤ 100) (h3 : -9999 ≤ b) (h4 : b ≤ 9999) : -999900 ≤ n * b ∧ n * b ≤ 999900 := by
 have : (n * b).natAbs ≤ 100 * 9999 := by
  rw [Int.natAbs_mul]
  exact Nat.mul_le_mul (by omega) (by omega)
 omega
theorem Tof.turn {xs : List Tal} {o o' : RowL} (h : Tof xs o) (hc : cntA o) (hl : o.length ≤ 200) {r : List T_impl_Value} (hr : SmR r) (hg : cntG r = true) {n : Int} (n0 : n ≠ 0) (n1 : -100 ≤ n) (n2 : n ≤ 100)
  (hs : ∀ f k, sumK f o' k = sumK f o k + n * (if rowEq (kOf r) k = true then f r else 0)) : Tof (turnV (tOf r n) xs) o' := by
 obtain ⟨a, b, rfl, h1, h2, h3⟩ := cntG_two hg
 have hcn := cnt_N hg
 have hk : (tOf [a, b] n).fKey = [a] := rfl
 have sN : (tOf [a, b] n).fMany = n * cN [a, b] := by
  unfold tOf cN
  simp only
  cases b.fKind == 1 <;> simp
 have sS : (tOf [a, b] n).fSum = n * cS [a, b] := by
  unfold tOf
  unfold cS cN at hcn
  unfold cS
  simp only at hcn ⊢
  cases hbk : b.fKind == 1 with
  | false => simp
  | true =>
   rw [hbk] at hcn
   simp only [cond_true] at hcn ⊢
   have := mulB (n := n) (b := b.fN) n1 n2 (by omega) (by omega)
   rw [w64_of (by omega) (by omega)]
 have mN : -100 ≤ n * cN [a, b] ∧ n * cN [a, b] ≤ 100 := by
  rcases (show cN [a, b] = 0 ∨ cN [a, b] = 1 by omega) with e | e <;> rw [e] <;> omega
 have mS := mulB (n := n) (b := cS [a, b]) n1 n2 (by omega) (by omega)
 refine ⟨turnV_asc h.asc, turnV_nz ?_ h.nz, fun x hx => ?_, fun k => ?_, fun k => ?_, fun k => ?_⟩
 ·unfold zeroT tOf
  simp only
  rw [beq_eq_false_iff_ne.2 n0]
  rfl
 ·exact turnV_mem (p := fun k => rowOk k = true ∧ k.length = 1 ∧ SmR k) ⟨rowOk_one h2, rfl, smR_one hr⟩ h.key x hx
 ·rw [gets_turn k ⟨fun x hx => ?_, fun x hx => (zeroT_iff.1 hx).1⟩, h.g1, hs]
  ·show _ + (if rowEq [a] k = true then n else 0) = _ + n * (if rowEq [a] k = true then 1 else 0)
   split <;> omega
  ·obtain ⟨q1, q2, q3, q4, q5⟩ := h.num hc hl hx
   show w64 (x.fRows + n) = _
   rw [w64_of (by omega) (by omega)]
   rfl
 ·rw [gets_turn k ⟨fun x hx => ?_, fun x hx => (zeroT_iff.1 hx).2.1⟩, h.g2, hs]
  ·rw [hk, sN]
   show _ + (if rowEq [a] k = true then n * cN [a, b] else 0) = _ + n * (if rowEq [a] k = true then cN [a, b] else 0)
   split <;> omega
  ·obtain ⟨q1, q2, q3, q4, q5⟩ := h.num hc hl hx
   show w64 (x.fMany + (tOf [a, b] n).fMany) = _
   rw [sN, w64_of (by omega) (by omega)]
 ·rw [gets_turn k ⟨fun x hx => ?_, fun x hx => (zeroT_iff.1 hx).2.2⟩, h.g3, hs]
  ·rw [hk, sS]
   show _ + (if rowEq [a] k = true then n * cS [a, b] else 0) = _ + n * (if rowEq [a] k = true then cS [a, b] else 0)
   split <;> omega
  ·obtain ⟨q1, q2, q3, q4, q5⟩ := h.num hc hl hx
   show w64 (x.fSum + (tOf [a, b] n).fSum) = _
   rw [sS, w64_of (by omega) (by omega)]
theorem Tof.uniq {xs ys : List Tal} {a b : RowL} (h : Tof xs a) (k : Tof ys b) (hp : a.Perm b) : xs = ys :=
 tals_uniq h.asc k.asc h.nz k.nz (fun q => by rw [h.g1, k.g1, sumK_perm _ _ hp]) (fun q => by rw [h.g2, k.g2, sumK_perm _ _ hp]) (fun q => by rw [h.g3, k.g3, sumK_perm _ _ hp])
theorem Tof.smTl {xs : List Tal} {o : RowL} (h : Tof xs o) (hl : xs.length ≤ 1000) : SmTl xs := ⟨by omega, fun x hx => (h.key x hx).2.2⟩
def talF (o : RowL) : List Tal := o.foldl (fun xs r => turnV (tOf r 1) xs) []
theorem talF_of : ∀ (rest : RowL) (xs : List Tal) (o : RowL), Tof xs o → cntA o → cntA rest → (∀ r ∈ rest, SmR r) → o.length + rest.length ≤ 200 → Tof (rest.foldl (fun xs r => turnV (tOf r 1) xs) xs) (o ++ rest)
 | [], xs, o, h, _, _, _, _ => by simpa using h
 | r :: rest, xs, o, h, hc, hc2, hs, hl => by
  rw [List.foldl_cons, show o ++ r :: rest = (o ++ [r]) ++ rest by simp]
  simp only [List.length_cons] at hl
  refine talF_of rest _ (o ++ [r]) (h.turn hc (by omega) (hs r (by simp)) (hc2 r (by simp)) (by decide) (by decide) (by decide) fun f k => ?_) (fun x hx => ?_) (fun x hx => hc2 x (by simp [hx])) (fun x hx => hs x (by simp [hx])) (by simp only [List.length_append, List.length_cons, List.length_nil]; omega)
  ·rw [sumK_app]
   simp [sumK]
  ·rcases List.mem_append.1 hx with hx | hx
   ·exact hc x hx
   ·have : x = r := by simpa using hx
    rw [this]; exact hc2 r (by simp)
theorem talF_len : ∀ (rest : RowL) (xs : List Tal), (rest.foldl (fun xs r => turnV (tOf r 1) xs) xs).length ≤ xs.length + rest.length
 | [], xs => by simp
 | r :: rest, xs => by
  have h1 := talF_len rest (turnV (tOf r 1) xs)
  have h2 := turnV_len (tOf r 1) xs
  simp only [List.foldl_cons, List.length_cons]
  omega
theorem tof_talF {o : RowL} (hc : cntA o) (hs : SmRs o) (hl : o.length ≤ 100) : Tof (talF o) o := by
 have := talF_of o [] [] Tof.nil (fun r hr => by cases hr) hc hs.2 (by simp; omega)
 rwa [List.nil_append] at this
theorem impl_talF {o : RowL} (hc : cntA o) (hs : SmRs o) (hl : o.length ≤ 100) : impl_TalliesOf o = some (talF o) := by
 unfold impl_TalliesOf
 rw [decide_eq_false (by omega), cond_false]
 unfold slices_ContainsFunc_impl_Value_impl_Value_s3 slices_IndexFunc_impl_Value_impl_Value_s3
 obtain ⟨x, h1, h2⟩ := loop_find (xs := o) (L := slices_IndexFunc_impl_Value_impl_Value_s3_l0 o impl_TalliesOf_1) (p := fun v => !(cntG v)) (by omega) (fun f i v hi hv hw => by
  have : (i : Int) < o.length := by omega
  simp only [slices_IndexFunc_impl_Value_impl_Value_s3_l0, this, decide_true, cond_true, getI_nat, hv, Option.bind_some, impl_TalliesOf_1, impl_cntG (hs.2 v (List.mem_of_getElem? hv)), hw]) (fun f => by
  simp only [slices_IndexFunc_impl_Value_impl_Value_s3_l0, Int.lt_irrefl, decide_false, cond_false])
 rw [h1, Option.bind_some, h2, Option.bind_some, show (o.any fun v => !(cntG v)) = false by
  rw [List.any_eq_false]
  intro v hv
  simp [hc v hv]]
 unfold impl_TalliesOf_j0
 rw [cond_false]
 have := loop_opt (xs := o) (L := fun f i (s : List Tal) => impl_TalliesOf_l1 o f i s) (fun rest s => some (rest.foldl (fun xs r => turnV (tOf r 1) xs) s)) (fun i s => s.length ≤ i ∧ Tof s (o.take i)) (by omega)
  (fun f i s v hi hv hw hI => by
   have hm := List.mem_of_getElem? hv
   obtain ⟨hI1, hI2⟩ := hI
   have hct : cntA (o.take i) := fun r hr => hc r (List.mem_of_mem_take hr)
   have hlt : (o.take i).length ≤ 200 := by rw [List.length_take]; omega
   have e : o.take (i + 1) = o.take i ++ [v] := by rw [List.take_add_one, hv]; rfl
   refine .inr ⟨turnV (tOf v 1) s, ⟨Nat.le_trans (turnV_len _ _) (by omega), ?_⟩, ?_, rfl⟩
   ·rw [e]
    exact hI2.turn hct hlt (hs.2 v hm) (hc v hm) (by decide) (by decide) (by decide) fun f k => by rw [sumK_app]; simp [sumK]
   ·rw [impl_TalliesOf_l1, decide_eq_true (by omega), cond_true, getI_nat, hv, Option.bind_some, impl_turn (hI2.smTl (by omega)) hI2.asc (fun x hx => by
     obtain ⟨q1, q2, q3, q4, q5⟩ := hI2.num hct hlt hx
     omega) (hs.2 v hm) (hc v hm) (by decide) (by decide) (by decide), Option.bind_some, hw])
  (fun f s hI => by
   rw [impl_TalliesOf_l1, decide_eq_false (Int.lt_irrefl _), cond_false, impl_talsP (by have := hI.1; omega) (fun x hx => (hI.2.key x hx).2.2)]
   rfl) (s := []) ⟨Nat.le_refl _, by simpa using Tof.nil⟩
 exact this
theorem spec_talF {o : RowL} (hc : cntA o) (hs : SmRs o) (hl : o.length ≤ 100) : spec_TalliesOf o = some (talF o) := by
 have second : spec_TalliesOf_l2 o FUEL [] 0 = some (talF o) := by
  have := loop_opt (xs := o) (L := fun f i (s : List Tal) => spec_TalliesOf_l2 o f s i) (fun rest s => some (rest.foldl (fun xs r => turnV (tOf r 1) xs) s)) (fun i s => s.length ≤ i ∧ Tof s (o.take i)) (by omega)
   (fun f i s v hi hv hw hI => by
    have hm := List.mem_of_getElem? hv
    obtain ⟨hI1, hI2⟩ := hI
    have hct : cntA (o.take i) := fun r hr => hc r (List.mem_of_mem_take hr)
    have hlt : (o.take i).length ≤ 200 := by rw [List.length_take]; omega
    have e : o.take (i + 1) = o.take i ++ [v] := by rw [List.take_add_one, hv]; rfl
    obtain ⟨a, b, e1, e2, e3⟩ := spec_turn (hI2.smTl (by omega)) (fun x hx => (hI2.key x hx).1) hI2.asc hI2.nz (hs.2 v hm) (hc v hm) 1
    refine .inr ⟨turnV (tOf v 1) s, ⟨Nat.le_trans (turnV_len _ _) (by omega), ?_⟩, ?_, rfl⟩
    ·rw [e]
     exact hI2.turn hct hlt (hs.2 v hm) (hc v hm) (by decide) (by decide) (by decide) fun f k => by rw [sumK_app]; simp [sumK]
    ·rw [spec_TalliesOf_l2, decide_eq_true (by omega), cond_true, getI_nat, hv, Option.bind_some, e1, Option.bind_some, Option.bind_some, e2, Option.bind_some, e3, Option.bind_some, hw])
   (fun f s hI => by rw [spec_TalliesOf_l2, decide_eq_false (Int.lt_irrefl _), cond_false]; rfl) (s := []) ⟨Nat.le_refl _, by simpa using Tof.nil⟩
  exact this
 unfold spec_TalliesOf
 have := loop_opt (xs := o) (L := fun f i (_ : Unit) => spec_TalliesOf_l0 o f i) (fun _ _ => some (talF o)) (fun _ _ => True) (by omega)
  (fun f i s v hi hv hw _ => by
   have hm := List.mem_of_getElem? hv
   refine .inr ⟨(), trivial, ?_, rfl⟩
   rw [spec_TalliesOf_l0, decide_eq_true (by omega), cond_true, getI_nat, hv, Option.bind_some, spec_cntG (hs.2 v hm), Option.bind_some, hc v hm, Bool.not_true, cond_false, decide_eq_false (by omega), spec_TalliesOf_j1, cond_false, hw])
  (fun f s _ => by rw [spec_TalliesOf_l0, decide_eq_false (Int.lt_irrefl _), cond_false, second]) (s := ()) trivial
 exact this
theorem turns_lead : ∀ (ds : List T_impl_Delta) (xs : List Tal) (o o' : RowL), Tof xs o → cntA o → o.length + 100 * ds.length ≤ 100 ∨ True → stepsV ds o = some o' → (∀ d ∈ ds, dT d = true ∧ SmR d.fRow) → (∀ (i : Nat) (q : RowL), stepsV (ds.take i) o = some q → q.length ≤ 100) → ∃ xs', turnsV ds xs = (xs', true) ∧ Tof xs' o'
 | [], xs, o, o', h, _, _, hs, _, _ => by
  cases hs
  exact ⟨xs, rfl, h⟩
 | d :: ds, xs, o, o', h, hc, _, hs, hd, hq => by
  unfold stepsV at hs
  cases h1 : step1 o d with
  | none => rw [h1] at hs; cases hs
  | some o1 =>
   rw [h1] at hs
   obtain ⟨hdt, hdr⟩ := hd d (by simp)
   have hdt' := hdt
   unfold dT at hdt'
   simp only [Bool.and_eq_true, Bool.not_eq_true'] at hdt'
   have hin := hdt'.2.2
   simp only [inR, Bool.and_eq_true, decide_eq_true_eq] at hin
   have l0 := hq 0 o rfl
   have l1 := hq 1 o1 (by simp [stepsV, h1])
   have hc1 : cntA o1 := stepsV_mem (ds := [d]) (o := o) (by simp [stepsV, h1]) hc (fun d' hd' => by
    have : d' = d := by simpa using hd'
    rw [this]; exact hdt'.1)
   have ht := h.turn hc (by omega) hdr hdt'.1 (n := d.fMany) (by simpa using hdt'.2.1) hin.1 hin.2 (fun f k => sumK_step f h1 k)
   obtain ⟨xs', g1, g2⟩ := turns_lead ds _ o1 o' ht hc1 (.inr trivial) hs (fun d' hd' => hd d' (by simp [hd'])) (fun i q hi => hq (i + 1) q (by simp only [List.take_succ_cons, stepsV, h1]; exact hi))
   refine ⟨xs', ?_, g2⟩
   simp only [turnsV, hdt, ht.tals hc1 l1, cond_true]
   exact g1
theorem same_tals_refl {ds : List Tal} (hl : ds.length ≤ 1000000) (h : ∀ d ∈ ds, SmR d.fKey) : laws_sameTallies ds ds = some true := by
 unfold laws_sameTallies
 rw [beq_self_eq_true, Bool.not_true, cond_false]
 have := loop_all (xs := ds) (L := fun f i => laws_sameTallies_l0 ds ds f i) (p := fun _ => true) (fin := true) (by omega)
  (fun f i v hi hv hw => by
   have hr : laws_sameRow v.fKey v.fKey = some true := by rw [laws_sameRow_ok (by have := (h v (List.mem_of_getElem? hv)).1; omega), rowEq_refl]
   rw [laws_sameTallies_l0, decide_eq_true (by omega), cond_true, getI_nat, hv]
   simp only [Option.bind_some, beq_self_eq_true, Bool.not_true, cond_false, hr, laws_sameTallies_j1, hw]
   rfl)
  (fun f => by rw [laws_sameTallies_l0, decide_eq_false (Int.lt_irrefl _), cond_false])
 rw [this, List.all_eq_true.2 fun _ _ => rfl]
 rfl
theorem twoC {c : Int} (hc : c = 1 ∨ c = 2) : KC [T_impl_Column.mk c true, T_impl_Column.mk 1 true] := fun x hx => by
 rcases List.mem_cons.1 hx with rfl | hx
 ·rcases hc with rfl | rfl <;> rfl
 ·have : x = T_impl_Column.mk 1 true := by simpa using hx
  rw [this]; rfl
def Cn (n : Nat) (rows : RowL) : Prop := rows.length ≤ n ∧ (∀ r ∈ rows, Sr 9 r) ∧ cntA rows
theorem fn_cn {n : Nat} {c : Int} {rows : RowL} (h : Fn n [T_impl_Column.mk c true, T_impl_Column.mk 1 true] rows) : Cn n rows := by
 refine ⟨h.1, fun r hr => (h.2 r hr).1, fun r hr => ?_⟩
 obtain ⟨l, v, z⟩ := (h.2 r hr).2
 match r, l with
 | [a, b], _ =>
  have hb : fits (T_impl_Column.mk 1 true) b = true := by
   simp only [List.zip_cons_cons, List.zip_nil_right, List.all_cons, Bool.and_eq_true] at z
   exact z.2.1
  unfold cntG rowOk
  simp only [List.all_cons, v a (by simp), v b (by simp)]
  unfold fits at hb
  simp only [Bool.or_eq_true, Bool.and_true] at hb
  show (b.fKind == 1 || b.fKind == 0) = true
  rw [Bool.or_eq_true]
  exact hb
theorem twos_ok {n : Int} {r : T_spec_l20Rd} (h : RdOk n r) (hn : n ≤ 100000) : Wp (spec_l20Twos r 0) fun rows r' => RdOk (n + 600) r' ∧ Cn 12 rows := by
 have go : ∀ (c : Int) (r1 : T_spec_l20Rd), (c = 1 ∨ c = 2) → RdOk (n + 1) r1 → Wp (spec_l20Twos_j0 0 r1 [T_impl_Column.mk c true, T_impl_Column.mk 1 true]) fun rows r' => RdOk (n + 600) r' ∧ Cn 12 rows := fun c r1 hc h1 => by
  unfold spec_l20Twos_j0
  refine wp_then (bag_fit h1 (by omega) (by simp) (twoC hc)) fun a r2 ha => ?_
  refine wp_then (bag_fit ha.1 (by omega) (by simp) (twoC hc)) fun b r3 hb => ?_
  have la := ha.2.1
  have lb := hb.2.1
  refine wp_app (by simp only; omega) (wp_some ⟨hb.1.up (by omega), ?_⟩)
  have ca := fn_cn ha.2
  have cb := fn_cn hb.2
  exact ⟨by simp only [List.length_append]; omega, fun x hx => (List.mem_append.1 hx).elim (ca.2.1 x) (cb.2.1 x), fun x hx => (List.mem_append.1 hx).elim (ca.2.2 x) (cb.2.2 x)⟩
 unfold spec_l20Twos
 refine wp_pick h (by omega) fun v r1 h1 _ _ _ => ?_
 refine wp_bif (fun _ => ?_) fun _ => go 1 _ (.inl rfl) h1
 exact go 2 _ (.inr rfl) h1
theorem Cn.sm {n : Nat} {rows : RowL} (h : Cn n rows) (hn : n ≤ 1000) : SmRs rows := ⟨Nat.le_trans h.1 (by omega), fun r hr => (h.2.1 r hr).sm (by omega)⟩
theorem draw_turn {b : List UInt8} (hb : b.length ≤ 1048576) : ∃ p, spec_DrawTurnedRows b = some p ∧ Cn 12 p.1 ∧ Cn 24 p.2 := by
 obtain ⟨r, e, h⟩ := open_ok hb
 obtain ⟨a, r1, e1, h1, ha⟩ := twos_ok h (by omega)
 obtain ⟨c, r2, e2, h2, hc⟩ := twos_ok h1 (by omega)
 obtain ⟨k, r3, e3, h3, _⟩ := pick_ok h2 (by omega) 3
 unfold spec_DrawTurnedRows
 rw [e, Option.bind_some, e1, Option.bind_some]
 simp only
 rw [e2, Option.bind_some]
 simp only
 rw [e3, Option.bind_some]
 have la := ha.1
 have lc := hc.1
 have up : Cn 24 c := ⟨by omega, hc.2⟩
 cases k == 0 with
 | false => exact ⟨_, rfl, ha, up⟩
 | true =>
  rw [cond_true, app_lt (by simp; omega), Option.bind_some, List.nil_append]
  have hw : w64 ((c.length : Int) + 1) = (c.length : Int) + 1 := by rw [w64_of] <;> omega
  obtain ⟨m, r4, e4, h4, m0, _, m1⟩ := pick_ok h3 (by omega) ((c.length : Int) + 1)
  have m1 := m1 (by omega)
  simp only
  rw [hw, e4, Option.bind_some]
  have es : slI c none (some m) none = some (c.take m.toNat) := by
   have := slI_front (xs := c) (n := m.toNat) (by omega)
   rwa [Int.toNat_of_nonneg m0] at this
  simp only
  rw [es, Option.bind_some, app_lt (by simp; omega), Option.bind_some]
  refine ⟨_, rfl, ha, ?_⟩
  refine ⟨by simp only [List.length_append, List.length_take]; omega, fun x hx => (List.mem_append.1 hx).elim (ha.2.1 x) (fun hx => hc.2.1 x (List.mem_of_mem_take hx)), fun x hx => (List.mem_append.1 hx).elim (ha.2.2 x) (fun hx => hc.2.2 x (List.mem_of_mem_take hx))⟩
theorem split_deltas (a b : RowL) (S : RowL) : (deltaL a b S).filter (fun d => !(decide (d.fMany > 0))) ++ (deltaL a b S).filter (fun d => decide (d.fMany > 0)) = deltaL a b (S.filter (fun r => !(decide (many b r > many a r))) ++ S.filter fun r => decide (many b r > many a r)) := by
 unfold deltaL
 rw [List.filterMap_append]
 have h1 : ∀ (S : RowL) (q : Bool), ((S.filterMap (dOf a b)).filter fun d => q == decide (d.fMany > 0)) = (S.filter fun r => q == decide (many b r > many a r)).filterMap (dOf a b) := by
  intro S q
  induction S with
  | nil => rfl
  | cons r S ih =>
   rw [List.filterMap_cons, List.filter_cons]
   cases hd : dOf a b r with
   | none =>
    simp only
    rw [ih]
    split
    ·rw [List.filterMap_cons, hd]
    ·rfl
   | some d =>
    have e : decide (d.fMany > 0) = decide (many b r > many a r) := by
     unfold dOf at hd
     cases hz : ((many b r : Int) - many a r) == 0 with
     | true => rw [hz] at hd; cases hd
     | false =>
      rw [hz] at hd
      cases hd
      rw [decide_eq_decide]
      simp only
      omega
    simp only
    rw [List.filter_cons, ih, e]
    split
    ·rw [List.filterMap_cons, hd]
    ·rfl
 have e1 := h1 S false
 have e2 := h1 S true
 simp only [Bool.false_beq, Bool.true_beq] at e1 e2
 rw [e1, e2]
theorem steps_app : ∀ (xs ys : List T_impl_Delta) (o : RowL), stepsV (xs ++ ys) o = (stepsV xs o).bind (stepsV ys)
 | [], ys, o => rfl
 | x :: xs, ys, o => by
  simp only [List.cons_append, stepsV]
  cases step1 o x with
  | none => rfl
  | some o1 => exact steps_app xs ys o1
theorem steps_shrink : ∀ {ds : List T_impl_Delta} {o q : RowL}, stepsV ds o = some q → (∀ d ∈ ds, d.fMany ≤ 0) → q.length ≤ o.length
 | [], o, q, h, _ => by cases h; exact Nat.le_refl _
 | d :: ds, o, q, h, hd => by
  unfold stepsV at h
  cases h1 : step1 o d with
  | none => rw [h1] at h; cases h
  | some o1 =>
   rw [h1] at h
   have h2 := steps_shrink (o := o1) h fun d' hd' => hd d' (by simp [hd'])
   have h0 := hd d (by simp)
   unfold step1 at h1
   split at h1
   ·cases h1
    simp only [List.length_append, List.length_replicate] at h2
    omega
   ·have := remN_len h1
    omega
theorem steps_grow : ∀ {ds : List T_impl_Delta} {o q : RowL}, stepsV ds o = some q → (∀ d ∈ ds, 0 ≤ d.fMany) → o.length ≤ q.length
 | [], o, q, h, _ => by cases h; exact Nat.le_refl _
 | d :: ds, o, q, h, hd => by
  unfold stepsV at h
  cases h1 : step1 o d with
  | none => rw [h1] at h; cases h
  | some o1 =>
   rw [h1] at h
   have h2 := steps_grow (o := o1) h fun d' hd' => hd d' (by simp [hd'])
   have h0 := hd d (by simp)
   unfold step1 at h1
   rw [if_pos h0] at h1
   cases h1
   simp only [List.length_append] at h2
   omega
theorem law_turnedRows {a0 : List UInt8} (w0 : listW u8W a0) : laws_FnTurnedRows a0 = some true := by
 unfold laws_FnTurnedRows
 by_cases hl : (a0.length : Int) > 1048576
 ·rw [decide_eq_true hl, cond_true]
 rw [decide_eq_false hl, cond_false]
 obtain ⟨p, e, ha, hb⟩ := draw_turn (b := a0) (by omega)
 have sa := ha.sm (by omega)
 have sb := hb.sm (by omega)
 have la := ha.1
 have lb := hb.1
 have ta := tof_talF ha.2.2 sa (by omega)
 have tb := tof_talF hb.2.2 sb (by omega)
 have lta := talF_len p.1 []
 have ltb := talF_len p.2 []
 simp only [List.length_nil, Nat.zero_add] at lta ltb
 have lta : (talF p.1).length ≤ p.1.length := lta
 have ltb : (talF p.2).length ≤ p.2.length := ltb
 have ra : allR p.1 = true := List.all_eq_true.2 fun r hr => by
  have := ha.2.2 r hr
  obtain ⟨_, _, _, h1, _⟩ := cntG_two this
  exact h1
 have rb : allR p.2 = true := List.all_eq_true.2 fun r hr => by
  have := hb.2.2 r hr
  obtain ⟨_, _, _, h1, _⟩ := cntG_two this
  exact h1
 rw [e, Option.bind_some, impl_talF ha.2.2 sa (by omega), Option.bind_some, spec_talF ha.2.2 sa (by omega), Option.bind_some, same_tals_refl (by omega) (fun d hd => (ta.key d hd).2.2), Option.bind_some, Bool.not_true, cond_false, impl_deltaV sa sb (by omega), Option.bind_some]
 have dl := deltaV_len p.1 p.2
 have fin : ∀ g c : List T_impl_Delta, g = (deltaV p.1 p.2).filter (fun d => !(decide (d.fMany > 0))) → c = (deltaV p.1 p.2).filter (fun d => decide (d.fMany > 0)) →
   ((app g c).bind fun v34 => (impl_TalliesTurned (talF p.1) v34).bind fun v36 => bif v36.2 then (impl_TalliesOf p.2).bind fun v38 => (laws_sameTallies v36.1 v38).bind fun v40 => bif v40 then (laws_alive).bind fun v42 => some v42 else some false else some false) = some true := fun g c hg hc => by
  have lg : g.length ≤ (deltaV p.1 p.2).length := by rw [hg]; exact List.length_filter_le _ _
  have lc : c.length ≤ (deltaV p.1 p.2).length := by rw [hc]; exact List.length_filter_le _ _
  have hmem : ∀ d ∈ g ++ c, d ∈ deltaV p.1 p.2 := fun d hd => by
   rcases List.mem_append.1 hd with hd | hd
   ·rw [hg] at hd
    exact (List.mem_filter.1 hd).1
   ·rw [hc] at hd
    exact (List.mem_filter.1 hd).1
  have hdr : ∀ d ∈ g ++ c, SmR d.fRow := fun d hd => (List.mem_append.1 (deltaV_mem (hmem d hd)).1).elim (sa.2 _) (sb.2 _)
  have hdt : ∀ d ∈ g ++ c, dT d = true ∧ SmR d.fRow := fun d hd => by
   refine ⟨?_, hdr d hd⟩
   obtain ⟨m1, m2, m3, m4⟩ := deltaV_mem (hmem d hd)
   have k1 := many_le p.1 d.fRow
   have k2 := many_le p.2 d.fRow
   have : cntG d.fRow = true := (List.mem_append.1 m1).elim (ha.2.2 _) (hb.2.2 _)
   unfold dT inR
   rw [this, beq_eq_false_iff_ne.2 m3, decide_eq_true (by omega), decide_eq_true (by omega)]
   rfl
  have hgc : g ++ c = deltaL p.1 p.2 ((sortedV (once (p.1 ++ p.2))).filter (fun r => !(decide (many p.2 r > many p.1 r))) ++ (sortedV (once (p.1 ++ p.2))).filter fun r => decide (many p.2 r > many p.1 r)) := by
   rw [hg, hc]
   unfold deltaV
   rw [ra, rb, Bool.and_self, cond_true, split_deltas]
  have hnd : ((sortedV (once (p.1 ++ p.2))).filter (fun r => !(decide (many p.2 r > many p.1 r))) ++ (sortedV (once (p.1 ++ p.2))).filter fun r => decide (many p.2 r > many p.1 r)).Nodup := by
   rw [List.nodup_append]
   refine ⟨(onceS_nodup _).filter _, (onceS_nodup _).filter _, fun x hx y hy hxy => ?_⟩
   subst hxy
   have h1 := (List.mem_filter.1 hx).2
   have h2 := (List.mem_filter.1 hy).2
   rw [h2] at h1
   cases h1
  have hall : ∀ r, r ∈ p.1 ++ p.2 → r ∈ (sortedV (once (p.1 ++ p.2))).filter (fun r => !(decide (many p.2 r > many p.1 r))) ++ (sortedV (once (p.1 ++ p.2))).filter fun r => decide (many p.2 r > many p.1 r) := fun r hr => by
   rw [List.mem_append, List.mem_filter, List.mem_filter]
   cases hd : decide (many p.2 r > many p.1 r) with
   | true => exact .inr ⟨onceS_mem.2 hr, rfl⟩
   | false => exact .inl ⟨onceS_mem.2 hr, rfl⟩
  obtain ⟨o, o1, o2, o3⟩ := deltaL_steps (a := p.1) (b := p.2) _ hnd p.1 fun r _ => rfl
  rw [← hgc] at o1
  have hperm : o.Perm p.2 := perm_of_many fun r => by
   by_cases hr : r ∈ p.1 ++ p.2
   ·exact o2 r (hall r hr)
   ·have n1 : many p.1 r = 0 := by
     by_cases h : many p.1 r = 0
     ·exact h
     ·exact absurd (List.mem_append_left p.2 (many_pos.1 (by omega))) hr
    have n2 : many p.2 r = 0 := by
     by_cases h : many p.2 r = 0
     ·exact h
     ·exact absurd (List.mem_append_right p.1 (many_pos.1 (by omega))) hr
    rw [o3 r fun hm => ?_, n1, n2]
    rcases List.mem_append.1 hm with hm | hm
    ·exact hr (onceS_mem.1 (List.mem_filter.1 hm).1)
    ·exact hr (onceS_mem.1 (List.mem_filter.1 hm).1)
  have hlen : ∀ (i : Nat) (q : RowL), stepsV ((g ++ c).take i) p.1 = some q → q.length ≤ 100 := fun i q hq => by
   have ng : ∀ d ∈ g, d.fMany ≤ 0 := fun d hd => by
    rw [hg] at hd
    have := (List.mem_filter.1 hd).2
    simp at this
    omega
   have nc : ∀ d ∈ c, 0 ≤ d.fMany := fun d hd => by
    rw [hc] at hd
    have := (List.mem_filter.1 hd).2
    simp at this
    omega
   have hol : o.length = p.2.length := hperm.length_eq
   by_cases hi : i ≤ g.length
   ·rw [List.take_append_of_le_length hi] at hq
    have := steps_shrink hq fun d hd => ng d (List.mem_of_mem_take hd)
    omega
   ·have e1 : (g ++ c) = (g ++ c).take i ++ (g ++ c).drop i := (List.take_append_drop i _).symm
    rw [e1, steps_app, hq, Option.bind_some] at o1
    have e2 : (g ++ c).drop i = c.drop (i - g.length) := by rw [List.drop_append, List.drop_of_length_le (by omega), List.nil_append]
    rw [e2] at o1
    have := steps_grow o1 fun d hd => nc d (List.mem_of_mem_drop hd)
    omega
  obtain ⟨xs', g1, g2⟩ := turns_lead (g ++ c) (talF p.1) p.1 o ta ha.2.2 (.inr trivial) o1 hdt hlen
  have hx : xs' = talF p.2 := g2.uniq tb hperm
  have hT : talTurn (talF p.1) (g ++ c) = (talF p.2, true) := by
   unfold talTurn
   rw [ta.tals ha.2.2 (by omega), cond_true, g1, hx]
  rw [app_lt (by omega), Option.bind_some, impl_talTurnL (by omega) (fun x hx => (ta.key x hx).2.2) (by rw [List.length_append]; omega) hdr, Option.bind_some, hT, cond_true, impl_talF hb.2.2 sb (by omega), Option.bind_some, same_tals_refl (by omega) (fun d hd => (tb.key d hd).2.2), Option.bind_some, cond_true, alive_t]
  rfl
 have := loop_opt (xs := deltaV p.1 p.2) (L := fun f i (s : List T_impl_Delta × List T_impl_Delta) => laws_FnTurnedRows_l0 p (talF p.1) (deltaV p.1 p.2) f i s.1 s.2) (fun _ _ => some true)
  (fun i s => s.1.length ≤ i ∧ s.2.length ≤ i ∧ s.1 = ((deltaV p.1 p.2).take i).filter (fun d => decide (d.fMany > 0)) ∧ s.2 = ((deltaV p.1 p.2).take i).filter (fun d => !(decide (d.fMany > 0)))) (by omega)
  (fun f i s v hi hv hw hI => by
   obtain ⟨i1, i2, i3, i4⟩ := hI
   have e : (deltaV p.1 p.2).take (i + 1) = (deltaV p.1 p.2).take i ++ [v] := by rw [List.take_add_one, hv]; rfl
   cases hd : decide (v.fMany > 0) with
   | true =>
    refine .inr ⟨(s.1 ++ [v], s.2), ⟨by simp; omega, by simp only; omega, ?_, ?_⟩, ?_, rfl⟩
    ·rw [e, List.filter_append, i3]
     simp [List.filter_cons, hd]
    ·rw [e, List.filter_append, i4]
     simp [List.filter_cons, hd]
    ·rw [laws_FnTurnedRows_l0, decide_eq_true (by omega), cond_true, getI_nat, hv, Option.bind_some, hd, cond_true, Option.bind_some, app_lt (by simp; omega), Option.bind_some, laws_FnTurnedRows_j1, hw]
   | false =>
    refine .inr ⟨(s.1, s.2 ++ [v]), ⟨by simp only; omega, by simp; omega, ?_, ?_⟩, ?_, rfl⟩
    ·rw [e, List.filter_append, i3]
     simp [List.filter_cons, hd]
    ·rw [e, List.filter_append, i4]
     simp [List.filter_cons, hd]
    ·rw [laws_FnTurnedRows_l0, decide_eq_true (by omega), cond_true, getI_nat, hv, Option.bind_some, hd, cond_false, Option.bind_some, app_lt (by simp; omega), Option.bind_some, laws_FnTurnedRows_j1, hw])
  (fun f s hI => by
   obtain ⟨i1, i2, i3, i4⟩ := hI
   rw [List.take_length] at i3 i4
   rw [laws_FnTurnedRows_l0, decide_eq_false (Int.lt_irrefl _), cond_false]
   exact fin s.2 s.1 i4 i3) (s := ([], [])) ⟨Nat.le_refl _, Nat.le_refl _, rfl, rfl⟩
 exact this
end Go.D
set_option linter.unusedVariables false
namespace Go.D
open Go.ChangeShapes Go.RowKit
theorem trodAll_carry {H : Type} {enc : TypeId × Value → H} {P : Program} {w w' : World} {base : Nat} {sp : Nat → Bool} {held : Bool} : ∀ {ts : List TypeId} {vs : List Value} {ds : List (DataW H)} {ps : List MemPlace},
  DataW.TrodAll enc P w base sp held ts vs ds ps → (∀ p ∈ ps, w.sameAt w' p) → DataW.TrodAll enc P w' base sp held ts vs ds ps
 | [], [], [], _, h, _ => h
 | _ :: _, _ :: _, _ :: _, _, ⟨p, q, ⟨n, hn⟩, h2, e⟩, hs =>
  ⟨p, q, ⟨n, DataW.trod_carry n _ _ _ hn fun x hx => hs x (by rw [e]; exact List.mem_append_left _ hx)⟩, trodAll_carry h2 fun x hx => hs x (by rw [e]; exact List.mem_append_right _ hx), e⟩
theorem Kept.sameAt {w w' : World} (h : Grew w w') {p : MemPlace} (hp : p.block < w.heap.size) : w.sameAt w' p := by
 have hb := h.block p.block hp (fun h => h)
 cases p with
 | cell b off =>
  show w'.cell? ⟨b, off, none⟩ = w.cell? ⟨b, off, none⟩
  unfold World.cell?
  have hb : w'.heap[b]? = w.heap[b]? := hb
  simp only [hb]
 | map b => exact hb
theorem Kept.keptBut {w w' : World} (h : Grew w w') (may : MemPlace → Prop) : w.keptBut w' may := by
 refine ⟨h.os, h.output, fun i hi => ?_⟩
 rw [h.block i hi (fun h => h)]
 cases w.heap[i]? with
 | none => trivial
 | some o => cases o <;> simp
theorem contract_of {P : Program} {fid : FuncId} {fn : Func} {s : ChangeSpec} {tb : TypeId} {H : Type} {enc : TypeId × Value → H}
  (hK : Kids P (· < P.types.size)) (hfull : ∀ t e, t < P.types.size → P.underlying t = some (.slice e) → 0 < P.cellsOf e)
  (hp : ∀ t ∈ fn.params.toList, t < P.types.size) (hv : s.vars = []) (hr : fn.resultTypes = #[tb]) (hb : P.underlying tb = some .bool)
  {n : Nat} (hn : fn.params.toList.length = n) (hs : ∀ ds : List (DataW H), ds.length = n → s.fn H ds = { results := [.lit (.bool true)], args := ds })
  {W : World} {args : Array Value} {ds gs : List (DataW H)} {before : List MemPlace}
  (hlaw : ∀ p, DataW.TrodAll enc P W 0 (fun _ => true) true fn.params.toList args.toList ds p → ∃ ins, FrL W (fun _ => False) ins args.toList ∧ OK P fid ins (B true))
  (hW : DataW.Whole enc P fn.params.toList s.vars false W args.toList ds gs before) :
  Calls P fid args W fun e W' => ∃ v, e = .returned v ∧ s.post enc P fn false true false false W args v W' := by
 have hlt := hW.lt
 have hW' := hW
 obtain ⟨p, q, hA, hV, rfl, hfz, hnd⟩ := hW
 rw [hv] at hV
 obtain ⟨rfl, rfl⟩ := trodVars_none hV
 obtain ⟨ins, h1, h2⟩ := hlaw p hA
 have hlen : ∀ {ts : List TypeId} {vs : List Value} {ds : List (DataW H)} {ps : List MemPlace}, DataW.TrodAll enc P W 0 (fun _ => true) true ts vs ds ps → ds.length = ts.length := by
  intro ts
  induction ts with
  | nil => intro vs ds ps h; obtain ⟨_, rfl, _⟩ := trodAll_nil h; rfl
  | cons t ts ih =>
   intro vs ds ps h
   obtain ⟨_, _, _, _, _, _, rfl, rfl, rfl, _, h⟩ := trodAll_cons h
   simp [ih h]
 have hds : ds.length = n := (hlen hA).trans hn
 have hc := h2.2 W args.toList (fun _ => False) (fun b h => h.elim) h1
 have ha : args.toList.toArray = args := by simp
 rw [ha] at hc
 refine hc.mono fun e W' ⟨v, fp, he, hg, ho, _⟩ => ⟨v, he, ?_⟩
 simp only [B, Ow] at ho
 obtain ⟨rfl, rfl⟩ := ho
 have hsame : ∀ x ∈ p, W.sameAt W' x := fun x hx => Kept.sameAt hg (hlt x (by simpa using hx))
 refine ⟨ds, [], p ++ [], [], p, [], hW', ?_, ?_, ?_, Kept.keptBut hg _, fun h => by cases h⟩
 ·rw [List.append_nil, hs ds hds, hr]
  exact trodAll_mk1 (shut_bool hb true)
 ·rw [List.append_nil, hs ds hds]
  exact trodAll_carry (DataW.TrodAll.respare hK hfull hp hA fun x hx => by
   have := hlt x (by simpa using hx)
   simpa using this) hsame
 ·rw [hv, List.append_nil, hs ds hds]
  rfl
end Go.D
