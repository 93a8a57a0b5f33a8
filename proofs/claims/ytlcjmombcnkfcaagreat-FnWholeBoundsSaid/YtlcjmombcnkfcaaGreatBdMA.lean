import Derived.Test.YtlcjmombcnkfcaaGreatBdDXFB
import Derived.Test.YtlcjmombcnkfcaaGreatBdDShow
import Derived.ChangeArms
import Derived.ChangeShapes
import Derived.Deep.Slices
import Derived.Test.YtlcjmombcnkfcaaGreatBdDOwn3
import Derived.Test.YtlcjmombcnkfcaaGreatBdDZero
import Derived.Test.YtlcjmombcnkfcaaGreatBdDMin
import Derived.Test.YtlcjmombcnkfcaaGreatBdDVal
import Derived.Test.YtlcjmombcnkfcaaGreatBdDSortF
import Derived.Test.YtlcjmombcnkfcaaGreatBdDPrimM
import Derived.Test.YtlcjmombcnkfcaaGreatBdDXT
import Derived.OpenShut
import Derived.ReadAgain
import Derived.ProofKit
set_option linter.unusedVariables false
namespace Go.D
end Go.D
set_option linter.unusedVariables false
namespace Go.D
def Rd (P : Program) (t : TypeId) (α : Type) [Enc α] (W : α → Prop) : Prop :=
 P.cellsOf t = Enc.sz α ∧ ∀ (H : Type) (enc : TypeId × Value → H) (w : World) (base : Nat) (sp : Nat → Bool) (held : Bool) (fuel : Nat) (cs : List Value) (x : DataW H × List MemPlace), DataW.trod enc P w base sp held fuel t cs = some x →
  ∃ y : α, FrL w (fun _ => False) (Enc.cells y) cs ∧ W y
def u8W (_ : UInt8) : Prop := True
def listW {α : Type} (W : α → Prop) (l : List α) : Prop := l.length ≤ 9223372036854775807 ∧ ∀ x ∈ l, W x
section
variable {P : Program}
theorem rd_u8 {t : TypeId} (ht : P.underlying t = some (.int .u8)) (hc : P.cellsOf t = 1) : Rd P t UInt8 u8W := ⟨hc, fun H enc w base sp held fuel cs x h => by
 obtain ⟨n, rfl, _, hw⟩ := DataW.trod_int ht h
 have hn : 0 ≤ n ∧ n ≤ 255 := by simpa [Lit.wf, IntKind.min, IntKind.max, IntKind.signed, IntKind.bits] using hw
 refine ⟨UInt8.ofNat n.toNat, ?_, trivial⟩
 show FrL w _ [.lit (.int .u8 (UInt8.ofNat n.toNat).toNat)] _
 simp only [FrL]
 refine ⟨_, _, rfl, ?_, rfl⟩
 simp only [Fr]
 congr 1
 rw [UInt8.toNat_ofNat']
 omega⟩
theorem eL_flat {α : Type} [Enc α] {w : World} {M : Nat → Prop} : ∀ {ys : List α} {uss : List (List Value)}, ys.length = uss.length → (∀ (i : Nat) (y : α) (us : List Value), ys[i]? = some y → uss[i]? = some us → FrL w M (Enc.cells y) us) → FrL w M (eL ys) uss.flatten
 | [], [], _, _ => by simp [eL, FrL]
 | [], _ :: _, h, _ => by simp at h
 | _ :: _, [], h, _ => by simp at h
 | y :: ys, us :: uss, h, k => by
  simp only [eL, List.flatten_cons]
  exact FrL.append (k 0 y us rfl rfl) (eL_flat (by simpa using h) fun i y' us' h1 h2 => k (i + 1) y' us' (by simpa using h1) (by simpa using h2))
theorem flat_get {sz : Nat} (hsz : 0 < sz) : ∀ {uss : List (List Value)}, (∀ us ∈ uss, us.length = sz) → ∀ {j : Nat} {v : Value}, uss.flatten[j]? = some v → ∃ us, uss[j / sz]? = some us ∧ us[j % sz]? = some v
 | [], _, j, v, h => by simp at h
 | us :: uss, hl, j, v, h => by
  have h0 : us.length = sz := hl us (by simp)
  simp only [List.flatten_cons] at h
  rcases Nat.lt_or_ge j sz with hj | hj
  ·rw [List.getElem?_append_left (by omega)] at h
   refine ⟨us, by rw [Nat.div_eq_of_lt hj]; rfl, by rw [Nat.mod_eq_of_lt hj]; exact h⟩
  ·rw [List.getElem?_append_right (by omega), h0] at h
   obtain ⟨us', h1, h2⟩ := flat_get hsz (fun us' hu => hl us' (by simp [hu])) h
   refine ⟨us', ?_, ?_⟩
   ·have : j / sz = (j - sz) / sz + 1 := by rw [Nat.div_eq_sub_div hsz hj]
    rw [this]
    simpa using h1
   ·rw [Nat.mod_eq_sub_mod hj]; exact h2
theorem rd_slice {t e : TypeId} {α : Type} [Enc α] {W : α → Prop} (ht : P.underlying t = some (.slice e)) (hc : P.cellsOf t = 1) (he : Rd P e α W) : Rd P t (List α) (listW W) := ⟨hc, fun H enc w base sp held fuel cs x h => by
 obtain ⟨hce, he⟩ := he
 have hpos : 0 < Enc.sz α := Enc.pos
 have fin : ∀ (ys : List α) (v : Value), Fr w (fun _ => False) (A ys) v → listW W ys → ∃ y : List α, FrL w (fun _ => False) (Enc.cells y) [v] ∧ listW W y := fun ys v h1 h2 => ⟨ys, by
  show FrL w _ [A ys] _
  simp only [FrL]
  exact ⟨_, _, rfl, h1, rfl⟩, h2⟩
 rcases Go.Deep.open_slice ht h with ⟨rfl, _⟩ | ⟨a, len, cap, m, n, D, Pl, rfl, hb, hl, hm, hmm, _, hx⟩
 ·exact fin [] _ (Fr.nil w _ _ hpos) ⟨by simp, by simp⟩
 ·have hcapm : cap ≤ maxI := by simpa [maxLen, maxI] using hm
  by_cases h0 : len = 0
  ·subst h0
   refine fin [] _ ?_ ⟨by simp, by simp⟩
   simp only [Fr]
   exact ⟨some a, cap, rfl, ⟨hpos, by simp [eL], by simp, hcapm, fun h => by cases h⟩, .inl rfl⟩
  ·have hlm : len ≤ m := by rw [hmm]; split <;> omega
   have hel : ∀ i, i < len → ∃ p : List Value × α, w.cells? base (a.add (i * P.cellsOf e)) (P.cellsOf e) = some p.1 ∧ FrL w (fun _ => False) (Enc.cells p.2) p.1 ∧ W p.2 := by
    intro i hi
    obtain ⟨cs', h1, h2⟩ := hx i (by omega)
    obtain ⟨y, h3, h4⟩ := he H enc w base sp held n cs' _ h2
    exact ⟨(cs', y), h1, h3, h4⟩
   obtain ⟨p0, hp0⟩ := hel 0 (by omega)
   haveI : Inhabited (List Value × α) := ⟨p0⟩
   obtain ⟨F, hF⟩ := Go.Deep.choose_lt (α := List Value × α) (p := fun i p => w.cells? base (a.add (i * P.cellsOf e)) (P.cellsOf e) = some p.1 ∧ FrL w (fun _ => False) (Enc.cells p.2) p.1 ∧ W p.2) hel
   let ys : List α := (List.range len).map fun i => (F i).2
   let uss : List (List Value) := (List.range len).map fun i => (F i).1
   have hul : ∀ us ∈ uss, us.length = Enc.sz α := by
    intro us hu
    obtain ⟨i, hi, rfl⟩ := List.mem_map.1 hu
    have := (World.cells?_some (hF i (List.mem_range.1 hi)).1).2.1
    rw [this, hce]
   have hys : ys.length = len := by simp [ys]
   have hfl : FrL w (fun _ => False) (eL ys) uss.flatten := eL_flat (by simp [ys, uss]) fun i y us h1 h2 => by
    simp only [ys, uss, List.getElem?_map] at h1 h2
    have hi : i < len := by
     cases hr : (List.range len)[i]? with
     | none => rw [hr] at h1; cases h1
     | some k => have := (List.getElem?_eq_some_iff.1 hr).1; simpa using this
    rw [List.getElem?_range hi] at h1 h2
    simp only [Option.map_some, Option.some.injEq] at h1 h2
    rw [← h1, ← h2]
    exact (hF i hi).2.1
   have hul0 : ((F 0).1).length = Enc.sz α := hul _ (List.mem_map.2 ⟨0, by simp; omega, rfl⟩)
   have h00 : ∃ v, w.cell? a = some v := by
    have h1 := (World.cells?_some (hF 0 (by omega)).1).2.2 0 (by rw [hce]; exact hpos)
    rw [List.getElem?_eq_getElem (by omega)] at h1
    refine ⟨_, Eq.trans ?_ h1⟩
    simp [Addr.add]
   obtain ⟨v00, hv00⟩ := h00
   have hspot : a.spot = none := World.cell?_spot hv00
   obtain ⟨ab, ao, as_⟩ := a
   simp only at hspot
   subst hspot
   have hcell : ∀ i j, i < len → j < Enc.sz α → w.cell? ⟨ab, ao + (i * Enc.sz α + j), none⟩ = ((F i).1)[j]? := by
    intro i j hi hj
    have := (World.cells?_some (hF i hi).1).2.2 j (by rw [hce]; exact hj)
    rw [hce] at this
    rw [← this]
    congr 1
    unfold Addr.add
    split <;> split <;> simp_all <;> omega
   refine fin ys _ ?_ ⟨by rw [hys]; simp only [maxI] at hcapm; omega, fun y hy => by
    obtain ⟨i, hi, rfl⟩ := List.mem_map.1 hy
    exact (hF i (List.mem_range.1 hi)).2.2⟩
   simp only [Fr]
   refine ⟨some ⟨ab, ao, none⟩, cap, by rw [hys], ⟨hpos, by rw [eL_len], by rw [hys]; exact hl, hcapm, fun h => by cases h⟩, .inr ⟨ab, ao, uss.flatten, rfl, World.block_lt_of_cell? _ _ hv00, fun h => h, hfl, fun j hj => ?_⟩⟩
   obtain ⟨us, h1, h2⟩ := flat_get hpos hul (List.getElem?_eq_getElem hj)
   have hi : j / Enc.sz α < len := by
    have := (List.getElem?_eq_some_iff.1 h1).1
    simpa [uss] using this
   simp only [uss, List.getElem?_map, List.getElem?_range hi, Option.map_some, Option.some.injEq] at h1
   have := hcell (j / Enc.sz α) (j % Enc.sz α) hi (Nat.mod_lt _ hpos)
   rw [h1, h2] at this
   have e1 : j / Enc.sz α * Enc.sz α + j % Enc.sz α = j := by rw [Nat.mul_comm]; exact Nat.div_add_mod j _
   rw [e1] at this
   rw [List.getElem?_eq_getElem hj, ← this]⟩
end
end Go.D
set_option linter.unusedVariables false
namespace Go.D
theorem w64_of {n : Int} (h1 : -9223372036854775808 ≤ n) (h2 : n ≤ 9223372036854775807) : w64 n = n := by
 have hm : IntKind.i64.min = -9223372036854775808 := by decide
 have hM : IntKind.i64.max = 9223372036854775807 := by decide
 simp [w64, IntKind.wrap, IntKind.signed, IntKind.bits]
 omega
theorem getI_nat {α : Type} {xs : List α} {i : Nat} : getI xs (i : Int) = xs[i]? := by
 unfold getI
 rw [if_pos (by omega), Int.toNat_natCast]
theorem getI_lt {α : Type} {xs : List α} {i : Int} (h0 : 0 ≤ i) (h1 : i < xs.length) : ∃ x, getI xs i = some x ∧ xs[i.toNat]? = some x := by
 unfold getI
 rw [if_pos h0]
 have : i.toNat < xs.length := by omega
 exact ⟨xs[i.toNat], by rw [List.getElem?_eq_getElem this], by rw [List.getElem?_eq_getElem this]⟩
theorem app_lt {α : Type} {xs ys : List α} (h : xs.length + ys.length < 68719476736) : app xs ys = some (xs ++ ys) := if_pos h
theorem succ_w {i n : Nat} (h : i < n) (hn : n ≤ 70368744177663) : w64 ((i : Int) + 1) = ((i + 1 : Nat) : Int) := by
 rw [w64_of (by omega) (by omega)]
 omega
theorem loop_all {α : Type} {xs : List α} {L : Nat → Int → Option Bool} {p : α → Bool} {fin : Bool} (hlen : xs.length ≤ 70368744177662)
  (h : ∀ (f i : Nat) (v : α), i < xs.length → xs[i]? = some v → w64 ((i : Int) + 1) = ((i + 1 : Nat) : Int) → L (f + 1) i = bif p v then L f ((i + 1 : Nat) : Int) else some false)
  (he : ∀ f, L (f + 1) (xs.length : Int) = some fin) : L FUEL 0 = some (xs.all p && fin) := by
 have main : ∀ (k f i : Nat), i + k = xs.length → k < f → L f (i : Int) = some ((xs.drop i).all p && fin) := by
  intro k
  induction k with
  | zero =>
   intro f i hi hf
   obtain ⟨f, rfl⟩ : ∃ f', f = f' + 1 := ⟨f - 1, by omega⟩
   have : i = xs.length := by omega
   subst this
   rw [he, List.drop_length]
   simp
  | succ k ih =>
   intro f i hi hf
   obtain ⟨f, rfl⟩ : ∃ f', f = f' + 1 := ⟨f - 1, by omega⟩
   have hlt : i < xs.length := by omega
   rw [h f i xs[i] hlt (List.getElem?_eq_getElem hlt) (succ_w hlt (by omega)), ih f (i + 1) (by omega) (by omega), List.drop_eq_getElem_cons hlt, List.all_cons]
   cases p xs[i] <;> simp
 have := main xs.length FUEL 0 (by omega) (by unfold FUEL; omega)
 simpa using this
theorem loop_find {α : Type} {xs : List α} {L : Nat → Int → Option Int} {p : α → Bool} (hlen : xs.length ≤ 70368744177662)
  (h : ∀ (f i : Nat) (v : α), i < xs.length → xs[i]? = some v → w64 ((i : Int) + 1) = ((i + 1 : Nat) : Int) → L (f + 1) i = bif p v then some (i : Int) else L f ((i + 1 : Nat) : Int))
  (he : ∀ f, L (f + 1) (xs.length : Int) = some (-1)) : ∃ r, L FUEL 0 = some r ∧ decide (r ≥ 0) = xs.any p := by
 have main : ∀ (k f i : Nat), i + k = xs.length → k < f → ∃ r, L f (i : Int) = some r ∧ decide (r ≥ 0) = (xs.drop i).any p := by
  intro k
  induction k with
  | zero =>
   intro f i hi hf
   obtain ⟨f, rfl⟩ : ∃ f', f = f' + 1 := ⟨f - 1, by omega⟩
   have : i = xs.length := by omega
   subst this
   rw [he, List.drop_length]
   exact ⟨_, rfl, by simp⟩
  | succ k ih =>
   intro f i hi hf
   obtain ⟨f, rfl⟩ : ∃ f', f = f' + 1 := ⟨f - 1, by omega⟩
   have hlt : i < xs.length := by omega
   rw [h f i xs[i] hlt (List.getElem?_eq_getElem hlt) (succ_w hlt (by omega)), List.drop_eq_getElem_cons hlt, List.any_cons]
   cases hp : p xs[i] with
   | true => exact ⟨_, rfl, by simp⟩
   | false =>
    obtain ⟨r, h1, h2⟩ := ih f (i + 1) (by omega) (by omega)
    exact ⟨r, h1, by simp [h2]⟩
 have := main xs.length FUEL 0 (by omega) (by unfold FUEL; omega)
 simpa using this
end Go.D
set_option linter.unusedVariables false
namespace Go.D
abbrev Sm (n : Nat) : Prop := n ≤ 2097152
def inR (a b c : Int) : Bool := decide (b ≤ a) && decide (a ≤ c)
theorem spec_in (a b c : Int) : spec_l1In a b c = some (inR a b c) := by
 unfold spec_l1In inR
 by_cases h : b ≤ a <;> simp [h]
theorem impl_in (a b c : Int) : impl_between a b c = some (inR a b c) := by
 unfold impl_between inR
 by_cases h : b ≤ a <;> simp [h]
def colsOk (cs : List T_impl_Column) : Bool := cs.all (fun c => inR c.fKind 1 3) && decide (cs.length ≤ 4)
theorem impl_colsAny {cs : List T_impl_Column} (h : Sm cs.length) : slices_ContainsFunc_impl_Column_impl_Column cs impl_ColumnsOk_1 = some (cs.any fun c => !(inR c.fKind 1 3)) := by
 unfold slices_ContainsFunc_impl_Column_impl_Column slices_IndexFunc_impl_Column_impl_Column
 obtain ⟨r, h1, h2⟩ := loop_find (xs := cs) (L := slices_IndexFunc_impl_Column_impl_Column_l0 cs impl_ColumnsOk_1) (p := fun c => !(inR c.fKind 1 3)) (by omega) (fun f i v hi hv hw => by
  have : (i : Int) < cs.length := by omega
  simp only [slices_IndexFunc_impl_Column_impl_Column_l0, this, decide_true, cond_true, getI_nat, hv, Option.bind_some, impl_ColumnsOk_1, impl_in, hw]) (fun f => by
  simp only [slices_IndexFunc_impl_Column_impl_Column_l0, Int.lt_irrefl, decide_false, cond_false])
 rw [h1, Option.bind_some, h2]
theorem not_any_not {α : Type} (xs : List α) (p : α → Bool) : (!(xs.any fun x => !(p x))) = xs.all p := by
 induction xs with
 | nil => rfl
 | cons x xs ih => simp [← ih]
theorem impl_colsOk {cs : List T_impl_Column} (h : Sm cs.length) : impl_ColumnsOk cs = some (colsOk cs) := by
 unfold impl_ColumnsOk colsOk
 rw [impl_colsAny h, Option.bind_some, not_any_not]
 by_cases h4 : cs.length ≤ 4
 ·have : (cs.length : Int) ≤ 4 := by omega
  simp [h4, this]
 ·have : ¬ (cs.length : Int) ≤ 4 := by omega
  simp [h4, this]
theorem cast_le6 (n : Nat) : decide ((n : Int) ≤ 6) = decide (n ≤ 6) := by
 simp only [decide_eq_decide]
 omega
theorem getB_nat {s : ByteArray} {i : Nat} : getB s (i : Int) = s.data.toList[i]? := by
 unfold getB
 rw [if_pos (by omega), Int.toNat_natCast]
 by_cases h : i < s.size
 ·rw [getElem?_pos s i h, List.getElem?_eq_getElem (by simpa using h)]
  simp only [Option.some.injEq]
  rfl
 ·rw [getElem?_neg s i h, List.getElem?_eq_none (by simpa using h)]
def letter (b : UInt8) : Bool := decide (97 ≤ b.toNat) && decide (b.toNat ≤ 122)
def textOk (s : ByteArray) : Bool := s.data.toList.all letter && decide (s.size ≤ 6)
theorem size_list (s : ByteArray) : s.data.toList.length = s.size := Array.length_toList
theorem spec_text {s : ByteArray} (h : Sm s.size) : spec_l1Text s = some (textOk s) := by
 unfold spec_l1Text textOk
 have hl := size_list s
 refine loop_all (xs := s.data.toList) (by omega) (fun f i v hi hv hw => ?_) (fun f => ?_)
 ·have : (i : Int) < s.size := by omega
  simp only [spec_l1Text_l0, this, decide_true, cond_true, getB_nat, hv, Option.bind_some, spec_l1Text_j1, hw]
  unfold letter
  by_cases h1 : (v.toNat : Int) < 97
  ·have : ¬ 97 ≤ v.toNat := by omega
   simp [h1, this]
  ·have h1' : 97 ≤ v.toNat := by omega
   by_cases h2 : (v.toNat : Int) > 122
   ·have : ¬ v.toNat ≤ 122 := by omega
    simp [h1, h1', h2, this]
   ·have : v.toNat ≤ 122 := by omega
    simp [h1, h1', h2, this]
 ·rw [hl]
  unfold spec_l1Text_l0
  rw [show decide ((s.size : Int) < (s.size : Int)) = false from decide_eq_false (Int.lt_irrefl _), cond_false, cast_le6]
theorem impl_lettersOk {s : ByteArray} (h : Sm s.size) : impl_letters s = some (s.data.toList.all letter) := by
 have hl := size_list s
 unfold impl_letters bytesOf
 rw [if_pos (by omega), Option.bind_some, ← Bool.and_true (s.data.toList.all letter)]
 refine loop_all (xs := s.data.toList) (by omega) (fun f i v hi hv hw => ?_) (fun f => ?_)
 ·have : (i : Int) < s.data.toList.length := by omega
  have hb : v.toNat < 256 := v.toNat_lt
  have h1 : w64 (v.toNat : Int) = v.toNat := w64_of (by omega) (by omega)
  simp only [impl_letters_l0, this, decide_true, cond_true, getI_nat, hv, Option.bind_some, impl_in, hw, h1]
  have : inR (v.toNat : Int) 97 122 = letter v := by
   unfold inR letter
   congr 1 <;> simp only [decide_eq_decide] <;> omega
  rw [this]
  cases letter v <;> rfl
 ·simp only [impl_letters_l0, Int.lt_irrefl, decide_false, cond_false]
def valOk (v : T_impl_Value) : Bool := bif v.fKind == 0 then v.fN == 0 && v.fS.toList == (ByteArray.mk #[]).toList else bif v.fKind == 1 then inR v.fN (-9999) 9999 && v.fS.toList == (ByteArray.mk #[]).toList else
 bif v.fKind == 2 then v.fN == 0 && textOk v.fS else bif v.fKind == 3 then inR v.fN 0 1 && v.fS.toList == (ByteArray.mk #[]).toList else false
theorem spec_value {v : T_impl_Value} (h : Sm v.fS.size) : spec_ValueOk v = some (valOk v) := by
 unfold spec_ValueOk valOk
 simp only [spec_in, spec_text h, Option.bind_some]
 cases v.fKind == 0 <;> cases v.fKind == 1 <;> cases v.fKind == 2 <;> cases v.fKind == 3 <;> cases v.fN == 0 <;> cases inR v.fN (-9999) 9999 <;> cases inR v.fN 0 1 <;> rfl
theorem impl_value {v : T_impl_Value} (h : Sm v.fS.size) : impl_Value_ok v = some (valOk v) := by
 unfold impl_Value_ok valOk
 simp only [impl_in, impl_lettersOk h, Option.bind_some]
 have e : eq_T_impl_Value v ((T_impl_Value.mk 0 0 (ByteArray.mk #[]))) = (v.fKind == 0 && (v.fN == 0 && v.fS.toList == (ByteArray.mk #[]).toList)) := rfl
 have e2 : decide ((v.fS.size : Int) ≤ 6) = decide (v.fS.size ≤ 6) := by
  simp only [decide_eq_decide]
  omega
 have e3 : textOk v.fS = (v.fS.data.toList.all letter && decide (v.fS.size ≤ 6)) := rfl
 rw [e, e2, e3]
 cases v.fKind == 0 <;> cases v.fKind == 1 <;> cases v.fKind == 2 <;> cases v.fKind == 3 <;> cases v.fN == 0 <;> cases inR v.fN (-9999) 9999 <;> cases inR v.fN 0 1 <;> cases v.fS.toList == (ByteArray.mk #[]).toList <;>
  cases decide (v.fS.size ≤ 6) <;> cases v.fS.data.toList.all letter <;> rfl
def SmV (v : T_impl_Value) : Prop := Sm v.fS.size
def SmR (r : List T_impl_Value) : Prop := Sm r.length ∧ ∀ v ∈ r, SmV v
def rowOk (r : List T_impl_Value) : Bool := r.all valOk && decide (r.length ≤ 4)
theorem spec_rowOk {r : List T_impl_Value} (h : SmR r) : spec_RowOk r = some (rowOk r) := by
 unfold spec_RowOk rowOk
 have hl := h.1
 refine loop_all (by omega) (fun f i v hi hv hw => ?_) (fun f => ?_)
 ·have : (i : Int) < r.length := by omega
  simp only [spec_RowOk_l0, this, decide_true, cond_true, getI_nat, hv, Option.bind_some, spec_value (h.2 v (List.mem_of_getElem? hv)), hw]
  cases valOk v <;> rfl
 ·simp only [spec_RowOk_l0, Int.lt_irrefl, decide_false, cond_false]
  congr 1
  simp only [decide_eq_decide]
  omega
theorem impl_rowAny {r : List T_impl_Value} (h : SmR r) : slices_ContainsFunc_impl_Value_impl_Value r impl_RowOk_1 = some (r.any fun v => !(valOk v)) := by
 unfold slices_ContainsFunc_impl_Value_impl_Value slices_IndexFunc_impl_Value_impl_Value
 have hl := h.1
 obtain ⟨x, h1, h2⟩ := loop_find (xs := r) (L := slices_IndexFunc_impl_Value_impl_Value_l0 r impl_RowOk_1) (p := fun v => !(valOk v)) (by omega) (fun f i v hi hv hw => by
  have : (i : Int) < r.length := by omega
  simp only [slices_IndexFunc_impl_Value_impl_Value_l0, this, decide_true, cond_true, getI_nat, hv, Option.bind_some, impl_RowOk_1, impl_value (h.2 v (List.mem_of_getElem? hv)), hw]) (fun f => by
  simp only [slices_IndexFunc_impl_Value_impl_Value_l0, Int.lt_irrefl, decide_false, cond_false])
 rw [h1, Option.bind_some, h2]
theorem le4 {α : Type} (xs : List α) : decide ((xs.length : Int) ≤ 4) = decide (xs.length ≤ 4) := by
 simp only [decide_eq_decide]
 omega
theorem impl_rowOk {r : List T_impl_Value} (h : SmR r) : impl_RowOk r = some (rowOk r) := by
 unfold impl_RowOk rowOk
 rw [impl_rowAny h, Option.bind_some, not_any_not, le4]
 cases decide (r.length ≤ 4) <;> simp
def fits (c : T_impl_Column) (v : T_impl_Value) : Bool := v.fKind == c.fKind || (v.fKind == 0 && c.fEmpty)
def rowFits (cs : List T_impl_Column) (r : List T_impl_Value) : Bool := colsOk cs && (rowOk r && (r.length == cs.length && (r.zip cs).all fun p => fits p.2 p.1))
theorem zip_get {α β : Type} {xs : List α} {ys : List β} (h : xs.length = ys.length) {i : Nat} {p : α × β} (hp : (xs.zip ys)[i]? = some p) : xs[i]? = some p.1 ∧ ys[i]? = some p.2 := by
 rw [List.getElem?_zip_eq_some] at hp
 exact hp
theorem impl_rowFits {cs : List T_impl_Column} {r : List T_impl_Value} (hc : Sm cs.length) (h : SmR r) : impl_RowFits cs r = some (rowFits cs r) := by
 unfold impl_RowFits rowFits
 rw [impl_colsOk hc, Option.bind_some, impl_rowOk h, Option.bind_some]
 cases colsOk cs
 ·rfl
 ·cases rowOk r
  ·rfl
  ·by_cases he : r.length = cs.length
   ·have e1 : ((r.length : Int) == (cs.length : Int)) = true := by simp [he]
    have e2 : (r.length == cs.length) = true := by simp [he]
    rw [e1, e2]
    simp only [Bool.not_true, cond_false, impl_RowFits_j0, Bool.true_and]
    have hl := h.1
    have hz : (r.zip cs).length = r.length := by simp [he]
    rw [show (r.zip cs).all (fun p => fits p.2 p.1) = ((r.zip cs).all (fun p => fits p.2 p.1) && true) by simp]
    refine loop_all (xs := r.zip cs) (by omega) (fun f i p hi hp hw => ?_) (fun f => ?_)
    ·obtain ⟨p1, p2⟩ := zip_get he hp
     have : (i : Int) < r.length := by omega
     simp only [impl_RowFits_l1, this, decide_true, cond_true, getI_nat, p1, p2, Option.bind_some, impl_RowFits_j2, hw, fits]
     cases p.1.fKind == p.2.fKind <;> cases p.1.fKind == 0 <;> cases p.2.fEmpty <;> rfl
    ·rw [hz]
     simp only [impl_RowFits_l1, Int.lt_irrefl, decide_false, cond_false]
   ·have e1 : ((r.length : Int) == (cs.length : Int)) = false := by
     simp only [beq_eq_false_iff_ne, ne_eq]
     omega
    have e2 : (r.length == cs.length) = false := by simp [he]
    rw [e1, e2]
    rfl
def SmRs (rs : List (List T_impl_Value)) : Prop := Sm rs.length ∧ ∀ r ∈ rs, SmR r
def rowsOk (cs : List T_impl_Column) (rs : List (List T_impl_Value)) : Bool := colsOk cs && rs.all (rowFits cs)
theorem impl_rowsAny {cs : List T_impl_Column} {rs : List (List T_impl_Value)} (hc : Sm cs.length) (h : SmRs rs) : slices_ContainsFunc_impl_Value_impl_Value_s3 rs (fun z0 => impl_RowsOk_1 z0 cs) = some (rs.any fun r => !(rowFits cs r)) := by
 unfold slices_ContainsFunc_impl_Value_impl_Value_s3 slices_IndexFunc_impl_Value_impl_Value_s3
 have hl := h.1
 obtain ⟨x, h1, h2⟩ := loop_find (xs := rs) (L := slices_IndexFunc_impl_Value_impl_Value_s3_l0 rs (fun z0 => impl_RowsOk_1 z0 cs)) (p := fun r => !(rowFits cs r)) (by omega) (fun f i v hi hv hw => by
  have : (i : Int) < rs.length := by omega
  simp only [slices_IndexFunc_impl_Value_impl_Value_s3_l0, this, decide_true, cond_true, getI_nat, hv, Option.bind_some, impl_RowsOk_1, impl_rowFits hc (h.2 v (List.mem_of_getElem? hv)), hw]) (fun f => by
  simp only [slices_IndexFunc_impl_Value_impl_Value_s3_l0, Int.lt_irrefl, decide_false, cond_false])
 rw [h1, Option.bind_some, h2]
theorem impl_rowsOk {cs : List T_impl_Column} {rs : List (List T_impl_Value)} (hc : Sm cs.length) (h : SmRs rs) : impl_RowsOk cs rs = some (rowsOk cs rs) := by
 unfold impl_RowsOk rowsOk
 rw [impl_colsOk hc, Option.bind_some, impl_rowsAny hc h, Option.bind_some, not_any_not]
 cases colsOk cs <;> rfl
end Go.D
set_option linter.unusedVariables false
namespace Go.D
theorem loop_opt {α σ β : Type} {xs : List α} {L : Nat → Int → σ → Option β} (R : List α → σ → Option β) (Inv : Nat → σ → Prop) (hlen : xs.length ≤ 70368744177662)
  (h : ∀ (f i : Nat) (s : σ) (v : α), i < xs.length → xs[i]? = some v → w64 ((i : Int) + 1) = ((i + 1 : Nat) : Int) → Inv i s →
   L (f + 1) i s = R (v :: xs.drop (i + 1)) s ∨ ∃ s', Inv (i + 1) s' ∧ L (f + 1) i s = L f ((i + 1 : Nat) : Int) s' ∧ R (v :: xs.drop (i + 1)) s = R (xs.drop (i + 1)) s')
  (he : ∀ f s, Inv xs.length s → L (f + 1) (xs.length : Int) s = R [] s) {s : σ} (h0 : Inv 0 s) : L FUEL 0 s = R xs s := by
 have main : ∀ (k f i : Nat) (s : σ), i + k = xs.length → k < f → Inv i s → L f (i : Int) s = R (xs.drop i) s := by
  intro k
  induction k with
  | zero =>
   intro f i s hi hf hI
   obtain ⟨f, rfl⟩ : ∃ f', f = f' + 1 := ⟨f - 1, by omega⟩
   have : i = xs.length := by omega
   subst this
   rw [he _ _ hI, List.drop_length]
  | succ k ih =>
   intro f i s hi hf hI
   obtain ⟨f, rfl⟩ : ∃ f', f = f' + 1 := ⟨f - 1, by omega⟩
   have hlt : i < xs.length := by omega
   rw [List.drop_eq_getElem_cons hlt]
   rcases h f i s xs[i] hlt (List.getElem?_eq_getElem hlt) (succ_w hlt (by omega)) hI with h1 | ⟨s', h1, h2, h3⟩
   ·exact h1
   ·rw [h2, h3]
    exact ih f (i + 1) s' (by omega) (by omega) h1
 have := main xs.length FUEL 0 s (by omega) (by unfold FUEL; omega) h0
 simpa using this
end Go.D
set_option linter.unusedVariables false
namespace Go.D
theorem loop_idx {n : Nat} {L : Nat → Int → Option Bool} {p : Nat → Bool} {fin : Bool} (hn : n ≤ 70368744177662)
  (h : ∀ (f i : Nat), i < n → w64 ((i : Int) + 1) = ((i + 1 : Nat) : Int) → L (f + 1) i = bif p i then L f ((i + 1 : Nat) : Int) else some false)
  (he : ∀ f, L (f + 1) (n : Int) = some fin) : L FUEL 0 = some ((List.range n).all p && fin) := by
 refine loop_all (xs := List.range n) (by simpa using hn) (fun f i v hi hv hw => ?_) (by simpa using he)
 have hi' : i < n := by simpa using hi
 have : v = i := by
  rw [List.getElem?_range hi'] at hv
  exact (Option.some.inj hv).symm
 rw [this]
 exact h f i hi' hw
end Go.D
set_option linter.unusedVariables false
namespace Go.D
def verG (v : T_impl_Version) : Bool := inR v.fKey 0 4 && (inR v.fBorn 1 40 && ((v.fDied == 0 || inR v.fDied (w64 (v.fBorn + 1)) 40) && rowOk v.fRow))
def adjG (w v : T_impl_Version) : Bool := !(decide (w.fKey ≥ v.fKey) && (decide (w.fKey > v.fKey) || (w.fDied == 0 || decide (w.fDied > v.fBorn))))
def adjI (w v : T_impl_Version) : Bool := !(decide (w.fKey > v.fKey) || (w.fKey == v.fKey && (decide (w.fBorn ≥ v.fBorn) || (w.fDied == 0 || decide (w.fDied > v.fBorn)))))
def verP (adj : T_impl_Version → T_impl_Version → Bool) (xs : List T_impl_Version) (i : Nat) : Bool := match xs[i]? with
 | some v => verG v && (i == 0 || match xs[i - 1]? with | some w => adj w v | none => true)
 | none => true
def vOk (xs : List T_impl_Version) : Bool := (List.range xs.length).all (verP adjG xs) && decide (xs.length ≤ 60)
def SmVers (xs : List T_impl_Version) : Prop := Sm xs.length ∧ ∀ v ∈ xs, SmR v.fRow
theorem spec_verG {v : T_impl_Version} (h : SmR v.fRow) : spec_l13Version v = some (verG v) := by
 unfold spec_l13Version verG
 simp only [spec_in, spec_rowOk h, Option.bind_some]
 cases inR v.fKey 0 4 <;> cases inR v.fBorn 1 40 <;> cases v.fDied == 0 <;> cases inR v.fDied (w64 (v.fBorn + 1)) 40 <;> rfl
theorem spec_vOk {xs : List T_impl_Version} (h : SmVers xs) : spec_VersionsOk xs = some (vOk xs) := by
 have hl := h.1
 unfold spec_VersionsOk vOk
 refine loop_idx (by omega) (fun f i hi hw => ?_) (fun f => ?_)
 ·have hv : xs[i]? = some xs[i] := List.getElem?_eq_getElem hi
  have hg : getI xs (i : Int) = some xs[i] := by rw [getI_nat, hv]
  rw [spec_VersionsOk_l0, decide_eq_true (by omega), cond_true, hg, Option.bind_some, spec_verG (h.2 _ (List.getElem_mem hi)), Option.bind_some]
  unfold verP
  rw [hv]
  simp only
  cases verG xs[i] with
  | false => rfl
  | true =>
   rw [Bool.not_true, cond_false, Bool.true_and]
   by_cases h0 : i = 0
   ·subst h0
    rw [decide_eq_false (show ¬ (((0 : Nat) : Int) > 0) by omega), cond_false, spec_VersionsOk_j1, cond_false, hw]
    rfl
   ·have hi1 : i - 1 < xs.length := by omega
    have hw1 : w64 ((i : Int) - 1) = ((i - 1 : Nat) : Int) := by rw [w64_of (by omega) (by omega)]; omega
    have hv1 : xs[i - 1]? = some xs[i - 1] := List.getElem?_eq_getElem hi1
    have hg1 : getI xs (w64 ((i : Int) - 1)) = some xs[i - 1] := by rw [hw1, getI_nat, hv1]
    have e0 : (i == 0) = false := by simpa using h0
    rw [decide_eq_true (show (i : Int) > 0 by omega), cond_true, hv1, e0]
    simp only [hg, hg1, Option.bind_some, Bool.false_or, adjG, spec_VersionsOk_j1, hw]
    cases decide (xs[i - 1].fKey ≥ xs[i].fKey) <;> cases decide (xs[i - 1].fKey > xs[i].fKey) <;> cases xs[i - 1].fDied == 0 <;> cases decide (xs[i - 1].fDied > xs[i].fBorn) <;> rfl
 ·have e : decide ((xs.length : Int) ≤ 60) = decide (xs.length ≤ 60) := decide_eq_decide.2 (by omega)
  rw [spec_VersionsOk_l0, decide_eq_false (Int.lt_irrefl _), cond_false, e]
theorem adj_same {w v : T_impl_Version} (h : verG w = true) : adjI w v = adjG w v := by
 unfold verG at h
 simp only [Bool.and_eq_true, Bool.or_eq_true] at h
 obtain ⟨_, h2, h3, _⟩ := h
 unfold inR at h2 h3
 simp only [Bool.and_eq_true, decide_eq_true_eq, beq_iff_eq] at h2 h3
 have hw : w64 (w.fBorn + 1) = w.fBorn + 1 := w64_of (by omega) (by omega)
 rw [hw] at h3
 unfold adjI adjG
 rw [Bool.eq_iff_iff]
 simp only [Bool.not_eq_true', Bool.or_eq_false_iff, Bool.and_eq_false_iff, decide_eq_false_iff_not, beq_eq_false_iff_ne]
 omega
theorem all_same {xs : List T_impl_Version} : (List.range xs.length).all (verP adjI xs) = (List.range xs.length).all (verP adjG xs) := by
 have key : ∀ n, n ≤ xs.length → (List.range n).all (verP adjI xs) = (List.range n).all (verP adjG xs) := by
  intro n
  induction n with
  | zero => exact fun _ => rfl
  | succ n ih =>
   intro hn
   rw [List.range_succ, List.all_append, List.all_append, ih (by omega)]
   cases hall : (List.range n).all (verP adjG xs) with
   | false => rfl
   | true =>
    simp only [List.all_cons, List.all_nil, Bool.and_true, Bool.true_and]
    unfold verP
    rw [List.getElem?_eq_getElem (by omega)]
    simp only
    by_cases h0 : n = 0
    ·subst h0
     rfl
    ·have hg : verG xs[n - 1] = true := by
      have := List.all_eq_true.1 hall (n - 1) (List.mem_range.2 (by omega))
      unfold verP at this
      rw [List.getElem?_eq_getElem (by omega)] at this
      simp only [Bool.and_eq_true] at this
      exact this.1
     rw [List.getElem?_eq_getElem (by omega)]
     simp only [adj_same hg]
 exact key _ (Nat.le_refl _)
theorem impl_vOk {xs : List T_impl_Version} (h : SmVers xs) : impl_VersionsOk xs = some (vOk xs) := by
 have hl := h.1
 unfold impl_VersionsOk vOk
 rw [← all_same]
 refine loop_idx (by omega) (fun f i hi hw => ?_) (fun f => ?_)
 ·have hv : xs[i]? = some xs[i] := List.getElem?_eq_getElem hi
  have hg : getI xs (i : Int) = some xs[i] := by rw [getI_nat, hv]
  have hk : impl_keyOk xs[i].fKey = some (inR xs[i].fKey 0 4) := by
   unfold impl_keyOk
   rw [impl_in]
   rfl
  have key : ∀ b, verG xs[i] = !b → impl_VersionsOk_j1 xs (i : Int) (impl_VersionsOk_l0 xs f) xs[i] b = bif verP adjI xs i then impl_VersionsOk_l0 xs f ((i + 1 : Nat) : Int) else some false := by
   intro b hb
   unfold verP
   rw [hv]
   simp only
   rw [hb]
   cases b with
   | true => rfl
   | false =>
    rw [impl_VersionsOk_j1, cond_false, Bool.not_false, Bool.true_and]
    by_cases h0 : i = 0
    ·subst h0
     simp only [hw]
     rfl
    ·have hi1 : i - 1 < xs.length := by omega
     have hw1 : w64 ((i : Int) - 1) = ((i - 1 : Nat) : Int) := by rw [w64_of (by omega) (by omega)]; omega
     have hv1 : xs[i - 1]? = some xs[i - 1] := List.getElem?_eq_getElem hi1
     have hg1 : getI xs (w64 ((i : Int) - 1)) = some xs[i - 1] := by rw [hw1, getI_nat, hv1]
     have e0 : (i == 0) = false := by simpa using h0
     have e1 : ((i : Int) == 0) = false := beq_eq_false_iff_ne.2 (by omega)
     rw [e1, cond_false, hv1, e0]
     simp only [hg1, Option.bind_some, Bool.false_or, adjI, impl_VersionsOk_j2, hw]
     cases decide (xs[i - 1].fKey > xs[i].fKey) <;> cases xs[i - 1].fKey == xs[i].fKey <;> cases decide (xs[i - 1].fBorn ≥ xs[i].fBorn) <;> cases xs[i - 1].fDied == 0 <;> cases decide (xs[i - 1].fDied > xs[i].fBorn) <;> rfl
  rw [impl_VersionsOk_l0, decide_eq_true (by omega), cond_true, hg, Option.bind_some, hk, Option.bind_some, impl_in, Option.bind_some, impl_in, Option.bind_some, impl_rowOk (h.2 _ (List.getElem_mem hi)), Option.bind_some]
  have k1 := key true
  have k0 := key false
  have kd := key
  unfold verG at k1 k0 kd
  cases e1 : inR xs[i].fKey 0 4
  ·rw [e1] at k1
   exact k1 rfl
  cases e2 : inR xs[i].fBorn 1 40
  ·rw [e1, e2] at k1
   exact k1 rfl
  rw [e1, e2] at kd
  cases e3 : xs[i].fDied == 0
  ·cases e4 : inR xs[i].fDied (w64 (xs[i].fBorn + 1)) 40
   ·rw [e3, e4] at kd
    exact kd true rfl
   ·rw [e3, e4] at kd
    exact kd (!rowOk xs[i].fRow) (by simp)
  ·rw [e3] at kd
   exact kd (!rowOk xs[i].fRow) (by simp)
 ·have e : decide ((xs.length : Int) ≤ 60) = decide (xs.length ≤ 60) := decide_eq_decide.2 (by omega)
  rw [impl_VersionsOk_l0, decide_eq_false (Int.lt_irrefl _), cond_false, e]
theorem vOk_get {xs : List T_impl_Version} (h : vOk xs = true) {i : Nat} (hi : i < xs.length) : verG xs[i] = true ∧ ∀ (h1 : i + 1 < xs.length), adjG xs[i] xs[i + 1] = true := by
 unfold vOk at h
 rw [Bool.and_eq_true] at h
 have ha := List.all_eq_true.1 h.1
 refine ⟨?_, fun h1 => ?_⟩
 ·have := ha i (List.mem_range.2 hi)
  unfold verP at this
  rw [List.getElem?_eq_getElem hi] at this
  simp only [Bool.and_eq_true] at this
  exact this.1
 ·have := ha (i + 1) (List.mem_range.2 h1)
  unfold verP at this
  rw [List.getElem?_eq_getElem h1, Nat.add_sub_cancel, List.getElem?_eq_getElem hi] at this
  simp only [Bool.and_eq_true] at this
  have e : (i + 1 == 0) = false := beq_eq_false_iff_ne.2 (by omega)
  rw [e, Bool.false_or] at this
  exact this.2
end Go.D
set_option linter.unusedVariables false
namespace Go.D
structure Ord3 {α : Type} (cf : α → α → Int) : Prop where
 refl : ∀ x, cf x x = 0
 lt : ∀ x y, cf x y < 0 → 0 < cf y x
 gt : ∀ x y, 0 < cf x y → cf y x < 0
 le : ∀ x y z, cf x y ≤ 0 → cf y z ≤ 0 → cf x z ≤ 0
section
variable {α : Type} {cf cg : α → α → Int}
theorem Ord3.eq (h : Ord3 cf) {x y : α} (e : cf x y = 0) : cf y x = 0 := by
 rcases Int.lt_trichotomy (cf y x) 0 with k | k | k
 ·have := h.lt _ _ k; omega
 ·exact k
 ·have := h.gt _ _ k; omega
theorem Ord3.ge (h : Ord3 cf) {x y : α} (e : 0 ≤ cf x y) : cf y x ≤ 0 := by
 by_cases k : cf x y = 0
 ·have := h.eq k; omega
 ·have := h.gt x y (by omega); omega
theorem Ord3.lex (h : Ord3 cf) (k : Ord3 cg) : Ord3 fun x y => if cf x y ≠ 0 then cf x y else cg x y := by
 refine ⟨fun x => ?_, fun x y e => ?_, fun x y e => ?_, fun x y z e1 e2 => ?_⟩
 ·simp only [h.refl, ne_eq, not_true_eq_false, if_false, k.refl]
 ·by_cases e0 : cf x y = 0
  ·rw [if_neg (by simpa using e0)] at e
   rw [if_neg (by simpa using h.eq e0)]
   exact k.lt _ _ e
  ·rw [if_pos e0] at e
   have := h.lt _ _ e
   rw [if_pos (by omega)]
   exact this
 ·by_cases e0 : cf x y = 0
  ·rw [if_neg (by simpa using e0)] at e
   rw [if_neg (by simpa using h.eq e0)]
   exact k.gt _ _ e
  ·rw [if_pos e0] at e
   have := h.gt _ _ e
   rw [if_pos (by omega)]
   exact this
 ·have a1 : cf x y ≤ 0 := by
   by_cases e0 : cf x y = 0
   ·omega
   ·rw [if_pos e0] at e1; exact e1
  have a2 : cf y z ≤ 0 := by
   by_cases e0 : cf y z = 0
   ·omega
   ·rw [if_pos e0] at e2; exact e2
  have a3 := h.le x y z a1 a2
  by_cases e0 : cf x z = 0
  ·rw [if_neg (by simpa using e0)]
   have b0 := h.eq e0
   have b1 : cf x y = 0 := by
    have := h.le y z x a2 (by omega)
    rcases Int.lt_or_le (cf x y) 0 with q | q
    ·have := h.lt _ _ q; omega
    ·omega
   have b2 : cf y z = 0 := by
    have := h.le z x y (by omega) a1
    rcases Int.lt_or_le (cf y z) 0 with q | q
    ·have := h.lt _ _ q; omega
    ·omega
   rw [if_neg (by simpa using b1)] at e1
   rw [if_neg (by simpa using b2)] at e2
   exact k.le x y z e1 e2
  ·rw [if_pos e0]
   exact a3
theorem Ord3.on {β : Type} (h : Ord3 cf) (f : β → α) : Ord3 fun x y => cf (f x) (f y) := ⟨fun _ => h.refl _, fun _ _ => h.lt _ _, fun _ _ => h.gt _ _, fun _ _ _ => h.le _ _ _⟩
end
end Go.D
set_option linter.unusedVariables false
namespace Go.D
open Go.Sort Go.Proofs
section
variable {α : Type} {cf cg : α → α → Int}
theorem Ord3.swo (h : Ord3 cf) : SWO (ltOf cf) := by
 refine ⟨fun x => ?_, fun x y z h1 h2 => ?_, fun x y z h1 h2 => ?_⟩
 ·unfold ltOf
  rw [h.refl]
  rfl
 ·unfold ltOf at *
  have h1 := of_decide_eq_true h1
  have h2 := of_decide_eq_true h2
  refine decide_eq_true ?_
  rcases Int.lt_or_le (cf x z) 0 with k | k
  ·exact k
  ·have := h.le z x y (h.ge k) (by omega)
   have := h.lt y z h2
   omega
 ·unfold ltOf at *
  have h1 := of_decide_eq_false h1
  have h2 := of_decide_eq_false h2
  refine decide_eq_false fun k => ?_
  have := h.le z y x (h.ge (by omega)) (h.ge (by omega))
  have := h.lt x z k
  omega
end
theorem sortL_len {α : Type} [Inhabited α] {cf : α → α → Int} (h : Ord3 cf) (zs : List α) : (sortL cf zs).Perm zs ∧ (sortL cf zs).Pairwise fun a b => cf a b ≤ 0 := by
 obtain ⟨⟨h1, h2, h3⟩, h4⟩ := pdq_sorts (ltOf cf) h.swo zs.toArray 0 zs.length (Lib.bitLen zs.length) true true (Nat.zero_le _) (by simp) (Or.inl rfl)
 have hs : (pdq (ltOf cf) zs.toArray 0 zs.length (Lib.bitLen zs.length) true true).size = zs.length := by rw [h1]; simp
 refine ⟨?_, ?_⟩
 ·unfold sortL
  generalize pdq (ltOf cf) zs.toArray 0 zs.length (Lib.bitLen zs.length) true true = ys at hs h3 ⊢
  have e : ys.extract 0 zs.length = ys := by
   rw [← hs]
   exact Array.extract_size
  rw [e] at h3
  simpa using h3
 ·rw [List.pairwise_iff_getElem]
  intro i j hi hj hij
  unfold sortL at hi hj ⊢
  rw [Array.length_toList, hs] at hi hj
  have := h4 i j (Nat.zero_le _) hij hj
  rw [getElem!_pos _ j (by rw [hs]; exact hj), getElem!_pos _ i (by rw [hs]; exact hi)] at this
  rw [Array.getElem_toList, Array.getElem_toList]
  have key : ∀ x y, ltOf cf x y = false → cf y x ≤ 0 := fun x y e => h.ge (by
   have e : decide (cf x y < 0) = false := e
   have := of_decide_eq_false e
   omega)
  exact key _ _ this
end Go.D
set_option linter.unusedVariables false
namespace Go.D
theorem asc_of_adj {α : Type} {R : α → α → Prop} (ht : ∀ a b c, R a b → R b c → R a c) {xs : List α} (h : ∀ i (hi : i + 1 < xs.length), R (xs[i]'(by omega)) xs[i + 1]) : xs.Pairwise R := by
 rw [List.pairwise_iff_getElem]
 intro i j hi hj hij
 have key : ∀ d (hd : i + 1 + d < xs.length), R xs[i] (xs[i + 1 + d]'hd) := by
  intro d
  induction d with
  | zero => exact fun hd => h i hd
  | succ d ih => exact fun hd => ht _ _ _ (ih (by omega)) (h (i + 1 + d) hd)
 have := key (j - (i + 1)) (by omega)
 have e : i + 1 + (j - (i + 1)) = j := by omega
 simp only [e] at this
 exact this
end Go.D
set_option linter.unusedVariables false
namespace Go.D
theorem g2 {α : Type} {xs : List α} (a b : α) : getI (xs ++ [a, b]) (xs.length : Int) = some a := by
 rw [getI_nat]
 simp
theorem g3 {α : Type} {xs : List α} (b : α) : getI (xs ++ [b]) (xs.length : Int) = some b := by
 rw [getI_nat]
 simp
section
variable {α : Type} {xs : List α} (h : xs.length ≤ 2097152)
include h
theorem g1 (a b : α) : getI (xs ++ [a, b]) (w64 (((xs ++ [a, b]).length : Int) - 1)) = some b := by
 have e : (((xs ++ [a, b]).length : Int) - 1) = ((xs.length + 1 : Nat) : Int) := by simp only [List.length_append, List.length_cons, List.length_nil]; omega
 rw [e, w64_of (by omega) (by omega), getI_nat]
 simp
end
section
variable {α : Type} {xs : List α}
end
end Go.D
set_option linter.unusedVariables false
namespace Go.D
end Go.D
set_option linter.unusedVariables false
namespace Go.D
end Go.D
set_option linter.unusedVariables false
namespace Go.D
end Go.D
set_option linter.unusedVariables false
namespace Go.D
def N0 : T_impl_Value := T_impl_Value.mk 0 0 (ByteArray.mk #[])
def cmpI (a b : Int) : Int := if a < b then -1 else if a > b then 1 else 0
def cmpS (a b : ByteArray) : Int := bif Op.bytesLess a.toList b.toList then -1 else bif !Op.bytesLess a.toList b.toList && !(a.toList == b.toList) then 1 else 0
def ordV (a b : T_impl_Value) : Int := if cmpI a.fKind b.fKind ≠ 0 then cmpI a.fKind b.fKind else if cmpI a.fN b.fN ≠ 0 then cmpI a.fN b.fN else cmpS a.fS b.fS
theorem impl_cmpI (a b : Int) : cmp_Compare_int a b = some (cmpI a b) := by
 unfold cmp_Compare_int cmp_isNaN_int cmpI
 simp only [beq_self_eq_true, Bool.not_true, Option.bind_some, cond_false]
 by_cases h : a < b
 ·simp [h]
 ·by_cases h2 : a > b
  ·simp [h, h2]
  ·simp [h, h2]
theorem impl_cmpS (a b : ByteArray) : cmp_Compare_string a b = some (cmpS a b) := by
 unfold cmp_Compare_string cmp_isNaN_string cmpS
 simp only [beq_self_eq_true, Bool.not_true, Option.bind_some, cond_false]
 cases Op.bytesLess a.toList b.toList <;> cases a.toList == b.toList <;> rfl
theorem fuel4 : ∃ F, FUEL = F + 1 + 1 + 1 + 1 := by
 have h : 4 ≤ FUEL := by unfold FUEL; omega
 exact ⟨FUEL - 4, by omega⟩
theorem impl_or3 (a b c : Int) : cmp_Or_int [a, b, c] = some (if a ≠ 0 then a else if b ≠ 0 then b else c) := by
 obtain ⟨F, hF⟩ := fuel4
 unfold cmp_Or_int
 rw [hF]
 have w3 : w64 (0 + 1) = 1 := w64_of (by omega) (by omega)
 have w4 : w64 (1 + 1) = 2 := w64_of (by omega) (by omega)
 have w5 : w64 (2 + 1) = 3 := w64_of (by omega) (by omega)
 have i0 : getI [a, b, c] 0 = some a := rfl
 have i1 : getI [a, b, c] 1 = some b := rfl
 have i2 : getI [a, b, c] 2 = some c := rfl
 have l0 : decide ((0 : Int) < (([a, b, c] : List Int).length : Int)) = true := rfl
 have l1 : decide ((1 : Int) < (([a, b, c] : List Int).length : Int)) = true := rfl
 have l2 : decide ((2 : Int) < (([a, b, c] : List Int).length : Int)) = true := rfl
 have l3 : decide ((3 : Int) < (([a, b, c] : List Int).length : Int)) = false := rfl
 rw [cmp_Or_int_l0, l0, cond_true, i0, Option.bind_some, w3, cmp_Or_int_l0, l1, cond_true, i1, Option.bind_some, w4, cmp_Or_int_l0, l2, cond_true, i2, Option.bind_some, w5, cmp_Or_int_l0, l3, cond_false]
 have bf : ∀ {x : Int}, ¬ x = 0 → (x == 0) = false := fun h => by simp [h]
 by_cases ha : a = 0
 ·subst ha
  by_cases hb : b = 0
  ·subst hb
   by_cases hc : c = 0
   ·subst hc
    rfl
   ·rw [bf hc]
    simp
  ·rw [bf hb]
   simp [hb]
 ·rw [bf ha]
  simp [ha]
theorem impl_ord (a b : T_impl_Value) : impl_Value_order a b = some (ordV a b) := by
 unfold impl_Value_order
 simp only [impl_cmpI, impl_cmpS, impl_or3, Option.bind_some, ordV]
theorem cmpI_ne {a b : Int} (h : a ≠ b) : cmpI a b ≠ 0 := by
 unfold cmpI
 split
 ·omega
 ·split <;> omega
theorem cmpI_eq (a : Int) : cmpI a a = 0 := by simp [cmpI]
def b2i (b : Bool) : Int := bif b then 1 else 0
theorem impl_b2i (b : Bool) : impl_truthIf b = some (b2i b) := by cases b <;> rfl
def cmpV (n : Int) (a b : T_impl_Value) : Int := bif inR n 1 4 && (valOk a && valOk b) then bif a.fKind == 0 || b.fKind == 0 then 2 else bif !(a.fKind == b.fKind) then -1 else
 bif n == 1 then b2i (ordV a b == 0) else bif n == 2 then b2i (!(ordV a b == 0)) else bif n == 3 then b2i (decide (ordV a b < 0)) else b2i (decide (ordV a b ≤ 0)) else -1
theorem in14 {n : Int} (h : inR n 1 4 = true) : n = 1 ∨ n = 2 ∨ n = 3 ∨ n = 4 := by
 unfold inR at h
 simp only [Bool.and_eq_true, decide_eq_true_eq] at h
 omega
theorem impl_cmp {n : Int} {a b : T_impl_Value} (sa : SmV a) (sb : SmV b) : impl_Compare n a b = some (cmpV n a b) := by
 unfold impl_Compare cmpV
 rw [impl_in, Option.bind_some, impl_value sa, Option.bind_some, impl_value sb, Option.bind_some]
 cases hi : inR n 1 4
 ·rfl
 cases ha : valOk a
 ·rfl
 cases hb : valOk b
 ·rfl
 simp only [Bool.not_true, cond_false, Bool.and_self, cond_true, impl_Compare_j0, impl_Compare_j1, impl_ord, Option.bind_some, impl_b2i]
 rcases in14 hi with rfl | rfl | rfl | rfl
 ·cases a.fKind == 0 <;> cases b.fKind == 0 <;> cases a.fKind == b.fKind <;> cases ordV a b == 0 <;> rfl
 ·cases a.fKind == 0 <;> cases b.fKind == 0 <;> cases a.fKind == b.fKind <;> cases ordV a b == 0 <;> rfl
 ·cases a.fKind == 0 <;> cases b.fKind == 0 <;> cases a.fKind == b.fKind <;> cases decide (ordV a b < 0) <;> rfl
 ·cases a.fKind == 0 <;> cases b.fKind == 0 <;> cases a.fKind == b.fKind <;> cases decide (ordV a b ≤ 0) <;> rfl
end Go.D
set_option linter.unusedVariables false
namespace Go.D
theorem ord_int : Ord3 cmpI := by
 refine ⟨fun x => ?_, fun x y e => ?_, fun x y e => ?_, fun x y z e1 e2 => ?_⟩ <;> unfold cmpI at *
 ·simp
 ·repeat' split at e
  all_goals (repeat' split) <;> omega
 ·repeat' split at e
  all_goals (repeat' split) <;> omega
 ·repeat' split at e1
  all_goals (repeat' split at e2)
  all_goals (repeat' split) <;> omega
end Go.D
set_option linter.unusedVariables false
namespace Go.D
open Go.Sort Go.Proofs Go.Lib
theorem cmpS_eq (a b : ByteArray) : cmpS a b = if a.toList < b.toList then -1 else if a.toList = b.toList then 0 else 1 := by
 unfold cmpS
 rw [bytesLess_eq]
 by_cases h : a.toList < b.toList
 ·simp [h]
 ·by_cases e : a.toList = b.toList
  ·simp [e]
  ·have e2 : (a.toList == b.toList) = false := beq_eq_false_iff_ne.2 e
   rw [decide_eq_false h, e2, if_neg h, if_neg e]
   rfl
theorem ord_str : Ord3 cmpS := by
 have tri : ∀ a b : List UInt8, ¬ a < b → a ≠ b → b < a := fun a b h n => by
  rcases List.le_total a b with k | k
  ·exact absurd (List.le_antisymm k (List.not_lt.1 h)) n
  ·rcases List.le_iff_lt_or_eq.1 k with k | k
   ·exact k
   ·exact absurd k.symm n
 have irr : ∀ a : List UInt8, ¬ a < a := fun a => List.lt_irrefl a
 have asy : ∀ a b : List UInt8, a < b → ¬ b < a := fun a b h k => List.lt_irrefl a (List.lt_trans h k)
 refine ⟨fun x => ?_, fun x y e => ?_, fun x y e => ?_, fun x y z e1 e2 => ?_⟩
 ·rw [cmpS_eq, if_neg (irr _), if_pos rfl]
 ·rw [cmpS_eq] at e ⊢
  have h : x.toList < y.toList := by
   split at e
   ·assumption
   ·split at e <;> omega
  rw [if_neg (asy _ _ h), if_neg (fun k => irr _ (by rw [k] at h; exact h))]
  omega
 ·rw [cmpS_eq] at e ⊢
  have h : y.toList < x.toList := by
   split at e
   ·omega
   ·split at e
    ·omega
    ·exact tri _ _ (by assumption) (by assumption)
  rw [if_pos h]
  omega
 ·rw [cmpS_eq] at e1 e2 ⊢
  have le : ∀ a b : ByteArray, (if a.toList < b.toList then (-1 : Int) else if a.toList = b.toList then 0 else 1) ≤ 0 → a.toList < b.toList ∨ a.toList = b.toList := fun a b e => by
   split at e
   ·exact .inl (by assumption)
   ·split at e
    ·exact .inr (by assumption)
    ·omega
  have : x.toList < z.toList ∨ x.toList = z.toList := by
   rcases le _ _ e1 with h1 | h1
   ·rcases le _ _ e2 with h2 | h2
    ·exact .inl (List.lt_trans h1 h2)
    ·exact .inl (by rw [← h2]; exact h1)
   ·rcases le _ _ e2 with h2 | h2
    ·exact .inl (by rw [h1]; exact h2)
    ·exact .inr (h1.trans h2)
  rcases this with h | h
  ·rw [if_pos h]
   omega
  ·rw [if_neg (by rw [h]; exact irr _), if_pos h]
   omega
theorem ord_val : Ord3 ordV := (ord_int.on T_impl_Value.fKind).lex ((ord_int.on T_impl_Value.fN).lex (ord_str.on T_impl_Value.fS))
end Go.D
set_option linter.unusedVariables false
namespace Go.D
def ordM (a b : T_impl_Mark) : Int := if ordV a.fV b.fV ≠ 0 then ordV a.fV b.fV else if cmpI a.fKey b.fKey ≠ 0 then cmpI a.fKey b.fKey else cmpI a.fBorn b.fBorn
theorem ord_mark : Ord3 ordM := (ord_val.on T_impl_Mark.fV).lex ((ord_int.on T_impl_Mark.fKey).lex (ord_int.on T_impl_Mark.fBorn))
theorem impl_ordM (a b : T_impl_Mark) : impl_Mark_order a b = some (ordM a b) := by
 unfold impl_Mark_order
 simp only [impl_ord, impl_cmpI, impl_or3, Option.bind_some, ordM]
def firstV (r : List T_impl_Value) : T_impl_Value := (r.head?).getD N0
def markOf (v : T_impl_Version) : T_impl_Mark := ⟨firstV v.fRow, v.fKey, v.fBorn, v.fDied⟩
theorem impl_first (r : List T_impl_Value) : impl_firstOf r = some (firstV r) := by
 unfold impl_firstOf firstV
 cases r with
 | nil => rfl
 | cons v r =>
  have : (((v :: r).length : Int) == 0) = false := beq_eq_false_iff_ne.2 (by simp; omega)
  rw [this]
  rfl
end Go.D
set_option linter.unusedVariables false
namespace Go.D
def indexV (xs : List T_impl_Version) : List T_impl_Mark := bif vOk xs then sortL ordM (xs.map markOf) else []
def SmM (m : T_impl_Mark) : Prop := SmV m.fV ∧ valOk m.fV = true
theorem first_ok {r : List T_impl_Value} (h : SmR r) (hr : rowOk r = true) : SmV (firstV r) ∧ valOk (firstV r) = true := by
 have e0 : (ByteArray.mk #[]).size = 0 := rfl
 unfold firstV
 cases r with
 | nil =>
  refine ⟨?_, show valOk N0 = true by simp [valOk, N0]⟩
  show Sm (ByteArray.mk #[]).size
  rw [e0]
  omega
 | cons v r =>
  unfold rowOk at hr
  simp only [List.all_cons, Bool.and_eq_true] at hr
  exact ⟨h.2 v (by simp), hr.1.1⟩
theorem mark_ok {xs : List T_impl_Version} (h : SmVers xs) (hv : vOk xs = true) {m : T_impl_Mark} (hm : m ∈ xs.map markOf) : SmM m := by
 obtain ⟨v, hvx, rfl⟩ := List.mem_map.1 hm
 obtain ⟨i, hi, rfl⟩ := List.getElem_of_mem hvx
 have := (vOk_get hv hi).1
 unfold verG at this
 simp only [Bool.and_eq_true] at this
 exact first_ok (h.2 _ hvx) this.2.2.2
end Go.D
set_option linter.unusedVariables false
namespace Go.D
theorem toList_loop (s : ByteArray) : ∀ (k i : Nat) (r : List UInt8), i + k = s.size → ByteArray.toList.loop s i r = r.reverse ++ s.data.toList.drop i
 | 0, i, r, h => by
  rw [ByteArray.toList.loop, if_neg (by omega), List.drop_of_length_le (by rw [Array.length_toList]; show s.size ≤ i; omega), List.append_nil]
 | k + 1, i, r, h => by
  have hi : i < s.data.toList.length := by rw [Array.length_toList]; show i < s.size; omega
  rw [ByteArray.toList.loop, if_pos (by omega), toList_loop s k (i + 1) _ (by omega), List.drop_eq_getElem_cons hi, List.reverse_cons, List.append_assoc]
  congr 1
  rw [List.singleton_append]
  congr 1
  show s.data[i]! = _
  rw [getElem!_pos s.data i (by rw [Array.length_toList] at hi; exact hi)]
  simp
theorem bytes_toList (s : ByteArray) : s.toList = s.data.toList := by
 unfold ByteArray.toList
 rw [toList_loop s s.size 0 [] (by omega)]
 simp
theorem eqV_iff (a b : T_impl_Value) : eq_T_impl_Value a b = true ↔ a = b := by
 obtain ⟨k, n, s⟩ := a
 obtain ⟨k', n', s'⟩ := b
 simp only [eq_T_impl_Value, andB, Bool.and_eq_true, beq_iff_eq, T_impl_Value.mk.injEq]
 refine ⟨fun h => ?_, fun h => ?_⟩
 ·obtain ⟨h1, h2, h3⟩ := h
  refine ⟨h1, h2, ?_⟩
  rw [bytes_toList, bytes_toList] at h3
  exact ByteArray.ext (Array.toList_inj.1 h3)
 ·obtain ⟨rfl, rfl, rfl⟩ := h
  exact ⟨rfl, rfl, rfl⟩
theorem eqV_refl (a : T_impl_Value) : eq_T_impl_Value a a = true := (eqV_iff a a).2 rfl
theorem alive_t : laws_alive = some true := by
 have e0 : (ByteArray.mk #[]).size = 0 := rfl
 unfold laws_alive impl_ValueOk
 rw [impl_value (v := T_impl_Value.mk 1 3 (ByteArray.mk #[])) (by simp [e0]), Option.bind_some, impl_value (v := T_impl_Value.mk 9 0 (ByteArray.mk #[])) (by simp [e0]), Option.bind_some]
 have h1 : valOk (T_impl_Value.mk 1 3 (ByteArray.mk #[])) = true := by simp [valOk, inR]
 have h2 : valOk (T_impl_Value.mk 9 0 (ByteArray.mk #[])) = false := by simp [valOk]
 rw [h1, h2]
 rfl
end Go.D
set_option linter.unusedVariables false
namespace Go.D
def markG (m : T_impl_Mark) : Bool := valOk m.fV && (inR m.fKey 0 4 && (inR m.fBorn 1 40 && (m.fDied == 0 || inR m.fDied (w64 (m.fBorn + 1)) 40)))
def endM (m : T_impl_Mark) : Int := bif m.fDied == 0 then 41 else m.fDied
def overM (a b : T_impl_Mark) : Bool := a.fKey == b.fKey && (decide (a.fBorn < endM b) && decide (b.fBorn < endM a))
def ixP (xs : List T_impl_Mark) (i : Nat) : Bool := match xs[i]? with
 | some m => (markG m && (i == 0 || match xs[i - 1]? with | some u => decide (ordM u m ≤ 0) | none => true)) && !((xs.take i).any fun z => overM z m)
 | none => true
def ixOk (xs : List T_impl_Mark) : Bool := (List.range xs.length).all (ixP xs) && decide (xs.length ≤ 60)
def SmMs (xs : List T_impl_Mark) : Prop := Sm xs.length ∧ ∀ m ∈ xs, SmV m.fV
theorem impl_over (a b : T_impl_Mark) : impl_IndexOk_1 a b = some (overM a b) := by
 have e : ∀ m, impl_Mark_end m = some (endM m) := fun m => by
  unfold impl_Mark_end endM
  cases m.fDied == 0 <;> rfl
 unfold impl_IndexOk_1 overM
 simp only [e, Option.bind_some]
 cases a.fKey == b.fKey <;> cases decide (a.fBorn < endM b) <;> rfl
theorem impl_anyM {xs : List T_impl_Mark} (h : Sm xs.length) {f : T_impl_Mark → Option Bool} {p : T_impl_Mark → Bool} (hf : ∀ m, f m = some (p m)) : slices_ContainsFunc_impl_Mark_impl_Mark xs f = some (xs.any p) := by
 unfold slices_ContainsFunc_impl_Mark_impl_Mark slices_IndexFunc_impl_Mark_impl_Mark
 obtain ⟨r, h1, h2⟩ := loop_find (xs := xs) (L := slices_IndexFunc_impl_Mark_impl_Mark_l0 xs f) (p := p) (by omega) (fun f i v hi hv hw => by
  have : (i : Int) < xs.length := by omega
  simp only [slices_IndexFunc_impl_Mark_impl_Mark_l0, this, decide_true, cond_true, getI_nat, hv, Option.bind_some, hf, hw]) (fun f => by
  simp only [slices_IndexFunc_impl_Mark_impl_Mark_l0, Int.lt_irrefl, decide_false, cond_false])
 rw [h1, Option.bind_some, h2]
theorem impl_ixOk {xs : List T_impl_Mark} (h : SmMs xs) : impl_IndexOk xs = some (ixOk xs) := by
 have hl := h.1
 unfold impl_IndexOk ixOk
 refine loop_idx (by omega) (fun f i hi hw => ?_) (fun f => ?_)
 ·have hv : xs[i]? = some xs[i] := List.getElem?_eq_getElem hi
  have hg : getI xs (i : Int) = some xs[i] := by rw [getI_nat, hv]
  have hk : impl_keyOk xs[i].fKey = some (inR xs[i].fKey 0 4) := by
   unfold impl_keyOk
   rw [impl_in]
   rfl
  have ht : slI xs none (some (i : Int)) none = some (xs.take i) := by
   unfold slI
   rw [if_pos (by simp only [Option.getD_none, Option.getD_some]; omega)]
   simp
  have key : ∀ b, (markG xs[i] && (i == 0 || match xs[i - 1]? with | some u => decide (ordM u xs[i] ≤ 0) | none => true)) = !b → impl_IndexOk_j1 xs (i : Int) (impl_IndexOk_l0 xs f) xs[i] b = bif ixP xs i then impl_IndexOk_l0 xs f ((i + 1 : Nat) : Int) else some false := by
   intro b hb
   unfold ixP
   rw [hv]
   simp only
   rw [hb]
   cases b with
   | true => rfl
   | false =>
    rw [impl_IndexOk_j1, cond_false, ht, Option.bind_some, impl_anyM (by rw [List.length_take]; omega) (fun m => impl_over m xs[i]), Option.bind_some, hw]
    cases (xs.take i).any fun z => overM z xs[i] <;> rfl
  rw [impl_IndexOk_l0, decide_eq_true (by omega), cond_true, hg, Option.bind_some, impl_value (h.2 _ (List.getElem_mem hi)), Option.bind_some]
  simp only [hk, impl_in, Option.bind_some]
  have ho : (bif decide ((i : Int) > 0) then (getI xs (w64 ((i : Int) - 1))).bind fun v22 => (impl_Mark_order v22 xs[i]).bind fun v24 => impl_IndexOk_j1 xs (i : Int) (impl_IndexOk_l0 xs f) xs[i] (decide (v24 > 0)) else impl_IndexOk_j1 xs (i : Int) (impl_IndexOk_l0 xs f) xs[i] false)
    = impl_IndexOk_j1 xs (i : Int) (impl_IndexOk_l0 xs f) xs[i] (!(i == 0 || match xs[i - 1]? with | some u => decide (ordM u xs[i] ≤ 0) | none => true)) := by
   by_cases h0 : i = 0
   ·subst h0
    rfl
   ·have hi1 : i - 1 < xs.length := by omega
    have hw1 : w64 ((i : Int) - 1) = ((i - 1 : Nat) : Int) := by rw [w64_of (by omega) (by omega)]; omega
    have hv1 : xs[i - 1]? = some xs[i - 1] := List.getElem?_eq_getElem hi1
    have e0 : (i == 0) = false := by simpa using h0
    have e1 : decide (ordM xs[i - 1] xs[i] > 0) = !(decide (ordM xs[i - 1] xs[i] ≤ 0)) := by
     rw [← decide_not]
     exact decide_eq_decide.2 (by omega)
    rw [decide_eq_true (show (i : Int) > 0 by omega), cond_true, hw1, getI_nat, hv1, Option.bind_some, impl_ordM, Option.bind_some, e0, Bool.false_or, e1]
  rw [ho]
  have key' := key
  unfold markG at key'
  cases e1 : valOk xs[i].fV with
  | false =>
   rw [e1] at key'
   exact key' true rfl
  | true =>
   cases e2 : inR xs[i].fKey 0 4 with
   | false =>
    rw [e1, e2] at key'
    exact key' true rfl
   | true =>
    cases e3 : inR xs[i].fBorn 1 40 with
    | false =>
     rw [e1, e2, e3] at key'
     exact key' true rfl
    | true =>
     rw [e1, e2, e3] at key'
     cases e4 : xs[i].fDied == 0 with
     | true =>
      rw [e4] at key'
      exact key' _ (by rw [Bool.not_not]; rfl)
     | false =>
      cases e5 : inR xs[i].fDied (w64 (xs[i].fBorn + 1)) 40 with
      | false =>
       rw [e4, e5] at key'
       exact key' true rfl
      | true =>
       rw [e4, e5] at key'
       exact key' _ (by rw [Bool.not_not]; rfl)
 ·have e : decide ((xs.length : Int) ≤ 60) = decide (xs.length ≤ 60) := decide_eq_decide.2 (by omega)
  rw [impl_IndexOk_l0, decide_eq_false (Int.lt_irrefl _), cond_false, e]
theorem impl_cloneM {a : List T_impl_Mark} (ha : a.length ≤ 4194304) : impl_clone_impl_Mark a = some a := by
 unfold impl_clone_impl_Mark slices_Clip_impl_Mark_impl_Mark
 cases h : ((a.length : Int)) == 0
 ·rw [cond_false, app_lt (by simp; omega), Option.bind_some, List.nil_append, show slI a none (some (a.length : Int)) (some (a.length : Int)) = some a by simp [slI]]
  rfl
 ·have : a = [] := by
   have : (a.length : Int) = 0 := by simpa using h
   exact List.eq_nil_of_length_eq_zero (by omega)
  subst this
  rfl
theorem impl_idx {xs : List T_impl_Version} (h : SmVers xs) : impl_IndexOf xs = some (indexV xs) := by
 have hl := h.1
 unfold impl_IndexOf indexV
 rw [impl_vOk h, Option.bind_some]
 cases hv : vOk xs with
 | false => rfl
 | true =>
  rw [Bool.not_true, cond_false, cond_true]
  have := loop_opt (xs := xs) (L := fun f i (s : List T_impl_Mark) => impl_IndexOf_l0 xs f i s) (fun _ _ => some (sortL ordM (xs.map markOf))) (fun i s => s = (xs.take i).map markOf) (by omega)
   (fun f i s v hi hvi hw hI => by
    subst hI
    refine .inr ⟨(xs.take (i + 1)).map markOf, rfl, ?_, rfl⟩
    have et : xs.take (i + 1) = xs.take i ++ [v] := by
     rw [List.take_add_one, hvi]
     rfl
    rw [impl_IndexOf_l0, decide_eq_true (by omega), cond_true, getI_nat, hvi, Option.bind_some, impl_first, Option.bind_some, app_lt (by simp; omega), Option.bind_some, hw, et, List.map_append]
    rfl)
   (fun f s hI => by
    subst hI
    rw [List.take_length]
    have hs : (sortL ordM (xs.map markOf)).length = xs.length := by rw [sortL_length ord_mark.swo, List.length_map]
    rw [impl_IndexOf_l0, decide_eq_false (Int.lt_irrefl _), cond_false, sortM_of impl_ordM ord_mark.swo (by rw [List.length_map]; omega), Option.bind_some, impl_cloneM (by rw [hs]; omega), Option.bind_some]) (s := []) (by simp)
  exact this
def disM (a b : T_impl_Mark) : Prop := a.fKey < b.fKey ∨ a.fKey = b.fKey ∧ a.fDied ≠ 0 ∧ a.fDied ≤ b.fBorn ∧ a.fBorn < b.fBorn
theorem vOk_dis {xs : List T_impl_Version} (h : vOk xs = true) : (xs.map markOf).Pairwise disM := by
 refine asc_of_adj (fun a b c h1 h2 => ?_) fun i hi => ?_
 ·unfold disM at *
  omega
 ·have hi' : i + 1 < xs.length := by simpa using hi
  obtain ⟨g1, g2⟩ := vOk_get h (i := i) (by omega)
  have g2 := g2 hi'
  rw [List.getElem_map, List.getElem_map]
  unfold disM markOf
  simp only
  unfold adjG at g2
  unfold verG at g1
  simp only [Bool.and_eq_true, Bool.or_eq_true] at g1
  obtain ⟨_, h2, h3, _⟩ := g1
  unfold inR at h2 h3
  simp only [Bool.and_eq_true, decide_eq_true_eq, beq_iff_eq] at h2 h3
  have hw : w64 (xs[i].fBorn + 1) = xs[i].fBorn + 1 := w64_of (by omega) (by omega)
  rw [hw] at h3
  simp only [Bool.not_eq_true', Bool.or_eq_false_iff, Bool.and_eq_false_iff, decide_eq_false_iff_not, beq_eq_false_iff_ne] at g2
  omega
theorem over_symm (a b : T_impl_Mark) : overM a b = overM b a := by
 unfold overM
 rw [Bool.eq_iff_iff]
 simp only [Bool.and_eq_true, beq_iff_eq, decide_eq_true_eq]
 constructor <;> (rintro ⟨h1, h2, h3⟩; exact ⟨h1.symm, h3, h2⟩)
theorem over_dis {a b : T_impl_Mark} (h : disM a b) : overM a b = false := by
 unfold overM endM
 rcases h with h | ⟨h1, h2, h3, h4⟩
 ·have : (a.fKey == b.fKey) = false := beq_eq_false_iff_ne.2 (by omega)
  rw [this, Bool.false_and]
 ·have e : (a.fDied == 0) = false := beq_eq_false_iff_ne.2 h2
  rw [e, cond_false, decide_eq_false (show ¬ b.fBorn < a.fDied by omega), Bool.and_false, Bool.and_false]
theorem indexV_perm {xs : List T_impl_Version} (h : vOk xs = true) : (indexV xs).Perm (xs.map markOf) := by
 unfold indexV
 rw [h, cond_true]
 exact (sortL_len ord_mark _).1
theorem indexV_over (xs : List T_impl_Version) : (indexV xs).Pairwise fun a b => overM a b = false := by
 cases h : vOk xs with
 | false =>
  unfold indexV
  rw [h]
  exact List.Pairwise.nil
 | true =>
  refine ((indexV_perm h).pairwise_iff fun {x y} hxy => ?_).2 ((vOk_dis h).imp fun h => over_dis h)
  rw [over_symm]
  exact hxy
theorem indexV_asc (xs : List T_impl_Version) : (indexV xs).Pairwise fun a b => ordM a b ≤ 0 := by
 unfold indexV
 cases vOk xs with
 | false => exact List.Pairwise.nil
 | true =>
  rw [cond_true]
  exact (sortL_len ord_mark _).2
theorem indexV_mem {xs : List T_impl_Version} {m : T_impl_Mark} (h : m ∈ indexV xs) : vOk xs = true ∧ ∃ v ∈ xs, m = markOf v := by
 cases hv : vOk xs with
 | false =>
  unfold indexV at h
  rw [hv] at h
  cases h
 | true =>
  obtain ⟨v, h1, h2⟩ := List.mem_map.1 ((indexV_perm hv).subset h)
  exact ⟨rfl, v, h1, h2.symm⟩
theorem indexV_sm {xs : List T_impl_Version} (h : SmVers xs) : SmMs (indexV xs) := by
 refine ⟨?_, fun m hm => ?_⟩
 ·have := h.1
  unfold indexV
  cases vOk xs
  ·exact Nat.zero_le _
  ·rw [cond_true, sortL_length ord_mark.swo, List.length_map]
   exact this
 ·obtain ⟨hv, v, hvx, rfl⟩ := indexV_mem hm
  exact (mark_ok h hv (List.mem_map.2 ⟨v, hvx, rfl⟩)).1
theorem vOk_mem {xs : List T_impl_Version} (h : vOk xs = true) {v : T_impl_Version} (hv : v ∈ xs) : verG v = true := by
 obtain ⟨i, hi, rfl⟩ := List.getElem_of_mem hv
 exact (vOk_get h hi).1
theorem indexV_ok {xs : List T_impl_Version} (h : SmVers xs) : ixOk (indexV xs) = true := by
 unfold ixOk
 rw [Bool.and_eq_true]
 constructor
 ·rw [List.all_eq_true]
  intro i hi
  have hi : i < (indexV xs).length := List.mem_range.1 hi
  have hm : (indexV xs)[i] ∈ indexV xs := List.getElem_mem hi
  obtain ⟨hv, v, hvx, e⟩ := indexV_mem hm
  unfold ixP
  rw [List.getElem?_eq_getElem hi]
  simp only [Bool.and_eq_true]
  refine ⟨⟨?_, ?_⟩, ?_⟩
  ·have h1 := (mark_ok h hv (List.mem_map.2 ⟨v, hvx, rfl⟩)).2
   have h2 := vOk_mem hv hvx
   rw [e]
   unfold markG
   rw [h1, Bool.true_and]
   unfold verG at h2
   simp only [Bool.and_eq_true] at h2
   obtain ⟨q1, q2, q3, _⟩ := h2
   simp only [markOf, q1, q2, q3, Bool.and_self]
  ·by_cases h0 : i = 0
   ·subst h0
    rfl
   ·rw [List.getElem?_eq_getElem (show i - 1 < _ by omega)]
    have := List.pairwise_iff_getElem.1 (indexV_asc xs) (i - 1) i (by omega) hi (by omega)
    simp only [decide_eq_true this, Bool.or_true]
  ·rw [Bool.not_eq_true', List.any_eq_false]
   intro z hz
   obtain ⟨j, hj, rfl⟩ := List.getElem_of_mem hz
   rw [List.length_take] at hj
   rw [List.getElem_take]
   have := List.pairwise_iff_getElem.1 (indexV_over xs) j i (by omega) hi (by omega)
   rw [this]
   exact Bool.false_ne_true
 ·apply decide_eq_true
  cases hv : vOk xs with
  | false =>
   unfold indexV
   rw [hv]
   exact Nat.zero_le _
  | true =>
   rw [(indexV_perm hv).length_eq, List.length_map]
   unfold vOk at hv
   rw [Bool.and_eq_true] at hv
   exact of_decide_eq_true hv.2
end Go.D
set_option linter.unusedVariables false
namespace Go.D
def wrG (w : T_impl_Write) : Bool := inR w.fKey 0 4 && (rowOk w.fRow && !(w.fGone && decide (0 < w.fRow.length)))
def wrP (ws : List T_impl_Write) (i : Nat) : Bool := match ws[i]? with
 | some w => wrG w && (i == 0 || match ws[i - 1]? with | some u => decide (u.fKey < w.fKey) | none => true)
 | none => true
def wOk (ws : List T_impl_Write) : Bool := (List.range ws.length).all (wrP ws)
def SmWrs (ws : List T_impl_Write) : Prop := Sm ws.length ∧ ∀ w ∈ ws, SmR w.fRow
theorem ownR {a : List T_impl_Value} (h : SmR a) : spec_l3Own a = some a := by
 have := h.1
 unfold spec_l3Own
 rw [app_lt (by simp; omega), Option.bind_some]
 rfl
theorem spec_wOk {ws : List T_impl_Write} (h : SmWrs ws) : spec_WritesOk ws = some (wOk ws) := by
 have hl := h.1
 unfold spec_WritesOk wOk
 have := loop_idx (n := ws.length) (L := spec_WritesOk_l0 ws) (p := wrP ws) (fin := true) (by omega) (fun f i hi hw => by
  have hv : ws[i]? = some ws[i] := List.getElem?_eq_getElem hi
  have hg : getI ws (i : Int) = some ws[i] := by rw [getI_nat, hv]
  rw [spec_WritesOk_l0, decide_eq_true (by omega), cond_true, hg, Option.bind_some, spec_in, Option.bind_some, spec_rowOk (h.2 _ (List.getElem_mem hi)), Option.bind_some]
  unfold wrP wrG
  rw [hv]
  simp only
  have hlen : decide ((ws[i].fRow.length : Int) > 0) = decide (0 < ws[i].fRow.length) := decide_eq_decide.2 (by omega)
  rw [hlen]
  cases inR ws[i].fKey 0 4 with
  | false => rfl
  | true =>
   cases rowOk ws[i].fRow with
   | false => rfl
   | true =>
    simp only [Bool.not_true, cond_false, Bool.true_and]
    by_cases h0 : i = 0
    ·subst h0
     simp only [show decide (((0 : Nat) : Int) > 0) = false from rfl, cond_false, spec_WritesOk_j1, hw]
     cases ws[0].fGone <;> cases decide (0 < ws[0].fRow.length) <;> rfl
    ·have hi1 : i - 1 < ws.length := by omega
     have hw1 : w64 ((i : Int) - 1) = ((i - 1 : Nat) : Int) := by rw [w64_of (by omega) (by omega)]; omega
     have hv1 : ws[i - 1]? = some ws[i - 1] := List.getElem?_eq_getElem hi1
     have e0 : (i == 0) = false := by simpa using h0
     have hge : decide (ws[i - 1].fKey ≥ ws[i].fKey) = !(decide (ws[i - 1].fKey < ws[i].fKey)) := by
      rw [← decide_not]
      exact decide_eq_decide.2 (by omega)
     simp only [decide_eq_true (show (i : Int) > 0 by omega), cond_true, hw1, getI_nat, hv1, Option.bind_some, e0, Bool.false_or, spec_WritesOk_j1, hw, hge]
     cases ws[i].fGone <;> cases decide (0 < ws[i].fRow.length) <;> cases decide (ws[i - 1].fKey < ws[i].fKey) <;> rfl)
  (fun f => by rw [spec_WritesOk_l0, decide_eq_false (Int.lt_irrefl _), cond_false])
 rw [this, Bool.and_true]
def lastT (xs : List T_impl_Version) (k : Int) : Int := xs.foldl (fun n v => bif v.fKey == k then maxL n [v.fBorn, v.fDied] else n) 0
theorem spec_last {xs : List T_impl_Version} (h : SmVers xs) (k : Int) : spec_LastTurn xs k = some (bif vOk xs then lastT xs k else 0) := by
 have hl := h.1
 unfold spec_LastTurn
 cases hv : vOk xs with
 | false =>
  rw [cond_false, spec_LastTurn_l0.eq_def]
  show (bif _ then _ else _) = _
  rw [spec_vOk h, Option.bind_some, hv]
  cases decide ((0 : Int) < xs.length) <;> rfl
 | true =>
  rw [cond_true]
  have := loop_opt (xs := xs) (L := fun f i (s : Int) => spec_LastTurn_l0 xs k f s i) (fun rest s => some (rest.foldl (fun n v => bif v.fKey == k then maxL n [v.fBorn, v.fDied] else n) s)) (fun _ _ => True) (by omega)
   (fun f i s v hi hvi hw _ => .inr ⟨bif v.fKey == k then maxL s [v.fBorn, v.fDied] else s, trivial, by
    rw [spec_LastTurn_l0, decide_eq_true (by omega), cond_true, spec_vOk h, hv, Option.bind_some, spec_LastTurn_j1, cond_true, getI_nat, hvi, Option.bind_some]
    cases v.fKey == k
    ·rw [cond_false, cond_false, spec_LastTurn_j2, hw]
    ·rw [cond_true, cond_true, Option.bind_some, Option.bind_some, spec_LastTurn_j2, hw], by rw [List.foldl_cons]⟩)
   (fun f s _ => by rw [spec_LastTurn_l0, decide_eq_false (Int.lt_irrefl _), cond_false, spec_LastTurn_j1, cond_false]; rfl) (s := 0) trivial
  exact this
def newV (w : T_impl_Write) (t : Int) : T_impl_Version := ⟨w.fKey, t, 0, w.fRow⟩
def closeV (w : T_impl_Write) (t : Int) (v : T_impl_Version) : T_impl_Version := bif v.fKey == w.fKey && v.fDied == 0 then { v with fDied := t } else v
def putR (w : T_impl_Write) (t : Int) : Bool → List T_impl_Version → List T_impl_Version
 | d, [] => bif d then [] else [newV w t]
 | d, v :: r => bif decide (v.fKey > w.fKey) && !d then newV w t :: closeV w t v :: putR w t true r else closeV w t v :: putR w t d r
def writtenV (xs : List T_impl_Version) (ws : List T_impl_Write) (t : Int) : List T_impl_Version := ws.foldl (fun ys w => putR w t w.fGone ys) xs
theorem closeV_row (w : T_impl_Write) (t : Int) (v : T_impl_Version) : (closeV w t v).fRow = v.fRow := by
 unfold closeV
 cases v.fKey == w.fKey && v.fDied == 0 <;> rfl
theorem putR_len (w : T_impl_Write) (t : Int) : ∀ (d : Bool) (xs : List T_impl_Version), (putR w t d xs).length ≤ xs.length + 1 ∧ (d = true → (putR w t d xs).length = xs.length)
 | true, [] => ⟨by simp [putR], fun _ => rfl⟩
 | false, [] => ⟨by simp [putR], fun h => by cases h⟩
 | d, v :: r => by
  obtain ⟨h1, h2⟩ := putR_len w t true r
  obtain ⟨h3, h4⟩ := putR_len w t d r
  have h2 := h2 rfl
  unfold putR
  cases d with
  | true =>
   have h4 := h4 rfl
   rw [Bool.not_true, Bool.and_false, cond_false]
   simp only [List.length_cons]
   omega
  | false =>
   cases decide (v.fKey > w.fKey)
   ·simp only [Bool.false_and, cond_false, List.length_cons]
    exact ⟨by omega, fun h => by cases h⟩
   ·simp only [Bool.not_false, Bool.true_and, cond_true, List.length_cons]
    exact ⟨by omega, fun h => by cases h⟩
theorem putR_rows {Q : List T_impl_Value → Prop} (w : T_impl_Write) (t : Int) (hw : Q w.fRow) : ∀ (d : Bool) (xs : List T_impl_Version), (∀ v ∈ xs, Q v.fRow) → ∀ v ∈ putR w t d xs, Q v.fRow
 | true, [], _, v, hv => by cases hv
 | false, [], _, v, hv => by
  have : v = newV w t := by simpa [putR] using hv
  rw [this]
  exact hw
 | d, u :: r, h, v, hv => by
  have hu : Q (closeV w t u).fRow := by rw [closeV_row]; exact h u (by simp)
  have hr := fun d => putR_rows w t hw d r fun v hv => h v (List.mem_cons_of_mem _ hv)
  unfold putR at hv
  cases hc : decide (u.fKey > w.fKey) && !d with
  | true =>
   rw [hc, cond_true, List.mem_cons, List.mem_cons] at hv
   rcases hv with rfl | rfl | hv
   ·exact hw
   ·exact hu
   ·exact hr _ v hv
  | false =>
   rw [hc, cond_false, List.mem_cons] at hv
   rcases hv with rfl | hv
   ·exact hu
   ·exact hr _ v hv
theorem written_small {Q : List T_impl_Value → Prop} (t : Int) : ∀ (ws : List T_impl_Write) (xs : List T_impl_Version), (∀ w ∈ ws, Q w.fRow) → (∀ v ∈ xs, Q v.fRow) → (writtenV xs ws t).length ≤ xs.length + ws.length ∧ ∀ v ∈ writtenV xs ws t, Q v.fRow
 | [], xs, _, hx => ⟨Nat.le_refl _, hx⟩
 | w :: ws, xs, hw, hx => by
  have h1 := (putR_len w t w.fGone xs).1
  have h2 := putR_rows w t (hw w (by simp)) w.fGone xs hx
  obtain ⟨h3, h4⟩ := written_small t ws (putR w t w.fGone xs) (fun u hu => hw u (List.mem_cons_of_mem _ hu)) h2
  refine ⟨?_, h4⟩
  show (writtenV (putR w t w.fGone xs) ws t).length ≤ _
  simp only [List.length_cons]
  omega
end Go.D
set_option linter.unusedVariables false
namespace Go.D
theorem spec_put {xs : List T_impl_Version} {w : T_impl_Write} (hx : xs.length ≤ 3000000) (hw : SmR w.fRow) (t : Int) : spec_l13Written_R_L0 xs w t = some (putR w t w.fGone xs) := by
 unfold spec_l13Written_R_L0
 have := loop_opt (xs := xs) (L := fun f i (s : Bool × List T_impl_Version) => spec_l13Written_R_L0_l0 xs w t f s.1 i s.2) (fun rest s => some (s.2 ++ putR w t s.1 rest)) (fun i s => s.2.length ≤ 2 * i) (by omega)
  (fun f i s v hi hv hw' hI => by
   obtain ⟨d, out⟩ := s
   simp only at hI ⊢
   have key : ∀ (d' : Bool) (o : List T_impl_Version), o.length ≤ 2 * i + 1 → spec_l13Written_R_L0_j1 w t (i : Int) (spec_l13Written_R_L0_l0 xs w t f) v d' o = spec_l13Written_R_L0_l0 xs w t f d' ((i + 1 : Nat) : Int) (o ++ [closeV w t v]) := by
    intro d' o ho
    unfold spec_l13Written_R_L0_j1 spec_l13Written_R_L0_j3 spec_l13Written_R_L0_j2 closeV
    cases v.fKey == w.fKey <;> cases v.fDied == 0 <;> simp only [cond_true, cond_false, Bool.and_true, Bool.and_false] <;> rw [app_lt (by simp; omega), Option.bind_some, hw']
   rw [spec_l13Written_R_L0_l0, decide_eq_true (by omega), cond_true, getI_nat, hv, Option.bind_some]
   have j4 : ∀ b, spec_l13Written_R_L0_j4 w t d (i : Int) out (spec_l13Written_R_L0_l0 xs w t f) v b = bif b then spec_l13Written_R_L0_l0 xs w t f true ((i + 1 : Nat) : Int) (out ++ [newV w t] ++ [closeV w t v]) else spec_l13Written_R_L0_l0 xs w t f d ((i + 1 : Nat) : Int) (out ++ [closeV w t v]) := by
    intro b
    unfold spec_l13Written_R_L0_j4
    cases b with
    | false => rw [cond_false, cond_false, key _ _ (by omega)]
    | true => rw [cond_true, cond_true, ownR hw, Option.bind_some, app_lt (by simp; omega), Option.bind_some, key _ _ (by simp; omega)]; rfl
   refine .inr ⟨bif decide (v.fKey > w.fKey) && !d then (true, out ++ [newV w t] ++ [closeV w t v]) else (d, out ++ [closeV w t v]), ?_, ?_, ?_⟩
   ·cases decide (v.fKey > w.fKey) && !d <;> simp <;> omega
   ·simp only [j4]
    cases decide (v.fKey > w.fKey) <;> cases d <;> rfl
   ·simp only [putR]
    cases decide (v.fKey > w.fKey) <;> cases d <;> simp)
  (fun f s hI => by
   obtain ⟨d, out⟩ := s
   simp only at hI ⊢
   rw [spec_l13Written_R_L0_l0, decide_eq_false (Int.lt_irrefl _), cond_false]
   cases d with
   | true => simp [putR]
   | false =>
    rw [Bool.not_false, cond_true, ownR hw, Option.bind_some, app_lt (by simp; omega), Option.bind_some]
    rfl) (s := (w.fGone, [])) (by simp)
 exact this
theorem spec_copyV {xs : List T_impl_Version} (h : SmVers xs) : spec_l13Copy_R_L0 xs = some xs := by
 have hl := h.1
 unfold spec_l13Copy_R_L0
 have := loop_opt (xs := xs) (L := fun f i (s : List T_impl_Version) => spec_l13Copy_R_L0_l0 xs f i s) (fun rest s => some (s ++ rest)) (fun i s => s.length = i) (by omega)
  (fun f i s v hi hv hw hI => .inr ⟨s ++ [v], by simp; omega, by
   rw [spec_l13Copy_R_L0_l0, decide_eq_true (by omega), cond_true, getI_nat, hv, Option.bind_some, ownR (h.2 v (List.mem_of_getElem? hv)), Option.bind_some, app_lt (by simp; omega), Option.bind_some, hw], by simp⟩)
  (fun f s hI => by rw [spec_l13Copy_R_L0_l0, decide_eq_false (Int.lt_irrefl _), cond_false]; simp) (s := []) rfl
 simpa using this
def wrAt (xs : List T_impl_Version) (ws : List T_impl_Write) (t : Int) : List T_impl_Version × Bool :=
 bif vOk xs && (wOk ws && (inR t 1 40 && ((List.range 5).all (fun k => decide (lastT xs (k : Int) < t)) && decide ((writtenV xs ws t).length ≤ 60)))) then (writtenV xs ws t, true) else ([], false)
theorem spec_written {ws : List T_impl_Write} (hw : SmWrs ws) (t : Int) {xs : List T_impl_Version} (hx : xs.length + ws.length ≤ 3000000) : spec_WrittenAt_R_L0_l2 ws t FUEL 0 xs = some (bif decide ((writtenV xs ws t).length ≤ 60) then (writtenV xs ws t, true) else ([], false)) := by
 have hl := hw.1
 have := loop_opt (xs := ws) (L := fun f i (s : List T_impl_Version) => spec_WrittenAt_R_L0_l2 ws t f i s) (fun rest s => some (bif decide ((writtenV s rest t).length ≤ 60) then (writtenV s rest t, true) else ([], false))) (fun i s => s.length ≤ xs.length + i) (by omega)
  (fun f i s v hi hv hw' hI => .inr ⟨putR v t v.fGone s, by have := (putR_len v t v.fGone s).1; omega, by
   rw [spec_WrittenAt_R_L0_l2, decide_eq_true (by omega), cond_true, getI_nat, hv, Option.bind_some, spec_put (by omega) (hw.2 v (List.mem_of_getElem? hv)), Option.bind_some, hw'], rfl⟩)
  (fun f s hI => by
   rw [spec_WrittenAt_R_L0_l2, decide_eq_false (Int.lt_irrefl _), cond_false]
   have e : decide ((s.length : Int) > 60) = !(decide (s.length ≤ 60)) := by
    rw [← decide_not]
    exact decide_eq_decide.2 (by omega)
   rw [e]
   show _ = some (bif decide (s.length ≤ 60) then (s, true) else ([], false))
   cases decide (s.length ≤ 60) <;> rfl) (s := xs) (by omega)
 exact this
theorem spec_wrAt {xs : List T_impl_Version} {ws : List T_impl_Write} (h : SmVers xs) (hw : SmWrs ws) (hs : xs.length + ws.length ≤ 3000000) (t : Int) : spec_WrittenAt_R_L0 xs ws t = some (wrAt xs ws t) := by
 have hj : ∀ b, spec_WrittenAt_R_L0_j0 xs ws t b = bif b then some ([], false) else spec_WrittenAt_R_L0_l1 xs ws t FUEL 0 := fun _ => rfl
 unfold spec_WrittenAt_R_L0 wrAt
 rw [spec_vOk h, Option.bind_some, spec_wOk hw, Option.bind_some, spec_in, Option.bind_some]
 simp only [hj]
 cases hv : vOk xs with
 | false => rfl
 | true =>
  cases wOk ws with
  | false => rfl
  | true =>
   cases inR t 1 40 with
   | false => rfl
   | true =>
    simp only [Bool.not_true, cond_false, Bool.true_and]
    have := loop_opt (xs := List.range 5) (L := fun f i (_ : Unit) => spec_WrittenAt_R_L0_l1 xs ws t f i)
     (fun rest _ => bif rest.all (fun k => decide (lastT xs (k : Int) < t)) then some (bif decide ((writtenV xs ws t).length ≤ 60) then (writtenV xs ws t, true) else ([], false)) else some ([], false)) (fun _ _ => True) (by simp)
     (fun f i s v hi hvi hw' _ => by
      have hi5 : i < 5 := by simpa using hi
      have ev : v = i := by
       rw [List.getElem?_range hi5] at hvi
       exact (Option.some.inj hvi).symm
      subst ev
      have e : decide (lastT xs (v : Int) ≥ t) = !(decide (lastT xs (v : Int) < t)) := by
       rw [← decide_not]
       exact decide_eq_decide.2 (by omega)
      cases hc : decide (lastT xs (v : Int) < t) with
      | false =>
       refine .inl ?_
       rw [spec_WrittenAt_R_L0_l1, decide_eq_true (by omega), cond_true, spec_last h, hv, cond_true, Option.bind_some, e, hc]
       simp [hc]
      | true =>
       refine .inr ⟨(), trivial, ?_, ?_⟩
       ·rw [spec_WrittenAt_R_L0_l1, decide_eq_true (by omega), cond_true, spec_last h, hv, cond_true, Option.bind_some, e, hc, hw']
        rfl
       ·simp [hc])
     (fun f s _ => by
      show spec_WrittenAt_R_L0_l1 xs ws t (f + 1) (((List.range 5).length : Nat) : Int) = _
      rw [List.length_range, spec_WrittenAt_R_L0_l1, decide_eq_false (by omega), cond_false, spec_copyV h, Option.bind_some, spec_written hw t hs]
      rfl) (s := ()) trivial
    rw [this]
    cases (List.range 5).all (fun k => decide (lastT xs (k : Int) < t)) <;> rfl
end Go.D
set_option linter.unusedVariables false
namespace Go.D
structure RdOk (n : Int) (r : T_spec_l20Rd) : Prop where
 len : r.fB.length ≤ 2000
 lo : 0 ≤ r.fP
 hi : r.fP ≤ n
theorem RdOk.up {n m : Int} {r : T_spec_l20Rd} (h : RdOk n r) (hm : n ≤ m) : RdOk m r := ⟨h.len, h.lo, by have := h.hi; omega⟩
theorem remI_pos {a b : Int} (ha : 0 ≤ a) (hb : 0 < b) : ∃ k, remI a b = some k ∧ 0 ≤ k ∧ k < b := by
 unfold remI
 rw [if_neg (by omega)]
 refine ⟨_, rfl, ?_, ?_⟩
 ·rw [Int.tmod_eq_emod_of_nonneg ha]
  exact Int.emod_nonneg _ (by omega)
 ·rw [Int.tmod_eq_emod_of_nonneg ha]
  exact Int.emod_lt_of_pos _ hb
theorem quoI_pos {a b : Int} (ha : 0 ≤ a) (ha2 : a ≤ 4611686018427387904) (hb : 0 < b) : ∃ k, quoI a b = some k ∧ 0 ≤ k ∧ k ≤ a := by
 unfold quoI
 rw [if_neg (by omega), Int.tdiv_eq_ediv_of_nonneg ha]
 have h0 : 0 ≤ a / b := Int.ediv_nonneg ha (by omega)
 have h1 : a / b ≤ a := Int.ediv_le_self _ ha
 rw [w64_of (by omega) (by omega)]
 exact ⟨_, rfl, h0, h1⟩
theorem xor_w {a b : Int} (ha : 0 ≤ a) (hb : 0 ≤ b) (ha2 : a < 4611686018427387904) (hb2 : b < 4611686018427387904) : 0 ≤ w64 (((BitVec.ofInt 64 a ^^^ BitVec.ofInt 64 b).toNat : Nat) : Int) := by
 obtain ⟨m, rfl⟩ := Int.eq_ofNat_of_zero_le ha
 obtain ⟨n, rfl⟩ := Int.eq_ofNat_of_zero_le hb
 have hm : m < 2 ^ 62 := by omega
 have hn : n < 2 ^ 62 := by omega
 have e : (BitVec.ofInt 64 (m : Int) ^^^ BitVec.ofInt 64 (n : Int)).toNat = m ^^^ n := by
  rw [BitVec.toNat_xor, BitVec.ofInt_natCast, BitVec.ofInt_natCast, BitVec.toNat_ofNat, BitVec.toNat_ofNat, Nat.mod_eq_of_lt (by omega), Nat.mod_eq_of_lt (by omega)]
 rw [e]
 have := Nat.xor_lt_two_pow hm hn
 rw [w64_of (by omega) (by omega)]
 omega
theorem pick_ok {n : Int} {r : T_spec_l20Rd} (h : RdOk n r) (hn : n ≤ 1000000) (a : Int) : ∃ k r', spec_l20Rd_pick r a = some (k, r') ∧ RdOk (n + 1) r' ∧ 0 ≤ k ∧ (a < 1 → k = 0) ∧ (1 ≤ a → k < a) := by
 obtain ⟨fB, fP⟩ := r
 obtain ⟨h1, h2, h3⟩ := h
 simp only at h1 h2 h3
 have w1 : w64 (fP + 1) = fP + 1 := w64_of (by omega) (by omega)
 have w2 : w64 (fP + 1 - 1) = fP := by rw [show fP + 1 - 1 = fP by omega]; exact w64_of (by omega) (by omega)
 have hr : RdOk (n + 1) ⟨fB, fP + 1⟩ := ⟨h1, by simp only; omega, by simp only; omega⟩
 unfold spec_l20Rd_pick
 by_cases ha : a < 1
 ·rw [decide_eq_true ha, cond_true]
  unfold spec_l20Rd_pick_j0
  simp only [cond_true, w1]
  exact ⟨0, _, rfl, hr, Int.le_refl _, fun _ => rfl, fun h => by omega⟩
 rw [decide_eq_false ha, cond_false]
 unfold spec_l20Rd_pick_j0
 simp only [w1, w2]
 by_cases hl : fB.length = 0
 ·have : ((fB.length : Int) == 0) = true := by rw [hl]; rfl
  rw [this, cond_true]
  exact ⟨0, _, rfl, hr, Int.le_refl _, fun _ => rfl, fun h => by omega⟩
 have : ((fB.length : Int) == 0) = false := by
  rw [beq_eq_false_iff_ne]
  omega
 rw [this, cond_false]
 have hpos : (0 : Int) < fB.length := by omega
 by_cases hp : fP < (fB.length : Int)
 ·rw [decide_eq_true hp, cond_true]
  obtain ⟨b, hb, _⟩ := getI_lt (xs := fB) h2 hp
  have hb8 : b.toNat < 256 := b.toNat_lt
  have w3 : w64 (b.toNat : Int) = b.toNat := w64_of (by omega) (by omega)
  obtain ⟨k, hk, k0, k1⟩ := remI_pos (a := (b.toNat : Int)) (b := a) (by omega) (by omega)
  rw [hb, Option.bind_some, w3, hk, Option.bind_some]
  exact ⟨k, _, rfl, hr, k0, fun h => by omega, fun _ => k1⟩
 ·rw [decide_eq_false hp, cond_false]
  have w4 : w64 (fP * 7) = fP * 7 := w64_of (by omega) (by omega)
  have w5 : w64 (fP * 7 + 3) = fP * 7 + 3 := w64_of (by omega) (by omega)
  have w6 : w64 (fP * 29) = fP * 29 := w64_of (by omega) (by omega)
  obtain ⟨k1, e1, l1, u1⟩ := remI_pos (a := fP) (b := (fB.length : Int)) h2 hpos
  obtain ⟨b1, g1, _⟩ := getI_lt (xs := fB) l1 u1
  obtain ⟨k2, e2, l2, u2⟩ := remI_pos (a := fP * 7 + 3) (b := (fB.length : Int)) (by omega) hpos
  obtain ⟨b2, g2, _⟩ := getI_lt (xs := fB) l2 u2
  obtain ⟨k3, e3, l3, u3⟩ := quoI_pos (a := fP) (b := (fB.length : Int)) h2 (by omega) hpos
  have hb1 : b1.toNat < 256 := b1.toNat_lt
  have hb2 : b2.toNat < 256 := b2.toNat_lt
  have w7 : w64 (b1.toNat : Int) = b1.toNat := w64_of (by omega) (by omega)
  have w8 : w64 (b2.toNat : Int) = b2.toNat := w64_of (by omega) (by omega)
  have w9 : w64 ((b1.toNat : Int) * 131) = (b1.toNat : Int) * 131 := w64_of (by omega) (by omega)
  have w10 : w64 ((b2.toNat : Int) * 1117) = (b2.toNat : Int) * 1117 := w64_of (by omega) (by omega)
  have w11 : w64 ((b1.toNat : Int) * 131 + (b2.toNat : Int) * 1117) = (b1.toNat : Int) * 131 + (b2.toNat : Int) * 1117 := w64_of (by omega) (by omega)
  have w12 : w64 ((b1.toNat : Int) * 131 + (b2.toNat : Int) * 1117 + fP * 29) = (b1.toNat : Int) * 131 + (b2.toNat : Int) * 1117 + fP * 29 := w64_of (by omega) (by omega)
  have w13 : w64 (k3 * 53) = k3 * 53 := w64_of (by omega) (by omega)
  have w14 : w64 ((b1.toNat : Int) * 131 + (b2.toNat : Int) * 1117 + fP * 29 + k3 * 53) = (b1.toNat : Int) * 131 + (b2.toNat : Int) * 1117 + fP * 29 + k3 * 53 := w64_of (by omega) (by omega)
  simp only [w4, w5, w6, e1, g1, e2, g2, e3, Option.bind_some, w7, w8, w9, w10, w11, w12, w13, w14]
  generalize hx : (b1.toNat : Int) * 131 + (b2.toNat : Int) * 1117 + fP * 29 + k3 * 53 = x
  have x0 : 0 ≤ x := by omega
  have x1 : x ≤ 100000000 := by omega
  have y0 : 0 ≤ x.tdiv 64 := by rw [Int.tdiv_eq_ediv_of_nonneg x0]; omega
  have y1 : x.tdiv 64 ≤ x := by rw [Int.tdiv_eq_ediv_of_nonneg x0]; omega
  have w15 : w64 (x.tdiv 64) = x.tdiv 64 := w64_of (by omega) (by omega)
  rw [w15]
  obtain ⟨k, hk, k0, kk⟩ := remI_pos (b := a) (xor_w (a := x) (b := x.tdiv 64) x0 y0 (by omega) (by omega)) (by omega)
  rw [hk, Option.bind_some]
  exact ⟨k, _, rfl, hr, k0, fun h => by omega, fun _ => kk⟩
theorem odd_ok {n : Int} {r : T_spec_l20Rd} (h : RdOk n r) (hn : n ≤ 1000000) (a : Int) : ∃ b r', spec_l20Rd_odd r a = some (b, r') ∧ RdOk (n + 1) r' := by
 unfold spec_l20Rd_odd
 by_cases ha : a > 0
 ·obtain ⟨k, r', e, hr, _⟩ := pick_ok h hn a
  rw [decide_eq_true ha, cond_true, e, Option.bind_some]
  exact ⟨_, _, rfl, hr⟩
 ·rw [decide_eq_false ha, cond_false]
  exact ⟨_, _, rfl, h.up (by omega)⟩
theorem open_ok {b : List UInt8} (hb : b.length ≤ 1048576) : ∃ r, spec_l20Open b = some r ∧ RdOk 0 r := by
 unfold spec_l20Open spec_l20Open_j0
 by_cases h : (b.length : Int) > 2000
 ·rw [decide_eq_true h, cond_true]
  have e : slI b none (some 2000) none = some (b.take 2000) := by
   unfold slI
   rw [if_pos (by simp only [Option.getD_none, Option.getD_some]; omega)]
   simp
  rw [e, Option.bind_some]
  exact ⟨_, rfl, by simp only [List.length_take]; omega, Int.le_refl _, Int.le_refl _⟩
 ·rw [decide_eq_false h, cond_false]
  exact ⟨_, rfl, by simp only; omega, Int.le_refl _, Int.le_refl _⟩
end Go.D
set_option linter.unusedVariables false
namespace Go.D
def Wp {α : Type} (m : Option (α × T_spec_l20Rd)) (Q : α → T_spec_l20Rd → Prop) : Prop := ∃ x r, m = some (x, r) ∧ Q x r
theorem wp_some {α : Type} {x : α} {r : T_spec_l20Rd} {Q : α → T_spec_l20Rd → Prop} (h : Q x r) : Wp (some (x, r)) Q := ⟨x, r, rfl, h⟩
theorem wp_pick {α : Type} {r : T_spec_l20Rd} {a n : Int} {f : Int × T_spec_l20Rd → Option (α × T_spec_l20Rd)} {Q : α → T_spec_l20Rd → Prop} (h : RdOk n r) (hn : n ≤ 1000000)
  (hk : ∀ k r', RdOk (n + 1) r' → 0 ≤ k → (a < 1 → k = 0) → (1 ≤ a → k < a) → Wp (f (k, r')) Q) : Wp ((spec_l20Rd_pick r a).bind f) Q := by
 obtain ⟨k, r', e, h1, h2, h3, h4⟩ := pick_ok h hn a
 rw [e, Option.bind_some]
 exact hk k r' h1 h2 h3 h4
theorem wp_odd {α : Type} {r : T_spec_l20Rd} {a n : Int} {f : Bool × T_spec_l20Rd → Option (α × T_spec_l20Rd)} {Q : α → T_spec_l20Rd → Prop} (h : RdOk n r) (hn : n ≤ 1000000)
  (hk : ∀ b r', RdOk (n + 1) r' → Wp (f (b, r')) Q) : Wp ((spec_l20Rd_odd r a).bind f) Q := by
 obtain ⟨k, r', e, h1⟩ := odd_ok h hn a
 rw [e, Option.bind_some]
 exact hk k r' h1
theorem wp_bif {α : Type} {c : Bool} {a b : Option (α × T_spec_l20Rd)} {Q : α → T_spec_l20Rd → Prop} (h1 : c = true → Wp a Q) (h2 : c = false → Wp b Q) : Wp (bif c then a else b) Q := by
 cases c with
 | true => exact h1 rfl
 | false => exact h2 rfl
theorem wp_app {α β : Type} {xs ys : List β} {f : List β → Option (α × T_spec_l20Rd)} {Q : α → T_spec_l20Rd → Prop} (h : xs.length + ys.length < 68719476736) (hk : Wp (f (xs ++ ys)) Q) : Wp ((app xs ys).bind f) Q := by
 rw [app_lt h, Option.bind_some]
 exact hk
theorem wp_addS {α : Type} {a b : ByteArray} {f : ByteArray → Option (α × T_spec_l20Rd)} {Q : α → T_spec_l20Rd → Prop} (h : a.size + b.size ≤ 1000000) (hk : ∀ s, s.size = a.size + b.size → Wp (f s) Q) : Wp ((addS a b).bind f) Q := by
 have e : addS a b = some (a ++ b) := if_pos (by omega)
 rw [e, Option.bind_some]
 exact hk _ ByteArray.size_append
theorem wp_getI {α β : Type} {xs : List β} {i : Int} {f : β → Option (α × T_spec_l20Rd)} {Q : α → T_spec_l20Rd → Prop} (h0 : 0 ≤ i) (h1 : i < xs.length) (hk : ∀ x ∈ xs, Wp (f x) Q) : Wp ((getI xs i).bind f) Q := by
 obtain ⟨x, h, hx⟩ := getI_lt h0 h1
 rw [h, Option.bind_some]
 exact hk x (List.mem_of_getElem? hx)
theorem wp_then {α β : Type} {m : Option (β × T_spec_l20Rd)} {f : β × T_spec_l20Rd → Option (α × T_spec_l20Rd)} {P : β → T_spec_l20Rd → Prop} {Q : α → T_spec_l20Rd → Prop} (h : Wp m P) (hk : ∀ x r, P x r → Wp (f (x, r)) Q) : Wp (m.bind f) Q := by
 obtain ⟨x, r, e, hp⟩ := h
 rw [e, Option.bind_some]
 exact hk x r hp
theorem wp_mono {α : Type} {m : Option (α × T_spec_l20Rd)} {P Q : α → T_spec_l20Rd → Prop} (h : Wp m P) (hk : ∀ x r, P x r → Q x r) : Wp m Q := by
 obtain ⟨x, r, e, hp⟩ := h
 exact ⟨x, r, e, hk x r hp⟩
theorem loop_down {σ β : Type} {L : Nat → Int → σ → Option (β × T_spec_l20Rd)} {Q : β → T_spec_l20Rd → Prop} (Inv : Nat → σ → Prop)
  (h : ∀ (f k : Nat) (s : σ), k ≤ 1000000 → w64 (((k + 1 : Nat) : Int) - 1) = (k : Int) → Inv (k + 1) s → (∀ s', Inv k s' → Wp (L f (k : Int) s') Q) → Wp (L (f + 1) ((k + 1 : Nat) : Int) s) Q)
  (he : ∀ (f : Nat) (s : σ), Inv 0 s → Wp (L (f + 1) 0 s) Q) (k : Nat) (s : σ) (hI : Inv k s) (hk : k ≤ 1000000) : Wp (L FUEL (k : Int) s) Q := by
 have main : ∀ (k f : Nat) (s : σ), k < f → k ≤ 1000000 → Inv k s → Wp (L f (k : Int) s) Q := by
  intro k
  induction k with
  | zero =>
   intro f s hf _ hI
   obtain ⟨f, rfl⟩ : ∃ f', f = f' + 1 := ⟨f - 1, by omega⟩
   exact he f s hI
  | succ k ih =>
   intro f s hf hk hI
   obtain ⟨f, rfl⟩ : ∃ f', f = f' + 1 := ⟨f - 1, by omega⟩
   exact h f k s (by omega) (by rw [w64_of] <;> omega) hI fun s' hI' => ih f s' (by omega) (by omega) hI'
 exact main k FUEL s (by unfold FUEL; omega) hk hI
theorem columns_ok {n : Int} {r : T_spec_l20Rd} (h : RdOk n r) (hn : n ≤ 900000) (a : Int) : Wp (spec_l20Columns r a) fun cs r' => RdOk (n + 9) r' ∧ 1 ≤ cs.length ∧ cs.length ≤ 6 := by
 unfold spec_l20Columns
 refine wp_pick h (by omega) fun v r1 h1 v0 _ v1 => ?_
 have v1 := v1 (by omega)
 have e : w64 (1 + v) = ((v.toNat + 1 : Nat) : Int) := by rw [w64_of (by omega) (by omega)]; omega
 simp only
 rw [e]
 have := loop_down (L := fun f i (s : T_spec_l20Rd × List T_impl_Column) => spec_l20Columns_l0 a f i s.1 s.2) (Q := fun cs r' => RdOk (n + 9) r' ∧ 1 ≤ cs.length ∧ cs.length ≤ 6)
  (fun k s => RdOk (n + 1 + 2 * (3 - k)) s.1 ∧ s.2.length + k = v.toNat + 1)
  (fun f k s hk hw hI hrec => by
   obtain ⟨r, xs⟩ := s
   obtain ⟨hI1, hI2⟩ := hI
   simp only at hI1 hI2 ⊢
   rw [spec_l20Columns_l0, decide_eq_true (by omega), cond_true]
   refine wp_pick hI1 (by omega) fun k1 r1 h1 p0 _ p1 => ?_
   refine wp_getI p0 (by have := p1 (by omega); simp; omega) fun c hc => ?_
   refine wp_pick h1 (by omega) fun k2 r2 h2 q0 _ q1 => ?_
   refine wp_app (by simp; omega) ?_
   simp only [hw]
   exact hrec (r2, _) ⟨h2.up (by (try simp only); omega), by simp; omega⟩)
  (fun f s hI => by
   obtain ⟨r, xs⟩ := s
   obtain ⟨hI1, hI2⟩ := hI
   simp only at hI1 hI2 ⊢
   rw [spec_l20Columns_l0, decide_eq_false (by omega), cond_false]
   refine wp_odd hI1 (by omega) fun b r1 h1 => wp_bif (fun _ => ?_) fun _ => ?_
   ·refine wp_pick h1 (by omega) fun k1 r2 h2 _ _ _ => wp_app (by simp; omega) (wp_some ⟨h2.up (by omega), ?_, ?_⟩)
    ·simp
    ·simp; omega
   ·exact wp_some ⟨h1.up (by omega), by omega, by omega⟩)
  (v.toNat + 1) (r1, []) ⟨h1.up (by (try simp only); omega), by simp⟩ (by omega)
 exact this
theorem like_ok {n : Int} {r : T_spec_l20Rd} (h : RdOk n r) (hn : n ≤ 900000) (c : T_impl_Column) : Wp (spec_l20Like r c) fun v r' => RdOk (n + 2) r' ∧ v.fS.size ≤ 2 := by
 have e0 : (ByteArray.mk #[]).size = 0 := rfl
 have key : ∀ (m : Int) (r : T_spec_l20Rd) (b : Bool), RdOk m r → m ≤ n + 1 → Wp (spec_l20Like_j0 c b r) fun v r' => RdOk (n + 2) r' ∧ v.fS.size ≤ 2 := by
  intro m r b h hm
  unfold spec_l20Like_j0
  refine wp_bif (fun _ => wp_some ⟨h.up (by omega), by simp [e0]⟩) fun _ => wp_bif (fun _ => ?_) fun _ => wp_bif (fun _ => ?_) fun _ => ?_
  ·exact wp_pick h (by omega) fun k r1 h1 _ _ _ => wp_some ⟨h1.up (by omega), by simp [e0]⟩
  ·refine wp_pick h (by omega) fun k r1 h1 p0 _ p1 => wp_getI p0 (by have := p1 (by omega); simp; omega) fun s hs => wp_some ⟨h1.up (by omega), ?_⟩
   simp only [List.mem_cons, List.not_mem_nil, or_false] at hs
   rcases hs with rfl | rfl | rfl | rfl <;> decide
  ·exact wp_pick h (by omega) fun k r1 h1 _ _ _ => wp_some ⟨h1.up (by omega), by simp [e0]⟩
 unfold spec_l20Like
 refine wp_bif (fun _ => wp_pick h (by omega) fun k r1 h1 _ _ _ => key _ _ _ h1 (by omega)) fun _ => key _ _ _ h (by omega)
theorem value_j0 {n : Int} {r : T_spec_l20Rd} (h : RdOk n r) (hn : n ≤ 900000) (a : Int) {v : T_impl_Value} (hv : v.fS.size ≤ 3) : Wp (spec_l20Value_j0 a r v) fun v r' => RdOk (n + 3) r' ∧ v.fS.size ≤ 10 := by
 unfold spec_l20Value_j0
 have e1 : (ByteArray.mk #[97, 98, 99, 100, 101, 102, 103]).size = 7 := rfl
 have e2 : (ByteArray.mk #[65]).size = 1 := rfl
 refine wp_odd h (by omega) fun b r1 h1 => wp_bif (fun _ => ?_) fun _ => wp_some ⟨h1.up (by omega), by omega⟩
 refine wp_pick h1 (by omega) fun k r2 h2 _ _ _ => wp_bif (fun _ => wp_some ⟨h2.up (by omega), by simp only; omega⟩) fun _ => wp_bif (fun _ => ?_) fun _ => wp_bif (fun _ => ?_) fun _ => ?_
 ·exact wp_addS (by omega) fun s hs => wp_some ⟨h2.up (by omega), by simp only; omega⟩
 ·exact wp_pick h2 (by omega) fun k r3 h3 _ _ _ => wp_some ⟨h3.up (by omega), by simp only; omega⟩
 ·exact wp_addS (by omega) fun s hs => wp_some ⟨h2.up (by omega), by simp only; omega⟩
theorem value_ok {n : Int} {r : T_spec_l20Rd} (h : RdOk n r) (hn : n ≤ 800000) (a : Int) : Wp (spec_l20Value r a) fun v r' => RdOk (n + 9) r' ∧ v.fS.size ≤ 10 := by
 have e0 : (ByteArray.mk #[]).size = 0 := rfl
 have fin : ∀ (m : Int) (r : T_spec_l20Rd) (v : T_impl_Value), RdOk m r → m ≤ n + 6 → v.fS.size ≤ 3 → Wp (spec_l20Value_j0 a r v) fun v r' => RdOk (n + 9) r' ∧ v.fS.size ≤ 10 :=
  fun m r v h hm hv => wp_mono (value_j0 h (by omega) a hv) fun v r' hq => ⟨hq.1.up (by omega), hq.2⟩
 have j2 : ∀ (x : Int × T_spec_l20Rd) (b : Bool), RdOk (n + 1) x.2 → Wp (spec_l20Value_j2 a x b) fun v r' => RdOk (n + 9) r' ∧ v.fS.size ≤ 10 := by
  intro x b hx
  have j3 : ∀ b, Wp (spec_l20Value_j3 a x b) fun v r' => RdOk (n + 9) r' ∧ v.fS.size ≤ 10 := by
   intro b
   unfold spec_l20Value_j3
   refine wp_bif (fun _ => ?_) fun _ => wp_pick hx (by omega) fun k r1 h1 _ _ _ => fin _ _ _ h1 (by omega) (by simp [e0])
   refine wp_pick hx (by omega) fun k r1 h1 p0 _ p1 => ?_
   have p1 := p1 (by omega)
   have e : k = ((k.toNat : Nat) : Int) := by omega
   simp only
   rw [e]
   have := loop_down (L := fun f i (s : T_spec_l20Rd × T_impl_Value) => spec_l20Value_l4 a f i s.1 s.2) (Q := fun v r' => RdOk (n + 9) r' ∧ v.fS.size ≤ 10)
    (fun k s => k ≤ 3 ∧ RdOk (n + 2 + (3 - k)) s.1 ∧ s.2.fS.size + k ≤ 3)
    (fun f k s hk hw hI hrec => by
     obtain ⟨r, v⟩ := s
     obtain ⟨hI0, hI1, hI2⟩ := hI
     simp only at hI1 hI2 ⊢
     have es : ∀ b : UInt8, (ByteArray.mk (List.toArray ([b] : List UInt8))).size = 1 := fun _ => rfl
     rw [spec_l20Value_l4, decide_eq_true (by omega), cond_true]
     refine wp_pick hI1 (by omega) fun k1 r1 h1 _ _ _ => wp_addS (by rw [es]; omega) fun s hs => ?_
     rw [es] at hs
     simp only [hw]
     exact hrec (r1, _) ⟨by omega, h1.up (by omega), by simp only; omega⟩)
    (fun f s hI => by
     obtain ⟨r, v⟩ := s
     obtain ⟨hI0, hI1, hI2⟩ := hI
     simp only at hI1 hI2 ⊢
     rw [spec_l20Value_l4, decide_eq_false (by omega), cond_false]
     exact fin _ _ _ hI1 (by omega) (by omega))
    k.toNat (r1, T_impl_Value.mk 2 0 (ByteArray.mk #[])) ⟨by omega, h1.up (by omega), by simp only [e0]; omega⟩ (by omega)
   exact this
  unfold spec_l20Value_j2
  refine wp_bif (fun _ => ?_) fun _ => wp_bif (fun _ => j3 _) fun _ => j3 _
  refine wp_pick hx (by omega) fun k r1 h1 _ _ _ => wp_pick h1 (by omega) fun k2 r2 h2 _ _ _ => wp_bif (fun _ => ?_) fun _ => fin _ _ _ h2 (by omega) (by simp [e0])
  exact wp_pick h2 (by omega) fun k3 r3 h3 p0 _ p1 => wp_getI p0 (by have := p1 (by omega); simp; omega) fun x hx => fin _ _ _ h3 (by omega) (by simp [e0])
 unfold spec_l20Value
 refine wp_pick h (by omega) fun k r1 h1 _ _ _ => wp_bif (fun _ => fin _ _ _ h1 (by omega) (by simp [e0])) fun _ => wp_bif (fun _ => j2 _ _ h1) fun _ => wp_bif (fun _ => j2 _ _ h1) fun _ => j2 _ _ h1
end Go.D
set_option linter.unusedVariables false
namespace Go.D
end Go.D
set_option linter.unusedVariables false
namespace Go.D
theorem loop_up {γ σ β : Type} {xs : List γ} {L : Nat → Int → σ → Option (β × T_spec_l20Rd)} {Q : β → T_spec_l20Rd → Prop} (Inv : Nat → σ → Prop) (hlen : xs.length ≤ 1000000)
  (h : ∀ (f i : Nat) (s : σ) (v : γ), i < xs.length → xs[i]? = some v → w64 ((i : Int) + 1) = ((i + 1 : Nat) : Int) → Inv i s → (∀ s', Inv (i + 1) s' → Wp (L f ((i + 1 : Nat) : Int) s') Q) → Wp (L (f + 1) (i : Int) s) Q)
  (he : ∀ (f : Nat) (s : σ), Inv xs.length s → Wp (L (f + 1) (xs.length : Int) s) Q) (s : σ) (h0 : Inv 0 s) : Wp (L FUEL 0 s) Q := by
 have main : ∀ (k f i : Nat) (s : σ), i + k = xs.length → k < f → Inv i s → Wp (L f (i : Int) s) Q := by
  intro k
  induction k with
  | zero =>
   intro f i s hi hf hI
   obtain ⟨f, rfl⟩ : ∃ f', f = f' + 1 := ⟨f - 1, by omega⟩
   have : i = xs.length := by omega
   subst this
   exact he f s hI
  | succ k ih =>
   intro f i s hi hf hI
   obtain ⟨f, rfl⟩ : ∃ f', f = f' + 1 := ⟨f - 1, by omega⟩
   have hlt : i < xs.length := by omega
   exact h f i s xs[i] hlt (List.getElem?_eq_getElem hlt) (succ_w hlt (by omega)) hI fun s' hI' => ih f (i + 1) s' (by omega) (by omega) hI'
 exact main xs.length FUEL 0 s (by omega) (by unfold FUEL; omega) h0
def Sr (m : Nat) (row : List T_impl_Value) : Prop := row.length ≤ m ∧ ∀ v ∈ row, v.fS.size ≤ 10
theorem Sr.sm {m : Nat} {row : List T_impl_Value} (h : Sr m row) (hm : m ≤ 1000) : SmR row := ⟨by have := h.1; omega, fun v hv => by have := h.2 v hv; unfold SmV; omega⟩
theorem Sr.app {m k : Nat} {row r2 : List T_impl_Value} (h : Sr m row) (h2 : Sr k r2) : Sr (m + k) (row ++ r2) := ⟨by have := h.1; have := h2.1; rw [List.length_append]; omega, fun v hv => (List.mem_append.1 hv).elim (h.2 v) (h2.2 v)⟩
theorem Sr.one {v : T_impl_Value} (h : v.fS.size ≤ 10) : Sr 1 [v] := ⟨by simp, fun u hu => by simp at hu; subst hu; exact h⟩
theorem fit_ok {n : Int} {r : T_spec_l20Rd} (h : RdOk n r) (hn : n ≤ 700000) {cs : List T_impl_Column} (hc : cs.length ≤ 6) (a : Int) : Wp (spec_l20Fit r cs a) fun row r' => RdOk (n + 41) r' ∧ Sr 9 row := by
 unfold spec_l20Fit
 have e0 : (ByteArray.mk #[]).size = 0 := rfl
 exact loop_up (xs := cs) (L := fun f i (s : T_spec_l20Rd × List T_impl_Value) => spec_l20Fit_l0 cs a f i s.1 s.2) (Q := fun row r' => RdOk (n + 41) r' ∧ Sr 9 row)
  (fun i s => RdOk (n + 2 * i) s.1 ∧ Sr i s.2 ∧ s.2.length = i) (by omega)
  (fun f i s c hi hv hw hI hrec => by
   obtain ⟨r, row⟩ := s
   obtain ⟨h1, h2, h3⟩ := hI
   simp only at h1 h2 h3 ⊢
   rw [spec_l20Fit_l0, decide_eq_true (by omega), cond_true, getI_nat, hv, Option.bind_some]
   refine wp_then (like_ok h1 (by omega) c) fun v r1 hq => wp_app (by simp; omega) ?_
   simp only [hw]
   exact hrec (r1, _) ⟨hq.1.up (by omega), h2.app (.one (Nat.le_trans hq.2 (by omega))), by simp; omega⟩)
  (fun f s hI => by
   obtain ⟨r, row⟩ := s
   obtain ⟨h1, h2, h3⟩ := hI
   simp only at h1 h2 h3 ⊢
   have h9 : Sr 9 row := ⟨by omega, h2.2⟩
   rw [spec_l20Fit_l0, decide_eq_false (Int.lt_irrefl _), cond_false]
   refine wp_odd h1 (by omega) fun b r1 g1 => wp_bif (fun _ => ?_) fun _ => wp_some ⟨g1.up (by omega), h9⟩
   refine wp_pick g1 (by omega) fun k r2 g2 _ _ _ => wp_bif (fun _ => ?_) fun _ => wp_bif (fun _ => wp_bif (fun hp => ?_) fun _ => ?_) fun _ => ?_
   ·exact wp_app (by simp; omega) (wp_some ⟨g2.up (by omega), by have := (h2.app (.one (v := T_impl_Value.mk 0 0 (ByteArray.mk #[])) (by simp [e0]))).1; simp at this ⊢; exact ⟨by simp; omega, (h2.app (.one (v := T_impl_Value.mk 0 0 (ByteArray.mk #[])) (by simp [e0]))).2⟩⟩)
   ·have hp := of_decide_eq_true hp
    refine wp_pick g2 (by omega) fun k2 r3 g3 p0 _ p1 => wp_then (value_ok g3 (by omega) 3) fun v r4 hq => wp_getI p0 (p1 (by omega)) fun o ho => wp_some ⟨hq.1.up (by omega), ?_, ?_⟩
    ·rw [List.length_set]; omega
    ·intro u hu
     rcases List.mem_or_eq_of_mem_set hu with hu | rfl
     ·exact h2.2 u hu
     ·exact hq.2
   ·exact wp_some ⟨g2.up (by omega), h9⟩
   ·refine wp_then (value_ok g2 (by omega) 0) fun v1 r3 q1 => wp_then (value_ok q1.1 (by omega) 0) fun v2 r4 q2 => wp_then (value_ok q2.1 (by omega) 0) fun v3 r5 q3 => wp_app (by simp; omega) (wp_some ⟨q3.1.up (by omega), ?_⟩)
    have hs : Sr 3 [v1, v2, v3] := ⟨by simp, fun u hu => by
     simp only [List.mem_cons, List.not_mem_nil, or_false] at hu
     rcases hu with rfl | rfl | rfl
     ·exact q1.2
     ·exact q2.2
     ·exact q3.2⟩
    have := h2.app hs
    exact ⟨by have := this.1; simp at this ⊢; omega, this.2⟩) (r, []) ⟨h.up (by simp), ⟨by simp, fun v hv => by cases hv⟩, rfl⟩
end Go.D
set_option linter.unusedVariables false
namespace Go.D
def Wrs (m : Nat) (ws : List T_impl_Write) : Prop := ws.length ≤ m ∧ ∀ w ∈ ws, Sr 9 w.fRow
def Vrs (m : Nat) (xs : List T_impl_Version) : Prop := xs.length ≤ m ∧ ∀ v ∈ xs, Sr 9 v.fRow
theorem Wrs.sm {m : Nat} {ws : List T_impl_Write} (h : Wrs m ws) (hm : m ≤ 1000) : SmWrs ws := ⟨by have := h.1; omega, fun w hw => (h.2 w hw).sm (by omega)⟩
theorem Vrs.sm {m : Nat} {xs : List T_impl_Version} (h : Vrs m xs) (hm : m ≤ 1000) : SmVers xs := ⟨by have := h.1; omega, fun w hw => (h.2 w hw).sm (by omega)⟩
theorem Wrs.snoc {m : Nat} {ws : List T_impl_Write} (h : Wrs m ws) {w : T_impl_Write} (hw : Sr 9 w.fRow) : Wrs (m + 1) (ws ++ [w]) := ⟨by have := h.1; simp; omega, fun u hu => (List.mem_append.1 hu).elim (h.2 u) fun hu => by simp at hu; subst hu; exact hw⟩
theorem Vrs.snoc {m : Nat} {ws : List T_impl_Version} (h : Vrs m ws) {w : T_impl_Version} (hw : Sr 9 w.fRow) : Vrs (m + 1) (ws ++ [w]) := ⟨by have := h.1; simp; omega, fun u hu => (List.mem_append.1 hu).elim (h.2 u) fun hu => by simp at hu; subst hu; exact hw⟩
theorem Vrs.set {m : Nat} {ws : List T_impl_Version} (h : Vrs m ws) (i : Nat) {w : T_impl_Version} (hw : Sr 9 w.fRow) : Vrs m (ws.set i w) := ⟨by have := h.1; simp; omega, fun u hu => by
 rcases List.mem_or_eq_of_mem_set hu with hu | rfl
 ·exact h.2 u hu
 ·exact hw⟩
theorem Sr.nil9 : Sr 9 [] := ⟨by simp, fun v hv => by cases hv⟩
theorem Sr.up {m k : Nat} {r : List T_impl_Value} (h : Sr m r) (hk : m ≤ k) : Sr k r := ⟨Nat.le_trans h.1 hk, h.2⟩
theorem small_ok {n : Int} {r : T_spec_l20Rd} (h : RdOk n r) (hn : n ≤ 900000) : Wp (spec_l20Small r) fun row r' => RdOk (n + 1) r' ∧ Sr 9 row := by
 have e0 : (ByteArray.mk #[]).size = 0 := rfl
 unfold spec_l20Small
 exact wp_pick h (by omega) fun k r1 h1 _ _ _ => wp_some ⟨h1, (Sr.one (by simp [e0])).up (by omega)⟩
theorem any_ok {n : Int} {r : T_spec_l20Rd} (h : RdOk n r) (hn : n ≤ 600000) (a : Int) : Wp (spec_l20Any r a) fun row r' => RdOk (n + 50) r' ∧ Sr 9 row := by
 unfold spec_l20Any
 refine wp_then (columns_ok h (by omega) 0) fun cs r1 h1 => wp_then (fit_ok h1.1 (by omega) h1.2.2 a) fun row r2 h2 => wp_some ⟨h2.1.up (by omega), h2.2⟩
theorem writes_ok {n : Int} {r : T_spec_l20Rd} (h : RdOk n r) (hn : n ≤ 500000) (a : Int) : Wp (spec_l20Writes r a) fun ws r' => RdOk (n + 70) r' ∧ Wrs 6 ws := by
 unfold spec_l20Writes
 have := loop_up (xs := List.range 5) (L := fun f i (s : T_spec_l20Rd × List T_impl_Write) => spec_l20Writes_l0 a f i s.1 s.2) (Q := fun ws r' => RdOk (n + 70) r' ∧ Wrs 6 ws)
  (fun i s => RdOk (n + 3 * i) s.1 ∧ Wrs i s.2 ∧ i ≤ 5) (by simp)
  (fun f i s v hi hv hw hI hrec => by
   obtain ⟨r, ws⟩ := s
   obtain ⟨h1, h2, h3⟩ := hI
   have hi : i < 5 := by simpa using hi
   simp only at h1 h2 ⊢
   rw [spec_l20Writes_l0, decide_eq_true (by omega), cond_true]
   have j2 : ∀ (r2 : T_spec_l20Rd) (w : T_impl_Write), RdOk (n + 3 * i + 3) r2 → Sr 9 w.fRow → Wp (spec_l20Writes_j2 (i : Int) ws (spec_l20Writes_l0 a f) r2 w) fun ws r' => RdOk (n + 70) r' ∧ Wrs 6 ws := by
    intro r2 w g1 g2
    unfold spec_l20Writes_j2 spec_l20Writes_j1
    refine wp_app (by have := h2.1; simp; omega) ?_
    rw [hw]
    exact hrec (r2, _) ⟨g1.up (by simp; omega), h2.snoc g2, by omega⟩
   refine wp_pick h1 (by omega) fun k1 r1 g1 _ _ _ => wp_bif (fun _ => ?_) fun _ => ?_
   ·refine wp_pick g1 (by omega) fun k2 r2 g2 _ _ _ => wp_bif (fun _ => j2 _ _ (g2.up (by omega)) Sr.nil9) fun _ => ?_
    exact wp_then (small_ok g2 (by omega)) fun row r3 g3 => j2 _ _ (g3.1.up (by omega)) g3.2
   ·unfold spec_l20Writes_j1
    simp only
    rw [hw]
    exact hrec (r1, _) ⟨g1.up (by simp; omega), ⟨by have := h2.1; simp only; omega, h2.2⟩, by omega⟩)
  (fun f s hI => by
   obtain ⟨r, ws⟩ := s
   obtain ⟨h1, h2, h3⟩ := hI
   simp only [List.length_range] at h1 h2 ⊢
   rw [spec_l20Writes_l0, decide_eq_false (by omega), cond_false]
   have hl := h2.1
   refine wp_odd h1 (by omega) fun b r1 g1 => wp_bif (fun _ => ?_) fun _ => wp_some ⟨g1.up (by omega), by omega, h2.2⟩
   refine wp_pick g1 (by omega) fun k2 r2 g2 _ _ _ => wp_bif (fun _ => ?_) fun _ => wp_bif (fun _ => ?_) fun _ => ?_
   ·exact wp_pick g2 (by omega) fun k3 r3 g3 _ _ _ => wp_app (by simp; omega) (wp_some ⟨g3.up (by omega), h2.snoc Sr.nil9⟩)
   ·exact wp_then (small_ok g2 (by omega)) fun row r3 g3 => wp_app (by simp; omega) (wp_some ⟨g3.1.up (by omega), h2.snoc g3.2⟩)
   ·exact wp_then (any_ok g2 (by omega) 1) fun row r3 g3 => wp_app (by simp; omega) (wp_some ⟨g3.1.up (by omega), h2.snoc g3.2⟩))
  (r, []) ⟨h.up (by simp), ⟨by simp, fun w hw => by cases hw⟩, by omega⟩
 exact this
end Go.D
set_option linter.unusedVariables false
namespace Go.D
theorem wrAt_small {xs : List T_impl_Version} {ws : List T_impl_Write} {m k : Nat} (h : Vrs m xs) (hw : Wrs k ws) (t : Int) : Vrs (m + k) (wrAt xs ws t).1 := by
 unfold wrAt
 obtain ⟨h1, h2⟩ := written_small (Q := Sr 9) t ws xs hw.2 h.2
 have := h.1
 have := hw.1
 cases vOk xs && (wOk ws && (inR t 1 40 && ((List.range 5).all (fun k => decide (lastT xs (k : Int) < t)) && decide ((writtenV xs ws t).length ≤ 60)))) with
 | false => exact ⟨by simp, fun v hv => by cases hv⟩
 | true => exact ⟨by rw [cond_true]; simp only; omega, h2⟩
theorem versions_ok {n : Int} {r : T_spec_l20Rd} (h : RdOk n r) (hn : n ≤ 400000) (a : Int) : Wp (spec_l20Versions r a) fun p r' => RdOk (n + 450) r' ∧ Vrs 40 p.1 ∧ 0 ≤ p.2 ∧ p.2 ≤ 20 := by
 unfold spec_l20Versions
 refine wp_pick h (by omega) fun k0 r0 h0 k0l _ k0u => ?_
 have k0u := k0u (by omega)
 have e : k0 = ((k0.toNat : Nat) : Int) := by omega
 simp only
 rw [e]
 have := loop_down (L := fun f i (s : Int × T_spec_l20Rd × List T_impl_Version) => spec_l20Versions_l0 a f s.1 i s.2.1 s.2.2) (Q := fun p r' => RdOk (n + 450) r' ∧ Vrs 40 p.1 ∧ 0 ≤ p.2 ∧ p.2 ≤ 20)
  (fun k s => k ≤ 6 ∧ RdOk (n + 1 + 71 * (6 - k)) s.2.1 ∧ Vrs (6 * (6 - k)) s.2.2 ∧ 1 ≤ s.1 ∧ s.1 ≤ 1 + 2 * (6 - k))
  (fun f k s hk hw hI hrec => by
   obtain ⟨t, r, xs⟩ := s
   obtain ⟨h1, h2, h3, h4, h5⟩ := hI
   simp only at h2 h3 h4 h5 ⊢
   rw [spec_l20Versions_l0, decide_eq_true (by omega), cond_true]
   refine wp_then (writes_ok h2 (by omega) 0) fun ws r1 g1 => ?_
   have hxl := h3.1
   have hwl := g1.2.1
   simp only
   rw [spec_wrAt (h3.sm (by omega)) (g1.2.sm (by omega)) (by omega), Option.bind_some]
   have j1 : ∀ ys, Vrs (6 * (6 - k)) ys → Wp (spec_l20Versions_j1 t ((k + 1 : Nat) : Int) (spec_l20Versions_l0 a f) r1 ys) fun p r' => RdOk (n + 450) r' ∧ Vrs 40 p.1 ∧ 0 ≤ p.2 ∧ p.2 ≤ 20 := by
    intro ys hy
    unfold spec_l20Versions_j1
    refine wp_pick g1.1 (by omega) fun k2 r2 g2 k2l _ k2u => ?_
    have k2u := k2u (by omega)
    have ew : w64 (w64 (t + 1) + k2) = t + 1 + k2 := by
     rw [show w64 (t + 1) = t + 1 from w64_of (by omega) (by omega)]
     exact w64_of (by omega) (by omega)
    simp only
    rw [hw, ew]
    exact hrec (_, r2, ys) ⟨by omega, g2.up (by (try simp only); omega), hy, by (try simp only); omega, by (try simp only); omega⟩
   have hup : Vrs (6 * (6 - k)) xs := ⟨by have := h3.1; omega, h3.2⟩
   have hwr : Vrs (6 * (6 - k)) (wrAt xs ws t).1 := by
    have := wrAt_small h3 g1.2 t
    exact ⟨by have := this.1; omega, this.2⟩
   exact wp_bif (fun _ => j1 _ hwr) fun _ => j1 _ hup)
  (fun f s hI => by
   obtain ⟨t, r, xs⟩ := s
   obtain ⟨h1, h2, h3, h4, h5⟩ := hI
   simp only at h2 h3 h4 h5 ⊢
   rw [spec_l20Versions_l0, decide_eq_false (by omega), cond_false]
   have hxl := h3.1
   have h3' : Vrs 39 xs := ⟨by omega, h3.2⟩
   have j2 : ∀ (r2 : T_spec_l20Rd) ys, RdOk (n + 450) r2 → Vrs 40 ys → Wp (spec_l20Versions_j2 t r2 ys) fun p r' => RdOk (n + 450) r' ∧ Vrs 40 p.1 ∧ 0 ≤ p.2 ∧ p.2 ≤ 20 :=
    fun r2 ys g1 g2 => wp_some ⟨g1, g2, by (try simp only); omega, by (try simp only); omega⟩
   have up40 : ∀ ys, Vrs 39 ys → Vrs 40 ys := fun ys hy => ⟨by have := hy.1; omega, hy.2⟩
   have j3f : ∀ r2, RdOk (n + 450) r2 → Wp (spec_l20Versions_j3 t xs false r2) fun p r' => RdOk (n + 450) r' ∧ Vrs 40 p.1 ∧ 0 ≤ p.2 ∧ p.2 ≤ 20 :=
    fun r2 g1 => j2 _ _ g1 (up40 _ h3')
   refine wp_bif (fun hpos => ?_) fun _ => j3f _ (h2.up (by omega))
   have hpos : (0 : Int) < xs.length := of_decide_eq_true hpos
   refine wp_odd h2 (by omega) fun b r1 g1 => ?_
   cases b with
   | false => exact j3f _ (g1.up (by omega))
   | true =>
    unfold spec_l20Versions_j3
    refine wp_bif (fun _ => ?_) fun hc => absurd hc (by simp)
    refine wp_pick g1 (by omega) fun k1 r2 g2 p0 _ p1 => wp_pick g2 (by omega) fun k2 r3 g3 _ _ _ => ?_
    have p1 := p1 (by omega)
    refine wp_bif (fun _ => ?_) fun _ => wp_bif (fun _ => ?_) fun _ => wp_bif (fun _ => ?_) fun _ => ?_
    ·exact wp_pick g3 (by omega) fun k3 r4 g4 _ _ _ => wp_getI p0 p1 fun v hv => j2 _ _ (g4.up (by omega)) (up40 _ (h3'.set _ (h3.2 v hv)))
    ·exact wp_pick g3 (by omega) fun k3 r4 g4 _ _ _ => wp_getI p0 p1 fun v hv => j2 _ _ (g4.up (by omega)) (up40 _ (h3'.set _ (h3.2 v hv)))
    ·exact wp_pick g3 (by omega) fun k3 r4 g4 _ _ _ => wp_getI p0 p1 fun v hv => j2 _ _ (g4.up (by omega)) (up40 _ (h3'.set _ (h3.2 v hv)))
    ·exact wp_getI p0 p1 fun v hv => wp_app (by simp; omega) (j2 _ _ (g3.up (by omega)) (h3'.snoc (h3.2 v hv))))
  k0.toNat (1, r0, []) ⟨by omega, h0.up (by omega), ⟨by simp, fun v hv => by cases hv⟩, by (try simp only); omega, by (try simp only); omega⟩ (by omega)
 exact this
end Go.D
set_option linter.unusedVariables false
namespace Go.D
def atV (k t : Int) (v : T_impl_Version) : Bool := v.fKey == k && (decide (v.fBorn ≤ t) && (v.fDied == 0 || decide (v.fDied > t)))
def seenV (xs : List T_impl_Version) (k t : Int) : Option T_impl_Version := xs.find? (atV k t)
theorem impl_seenV {xs : List T_impl_Version} (h : Sm xs.length) (k t : Int) : impl_seen xs k t = some (match seenV xs k t with | some v => (v, true) | none => (T_impl_Version.mk 0 0 0 [], false)) := by
 unfold impl_seen
 have := loop_opt (xs := xs) (L := fun f i (_ : Unit) => impl_seen_l0 xs k t f i) (fun rest _ => some (match rest.find? (atV k t) with | some v => (v, true) | none => (T_impl_Version.mk 0 0 0 [], false))) (fun _ _ => True) (by omega)
  (fun f i s v hi hv hw _ => by
   have hc : impl_seen_l0 xs k t (f + 1) i = bif atV k t v then some (v, true) else impl_seen_l0 xs k t f ((i + 1 : Nat) : Int) := by
    rw [impl_seen_l0, decide_eq_true (by omega), cond_true, getI_nat, hv, Option.bind_some]
    unfold atV
    simp only [impl_seen_j1, hw]
    cases v.fKey == k <;> cases decide (v.fBorn ≤ t) <;> cases v.fDied == 0 <;> cases decide (v.fDied > t) <;> rfl
   cases ha : atV k t v with
   | true =>
    refine .inl ?_
    rw [hc, ha, cond_true, List.find?_cons, ha]
   | false =>
    refine .inr ⟨(), trivial, by rw [hc, ha, cond_false], ?_⟩
    rw [List.find?_cons, ha])
  (fun f s _ => by rw [impl_seen_l0, decide_eq_false (Int.lt_irrefl _), cond_false]; rfl) (s := ()) trivial
 exact this
theorem seenV_mem {xs : List T_impl_Version} {k t : Int} {v : T_impl_Version} (h : seenV xs k t = some v) : v ∈ xs ∧ atV k t v = true := ⟨List.mem_of_find?_eq_some h, List.find?_some h⟩
end Go.D
set_option linter.unusedVariables false
namespace Go.D
theorem asc_ext : ∀ {xs ys : List Int}, xs.Pairwise (· < ·) → ys.Pairwise (· < ·) → (∀ x, x ∈ xs ↔ x ∈ ys) → xs = ys
 | [], [], _, _, _ => rfl
 | [], y :: ys, _, _, h => absurd ((h y).2 (by simp)) (by simp)
 | x :: xs, [], _, _, h => absurd ((h x).1 (by simp)) (by simp)
 | x :: xs, y :: ys, h1, h2, h => by
  rw [List.pairwise_cons] at h1 h2
  have hxy : x = y := by
   rcases List.mem_cons.1 ((h x).1 (by simp)) with e | e
   ·exact e
   ·rcases List.mem_cons.1 ((h y).2 (by simp)) with e' | e'
    ·exact e'.symm
    ·have := h2.1 x e
     have := h1.1 y e'
     omega
  subst hxy
  congr 1
  refine asc_ext h1.2 h2.2 fun z => ⟨fun hz => ?_, fun hz => ?_⟩
  ·rcases List.mem_cons.1 ((h z).1 (by simp [hz])) with e | e
   ·have := h1.1 z hz
    omega
   ·exact e
  ·rcases List.mem_cons.1 ((h z).2 (by simp [hz])) with e | e
   ·have := h2.1 z hz
    omega
   ·exact e
theorem impl_cloneI {a : List Int} (ha : a.length ≤ 4194304) : impl_clone_int a = some a := by
 unfold impl_clone_int slices_Clip_int_int
 cases h : ((a.length : Int)) == 0
 ·rw [app_lt (by simp; omega), Option.bind_some, List.nil_append, show slI a none (some (a.length : Int)) (some (a.length : Int)) = some a by simp [slI]]
  rfl
 ·have : a = [] := by
   have : (a.length : Int) = 0 := by simpa using h
   exact List.eq_nil_of_length_eq_zero (by omega)
  subst this
  rfl
end Go.D
set_option linter.unusedVariables false
namespace Go.D
open Go.Proofs
theorem rd_5 : Rd Tryz.prog 5 UInt8 u8W := rd_u8 Tryz.underlying5 (by kernel_rfl)
theorem rd_22 : Rd Tryz.prog 22 (List UInt8) (listW u8W) := rd_slice Tryz.underlying22 (by kernel_rfl) rd_5
end Go.D
set_option linter.unusedVariables false
namespace Go.D
def atM (t : Int) (m : T_impl_Mark) : Bool := decide (m.fBorn ≤ t) && (m.fDied == 0 || decide (m.fDied > t))
def findM (xs : List T_impl_Mark) (v : T_impl_Value) (t : Int) : List Int := bif ixOk xs && valOk v then (xs.filter fun m => eq_T_impl_Value m.fV v && atM t m).map (·.fKey) else []
theorem impl_findM {xs : List T_impl_Mark} (h : SmMs xs) {v : T_impl_Value} (hv : SmV v) (t : Int) : impl_IndexFind xs v t = some (findM xs v t) := by
 have hl := h.1
 have hf : ∀ m, impl_IndexFind_1 m v t = some (eq_T_impl_Value m.fV v && atM t m) := fun m => by
  unfold impl_IndexFind_1 impl_Mark_at atM
  cases eq_T_impl_Value m.fV v <;> cases decide (m.fBorn ≤ t) <;> cases m.fDied == 0 <;> rfl
 have hk : impl_keysOf xs (fun z0 => impl_IndexFind_1 z0 v t) = some ((xs.filter fun m => eq_T_impl_Value m.fV v && atM t m).map (·.fKey)) := by
  unfold impl_keysOf
  have := loop_opt (xs := xs) (L := fun f i (s : List Int) => impl_keysOf_l0 xs (fun z0 => impl_IndexFind_1 z0 v t) f i s) (fun rest s => some (s ++ (rest.filter fun m => eq_T_impl_Value m.fV v && atM t m).map (·.fKey))) (fun i s => s.length ≤ i) (by omega)
   (fun f i s m hi hm hw hI => by
    refine .inr ⟨s ++ (bif eq_T_impl_Value m.fV v && atM t m then [m.fKey] else []), ?_, ?_, ?_⟩
    ·cases eq_T_impl_Value m.fV v && atM t m <;> simp <;> omega
    ·rw [impl_keysOf_l0, decide_eq_true (by omega), cond_true, getI_nat, hm, Option.bind_some, hf, Option.bind_some]
     cases eq_T_impl_Value m.fV v && atM t m
     ·rw [cond_false, cond_false, List.append_nil, hw]
     ·rw [cond_true, cond_true, app_lt (by simp; omega), Option.bind_some, hw]
    ·rw [List.filter_cons]
     cases eq_T_impl_Value m.fV v && atM t m <;> simp)
   (fun f s hI => by
    rw [impl_keysOf_l0, decide_eq_false (Int.lt_irrefl _), cond_false, impl_cloneI (by omega), Option.bind_some]
    simp) (s := []) (by simp)
  rw [this, List.nil_append]
 have hj : ∀ b, impl_IndexFind_j0 xs v t b = some (bif b then [] else (xs.filter fun m => eq_T_impl_Value m.fV v && atM t m).map (·.fKey)) := fun b => by
  unfold impl_IndexFind_j0
  cases b with
  | true => rfl
  | false => rw [cond_false, cond_false, hk, Option.bind_some]
 unfold impl_IndexFind findM
 rw [impl_ixOk h, Option.bind_some]
 cases ixOk xs with
 | false => exact hj true
 | true =>
  rw [Bool.not_true, cond_false, impl_value hv, Option.bind_some, hj]
  cases valOk v <;> rfl
def numV (n : Int) : T_impl_Value := T_impl_Value.mk 1 n (ByteArray.mk #[])
def headIs (r : List T_impl_Value) (n : Int) : Bool := match r with
 | x :: _ => eq_T_impl_Value x (numV n)
 | [] => false
def hasK (xs : List T_impl_Version) (t n : Int) (k : Int) : Bool := vOk xs && match seenV xs k t with
 | some v => headIs v.fRow n
 | none => false
def keysS (xs : List T_impl_Version) (t n : Int) : List Int := ((List.range 5).filter fun (k : Nat) => hasK xs t n (k : Int)).map Int.ofNat
theorem at_mark (k t : Int) (v : T_impl_Version) : atV k t v = (v.fKey == k && atM t (markOf v)) := rfl
theorem alive_over {a b : T_impl_Mark} {t : Int} (ht : t ≤ 40) (ha : atM t a = true) (hb : atM t b = true) (hk : a.fKey = b.fKey) : overM a b = true := by
 unfold overM endM
 unfold atM at ha hb
 simp only [Bool.and_eq_true, Bool.or_eq_true, decide_eq_true_eq, beq_iff_eq] at ha hb
 rw [hk, beq_self_eq_true, Bool.true_and, Bool.and_eq_true]
 constructor
 ·apply decide_eq_true
  by_cases h : b.fDied = 0
  ·have : (b.fDied == 0) = true := by rw [h]; rfl
   rw [this, cond_true]
   omega
  ·have : (b.fDied == 0) = false := beq_eq_false_iff_ne.2 h
   rw [this, cond_false]
   omega
 ·apply decide_eq_true
  by_cases h : a.fDied = 0
  ·have : (a.fDied == 0) = true := by rw [h]; rfl
   rw [this, cond_true]
   omega
  ·have : (a.fDied == 0) = false := beq_eq_false_iff_ne.2 h
   rw [this, cond_false]
   omega
theorem alive_one {xs : List T_impl_Version} (hv : vOk xs = true) {t : Int} (ht : t ≤ 40) {u v : T_impl_Version} (hu : u ∈ xs) (hw : v ∈ xs) (h1 : atM t (markOf u) = true) (h2 : atM t (markOf v) = true) (hk : u.fKey = v.fKey) : u = v := by
 obtain ⟨i, hi, rfl⟩ := List.getElem_of_mem hu
 obtain ⟨j, hj, rfl⟩ := List.getElem_of_mem hw
 have hp := List.pairwise_iff_getElem.1 (vOk_dis hv)
 by_cases hij : i = j
 ·subst hij
  rfl
 ·have ov := alive_over ht h1 h2 hk
  rcases Nat.lt_or_gt_of_ne hij with hlt | hlt
  ·have := over_dis (hp i j (by simpa using hi) (by simpa using hj) hlt)
   rw [List.getElem_map, List.getElem_map, ov] at this
   cases this
  ·have := over_dis (hp j i (by simpa using hj) (by simpa using hi) hlt)
   rw [List.getElem_map, List.getElem_map, over_symm, ov] at this
   cases this
theorem find_keys {xs : List T_impl_Version} (h : SmVers xs) {t n : Int} (ht : t ≤ 40) (h0 : 0 ≤ n) (h5 : n < 5) : findM (indexV xs) (numV n) t = keysS xs t n := by
 have e0 : (ByteArray.mk #[]).size = 0 := rfl
 have hval : valOk (numV n) = true := by
  unfold valOk numV inR
  simp
  omega
 unfold findM
 rw [indexV_ok h, hval, Bool.and_self, cond_true]
 refine asc_ext ?_ ?_ fun k => ?_
 ·rw [List.pairwise_map]
  have hp := (indexV_asc xs).and (indexV_over xs)
  rw [List.pairwise_filter]
  refine hp.imp fun {a b} hab ha hb => ?_
  rw [Bool.and_eq_true] at ha hb
  have ea := (eqV_iff _ _).1 ha.1
  have eb := (eqV_iff _ _).1 hb.1
  have hne : a.fKey ≠ b.fKey := fun hk => by
   rw [alive_over ht ha.2 hb.2 hk] at hab
   exact absurd hab.2 (by simp)
  have ho := hab.1
  unfold ordM at ho
  have hz : ordV a.fV b.fV = 0 := by
   rw [ea, eb]
   exact ord_val.refl _
  rw [hz] at ho
  simp only [ne_eq, not_true_eq_false, if_false] at ho
  unfold cmpI at ho
  repeat' split at ho
  all_goals omega
 ·unfold keysS
  rw [List.pairwise_map]
  exact (List.pairwise_lt_range.filter _).imp fun {a b} hab => Int.ofNat_lt.2 hab
 ·unfold keysS
  simp only [List.mem_map, List.mem_filter, List.mem_range]
  constructor
  ·rintro ⟨m, ⟨hm, hc⟩, rfl⟩
   rw [Bool.and_eq_true] at hc
   obtain ⟨hv, v, hvx, rfl⟩ := indexV_mem hm
   have hg := vOk_mem hv hvx
   have hg' := hg
   unfold verG inR at hg'
   simp only [Bool.and_eq_true, decide_eq_true_eq] at hg'
   refine ⟨v.fKey.toNat, ⟨by omega, ?_⟩, by show ((v.fKey.toNat : Nat) : Int) = v.fKey; omega⟩
   have ek : ((v.fKey.toNat : Nat) : Int) = v.fKey := by omega
   rw [ek]
   unfold hasK
   rw [hv, Bool.true_and]
   have hat : atV v.fKey t v = true := by rw [at_mark, beq_self_eq_true, Bool.true_and]; exact hc.2
   have hsome : (seenV xs v.fKey t).isSome = true := by
    unfold seenV
    rw [List.find?_isSome]
    exact ⟨v, hvx, hat⟩
   obtain ⟨u, hu⟩ := Option.isSome_iff_exists.1 hsome
   obtain ⟨u1, u2⟩ := seenV_mem hu
   rw [at_mark, Bool.and_eq_true] at u2
   have huv : u = v := alive_one hv ht u1 hvx u2.2 hc.2 (by simpa using u2.1)
   subst huv
   rw [hu]
   have hfirst := (eqV_iff _ _).1 hc.1
   have hfirst : firstV u.fRow = numV n := hfirst
   cases hr : u.fRow with
   | nil =>
    rw [hr] at hfirst
    have := congrArg T_impl_Value.fKind hfirst
    simp [firstV, N0, numV] at this
   | cons x r =>
    rw [hr] at hfirst
    have hx : x = numV n := hfirst
    show headIs u.fRow n = true
    rw [hr, hx]
    exact eqV_refl _
  ·rintro ⟨k', ⟨hk5, hc⟩, rfl⟩
   unfold hasK at hc
   rw [Bool.and_eq_true] at hc
   obtain ⟨hv, hc⟩ := hc
   cases hs : seenV xs (k' : Int) t with
   | none => rw [hs] at hc; cases hc
   | some u =>
    rw [hs] at hc
    obtain ⟨u1, u2⟩ := seenV_mem hs
    rw [at_mark, Bool.and_eq_true] at u2
    have hc : headIs u.fRow n = true := hc
    have hkk : u.fKey = (k' : Int) := by simpa using u2.1
    cases hr : u.fRow with
    | nil => rw [hr] at hc; cases hc
    | cons x r =>
     rw [hr] at hc
     refine ⟨markOf u, ⟨(indexV_perm hv).symm.subset (List.mem_map.2 ⟨u, u1, rfl⟩), ?_⟩, hkk⟩
     rw [Bool.and_eq_true]
     refine ⟨?_, u2.2⟩
     show eq_T_impl_Value (firstV u.fRow) (numV n) = true
     rw [hr]
     exact hc
end Go.D
set_option linter.unusedVariables false
namespace Go.D
theorem impl_cloneVR {a : List T_impl_Value} (ha : a.length ≤ 4194304) : impl_clone_impl_Value a = some a := by
 unfold impl_clone_impl_Value slices_Clip_impl_Value_impl_Value
 cases h : ((a.length : Int)) == 0
 ·rw [cond_false, app_lt (by simp; omega), Option.bind_some, List.nil_append, show slI a none (some (a.length : Int)) (some (a.length : Int)) = some a by simp [slI]]
  rfl
 ·have : a = [] := by
   have : (a.length : Int) = 0 := by simpa using h
   exact List.eq_nil_of_length_eq_zero (by omega)
  subst this
  rfl
end Go.D
set_option linter.unusedVariables false
namespace Go.D
def rowOf (xs : List T_impl_Version) (k t : Int) : Option (List T_impl_Value) := (seenV xs k t).map (·.fRow)
def rowsV (xs : List T_impl_Version) (t : Int) : List (List T_impl_Value) := (List.range 5).filterMap fun (k : Nat) => rowOf xs (k : Int) t
theorem rowOf_sm {xs : List T_impl_Version} (h : SmVers xs) {k t : Int} {r : List T_impl_Value} (hr : rowOf xs k t = some r) : SmR r := by
 unfold rowOf at hr
 rw [Option.map_eq_some_iff] at hr
 obtain ⟨v, h1, rfl⟩ := hr
 exact h.2 v (seenV_mem h1).1
theorem fm_len {α : Type} (f : Nat → Option α) (n : Nat) : ((List.range n).filterMap f).length ≤ n := by
 have := List.length_filterMap_le f (List.range n)
 simpa using this
theorem fm_succ {α : Type} (f : Nat → Option α) (n : Nat) : (List.range (n + 1)).filterMap f = (List.range n).filterMap f ++ (f n).toList := by
 rw [List.range_succ, List.filterMap_append]
 congr 1
theorem impl_clipRs {xs : List (List T_impl_Value)} : slices_Clip_impl_Value_impl_Value_s3 xs = some xs := by
 unfold slices_Clip_impl_Value_impl_Value_s3
 rw [show slI xs none (some (xs.length : Int)) (some (xs.length : Int)) = some xs by simp [slI]]
 rfl
theorem impl_copyRs {xs : List (List T_impl_Value)} (hl : Sm xs.length) (h : ∀ r ∈ xs, SmR r) : impl_rowsCopy xs = some xs := by
 have := loop_opt (xs := xs) (L := fun f i (s : List (List T_impl_Value)) => impl_rowsCopy_l0 xs f i s) (fun rest s => some (s ++ rest)) (fun i s => s.length = i) (by omega)
  (fun f i s v hi hv hw hI => .inr ⟨s ++ [v], by simp; omega, by
   have := (h v (List.mem_of_getElem? hv)).1
   rw [impl_rowsCopy_l0, decide_eq_true (by omega), cond_true, getI_nat, hv, Option.bind_some, impl_cloneVR (by omega), Option.bind_some, app_lt (by simp; omega), Option.bind_some, hw], by simp⟩)
  (fun f s hI => by rw [impl_rowsCopy_l0, decide_eq_false (Int.lt_irrefl _), cond_false, impl_clipRs]; simp) (s := []) rfl
 have e : impl_rowsCopy xs = some ([] ++ xs) := this
 simpa using e
theorem impl_rowsAt {xs : List T_impl_Version} (h : SmVers xs) (t : Int) : impl_RowsAt xs t = some (bif vOk xs then rowsV xs t else []) := by
 unfold impl_RowsAt
 rw [impl_vOk h, Option.bind_some]
 cases vOk xs with
 | false => rfl
 | true =>
  rw [Bool.not_true, cond_false, cond_true]
  have := loop_opt (xs := List.range 5) (L := fun f i (s : List (List T_impl_Value)) => impl_RowsAt_l0 xs t f i s) (fun _ _ => some (rowsV xs t)) (fun i s => s = (List.range i).filterMap (fun (k : Nat) => rowOf xs (k : Int) t) ∧ s.length ≤ i) (by simp)
   (fun f i s v hi hv hw hI => by
    obtain ⟨hI, hIl⟩ := hI
    have hi5 : i < 5 := by simpa using hi
    refine .inr ⟨s ++ (rowOf xs (i : Int) t).toList, ⟨by rw [fm_succ, ← hI], ?_⟩, ?_, rfl⟩
    ·cases rowOf xs (i : Int) t <;> simp <;> omega
    ·rw [impl_RowsAt_l0, decide_eq_true (by omega), cond_true, impl_seenV h.1, Option.bind_some]
     unfold rowOf
     cases seenV xs (i : Int) t with
     | none => simp only [cond_false, hw]; simp
     | some v =>
      simp only [cond_true]
      rw [app_lt (by simp; omega), Option.bind_some, hw]
      rfl)
   (fun f s hI => by
    obtain ⟨hI, hIl⟩ := hI
    rw [List.length_range] at hI hIl
    show impl_RowsAt_l0 xs t (f + 1) (((List.range 5).length : Nat) : Int) s = _
    rw [List.length_range, impl_RowsAt_l0, decide_eq_false (by omega), cond_false, impl_copyRs (by omega) (fun r hr => by
     rw [hI] at hr
     obtain ⟨k, _, hk⟩ := List.mem_filterMap.1 hr
     exact rowOf_sm h hk), Option.bind_some, hI]
    rfl) (s := []) ⟨rfl, Nat.le_refl _⟩
  exact this
end Go.D
set_option linter.unusedVariables false
namespace Go.D
theorem less_selfK : ∀ l : List UInt8, Op.bytesLess l l = false
 | [] => rfl
 | a :: l => by
  unfold Op.bytesLess
  simp [less_selfK l]
theorem cmpS_z {a b : ByteArray} : cmpS a b = 0 ↔ a.toList = b.toList := by
 unfold cmpS
 constructor
 ·intro h
  cases h1 : Op.bytesLess a.toList b.toList with
  | true => rw [h1] at h; cases h
  | false =>
   cases h2 : a.toList == b.toList with
   | true => exact eq_of_beq h2
   | false => rw [h1, h2] at h; cases h
 ·intro h
  rw [h, less_selfK, beq_self_eq_true]
  rfl
theorem cmpI_z {a b : Int} : cmpI a b = 0 ↔ a = b := ⟨fun h => Classical.byContradiction fun e => cmpI_ne e h, fun h => h ▸ cmpI_eq a⟩
theorem ordV_z {a b : T_impl_Value} : (ordV a b == 0) = eq_T_impl_Value a b := by
 rw [Bool.eq_iff_iff, beq_iff_eq]
 unfold ordV eq_T_impl_Value
 simp only [andB, Bool.and_eq_true, beq_iff_eq]
 by_cases h1 : a.fKind = b.fKind
 ·rw [if_neg (by rw [h1, cmpI_eq]; simp)]
  by_cases h2 : a.fN = b.fN
  ·rw [if_neg (by rw [h2, cmpI_eq]; simp), cmpS_z]
   exact ⟨fun h => ⟨h1, h2, h⟩, fun h => h.2.2⟩
  ·rw [if_pos (cmpI_ne h2)]
   exact ⟨fun h => absurd (cmpI_z.1 h) h2, fun h => absurd h.2.1 h2⟩
 ·rw [if_pos (cmpI_ne h1)]
  exact ⟨fun h => absurd (cmpI_z.1 h) h1, fun h => absurd h.1 h1⟩
def numR (n : Int) : Prop := -9999 ≤ n ∧ n ≤ 9999
theorem numV_sm (n : Int) : SmV (numV n) := by
 have e0 : (ByteArray.mk #[]).size = 0 := rfl
 show Sm (ByteArray.mk #[]).size
 rw [e0]
 omega
theorem numV_ok {n : Int} (h : numR n) : valOk (numV n) = true := by
 unfold numR at h
 unfold valOk numV inR
 simp
 omega
theorem ord_num (a b : Int) : ordV (numV a) (numV b) = cmpI a b := by
 have e : cmpS (ByteArray.mk #[]) (ByteArray.mk #[]) = 0 := by decide +kernel
 unfold ordV numV
 rw [if_neg (by rw [cmpI_eq]; simp)]
 by_cases h : a = b
 ·subst h
  rw [if_neg (by rw [cmpI_eq]; simp), cmpI_eq, e]
 ·rw [if_pos (cmpI_ne h)]
theorem eq_num (a b : Int) : eq_T_impl_Value (numV a) (numV b) = (a == b) := by
 rw [← ordV_z, ord_num, Bool.eq_iff_iff, beq_iff_eq, beq_iff_eq, cmpI_z]
theorem cmpI_lt {a b : Int} : cmpI a b < 0 ↔ a < b := by
 unfold cmpI
 split
 ·omega
 ·split <;> omega
theorem cmpI_le {a b : Int} : cmpI a b ≤ 0 ↔ a ≤ b := by
 unfold cmpI
 split
 ·omega
 ·split <;> omega
theorem cmpI_ge {a b : Int} : cmpI a b ≥ 0 ↔ b ≤ a := by
 unfold cmpI
 split
 ·omega
 ·split <;> omega
theorem cmpI_gt {a b : Int} : cmpI a b > 0 ↔ b < a := by
 unfold cmpI
 split
 ·omega
 ·split <;> omega
def K0 : T_impl_Known := T_impl_Known.mk 0 0 (T_impl_Value.mk 0 0 (ByteArray.mk #[])) (T_impl_Value.mk 0 0 (ByteArray.mk #[]))
def numK (m s a b : Int) : T_impl_Known := T_impl_Known.mk m s (numV a) (numV b)
structure GoodK (m s a b : Int) : Prop where
 m1 : 1 ≤ m
 m2 : m ≤ 100
 s1 : -9999 * m ≤ s
 s2 : s ≤ 9999 * m
 a1 : numR a
 b1 : numR b
 ab : a ≤ b
theorem kok0 : impl_KnownOk K0 = some true := by simp [impl_KnownOk, K0, eq_T_impl_Known, andB]
theorem kok {m s a b : Int} (h : GoodK m s a b) : impl_KnownOk (numK m s a b) = some true := by
 obtain ⟨m1, m2, s1, s2, a1, b1, ab⟩ := h
 have e0 : (m == 0) = false := beq_eq_false_iff_ne.2 (by omega)
 have w1 : w64 ((-9999) * m) = -9999 * m := w64_of (by omega) (by omega)
 have w2 : w64 (9999 * m) = 9999 * m := w64_of (by omega) (by omega)
 have i1 : inR m 1 100 = true := by unfold inR; simp; omega
 have i2 : inR s (-9999 * m) (9999 * m) = true := by unfold inR; simp; omega
 unfold impl_KnownOk numK
 simp only
 rw [e0, cond_false, impl_in, i1, Option.bind_some, cond_true, impl_in, w1, w2, i2, Option.bind_some, cond_true, impl_value (numV_sm a), numV_ok a1, Option.bind_some, cond_true, impl_value (numV_sm b), numV_ok b1, Option.bind_some, cond_true, impl_ord, ord_num, Option.bind_some, decide_eq_true (cmpI_le.2 ab)]
 rfl
theorem known_of {n : Int} (h : numR n) : impl_KnownOf (numV n) = some (numK 1 n n n) := by
 unfold impl_KnownOf
 rw [impl_value (numV_sm n), numV_ok h, Option.bind_some]
 rfl
theorem min2 (x y : T_impl_Value) : slices_MinFunc_impl_Value_impl_Value [x, y] impl_Value_order = some (if ordV y x < 0 then y else x) := by
 have st : ∀ f z, slices_MinFunc_impl_Value_impl_Value_l0 [x, y] impl_Value_order (f + 1) 2 z = some z := fun f z => by rw [slices_MinFunc_impl_Value_impl_Value_l0]; rfl
 have st1 : ∀ f, slices_MinFunc_impl_Value_impl_Value_l0 [x, y] impl_Value_order (f + 1 + 1) 1 x = some (if ordV y x < 0 then y else x) := fun f => by
  rw [slices_MinFunc_impl_Value_impl_Value_l0]
  show ((impl_Value_order y x).bind fun v14 => bif decide (v14 < 0) then slices_MinFunc_impl_Value_impl_Value_l0 [x, y] impl_Value_order (f + 1) 2 y else slices_MinFunc_impl_Value_impl_Value_l0 [x, y] impl_Value_order (f + 1) 2 x) = _
  rw [impl_ord, Option.bind_some, st, st]
  by_cases h : ordV y x < 0
  ·rw [decide_eq_true h, if_pos h]; rfl
  ·rw [decide_eq_false h, if_neg h]; rfl
 exact st1 _
theorem max2 (x y : T_impl_Value) : slices_MaxFunc_impl_Value_impl_Value [x, y] impl_Value_order = some (if ordV y x > 0 then y else x) := by
 have st : ∀ f z, slices_MaxFunc_impl_Value_impl_Value_l0 [x, y] impl_Value_order (f + 1) 2 z = some z := fun f z => by rw [slices_MaxFunc_impl_Value_impl_Value_l0]; rfl
 have st1 : ∀ f, slices_MaxFunc_impl_Value_impl_Value_l0 [x, y] impl_Value_order (f + 1 + 1) 1 x = some (if ordV y x > 0 then y else x) := fun f => by
  rw [slices_MaxFunc_impl_Value_impl_Value_l0]
  show ((impl_Value_order y x).bind fun v14 => bif decide (v14 > 0) then slices_MaxFunc_impl_Value_impl_Value_l0 [x, y] impl_Value_order (f + 1) 2 y else slices_MaxFunc_impl_Value_impl_Value_l0 [x, y] impl_Value_order (f + 1) 2 x) = _
  rw [impl_ord, Option.bind_some, st, st]
  by_cases h : ordV y x > 0
  ·rw [decide_eq_true h, if_pos h]; rfl
  ·rw [decide_eq_false h, if_neg h]; rfl
 exact st1 _
theorem both0 {n : Int} (h : numR n) : impl_KnownBoth K0 (numK 1 n n n) = some (numK 1 n n n) := by
 have g : GoodK 1 n n n := ⟨by omega, by omega, by unfold numR at h; omega, by unfold numR at h; omega, h, h, by omega⟩
 unfold impl_KnownBoth
 rw [kok0, Option.bind_some, Bool.not_true, cond_false, kok g, Option.bind_some]
 rfl
theorem both1 {m s a b n : Int} (h : GoodK m s a b) (hn : numR n) (hm : m + 1 ≤ 100) : impl_KnownBoth (numK m s a b) (numK 1 n n n) = some (numK (m + 1) (s + n) (if n < a then n else a) (if n > b then n else b)) := by
 have g : GoodK 1 n n n := ⟨by omega, by omega, by unfold numR at hn; omega, by unfold numR at hn; omega, hn, hn, by omega⟩
 unfold numR at hn
 obtain ⟨m1, m2, s1, s2, a1, b1, ab⟩ := h
 have e0 : (m == 0) = false := beq_eq_false_iff_ne.2 (by omega)
 have w1 : w64 (m + 1) = m + 1 := w64_of (by omega) (by omega)
 have w2 : w64 (s + n) = s + n := w64_of (by omega) (by omega)
 unfold impl_KnownBoth
 rw [kok ⟨m1, m2, s1, s2, a1, b1, ab⟩, Option.bind_some, Bool.not_true, cond_false, kok g, Option.bind_some]
 unfold impl_KnownBoth_j0 numK
 simp only
 rw [e0, Bool.not_true, cond_false, cond_false]
 show impl_KnownBoth_j1 (T_impl_Known.mk m s (numV a) (numV b)) (T_impl_Known.mk 1 n (numV n) (numV n)) (decide (w64 (m + 1) > 100)) = _
 unfold impl_KnownBoth_j1
 simp only
 rw [w1, decide_eq_false (by omega), cond_false, min2, Option.bind_some, max2, Option.bind_some, w2, ord_num, ord_num]
 congr 2
 ·by_cases q : n < a
  ·rw [if_pos (cmpI_lt.2 q), if_pos q]
  ·rw [if_neg (fun w => q (cmpI_lt.1 w)), if_neg q]
 ·by_cases q : n > b
  ·rw [if_pos (cmpI_gt.2 q), if_pos q]
  ·rw [if_neg (fun w => q (cmpI_gt.1 w)), if_neg q]
def IsK (ns : List Int) (y : T_impl_Known) : Prop := (ns = [] ∧ y = K0) ∨ ∃ s a b, y = numK ns.length s a b ∧ GoodK ns.length s a b ∧ a ∈ ns ∧ b ∈ ns ∧ ∀ x ∈ ns, a ≤ x ∧ x ≤ b
theorem known_column {ns : List Int} (hl : ns.length ≤ 100) (hn : ∀ n ∈ ns, numR n) : ∃ y, impl_knownColumn (ns.map fun n => [numV n]) 0 = some y ∧ IsK ns y := by
 have main : ∀ (k f i : Nat) (x : T_impl_Known), i + k = ns.length → k < f → IsK (ns.take i) x → ∃ y, impl_knownColumn_l0 (ns.map fun n => [numV n]) 0 f (i : Int) x = some y ∧ IsK ns y := by
  intro k
  induction k with
  | zero =>
   intro f i x hi hf hx
   obtain ⟨f, rfl⟩ : ∃ f', f = f' + 1 := ⟨f - 1, by omega⟩
   have : i = ns.length := by omega
   subst this
   rw [List.take_length] at hx
   rw [impl_knownColumn_l0, decide_eq_false (by rw [List.length_map]; omega), cond_false]
   exact ⟨x, rfl, hx⟩
  | succ k ih =>
   intro f i x hi hf hx
   obtain ⟨f, rfl⟩ : ∃ f', f = f' + 1 := ⟨f - 1, by omega⟩
   have hlt : i < ns.length := by omega
   have hr := hn _ (List.getElem_mem hlt)
   have hg : getI (ns.map fun n => [numV n]) (i : Int) = some [numV ns[i]] := by
    rw [getI_nat, List.getElem?_map, List.getElem?_eq_getElem hlt]
    rfl
   have hg0 : getI [numV ns[i]] 0 = some (numV ns[i]) := rfl
   have ht : ns.take (i + 1) = ns.take i ++ [ns[i]] := by rw [List.take_add_one, List.getElem?_eq_getElem hlt]; rfl
   have htl : (ns.take i).length = i := by rw [List.length_take]; omega
   have hw : w64 ((i : Int) + 1) = ((i + 1 : Nat) : Int) := succ_w hlt (by omega)
   have hstep : ∀ z, impl_KnownBoth x (numK 1 ns[i] ns[i] ns[i]) = some z → impl_knownColumn_l0 (ns.map fun n => [numV n]) 0 (f + 1) (i : Int) x = impl_knownColumn_l0 (ns.map fun n => [numV n]) 0 f ((i + 1 : Nat) : Int) z := fun z hz => by
    rw [impl_knownColumn_l0, decide_eq_true (by rw [List.length_map]; omega), cond_true, hg, Option.bind_some, hg0, Option.bind_some, known_of hr, Option.bind_some, hz, Option.bind_some, hw]
   unfold numR at hr
   rcases hx with ⟨h0, rfl⟩ | ⟨s, a, b, rfl, hk, ha, hb, hab⟩
   ·rw [hstep _ (both0 hr)]
    have hi0 : i = 0 := by rw [← htl, h0]; rfl
    refine ih f (i + 1) _ (by omega) (by omega) (.inr ⟨ns[i], ns[i], ns[i], ?_⟩)
    rw [ht, h0]
    exact ⟨rfl, ⟨by simp, by simp, by simp; omega, by simp; omega, hr, hr, by omega⟩, by simp, by simp, fun x hx => by simp at hx; rw [hx]; omega⟩
   ·rw [htl] at hk
    rw [htl] at hstep ⊢
    rw [hstep _ (both1 hk hr (by omega))]
    obtain ⟨m1, m2, s1, s2, a1, b1, ab⟩ := hk
    unfold numR at a1 b1
    have el : ((ns.take (i + 1)).length : Int) = (i : Int) + 1 := by rw [List.length_take]; omega
    refine ih f (i + 1) _ (by omega) (by omega) (.inr ⟨s + ns[i], if ns[i] < a then ns[i] else a, if ns[i] > b then ns[i] else b, by rw [el], ?_, ?_, ?_, fun x hx => ?_⟩)
    ·rw [el]
     exact ⟨by omega, by omega, by omega, by omega, by unfold numR; split <;> omega, by unfold numR; split <;> omega, by split <;> split <;> omega⟩
    ·rw [ht]
     split
     ·exact List.mem_append_right _ (List.mem_singleton.2 rfl)
     ·exact List.mem_append_left _ ha
    ·rw [ht]
     split
     ·exact List.mem_append_right _ (List.mem_singleton.2 rfl)
     ·exact List.mem_append_left _ hb
    ·rw [ht] at hx
     rcases List.mem_append.1 hx with hx | hx
     ·have := hab x hx
      constructor <;> split <;> omega
     ·simp at hx
      rw [hx]
      constructor <;> split <;> omega
 obtain ⟨y, h1, h2⟩ := main ns.length FUEL 0 K0 (by omega) (by unfold FUEL; omega) (.inl ⟨by simp, rfl⟩)
 exact ⟨y, h1, h2⟩
end Go.D
set_option linter.unusedVariables false
namespace Go.D
theorem cmp_num {x n : Int} (hx : numR x) (hn : numR n) : cmpV 1 (numV x) (numV n) = b2i (x == n) := by
 have i1 : inR 1 1 4 = true := rfl
 unfold cmpV
 rw [i1, numV_ok hx, numV_ok hn, ord_num]
 have : (cmpI x n == 0) = (x == n) := by rw [Bool.eq_iff_iff, beq_iff_eq, beq_iff_eq, cmpI_z]
 rw [this]
 rfl
theorem l2_eq {y : T_impl_Known} {n : Int} {vs : List Int} (hvs : vs.length ≤ 2) (hr : ∀ x ∈ vs, numR x) (hn : numR n) :
  impl_ManyBounds_l2 y 1 (numV n) (vs.map numV) FUEL 0 0 = some (((vs.filter (· == n)).length : Int), w64 (y.fMany - w64 ((vs.length : Int) - (vs.filter (· == n)).length))) := by
 have := loop_opt (xs := vs) (L := fun f i (s : Int) => impl_ManyBounds_l2 y 1 (numV n) (vs.map numV) f s i) (fun rest s => some (s + ((rest.filter (· == n)).length : Int), w64 (y.fMany - w64 ((vs.length : Int) - (s + ((rest.filter (· == n)).length : Int)))))) (fun i s => 0 ≤ s ∧ s ≤ i) (by omega)
  (fun f i s v hi hv hw hI => by
   obtain ⟨hI, hI2⟩ := hI
   refine .inr ⟨s + b2i (v == n), ?_, ?_, ?_⟩
   ·unfold b2i
    cases v == n <;> simp <;> omega
   ·have hs1 : w64 (s + 1) = s + 1 := w64_of (by omega) (by omega)
    rw [impl_ManyBounds_l2, decide_eq_true (by rw [List.length_map]; omega), cond_true, getI_nat, List.getElem?_map, hv, Option.map_some, Option.bind_some, impl_cmp (numV_sm v) (numV_sm n), Option.bind_some, cmp_num (hr v (List.mem_of_getElem? hv)) hn, hw, hs1]
    cases v == n
    ·show impl_ManyBounds_l2 _ _ _ _ _ _ _ = impl_ManyBounds_l2 _ _ _ _ _ (s + 0) _
     rw [Int.add_zero]
    ·rfl
   ·have e : (((v :: vs.drop (i + 1)).filter (· == n)).length : Int) = b2i (v == n) + (((vs.drop (i + 1)).filter (· == n)).length : Int) := by
     rw [List.filter_cons]
     cases v == n with
     | true => simp [b2i]; omega
     | false => simp [b2i]
    rw [e, Int.add_assoc])
  (fun f s hI => by
   show impl_ManyBounds_l2 y 1 (numV n) (vs.map numV) (f + 1) s (vs.length : Int) = _
   rw [impl_ManyBounds_l2, decide_eq_false (by rw [List.length_map]; omega), cond_false, List.length_map]
   simp) (s := (0 : Int)) ⟨by omega, by omega⟩
 have e : impl_ManyBounds_l2 y 1 (numV n) (vs.map numV) FUEL 0 0 = some (0 + ((vs.filter (· == n)).length : Int), w64 (y.fMany - w64 ((vs.length : Int) - (0 + ((vs.filter (· == n)).length : Int))))) := this
 rw [e, Int.zero_add]
theorem cnt1 {ns : List Int} {q : Int → Bool} {a : Int} (ha : a ∈ ns) (h : q a = true) : 1 ≤ (ns.filter q).length := List.length_pos_of_mem (List.mem_filter.2 ⟨ha, h⟩)
theorem cnt_sum (q : Int → Bool) : ∀ ns : List Int, (ns.filter q).length + (ns.filter fun x => !(q x)).length = ns.length
 | [] => rfl
 | x :: ns => by
  have := cnt_sum q ns
  rw [List.filter_cons, List.filter_cons]
  cases q x <;> simp <;> omega
theorem cnt2 {ns : List Int} {q : Int → Bool} {a : Int} (ha : a ∈ ns) (h : q a = false) : (ns.filter q).length + 1 ≤ ns.length := by
 have := cnt_sum q ns
 have h2 : 1 ≤ (ns.filter fun x => !(q x)).length := cnt1 ha (by rw [h]; rfl)
 omega
theorem two_mem {l : List Int} {a b : Int} (ha : a ∈ l) (hb : b ∈ l) (h : a ≠ b) : 2 ≤ l.length := by
 match l, ha, hb with
 | [x], ha, hb =>
  simp at ha hb
  omega
 | x :: y :: l, _, _ => simp
theorem cnt3 {ns : List Int} {q : Int → Bool} {a b : Int} (ha : a ∈ ns) (hb : b ∈ ns) (h : a ≠ b) (h1 : q a = false) (h2 : q b = false) : (ns.filter q).length + 2 ≤ ns.length := by
 have := cnt_sum q ns
 have h3 : 2 ≤ (ns.filter fun x => !(q x)).length := two_mem (List.mem_filter.2 ⟨ha, by rw [h1]; rfl⟩) (List.mem_filter.2 ⟨hb, by rw [h2]; rfl⟩) h
 omega
theorem bounds {ns : List Int} {y : T_impl_Known} (hy : IsK ns y) {n : Int} (hn : numR n) : ∃ lo hi, impl_ManyBounds y 1 (numV n) = some (lo, hi) ∧ lo ≤ ((ns.filter (· == n)).length : Int) ∧ ((ns.filter (· == n)).length : Int) ≤ hi := by
 rcases hy with ⟨rfl, rfl⟩ | ⟨s, a, b, rfl, hk, ha, hb, hab⟩
 ·refine ⟨0, 0, ?_, by simp, by simp⟩
  have asks : impl_Known_asks K0 1 (numV n) = some false := by
   unfold impl_Known_asks
   rw [kok0]
   rfl
  unfold impl_ManyBounds
  rw [asks, Option.bind_some]
  rfl
 ·have i1 : inR 1 1 4 = true := rfl
  have asks : impl_Known_asks (numK ns.length s a b) 1 (numV n) = some true := by
   unfold impl_Known_asks
   rw [kok hk, Option.bind_some, cond_true]
   show (bif decide ((ns.length : Int) > 0) then _ else _) = _
   rw [decide_eq_true (by have := hk.m1; omega), cond_true, impl_in, i1, Option.bind_some, cond_true, impl_value (numV_sm n), numV_ok hn, Option.bind_some, cond_true]
   rfl
  have may : impl_MayHold (numK ns.length s a b) 1 (numV n) = some (decide (a ≤ n) && decide (n ≤ b)) := by
   unfold impl_MayHold
   rw [asks, Option.bind_some, Bool.not_true, cond_false]
   show ((impl_Value_order (numV a) (numV n)).bind fun v4 => (impl_Value_order (numV b) (numV n)).bind fun v6 => bif decide (v4 ≤ 0) then some (decide (v6 ≥ 0)) else some false) = _
   rw [impl_ord, Option.bind_some, impl_ord, Option.bind_some, ord_num, ord_num]
   have e1 : decide (cmpI a n ≤ 0) = decide (a ≤ n) := decide_eq_decide.2 cmpI_le
   have e2 : decide (cmpI b n ≥ 0) = decide (n ≤ b) := decide_eq_decide.2 cmpI_ge
   rw [e1, e2]
   cases decide (a ≤ n) <;> rfl
  have must : impl_MustHold (numK ns.length s a b) 1 (numV n) = some (a == n && b == n) := by
   unfold impl_MustHold
   rw [asks, Option.bind_some, Bool.not_true, cond_false]
   show ((impl_Value_order (numV a) (numV n)).bind fun v4 => (impl_Value_order (numV b) (numV n)).bind fun v6 => bif v4 == 0 then some (v6 == 0) else some false) = _
   rw [impl_ord, Option.bind_some, impl_ord, Option.bind_some, ord_num, ord_num]
   have e1 : (cmpI a n == 0) = (a == n) := by rw [Bool.eq_iff_iff, beq_iff_eq, beq_iff_eq, cmpI_z]
   have e2 : (cmpI b n == 0) = (b == n) := by rw [Bool.eq_iff_iff, beq_iff_eq, beq_iff_eq, cmpI_z]
   rw [e1, e2]
   cases a == n <;> rfl
  have hm1 := hk.m1
  have hm2 := hk.m2
  have mx : ∀ x, x ∈ ns → numR x := fun x hx => by
   have := hab x hx
   have h1 := hk.a1
   have h2 := hk.b1
   unfold numR at *
   omega
  unfold impl_ManyBounds
  rw [asks, Option.bind_some, Bool.not_true, cond_false, may, Option.bind_some]
  unfold impl_ManyBounds_j0
  by_cases hmay : a ≤ n ∧ n ≤ b
  ·rw [decide_eq_true hmay.1, decide_eq_true hmay.2, Bool.and_self, Bool.not_true, cond_false, must, Option.bind_some]
   by_cases hmust : a = n ∧ b = n
   ·have e : (a == n && b == n) = true := by rw [hmust.1, hmust.2, beq_self_eq_true]; rfl
    rw [e, cond_true]
    have : ns.filter (· == n) = ns := List.filter_eq_self.2 fun x hx => by have := hab x hx; exact beq_iff_eq.2 (by omega)
    rw [this]
    exact ⟨_, _, rfl, Int.le_refl _, Int.le_refl _⟩
   ·have e : (a == n && b == n) = false := by
     rw [Bool.and_eq_false_iff, beq_eq_false_iff_ne, beq_eq_false_iff_ne]
     omega
    have one : impl_ManyBounds_j3 (numK ns.length s a b) 1 (numV n) false = some ((([a].filter (· == n)).length : Int), w64 ((ns.length : Int) - w64 ((([a] : List Int).length : Int) - (([a].filter (· == n)).length : Int)))) := by
     have h := l2_eq (y := numK ns.length s a b) (n := n) (vs := [a]) (by simp) (fun x hx => by simp at hx; rw [hx]; exact hk.a1) hn
     unfold impl_ManyBounds_j3 impl_ManyBounds_j1
     rw [cond_false]
     exact h
    have two : impl_ManyBounds_j3 (numK ns.length s a b) 1 (numV n) true = some ((([a, b].filter (· == n)).length : Int), w64 ((ns.length : Int) - w64 ((([a, b] : List Int).length : Int) - (([a, b].filter (· == n)).length : Int)))) := by
     have h := l2_eq (y := numK ns.length s a b) (n := n) (vs := [a, b]) (by simp) (fun x hx => by simp at hx; rcases hx with rfl | rfl; exact hk.a1; exact hk.b1) hn
     unfold impl_ManyBounds_j3 impl_ManyBounds_j1
     rw [cond_true, app_lt (by simp), Option.bind_some]
     exact h
    have l1 : (([a] : List Int).length : Int) = 1 := rfl
    have l2 : (([a, b] : List Int).length : Int) = 2 := rfl
    rw [l1] at one
    rw [l2] at two
    rw [e, cond_false]
    have r1 : ∃ lo hi, impl_ManyBounds_j3 (numK ns.length s a b) 1 (numV n) false = some (lo, hi) ∧ lo ≤ ((ns.filter (· == n)).length : Int) ∧ ((ns.filter (· == n)).length : Int) ≤ hi := by
     refine ⟨_, _, one, ?_, ?_⟩
     ·rw [List.filter_cons]
      cases hq : a == n with
      | true => have := cnt1 (q := (· == n)) ha hq; simp; omega
      | false => simp
     ·rw [List.filter_cons]
      cases hq : a == n with
      | true =>
       have h1 : w64 (1 - ((1 : Nat) : Int)) = 0 := by rw [w64_of (by omega) (by omega)]; omega
       simp only [if_true, List.filter_nil, List.length_cons, List.length_nil]
       rw [show ((0 + 1 : Nat) : Int) = ((1 : Nat) : Int) from rfl, h1, w64_of (by omega) (by omega)]
       have := List.length_filter_le (· == n) ns
       omega
      | false =>
       have h1 : w64 (1 - ((0 : Nat) : Int)) = 1 := by rw [w64_of (by omega) (by omega)]; omega
       simp only [Bool.false_eq_true, if_false, List.filter_nil, List.length_nil]
       rw [h1, w64_of (by omega) (by omega)]
       have := cnt2 (q := (· == n)) ha hq
       omega
    show ∃ lo hi, (bif !(eq_T_impl_Value (numV b) (numV a)) then impl_ManyBounds_j3 (numK ns.length s a b) 1 (numV n) (decide ((ns.length : Int) > 1)) else impl_ManyBounds_j3 (numK ns.length s a b) 1 (numV n) false) = some (lo, hi) ∧ _ ∧ _
    rw [eq_num]
    cases hba : b == a with
    | true => exact r1
    | false =>
     have hne : b ≠ a := beq_eq_false_iff_ne.1 hba
     have h2l := two_mem hb ha hne
     rw [Bool.not_false, cond_true, decide_eq_true (by omega)]
     refine ⟨_, _, two, ?_, ?_⟩
     ·rw [List.filter_cons, List.filter_cons]
      cases hq : a == n <;> cases hq2 : b == n
      ·simp
      ·have := cnt1 (q := (· == n)) hb hq2; simp; omega
      ·have := cnt1 (q := (· == n)) ha hq; simp; omega
      ·rw [hq, hq2] at e; cases e
     ·rw [List.filter_cons, List.filter_cons]
      cases hq : a == n <;> cases hq2 : b == n
      ·have h1 : w64 (2 - ((0 : Nat) : Int)) = 2 := by rw [w64_of (by omega) (by omega)]; omega
       simp only [Bool.false_eq_true, if_false, List.filter_nil, List.length_nil]
       rw [h1, w64_of (by omega) (by omega)]
       have := cnt3 (q := (· == n)) ha hb (fun q => hne q.symm) hq hq2
       omega
      ·have h1 : w64 (2 - ((1 : Nat) : Int)) = 1 := by rw [w64_of (by omega) (by omega)]; omega
       simp only [Bool.false_eq_true, if_false, if_true, List.filter_nil, List.length_cons, List.length_nil]
       rw [show ((0 + 1 : Nat) : Int) = ((1 : Nat) : Int) from rfl, h1, w64_of (by omega) (by omega)]
       have := cnt2 (q := (· == n)) ha hq
       omega
      ·have h1 : w64 (2 - ((1 : Nat) : Int)) = 1 := by rw [w64_of (by omega) (by omega)]; omega
       simp only [Bool.false_eq_true, if_false, if_true, List.filter_nil, List.length_cons, List.length_nil]
       rw [show ((0 + 1 : Nat) : Int) = ((1 : Nat) : Int) from rfl, h1, w64_of (by omega) (by omega)]
       have := cnt2 (q := (· == n)) hb hq2
       omega
      ·rw [hq, hq2] at e; cases e
  ·have e : (decide (a ≤ n) && decide (n ≤ b)) = false := by
    rw [Bool.and_eq_false_iff, decide_eq_false_iff_not, decide_eq_false_iff_not]
    omega
   rw [e, Bool.not_false, cond_true]
   have : ns.filter (· == n) = [] := List.filter_eq_nil_iff.2 fun x hx hq => by
    have := hab x hx
    have hq := beq_iff_eq.1 hq
    omega
   rw [this]
   exact ⟨0, 0, rfl, by simp, by simp⟩
theorem bytes_ext {s t : ByteArray} (h : s.toList = t.toList) : s = t := by
 rw [bytes_toList, bytes_toList] at h
 cases s
 cases t
 congr 1
 exact Array.toList_inj.1 h
def cols1 : List T_impl_Column := [T_impl_Column.mk 1 false]
theorem rows_num {rs : List (List T_impl_Value)} (h : rowsOk cols1 rs = true) : ∃ ns : List Int, rs = ns.map (fun n => [numV n]) ∧ ∀ n ∈ ns, numR n := by
 unfold rowsOk at h
 rw [Bool.and_eq_true, List.all_eq_true] at h
 have one : ∀ r ∈ rs, r = [numV (firstV r).fN] ∧ numR (firstV r).fN := fun r hr => by
  have := h.2 r hr
  unfold rowFits at this
  simp only [Bool.and_eq_true] at this
  obtain ⟨_, h2, h3, h4⟩ := this
  have h3 : r.length = 1 := by simpa [cols1] using h3
  match r, h3 with
  | [⟨k, m, s⟩], _ =>
   unfold rowOk at h2
   simp only [List.all_cons, List.all_nil, Bool.and_true, Bool.and_eq_true] at h2
   have hf : fits (T_impl_Column.mk 1 false) ⟨k, m, s⟩ = true := by simpa [cols1] using h4
   unfold fits at hf
   simp only [Bool.and_false, Bool.or_false, beq_iff_eq] at hf
   subst hf
   have hv := h2.1
   unfold valOk inR at hv
   simp only [show ((1 : Int) == 0) = false from rfl, show ((1 : Int) == 1) = true from rfl, cond_false, cond_true, Bool.and_eq_true, decide_eq_true_eq, beq_iff_eq] at hv
   obtain ⟨⟨v1, v2⟩, v3⟩ := hv
   have hs : s = ByteArray.mk #[] := bytes_ext v3
   subst hs
   exact ⟨rfl, v1, v2⟩
 refine ⟨rs.map fun r => (firstV r).fN, ?_, fun n hn => ?_⟩
 ·rw [List.map_map]
  have : rs.map ((fun n => [numV n]) ∘ fun r => (firstV r).fN) = rs.map id := List.map_congr_left fun r hr => (one r hr).1.symm
  rw [this, List.map_id]
 ·obtain ⟨r, hr, rfl⟩ := List.mem_map.1 hn
  exact (one r hr).2
theorem fm_filter {α β : Type} (f : α → Option β) (q : β → Bool) : ∀ l : List α, ((l.filterMap f).filter q).length = (l.filter fun k => (f k).any q).length
 | [] => rfl
 | x :: l => by
  have := fm_filter f q l
  rw [List.filterMap_cons, List.filter_cons]
  cases hf : f x with
  | none => simpa using this
  | some y =>
   simp only [Option.any_some]
   rw [List.filter_cons]
   by_cases hq : q y = true
   ·rw [if_pos hq, if_pos hq]
    simpa using this
   ·rw [if_neg hq, if_neg hq]
    exact this
theorem keys_count (xs : List T_impl_Version) (t n : Int) : (keysS xs t n).length = ((bif vOk xs then rowsV xs t else []).filter fun r => headIs r n).length := by
 unfold keysS
 rw [List.length_map]
 cases hv : vOk xs with
 | false =>
  have : (List.range 5).filter (fun (k : Nat) => hasK xs t n (k : Int)) = [] := List.filter_eq_nil_iff.2 fun k _ hk => by
   unfold hasK at hk
   rw [hv] at hk
   cases hk
  rw [this]
  rfl
 | true =>
  rw [cond_true]
  unfold rowsV
  rw [fm_filter]
  congr 2
  funext k
  unfold hasK rowOf
  rw [hv]
  cases seenV xs (k : Int) t <;> rfl
theorem draw_num {b : List UInt8} (hb : b.length ≤ 1048576) : ∃ xs t n, spec_DrawNumbersAt b = some (xs, t, n) ∧ Vrs 40 xs ∧ t ≤ 40 ∧ 0 ≤ n ∧ n < 5 := by
 obtain ⟨r, e, h⟩ := open_ok hb
 obtain ⟨p, r', e2, h1, h2, h3, h4⟩ := versions_ok h (by omega) 0
 have hw : w64 (p.2 + 2) = p.2 + 2 := w64_of (by omega) (by omega)
 obtain ⟨k, r2, e3, g1, g2, _, g3⟩ := pick_ok h1 (by omega) (w64 (p.2 + 2))
 obtain ⟨k2, r3, e4, q1, q2, _, q3⟩ := pick_ok g1 (by omega) 5
 have g3 := g3 (by omega)
 have q3 := q3 (by omega)
 refine ⟨p.1, k, k2, ?_, h2, by omega, q2, q3⟩
 unfold spec_DrawNumbersAt
 rw [e, Option.bind_some, e2, Option.bind_some]
 simp only
 rw [e3, Option.bind_some]
 simp only
 rw [e4, Option.bind_some]
theorem law_fnWholeBounds {a0 : List UInt8} (w0 : listW u8W a0) : laws_FnWholeBounds a0 = some true := by
 unfold laws_FnWholeBounds
 by_cases hl : (a0.length : Int) > 1048576
 ·rw [decide_eq_true hl, cond_true]
 rw [decide_eq_false hl, cond_false]
 obtain ⟨xs, t, n, e, hx, ht, hn0, hn5⟩ := draw_num (b := a0) (by omega)
 have hs := hx.sm (by omega)
 have hn : numR n := by unfold numR; omega
 have hi := indexV_sm hs
 rw [e, Option.bind_some]
 simp only
 rw [impl_rowsAt hs, Option.bind_some]
 have hcnt := keys_count xs t n
 have hrl : (bif vOk xs then rowsV xs t else []).length ≤ 5 := by
  cases vOk xs with
  | false => simp
  | true =>
   rw [cond_true]
   unfold rowsV
   exact fm_len _ 5
 have hrs : SmRs (bif vOk xs then rowsV xs t else []) := by
  refine ⟨by omega, fun r hr => ?_⟩
  cases hv : vOk xs with
  | false => rw [hv] at hr; cases hr
  | true =>
   rw [hv] at hr
   obtain ⟨k, _, hk⟩ := List.mem_filterMap.1 hr
   exact rowOf_sm hs hk
 generalize (bif vOk xs then rowsV xs t else []) = rs at hcnt hrl hrs
 have hc1 : Sm cols1.length := by simp [cols1]
 have hck : colsOk cols1 = true := rfl
 show ((impl_RowsOk cols1 rs).bind _) = _
 rw [impl_rowsOk hc1 hrs, Option.bind_some]
 cases hok : rowsOk cols1 rs with
 | false => rw [Bool.not_false, cond_true, alive_t]; rfl
 | true =>
  obtain ⟨ns, hrn, hns⟩ := rows_num hok
  have hnl : ns.length ≤ 5 := by rw [hrn, List.length_map] at hrl; exact hrl
  obtain ⟨y, hy, hk⟩ := known_column (ns := ns) (by omega) hns
  obtain ⟨lo, hi', hb, hlo, hhi⟩ := bounds hk hn
  have hkc : impl_KnownColumn cols1 rs 0 = some y := by
   unfold impl_KnownColumn
   rw [impl_colsOk hc1, hck, Option.bind_some, Bool.not_true, cond_false, decide_eq_false (by omega), cond_false, impl_rowsOk hc1 hrs, hok, Option.bind_some, Bool.not_true, cond_false, impl_in]
   show impl_KnownColumn_j0 rs 0 false = some y
   unfold impl_KnownColumn_j0
   rw [cond_false, hrn, hy]
   rfl
  have hlen : (findM (indexV xs) (numV n) t).length = (ns.filter (· == n)).length := by
   rw [find_keys hs ht hn0 hn5, hcnt, hrn, List.filter_map, List.length_map]
   congr 2
   funext m
   exact eq_num m n
  rw [Bool.not_true, cond_false]
  show ((impl_KnownColumn cols1 rs 0).bind _) = _
  rw [hkc, Option.bind_some]
  show ((impl_ManyBounds y 1 (numV n)).bind _) = _
  rw [hb, Option.bind_some, impl_idx hs, Option.bind_some]
  show ((impl_IndexFind (indexV xs) (numV n) t).bind _) = _
  rw [impl_findM hi (numV_sm n), Option.bind_some, hlen]
  simp only
  rw [decide_eq_true hlo, cond_true, decide_eq_true hhi, cond_true, alive_t]
  rfl
end Go.D
set_option linter.unusedVariables false
namespace Go.D
open Go.ChangeShapes Go.RowKit
theorem trodAll_carry {H : Type} {enc : TypeId × Value → H} {P : Program} {w w' : World} {base : Nat} {sp : Nat → Bool} {held : Bool} : ∀ {ts : List TypeId} {vs : List Value} {ds : List (DataW H)} {ps : List MemPlace},
  DataW.TrodAll enc P w base sp held ts vs ds ps → (∀ p ∈ ps, w.sameAt w' p) → DataW.TrodAll enc P w' base sp held ts vs ds ps
 | [], [], [], _, h, _ => h
 | _ :: _, _ :: _, _ :: _, _, ⟨p, q, ⟨n, hn⟩, h2, e⟩, hs =>
  ⟨p, q, ⟨n, DataW.trod_carry n _ _ _ hn fun x hx => hs x (by rw [e]; exact List.mem_append_left _ hx)⟩, trodAll_carry h2 fun x hx => hs x (by rw [e]; exact List.mem_append_right _ hx), e⟩
theorem Kept.sameAt {w w' : World} (h : Grew w w') {p : MemPlace} (hp : p.block < w.heap.size) : w.sameAt w' p := by
 have hb := h.block p.block hp (fun h => h)
 cases p with
 | cell b off =>
  show w'.cell? ⟨b, off, none⟩ = w.cell? ⟨b, off, none⟩
  unfold World.cell?
  have hb : w'.heap[b]? = w.heap[b]? := hb
  simp only [hb]
 | map b => exact hb
theorem Kept.keptBut {w w' : World} (h : Grew w w') (may : MemPlace → Prop) : w.keptBut w' may := by
 refine ⟨h.os, h.output, fun i hi => ?_⟩
 rw [h.block i hi (fun h => h)]
 cases w.heap[i]? with
 | none => trivial
 | some o => cases o <;> simp
theorem contract_of {P : Program} {fid : FuncId} {fn : Func} {s : ChangeSpec} {tb : TypeId} {H : Type} {enc : TypeId × Value → H}
  (hK : Kids P (· < P.types.size)) (hfull : ∀ t e, t < P.types.size → P.underlying t = some (.slice e) → 0 < P.cellsOf e)
  (hp : ∀ t ∈ fn.params.toList, t < P.types.size) (hv : s.vars = []) (hr : fn.resultTypes = #[tb]) (hb : P.underlying tb = some .bool)
  {n : Nat} (hn : fn.params.toList.length = n) (hs : ∀ ds : List (DataW H), ds.length = n → s.fn H ds = { results := [.lit (.bool true)], args := ds })
  {W : World} {args : Array Value} {ds gs : List (DataW H)} {before : List MemPlace}
  (hlaw : ∀ p, DataW.TrodAll enc P W 0 (fun _ => true) true fn.params.toList args.toList ds p → ∃ ins, FrL W (fun _ => False) ins args.toList ∧ OK P fid ins (B true))
  (hW : DataW.Whole enc P fn.params.toList s.vars false W args.toList ds gs before) :
  Calls P fid args W fun e W' => ∃ v, e = .returned v ∧ s.post enc P fn false true false false W args v W' := by
 have hlt := hW.lt
 have hW' := hW
 obtain ⟨p, q, hA, hV, rfl, hfz, hnd⟩ := hW
 rw [hv] at hV
 obtain ⟨rfl, rfl⟩ := trodVars_none hV
 obtain ⟨ins, h1, h2⟩ := hlaw p hA
 have hlen : ∀ {ts : List TypeId} {vs : List Value} {ds : List (DataW H)} {ps : List MemPlace}, DataW.TrodAll enc P W 0 (fun _ => true) true ts vs ds ps → ds.length = ts.length := by
  intro ts
  induction ts with
  | nil => intro vs ds ps h; obtain ⟨_, rfl, _⟩ := trodAll_nil h; rfl
  | cons t ts ih =>
   intro vs ds ps h
   obtain ⟨_, _, _, _, _, _, rfl, rfl, rfl, _, h⟩ := trodAll_cons h
   simp [ih h]
 have hds : ds.length = n := (hlen hA).trans hn
 have hc := h2.2 W args.toList (fun _ => False) (fun b h => h.elim) h1
 have ha : args.toList.toArray = args := by simp
 rw [ha] at hc
 refine hc.mono fun e W' ⟨v, fp, he, hg, ho, _⟩ => ⟨v, he, ?_⟩
 simp only [B, Ow] at ho
 obtain ⟨rfl, rfl⟩ := ho
 have hsame : ∀ x ∈ p, W.sameAt W' x := fun x hx => Kept.sameAt hg (hlt x (by simpa using hx))
 refine ⟨ds, [], p ++ [], [], p, [], hW', ?_, ?_, ?_, Kept.keptBut hg _, fun h => by cases h⟩
 ·rw [List.append_nil, hs ds hds, hr]
  exact trodAll_mk1 (shut_bool hb true)
 ·rw [List.append_nil, hs ds hds]
  exact trodAll_carry (DataW.TrodAll.respare hK hfull hp hA fun x hx => by
   have := hlt x (by simpa using hx)
   simpa using this) hsame
 ·rw [hv, List.append_nil, hs ds hds]
  rfl
end Go.D
