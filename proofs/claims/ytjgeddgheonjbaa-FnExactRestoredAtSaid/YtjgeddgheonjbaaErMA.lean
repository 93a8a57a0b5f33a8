import Derived.Test.YtjgeddgheonjbaaErDXFB
import Derived.Test.YtjgeddgheonjbaaErDShow
import Derived.ChangeArms
import Derived.ChangeShapes
import Derived.Deep.Slices
import Derived.Test.YtjgeddgheonjbaaErDOwn3
import Derived.Test.YtjgeddgheonjbaaErDNil
import Derived.Test.YtjgeddgheonjbaaErDMin
import Derived.Test.YtjgeddgheonjbaaErDVal
import Derived.Test.YtjgeddgheonjbaaErDXT
import Derived.Test.YtjgeddgheonjbaaErDSlice
import Derived.OpenShut
import Derived.ReadAgain
import Derived.ProofKit
set_option linter.unusedVariables false
namespace Go.D
end Go.D
set_option linter.unusedVariables false
namespace Go.D
def Rd (P : Program) (t : TypeId) (α : Type) [Enc α] (W : α → Prop) : Prop :=
 P.cellsOf t = Enc.sz α ∧ ∀ (H : Type) (enc : TypeId × Value → H) (w : World) (base : Nat) (sp : Nat → Bool) (held : Bool) (fuel : Nat) (cs : List Value) (x : DataW H × List MemPlace), DataW.trod enc P w base sp held fuel t cs = some x →
  ∃ y : α, FrL w (fun _ => False) (Enc.cells y) cs ∧ W y
def intW (n : Int) : Prop := -9223372036854775808 ≤ n ∧ n ≤ 9223372036854775807
def boolW (_ : Bool) : Prop := True
def strW (s : ByteArray) : Prop := s.size ≤ 9223372036854775807
def listW {α : Type} (W : α → Prop) (l : List α) : Prop := l.length ≤ 9223372036854775807 ∧ ∀ x ∈ l, W x
section
variable {P : Program}
theorem rd_int {t : TypeId} (ht : P.underlying t = some (.int .i64)) (hc : P.cellsOf t = 1) : Rd P t Int intW := ⟨hc, fun H enc w base sp held fuel cs x h => by
 obtain ⟨n, rfl, _, hw⟩ := DataW.trod_int ht h
 refine ⟨n, ?_, by simpa [Lit.wf, IntKind.min, IntKind.max, IntKind.signed, IntKind.bits, intW] using hw⟩
 show FrL w _ [I n] _
 simp only [FrL]
 exact ⟨_, _, rfl, by simp only [Fr], rfl⟩⟩
theorem rd_bool {t : TypeId} (ht : P.underlying t = some .bool) (hc : P.cellsOf t = 1) : Rd P t Bool boolW := ⟨hc, fun H enc w base sp held fuel cs x h => by
 obtain ⟨b, rfl, _⟩ := DataW.trod_bool ht h
 refine ⟨b, ?_, trivial⟩
 show FrL w _ [B b] _
 simp only [FrL]
 exact ⟨_, _, rfl, by simp only [Fr], rfl⟩⟩
theorem rd_str {t : TypeId} (ht : P.underlying t = some .string) (hc : P.cellsOf t = 1) : Rd P t ByteArray strW := ⟨hc, fun H enc w base sp held fuel cs x h => by
 obtain ⟨s, rfl, _, hs⟩ := DataW.trod_string ht h
 refine ⟨s, ?_, by simpa [strW, maxLen] using hs⟩
 show FrL w _ [S s] _
 simp only [FrL]
 exact ⟨_, _, rfl, by simp only [Fr], rfl⟩⟩
theorem eL_flat {α : Type} [Enc α] {w : World} {M : Nat → Prop} : ∀ {ys : List α} {uss : List (List Value)}, ys.length = uss.length → (∀ (i : Nat) (y : α) (us : List Value), ys[i]? = some y → uss[i]? = some us → FrL w M (Enc.cells y) us) → FrL w M (eL ys) uss.flatten
 | [], [], _, _ => by simp [eL, FrL]
 | [], _ :: _, h, _ => by simp at h
 | _ :: _, [], h, _ => by simp at h
 | y :: ys, us :: uss, h, k => by
  simp only [eL, List.flatten_cons]
  exact FrL.append (k 0 y us rfl rfl) (eL_flat (by simpa using h) fun i y' us' h1 h2 => k (i + 1) y' us' (by simpa using h1) (by simpa using h2))
theorem flat_get {sz : Nat} (hsz : 0 < sz) : ∀ {uss : List (List Value)}, (∀ us ∈ uss, us.length = sz) → ∀ {j : Nat} {v : Value}, uss.flatten[j]? = some v → ∃ us, uss[j / sz]? = some us ∧ us[j % sz]? = some v
 | [], _, j, v, h => by simp at h
 | us :: uss, hl, j, v, h => by
  have h0 : us.length = sz := hl us (by simp)
  simp only [List.flatten_cons] at h
  rcases Nat.lt_or_ge j sz with hj | hj
  ·rw [List.getElem?_append_left (by omega)] at h
   refine ⟨us, by rw [Nat.div_eq_of_lt hj]; rfl, by rw [Nat.mod_eq_of_lt hj]; exact h⟩
  ·rw [List.getElem?_append_right (by omega), h0] at h
   obtain ⟨us', h1, h2⟩ := flat_get hsz (fun us' hu => hl us' (by simp [hu])) h
   refine ⟨us', ?_, ?_⟩
   ·have : j / sz = (j - sz) / sz + 1 := by rw [Nat.div_eq_sub_div hsz hj]
    rw [this]
    simpa using h1
   ·rw [Nat.mod_eq_sub_mod hj]; exact h2
theorem rd_slice {t e : TypeId} {α : Type} [Enc α] {W : α → Prop} (ht : P.underlying t = some (.slice e)) (hc : P.cellsOf t = 1) (he : Rd P e α W) : Rd P t (List α) (listW W) := ⟨hc, fun H enc w base sp held fuel cs x h => by
 obtain ⟨hce, he⟩ := he
 have hpos : 0 < Enc.sz α := Enc.pos
 have fin : ∀ (ys : List α) (v : Value), Fr w (fun _ => False) (A ys) v → listW W ys → ∃ y : List α, FrL w (fun _ => False) (Enc.cells y) [v] ∧ listW W y := fun ys v h1 h2 => ⟨ys, by
  show FrL w _ [A ys] _
  simp only [FrL]
  exact ⟨_, _, rfl, h1, rfl⟩, h2⟩
 rcases Go.Deep.open_slice ht h with ⟨rfl, _⟩ | ⟨a, len, cap, m, n, D, Pl, rfl, hb, hl, hm, hmm, _, hx⟩
 ·exact fin [] _ (Fr.nil w _ _ hpos) ⟨by simp, by simp⟩
 ·have hcapm : cap ≤ maxI := by simpa [maxLen, maxI] using hm
  by_cases h0 : len = 0
  ·subst h0
   refine fin [] _ ?_ ⟨by simp, by simp⟩
   simp only [Fr]
   exact ⟨some a, cap, rfl, ⟨hpos, by simp [eL], by simp, hcapm, fun h => by cases h⟩, .inl rfl⟩
  ·have hlm : len ≤ m := by rw [hmm]; split <;> omega
   have hel : ∀ i, i < len → ∃ p : List Value × α, w.cells? base (a.add (i * P.cellsOf e)) (P.cellsOf e) = some p.1 ∧ FrL w (fun _ => False) (Enc.cells p.2) p.1 ∧ W p.2 := by
    intro i hi
    obtain ⟨cs', h1, h2⟩ := hx i (by omega)
    obtain ⟨y, h3, h4⟩ := he H enc w base sp held n cs' _ h2
    exact ⟨(cs', y), h1, h3, h4⟩
   obtain ⟨p0, hp0⟩ := hel 0 (by omega)
   haveI : Inhabited (List Value × α) := ⟨p0⟩
   obtain ⟨F, hF⟩ := Go.Deep.choose_lt (α := List Value × α) (p := fun i p => w.cells? base (a.add (i * P.cellsOf e)) (P.cellsOf e) = some p.1 ∧ FrL w (fun _ => False) (Enc.cells p.2) p.1 ∧ W p.2) hel
   let ys : List α := (List.range len).map fun i => (F i).2
   let uss : List (List Value) := (List.range len).map fun i => (F i).1
   have hul : ∀ us ∈ uss, us.length = Enc.sz α := by
    intro us hu
    obtain ⟨i, hi, rfl⟩ := List.mem_map.1 hu
    have := (World.cells?_some (hF i (List.mem_range.1 hi)).1).2.1
    rw [this, hce]
   have hys : ys.length = len := by simp [ys]
   have hfl : FrL w (fun _ => False) (eL ys) uss.flatten := eL_flat (by simp [ys, uss]) fun i y us h1 h2 => by
    simp only [ys, uss, List.getElem?_map] at h1 h2
    have hi : i < len := by
     cases hr : (List.range len)[i]? with
     | none => rw [hr] at h1; cases h1
     | some k => have := (List.getElem?_eq_some_iff.1 hr).1; simpa using this
    rw [List.getElem?_range hi] at h1 h2
    simp only [Option.map_some, Option.some.injEq] at h1 h2
    rw [← h1, ← h2]
    exact (hF i hi).2.1
   have hul0 : ((F 0).1).length = Enc.sz α := hul _ (List.mem_map.2 ⟨0, by simp; omega, rfl⟩)
   have h00 : ∃ v, w.cell? a = some v := by
    have h1 := (World.cells?_some (hF 0 (by omega)).1).2.2 0 (by rw [hce]; exact hpos)
    rw [List.getElem?_eq_getElem (by omega)] at h1
    refine ⟨_, Eq.trans ?_ h1⟩
    simp [Addr.add]
   obtain ⟨v00, hv00⟩ := h00
   have hspot : a.spot = none := World.cell?_spot hv00
   obtain ⟨ab, ao, as_⟩ := a
   simp only at hspot
   subst hspot
   have hcell : ∀ i j, i < len → j < Enc.sz α → w.cell? ⟨ab, ao + (i * Enc.sz α + j), none⟩ = ((F i).1)[j]? := by
    intro i j hi hj
    have := (World.cells?_some (hF i hi).1).2.2 j (by rw [hce]; exact hj)
    rw [hce] at this
    rw [← this]
    congr 1
    unfold Addr.add
    split <;> split <;> simp_all <;> omega
   refine fin ys _ ?_ ⟨by rw [hys]; simp only [maxI] at hcapm; omega, fun y hy => by
    obtain ⟨i, hi, rfl⟩ := List.mem_map.1 hy
    exact (hF i (List.mem_range.1 hi)).2.2⟩
   simp only [Fr]
   refine ⟨some ⟨ab, ao, none⟩, cap, by rw [hys], ⟨hpos, by rw [eL_len], by rw [hys]; exact hl, hcapm, fun h => by cases h⟩, .inr ⟨ab, ao, uss.flatten, rfl, World.block_lt_of_cell? _ _ hv00, fun h => h, hfl, fun j hj => ?_⟩⟩
   obtain ⟨us, h1, h2⟩ := flat_get hpos hul (List.getElem?_eq_getElem hj)
   have hi : j / Enc.sz α < len := by
    have := (List.getElem?_eq_some_iff.1 h1).1
    simpa [uss] using this
   simp only [uss, List.getElem?_map, List.getElem?_range hi, Option.map_some, Option.some.injEq] at h1
   have := hcell (j / Enc.sz α) (j % Enc.sz α) hi (Nat.mod_lt _ hpos)
   rw [h1, h2] at this
   have e1 : j / Enc.sz α * Enc.sz α + j % Enc.sz α = j := by rw [Nat.mul_comm]; exact Nat.div_add_mod j _
   rw [e1] at this
   rw [List.getElem?_eq_getElem hj, ← this]⟩
end
end Go.D
set_option linter.unusedVariables false
namespace Go.D
theorem w64_of {n : Int} (h1 : -9223372036854775808 ≤ n) (h2 : n ≤ 9223372036854775807) : w64 n = n := by
 have hm : IntKind.i64.min = -9223372036854775808 := by decide
 have hM : IntKind.i64.max = 9223372036854775807 := by decide
 simp [w64, IntKind.wrap, IntKind.signed, IntKind.bits]
 omega
theorem getI_nat {α : Type} {xs : List α} {i : Nat} : getI xs (i : Int) = xs[i]? := by
 unfold getI
 rw [if_pos (by omega), Int.toNat_natCast]
theorem getI_lt {α : Type} {xs : List α} {i : Int} (h0 : 0 ≤ i) (h1 : i < xs.length) : ∃ x, getI xs i = some x ∧ xs[i.toNat]? = some x := by
 unfold getI
 rw [if_pos h0]
 have : i.toNat < xs.length := by omega
 exact ⟨xs[i.toNat], by rw [List.getElem?_eq_getElem this], by rw [List.getElem?_eq_getElem this]⟩
theorem app_lt {α : Type} {xs ys : List α} (h : xs.length + ys.length < 68719476736) : app xs ys = some (xs ++ ys) := if_pos h
theorem succ_w {i n : Nat} (h : i < n) (hn : n ≤ 70368744177663) : w64 ((i : Int) + 1) = ((i + 1 : Nat) : Int) := by
 rw [w64_of (by omega) (by omega)]
 omega
theorem loop_all {α : Type} {xs : List α} {L : Nat → Int → Option Bool} {p : α → Bool} {fin : Bool} (hlen : xs.length ≤ 70368744177662)
  (h : ∀ (f i : Nat) (v : α), i < xs.length → xs[i]? = some v → w64 ((i : Int) + 1) = ((i + 1 : Nat) : Int) → L (f + 1) i = bif p v then L f ((i + 1 : Nat) : Int) else some false)
  (he : ∀ f, L (f + 1) (xs.length : Int) = some fin) : L FUEL 0 = some (xs.all p && fin) := by
 have main : ∀ (k f i : Nat), i + k = xs.length → k < f → L f (i : Int) = some ((xs.drop i).all p && fin) := by
  intro k
  induction k with
  | zero =>
   intro f i hi hf
   obtain ⟨f, rfl⟩ : ∃ f', f = f' + 1 := ⟨f - 1, by omega⟩
   have : i = xs.length := by omega
   subst this
   rw [he, List.drop_length]
   simp
  | succ k ih =>
   intro f i hi hf
   obtain ⟨f, rfl⟩ : ∃ f', f = f' + 1 := ⟨f - 1, by omega⟩
   have hlt : i < xs.length := by omega
   rw [h f i xs[i] hlt (List.getElem?_eq_getElem hlt) (succ_w hlt (by omega)), ih f (i + 1) (by omega) (by omega), List.drop_eq_getElem_cons hlt, List.all_cons]
   cases p xs[i] <;> simp
 have := main xs.length FUEL 0 (by omega) (by unfold FUEL; omega)
 simpa using this
theorem loop_find {α : Type} {xs : List α} {L : Nat → Int → Option Int} {p : α → Bool} (hlen : xs.length ≤ 70368744177662)
  (h : ∀ (f i : Nat) (v : α), i < xs.length → xs[i]? = some v → w64 ((i : Int) + 1) = ((i + 1 : Nat) : Int) → L (f + 1) i = bif p v then some (i : Int) else L f ((i + 1 : Nat) : Int))
  (he : ∀ f, L (f + 1) (xs.length : Int) = some (-1)) : ∃ r, L FUEL 0 = some r ∧ decide (r ≥ 0) = xs.any p := by
 have main : ∀ (k f i : Nat), i + k = xs.length → k < f → ∃ r, L f (i : Int) = some r ∧ decide (r ≥ 0) = (xs.drop i).any p := by
  intro k
  induction k with
  | zero =>
   intro f i hi hf
   obtain ⟨f, rfl⟩ : ∃ f', f = f' + 1 := ⟨f - 1, by omega⟩
   have : i = xs.length := by omega
   subst this
   rw [he, List.drop_length]
   exact ⟨_, rfl, by simp⟩
  | succ k ih =>
   intro f i hi hf
   obtain ⟨f, rfl⟩ : ∃ f', f = f' + 1 := ⟨f - 1, by omega⟩
   have hlt : i < xs.length := by omega
   rw [h f i xs[i] hlt (List.getElem?_eq_getElem hlt) (succ_w hlt (by omega)), List.drop_eq_getElem_cons hlt, List.any_cons]
   cases hp : p xs[i] with
   | true => exact ⟨_, rfl, by simp⟩
   | false =>
    obtain ⟨r, h1, h2⟩ := ih f (i + 1) (by omega) (by omega)
    exact ⟨r, h1, by simp [h2]⟩
 have := main xs.length FUEL 0 (by omega) (by unfold FUEL; omega)
 simpa using this
theorem loop_q {α σ β : Type} {xs : List α} {L : Nat → Int → σ → Option β} (Q : List α → σ → β → Prop) (Inv : Nat → σ → Prop) (hlen : xs.length ≤ 70368744177662)
  (h : ∀ (f i : Nat) (s : σ) (v : α) (rest : List α), i + (rest.length + 1) = xs.length → i < xs.length → xs[i]? = some v → w64 ((i : Int) + 1) = ((i + 1 : Nat) : Int) → Inv i s →
   (∃ y, L (f + 1) i s = some y ∧ Q (v :: rest) s y) ∨ ∃ s', Inv (i + 1) s' ∧ L (f + 1) i s = L f ((i + 1 : Nat) : Int) s' ∧ ∀ y, Q rest s' y → Q (v :: rest) s y)
  (he : ∀ f s, Inv xs.length s → ∃ y, L (f + 1) (xs.length : Int) s = some y ∧ Q [] s y) {s : σ} (h0 : Inv 0 s) : ∃ y, L FUEL 0 s = some y ∧ Q xs s y := by
 have main : ∀ (k f i : Nat) (s : σ), i + k = xs.length → k < f → Inv i s → ∃ y, L f (i : Int) s = some y ∧ Q (xs.drop i) s y := by
  intro k
  induction k with
  | zero =>
   intro f i s hi hf hI
   obtain ⟨f, rfl⟩ : ∃ f', f = f' + 1 := ⟨f - 1, by omega⟩
   have : i = xs.length := by omega
   subst this
   rw [List.drop_length]
   exact he _ _ hI
  | succ k ih =>
   intro f i s hi hf hI
   obtain ⟨f, rfl⟩ : ∃ f', f = f' + 1 := ⟨f - 1, by omega⟩
   have hlt : i < xs.length := by omega
   rw [List.drop_eq_getElem_cons hlt]
   rcases h f i s xs[i] (xs.drop (i + 1)) (by rw [List.length_drop]; omega) hlt (List.getElem?_eq_getElem hlt) (succ_w hlt (by omega)) hI with h1 | ⟨s', h1, h2, h3⟩
   ·exact h1
   ·obtain ⟨y, h4, h5⟩ := ih f (i + 1) s' (by omega) (by omega) h1
    exact ⟨y, h2.trans h4, h3 y h5⟩
 have := main xs.length FUEL 0 s (by omega) (by unfold FUEL; omega) h0
 simpa using this
def okL {α : Type} (ok : α → Prop) (xs : List α) : Prop := xs.length ≤ 1048576 ∧ ∀ x ∈ xs, ok x
def SzP {α : Type} (z : α → Int → Option Int) (W ok : α → Prop) : Prop := ∀ x n, W x → 0 ≤ n → n ≤ 1048576 → ∃ r, z x n = some r ∧ (r < 0 ∨ (0 ≤ r ∧ r ≤ n ∧ ok x))
theorem sz_cut {k : Nat} {n : Int} (hk : k ≤ 9223372036854775807) (h0 : 0 ≤ n) (hn : n ≤ 1048576) : w64 (n - (k : Int)) = n - k := w64_of (by omega) (by omega)
theorem sz_one {α : Type} {z : α → Int → Option Int} {W : α → Prop} (k : α → Nat) (hk : ∀ x, W x → k x ≤ 9223372036854775807)
  (hz : ∀ x n, z x n = bif (decide (w64 (n - ((k x : Nat) : Int)) < 0)) then some (-1) else some (w64 (n - ((k x : Nat) : Int)))) : SzP z W (fun x => k x ≤ 1048576) := by
 intro x n hW h0 hn
 rw [hz, sz_cut (hk x hW) h0 hn]
 by_cases h : n - (k x : Int) < 0
 ·exact ⟨-1, by rw [decide_eq_true h, cond_true], .inl (by omega)⟩
 ·exact ⟨n - k x, by rw [decide_eq_false h, cond_false], .inr ⟨by omega, by omega, by simp only; omega⟩⟩
theorem sz_loop {α : Type} {z : α → Int → Option Int} {S : List α → Int → Option Int} {L : List α → Nat → Int → Int → Option Int} {W ok : α → Prop} (hz : SzP z W ok)
  (hS : ∀ a n, S a n = bif (decide (w64 (n - ((a.length : Nat) : Int)) < 0)) then some (-1) else L a FUEL (w64 (n - ((a.length : Nat) : Int))) 0)
  (hL : ∀ a f n i, L a (f + 1) n i = bif (decide (i < ((a.length : Nat) : Int))) then (getI a i).bind fun v => (z v n).bind fun r => bif (decide (r < 0)) then some (-1) else L a f r (w64 (i + 1)) else some n) :
  SzP S (listW W) (okL ok) := by
 intro x n hW h0 hn
 rw [hS, sz_cut hW.1 h0 hn]
 by_cases h : n - (x.length : Int) < 0
 ·exact ⟨-1, by rw [decide_eq_true h, cond_true], .inl (by omega)⟩
 rw [decide_eq_false h, cond_false]
 have key := loop_q (xs := x) (L := fun f i (m : Int) => L x f m i) (fun rest m y => y < 0 ∨ (0 ≤ y ∧ y ≤ m ∧ ∀ v ∈ rest, ok v)) (fun i m => 0 ≤ m ∧ m ≤ n) (by omega)
  (fun f i m v rest hr hi hv hw hI => by
   have hlt : (i : Int) < x.length := by omega
   obtain ⟨r, h1, h2⟩ := hz v m (hW.2 v (List.mem_of_getElem? hv)) hI.1 (by omega)
   rcases h2 with h2 | ⟨h2, h3, h4⟩
   ·refine .inl ⟨-1, ?_, .inl (by omega)⟩
    simp only [hL, hlt, decide_true, cond_true, getI_nat, hv, Option.bind_some, h1, h2]
   ·refine .inr ⟨r, ⟨h2, by omega⟩, ?_, fun y hy => ?_⟩
    ·have : ¬ r < 0 := by omega
     simp only [hL, hlt, decide_true, cond_true, getI_nat, hv, Option.bind_some, h1, this, decide_false, cond_false, hw]
    ·rcases hy with hy | ⟨hy1, hy2, hy3⟩
     ·exact .inl hy
     ·refine .inr ⟨hy1, by omega, fun u hu => ?_⟩
      rcases List.mem_cons.1 hu with rfl | hu
      ·exact h4
      ·exact hy3 u hu)
  (fun f m hI => ⟨m, by simp only [hL, Int.lt_irrefl, decide_false, cond_false], .inr ⟨hI.1, Int.le_refl _, fun v hv => by cases hv⟩⟩) (s := n - (x.length : Int)) ⟨by omega, by omega⟩
 obtain ⟨y, h1, h2⟩ := key
 exact ⟨y, h1, h2.imp id fun h' => ⟨h'.1, by omega, by omega, h'.2.2⟩⟩
theorem to_loop {α β : Type} {c : α → β} {t : α → Option β} {S : List α → Option (List β)} {L : List α → Nat → Int → List β → Option (List β)} {d : β} {ok : α → Prop} (ht : ∀ x, ok x → t x = some (c x))
  (hS : ∀ a, S a = (mkI ((a.length : Nat) : Int) d).bind fun v => L a FUEL 0 v)
  (hL : ∀ a f i st, L a (f + 1) i st = bif (decide (i < ((a.length : Nat) : Int))) then (getI a i).bind fun v => (t v).bind fun y => (getI st i).bind fun _ => L a f (w64 (i + 1)) (st.set i.toNat y) else some st) :
  ∀ xs, okL ok xs → S xs = some (xs.map c) := by
 intro xs hx
 have hl := hx.1
 rw [hS, mkI, if_pos (by omega), Option.bind_some]
 have key := loop_q (xs := xs) (L := fun f i (st : List β) => L xs f i st) (fun rest st y => y = st.take (st.length - rest.length) ++ rest.map c) (fun i st => st.length = xs.length) (by omega)
  (fun f i st v rest hr hi hv hw hI => by
   have hlt : (i : Int) < xs.length := by omega
   obtain ⟨o, ho, _⟩ := getI_lt (xs := st) (i := (i : Int)) (by omega) (by omega)
   refine .inr ⟨st.set i (c v), by rw [List.length_set]; exact hI, ?_, fun y hy => ?_⟩
   ·rw [hL, decide_eq_true hlt, cond_true, getI_nat, hv, Option.bind_some, ht v (hx.2 v (List.mem_of_getElem? hv)), Option.bind_some, ho, Option.bind_some, hw, Int.toNat_natCast]
   ·have e1 : (st.set i (c v)).length - rest.length = i + 1 := by rw [List.length_set]; omega
    have e2 : st.length - (v :: rest).length = i := by simp only [List.length_cons]; omega
    rw [e1] at hy
    rw [e2, hy, List.take_add_one, List.take_set_of_le (Nat.le_refl i), List.getElem?_set_self (by omega)]
    simp)
  (fun f st hI => ⟨st, by simp only [hL, Int.lt_irrefl, decide_false, cond_false], by simp⟩) (s := List.replicate ((xs.length : Int)).toNat d) (by simp)
 obtain ⟨y, h1, h2⟩ := key
 rw [h1, h2]
 simp
theorem eq_loop {β : Type} {e : β → β → Option Bool} {S : List β → List β → Option Bool} {L : List β → List β → Nat → Int → Option Bool} {ok : β → Prop} (he : ∀ x, ok x → e x x = some true)
  (hS : ∀ a b, S a b = bif (!(((a.length : Nat) : Int) == ((b.length : Nat) : Int))) then some false else L a b FUEL 0)
  (hL : ∀ a b f i, L a b (f + 1) i = bif (decide (i < ((a.length : Nat) : Int))) then (getI a i).bind fun v => (getI b i).bind fun u => (e v u).bind fun r => bif (!r) then some false else L a b f (w64 (i + 1)) else some true) :
  ∀ xs, okL ok xs → S xs xs = some true := by
 intro xs hx
 have hl := hx.1
 rw [hS, beq_self_eq_true, Bool.not_true, cond_false]
 have := loop_all (xs := xs) (L := fun f i => L xs xs f i) (p := fun _ => true) (fin := true) (by omega) (fun f i v hi hv hw => by
  have hlt : (i : Int) < xs.length := by omega
  simp only [hL, hlt, decide_true, cond_true, getI_nat, hv, Option.bind_some, he v (hx.2 v (List.mem_of_getElem? hv)), Bool.not_true, cond_false, hw]) (fun f => by
  simp only [hL, Int.lt_irrefl, decide_false, cond_false])
 rw [this]
 simp
end Go.D
set_option linter.unusedVariables false
namespace Go.D
abbrev Sm (n : Nat) : Prop := n ≤ 2097152
def inR (a b c : Int) : Bool := decide (b ≤ a) && decide (a ≤ c)
theorem spec_in (a b c : Int) : spec_l1In a b c = some (inR a b c) := by
 unfold spec_l1In inR
 by_cases h : b ≤ a <;> simp [h]
theorem impl_in (a b c : Int) : impl_between a b c = some (inR a b c) := by
 unfold impl_between inR
 by_cases h : b ≤ a <;> simp [h]
theorem not_any_not {α : Type} (xs : List α) (p : α → Bool) : (!(xs.any fun x => !(p x))) = xs.all p := by
 induction xs with
 | nil => rfl
 | cons x xs ih => simp [← ih]
theorem cast_le6 (n : Nat) : decide ((n : Int) ≤ 6) = decide (n ≤ 6) := by
 simp only [decide_eq_decide]
 omega
theorem getB_nat {s : ByteArray} {i : Nat} : getB s (i : Int) = s.data.toList[i]? := by
 unfold getB
 rw [if_pos (by omega), Int.toNat_natCast]
 by_cases h : i < s.size
 ·rw [getElem?_pos s i h, List.getElem?_eq_getElem (by simpa using h)]
  simp only [Option.some.injEq]
  rfl
 ·rw [getElem?_neg s i h, List.getElem?_eq_none (by simpa using h)]
def letter (b : UInt8) : Bool := decide (97 ≤ b.toNat) && decide (b.toNat ≤ 122)
def textOk (s : ByteArray) : Bool := s.data.toList.all letter && decide (s.size ≤ 6)
theorem size_list (s : ByteArray) : s.data.toList.length = s.size := Array.length_toList
theorem spec_text {s : ByteArray} (h : Sm s.size) : spec_l1Text s = some (textOk s) := by
 unfold spec_l1Text textOk
 have hl := size_list s
 refine loop_all (xs := s.data.toList) (by omega) (fun f i v hi hv hw => ?_) (fun f => ?_)
 ·have : (i : Int) < s.size := by omega
  simp only [spec_l1Text_l0, this, decide_true, cond_true, getB_nat, hv, Option.bind_some, spec_l1Text_j1, hw]
  unfold letter
  by_cases h1 : (v.toNat : Int) < 97
  ·have : ¬ 97 ≤ v.toNat := by omega
   simp [h1, this]
  ·have h1' : 97 ≤ v.toNat := by omega
   by_cases h2 : (v.toNat : Int) > 122
   ·have : ¬ v.toNat ≤ 122 := by omega
    simp [h1, h1', h2, this]
   ·have : v.toNat ≤ 122 := by omega
    simp [h1, h1', h2, this]
 ·rw [hl]
  unfold spec_l1Text_l0
  rw [show decide ((s.size : Int) < (s.size : Int)) = false from decide_eq_false (Int.lt_irrefl _), cond_false, cast_le6]
theorem impl_lettersOk {s : ByteArray} (h : Sm s.size) : impl_letters s = some (s.data.toList.all letter) := by
 have hl := size_list s
 unfold impl_letters bytesOf
 rw [if_pos (by omega), Option.bind_some, ← Bool.and_true (s.data.toList.all letter)]
 refine loop_all (xs := s.data.toList) (by omega) (fun f i v hi hv hw => ?_) (fun f => ?_)
 ·have : (i : Int) < s.data.toList.length := by omega
  have hb : v.toNat < 256 := v.toNat_lt
  have h1 : w64 (v.toNat : Int) = v.toNat := w64_of (by omega) (by omega)
  simp only [impl_letters_l0, this, decide_true, cond_true, getI_nat, hv, Option.bind_some, impl_in, hw, h1]
  have : inR (v.toNat : Int) 97 122 = letter v := by
   unfold inR letter
   congr 1 <;> simp only [decide_eq_decide] <;> omega
  rw [this]
  cases letter v <;> rfl
 ·simp only [impl_letters_l0, Int.lt_irrefl, decide_false, cond_false]
def valOk (v : T_impl_Value) : Bool := bif v.fKind == 0 then v.fN == 0 && v.fS.toList == (ByteArray.mk #[]).toList else bif v.fKind == 1 then inR v.fN (-9999) 9999 && v.fS.toList == (ByteArray.mk #[]).toList else
 bif v.fKind == 2 then v.fN == 0 && textOk v.fS else bif v.fKind == 3 then inR v.fN 0 1 && v.fS.toList == (ByteArray.mk #[]).toList else false
theorem spec_value {v : T_impl_Value} (h : Sm v.fS.size) : spec_ValueOk v = some (valOk v) := by
 unfold spec_ValueOk valOk
 simp only [spec_in, spec_text h, Option.bind_some]
 cases v.fKind == 0 <;> cases v.fKind == 1 <;> cases v.fKind == 2 <;> cases v.fKind == 3 <;> cases v.fN == 0 <;> cases inR v.fN (-9999) 9999 <;> cases inR v.fN 0 1 <;> rfl
theorem impl_value {v : T_impl_Value} (h : Sm v.fS.size) : impl_Value_ok v = some (valOk v) := by
 unfold impl_Value_ok valOk
 simp only [impl_in, impl_lettersOk h, Option.bind_some]
 have e : eq_T_impl_Value v ((T_impl_Value.mk 0 0 (ByteArray.mk #[]))) = (v.fKind == 0 && (v.fN == 0 && v.fS.toList == (ByteArray.mk #[]).toList)) := rfl
 have e2 : decide ((v.fS.size : Int) ≤ 6) = decide (v.fS.size ≤ 6) := by
  simp only [decide_eq_decide]
  omega
 have e3 : textOk v.fS = (v.fS.data.toList.all letter && decide (v.fS.size ≤ 6)) := rfl
 rw [e, e2, e3]
 cases v.fKind == 0 <;> cases v.fKind == 1 <;> cases v.fKind == 2 <;> cases v.fKind == 3 <;> cases v.fN == 0 <;> cases inR v.fN (-9999) 9999 <;> cases inR v.fN 0 1 <;> cases v.fS.toList == (ByteArray.mk #[]).toList <;>
  cases decide (v.fS.size ≤ 6) <;> cases v.fS.data.toList.all letter <;> rfl
def SmV (v : T_impl_Value) : Prop := Sm v.fS.size
def SmR (r : List T_impl_Value) : Prop := Sm r.length ∧ ∀ v ∈ r, SmV v
def rowOk (r : List T_impl_Value) : Bool := r.all valOk && decide (r.length ≤ 4)
theorem spec_rowOk {r : List T_impl_Value} (h : SmR r) : spec_RowOk r = some (rowOk r) := by
 unfold spec_RowOk rowOk
 have hl := h.1
 refine loop_all (by omega) (fun f i v hi hv hw => ?_) (fun f => ?_)
 ·have : (i : Int) < r.length := by omega
  simp only [spec_RowOk_l0, this, decide_true, cond_true, getI_nat, hv, Option.bind_some, spec_value (h.2 v (List.mem_of_getElem? hv)), hw]
  cases valOk v <;> rfl
 ·simp only [spec_RowOk_l0, Int.lt_irrefl, decide_false, cond_false]
  congr 1
  simp only [decide_eq_decide]
  omega
theorem impl_rowAny {r : List T_impl_Value} (h : SmR r) : slices_ContainsFunc_impl_Value_impl_Value r impl_RowOk_1 = some (r.any fun v => !(valOk v)) := by
 unfold slices_ContainsFunc_impl_Value_impl_Value slices_IndexFunc_impl_Value_impl_Value
 have hl := h.1
 obtain ⟨x, h1, h2⟩ := loop_find (xs := r) (L := slices_IndexFunc_impl_Value_impl_Value_l0 r impl_RowOk_1) (p := fun v => !(valOk v)) (by omega) (fun f i v hi hv hw => by
  have : (i : Int) < r.length := by omega
  simp only [slices_IndexFunc_impl_Value_impl_Value_l0, this, decide_true, cond_true, getI_nat, hv, Option.bind_some, impl_RowOk_1, impl_value (h.2 v (List.mem_of_getElem? hv)), hw]) (fun f => by
  simp only [slices_IndexFunc_impl_Value_impl_Value_l0, Int.lt_irrefl, decide_false, cond_false])
 rw [h1, Option.bind_some, h2]
theorem le4 {α : Type} (xs : List α) : decide ((xs.length : Int) ≤ 4) = decide (xs.length ≤ 4) := by
 simp only [decide_eq_decide]
 omega
theorem impl_rowOk {r : List T_impl_Value} (h : SmR r) : impl_RowOk r = some (rowOk r) := by
 unfold impl_RowOk rowOk
 rw [impl_rowAny h, Option.bind_some, not_any_not, le4]
 cases decide (r.length ≤ 4) <;> simp
end Go.D
set_option linter.unusedVariables false
namespace Go.D
theorem loop_opt {α σ β : Type} {xs : List α} {L : Nat → Int → σ → Option β} (R : List α → σ → Option β) (Inv : Nat → σ → Prop) (hlen : xs.length ≤ 70368744177662)
  (h : ∀ (f i : Nat) (s : σ) (v : α), i < xs.length → xs[i]? = some v → w64 ((i : Int) + 1) = ((i + 1 : Nat) : Int) → Inv i s →
   L (f + 1) i s = R (v :: xs.drop (i + 1)) s ∨ ∃ s', Inv (i + 1) s' ∧ L (f + 1) i s = L f ((i + 1 : Nat) : Int) s' ∧ R (v :: xs.drop (i + 1)) s = R (xs.drop (i + 1)) s')
  (he : ∀ f s, Inv xs.length s → L (f + 1) (xs.length : Int) s = R [] s) {s : σ} (h0 : Inv 0 s) : L FUEL 0 s = R xs s := by
 have main : ∀ (k f i : Nat) (s : σ), i + k = xs.length → k < f → Inv i s → L f (i : Int) s = R (xs.drop i) s := by
  intro k
  induction k with
  | zero =>
   intro f i s hi hf hI
   obtain ⟨f, rfl⟩ : ∃ f', f = f' + 1 := ⟨f - 1, by omega⟩
   have : i = xs.length := by omega
   subst this
   rw [he _ _ hI, List.drop_length]
  | succ k ih =>
   intro f i s hi hf hI
   obtain ⟨f, rfl⟩ : ∃ f', f = f' + 1 := ⟨f - 1, by omega⟩
   have hlt : i < xs.length := by omega
   rw [List.drop_eq_getElem_cons hlt]
   rcases h f i s xs[i] hlt (List.getElem?_eq_getElem hlt) (succ_w hlt (by omega)) hI with h1 | ⟨s', h1, h2, h3⟩
   ·exact h1
   ·rw [h2, h3]
    exact ih f (i + 1) s' (by omega) (by omega) h1
 have := main xs.length FUEL 0 s (by omega) (by unfold FUEL; omega) h0
 simpa using this
end Go.D
set_option linter.unusedVariables false
namespace Go.D
theorem loop_idx {n : Nat} {L : Nat → Int → Option Bool} {p : Nat → Bool} {fin : Bool} (hn : n ≤ 70368744177662)
  (h : ∀ (f i : Nat), i < n → w64 ((i : Int) + 1) = ((i + 1 : Nat) : Int) → L (f + 1) i = bif p i then L f ((i + 1 : Nat) : Int) else some false)
  (he : ∀ f, L (f + 1) (n : Int) = some fin) : L FUEL 0 = some ((List.range n).all p && fin) := by
 refine loop_all (xs := List.range n) (by simpa using hn) (fun f i v hi hv hw => ?_) (by simpa using he)
 have hi' : i < n := by simpa using hi
 have : v = i := by
  rw [List.getElem?_range hi'] at hv
  exact (Option.some.inj hv).symm
 rw [this]
 exact h f i hi' hw
end Go.D
set_option linter.unusedVariables false
namespace Go.D
def verG (v : T_impl_Version) : Bool := inR v.fKey 0 4 && (inR v.fBorn 1 40 && ((v.fDied == 0 || inR v.fDied (w64 (v.fBorn + 1)) 40) && rowOk v.fRow))
def adjG (w v : T_impl_Version) : Bool := !(decide (w.fKey ≥ v.fKey) && (decide (w.fKey > v.fKey) || (w.fDied == 0 || decide (w.fDied > v.fBorn))))
def adjI (w v : T_impl_Version) : Bool := !(decide (w.fKey > v.fKey) || (w.fKey == v.fKey && (decide (w.fBorn ≥ v.fBorn) || (w.fDied == 0 || decide (w.fDied > v.fBorn)))))
def verP (adj : T_impl_Version → T_impl_Version → Bool) (xs : List T_impl_Version) (i : Nat) : Bool := match xs[i]? with
 | some v => verG v && (i == 0 || match xs[i - 1]? with | some w => adj w v | none => true)
 | none => true
def vOk (xs : List T_impl_Version) : Bool := (List.range xs.length).all (verP adjG xs) && decide (xs.length ≤ 60)
def SmVers (xs : List T_impl_Version) : Prop := Sm xs.length ∧ ∀ v ∈ xs, SmR v.fRow
theorem spec_verG {v : T_impl_Version} (h : SmR v.fRow) : spec_l13Version v = some (verG v) := by
 unfold spec_l13Version verG
 simp only [spec_in, spec_rowOk h, Option.bind_some]
 cases inR v.fKey 0 4 <;> cases inR v.fBorn 1 40 <;> cases v.fDied == 0 <;> cases inR v.fDied (w64 (v.fBorn + 1)) 40 <;> rfl
theorem spec_vOk {xs : List T_impl_Version} (h : SmVers xs) : spec_VersionsOk xs = some (vOk xs) := by
 have hl := h.1
 unfold spec_VersionsOk vOk
 refine loop_idx (by omega) (fun f i hi hw => ?_) (fun f => ?_)
 ·have hv : xs[i]? = some xs[i] := List.getElem?_eq_getElem hi
  have hg : getI xs (i : Int) = some xs[i] := by rw [getI_nat, hv]
  rw [spec_VersionsOk_l0, decide_eq_true (by omega), cond_true, hg, Option.bind_some, spec_verG (h.2 _ (List.getElem_mem hi)), Option.bind_some]
  unfold verP
  rw [hv]
  simp only
  cases verG xs[i] with
  | false => rfl
  | true =>
   rw [Bool.not_true, cond_false, Bool.true_and]
   by_cases h0 : i = 0
   ·subst h0
    rw [decide_eq_false (show ¬ (((0 : Nat) : Int) > 0) by omega), cond_false, spec_VersionsOk_j1, cond_false, hw]
    rfl
   ·have hi1 : i - 1 < xs.length := by omega
    have hw1 : w64 ((i : Int) - 1) = ((i - 1 : Nat) : Int) := by rw [w64_of (by omega) (by omega)]; omega
    have hv1 : xs[i - 1]? = some xs[i - 1] := List.getElem?_eq_getElem hi1
    have hg1 : getI xs (w64 ((i : Int) - 1)) = some xs[i - 1] := by rw [hw1, getI_nat, hv1]
    have e0 : (i == 0) = false := by simpa using h0
    rw [decide_eq_true (show (i : Int) > 0 by omega), cond_true, hv1, e0]
    simp only [hg, hg1, Option.bind_some, Bool.false_or, adjG, spec_VersionsOk_j1, hw]
    cases decide (xs[i - 1].fKey ≥ xs[i].fKey) <;> cases decide (xs[i - 1].fKey > xs[i].fKey) <;> cases xs[i - 1].fDied == 0 <;> cases decide (xs[i - 1].fDied > xs[i].fBorn) <;> rfl
 ·have e : decide ((xs.length : Int) ≤ 60) = decide (xs.length ≤ 60) := decide_eq_decide.2 (by omega)
  rw [spec_VersionsOk_l0, decide_eq_false (Int.lt_irrefl _), cond_false, e]
theorem adj_same {w v : T_impl_Version} (h : verG w = true) : adjI w v = adjG w v := by
 unfold verG at h
 simp only [Bool.and_eq_true, Bool.or_eq_true] at h
 obtain ⟨_, h2, h3, _⟩ := h
 unfold inR at h2 h3
 simp only [Bool.and_eq_true, decide_eq_true_eq, beq_iff_eq] at h2 h3
 have hw : w64 (w.fBorn + 1) = w.fBorn + 1 := w64_of (by omega) (by omega)
 rw [hw] at h3
 unfold adjI adjG
 rw [Bool.eq_iff_iff]
 simp only [Bool.not_eq_true', Bool.or_eq_false_iff, Bool.and_eq_false_iff, decide_eq_false_iff_not, beq_eq_false_iff_ne]
 omega
theorem all_same {xs : List T_impl_Version} : (List.range xs.length).all (verP adjI xs) = (List.range xs.length).all (verP adjG xs) := by
 have key : ∀ n, n ≤ xs.length → (List.range n).all (verP adjI xs) = (List.range n).all (verP adjG xs) := by
  intro n
  induction n with
  | zero => exact fun _ => rfl
  | succ n ih =>
   intro hn
   rw [List.range_succ, List.all_append, List.all_append, ih (by omega)]
   cases hall : (List.range n).all (verP adjG xs) with
   | false => rfl
   | true =>
    simp only [List.all_cons, List.all_nil, Bool.and_true, Bool.true_and]
    unfold verP
    rw [List.getElem?_eq_getElem (by omega)]
    simp only
    by_cases h0 : n = 0
    ·subst h0
     rfl
    ·have hg : verG xs[n - 1] = true := by
      have := List.all_eq_true.1 hall (n - 1) (List.mem_range.2 (by omega))
      unfold verP at this
      rw [List.getElem?_eq_getElem (by omega)] at this
      simp only [Bool.and_eq_true] at this
      exact this.1
     rw [List.getElem?_eq_getElem (by omega)]
     simp only [adj_same hg]
 exact key _ (Nat.le_refl _)
theorem impl_vOk {xs : List T_impl_Version} (h : SmVers xs) : impl_VersionsOk xs = some (vOk xs) := by
 have hl := h.1
 unfold impl_VersionsOk vOk
 rw [← all_same]
 refine loop_idx (by omega) (fun f i hi hw => ?_) (fun f => ?_)
 ·have hv : xs[i]? = some xs[i] := List.getElem?_eq_getElem hi
  have hg : getI xs (i : Int) = some xs[i] := by rw [getI_nat, hv]
  have hk : impl_keyOk xs[i].fKey = some (inR xs[i].fKey 0 4) := by
   unfold impl_keyOk
   rw [impl_in]
   rfl
  have key : ∀ b, verG xs[i] = !b → impl_VersionsOk_j1 xs (i : Int) (impl_VersionsOk_l0 xs f) xs[i] b = bif verP adjI xs i then impl_VersionsOk_l0 xs f ((i + 1 : Nat) : Int) else some false := by
   intro b hb
   unfold verP
   rw [hv]
   simp only
   rw [hb]
   cases b with
   | true => rfl
   | false =>
    rw [impl_VersionsOk_j1, cond_false, Bool.not_false, Bool.true_and]
    by_cases h0 : i = 0
    ·subst h0
     simp only [hw]
     rfl
    ·have hi1 : i - 1 < xs.length := by omega
     have hw1 : w64 ((i : Int) - 1) = ((i - 1 : Nat) : Int) := by rw [w64_of (by omega) (by omega)]; omega
     have hv1 : xs[i - 1]? = some xs[i - 1] := List.getElem?_eq_getElem hi1
     have hg1 : getI xs (w64 ((i : Int) - 1)) = some xs[i - 1] := by rw [hw1, getI_nat, hv1]
     have e0 : (i == 0) = false := by simpa using h0
     have e1 : ((i : Int) == 0) = false := beq_eq_false_iff_ne.2 (by omega)
     rw [e1, cond_false, hv1, e0]
     simp only [hg1, Option.bind_some, Bool.false_or, adjI, impl_VersionsOk_j2, hw]
     cases decide (xs[i - 1].fKey > xs[i].fKey) <;> cases xs[i - 1].fKey == xs[i].fKey <;> cases decide (xs[i - 1].fBorn ≥ xs[i].fBorn) <;> cases xs[i - 1].fDied == 0 <;> cases decide (xs[i - 1].fDied > xs[i].fBorn) <;> rfl
  rw [impl_VersionsOk_l0, decide_eq_true (by omega), cond_true, hg, Option.bind_some, hk, Option.bind_some, impl_in, Option.bind_some, impl_in, Option.bind_some, impl_rowOk (h.2 _ (List.getElem_mem hi)), Option.bind_some]
  have k1 := key true
  have k0 := key false
  have kd := key
  unfold verG at k1 k0 kd
  cases e1 : inR xs[i].fKey 0 4
  ·rw [e1] at k1
   exact k1 rfl
  cases e2 : inR xs[i].fBorn 1 40
  ·rw [e1, e2] at k1
   exact k1 rfl
  rw [e1, e2] at kd
  cases e3 : xs[i].fDied == 0
  ·cases e4 : inR xs[i].fDied (w64 (xs[i].fBorn + 1)) 40
   ·rw [e3, e4] at kd
    exact kd true rfl
   ·rw [e3, e4] at kd
    exact kd (!rowOk xs[i].fRow) (by simp)
  ·rw [e3] at kd
   exact kd (!rowOk xs[i].fRow) (by simp)
 ·have e : decide ((xs.length : Int) ≤ 60) = decide (xs.length ≤ 60) := decide_eq_decide.2 (by omega)
  rw [impl_VersionsOk_l0, decide_eq_false (Int.lt_irrefl _), cond_false, e]
theorem vOk_get {xs : List T_impl_Version} (h : vOk xs = true) {i : Nat} (hi : i < xs.length) : verG xs[i] = true ∧ ∀ (h1 : i + 1 < xs.length), adjG xs[i] xs[i + 1] = true := by
 unfold vOk at h
 rw [Bool.and_eq_true] at h
 have ha := List.all_eq_true.1 h.1
 refine ⟨?_, fun h1 => ?_⟩
 ·have := ha i (List.mem_range.2 hi)
  unfold verP at this
  rw [List.getElem?_eq_getElem hi] at this
  simp only [Bool.and_eq_true] at this
  exact this.1
 ·have := ha (i + 1) (List.mem_range.2 h1)
  unfold verP at this
  rw [List.getElem?_eq_getElem h1, Nat.add_sub_cancel, List.getElem?_eq_getElem hi] at this
  simp only [Bool.and_eq_true] at this
  have e : (i + 1 == 0) = false := beq_eq_false_iff_ne.2 (by omega)
  rw [e, Bool.false_or] at this
  exact this.2
end Go.D
set_option linter.unusedVariables false
namespace Go.D
structure Ord3 {α : Type} (cf : α → α → Int) : Prop where
 refl : ∀ x, cf x x = 0
 lt : ∀ x y, cf x y < 0 → 0 < cf y x
 gt : ∀ x y, 0 < cf x y → cf y x < 0
 le : ∀ x y z, cf x y ≤ 0 → cf y z ≤ 0 → cf x z ≤ 0
section
variable {α : Type} {cf cg : α → α → Int}
theorem Ord3.eq (h : Ord3 cf) {x y : α} (e : cf x y = 0) : cf y x = 0 := by
 rcases Int.lt_trichotomy (cf y x) 0 with k | k | k
 ·have := h.lt _ _ k; omega
 ·exact k
 ·have := h.gt _ _ k; omega
theorem Ord3.ge (h : Ord3 cf) {x y : α} (e : 0 ≤ cf x y) : cf y x ≤ 0 := by
 by_cases k : cf x y = 0
 ·have := h.eq k; omega
 ·have := h.gt x y (by omega); omega
theorem Ord3.lex (h : Ord3 cf) (k : Ord3 cg) : Ord3 fun x y => if cf x y ≠ 0 then cf x y else cg x y := by
 refine ⟨fun x => ?_, fun x y e => ?_, fun x y e => ?_, fun x y z e1 e2 => ?_⟩
 ·simp only [h.refl, ne_eq, not_true_eq_false, if_false, k.refl]
 ·by_cases e0 : cf x y = 0
  ·rw [if_neg (by simpa using e0)] at e
   rw [if_neg (by simpa using h.eq e0)]
   exact k.lt _ _ e
  ·rw [if_pos e0] at e
   have := h.lt _ _ e
   rw [if_pos (by omega)]
   exact this
 ·by_cases e0 : cf x y = 0
  ·rw [if_neg (by simpa using e0)] at e
   rw [if_neg (by simpa using h.eq e0)]
   exact k.gt _ _ e
  ·rw [if_pos e0] at e
   have := h.gt _ _ e
   rw [if_pos (by omega)]
   exact this
 ·have a1 : cf x y ≤ 0 := by
   by_cases e0 : cf x y = 0
   ·omega
   ·rw [if_pos e0] at e1; exact e1
  have a2 : cf y z ≤ 0 := by
   by_cases e0 : cf y z = 0
   ·omega
   ·rw [if_pos e0] at e2; exact e2
  have a3 := h.le x y z a1 a2
  by_cases e0 : cf x z = 0
  ·rw [if_neg (by simpa using e0)]
   have b0 := h.eq e0
   have b1 : cf x y = 0 := by
    have := h.le y z x a2 (by omega)
    rcases Int.lt_or_le (cf x y) 0 with q | q
    ·have := h.lt _ _ q; omega
    ·omega
   have b2 : cf y z = 0 := by
    have := h.le z x y (by omega) a1
    rcases Int.lt_or_le (cf y z) 0 with q | q
    ·have := h.lt _ _ q; omega
    ·omega
   rw [if_neg (by simpa using b1)] at e1
   rw [if_neg (by simpa using b2)] at e2
   exact k.le x y z e1 e2
  ·rw [if_pos e0]
   exact a3
theorem Ord3.on {β : Type} (h : Ord3 cf) (f : β → α) : Ord3 fun x y => cf (f x) (f y) := ⟨fun _ => h.refl _, fun _ _ => h.lt _ _, fun _ _ => h.gt _ _, fun _ _ _ => h.le _ _ _⟩
end
theorem perm_uniq {α : Type} {cf : α → α → Int} (h : Ord3 cf) : ∀ {xs ys : List α}, xs.Perm ys → xs.Pairwise (fun a b => cf a b < 0) → ys.Pairwise (fun a b => cf a b ≤ 0) → xs = ys
 | [], ys, hp, _, _ => (List.perm_nil.1 hp.symm).symm
 | x :: xs, [], hp, _, _ => absurd hp.length_eq (by simp)
 | x :: xs, y :: ys, hp, h1, h2 => by
  rw [List.pairwise_cons] at h1 h2
  have hxy : x = y := by
   rcases List.mem_cons.1 (hp.symm.subset (List.mem_cons_self)) with e | e
   ·exact e.symm
   ·have a := h1.1 y e
    rcases List.mem_cons.1 (hp.subset (List.mem_cons_self)) with e' | e'
    ·exact e'
    ·have b := h2.1 x e'
     have := h.lt _ _ a
     omega
  subst hxy
  rw [perm_uniq h (List.perm_cons x |>.1 hp) h1.2 h2.2]
end Go.D
set_option linter.unusedVariables false
namespace Go.D
theorem asc_of_adj {α : Type} {R : α → α → Prop} (ht : ∀ a b c, R a b → R b c → R a c) {xs : List α} (h : ∀ i (hi : i + 1 < xs.length), R (xs[i]'(by omega)) xs[i + 1]) : xs.Pairwise R := by
 rw [List.pairwise_iff_getElem]
 intro i j hi hj hij
 have key : ∀ d (hd : i + 1 + d < xs.length), R xs[i] (xs[i + 1 + d]'hd) := by
  intro d
  induction d with
  | zero => exact fun hd => h i hd
  | succ d ih => exact fun hd => ht _ _ _ (ih (by omega)) (h (i + 1 + d) hd)
 have := key (j - (i + 1)) (by omega)
 have e : i + 1 + (j - (i + 1)) = j := by omega
 simp only [e] at this
 exact this
end Go.D
set_option linter.unusedVariables false
namespace Go.D
def disV (a b : T_impl_Version) : Prop := a.fKey < b.fKey ∨ a.fKey = b.fKey ∧ a.fDied ≠ 0 ∧ a.fDied ≤ b.fBorn ∧ a.fBorn < b.fBorn
theorem verG_iff (v : T_impl_Version) : verG v = true ↔ (0 ≤ v.fKey ∧ v.fKey ≤ 4) ∧ (1 ≤ v.fBorn ∧ v.fBorn ≤ 40) ∧ (v.fDied = 0 ∨ v.fBorn + 1 ≤ v.fDied ∧ v.fDied ≤ 40) ∧ rowOk v.fRow = true := by
 unfold verG inR
 simp only [Bool.and_eq_true, Bool.or_eq_true, decide_eq_true_eq, beq_iff_eq]
 constructor
 ·rintro ⟨h1, h2, h3, h4⟩
  rw [w64_of (by omega) (by omega)] at h3
  exact ⟨h1, h2, h3, h4⟩
 ·rintro ⟨h1, h2, h3, h4⟩
  rw [w64_of (by omega) (by omega)]
  exact ⟨h1, h2, h3, h4⟩
theorem vOk_iff (xs : List T_impl_Version) : vOk xs = true ↔ (∀ v ∈ xs, verG v = true) ∧ xs.Pairwise disV ∧ xs.length ≤ 60 := by
 constructor
 ·intro h
  refine ⟨fun v hv => ?_, ?_, ?_⟩
  ·obtain ⟨i, hi, rfl⟩ := List.getElem_of_mem hv
   exact (vOk_get h hi).1
  ·refine asc_of_adj (fun a b c h1 h2 => ?_) fun i hi => ?_
   ·unfold disV at *
    omega
   ·obtain ⟨g1, g2⟩ := vOk_get h (i := i) (by omega)
    have g2 := g2 hi
    obtain ⟨_, h2, h3, _⟩ := (verG_iff _).1 g1
    unfold adjG at g2
    simp only [Bool.not_eq_true', Bool.or_eq_false_iff, Bool.and_eq_false_iff, decide_eq_false_iff_not, beq_eq_false_iff_ne] at g2
    unfold disV
    omega
  ·unfold vOk at h
   rw [Bool.and_eq_true] at h
   exact of_decide_eq_true h.2
 ·rintro ⟨h1, h2, h3⟩
  unfold vOk
  rw [Bool.and_eq_true]
  refine ⟨List.all_eq_true.2 fun i hi => ?_, decide_eq_true h3⟩
  have hi := List.mem_range.1 hi
  unfold verP
  rw [List.getElem?_eq_getElem hi]
  simp only [Bool.and_eq_true]
  refine ⟨h1 _ (List.getElem_mem hi), ?_⟩
  by_cases h0 : i = 0
  ·subst h0; rfl
  ·rw [List.getElem?_eq_getElem (show i - 1 < xs.length by omega)]
   have := List.pairwise_iff_getElem.1 h2 (i - 1) i (by omega) hi (by omega)
   simp only [Bool.or_eq_true]
   right
   unfold adjG
   unfold disV at this
   simp only [Bool.not_eq_true', Bool.or_eq_false_iff, Bool.and_eq_false_iff, decide_eq_false_iff_not, beq_eq_false_iff_ne]
   omega
theorem impl_cloneVR {a : List T_impl_Value} (ha : a.length ≤ 4194304) : impl_clone_impl_Value a = some a := by
 unfold impl_clone_impl_Value slices_Clip_impl_Value_impl_Value
 cases h : ((a.length : Int)) == 0
 ·rw [cond_false, app_lt (by simp; omega), Option.bind_some, List.nil_append, show slI a none (some (a.length : Int)) (some (a.length : Int)) = some a by simp [slI]]
  rfl
 ·have : a = [] := by
   have : (a.length : Int) = 0 := by simpa using h
   exact List.eq_nil_of_length_eq_zero (by omega)
  subst this
  rfl
theorem impl_clipVR {xs : List T_impl_Version} : slices_Clip_impl_Version_impl_Version_R xs = some xs := by
 unfold slices_Clip_impl_Version_impl_Version_R
 rw [show slI xs none (some (xs.length : Int)) (some (xs.length : Int)) = some xs by simp [slI]]
 rfl
theorem impl_clipV {xs : List T_impl_Version} : slices_Clip_impl_Version_impl_Version xs = some xs := by
 unfold slices_Clip_impl_Version_impl_Version
 rw [show slI xs none (some (xs.length : Int)) (some (xs.length : Int)) = some xs by simp [slI]]
 rfl
theorem impl_copyVR {xs : List T_impl_Version} (h : SmVers xs) : impl_versionsCopy_R xs = some xs := by
 have hl := h.1
 have := loop_opt (xs := xs) (L := fun f i (s : List T_impl_Version) => impl_versionsCopy_R_l0 xs f i s) (fun rest s => some (s ++ rest)) (fun i s => s.length = i) (by omega)
  (fun f i s v hi hv hw hI => .inr ⟨s ++ [v], by simp; omega, by
   have := (h.2 v (List.mem_of_getElem? hv)).1
   rw [impl_versionsCopy_R_l0, decide_eq_true (by omega), cond_true, getI_nat, hv, Option.bind_some, impl_cloneVR (by omega), Option.bind_some, app_lt (by simp; omega), Option.bind_some, hw], by simp⟩)
  (fun f s hI => by rw [impl_versionsCopy_R_l0, decide_eq_false (Int.lt_irrefl _), cond_false, impl_clipVR]; simp) (s := []) rfl
 have e : impl_versionsCopy_R xs = some ([] ++ xs) := this
 simpa using e
theorem impl_copyV {xs : List T_impl_Version} (h : SmVers xs) : impl_versionsCopy xs = some xs := by
 have hl := h.1
 have := loop_opt (xs := xs) (L := fun f i (s : List T_impl_Version) => impl_versionsCopy_l0 xs f i s) (fun rest s => some (s ++ rest)) (fun i s => s.length = i) (by omega)
  (fun f i s v hi hv hw hI => .inr ⟨s ++ [v], by simp; omega, by
   have := (h.2 v (List.mem_of_getElem? hv)).1
   rw [impl_versionsCopy_l0, decide_eq_true (by omega), cond_true, getI_nat, hv, Option.bind_some, impl_cloneVR (by omega), Option.bind_some, app_lt (by simp; omega), Option.bind_some, hw], by simp⟩)
  (fun f s hI => by rw [impl_versionsCopy_l0, decide_eq_false (Int.lt_irrefl _), cond_false, impl_clipV]; simp) (s := []) rfl
 have e : impl_versionsCopy xs = some ([] ++ xs) := this
 simpa using e
end Go.D
set_option linter.unusedVariables false
namespace Go.D
def atV (k t : Int) (v : T_impl_Version) : Bool := v.fKey == k && (decide (v.fBorn ≤ t) && (v.fDied == 0 || decide (v.fDied > t)))
def seenV (xs : List T_impl_Version) (k t : Int) : Option T_impl_Version := xs.find? (atV k t)
def rowS : Option T_impl_Version → List T_impl_Value × Bool
 | some v => (v.fRow, true)
 | none => ([], false)
theorem impl_seenV {xs : List T_impl_Version} (h : Sm xs.length) (k t : Int) : impl_seen xs k t = some (match seenV xs k t with | some v => (v, true) | none => (T_impl_Version.mk 0 0 0 [], false)) := by
 unfold impl_seen
 have := loop_opt (xs := xs) (L := fun f i (_ : Unit) => impl_seen_l0 xs k t f i) (fun rest _ => some (match rest.find? (atV k t) with | some v => (v, true) | none => (T_impl_Version.mk 0 0 0 [], false))) (fun _ _ => True) (by omega)
  (fun f i s v hi hv hw _ => by
   have hc : impl_seen_l0 xs k t (f + 1) i = bif atV k t v then some (v, true) else impl_seen_l0 xs k t f ((i + 1 : Nat) : Int) := by
    rw [impl_seen_l0, decide_eq_true (by omega), cond_true, getI_nat, hv, Option.bind_some]
    unfold atV
    simp only [impl_seen_j1, hw]
    cases v.fKey == k <;> cases decide (v.fBorn ≤ t) <;> cases v.fDied == 0 <;> cases decide (v.fDied > t) <;> rfl
   cases ha : atV k t v with
   | true =>
    refine .inl ?_
    rw [hc, ha, cond_true, List.find?_cons, ha]
   | false =>
    refine .inr ⟨(), trivial, by rw [hc, ha, cond_false], ?_⟩
    rw [List.find?_cons, ha])
  (fun f s _ => by rw [impl_seen_l0, decide_eq_false (Int.lt_irrefl _), cond_false]; rfl) (s := ()) trivial
 exact this
theorem seenV_mem {xs : List T_impl_Version} {k t : Int} {v : T_impl_Version} (h : seenV xs k t = some v) : v ∈ xs ∧ atV k t v = true := ⟨List.mem_of_find?_eq_some h, List.find?_some h⟩
end Go.D
set_option linter.unusedVariables false
namespace Go.D
def rowOf (xs : List T_impl_Version) (k t : Int) : Option (List T_impl_Value) := (seenV xs k t).map (·.fRow)
def rowsV (xs : List T_impl_Version) (t : Int) : List (List T_impl_Value) := (List.range 5).filterMap fun (k : Nat) => rowOf xs (k : Int) t
theorem rowOf_sm {xs : List T_impl_Version} (h : SmVers xs) {k t : Int} {r : List T_impl_Value} (hr : rowOf xs k t = some r) : SmR r := by
 unfold rowOf at hr
 rw [Option.map_eq_some_iff] at hr
 obtain ⟨v, h1, rfl⟩ := hr
 exact h.2 v (seenV_mem h1).1
theorem fm_len {α : Type} (f : Nat → Option α) (n : Nat) : ((List.range n).filterMap f).length ≤ n := by
 have := List.length_filterMap_le f (List.range n)
 simpa using this
theorem fm_succ {α : Type} (f : Nat → Option α) (n : Nat) : (List.range (n + 1)).filterMap f = (List.range n).filterMap f ++ (f n).toList := by
 rw [List.range_succ, List.filterMap_append]
 congr 1
end Go.D
set_option linter.unusedVariables false
namespace Go.D
def wrG (w : T_impl_Write) : Bool := inR w.fKey 0 4 && (rowOk w.fRow && !(w.fGone && decide (0 < w.fRow.length)))
def wrP (ws : List T_impl_Write) (i : Nat) : Bool := match ws[i]? with
 | some w => wrG w && (i == 0 || match ws[i - 1]? with | some u => decide (u.fKey < w.fKey) | none => true)
 | none => true
def wOk (ws : List T_impl_Write) : Bool := (List.range ws.length).all (wrP ws)
def SmWrs (ws : List T_impl_Write) : Prop := Sm ws.length ∧ ∀ w ∈ ws, SmR w.fRow
theorem ownR {a : List T_impl_Value} (h : SmR a) : spec_l3Own a = some a := by
 have := h.1
 unfold spec_l3Own
 rw [app_lt (by simp; omega), Option.bind_some]
 rfl
theorem spec_wOk {ws : List T_impl_Write} (h : SmWrs ws) : spec_WritesOk ws = some (wOk ws) := by
 have hl := h.1
 unfold spec_WritesOk wOk
 have := loop_idx (n := ws.length) (L := spec_WritesOk_l0 ws) (p := wrP ws) (fin := true) (by omega) (fun f i hi hw => by
  have hv : ws[i]? = some ws[i] := List.getElem?_eq_getElem hi
  have hg : getI ws (i : Int) = some ws[i] := by rw [getI_nat, hv]
  rw [spec_WritesOk_l0, decide_eq_true (by omega), cond_true, hg, Option.bind_some, spec_in, Option.bind_some, spec_rowOk (h.2 _ (List.getElem_mem hi)), Option.bind_some]
  unfold wrP wrG
  rw [hv]
  simp only
  have hlen : decide ((ws[i].fRow.length : Int) > 0) = decide (0 < ws[i].fRow.length) := decide_eq_decide.2 (by omega)
  rw [hlen]
  cases inR ws[i].fKey 0 4 with
  | false => rfl
  | true =>
   cases rowOk ws[i].fRow with
   | false => rfl
   | true =>
    simp only [Bool.not_true, cond_false, Bool.true_and]
    by_cases h0 : i = 0
    ·subst h0
     simp only [show decide (((0 : Nat) : Int) > 0) = false from rfl, cond_false, spec_WritesOk_j1, hw]
     cases ws[0].fGone <;> cases decide (0 < ws[0].fRow.length) <;> rfl
    ·have hi1 : i - 1 < ws.length := by omega
     have hw1 : w64 ((i : Int) - 1) = ((i - 1 : Nat) : Int) := by rw [w64_of (by omega) (by omega)]; omega
     have hv1 : ws[i - 1]? = some ws[i - 1] := List.getElem?_eq_getElem hi1
     have e0 : (i == 0) = false := by simpa using h0
     have hge : decide (ws[i - 1].fKey ≥ ws[i].fKey) = !(decide (ws[i - 1].fKey < ws[i].fKey)) := by
      rw [← decide_not]
      exact decide_eq_decide.2 (by omega)
     simp only [decide_eq_true (show (i : Int) > 0 by omega), cond_true, hw1, getI_nat, hv1, Option.bind_some, e0, Bool.false_or, spec_WritesOk_j1, hw, hge]
     cases ws[i].fGone <;> cases decide (0 < ws[i].fRow.length) <;> cases decide (ws[i - 1].fKey < ws[i].fKey) <;> rfl)
  (fun f => by rw [spec_WritesOk_l0, decide_eq_false (Int.lt_irrefl _), cond_false])
 rw [this, Bool.and_true]
def lastT (xs : List T_impl_Version) (k : Int) : Int := xs.foldl (fun n v => bif v.fKey == k then maxL n [v.fBorn, v.fDied] else n) 0
theorem spec_last {xs : List T_impl_Version} (h : SmVers xs) (k : Int) : spec_LastTurn xs k = some (bif vOk xs then lastT xs k else 0) := by
 have hl := h.1
 unfold spec_LastTurn
 cases hv : vOk xs with
 | false =>
  rw [cond_false, spec_LastTurn_l0.eq_def]
  show (bif _ then _ else _) = _
  rw [spec_vOk h, Option.bind_some, hv]
  cases decide ((0 : Int) < xs.length) <;> rfl
 | true =>
  rw [cond_true]
  have := loop_opt (xs := xs) (L := fun f i (s : Int) => spec_LastTurn_l0 xs k f s i) (fun rest s => some (rest.foldl (fun n v => bif v.fKey == k then maxL n [v.fBorn, v.fDied] else n) s)) (fun _ _ => True) (by omega)
   (fun f i s v hi hvi hw _ => .inr ⟨bif v.fKey == k then maxL s [v.fBorn, v.fDied] else s, trivial, by
    rw [spec_LastTurn_l0, decide_eq_true (by omega), cond_true, spec_vOk h, hv, Option.bind_some, spec_LastTurn_j1, cond_true, getI_nat, hvi, Option.bind_some]
    cases v.fKey == k
    ·rw [cond_false, cond_false, spec_LastTurn_j2, hw]
    ·rw [cond_true, cond_true, Option.bind_some, Option.bind_some, spec_LastTurn_j2, hw], by rw [List.foldl_cons]⟩)
   (fun f s _ => by rw [spec_LastTurn_l0, decide_eq_false (Int.lt_irrefl _), cond_false, spec_LastTurn_j1, cond_false]; rfl) (s := 0) trivial
  exact this
def newV (w : T_impl_Write) (t : Int) : T_impl_Version := ⟨w.fKey, t, 0, w.fRow⟩
def closeV (w : T_impl_Write) (t : Int) (v : T_impl_Version) : T_impl_Version := bif v.fKey == w.fKey && v.fDied == 0 then { v with fDied := t } else v
def putR (w : T_impl_Write) (t : Int) : Bool → List T_impl_Version → List T_impl_Version
 | d, [] => bif d then [] else [newV w t]
 | d, v :: r => bif decide (v.fKey > w.fKey) && !d then newV w t :: closeV w t v :: putR w t true r else closeV w t v :: putR w t d r
def writtenV (xs : List T_impl_Version) (ws : List T_impl_Write) (t : Int) : List T_impl_Version := ws.foldl (fun ys w => putR w t w.fGone ys) xs
theorem closeV_row (w : T_impl_Write) (t : Int) (v : T_impl_Version) : (closeV w t v).fRow = v.fRow := by
 unfold closeV
 cases v.fKey == w.fKey && v.fDied == 0 <;> rfl
theorem putR_len (w : T_impl_Write) (t : Int) : ∀ (d : Bool) (xs : List T_impl_Version), (putR w t d xs).length ≤ xs.length + 1 ∧ (d = true → (putR w t d xs).length = xs.length)
 | true, [] => ⟨by simp [putR], fun _ => rfl⟩
 | false, [] => ⟨by simp [putR], fun h => by cases h⟩
 | d, v :: r => by
  obtain ⟨h1, h2⟩ := putR_len w t true r
  obtain ⟨h3, h4⟩ := putR_len w t d r
  have h2 := h2 rfl
  unfold putR
  cases d with
  | true =>
   have h4 := h4 rfl
   rw [Bool.not_true, Bool.and_false, cond_false]
   simp only [List.length_cons]
   omega
  | false =>
   cases decide (v.fKey > w.fKey)
   ·simp only [Bool.false_and, cond_false, List.length_cons]
    exact ⟨by omega, fun h => by cases h⟩
   ·simp only [Bool.not_false, Bool.true_and, cond_true, List.length_cons]
    exact ⟨by omega, fun h => by cases h⟩
theorem putR_rows {Q : List T_impl_Value → Prop} (w : T_impl_Write) (t : Int) (hw : Q w.fRow) : ∀ (d : Bool) (xs : List T_impl_Version), (∀ v ∈ xs, Q v.fRow) → ∀ v ∈ putR w t d xs, Q v.fRow
 | true, [], _, v, hv => by cases hv
 | false, [], _, v, hv => by
  have : v = newV w t := by simpa [putR] using hv
  rw [this]
  exact hw
 | d, u :: r, h, v, hv => by
  have hu : Q (closeV w t u).fRow := by rw [closeV_row]; exact h u (by simp)
  have hr := fun d => putR_rows w t hw d r fun v hv => h v (List.mem_cons_of_mem _ hv)
  unfold putR at hv
  cases hc : decide (u.fKey > w.fKey) && !d with
  | true =>
   rw [hc, cond_true, List.mem_cons, List.mem_cons] at hv
   rcases hv with rfl | rfl | hv
   ·exact hw
   ·exact hu
   ·exact hr _ v hv
  | false =>
   rw [hc, cond_false, List.mem_cons] at hv
   rcases hv with rfl | hv
   ·exact hu
   ·exact hr _ v hv
theorem written_small {Q : List T_impl_Value → Prop} (t : Int) : ∀ (ws : List T_impl_Write) (xs : List T_impl_Version), (∀ w ∈ ws, Q w.fRow) → (∀ v ∈ xs, Q v.fRow) → (writtenV xs ws t).length ≤ xs.length + ws.length ∧ ∀ v ∈ writtenV xs ws t, Q v.fRow
 | [], xs, _, hx => ⟨Nat.le_refl _, hx⟩
 | w :: ws, xs, hw, hx => by
  have h1 := (putR_len w t w.fGone xs).1
  have h2 := putR_rows w t (hw w (by simp)) w.fGone xs hx
  obtain ⟨h3, h4⟩ := written_small t ws (putR w t w.fGone xs) (fun u hu => hw u (List.mem_cons_of_mem _ hu)) h2
  refine ⟨?_, h4⟩
  show (writtenV (putR w t w.fGone xs) ws t).length ≤ _
  simp only [List.length_cons]
  omega
end Go.D
set_option linter.unusedVariables false
namespace Go.D
theorem spec_put {xs : List T_impl_Version} {w : T_impl_Write} (hx : xs.length ≤ 3000000) (hw : SmR w.fRow) (t : Int) : spec_l13Written xs w t = some (putR w t w.fGone xs) := by
 unfold spec_l13Written
 have := loop_opt (xs := xs) (L := fun f i (s : Bool × List T_impl_Version) => spec_l13Written_l0 xs w t f s.1 i s.2) (fun rest s => some (s.2 ++ putR w t s.1 rest)) (fun i s => s.2.length ≤ 2 * i) (by omega)
  (fun f i s v hi hv hw' hI => by
   obtain ⟨d, out⟩ := s
   simp only at hI ⊢
   have key : ∀ (d' : Bool) (o : List T_impl_Version), o.length ≤ 2 * i + 1 → spec_l13Written_j1 w t (i : Int) (spec_l13Written_l0 xs w t f) v d' o = spec_l13Written_l0 xs w t f d' ((i + 1 : Nat) : Int) (o ++ [closeV w t v]) := by
    intro d' o ho
    unfold spec_l13Written_j1 spec_l13Written_j3 spec_l13Written_j2 closeV
    cases v.fKey == w.fKey <;> cases v.fDied == 0 <;> simp only [cond_true, cond_false, Bool.and_true, Bool.and_false] <;> rw [app_lt (by simp; omega), Option.bind_some, hw']
   rw [spec_l13Written_l0, decide_eq_true (by omega), cond_true, getI_nat, hv, Option.bind_some]
   have j4 : ∀ b, spec_l13Written_j4 w t d (i : Int) out (spec_l13Written_l0 xs w t f) v b = bif b then spec_l13Written_l0 xs w t f true ((i + 1 : Nat) : Int) (out ++ [newV w t] ++ [closeV w t v]) else spec_l13Written_l0 xs w t f d ((i + 1 : Nat) : Int) (out ++ [closeV w t v]) := by
    intro b
    unfold spec_l13Written_j4
    cases b with
    | false => rw [cond_false, cond_false, key _ _ (by omega)]
    | true => rw [cond_true, cond_true, ownR hw, Option.bind_some, app_lt (by simp; omega), Option.bind_some, key _ _ (by simp; omega)]; rfl
   refine .inr ⟨bif decide (v.fKey > w.fKey) && !d then (true, out ++ [newV w t] ++ [closeV w t v]) else (d, out ++ [closeV w t v]), ?_, ?_, ?_⟩
   ·cases decide (v.fKey > w.fKey) && !d <;> simp <;> omega
   ·simp only [j4]
    cases decide (v.fKey > w.fKey) <;> cases d <;> rfl
   ·simp only [putR]
    cases decide (v.fKey > w.fKey) <;> cases d <;> simp)
  (fun f s hI => by
   obtain ⟨d, out⟩ := s
   simp only at hI ⊢
   rw [spec_l13Written_l0, decide_eq_false (Int.lt_irrefl _), cond_false]
   cases d with
   | true => simp [putR]
   | false =>
    rw [Bool.not_false, cond_true, ownR hw, Option.bind_some, app_lt (by simp; omega), Option.bind_some]
    rfl) (s := (w.fGone, [])) (by simp)
 exact this
theorem spec_copyV {xs : List T_impl_Version} (h : SmVers xs) : spec_l13Copy xs = some xs := by
 have hl := h.1
 unfold spec_l13Copy
 have := loop_opt (xs := xs) (L := fun f i (s : List T_impl_Version) => spec_l13Copy_l0 xs f i s) (fun rest s => some (s ++ rest)) (fun i s => s.length = i) (by omega)
  (fun f i s v hi hv hw hI => .inr ⟨s ++ [v], by simp; omega, by
   rw [spec_l13Copy_l0, decide_eq_true (by omega), cond_true, getI_nat, hv, Option.bind_some, ownR (h.2 v (List.mem_of_getElem? hv)), Option.bind_some, app_lt (by simp; omega), Option.bind_some, hw], by simp⟩)
  (fun f s hI => by rw [spec_l13Copy_l0, decide_eq_false (Int.lt_irrefl _), cond_false]; simp) (s := []) rfl
 simpa using this
def wrAt (xs : List T_impl_Version) (ws : List T_impl_Write) (t : Int) : List T_impl_Version × Bool :=
 bif vOk xs && (wOk ws && (inR t 1 40 && ((List.range 5).all (fun k => decide (lastT xs (k : Int) < t)) && decide ((writtenV xs ws t).length ≤ 60)))) then (writtenV xs ws t, true) else ([], false)
theorem spec_written {ws : List T_impl_Write} (hw : SmWrs ws) (t : Int) {xs : List T_impl_Version} (hx : xs.length + ws.length ≤ 3000000) : spec_WrittenAt_l2 ws t FUEL xs 0 = some (bif decide ((writtenV xs ws t).length ≤ 60) then (writtenV xs ws t, true) else ([], false)) := by
 have hl := hw.1
 have := loop_opt (xs := ws) (L := fun f i (s : List T_impl_Version) => spec_WrittenAt_l2 ws t f s i) (fun rest s => some (bif decide ((writtenV s rest t).length ≤ 60) then (writtenV s rest t, true) else ([], false))) (fun i s => s.length ≤ xs.length + i) (by omega)
  (fun f i s v hi hv hw' hI => .inr ⟨putR v t v.fGone s, by have := (putR_len v t v.fGone s).1; omega, by
   rw [spec_WrittenAt_l2, decide_eq_true (by omega), cond_true, getI_nat, hv, Option.bind_some, spec_put (by omega) (hw.2 v (List.mem_of_getElem? hv)), Option.bind_some, hw'], rfl⟩)
  (fun f s hI => by
   rw [spec_WrittenAt_l2, decide_eq_false (Int.lt_irrefl _), cond_false]
   have e : decide ((s.length : Int) > 60) = !(decide (s.length ≤ 60)) := by
    rw [← decide_not]
    exact decide_eq_decide.2 (by omega)
   rw [e]
   show _ = some (bif decide (s.length ≤ 60) then (s, true) else ([], false))
   cases decide (s.length ≤ 60) <;> rfl) (s := xs) (by omega)
 exact this
theorem spec_wrAt {xs : List T_impl_Version} {ws : List T_impl_Write} (h : SmVers xs) (hw : SmWrs ws) (hs : xs.length + ws.length ≤ 3000000) (t : Int) : spec_WrittenAt xs ws t = some (wrAt xs ws t) := by
 have hj : ∀ b, spec_WrittenAt_j0 xs ws t b = bif b then some ([], false) else spec_WrittenAt_l1 xs ws t FUEL 0 := fun _ => rfl
 unfold spec_WrittenAt wrAt
 rw [spec_vOk h, Option.bind_some, spec_wOk hw, Option.bind_some, spec_in, Option.bind_some]
 simp only [hj]
 cases hv : vOk xs with
 | false => rfl
 | true =>
  cases wOk ws with
  | false => rfl
  | true =>
   cases inR t 1 40 with
   | false => rfl
   | true =>
    simp only [Bool.not_true, cond_false, Bool.true_and]
    have := loop_opt (xs := List.range 5) (L := fun f i (_ : Unit) => spec_WrittenAt_l1 xs ws t f i)
     (fun rest _ => bif rest.all (fun k => decide (lastT xs (k : Int) < t)) then some (bif decide ((writtenV xs ws t).length ≤ 60) then (writtenV xs ws t, true) else ([], false)) else some ([], false)) (fun _ _ => True) (by simp)
     (fun f i s v hi hvi hw' _ => by
      have hi5 : i < 5 := by simpa using hi
      have ev : v = i := by
       rw [List.getElem?_range hi5] at hvi
       exact (Option.some.inj hvi).symm
      subst ev
      have e : decide (lastT xs (v : Int) ≥ t) = !(decide (lastT xs (v : Int) < t)) := by
       rw [← decide_not]
       exact decide_eq_decide.2 (by omega)
      cases hc : decide (lastT xs (v : Int) < t) with
      | false =>
       refine .inl ?_
       rw [spec_WrittenAt_l1, decide_eq_true (by omega), cond_true, spec_last h, hv, cond_true, Option.bind_some, e, hc]
       simp [hc]
      | true =>
       refine .inr ⟨(), trivial, ?_, ?_⟩
       ·rw [spec_WrittenAt_l1, decide_eq_true (by omega), cond_true, spec_last h, hv, cond_true, Option.bind_some, e, hc, hw']
        rfl
       ·simp [hc])
     (fun f s _ => by
      show spec_WrittenAt_l1 xs ws t (f + 1) (((List.range 5).length : Nat) : Int) = _
      rw [List.length_range, spec_WrittenAt_l1, decide_eq_false (by omega), cond_false, spec_copyV h, Option.bind_some, spec_written hw t hs]
      rfl) (s := ()) trivial
    rw [this]
    cases (List.range 5).all (fun k => decide (lastT xs (k : Int) < t)) <;> rfl
end Go.D
namespace Go.D
theorem half_of {x : Int} (h0 : 0 ≤ x) (h1 : x < 4611686018427387904) : w64 (shrU (u64 x) 1) = x / 2 := by
 unfold shrU u64
 have e1 : Go.IntKind.wrap .u64 x = x := by
  simp [Go.IntKind.wrap, Go.IntKind.bits]
  omega
 rw [e1]
 have e2 : min (Int.toNat 1) (Go.IntKind.bits .u64) = 1 := by decide
 rw [e2]
 have : x.fdiv (2 ^ 1) = x / 2 := by
  rw [Int.fdiv_eq_ediv_of_nonneg]
  ·rfl
  ·decide
 rw [this, w64_of (by omega) (by omega)]
end Go.D
set_option linter.unusedVariables false
namespace Go.D
theorem set_at {α : Type} (A : List α) (x y : α) (B : List α) : (A ++ x :: B).set A.length y = A ++ y :: B := by
 rw [List.set_append_right _ _ (Nat.le_refl _), Nat.sub_self]
 rfl
theorem getI_at {α : Type} (A : List α) (x : α) (B : List α) : getI (A ++ x :: B) (A.length : Int) = some x := by
 rw [getI_nat, List.getElem?_append_right (Nat.le_refl _), Nat.sub_self]
 rfl
theorem swap_at {α : Type} (A : List α) (x : α) (M : List α) (y : α) (B : List α) : ((A ++ x :: M ++ y :: B).set A.length y).set (A.length + 1 + M.length) x = A ++ y :: M ++ x :: B := by
 have e1 : A ++ x :: M ++ y :: B = A ++ x :: (M ++ y :: B) := by simp
 rw [e1, set_at]
 have e2 : A ++ y :: (M ++ y :: B) = (A ++ y :: M) ++ y :: B := by simp
 have e3 : A.length + 1 + M.length = (A ++ y :: M).length := by simp; omega
 rw [e2, e3, set_at]
theorem get_1 {α : Type} (A : List α) (x : α) (M : List α) (y : α) (B : List α) {i : Int} (hi : i = A.length) : getI (A ++ x :: M ++ y :: B) i = some x := by
 have e1 : A ++ x :: M ++ y :: B = A ++ x :: (M ++ y :: B) := by simp
 rw [hi, e1, getI_at]
theorem get_2 {α : Type} (A : List α) (x : α) (M : List α) (y : α) (B : List α) {i : Int} (hi : i = ((A.length + 1 + M.length : Nat) : Int)) : getI (A ++ x :: M ++ y :: B) i = some y := by
 have e3 : A.length + 1 + M.length = (A ++ x :: M).length := by simp; omega
 rw [hi, e3, getI_at]
theorem get_3 {α : Type} (A : List α) (x : α) (M : List α) (y z : α) (B : List α) {i : Int} (hi : i = ((A.length + 1 + M.length : Nat) : Int)) : ∃ w, getI ((A ++ x :: M ++ y :: B).set A.length z) i = some w := by
 rw [hi, getI_nat, List.getElem?_set_ne (by omega)]
 exact ⟨y, by rw [← getI_nat]; exact get_2 A x M y B rfl⟩
theorem swap_to {α : Type} (A : List α) (x : α) (M : List α) (y : α) (B : List α) {i j : Nat} (hi : i = A.length) (hj : j = A.length + 1 + M.length) : ((A ++ x :: M ++ y :: B).set i y).set j x = A ++ y :: M ++ x :: B := by
 subst hi hj
 exact swap_at A x M y B
theorem swap_back {α : Type} (A : List α) (x : α) (M : List α) (y : α) (B : List α) {i j : Nat} (hi : i = A.length) (hj : j = A.length + 1 + M.length) : ((A ++ x :: M ++ y :: B).set j x).set i y = A ++ y :: M ++ x :: B := by
 rw [List.set_comm _ _ (by omega)]
 exact swap_to A x M y B hi hj
section
variable (cmp : T_impl_Version → T_impl_Version → Option Int)
theorem sw_ok (A B M : List T_impl_Version) (X Y : List T_impl_Version) (h : X.length = Y.length) (hn : (A ++ X ++ M ++ Y ++ B).length < 1000000000) :
  slices_swapRangeCmpFunc_impl_Version (A ++ X ++ M ++ Y ++ B) (A.length : Int) ((A.length + X.length + M.length : Nat) : Int) (X.length : Int) cmp = some (A ++ Y ++ M ++ X ++ B) := by
 have main : ∀ (k f : Nat) (X1 Y1 X2 Y2 : List T_impl_Version), X2.length = k → Y2.length = k → X1.length = Y1.length → X1.length + k = X.length → k < f → (A ++ Y1 ++ X2 ++ M ++ X1 ++ Y2 ++ B).length < 1000000000 →
   slices_swapRangeCmpFunc_impl_Version_l0 (A.length : Int) ((A.length + X.length + M.length : Nat) : Int) (X.length : Int) f (X1.length : Int) (A ++ Y1 ++ X2 ++ M ++ X1 ++ Y2 ++ B) = some (A ++ Y1 ++ Y2 ++ M ++ X1 ++ X2 ++ B) := by
  intro k
  induction k with
  | zero =>
   intro f X1 Y1 X2 Y2 h1 h2 h3 h4 hf hl
   obtain ⟨f, rfl⟩ : ∃ f', f = f' + 1 := ⟨f - 1, by omega⟩
   have e1 := List.eq_nil_of_length_eq_zero h1
   have e2 := List.eq_nil_of_length_eq_zero h2
   subst e1 e2
   rw [slices_swapRangeCmpFunc_impl_Version_l0, decide_eq_false (by omega), cond_false]
  | succ k ih =>
   intro f X1 Y1 X2 Y2 h1 h2 h3 h4 hf hl
   obtain ⟨f, rfl⟩ : ∃ f', f = f' + 1 := ⟨f - 1, by omega⟩
   match X2, Y2, h1, h2 with
   | x :: X2, y :: Y2, h1, h2 =>
    simp only [List.length_cons, Nat.add_right_cancel_iff] at h1 h2
    have es : A ++ Y1 ++ (x :: X2) ++ M ++ X1 ++ (y :: Y2) ++ B = (A ++ Y1) ++ x :: (X2 ++ M ++ X1) ++ y :: (Y2 ++ B) := by simp
    rw [es]
    simp only [List.length_append, List.length_cons] at hl
    have w1 : w64 ((A.length : Int) + (X1.length : Int)) = (((A ++ Y1).length : Nat) : Int) := by rw [w64_of (by omega) (by omega), List.length_append]; omega
    have w2 : w64 (((A.length + X.length + M.length : Nat) : Int) + (X1.length : Int)) = (((A ++ Y1).length + 1 + (X2 ++ M ++ X1).length : Nat) : Int) := by rw [w64_of (by omega) (by omega)]; simp only [List.length_append]; omega
    have w3 : w64 ((X1.length : Int) + 1) = (((X1 ++ [x]).length : Nat) : Int) := by rw [w64_of (by omega) (by omega)]; simp
    obtain ⟨q, hq⟩ := get_3 (A ++ Y1) x (X2 ++ M ++ X1) y y (Y2 ++ B) rfl
    rw [slices_swapRangeCmpFunc_impl_Version_l0, decide_eq_true (by omega), cond_true, w1, w2, w3, get_2 (A ++ Y1) x _ y _ rfl, Option.bind_some, get_1 (A ++ Y1) x _ y _ rfl, Option.bind_some, Option.bind_some, Int.toNat_natCast, Int.toNat_natCast, hq, Option.bind_some, swap_at]
    have e4 : (A ++ Y1) ++ y :: (X2 ++ M ++ X1) ++ x :: (Y2 ++ B) = A ++ (Y1 ++ [y]) ++ X2 ++ M ++ (X1 ++ [x]) ++ Y2 ++ B := by simp
    rw [e4, ih f (X1 ++ [x]) (Y1 ++ [y]) X2 Y2 h1 h2 (by simp; omega) (by simp; omega) (by omega) (by simp; omega)]
    simp
 have := main X.length FUEL [] [] X Y rfl h.symm rfl (by simp) (by unfold FUEL; simp only [List.length_append] at hn; omega) (by simpa using hn)
 unfold slices_swapRangeCmpFunc_impl_Version slices_swapRangeCmpFunc_impl_Version_w
 simp only [List.append_nil, List.length_nil, Int.ofNat_eq_natCast, Int.cast_ofNat_Int] at this
 rw [this, Option.bind_some]
 have e : ((A ++ Y ++ M ++ X ++ B).length == (A ++ X ++ M ++ Y ++ B).length) = true := by simp; omega
 rw [e, cond_true]
theorem ro_ok (A U V B : List T_impl_Version) (hU : U ≠ []) (hV : V ≠ []) (hn : (A ++ U ++ V ++ B).length < 1000000000) :
  slices_rotateCmpFunc_impl_Version (A ++ U ++ V ++ B) (A.length : Int) ((A.length + U.length : Nat) : Int) ((A.length + U.length + V.length : Nat) : Int) cmp = some (A ++ V ++ U ++ B) := by
 have main : ∀ (k f : Nat) (A U V B : List T_impl_Version), U ≠ [] → V ≠ [] → U.length + V.length ≤ k → k < f → (A ++ U ++ V ++ B).length < 1000000000 →
   slices_rotateCmpFunc_impl_Version_l0 ((A.length + U.length : Nat) : Int) cmp f (U.length : Int) (V.length : Int) (A ++ U ++ V ++ B) = some (A ++ V ++ U ++ B) := by
  intro k
  induction k with
  | zero =>
   intro f A U V B hU _ hk
   exact absurd (List.eq_nil_of_length_eq_zero (by omega)) hU
  | succ k ih =>
   intro f A U V B hU hV hk hf hl
   obtain ⟨f, rfl⟩ : ∃ f', f = f' + 1 := ⟨f - 1, by omega⟩
   have pU := List.length_pos_iff.2 hU
   have pV := List.length_pos_iff.2 hV
   have hl' := hl
   simp only [List.length_append] at hl'
   have w1 : w64 (((A.length + U.length : Nat) : Int) - (U.length : Int)) = (A.length : Int) := by rw [w64_of (by omega) (by omega)]; omega
   rw [slices_rotateCmpFunc_impl_Version_l0]
   by_cases he : U.length = V.length
   ·have e : ((U.length : Int) == (V.length : Int)) = true := by rw [he]; simp
    rw [e, Bool.not_true, cond_false, w1]
    have := sw_ok cmp A B [] U V he (by simpa using hl)
    simp only [List.append_nil, List.length_nil, Nat.add_zero] at this
    rw [this, Option.bind_some]
   ·have e : ((U.length : Int) == (V.length : Int)) = false := beq_eq_false_iff_ne.2 (by omega)
    rw [e, Bool.not_false, cond_true]
    by_cases hgt : V.length < U.length
    ·rw [decide_eq_true (show (U.length : Int) > (V.length : Int) by omega), cond_true, w1]
     have eU : U = U.take V.length ++ U.drop V.length := (List.take_append_drop _ _).symm
     have l1 : (U.take V.length).length = V.length := by rw [List.length_take]; omega
     have l2 : (U.drop V.length).length = U.length - V.length := List.length_drop
     generalize U.take V.length = U1 at eU l1
     generalize U.drop V.length = U2 at eU l2
     subst eU
     rw [List.length_append] at l2 hgt
     have := sw_ok cmp A B U2 U1 V l1 (by simp only [List.length_append] at hl' ⊢; omega)
     have ea : A ++ (U1 ++ U2) ++ V ++ B = A ++ U1 ++ U2 ++ V ++ B := by simp
     have eb : ((A.length + (U1 ++ U2).length : Nat) : Int) = ((A.length + U1.length + U2.length : Nat) : Int) := by rw [List.length_append]; omega
     rw [ea, eb, ← l1, this, Option.bind_some]
     have w2 : w64 (((U1 ++ U2).length : Int) - (U1.length : Int)) = (U2.length : Int) := by rw [w64_of (by simp only [List.length_append]; omega) (by simp only [List.length_append]; omega), List.length_append]; omega
     rw [w2]
     have pU2 : U2 ≠ [] := List.length_pos_iff.1 (by omega)
     have pU1 : U1 ≠ [] := List.length_pos_iff.1 (by omega)
     have := ih f (A ++ V) U2 U1 B pU2 pU1 (by simp only [List.length_append] at hk; omega) (by omega) (by simp only [List.length_append] at hl' ⊢; omega)
     have ec : (((A ++ V).length + U2.length : Nat) : Int) = ((A.length + U1.length + U2.length : Nat) : Int) := by rw [List.length_append]; omega
     rw [ec] at this
     rw [this]
     simp
    ·rw [decide_eq_false (show ¬ (U.length : Int) > (V.length : Int) by omega), cond_false, w1]
     have eV : V = V.take (V.length - U.length) ++ V.drop (V.length - U.length) := (List.take_append_drop _ _).symm
     have l1 : (V.take (V.length - U.length)).length = V.length - U.length := by rw [List.length_take]; omega
     have l2 : (V.drop (V.length - U.length)).length = U.length := by rw [List.length_drop]; omega
     generalize V.take (V.length - U.length) = V1 at eV l1
     generalize V.drop (V.length - U.length) = V2 at eV l2
     subst eV
     rw [List.length_append] at l1 hgt he
     have := sw_ok cmp A B V1 U V2 l2.symm (by simp only [List.length_append] at hl' ⊢; omega)
     have ea : A ++ U ++ (V1 ++ V2) ++ B = A ++ U ++ V1 ++ V2 ++ B := by simp
     have w3 : w64 (w64 (((A.length + U.length : Nat) : Int) + ((V1 ++ V2).length : Int)) - (U.length : Int)) = ((A.length + U.length + V1.length : Nat) : Int) := by
      rw [w64_of (n := ((A.length + U.length : Nat) : Int) + ((V1 ++ V2).length : Int)) (by simp only [List.length_append]; omega) (by simp only [List.length_append] at hl' ⊢; omega)]
      rw [w64_of (by simp only [List.length_append]; omega) (by simp only [List.length_append] at hl' ⊢; omega), List.length_append]
      omega
     rw [ea, w3, this, Option.bind_some]
     have w2 : w64 (((V1 ++ V2).length : Int) - (U.length : Int)) = (V1.length : Int) := by rw [w64_of (by simp only [List.length_append]; omega) (by simp only [List.length_append] at hl' ⊢; omega), List.length_append]; omega
     rw [w2]
     have pV2 : V2 ≠ [] := List.length_pos_iff.1 (by omega)
     have pV1 : V1 ≠ [] := List.length_pos_iff.1 (by omega)
     have := ih f A V2 V1 (U ++ B) pV2 pV1 (by simp only [List.length_append] at hk; omega) (by omega) (by simp only [List.length_append] at hl' ⊢; omega)
     rw [l2] at this
     have ed : A ++ V2 ++ V1 ++ U ++ B = A ++ V2 ++ V1 ++ (U ++ B) := by simp
     rw [ed, this]
     simp
 have hl' := hn
 simp only [List.length_append] at hl'
 have := main (U.length + V.length) FUEL A U V B hU hV (Nat.le_refl _) (by unfold FUEL; omega) hn
 unfold slices_rotateCmpFunc_impl_Version slices_rotateCmpFunc_impl_Version_w
 have w1 : w64 (((A.length + U.length : Nat) : Int) - (A.length : Int)) = (U.length : Int) := by rw [w64_of (by omega) (by omega)]; omega
 have w2 : w64 (((A.length + U.length + V.length : Nat) : Int) - ((A.length + U.length : Nat) : Int)) = (V.length : Int) := by rw [w64_of (by omega) (by omega)]; omega
 rw [w1, w2, this, Option.bind_some]
 have e : ((A ++ V ++ U ++ B).length == (A ++ U ++ V ++ B).length) = true := by simp; omega
 rw [e, cond_true]
end
end Go.D
set_option linter.unusedVariables false
namespace Go.D
def Asc {α : Type} (cf : α → α → Int) (xs : List α) : Prop := xs.Pairwise fun a b => cf a b ≤ 0
section
variable {cf : T_impl_Version → T_impl_Version → Int} {F : T_impl_Version → T_impl_Version → Option Int} (hF : ∀ x y, F x y = some (cf x y)) (hO : Ord3 cf)
include hF hO
theorem in_step (A L R T : List T_impl_Version) (x : T_impl_Version) (k : Int) (hx : ∀ r ∈ R, cf x r ≤ 0) (hs : Asc cf (L ++ R)) (K : Int → List T_impl_Version → Option (List T_impl_Version)) (hn : (A ++ L ++ x :: R ++ T).length < 1000000000) :
  ∀ f, L.length < f → ∃ W, slices_insertionSortCmpFunc_impl_Version_l1 (A.length : Int) F k K f ((A.length + L.length : Nat) : Int) (A ++ L ++ x :: R ++ T) = K (w64 (k + 1)) (A ++ W ++ T) ∧ W.Perm (x :: (L ++ R)) ∧ Asc cf W := by
 have main : ∀ (m : Nat) (L R : List T_impl_Version), L.length = m → (∀ r ∈ R, cf x r ≤ 0) → Asc cf (L ++ R) → (A ++ L ++ x :: R ++ T).length < 1000000000 → ∀ f, L.length < f →
   ∃ W, slices_insertionSortCmpFunc_impl_Version_l1 (A.length : Int) F k K f ((A.length + L.length : Nat) : Int) (A ++ L ++ x :: R ++ T) = K (w64 (k + 1)) (A ++ W ++ T) ∧ W.Perm (x :: (L ++ R)) ∧ Asc cf W := by
  intro m
  induction m with
  | zero =>
   intro L R hL hx hs hn f hf
   obtain ⟨f, rfl⟩ : ∃ f', f = f' + 1 := ⟨f - 1, by omega⟩
   have := List.eq_nil_of_length_eq_zero hL
   subst this
   refine ⟨x :: R, ?_, List.Perm.refl _, ?_⟩
   ·rw [slices_insertionSortCmpFunc_impl_Version_l1, decide_eq_false (by simp), cond_false, slices_insertionSortCmpFunc_impl_Version_j2, cond_false]
    simp
   ·exact List.pairwise_cons.2 ⟨hx, hs⟩
  | succ m ih =>
   intro L R hL hx hs hn f hf
   obtain ⟨f, rfl⟩ : ∃ f', f = f' + 1 := ⟨f - 1, by omega⟩
   have hne : L ≠ [] := fun e => by rw [e] at hL; cases hL
   obtain ⟨L', y, rfl⟩ : ∃ L' y, L = L' ++ [y] := ⟨L.dropLast, L.getLast hne, (List.dropLast_concat_getLast hne).symm⟩
   have hL' : L'.length = m := by simpa using hL
   simp only [List.length_append, List.length_cons, List.length_nil] at hn
   have e1 : A ++ (L' ++ [y]) ++ x :: R ++ T = (A ++ L') ++ y :: [] ++ x :: (R ++ T) := by simp
   have w1 : w64 (((A.length + (L' ++ [y]).length : Nat) : Int) - 1) = (((A ++ L').length : Nat) : Int) := by rw [w64_of (by simp; omega) (by simp; omega)]; simp; omega
   have p2 : ((A.length + (L' ++ [y]).length : Nat) : Int) = (((A ++ L').length + 1 + ([] : List T_impl_Version).length : Nat) : Int) := by simp; omega
   obtain ⟨q, hq⟩ := get_3 (A ++ L') y [] x x (R ++ T) rfl
   have hq' : ∃ q, getI ((((A ++ L') ++ y :: [] ++ x :: (R ++ T))).set (((A ++ L').length + 1 + ([] : List T_impl_Version).length : Nat)) y) (((A ++ L').length : Nat) : Int) = some q := by
    rw [getI_nat, List.getElem?_set_ne (by simp)]
    exact ⟨y, by rw [← getI_nat]; exact get_1 (A ++ L') y [] x (R ++ T) rfl⟩
   obtain ⟨q2, hq2⟩ := hq'
   rw [e1, slices_insertionSortCmpFunc_impl_Version_l1, decide_eq_true (by simp; omega), cond_true, w1, p2, get_2 (A ++ L') y [] x _ rfl, Option.bind_some, get_1 (A ++ L') y [] x _ rfl, Option.bind_some, hF, Option.bind_some]
   by_cases hlt : cf x y < 0
   ·rw [decide_eq_true hlt, slices_insertionSortCmpFunc_impl_Version_j2, cond_true, ← p2, w1, p2, get_1 (A ++ L') y [] x _ rfl, Option.bind_some, get_2 (A ++ L') y [] x _ rfl, Option.bind_some, Option.bind_some, Int.toNat_natCast, hq2, Option.bind_some, Int.toNat_natCast,
     swap_back (A ++ L') y [] x _ rfl rfl]
    have hs' : Asc cf (L' ++ y :: R) := by simpa using hs
    have hsp := List.pairwise_append.1 hs'
    obtain ⟨W, h1, h2, h3⟩ := ih L' (y :: R) hL' (fun r hr => by
     rcases List.mem_cons.1 hr with rfl | hr
     ·omega
     ·exact hO.le _ _ _ (by omega) ((List.pairwise_cons.1 hsp.2.1).1 r hr)) hs' (by simp; omega) f (by simp at hf; omega)
    refine ⟨W, ?_, ?_, h3⟩
    ·have e2 : (A ++ L') ++ x :: [] ++ y :: (R ++ T) = A ++ L' ++ x :: (y :: R) ++ T := by simp
     rw [e2, List.length_append]
     exact h1
    ·simpa using h2
   ·refine ⟨(L' ++ [y]) ++ x :: R, ?_, ?_, ?_⟩
    ·rw [decide_eq_false hlt, slices_insertionSortCmpFunc_impl_Version_j2, cond_false]
     simp
    ·exact List.perm_middle
    ·have hyx : cf y x ≤ 0 := hO.ge (by omega)
     have hsp := List.pairwise_append.1 hs
     refine List.pairwise_append.2 ⟨hsp.1, List.pairwise_cons.2 ⟨hx, hsp.2.1⟩, fun a ha b hb => ?_⟩
     rcases List.mem_cons.1 hb with rfl | hb
     ·rcases List.mem_append.1 ha with ha | ha
      ·exact hO.le _ _ _ ((List.pairwise_append.1 hsp.1).2.2 a ha y (by simp)) hyx
      ·simp at ha
       rw [ha]
       exact hyx
     ·exact hsp.2.2 a ha b hb
 exact main L.length L R rfl hx hs hn
theorem in_ok (A S B : List T_impl_Version) (hn : (A ++ S ++ B).length < 1000000000) :
  ∃ W, slices_insertionSortCmpFunc_impl_Version (A ++ S ++ B) (A.length : Int) ((A.length + S.length : Nat) : Int) F = some (A ++ W ++ B) ∧ W.Perm S ∧ Asc cf W := by
 have main : ∀ (k f : Nat) (W Q : List T_impl_Version), Q.length = k → k < f → Asc cf W → (A ++ W ++ Q ++ B).length < 1000000000 → ((A.length + S.length : Nat) : Int) = ((A.length + W.length + Q.length : Nat) : Int) →
   ∃ W', slices_insertionSortCmpFunc_impl_Version_l0 (A.length : Int) ((A.length + S.length : Nat) : Int) F f ((A.length + W.length : Nat) : Int) (A ++ W ++ Q ++ B) = some (A ++ W' ++ B) ∧ W'.Perm (W ++ Q) ∧ Asc cf W' := by
  intro k
  induction k with
  | zero =>
   intro f W Q hQ hf hW hl he
   obtain ⟨f, rfl⟩ : ∃ f', f = f' + 1 := ⟨f - 1, by omega⟩
   have := List.eq_nil_of_length_eq_zero hQ
   subst this
   refine ⟨W, ?_, by simp, hW⟩
   rw [slices_insertionSortCmpFunc_impl_Version_l0, decide_eq_false (by rw [he]; simp), cond_false]
   simp
  | succ k ih =>
   intro f W Q hQ hf hW hl he
   obtain ⟨f, rfl⟩ : ∃ f', f = f' + 1 := ⟨f - 1, by omega⟩
   match Q, hQ with
   | x :: Q, hQ =>
    simp only [List.length_cons, Nat.add_right_cancel_iff] at hQ
    simp only [List.length_append, List.length_cons] at hl
    have e1 : A ++ W ++ x :: Q ++ B = A ++ W ++ x :: [] ++ (Q ++ B) := by simp
    obtain ⟨W1, h1, h2, h3⟩ := in_step hF hO A W [] (Q ++ B) x ((A.length + W.length : Nat) : Int) (by simp) (by simpa using hW) (slices_insertionSortCmpFunc_impl_Version_l0 (A.length : Int) ((A.length + S.length : Nat) : Int) F f) (by simp; omega) FUEL (by unfold FUEL; omega)
    have hw1 : W1.length = W.length + 1 := by rw [h2.length_eq]; simp
    have w1 : w64 (((A.length + W.length : Nat) : Int) + 1) = ((A.length + W1.length : Nat) : Int) := by rw [w64_of (by omega) (by omega)]; omega
    obtain ⟨W2, g1, g2, g3⟩ := ih f W1 Q hQ (by omega) h3 (by simp; omega) (by rw [he]; simp; omega)
    refine ⟨W2, ?_, ?_, g3⟩
    ·rw [e1, slices_insertionSortCmpFunc_impl_Version_l0, decide_eq_true (by rw [he]; simp; omega), cond_true, h1, w1]
     have e2 : A ++ W1 ++ (Q ++ B) = A ++ W1 ++ Q ++ B := by simp
     rw [e2]
     exact g1
    ·refine g2.trans ((h2.append_right Q).trans ?_)
     simp only [List.append_nil, List.cons_append]
     exact (List.perm_middle (l₁ := W) (a := x) (l₂ := Q)).symm
 unfold slices_insertionSortCmpFunc_impl_Version slices_insertionSortCmpFunc_impl_Version_w
 simp only [List.length_append] at hn
 cases S with
 | nil =>
  refine ⟨[], ?_, List.Perm.refl _, List.Pairwise.nil⟩
  have w1 : w64 ((A.length : Int) + 1) = (A.length : Int) + 1 := w64_of (by omega) (by omega)
  have : slices_insertionSortCmpFunc_impl_Version_l0 (A.length : Int) ((A.length + ([] : List T_impl_Version).length : Nat) : Int) F FUEL (w64 ((A.length : Int) + 1)) (A ++ [] ++ B) = some (A ++ [] ++ B) := by
   rw [w1]
   show slices_insertionSortCmpFunc_impl_Version_l0 (A.length : Int) ((A.length + ([] : List T_impl_Version).length : Nat) : Int) F (FUEL - 1 + 1) _ _ = _
   rw [slices_insertionSortCmpFunc_impl_Version_l0, decide_eq_false (by simp; omega), cond_false]
  rw [this, Option.bind_some, beq_self_eq_true, cond_true]
 | cons s S =>
  obtain ⟨W, h1, h2, h3⟩ := main S.length FUEL [s] S rfl (by unfold FUEL; simp only [List.length_cons] at hn; omega) (List.pairwise_singleton _ _) (by simp only [List.length_append, List.length_cons, List.length_nil] at hn ⊢; omega) (by simp; omega)
  refine ⟨W, ?_, by simpa using h2, h3⟩
  have w1 : w64 ((A.length : Int) + 1) = ((A.length + [s].length : Nat) : Int) := by rw [w64_of (by omega) (by omega)]; simp
  have e1 : A ++ (s :: S) ++ B = A ++ [s] ++ S ++ B := by simp
  have hl : W.length = S.length + 1 := by rw [h2.length_eq]; simp
  rw [w1, e1, h1, Option.bind_some]
  have e : ((A ++ W ++ B).length == (A ++ [s] ++ S ++ B).length) = true := by simp; omega
  rw [e, cond_true]
end
end Go.D
set_option linter.unusedVariables false
namespace Go.D
theorem half_nat {i j : Nat} (h : i + j < 2000000000) : w64 (shrU (u64 (w64 ((i : Int) + (j : Int)))) 1) = (((i + j) / 2 : Nat) : Int) := by
 have e : w64 ((i : Int) + (j : Int)) = (i : Int) + (j : Int) := w64_of (by omega) (by omega)
 rw [e, half_of (by omega) (by omega)]
 omega
section
variable {cf : T_impl_Version → T_impl_Version → Int} {F : T_impl_Version → T_impl_Version → Option Int} (hF : ∀ x y, F x y = some (cf x y)) (hO : Ord3 cf)
omit hF hO in
theorem mv_right (u : T_impl_Version) (T : List T_impl_Version) (A : List T_impl_Version) : ∀ (Y X : List T_impl_Version) (f : Nat), Y.length < f → (A ++ X ++ u :: Y ++ T).length < 1000000000 →
  slices_symMergeCmpFunc_impl_Version_l1 ((A.length + X.length + Y.length + 1 : Nat) : Int) f ((A.length + X.length : Nat) : Int) (A ++ X ++ u :: Y ++ T) = some (A ++ X ++ Y ++ u :: T)
 | [], X, f, hf, hn => by
  obtain ⟨f, rfl⟩ : ∃ f', f = f' + 1 := ⟨f - 1, by omega⟩
  have w1 : w64 (((A.length + X.length + ([] : List T_impl_Version).length + 1 : Nat) : Int) - 1) = ((A.length + X.length : Nat) : Int) := by simp only [List.length_append, List.length_cons, List.length_nil] at hn; rw [w64_of (by simp only [List.length_nil]; omega) (by simp only [List.length_nil]; omega)]; simp
  rw [slices_symMergeCmpFunc_impl_Version_l1, w1, decide_eq_false (by omega), cond_false]
  simp
 | y :: Y, X, f, hf, hn => by
  obtain ⟨f, rfl⟩ : ∃ f', f = f' + 1 := ⟨f - 1, by omega⟩
  simp only [List.length_append, List.length_cons] at hn hf
  have w1 : w64 (((A.length + X.length + (y :: Y).length + 1 : Nat) : Int) - 1) = ((A.length + X.length + Y.length + 1 : Nat) : Int) := by rw [w64_of (by simp only [List.length_cons]; omega) (by simp only [List.length_cons]; omega)]; simp only [List.length_cons]; omega
  have w2 : w64 (((A.length + X.length : Nat) : Int) + 1) = (((A ++ X).length + 1 + ([] : List T_impl_Version).length : Nat) : Int) := by rw [w64_of (by omega) (by omega)]; simp
  have p1 : ((A.length + X.length : Nat) : Int) = (((A ++ X).length : Nat) : Int) := by simp
  have e1 : A ++ X ++ u :: (y :: Y) ++ T = (A ++ X) ++ u :: [] ++ y :: (Y ++ T) := by simp
  obtain ⟨q, hq⟩ := get_3 (A ++ X) u [] y y (Y ++ T) rfl
  have e2 : (A ++ X) ++ y :: [] ++ u :: (Y ++ T) = A ++ (X ++ [y]) ++ u :: Y ++ T := by simp
  have p3 : ((A.length + X.length + (y :: Y).length + 1 : Nat) : Int) = ((A.length + (X ++ [y]).length + Y.length + 1 : Nat) : Int) := by simp; omega
  have p4 : (((A ++ X).length + 1 + ([] : List T_impl_Version).length : Nat) : Int) = ((A.length + (X ++ [y]).length : Nat) : Int) := by simp; omega
  have ih := mv_right u T A Y (X ++ [y]) f (by omega) (by simp; omega)
  rw [slices_symMergeCmpFunc_impl_Version_l1, w1, decide_eq_true (by omega), cond_true, w2, p1, e1, get_2 (A ++ X) u [] y _ rfl, Option.bind_some, get_1 (A ++ X) u [] y _ rfl, Option.bind_some, Option.bind_some, Int.toNat_natCast, hq, Option.bind_some, Int.toNat_natCast,
   swap_to (A ++ X) u [] y _ rfl rfl, e2, p3, p4, ih]
  simp
omit hF hO in
theorem mv_left (x : T_impl_Version) (T : List T_impl_Version) (A : List T_impl_Version) : ∀ (k : Nat) (Y Z : List T_impl_Version) (f : Nat), Y.length = k → k < f → (A ++ Y ++ x :: Z ++ T).length < 1000000000 →
  slices_symMergeCmpFunc_impl_Version_l3 (A.length : Int) f ((A.length + Y.length : Nat) : Int) (A ++ Y ++ x :: Z ++ T) = some (A ++ x :: Y ++ Z ++ T)
 | 0, Y, Z, f, hY, hf, hn => by
  obtain ⟨f, rfl⟩ : ∃ f', f = f' + 1 := ⟨f - 1, by omega⟩
  have := List.eq_nil_of_length_eq_zero hY
  subst this
  rw [slices_symMergeCmpFunc_impl_Version_l3, decide_eq_false (by simp), cond_false]
  simp
 | k + 1, Y, Z, f, hY, hf, hn => by
  obtain ⟨f, rfl⟩ : ∃ f', f = f' + 1 := ⟨f - 1, by omega⟩
  have hne : Y ≠ [] := fun e => by rw [e] at hY; cases hY
  obtain ⟨Y, y, rfl⟩ : ∃ L' y, Y = L' ++ [y] := ⟨Y.dropLast, Y.getLast hne, (List.dropLast_concat_getLast hne).symm⟩
  simp only [List.length_append, List.length_cons, List.length_nil] at hn hY
  have w1 : w64 (((A.length + (Y ++ [y]).length : Nat) : Int) - 1) = (((A ++ Y).length : Nat) : Int) := by rw [w64_of (by simp; omega) (by simp; omega)]; simp; omega
  have p2 : ((A.length + (Y ++ [y]).length : Nat) : Int) = (((A ++ Y).length + 1 + ([] : List T_impl_Version).length : Nat) : Int) := by simp; omega
  have e1 : A ++ (Y ++ [y]) ++ x :: Z ++ T = (A ++ Y) ++ y :: [] ++ x :: (Z ++ T) := by simp
  have hq : ∃ q, getI ((((A ++ Y) ++ y :: [] ++ x :: (Z ++ T))).set (((A ++ Y).length + 1 + ([] : List T_impl_Version).length : Nat)) y) (((A ++ Y).length : Nat) : Int) = some q := by
   rw [getI_nat, List.getElem?_set_ne (by simp)]
   exact ⟨y, by rw [← getI_nat]; exact get_1 (A ++ Y) y [] x (Z ++ T) rfl⟩
  obtain ⟨q, hq⟩ := hq
  have e2 : (A ++ Y) ++ x :: [] ++ y :: (Z ++ T) = A ++ Y ++ x :: (y :: Z) ++ T := by simp
  have ih := mv_left x T A k Y (y :: Z) f (by omega) (by omega) (by simp; omega)
  have w3 : w64 ((((A ++ Y).length + 1 + ([] : List T_impl_Version).length : Nat) : Int) - 1) = (((A ++ Y).length : Nat) : Int) := by rw [← p2]; exact w1
  rw [slices_symMergeCmpFunc_impl_Version_l3, decide_eq_true (by simp; omega), cond_true, p2, e1, w3, get_1 (A ++ Y) y [] x _ rfl, Option.bind_some, get_2 (A ++ Y) y [] x _ rfl, Option.bind_some, Option.bind_some, Int.toNat_natCast, hq, Option.bind_some, Int.toNat_natCast,
   swap_back (A ++ Y) y [] x _ rfl rfl, e2]
  have p3 : (((A ++ Y).length : Nat) : Int) = ((A.length + Y.length : Nat) : Int) := by simp
  rw [p3, ih]
  simp
include hF hO
theorem find_right (A : List T_impl_Version) (u : T_impl_Version) (V B : List T_impl_Version) (hV : Asc cf V) (hn : (A ++ u :: V ++ B).length < 1000000000) : ∀ (k p q f : Nat), q - p ≤ k → k < f → p ≤ q → q ≤ V.length → (∀ v ∈ V.take p, cf v u ≤ 0) → (∀ v ∈ V.drop q, cf u v ≤ 0) →
  ∃ r, r ≤ V.length ∧ slices_symMergeCmpFunc_impl_Version_l0 (A ++ u :: V ++ B) (A.length : Int) F f ((A.length + 1 + p : Nat) : Int) ((A.length + 1 + q : Nat) : Int) = slices_symMergeCmpFunc_impl_Version_l1 ((A.length + 1 + r : Nat) : Int) FUEL (A.length : Int) (A ++ u :: V ++ B) ∧ (∀ v ∈ V.take r, cf v u ≤ 0) ∧ (∀ v ∈ V.drop r, cf u v ≤ 0)
 | k, p, q, 0, _, hf, _, _, _, _ => absurd hf (by omega)
 | k, p, q, f + 1, hk, hf, hpq, hq, h1, h2 => by
  simp only [List.length_append, List.length_cons] at hn
  by_cases hlt : p < q
  ·obtain ⟨k, rfl⟩ : ∃ k', k = k' + 1 := ⟨k - 1, by omega⟩
   have hw : w64 (shrU (u64 (w64 (((A.length + 1 + p : Nat) : Int) + ((A.length + 1 + q : Nat) : Int)))) 1) = ((A.length + 1 + (p + q) / 2 : Nat) : Int) := by rw [half_nat (by omega)]; omega
   generalize hh : (p + q) / 2 = h at hw
   have hh1 : p ≤ h ∧ h < q := by omega
   have hvl : h < V.length := by omega
   have hg : getI (A ++ u :: V ++ B) ((A.length + 1 + h : Nat) : Int) = some V[h] := by
    rw [getI_nat, show A ++ u :: V ++ B = (A ++ [u]) ++ (V ++ B) by simp, List.getElem?_append_right (by simp; try omega), List.getElem?_append_left (by simp; try omega)]
    have : A.length + 1 + h - (A ++ [u]).length = h := by simp
    rw [this, List.getElem?_eq_getElem hvl]
   have hgu : getI (A ++ u :: V ++ B) (A.length : Int) = some u := by
    rw [show A ++ u :: V ++ B = A ++ u :: (V ++ B) by simp, getI_at]
   have w2 : w64 (((A.length + 1 + h : Nat) : Int) + 1) = ((A.length + 1 + (h + 1) : Nat) : Int) := by rw [w64_of (by omega) (by omega)]; omega
   have hidx := List.pairwise_iff_getElem.1 hV
   rw [slices_symMergeCmpFunc_impl_Version_l0, decide_eq_true (by omega), cond_true, hw, hg, Option.bind_some, hgu, Option.bind_some, hF, Option.bind_some]
   by_cases hc : cf V[h] u < 0
   ·rw [decide_eq_true hc, cond_true, w2]
    exact find_right A u V B hV (by simp only [List.length_append, List.length_cons]; omega) k (h + 1) q f (by omega) (by omega) (by omega) hq (fun v hv => by
     obtain ⟨i, hi, rfl⟩ := List.getElem_of_mem hv
     rw [List.length_take] at hi
     rw [List.getElem_take]
     by_cases e : i = h
     ·subst e; omega
     ·exact hO.le _ _ _ (hidx i h (by omega) hvl (by omega)) (by omega)) h2
   ·rw [decide_eq_false hc, cond_false]
    exact find_right A u V B hV (by simp only [List.length_append, List.length_cons]; omega) k p h f (by omega) (by omega) (by omega) (by omega) h1 (fun v hv => by
     obtain ⟨i, hi, rfl⟩ := List.getElem_of_mem hv
     rw [List.length_drop] at hi
     rw [List.getElem_drop]
     have h0 : cf u V[h] ≤ 0 := hO.ge (by omega)
     by_cases e : i = 0
     ·subst e; simpa using h0
     ·exact hO.le _ _ _ h0 (hidx h (h + i) hvl (by omega) (by omega)))
  ·have : p = q := by omega
   subst this
   refine ⟨p, hq, ?_, h1, h2⟩
   rw [slices_symMergeCmpFunc_impl_Version_l0, decide_eq_false (by omega), cond_false]
theorem find_left (A : List T_impl_Version) (x : T_impl_Version) (U B : List T_impl_Version) (hU : Asc cf U) (hn : (A ++ U ++ x :: B).length < 1000000000) : ∀ (k p q f : Nat), q - p ≤ k → k < f → p ≤ q → q ≤ U.length → (∀ v ∈ U.take p, cf v x ≤ 0) → (∀ v ∈ U.drop q, cf x v ≤ 0) →
  ∃ r, r ≤ U.length ∧ slices_symMergeCmpFunc_impl_Version_l2 (A ++ U ++ x :: B) ((A.length + U.length : Nat) : Int) F f ((A.length + p : Nat) : Int) ((A.length + q : Nat) : Int) = slices_symMergeCmpFunc_impl_Version_l3 ((A.length + r : Nat) : Int) FUEL ((A.length + U.length : Nat) : Int) (A ++ U ++ x :: B) ∧ (∀ v ∈ U.take r, cf v x ≤ 0) ∧ (∀ v ∈ U.drop r, cf x v ≤ 0)
 | k, p, q, 0, _, hf, _, _, _, _ => absurd hf (by omega)
 | k, p, q, f + 1, hk, hf, hpq, hq, h1, h2 => by
  simp only [List.length_append, List.length_cons] at hn
  by_cases hlt : p < q
  ·obtain ⟨k, rfl⟩ : ∃ k', k = k' + 1 := ⟨k - 1, by omega⟩
   have hw : w64 (shrU (u64 (w64 (((A.length + p : Nat) : Int) + ((A.length + q : Nat) : Int)))) 1) = ((A.length + (p + q) / 2 : Nat) : Int) := by rw [half_nat (by omega)]; omega
   generalize hh : (p + q) / 2 = h at hw
   have hh1 : p ≤ h ∧ h < q := by omega
   have hvl : h < U.length := by omega
   have hg : getI (A ++ U ++ x :: B) ((A.length + h : Nat) : Int) = some U[h] := by
    rw [getI_nat, show A ++ U ++ x :: B = A ++ (U ++ x :: B) by simp, List.getElem?_append_right (by omega), List.getElem?_append_left (by omega), Nat.add_sub_cancel_left, List.getElem?_eq_getElem hvl]
   have hgu : getI (A ++ U ++ x :: B) ((A.length + U.length : Nat) : Int) = some x := by
    rw [← List.length_append, getI_at]
   have w2 : w64 (((A.length + h : Nat) : Int) + 1) = ((A.length + (h + 1) : Nat) : Int) := by rw [w64_of (by omega) (by omega)]; omega
   have hidx := List.pairwise_iff_getElem.1 hU
   rw [slices_symMergeCmpFunc_impl_Version_l2, decide_eq_true (by omega), cond_true, hw, hgu, Option.bind_some, hg, Option.bind_some, hF, Option.bind_some]
   by_cases hc : cf x U[h] < 0
   ·rw [decide_eq_true hc, Bool.not_true, cond_false]
    exact find_left A x U B hU (by simp only [List.length_append, List.length_cons]; omega) k p h f (by omega) (by omega) (by omega) (by omega) h1 (fun v hv => by
     obtain ⟨i, hi, rfl⟩ := List.getElem_of_mem hv
     rw [List.length_drop] at hi
     rw [List.getElem_drop]
     by_cases e : i = 0
     ·subst e; simp only [Nat.add_zero]; omega
     ·exact hO.le _ _ _ (by omega) (hidx h (h + i) hvl (by omega) (by omega)))
   ·rw [decide_eq_false hc, Bool.not_false, cond_true, w2]
    exact find_left A x U B hU (by simp only [List.length_append, List.length_cons]; omega) k (h + 1) q f (by omega) (by omega) (by omega) hq (fun v hv => by
     obtain ⟨i, hi, rfl⟩ := List.getElem_of_mem hv
     rw [List.length_take] at hi
     rw [List.getElem_take]
     have h0 : cf U[h] x ≤ 0 := hO.ge (by omega)
     by_cases e : i = h
     ·subst e; exact h0
     ·exact hO.le _ _ _ (hidx i h (by omega) hvl (by omega)) h0) h2
  ·have : p = q := by omega
   subst this
   refine ⟨p, hq, ?_, h1, h2⟩
   rw [slices_symMergeCmpFunc_impl_Version_l2, decide_eq_false (by omega), cond_false]
theorem sm_right (A : List T_impl_Version) (u : T_impl_Version) (V B : List T_impl_Version) (hV : Asc cf V) (hn : (A ++ u :: V ++ B).length < 1000000000) :
  ∃ W, slices_symMergeCmpFunc_impl_Version_l0 (A ++ u :: V ++ B) (A.length : Int) F FUEL ((A.length + 1 : Nat) : Int) ((A.length + 1 + V.length : Nat) : Int) = some (A ++ W ++ B) ∧ W.Perm (u :: V) ∧ Asc cf W := by
 have hl := hn
 simp only [List.length_append, List.length_cons] at hl
 obtain ⟨r, hr, e, h1, h2⟩ := find_right hF hO A u V B hV hn V.length 0 V.length FUEL (by omega) (by unfold FUEL; omega) (Nat.zero_le _) (Nat.le_refl _) (by simp) (by simp)
 have eV : V.take r ++ V.drop r = V := List.take_append_drop _ _
 refine ⟨V.take r ++ u :: V.drop r, ?_, ?_, ?_⟩
 ·rw [Nat.add_zero] at e
  rw [e]
  have := mv_right u (V.drop r ++ B) A (V.take r) [] FUEL (by unfold FUEL; rw [List.length_take]; omega) (by simp; omega)
  have q1 : ((A.length + ([] : List T_impl_Version).length + (V.take r).length + 1 : Nat) : Int) = ((A.length + 1 + r : Nat) : Int) := by rw [List.length_take]; simp; omega
  have q2 : ((A.length + ([] : List T_impl_Version).length : Nat) : Int) = (A.length : Int) := by simp
  have q3 : A ++ [] ++ u :: V.take r ++ (V.drop r ++ B) = A ++ u :: V ++ B := by
   simp
   rw [← List.append_assoc, eV]
  rw [q1, q2, q3] at this
  rw [this]
  simp
 ·refine List.perm_middle.trans ?_
  rw [eV]
 ·have hsp := List.pairwise_append.1 (show Asc cf (V.take r ++ V.drop r) by rw [eV]; exact hV)
  refine List.pairwise_append.2 ⟨hsp.1, List.pairwise_cons.2 ⟨h2, hsp.2.1⟩, fun a ha b hb => ?_⟩
  rcases List.mem_cons.1 hb with rfl | hb
  ·exact h1 a ha
  ·exact hsp.2.2 a ha b hb
theorem sm_left (A : List T_impl_Version) (x : T_impl_Version) (U B : List T_impl_Version) (hU : Asc cf U) (hn : (A ++ U ++ x :: B).length < 1000000000) :
  ∃ W, slices_symMergeCmpFunc_impl_Version_l2 (A ++ U ++ x :: B) ((A.length + U.length : Nat) : Int) F FUEL (A.length : Int) ((A.length + U.length : Nat) : Int) = some (A ++ W ++ B) ∧ W.Perm (U ++ [x]) ∧ Asc cf W := by
 have hl := hn
 simp only [List.length_append, List.length_cons] at hl
 obtain ⟨r, hr, e, h1, h2⟩ := find_left hF hO A x U B hU hn U.length 0 U.length FUEL (by omega) (by unfold FUEL; omega) (Nat.zero_le _) (Nat.le_refl _) (by simp) (by simp)
 have eU : U.take r ++ U.drop r = U := List.take_append_drop _ _
 refine ⟨U.take r ++ x :: U.drop r, ?_, ?_, ?_⟩
 ·rw [Nat.add_zero] at e
  rw [e]
  have := mv_left x B (A ++ U.take r) (U.drop r).length (U.drop r) [] FUEL rfl (by unfold FUEL; rw [List.length_drop]; omega) (by simp; omega)
  have q1 : (((A ++ U.take r).length : Nat) : Int) = ((A.length + r : Nat) : Int) := by rw [List.length_append, List.length_take]; omega
  have q2 : (((A ++ U.take r).length + (U.drop r).length : Nat) : Int) = ((A.length + U.length : Nat) : Int) := by rw [List.length_append, List.length_take, List.length_drop]; omega
  have q3 : A ++ U.take r ++ U.drop r ++ x :: [] ++ B = A ++ U ++ x :: B := by rw [List.append_assoc A, eU]; simp
  rw [q1, q2, q3] at this
  rw [this]
  simp
 ·refine (List.perm_middle.trans ?_)
  rw [eU]
  exact (List.perm_append_comm (l₁ := U) (l₂ := [x])).symm
 ·have hsp := List.pairwise_append.1 (show Asc cf (U.take r ++ U.drop r) by rw [eU]; exact hU)
  refine List.pairwise_append.2 ⟨hsp.1, List.pairwise_cons.2 ⟨h2, hsp.2.1⟩, fun a ha b hb => ?_⟩
  rcases List.mem_cons.1 hb with rfl | hb
  ·exact h1 a ha
  ·exact hsp.2.2 a ha b hb
end
end Go.D
set_option linter.unusedVariables false
namespace Go.D
def MidL {α : Type} (cf : α → α → Int) (L : List α) (n s0 s : Nat) : Prop := s0 < s → ∃ x y, L[n - s]? = some x ∧ L[s - 1]? = some y ∧ ¬ cf x y < 0
def MidR {α : Type} (cf : α → α → Int) (L : List α) (n s r0 : Nat) : Prop := s < r0 → ∃ x y, L[n - 1 - s]? = some x ∧ L[s]? = some y ∧ cf x y < 0
section
variable {cf : T_impl_Version → T_impl_Version → Int} {F : T_impl_Version → T_impl_Version → Option Int} (hF : ∀ x y, F x y = some (cf x y)) (hO : Ord3 cf)
include hF
theorem find_mid (rec0 : List T_impl_Version → Int → Int → Int → Option (List T_impl_Version)) (L : List T_impl_Version) (a m b mid : Nat) (s0 r0 : Nat) (hmid : w64 (shrU (u64 (w64 ((a : Int) + (b : Int)))) 1) = (mid : Int)) (hb : L.length < 1000000000) (hbl : b ≤ L.length) (hm : mid ≤ b) (hmb : m ≤ b)
  (h1 : mid + m ≤ b + s0) (h2 : r0 ≤ mid + m) (h3 : r0 ≤ b) (Fin : Nat → Option (List T_impl_Version)) (hfin : ∀ (f : Nat) (s : Nat), s ≤ r0 → slices_symMergeCmpFunc_impl_Version_l5 rec0 L (a : Int) (m : Int) (b : Int) F (f + 1) (s : Int) (s : Int) = Fin s) :
  ∀ (k s r f : Nat), r - s ≤ k → k < f → s0 ≤ s → s ≤ r → r ≤ r0 → MidL cf L (mid + m) s0 s → MidR cf L (mid + m) r r0 →
  ∃ s', s0 ≤ s' ∧ s' ≤ r0 ∧ slices_symMergeCmpFunc_impl_Version_l5 rec0 L (a : Int) (m : Int) (b : Int) F f (s : Int) (r : Int) = Fin s' ∧ MidL cf L (mid + m) s0 s' ∧ MidR cf L (mid + m) s' r0
 | k, s, r, 0, _, hf, _, _, _, _, _ => absurd hf (by omega)
 | k, s, r, f + 1, hk, hf, hs0, hsr, hr0, hp1, hp2 => by
  by_cases hlt : s < r
  ·obtain ⟨k, rfl⟩ : ∃ k', k = k' + 1 := ⟨k - 1, by omega⟩
   have hw : w64 (shrU (u64 (w64 ((s : Int) + (r : Int)))) 1) = (((s + r) / 2 : Nat) : Int) := half_nat (by omega)
   generalize hh : (s + r) / 2 = c at hw
   have hc1 : s ≤ c ∧ c < r := by omega
   have w1 : w64 ((mid : Int) + (m : Int)) = ((mid + m : Nat) : Int) := by rw [w64_of (by omega) (by omega)]; omega
   have w2 : w64 (((mid + m : Nat) : Int) - 1) = ((mid + m - 1 : Nat) : Int) := by rw [w64_of (by omega) (by omega)]; omega
   have w3 : w64 (((mid + m - 1 : Nat) : Int) - (c : Int)) = ((mid + m - 1 - c : Nat) : Int) := by rw [w64_of (by omega) (by omega)]; omega
   have w4 : w64 ((c : Int) + 1) = ((c + 1 : Nat) : Int) := by rw [w64_of (by omega) (by omega)]; omega
   have hx : L[mid + m - 1 - c]? = some L[mid + m - 1 - c] := List.getElem?_eq_getElem (by omega)
   have hy : L[c]? = some L[c] := List.getElem?_eq_getElem (by omega)
   rw [slices_symMergeCmpFunc_impl_Version_l5, decide_eq_true (by omega), cond_true, hmid, w1, w2, hw, w3, getI_nat, hx, Option.bind_some, getI_nat, hy, Option.bind_some, hF, Option.bind_some]
   by_cases hc : cf L[mid + m - 1 - c] L[c] < 0
   ·rw [decide_eq_true hc, Bool.not_true, cond_false]
    exact find_mid rec0 L a m b mid s0 r0 hmid hb hbl hm hmb h1 h2 h3 Fin hfin k s c f (by omega) (by omega) hs0 (by omega) (by omega) hp1 (fun _ => ⟨_, _, hx, hy, hc⟩)
   ·rw [decide_eq_false hc, Bool.not_false, cond_true, w4]
    exact find_mid rec0 L a m b mid s0 r0 hmid hb hbl hm hmb h1 h2 h3 Fin hfin k (c + 1) r f (by omega) (by omega) (by omega) (by omega) hr0 (fun _ => ⟨_, _, by rw [show mid + m - (c + 1) = mid + m - 1 - c by omega]; exact hx, hy, hc⟩) hp2
  ·have : s = r := by omega
   subst this
   exact ⟨s, hs0, hr0, hfin f s hr0, hp1, hp2⟩
include hO
omit hF in
theorem asc_join {X Y : List T_impl_Version} {x y : T_impl_Version} (hX : Asc cf (X ++ [x])) (hY : Asc cf (y :: Y)) (h : cf x y ≤ 0) : ∀ p ∈ X ++ [x], ∀ q ∈ y :: Y, cf p q ≤ 0 := by
 intro p hp q hq
 have h1 : cf p x ≤ 0 := by
  rcases List.mem_append.1 hp with hp | hp
  ·exact (List.pairwise_append.1 hX).2.2 p hp x (by simp)
  ·simp at hp
   rw [hp, hO.refl]
   exact Int.le_refl _
 have h2 : cf y q ≤ 0 := by
  rcases List.mem_cons.1 hq with rfl | hq
  ·rw [hO.refl]
   exact Int.le_refl _
  ·exact (List.pairwise_cons.1 hY).1 q hq
 exact hO.le _ _ _ (hO.le _ _ _ h1 h) h2
theorem sm_ok : ∀ (k f : Nat) (A U V B : List T_impl_Version), U.length + V.length ≤ k → k < f → U ≠ [] → V ≠ [] → Asc cf U → Asc cf V → (A ++ U ++ V ++ B).length < 1000000000 →
  ∃ W, slices_symMergeCmpFunc_impl_Version_f F f (A ++ U ++ V ++ B) (A.length : Int) ((A.length + U.length : Nat) : Int) ((A.length + U.length + V.length : Nat) : Int) = some (A ++ W ++ B) ∧ W.Perm (U ++ V) ∧ Asc cf W
 | 0, f, A, U, V, B, hk, _, hU, _, _, _, _ => absurd (List.eq_nil_of_length_eq_zero (by omega)) hU
 | k + 1, 0, A, U, V, B, _, hf, _, _, _, _, _ => absurd hf (by omega)
 | k + 1, f + 1, A, U, V, B, hk, hf, hU, hV, aU, aV, hn => by
  have pU := List.length_pos_iff.2 hU
  have pV := List.length_pos_iff.2 hV
  have hl := hn
  simp only [List.length_append] at hl
  suffices hs : ∃ W, slices_symMergeCmpFunc_impl_Version_s (slices_symMergeCmpFunc_impl_Version_f F f) (A ++ U ++ V ++ B) (A.length : Int) ((A.length + U.length : Nat) : Int) ((A.length + U.length + V.length : Nat) : Int) F = some (A ++ W ++ B) ∧ W.Perm (U ++ V) ∧ Asc cf W by
   obtain ⟨W, e, hp, ha⟩ := hs
   refine ⟨W, ?_, hp, ha⟩
   have hwl := hp.length_eq
   rw [slices_symMergeCmpFunc_impl_Version_f, e, Option.bind_some]
   have e : ((A ++ W ++ B).length == (A ++ U ++ V ++ B).length) = true := by
    simp only [List.length_append] at hwl ⊢
    simp
    omega
   rw [e, cond_true]
  have w1 : w64 (((A.length + U.length : Nat) : Int) - (A.length : Int)) = (U.length : Int) := by rw [w64_of (by omega) (by omega)]; omega
  have w2 : w64 (((A.length + U.length + V.length : Nat) : Int) - ((A.length + U.length : Nat) : Int)) = (V.length : Int) := by rw [w64_of (by omega) (by omega)]; omega
  unfold slices_symMergeCmpFunc_impl_Version_s
  rw [w1, w2]
  by_cases hu1 : U.length = 1
  ·have e : ((U.length : Int) == 1) = true := by rw [hu1]; rfl
   rw [e, cond_true]
   match U, hu1 with
   | [u], _ =>
    obtain ⟨W, e1, e2, e3⟩ := sm_right hF hO A u V B aV (by simpa using hn)
    refine ⟨W, ?_, by simpa using e2, e3⟩
    have : A ++ [u] ++ V ++ B = A ++ u :: V ++ B := by simp
    rw [this]
    exact e1
  have e : ((U.length : Int) == 1) = false := beq_eq_false_iff_ne.2 (by omega)
  rw [e, cond_false]
  by_cases hv1 : V.length = 1
  ·have e : ((V.length : Int) == 1) = true := by rw [hv1]; rfl
   rw [e, cond_true]
   match V, hv1 with
   | [x], _ =>
    obtain ⟨W, e1, e2, e3⟩ := sm_left hF hO A x U B aU (by simpa using hn)
    refine ⟨W, ?_, e2, e3⟩
    have : A ++ U ++ [x] ++ B = A ++ U ++ x :: B := by simp
    rw [this]
    exact e1
  have e : ((V.length : Int) == 1) = false := beq_eq_false_iff_ne.2 (by omega)
  rw [e, cond_false]
  -- the general case
  have hmid : w64 (shrU (u64 (w64 ((A.length : Int) + ((A.length + U.length + V.length : Nat) : Int)))) 1) = (((A.length + (A.length + U.length + V.length)) / 2 : Nat) : Int) := half_nat (by omega)
  generalize hmd : (A.length + (A.length + U.length + V.length)) / 2 = mid at hmid
  generalize hrec : slices_symMergeCmpFunc_impl_Version_f F f = rec0
  have w3 : w64 ((mid : Int) + ((A.length + U.length : Nat) : Int)) = ((mid + (A.length + U.length) : Nat) : Int) := by rw [w64_of (by omega) (by omega)]; omega
  -- behind the place
  have fin : ∀ (s : Nat), A.length ≤ s → s ≤ A.length + U.length → s ≤ mid → mid + (A.length + U.length) ≤ A.length + U.length + V.length + s →
    (∀ (U1 U2 V1 V2 : List T_impl_Version), U = U1 ++ U2 → V = V1 ++ V2 → A.length + U1.length = s → (∀ x ∈ U1, ∀ y ∈ V2, cf x y ≤ 0) ∧ (∀ x ∈ V1, ∀ y ∈ U2, cf x y ≤ 0) ∨ ¬ (U1.length + V1.length = mid - A.length)) →
    ∃ W, (bif decide ((s : Int) < ((A.length + U.length : Nat) : Int)) then slices_symMergeCmpFunc_impl_Version_j10 rec0 (A ++ U ++ V ++ B) (A.length : Int) ((A.length + U.length : Nat) : Int) ((A.length + U.length + V.length : Nat) : Int) F (s : Int) (decide (((A.length + U.length : Nat) : Int) < w64 (w64 (w64 (shrU (u64 (w64 ((A.length : Int) + ((A.length + U.length + V.length : Nat) : Int)))) 1) + ((A.length + U.length : Nat) : Int)) - (s : Int))))
     else slices_symMergeCmpFunc_impl_Version_j10 rec0 (A ++ U ++ V ++ B) (A.length : Int) ((A.length + U.length : Nat) : Int) ((A.length + U.length + V.length : Nat) : Int) F (s : Int) false) = some (A ++ W ++ B) ∧ W.Perm (U ++ V) ∧ Asc cf W := by
   intro s hs1 hs2 hs3 hs4 hx
   have eU : U = U.take (s - A.length) ++ U.drop (s - A.length) := (List.take_append_drop _ _).symm
   have l1 : (U.take (s - A.length)).length = s - A.length := by rw [List.length_take]; omega
   have eV : V = V.take (mid - s) ++ V.drop (mid - s) := (List.take_append_drop _ _).symm
   have l2 : (V.take (mid - s)).length = mid - s := by rw [List.length_take]; omega
   generalize U.take (s - A.length) = U1 at eU l1
   generalize U.drop (s - A.length) = U2 at eU
   generalize V.take (mid - s) = V1 at eV l2
   generalize V.drop (mid - s) = V2 at eV
   have hcross := (hx U1 U2 V1 V2 eU eV (by omega)).resolve_right (by omega)
   have lU : U.length = U1.length + U2.length := by rw [eU, List.length_append]
   have lV : V.length = V1.length + V2.length := by rw [eV, List.length_append]
   have aU' := List.pairwise_append.1 (show Asc cf (U1 ++ U2) by rw [← eU]; exact aU)
   have aV' := List.pairwise_append.1 (show Asc cf (V1 ++ V2) by rw [← eV]; exact aV)
   have w4 : w64 (((mid + (A.length + U.length) : Nat) : Int) - (s : Int)) = ((mid + (A.length + U.length) - s : Nat) : Int) := by rw [w64_of (by omega) (by omega)]; omega
   have hend : mid + (A.length + U.length) - s = A.length + U.length + V1.length := by omega
   rw [hmid, w3, w4, hend]
   -- the rotation
   have rot : (bif decide ((s : Int) < ((A.length + U.length : Nat) : Int)) then slices_symMergeCmpFunc_impl_Version_j10 rec0 (A ++ U ++ V ++ B) (A.length : Int) ((A.length + U.length : Nat) : Int) ((A.length + U.length + V.length : Nat) : Int) F (s : Int) (decide (((A.length + U.length : Nat) : Int) < ((A.length + U.length + V1.length : Nat) : Int)))
     else slices_symMergeCmpFunc_impl_Version_j10 rec0 (A ++ U ++ V ++ B) (A.length : Int) ((A.length + U.length : Nat) : Int) ((A.length + U.length + V.length : Nat) : Int) F (s : Int) false)
     = slices_symMergeCmpFunc_impl_Version_j6 rec0 (A.length : Int) ((A.length + U.length : Nat) : Int) ((A.length + U.length + V.length : Nat) : Int) (s : Int) (A ++ U1 ++ V1 ++ U2 ++ V2 ++ B) := by
    unfold slices_symMergeCmpFunc_impl_Version_j10
    by_cases h1 : U2 = []
    ·subst h1
     rw [decide_eq_false (by simp at lU; omega), cond_false, cond_false]
     congr 1
     rw [eU, eV]
     simp
    ·have p2 := List.length_pos_iff.2 h1
     rw [decide_eq_true (by omega), cond_true]
     by_cases h2 : V1 = []
     ·subst h2
      rw [decide_eq_false (by simp), cond_false]
      congr 1
      rw [eU, eV]
      simp
     ·have p1 := List.length_pos_iff.2 h2
      rw [decide_eq_true (by omega), cond_true, hmid, w3, w4, hend]
      have := ro_ok F (A ++ U1) U2 V1 (V2 ++ B) h1 h2 (by simp only [List.length_append]; omega)
      have q1 : A ++ U ++ V ++ B = A ++ U1 ++ U2 ++ V1 ++ (V2 ++ B) := by rw [eU, eV]; simp
      have q2 : (s : Int) = (((A ++ U1).length : Nat) : Int) := by rw [List.length_append]; omega
      have q3 : ((A.length + U.length : Nat) : Int) = (((A ++ U1).length + U2.length : Nat) : Int) := by rw [List.length_append]; omega
      have q4 : ((A.length + U.length + V1.length : Nat) : Int) = (((A ++ U1).length + U2.length + V1.length : Nat) : Int) := by rw [List.length_append]; omega
      have q5 : slices_rotateCmpFunc_impl_Version (A ++ U ++ V ++ B) (s : Int) ((A.length + U.length : Nat) : Int) ((A.length + U.length + V1.length : Nat) : Int) F = some (A ++ U1 ++ V1 ++ U2 ++ (V2 ++ B)) := by
       rw [q1, q2, q3, q4]
       exact this
      rw [q5, Option.bind_some]
      congr 1
      simp
   rw [rot]
   -- the front
   have front : ∃ W1, slices_symMergeCmpFunc_impl_Version_j6 rec0 (A.length : Int) ((A.length + U.length : Nat) : Int) ((A.length + U.length + V.length : Nat) : Int) (s : Int) (A ++ U1 ++ V1 ++ U2 ++ V2 ++ B)
     = slices_symMergeCmpFunc_impl_Version_j7 rec0 (A.length : Int) ((A.length + U.length : Nat) : Int) ((A.length + U.length + V.length : Nat) : Int) (s : Int) (A ++ W1 ++ U2 ++ V2 ++ B) ∧ W1.Perm (U1 ++ V1) ∧ Asc cf W1 := by
    unfold slices_symMergeCmpFunc_impl_Version_j6 slices_symMergeCmpFunc_impl_Version_j9
    by_cases h1 : U1 = []
    ·subst h1
     refine ⟨V1, ?_, by simp, aV'.1⟩
     rw [decide_eq_false (by simp at l1; omega), cond_false, cond_false]
     congr 1
     simp
    ·have p1 := List.length_pos_iff.2 h1
     rw [decide_eq_true (by omega), cond_true]
     by_cases h2 : V1 = []
     ·subst h2
      refine ⟨U1, ?_, by simp, aU'.1⟩
      rw [hmid, decide_eq_false (by simp at l2; omega), cond_false]
      congr 1
      simp
     ·have p2 := List.length_pos_iff.2 h2
      obtain ⟨W1, e1, e2, e3⟩ := sm_ok k f A U1 V1 (U2 ++ V2 ++ B) (by omega) (by omega) h1 h2 aU'.1 aV'.1 (by simp only [List.length_append]; omega)
      refine ⟨W1, ?_, e2, e3⟩
      rw [hmid, decide_eq_true (by omega), cond_true]
      have q1 : A ++ U1 ++ V1 ++ U2 ++ V2 ++ B = A ++ U1 ++ V1 ++ (U2 ++ V2 ++ B) := by simp
      have q2 : (s : Int) = ((A.length + U1.length : Nat) : Int) := by omega
      have q3 : (mid : Int) = ((A.length + U1.length + V1.length : Nat) : Int) := by omega
      have q4 : rec0 (A ++ U1 ++ V1 ++ U2 ++ V2 ++ B) (A.length : Int) (s : Int) (mid : Int) = some (A ++ W1 ++ (U2 ++ V2 ++ B)) := by
       rw [q1, q2, q3, ← hrec]
       exact e1
      rw [q4, Option.bind_some]
      congr 1
      simp
   obtain ⟨W1, f1, f2, f3⟩ := front
   have lW1 : W1.length = U1.length + V1.length := by rw [f2.length_eq, List.length_append]
   rw [f1]
   -- the back
   have back : ∃ W2, slices_symMergeCmpFunc_impl_Version_j7 rec0 (A.length : Int) ((A.length + U.length : Nat) : Int) ((A.length + U.length + V.length : Nat) : Int) (s : Int) (A ++ W1 ++ U2 ++ V2 ++ B) = some (A ++ (W1 ++ W2) ++ B) ∧ W2.Perm (U2 ++ V2) ∧ Asc cf W2 := by
    unfold slices_symMergeCmpFunc_impl_Version_j7 slices_symMergeCmpFunc_impl_Version_j8
    rw [hmid, w3, w4, hend]
    by_cases h1 : U2 = []
    ·subst h1
     refine ⟨V2, ?_, by simp, aV'.2.1⟩
     rw [decide_eq_false (by simp at lU; omega), cond_false, cond_false]
     simp
    ·have p1 := List.length_pos_iff.2 h1
     rw [decide_eq_true (by omega), cond_true]
     by_cases h2 : V2 = []
     ·subst h2
      refine ⟨U2, ?_, by simp, aU'.2.1⟩
      rw [decide_eq_false (by simp at lV; omega), cond_false]
      simp
     ·have p2 := List.length_pos_iff.2 h2
      obtain ⟨W2, e1, e2, e3⟩ := sm_ok k f (A ++ W1) U2 V2 B (by omega) (by omega) h1 h2 aU'.2.1 aV'.2.1 (by simp only [List.length_append]; omega)
      refine ⟨W2, ?_, e2, e3⟩
      rw [decide_eq_true (by omega), cond_true]
      have q2 : (mid : Int) = (((A ++ W1).length : Nat) : Int) := by rw [List.length_append]; omega
      have q3 : ((A.length + U.length + V1.length : Nat) : Int) = (((A ++ W1).length + U2.length : Nat) : Int) := by rw [List.length_append]; omega
      have q5 : ((A.length + U.length + V.length : Nat) : Int) = (((A ++ W1).length + U2.length + V2.length : Nat) : Int) := by rw [List.length_append]; omega
      have q4 : rec0 (A ++ W1 ++ U2 ++ V2 ++ B) (mid : Int) ((A.length + U.length + V1.length : Nat) : Int) ((A.length + U.length + V.length : Nat) : Int) = some (A ++ W1 ++ W2 ++ B) := by
       rw [q2, q3, q5, ← hrec]
       exact e1
      rw [q4, Option.bind_some]
      simp
   obtain ⟨W2, g1, g2, g3⟩ := back
   refine ⟨W1 ++ W2, g1, ?_, ?_⟩
   ·refine (f2.append g2).trans ?_
    rw [eU, eV]
    have : (U1 ++ V1 ++ (U2 ++ V2)).Perm (U1 ++ (U2 ++ (V1 ++ V2))) := by
     rw [List.append_assoc]
     refine List.Perm.append_left U1 ?_
     rw [← List.append_assoc, ← List.append_assoc]
     exact List.Perm.append_right V2 List.perm_append_comm
    simpa using this
   ·refine List.pairwise_append.2 ⟨f3, g3, fun x hx y hy => ?_⟩
    have hx := f2.subset hx
    have hy := g2.subset hy
    rcases List.mem_append.1 hx with hx | hx <;> rcases List.mem_append.1 hy with hy | hy
    ·exact aU'.2.2 x hx y hy
    ·exact hcross.1 x hx y hy
    ·exact hcross.2 x hx y hy
    ·exact aV'.2.2 x hx y hy
  -- what the search gives
  have cross : ∀ (s s0 r0 : Nat), MidL cf (A ++ U ++ V ++ B) (mid + (A.length + U.length)) s0 s → MidR cf (A ++ U ++ V ++ B) (mid + (A.length + U.length)) s r0 →
    (s = s0 → s = A.length ∨ mid + (A.length + U.length) - s = A.length + U.length + V.length) → (s = r0 → s = A.length + U.length ∨ mid = s) → s0 ≤ s → s ≤ r0 →
    (∀ (U1 U2 V1 V2 : List T_impl_Version), U = U1 ++ U2 → V = V1 ++ V2 → A.length + U1.length = s → (∀ x ∈ U1, ∀ y ∈ V2, cf x y ≤ 0) ∧ (∀ x ∈ V1, ∀ y ∈ U2, cf x y ≤ 0) ∨ ¬ (U1.length + V1.length = mid - A.length)) := by
   intro s s0 r0 hp1 hp2 hb1 hb2 hs0 hr0 U1 U2 V1 V2 eU eV hs
   by_cases hlen : U1.length + V1.length = mid - A.length
   ·refine .inl ⟨?_, ?_⟩
    ·have lU : U.length = U1.length + U2.length := by rw [eU, List.length_append]
     have lV : V.length = V1.length + V2.length := by rw [eV, List.length_append]
     by_cases h1 : U1 = []
     ·subst h1
      exact fun x hx => by cases hx
     by_cases h2 : V2 = []
     ·subst h2
      exact fun x _ y hy => by cases hy
     have q1 := List.length_pos_iff.2 h1
     have q2 := List.length_pos_iff.2 h2
     obtain ⟨x, y, e1, e2, e3⟩ := hp1 (by
      rcases Nat.lt_or_ge s0 s with h | h
      ·exact h
      ·rcases hb1 (by omega) with h | h <;> omega)
     obtain ⟨X, z, rfl⟩ : ∃ L' y, U1 = L' ++ [y] := ⟨U1.dropLast, U1.getLast h1, (List.dropLast_concat_getLast h1).symm⟩
     match V2, h2 with
     | h :: T, _ =>
      have d1 : (A ++ U ++ V ++ B)[s - 1]? = some z := by
       rw [eU, show A ++ (X ++ [z] ++ U2) ++ V ++ B = (A ++ X) ++ z :: (U2 ++ V ++ B) by simp, show s - 1 = (A ++ X).length by simp at hs ⊢; omega, ← getI_nat, getI_at]
      have d2 : (A ++ U ++ V ++ B)[mid + (A.length + U.length) - s]? = some h := by
       rw [eV, show A ++ U ++ (V1 ++ h :: T) ++ B = (A ++ U ++ V1) ++ h :: (T ++ B) by simp, show mid + (A.length + U.length) - s = (A ++ U ++ V1).length by simp only [List.length_append, List.length_cons, List.length_nil] at hs hlen lU ⊢; omega, ← getI_nat, getI_at]
      rw [d1] at e2
      rw [d2] at e1
      rw [← Option.some.inj e1, ← Option.some.inj e2] at e3
      exact asc_join hO (List.pairwise_append.1 (show Asc cf ((X ++ [z]) ++ U2) by rw [← eU]; exact aU)).1 (List.pairwise_append.1 (show Asc cf (V1 ++ h :: T) by rw [← eV]; exact aV)).2.1 (hO.ge (by omega))
    ·have lU : U.length = U1.length + U2.length := by rw [eU, List.length_append]
     have lV : V.length = V1.length + V2.length := by rw [eV, List.length_append]
     by_cases h1 : V1 = []
     ·subst h1
      exact fun x hx => by cases hx
     by_cases h2 : U2 = []
     ·subst h2
      exact fun x _ y hy => by cases hy
     have q1 := List.length_pos_iff.2 h1
     have q2 := List.length_pos_iff.2 h2
     obtain ⟨x, y, e1, e2, e3⟩ := hp2 (by
      rcases Nat.lt_or_ge s r0 with h | h
      ·exact h
      ·rcases hb2 (by omega) with h | h <;> omega)
     obtain ⟨X, z, rfl⟩ : ∃ L' y, V1 = L' ++ [y] := ⟨V1.dropLast, V1.getLast h1, (List.dropLast_concat_getLast h1).symm⟩
     match U2, h2 with
     | h :: T, _ =>
      have d1 : (A ++ U ++ V ++ B)[mid + (A.length + U.length) - 1 - s]? = some z := by
       rw [eV, show A ++ U ++ (X ++ [z] ++ V2) ++ B = (A ++ U ++ X) ++ z :: (V2 ++ B) by simp, show mid + (A.length + U.length) - 1 - s = (A ++ U ++ X).length by simp only [List.length_append, List.length_cons, List.length_nil] at hs hlen lU ⊢; omega, ← getI_nat, getI_at]
      have d2 : (A ++ U ++ V ++ B)[s]? = some h := by
       rw [eU, show A ++ (U1 ++ h :: T) ++ V ++ B = (A ++ U1) ++ h :: (T ++ V ++ B) by simp, show s = (A ++ U1).length by simp at hs ⊢; omega, ← getI_nat, getI_at]
      rw [d1] at e1
      rw [d2] at e2
      rw [← Option.some.inj e1, ← Option.some.inj e2] at e3
      exact asc_join hO (List.pairwise_append.1 (show Asc cf ((X ++ [z]) ++ V2) by rw [← eV]; exact aV)).1 (List.pairwise_append.1 (show Asc cf (U1 ++ h :: T) by rw [← eU]; exact aU)).2.1 (by omega)
   ·exact .inr hlen
  have hfin : ∀ (f' s : Nat), slices_symMergeCmpFunc_impl_Version_l5 rec0 (A ++ U ++ V ++ B) (A.length : Int) ((A.length + U.length : Nat) : Int) ((A.length + U.length + V.length : Nat) : Int) F (f' + 1) (s : Int) (s : Int)
    = (bif decide ((s : Int) < ((A.length + U.length : Nat) : Int)) then slices_symMergeCmpFunc_impl_Version_j10 rec0 (A ++ U ++ V ++ B) (A.length : Int) ((A.length + U.length : Nat) : Int) ((A.length + U.length + V.length : Nat) : Int) F (s : Int) (decide (((A.length + U.length : Nat) : Int) < w64 (w64 (w64 (shrU (u64 (w64 ((A.length : Int) + ((A.length + U.length + V.length : Nat) : Int)))) 1) + ((A.length + U.length : Nat) : Int)) - (s : Int))))
     else slices_symMergeCmpFunc_impl_Version_j10 rec0 (A ++ U ++ V ++ B) (A.length : Int) ((A.length + U.length : Nat) : Int) ((A.length + U.length + V.length : Nat) : Int) F (s : Int) false) := by
   intro f' s
   rw [slices_symMergeCmpFunc_impl_Version_l5, decide_eq_false (Int.lt_irrefl _), cond_false]
  rw [hmid]
  unfold slices_symMergeCmpFunc_impl_Version_j4
  by_cases hgt : mid < A.length + U.length
  ·rw [decide_eq_true (by omega), cond_true, w3]
   have w5 : w64 (((mid + (A.length + U.length) : Nat) : Int) - ((A.length + U.length + V.length : Nat) : Int)) = ((mid - V.length : Nat) : Int) := by rw [w64_of (by omega) (by omega)]; omega
   rw [w5]
   obtain ⟨s, s1, s2, s3, s4, s5⟩ := find_mid hF rec0 (A ++ U ++ V ++ B) A.length (A.length + U.length) (A.length + U.length + V.length) mid (mid - V.length) mid hmid hn (by simp only [List.length_append]; omega) (by omega) (by omega) (by omega) (by omega) (by omega) _ (fun f' s _ => hfin f' s)
    mid (mid - V.length) mid FUEL (by omega) (by unfold FUEL; omega) (Nat.le_refl _) (by omega) (Nat.le_refl _) (fun h => absurd h (Nat.lt_irrefl _)) (fun h => absurd h (Nat.lt_irrefl _))
   rw [s3]
   exact fin s (by omega) (by omega) (by omega) (by omega) (cross s (mid - V.length) mid s4 s5 (fun e => .inr (by omega)) (fun e => .inr e.symm) s1 s2)
  ·rw [decide_eq_false (by omega), cond_false]
   obtain ⟨s, s1, s2, s3, s4, s5⟩ := find_mid hF rec0 (A ++ U ++ V ++ B) A.length (A.length + U.length) (A.length + U.length + V.length) mid A.length (A.length + U.length) hmid hn (by simp only [List.length_append]; omega) (by omega) (by omega) (by omega) (by omega) (by omega) _ (fun f' s _ => hfin f' s)
    (A.length + U.length) A.length (A.length + U.length) FUEL (by omega) (by unfold FUEL; omega) (Nat.le_refl _) (by omega) (Nat.le_refl _) (fun h => absurd h (Nat.lt_irrefl _)) (fun h => absurd h (Nat.lt_irrefl _))
   rw [s3]
   exact fin s (by omega) (by omega) (by omega) (by omega) (cross s A.length (A.length + U.length) s4 s5 (fun e => .inl e) (fun e => .inl e) s1 s2)
end
end Go.D
set_option linter.unusedVariables false
namespace Go.D
inductive Runs {α : Type} (cf : α → α → Int) (bs : Nat) : List α → Prop
 | last {S : List α} : S.length ≤ bs → Asc cf S → Runs cf bs S
 | cons {S Q : List α} : S.length = bs → Asc cf S → Runs cf bs Q → Runs cf bs (S ++ Q)
theorem Runs.asc {α : Type} {cf : α → α → Int} {bs : Nat} {Q : List α} (h : Runs cf bs Q) (hl : Q.length ≤ bs) : Asc cf Q := by
 cases h with
 | last _ h => exact h
 | @cons S Q1 h1 h2 h3 =>
  rw [List.length_append] at hl
  have : Q1 = [] := List.eq_nil_of_length_eq_zero (by omega)
  subst this
  rw [List.append_nil]
  exact h2
theorem Runs.split {α : Type} {cf : α → α → Int} {bs : Nat} {Q : List α} (h : Runs cf bs Q) (hl : bs < Q.length) : ∃ S Q1, Q = S ++ Q1 ∧ S.length = bs ∧ Asc cf S ∧ Runs cf bs Q1 := by
 cases h with
 | last h1 _ => omega
 | @cons S Q1 h1 h2 h3 => exact ⟨S, Q1, rfl, h1, h2, h3⟩
section
variable {cf : T_impl_Version → T_impl_Version → Int} {F : T_impl_Version → T_impl_Version → Option Int} (hF : ∀ x y, F x y = some (cf x y)) (hO : Ord3 cf)
include hF hO
theorem sm_all (A U V B : List T_impl_Version) (hU : U ≠ []) (hV : V ≠ []) (aU : Asc cf U) (aV : Asc cf V) (hn : (A ++ U ++ V ++ B).length < 1000000000) :
  ∃ W, slices_symMergeCmpFunc_impl_Version (A ++ U ++ V ++ B) (A.length : Int) ((A.length + U.length : Nat) : Int) ((A.length + U.length + V.length : Nat) : Int) F = some (A ++ W ++ B) ∧ W.Perm (U ++ V) ∧ Asc cf W := by
 unfold slices_symMergeCmpFunc_impl_Version
 exact sm_ok hF hO (U.length + V.length) FUEL A U V B (Nat.le_refl _) (by unfold FUEL; simp only [List.length_append] at hn; omega) hU hV aU aV hn
theorem blocks_ok : ∀ (k f : Nat) (P Q : List T_impl_Version), Q.length ≤ k → k < f → (P ++ Q).length < 1000000000 →
  ∃ W, slices_stableCmpFunc_impl_Version_l0 ((P.length + Q.length : Nat) : Int) F f (P.length : Int) ((P.length + 20 : Nat) : Int) (P ++ Q) = slices_stableCmpFunc_impl_Version_l1 ((P.length + Q.length : Nat) : Int) F FUEL 20 (P ++ W) ∧ W.Perm Q ∧ Runs cf 20 W
 | k, 0, P, Q, _, hf, _ => absurd hf (by omega)
 | k, f + 1, P, Q, hk, hf, hn => by
  have hl := hn
  rw [List.length_append] at hl
  by_cases h : 20 ≤ Q.length
  ·obtain ⟨k, rfl⟩ : ∃ k', k = k' + 1 := ⟨k - 1, by omega⟩
   have eQ : Q = Q.take 20 ++ Q.drop 20 := (List.take_append_drop _ _).symm
   have l1 : (Q.take 20).length = 20 := by rw [List.length_take]; omega
   generalize Q.take 20 = S at eQ l1
   generalize Q.drop 20 = Q1 at eQ
   subst eQ
   rw [List.length_append] at hl hk
   obtain ⟨W, h1, h2, h3⟩ := in_ok hF hO P S Q1 (by simp only [List.length_append]; omega)
   have lW : W.length = 20 := by rw [h2.length_eq, l1]
   obtain ⟨W2, g1, g2, g3⟩ := blocks_ok k f (P ++ W) Q1 (by omega) (by omega) (by simp only [List.length_append]; omega)
   refine ⟨W ++ W2, ?_, h2.append g2, .cons lW h3 g3⟩
   have q1 : ((P.length + 20 : Nat) : Int) = ((P.length + S.length : Nat) : Int) := by rw [l1]
   have q2 : P ++ (S ++ Q1) = P ++ S ++ Q1 := by simp
   have w1 : w64 (((P.length + S.length : Nat) : Int) + 20) = (((P ++ W).length + 20 : Nat) : Int) := by rw [w64_of (by omega) (by omega), List.length_append]; omega
   have q3 : ((P.length + S.length : Nat) : Int) = (((P ++ W).length : Nat) : Int) := by rw [List.length_append]; omega
   have q4 : ((P.length + (S ++ Q1).length : Nat) : Int) = (((P ++ W).length + Q1.length : Nat) : Int) := by simp only [List.length_append]; omega
   rw [slices_stableCmpFunc_impl_Version_l0, decide_eq_true (by rw [List.length_append]; omega), cond_true, q1, q2, h1, Option.bind_some, w1, q3, q4, g1]
   simp
  ·rw [slices_stableCmpFunc_impl_Version_l0, decide_eq_false (by omega), cond_false]
   obtain ⟨W, h1, h2, h3⟩ := in_ok hF hO P Q [] (by simpa using hn)
   simp only [List.append_nil] at h1
   refine ⟨W, ?_, h2, .last (by rw [h2.length_eq]; omega) h3⟩
   rw [h1, Option.bind_some]
theorem pass_ok (bs : Nat) (hb : 0 < bs) (hb2 : bs < 1000000000) (K : Int → List T_impl_Version → Option (List T_impl_Version)) : ∀ (k f : Nat) (P Q : List T_impl_Version), Q.length ≤ k → k < f → (P ++ Q).length < 1000000000 → Runs cf bs Q →
  ∃ W, slices_stableCmpFunc_impl_Version_l2 ((P.length + Q.length : Nat) : Int) F (bs : Int) K f (P.length : Int) ((P.length + 2 * bs : Nat) : Int) (P ++ Q) = K (w64 ((bs : Int) * 2)) (P ++ W) ∧ W.Perm Q ∧ Runs cf (2 * bs) W
 | k, 0, P, Q, _, hf, _, _ => absurd hf (by omega)
 | k, f + 1, P, Q, hk, hf, hn, hr => by
  have hl := hn
  rw [List.length_append] at hl
  have w1 : w64 ((P.length : Int) + (bs : Int)) = ((P.length + bs : Nat) : Int) := by rw [w64_of (by omega) (by omega)]; omega
  have w2 : w64 (2 * (bs : Int)) = ((2 * bs : Nat) : Int) := by rw [w64_of (by omega) (by omega)]; omega
  by_cases h : 2 * bs ≤ Q.length
  ·obtain ⟨k, rfl⟩ : ∃ k', k = k' + 1 := ⟨k - 1, by omega⟩
   obtain ⟨S1, Q1, rfl, s1, s2, s3⟩ := hr.split (by omega)
   rw [List.length_append] at hl hk h
   have : ∃ S2 Q2, Q1 = S2 ++ Q2 ∧ S2.length = bs ∧ Asc cf S2 ∧ Runs cf bs Q2 := by
    by_cases e : bs < Q1.length
    ·exact s3.split e
    ·exact ⟨Q1, [], by simp, by omega, s3.asc (by omega), .last (by simp) List.Pairwise.nil⟩
   obtain ⟨S2, Q2, rfl, t1, t2, t3⟩ := this
   rw [List.length_append] at hl hk h
   obtain ⟨W, h1, h2, h3⟩ := sm_all hF hO P S1 S2 Q2 (List.length_pos_iff.1 (by omega)) (List.length_pos_iff.1 (by omega)) s2 t2 (by simp only [List.length_append]; omega)
   have lW : W.length = 2 * bs := by rw [h2.length_eq, List.length_append]; omega
   obtain ⟨W2, g1, g2, g3⟩ := pass_ok bs hb hb2 K k f (P ++ W) Q2 (by omega) (by omega) (by simp only [List.length_append]; omega) t3
   refine ⟨W ++ W2, ?_, ?_, .cons lW h3 g3⟩
   ·have q1 : ((P.length + bs : Nat) : Int) = ((P.length + S1.length : Nat) : Int) := by rw [s1]
    have q2 : P ++ (S1 ++ (S2 ++ Q2)) = P ++ S1 ++ S2 ++ Q2 := by simp
    have q3 : ((P.length + 2 * bs : Nat) : Int) = ((P.length + S1.length + S2.length : Nat) : Int) := by omega
    have w3 : w64 (((P.length + S1.length + S2.length : Nat) : Int) + w64 (2 * (bs : Int))) = (((P ++ W).length + 2 * bs : Nat) : Int) := by rw [w2, w64_of (by omega) (by omega), List.length_append]; omega
    have q5 : ((P.length + S1.length + S2.length : Nat) : Int) = (((P ++ W).length : Nat) : Int) := by rw [List.length_append]; omega
    have q4 : ((P.length + (S1 ++ (S2 ++ Q2)).length : Nat) : Int) = (((P ++ W).length + Q2.length : Nat) : Int) := by simp only [List.length_append]; omega
    rw [slices_stableCmpFunc_impl_Version_l2, decide_eq_true (by simp only [List.length_append]; omega), cond_true, w1, q1, q2, q3, h1, Option.bind_some, w3, q5, q4, g1]
    simp
   ·have := h2.append g2
    simpa using this
  ·rw [slices_stableCmpFunc_impl_Version_l2, decide_eq_false (by omega), cond_false, w1]
   by_cases h' : bs < Q.length
   ·obtain ⟨S1, S2, rfl, s1, s2, s3⟩ := hr.split h'
    rw [List.length_append] at hl hk h h'
    rw [decide_eq_true (by rw [List.length_append]; omega), cond_true]
    obtain ⟨W, h1, h2, h3⟩ := sm_all hF hO P S1 S2 [] (List.length_pos_iff.1 (by omega)) (List.length_pos_iff.1 (by omega)) s2 (s3.asc (by omega)) (by simp only [List.length_append, List.length_nil]; omega)
    refine ⟨W, ?_, h2, .last (by rw [h2.length_eq, List.length_append]; omega) h3⟩
    have q1 : ((P.length + bs : Nat) : Int) = ((P.length + S1.length : Nat) : Int) := by rw [s1]
    have q2 : P ++ (S1 ++ S2) = P ++ S1 ++ S2 ++ [] := by simp
    have q3 : ((P.length + (S1 ++ S2).length : Nat) : Int) = ((P.length + S1.length + S2.length : Nat) : Int) := by rw [List.length_append]; omega
    rw [q1, q2, q3, h1, Option.bind_some, slices_stableCmpFunc_impl_Version_j3]
    simp
   ·rw [decide_eq_false (by omega), cond_false, slices_stableCmpFunc_impl_Version_j3]
    exact ⟨Q, rfl, List.Perm.refl _, .last (by omega) (hr.asc (by omega))⟩
theorem passes_ok : ∀ (k f bs : Nat) (Q : List T_impl_Version), Q.length - bs ≤ k → k < f → 0 < bs → bs < 1000000000 → Q.length < 500000000 → Runs cf bs Q →
  ∃ W, slices_stableCmpFunc_impl_Version_l1 (Q.length : Int) F f (bs : Int) Q = some W ∧ W.Perm Q ∧ Asc cf W
 | k, 0, bs, Q, _, hf, _, _, _, _ => absurd hf (by omega)
 | k, f + 1, bs, Q, hk, hf, hb, hb2, hn, hr => by
  rw [slices_stableCmpFunc_impl_Version_l1]
  by_cases h : bs < Q.length
  ·obtain ⟨k, rfl⟩ : ∃ k', k = k' + 1 := ⟨k - 1, by omega⟩
   rw [decide_eq_true (by omega), cond_true]
   obtain ⟨W, h1, h2, h3⟩ := pass_ok hF hO bs hb hb2 (slices_stableCmpFunc_impl_Version_l1 (Q.length : Int) F f) Q.length FUEL [] Q (Nat.le_refl _) (by unfold FUEL; omega) (by simp; omega) hr
   have w2 : w64 (2 * (bs : Int)) = ((([] : List T_impl_Version).length + 2 * bs : Nat) : Int) := by rw [w64_of (by omega) (by omega)]; simp
   have q1 : (Q.length : Int) = ((([] : List T_impl_Version).length + Q.length : Nat) : Int) := by simp
   have w3 : w64 ((bs : Int) * 2) = ((2 * bs : Nat) : Int) := by rw [w64_of (by omega) (by omega)]; omega
   have lW := h2.length_eq
   obtain ⟨W2, g1, g2, g3⟩ := passes_ok k f (2 * bs) W (by omega) (by omega) (by omega) (by omega) (by omega) h3
   refine ⟨W2, ?_, g2.trans h2, g3⟩
   have h1' : slices_stableCmpFunc_impl_Version_l2 (Q.length : Int) F (bs : Int) (slices_stableCmpFunc_impl_Version_l1 (Q.length : Int) F f) FUEL 0 (w64 (2 * (bs : Int))) Q = slices_stableCmpFunc_impl_Version_l1 (Q.length : Int) F f (w64 ((bs : Int) * 2)) W := by
    rw [w2]
    simp only [List.length_nil, Nat.zero_add, List.nil_append] at h1 ⊢
    exact h1
   rw [h1', w3, ← lW]
   exact g1
  ·rw [decide_eq_false (by omega), cond_false]
   exact ⟨Q, rfl, List.Perm.refl _, hr.asc (by omega)⟩
theorem stable_ok (Q : List T_impl_Version) (hn : Q.length < 500000000) : ∃ W, slices_SortStableFunc_impl_Version_impl_Version Q F = some W ∧ W.Perm Q ∧ Asc cf W := by
 obtain ⟨W, h1, h2, h3⟩ := blocks_ok hF hO Q.length FUEL [] Q (Nat.le_refl _) (by unfold FUEL; omega) (by simp; omega)
 have lW := h2.length_eq
 obtain ⟨W2, g1, g2, g3⟩ := passes_ok hF hO Q.length FUEL 20 W (by omega) (by unfold FUEL; omega) (by omega) (by omega) (by omega) h3
 have hp := g2.trans h2
 have lW2 := hp.length_eq
 refine ⟨W2, ?_, hp, g3⟩
 have e : (W2.length == Q.length) = true := by rw [lW2]; exact beq_self_eq_true _
 have h1' : slices_stableCmpFunc_impl_Version_l0 (Q.length : Int) F FUEL 0 20 Q = slices_stableCmpFunc_impl_Version_l1 (Q.length : Int) F FUEL 20 W := by
  simp only [List.length_nil, Nat.zero_add, List.nil_append] at h1
  exact h1
 have g1' : slices_stableCmpFunc_impl_Version_l1 (Q.length : Int) F FUEL 20 W = some W2 := by
  rw [← lW]
  exact g1
 unfold slices_SortStableFunc_impl_Version_impl_Version slices_SortStableFunc_impl_Version_impl_Version_w slices_stableCmpFunc_impl_Version slices_stableCmpFunc_impl_Version_w
 rw [h1', g1', Option.bind_some, e, cond_true, Option.bind_some, Option.bind_some, e, cond_true]
end
end Go.D
set_option linter.unusedVariables false
namespace Go.D
theorem g2 {α : Type} {xs : List α} (a b : α) : getI (xs ++ [a, b]) (xs.length : Int) = some a := by
 rw [getI_nat]
 simp
theorem g3 {α : Type} {xs : List α} (b : α) : getI (xs ++ [b]) (xs.length : Int) = some b := by
 rw [getI_nat]
 simp
section
variable {α : Type} {xs : List α} (h : xs.length ≤ 2097152)
include h
theorem g1 (a b : α) : getI (xs ++ [a, b]) (w64 (((xs ++ [a, b]).length : Int) - 1)) = some b := by
 have e : (((xs ++ [a, b]).length : Int) - 1) = ((xs.length + 1 : Nat) : Int) := by simp only [List.length_append, List.length_cons, List.length_nil]; omega
 rw [e, w64_of (by omega) (by omega), getI_nat]
 simp
end
section
variable {α : Type} {xs : List α}
end
end Go.D
set_option linter.unusedVariables false
namespace Go.D
end Go.D
set_option linter.unusedVariables false
namespace Go.D
end Go.D
set_option linter.unusedVariables false
namespace Go.D
end Go.D
set_option linter.unusedVariables false
namespace Go.D
def cmpI (a b : Int) : Int := if a < b then -1 else if a > b then 1 else 0
theorem impl_cmpI (a b : Int) : cmp_Compare_int a b = some (cmpI a b) := by
 unfold cmp_Compare_int cmp_isNaN_int cmpI
 simp only [beq_self_eq_true, Bool.not_true, Option.bind_some, cond_false]
 by_cases h : a < b
 ·simp [h]
 ·by_cases h2 : a > b
  ·simp [h, h2]
  ·simp [h, h2]
end Go.D
set_option linter.unusedVariables false
namespace Go.D
theorem ord_int : Ord3 cmpI := by
 refine ⟨fun x => ?_, fun x y e => ?_, fun x y e => ?_, fun x y z e1 e2 => ?_⟩ <;> unfold cmpI at *
 ·simp
 ·repeat' split at e
  all_goals (repeat' split) <;> omega
 ·repeat' split at e
  all_goals (repeat' split) <;> omega
 ·repeat' split at e1
  all_goals (repeat' split at e2)
  all_goals (repeat' split) <;> omega
end Go.D
set_option linter.unusedVariables false
namespace Go.D
theorem toList_loop (s : ByteArray) : ∀ (k i : Nat) (r : List UInt8), i + k = s.size → ByteArray.toList.loop s i r = r.reverse ++ s.data.toList.drop i
 | 0, i, r, h => by
  rw [ByteArray.toList.loop, if_neg (by omega), List.drop_of_length_le (by rw [Array.length_toList]; show s.size ≤ i; omega), List.append_nil]
 | k + 1, i, r, h => by
  have hi : i < s.data.toList.length := by rw [Array.length_toList]; show i < s.size; omega
  rw [ByteArray.toList.loop, if_pos (by omega), toList_loop s k (i + 1) _ (by omega), List.drop_eq_getElem_cons hi, List.reverse_cons, List.append_assoc]
  congr 1
  rw [List.singleton_append]
  congr 1
  show s.data[i]! = _
  rw [getElem!_pos s.data i (by rw [Array.length_toList] at hi; exact hi)]
  simp
theorem bytes_toList (s : ByteArray) : s.toList = s.data.toList := by
 unfold ByteArray.toList
 rw [toList_loop s s.size 0 [] (by omega)]
 simp
end Go.D
set_option linter.unusedVariables false
namespace Go.D
def cfV (a b : T_impl_Version) : Int := if cmpI a.fKey b.fKey ≠ 0 then cmpI a.fKey b.fKey else cmpI a.fBorn b.fBorn
theorem ord_ver : Ord3 cfV := (ord_int.on T_impl_Version.fKey).lex (ord_int.on T_impl_Version.fBorn)
theorem impl_or2 (a b : Int) : cmp_Or_int [a, b] = some (if a ≠ 0 then a else b) := by
 have := loop_opt (xs := [a, b]) (L := fun f i (_ : Unit) => cmp_Or_int_l0 [a, b] f i) (fun rest _ => some ((rest.find? fun x => !(x == 0)).getD 0)) (fun _ _ => True) (by simp)
  (fun f i s v hi hv hw _ => by
   have hc : cmp_Or_int_l0 [a, b] (f + 1) i = bif !(v == 0) then some v else cmp_Or_int_l0 [a, b] f ((i + 1 : Nat) : Int) := by
    rw [cmp_Or_int_l0, decide_eq_true (by omega), cond_true, getI_nat, hv, Option.bind_some, hw]
   cases hz : !(v == 0) with
   | true => exact .inl (by rw [hc, hz, cond_true, List.find?_cons, hz]; rfl)
   | false => exact .inr ⟨(), trivial, by rw [hc, hz, cond_false], by rw [List.find?_cons, hz]⟩)
  (fun f s _ => by rw [cmp_Or_int_l0, decide_eq_false (Int.lt_irrefl _), cond_false]; rfl) (s := ()) trivial
 have e : cmp_Or_int [a, b] = some ((([a, b] : List Int).find? fun x => !(x == 0)).getD 0) := this
 rw [e]
 by_cases ha : a = 0
 ·subst ha
  by_cases hb : b = 0
  ·subst hb; rfl
  ·have : (b == 0) = false := beq_eq_false_iff_ne.2 hb
   simp [List.find?, this]
 ·have : (a == 0) = false := beq_eq_false_iff_ne.2 ha
  simp [List.find?, this, ha]
theorem impl_cfV (a b : T_impl_Version) : impl_written_1 a b = some (cfV a b) := by
 unfold impl_written_1
 simp only [impl_cmpI, impl_or2, Option.bind_some, cfV]
theorem cfV_lt {a b : T_impl_Version} (h : a.fKey < b.fKey ∨ a.fKey = b.fKey ∧ a.fBorn < b.fBorn) : cfV a b < 0 := by
 unfold cfV cmpI
 rcases h with h | ⟨h1, h2⟩
 ·rw [if_pos h]
  simp
 ·have n1 : ¬ a.fKey < b.fKey := by omega
  have n2 : ¬ a.fKey > b.fKey := by omega
  rw [if_neg n1, if_neg n2, if_neg (by simp), if_pos h2]
  omega
def newL (w : T_impl_Write) (t : Int) : List T_impl_Version := bif w.fGone then [] else [newV w t]
def rawV (xs : List T_impl_Version) (ws : List T_impl_Write) (t : Int) : List T_impl_Version := ws.foldl (fun ys w => ys.map (closeV w t) ++ newL w t) xs
theorem putR_perm (w : T_impl_Write) (t : Int) : ∀ (d : Bool) (xs : List T_impl_Version), (putR w t d xs).Perm (xs.map (closeV w t) ++ (bif d then [] else [newV w t]))
 | true, [] => List.Perm.refl _
 | false, [] => List.Perm.refl _
 | d, v :: r => by
  unfold putR
  cases hc : decide (v.fKey > w.fKey) && !d with
  | true =>
   have hd : d = false := by cases d <;> simp_all
   subst hd
   rw [cond_true]
   have := putR_perm w t true r
   rw [cond_true, List.append_nil] at this
   refine (List.Perm.cons _ (List.Perm.cons _ this)).trans ?_
   rw [cond_false, List.map_cons]
   exact (List.perm_append_comm (l₁ := [newV w t]) (l₂ := closeV w t v :: r.map (closeV w t)))
  | false =>
   rw [cond_false]
   exact List.Perm.cons _ (putR_perm w t d r)
theorem written_perm (t : Int) : ∀ (ws : List T_impl_Write) {xs ys : List T_impl_Version}, xs.Perm ys → (writtenV xs ws t).Perm (rawV ys ws t)
 | [], xs, ys, h => h
 | w :: ws, xs, ys, h => written_perm t ws ((putR_perm w t w.fGone xs).trans (List.Perm.append_right _ (h.map _)))
theorem closeV_key (w : T_impl_Write) (t : Int) (v : T_impl_Version) : (closeV w t v).fKey = v.fKey ∧ (closeV w t v).fBorn = v.fBorn := by
 unfold closeV
 cases v.fKey == w.fKey && v.fDied == 0 <;> exact ⟨rfl, rfl⟩
theorem closeV_died (w : T_impl_Write) (t : Int) (v : T_impl_Version) : (v.fKey = w.fKey ∧ v.fDied = 0 ∧ (closeV w t v).fDied = t) ∨ (¬ (v.fKey = w.fKey ∧ v.fDied = 0) ∧ closeV w t v = v) := by
 unfold closeV
 cases h : v.fKey == w.fKey && v.fDied == 0 with
 | true =>
  simp only [Bool.and_eq_true, beq_iff_eq] at h
  exact .inl ⟨h.1, h.2, rfl⟩
 | false =>
  refine .inr ⟨fun q => ?_, rfl⟩
  rw [q.1, q.2] at h
  simp at h
theorem putR_mem {w : T_impl_Write} {t : Int} {d : Bool} {xs : List T_impl_Version} {u : T_impl_Version} (h : u ∈ putR w t d xs) : (∃ v ∈ xs, u = closeV w t v) ∨ (d = false ∧ u = newV w t) := by
 have := (putR_perm w t d xs).subset h
 rcases List.mem_append.1 this with h | h
 ·obtain ⟨v, h1, h2⟩ := List.mem_map.1 h
  exact .inl ⟨v, h1, h2.symm⟩
 ·cases d with
  | true => cases h
  | false => exact .inr ⟨rfl, by simpa using h⟩
theorem putR_pair {w : T_impl_Write} {t : Int} (ht : 1 ≤ t) : ∀ (d : Bool) (xs : List T_impl_Version), xs.Pairwise disV → (∀ v ∈ xs, v.fKey = w.fKey → v.fBorn < t ∧ v.fDied < t) → (putR w t d xs).Pairwise disV
 | true, [], _, _ => List.Pairwise.nil
 | false, [], _, _ => List.pairwise_singleton _ _
 | d, v :: r, hp, hk => by
  rw [List.pairwise_cons] at hp
  have hr := fun d => putR_pair ht d r hp.2 fun u hu => hk u (List.mem_cons_of_mem _ hu)
  have hcc : ∀ u ∈ r, disV (closeV w t v) (closeV w t u) := fun u hu => by
   have h0 := hp.1 u hu
   obtain ⟨k1, k2⟩ := closeV_key w t v
   obtain ⟨k3, k4⟩ := closeV_key w t u
   have hd := closeV_died w t v
   unfold disV at h0 ⊢
   rw [k1, k2, k3, k4]
   rcases h0 with h0 | ⟨h1, h2, h3, h4⟩
   ·exact .inl h0
   ·rcases hd with ⟨_, q, _⟩ | ⟨_, q⟩
    ·exact absurd q h2
    ·rw [q]
     exact .inr ⟨h1, h2, h3, h4⟩
  unfold putR
  cases hc : decide (v.fKey > w.fKey) && !d with
  | true =>
   have hgt : v.fKey > w.fKey := by
    simp only [Bool.and_eq_true, decide_eq_true_eq] at hc
    exact hc.1
   rw [cond_true, List.pairwise_cons, List.pairwise_cons]
   refine ⟨fun u hu => ?_, fun u hu => ?_, hr true⟩
   ·left
    show w.fKey < u.fKey
    rcases List.mem_cons.1 hu with rfl | hu
    ·rw [(closeV_key w t v).1]; exact hgt
    ·rcases putR_mem hu with ⟨x, hx, rfl⟩ | ⟨e, _⟩
     ·rw [(closeV_key w t x).1]
      have := hp.1 x hx
      unfold disV at this
      omega
     ·cases e
   ·rcases putR_mem hu with ⟨x, hx, rfl⟩ | ⟨e, _⟩
    ·exact hcc x hx
    ·cases e
  | false =>
   rw [cond_false, List.pairwise_cons]
   refine ⟨fun u hu => ?_, hr d⟩
   rcases putR_mem hu with ⟨x, hx, rfl⟩ | ⟨e, rfl⟩
   ·exact hcc x hx
   ·subst e
    simp only [Bool.not_false, Bool.and_true, decide_eq_false_iff_not] at hc
    obtain ⟨k1, k2⟩ := closeV_key w t v
    unfold disV
    rw [k1, k2]
    by_cases hlt : v.fKey < w.fKey
    ·exact .inl hlt
    ·have he : v.fKey = w.fKey := by omega
     obtain ⟨b1, b2⟩ := hk v (by simp) he
     right
     show v.fKey = w.fKey ∧ (closeV w t v).fDied ≠ 0 ∧ (closeV w t v).fDied ≤ t ∧ v.fBorn < t
     rcases closeV_died w t v with ⟨_, _, q⟩ | ⟨q, q2⟩
     ·rw [q]; exact ⟨he, by omega, by omega, b1⟩
     ·rw [q2]
      exact ⟨he, fun z => q ⟨he, z⟩, by omega, b1⟩
structure InvV (T : Int) (xs : List T_impl_Version) : Prop where
 g : ∀ v ∈ xs, verG v = true
 d : xs.Pairwise disV
 t : ∀ v ∈ xs, v.fBorn ≤ T ∧ v.fDied ≤ T
theorem wOk_iff (ws : List T_impl_Write) : wOk ws = true ↔ (∀ w ∈ ws, wrG w = true) ∧ ws.Pairwise fun a b => a.fKey < b.fKey := by
 constructor
 ·intro h
  unfold wOk at h
  have ha := List.all_eq_true.1 h
  refine ⟨fun w hw => ?_, asc_of_adj (R := fun a b : T_impl_Write => a.fKey < b.fKey) (fun a b c h1 h2 => Int.lt_trans h1 h2) fun i hi => ?_⟩
  ·obtain ⟨i, hi, rfl⟩ := List.getElem_of_mem hw
   have := ha i (List.mem_range.2 hi)
   unfold wrP at this
   rw [List.getElem?_eq_getElem hi] at this
   simp only [Bool.and_eq_true] at this
   exact this.1
  ·have := ha (i + 1) (List.mem_range.2 hi)
   unfold wrP at this
   rw [List.getElem?_eq_getElem hi, Nat.add_sub_cancel, List.getElem?_eq_getElem (show i < ws.length by omega)] at this
   simp only [Bool.and_eq_true] at this
   have e : (i + 1 == 0) = false := beq_eq_false_iff_ne.2 (by omega)
   rw [e, Bool.false_or] at this
   exact of_decide_eq_true this.2
 ·rintro ⟨h1, h2⟩
  unfold wOk
  refine List.all_eq_true.2 fun i hi => ?_
  have hi := List.mem_range.1 hi
  unfold wrP
  rw [List.getElem?_eq_getElem hi]
  simp only [Bool.and_eq_true]
  refine ⟨h1 _ (List.getElem_mem hi), ?_⟩
  by_cases h0 : i = 0
  ·subst h0; rfl
  ·rw [List.getElem?_eq_getElem (show i - 1 < ws.length by omega)]
   have := List.pairwise_iff_getElem.1 h2 (i - 1) i (by omega) hi (by omega)
   simp only [decide_eq_true this, Bool.or_true]
theorem wrG_iff (w : T_impl_Write) : wrG w = true ↔ (0 ≤ w.fKey ∧ w.fKey ≤ 4) ∧ rowOk w.fRow = true ∧ (w.fGone = true → w.fRow = []) := by
 unfold wrG inR
 simp only [Bool.and_eq_true, decide_eq_true_eq, Bool.not_eq_true', Bool.and_eq_false_iff, decide_eq_false_iff_not]
 constructor
 ·rintro ⟨h1, h2, h3⟩
  refine ⟨h1, h2, fun hg => ?_⟩
  rcases h3 with h3 | h3
  ·rw [hg] at h3; cases h3
  ·exact List.eq_nil_of_length_eq_zero (by omega)
 ·rintro ⟨h1, h2, h3⟩
  refine ⟨h1, h2, ?_⟩
  cases hg : w.fGone with
  | false => exact .inl rfl
  | true => exact .inr (by rw [h3 hg]; simp)
theorem wOk_len {ws : List T_impl_Write} (h : wOk ws = true) : ws.length ≤ 5 := by
 obtain ⟨h1, h2⟩ := (wOk_iff ws).1 h
 have key : ∀ i (hi : i < ws.length), (i : Int) ≤ ws[i].fKey := by
  intro i
  induction i with
  | zero =>
   intro hi
   have := ((wrG_iff _).1 (h1 _ (List.getElem_mem hi))).1.1
   simpa using this
  | succ i ih =>
   intro hi
   have a := ih (by omega)
   have b := List.pairwise_iff_getElem.1 h2 i (i + 1) (by omega) hi (by omega)
   omega
 rcases Nat.lt_or_ge 5 ws.length with h5 | h5
 ·have a := key 5 h5
  have b := ((wrG_iff _).1 (h1 _ (List.getElem_mem h5))).1.2
  omega
 ·exact h5
theorem putR_g {w : T_impl_Write} {t : Int} (ht : 1 ≤ t) (ht2 : t ≤ 40) (hw : wrG w = true) {xs : List T_impl_Version} (hg : ∀ v ∈ xs, verG v = true) (hk : ∀ v ∈ xs, v.fKey = w.fKey → v.fBorn < t ∧ v.fDied < t) (d : Bool) : ∀ u ∈ putR w t d xs, verG u = true := by
 intro u hu
 rcases putR_mem hu with ⟨v, hv, rfl⟩ | ⟨_, rfl⟩
 ·rcases closeV_died w t v with ⟨q1, q2, q3⟩ | ⟨_, q⟩
  ·obtain ⟨k1, k2⟩ := closeV_key w t v
   obtain ⟨g1, g2, g3, g4⟩ := (verG_iff _).1 (hg v hv)
   have hb := hk v hv q1
   rw [verG_iff, k1, k2, q3, closeV_row]
   exact ⟨g1, g2, .inr ⟨by omega, ht2⟩, g4⟩
  ·rw [q]
   exact hg v hv
 ·obtain ⟨g1, g2, g3⟩ := (wrG_iff _).1 hw
  rw [verG_iff]
  exact ⟨g1, ⟨ht, ht2⟩, .inl rfl, g2⟩
theorem written_inv {T t : Int} (hT : T < t) (ht : 1 ≤ t) (ht2 : t ≤ 40) {ws : List T_impl_Write} (hw : wOk ws = true) {xs : List T_impl_Version} (h : InvV T xs) : InvV t (writtenV xs ws t) ∧ (writtenV xs ws t).length ≤ xs.length + ws.length := by
 obtain ⟨w1, w2⟩ := (wOk_iff ws).1 hw
 have main : ∀ (ws : List T_impl_Write) (ys : List T_impl_Version), (∀ w ∈ ws, wrG w = true) → ws.Pairwise (fun a b => a.fKey < b.fKey) → (∀ v ∈ ys, verG v = true) → ys.Pairwise disV → (∀ v ∈ ys, v.fBorn ≤ t ∧ v.fDied ≤ t) → (∀ v ∈ ys, ∀ w ∈ ws, v.fKey = w.fKey → v.fBorn < t ∧ v.fDied < t) →
   InvV t (writtenV ys ws t) := by
  intro ws
  induction ws with
  | nil => exact fun ys _ _ h1 h2 h3 _ => ⟨h1, h2, h3⟩
  | cons w ws ih =>
   intro ys hw hp h1 h2 h3 h4
   rw [List.pairwise_cons] at hp
   have hk : ∀ v ∈ ys, v.fKey = w.fKey → v.fBorn < t ∧ v.fDied < t := fun v hv e => h4 v hv w (by simp) e
   refine ih (putR w t w.fGone ys) (fun u hu => hw u (List.mem_cons_of_mem _ hu)) hp.2 (putR_g ht ht2 (hw w (by simp)) h1 hk _) (putR_pair ht _ _ h2 hk) (fun u hu => ?_) (fun u hu w' hw' e => ?_)
   ·rcases putR_mem hu with ⟨v, hv, rfl⟩ | ⟨_, rfl⟩
    ·obtain ⟨k1, k2⟩ := closeV_key w t v
     have := h3 v hv
     rcases closeV_died w t v with ⟨_, _, q⟩ | ⟨_, q⟩
     ·rw [k2, q]; exact ⟨this.1, Int.le_refl _⟩
     ·rw [q]; exact this
    ·exact ⟨Int.le_refl _, by show (0 : Int) ≤ t; omega⟩
   ·rcases putR_mem hu with ⟨v, hv, rfl⟩ | ⟨_, rfl⟩
    ·obtain ⟨k1, k2⟩ := closeV_key w t v
     rw [k1] at e
     rcases closeV_died w t v with ⟨q, _⟩ | ⟨_, q⟩
     ·have := hp.1 w' hw'
      omega
     ·rw [q]
      exact h4 v hv w' (List.mem_cons_of_mem _ hw') e
    ·have e : w.fKey = w'.fKey := e
     have := hp.1 w' hw'
     omega
 refine ⟨main ws xs w1 w2 h.g h.d (fun v hv => ?_) fun v hv w _ _ => ?_, (written_small (Q := fun _ => True) t ws xs (fun _ _ => trivial) fun _ _ => trivial).1⟩
 ·have := h.t v hv; omega
 ·have := h.t v hv; omega
theorem disV_lt {xs : List T_impl_Version} (h : xs.Pairwise disV) : xs.Pairwise fun a b => cfV a b < 0 := h.imp fun {a b} hab => cfV_lt (by unfold disV at hab; omega)
theorem valOk_sm {v : T_impl_Value} (h : valOk v = true) : SmV v := by
 unfold SmV
 have key : ∀ s : ByteArray, (s.toList == (ByteArray.mk #[]).toList) = true → s.size ≤ 2097152 := fun s hs => by
  have h1 : s.toList = (ByteArray.mk #[]).toList := by simpa using hs
  rw [bytes_toList, bytes_toList] at h1
  have : s = ByteArray.mk #[] := ByteArray.ext (Array.toList_inj.1 h1)
  rw [this]
  decide
 unfold valOk at h
 cases h0 : v.fKind == 0 with
 | true =>
  rw [h0, cond_true, Bool.and_eq_true] at h
  exact key _ h.2
 | false =>
  rw [h0, cond_false] at h
  cases h1 : v.fKind == 1 with
  | true =>
   rw [h1, cond_true, Bool.and_eq_true] at h
   exact key _ h.2
  | false =>
   rw [h1, cond_false] at h
   cases h2 : v.fKind == 2 with
   | true =>
    rw [h2, cond_true, Bool.and_eq_true] at h
    have ht := h.2
    unfold textOk at ht
    rw [Bool.and_eq_true] at ht
    have := of_decide_eq_true ht.2
    omega
   | false =>
    rw [h2, cond_false] at h
    cases h3 : v.fKind == 3 with
    | true =>
     rw [h3, cond_true, Bool.and_eq_true] at h
     exact key _ h.2
    | false =>
     rw [h3] at h
     cases h
theorem rowOk_sm {r : List T_impl_Value} (h : rowOk r = true) : SmR r := by
 unfold rowOk at h
 rw [Bool.and_eq_true] at h
 have := of_decide_eq_true h.2
 exact ⟨by omega, fun v hv => valOk_sm (List.all_eq_true.1 h.1 v hv)⟩
theorem InvV.sm {T : Int} {xs : List T_impl_Version} (h : InvV T xs) (hl : Sm xs.length) : SmVers xs := ⟨hl, fun v hv => rowOk_sm ((verG_iff v).1 (h.g v hv)).2.2.2⟩
theorem wOk_sm {ws : List T_impl_Write} (h : wOk ws = true) : SmWrs ws := ⟨by have := wOk_len h; omega, fun w hw => rowOk_sm ((wrG_iff w).1 (((wOk_iff ws).1 h).1 w hw)).2.1⟩
theorem impl_close {xs : List T_impl_Version} (hl : Sm xs.length) (w : T_impl_Write) (hr : SmR w.fRow) (t x4 : Int) (K : Int → List T_impl_Version → Option (List T_impl_Version)) :
  impl_written_l1 t x4 xs K w FUEL 0 xs = K (w64 (x4 + 1)) (xs.map (closeV w t) ++ newL w t) := by
 have := loop_opt (xs := xs) (L := fun f i (s : List T_impl_Version) => impl_written_l1 t x4 xs K w f i s) (fun rest s => K (w64 (x4 + 1)) (s.take (xs.length - rest.length) ++ rest.map (closeV w t) ++ newL w t)) (fun i s => s = (xs.take i).map (closeV w t) ++ xs.drop i) (by omega)
  (fun f i s v hi hv hw hI => by
   subst hI
   have hil : ((xs.take i).map (closeV w t)).length = i := by rw [List.length_map, List.length_take]; omega
   have ed : xs.drop i = v :: xs.drop (i + 1) := by
    rw [List.drop_eq_getElem_cons hi]
    rw [List.getElem?_eq_getElem hi] at hv
    rw [Option.some.inj hv]
   have et : xs.take (i + 1) = xs.take i ++ [v] := by rw [List.take_add_one, hv]; rfl
   have hg : getI ((xs.take i).map (closeV w t) ++ xs.drop i) (i : Int) = some v := by
    have e := getI_at ((xs.take i).map (closeV w t)) v (xs.drop (i + 1))
    rw [hil] at e
    rw [ed, e]
   have hset : ∀ y, ((xs.take i).map (closeV w t) ++ xs.drop i).set i y = (xs.take i).map (closeV w t) ++ y :: xs.drop (i + 1) := fun y => by
    have e := set_at ((xs.take i).map (closeV w t)) v y (xs.drop (i + 1))
    rw [hil] at e
    rw [ed, e]
   refine .inr ⟨(xs.take (i + 1)).map (closeV w t) ++ xs.drop (i + 1), rfl, ?_, ?_⟩
   ·rw [impl_written_l1, decide_eq_true (by omega), cond_true, hg, Option.bind_some, et, List.map_append]
    have fin : ∀ b, b = (v.fKey == w.fKey && v.fDied == 0) → impl_written_j2 t (i : Int) ((xs.take i).map (closeV w t) ++ xs.drop i) (impl_written_l1 t x4 xs K w f) b = impl_written_l1 t x4 xs K w f ((i + 1 : Nat) : Int) ((xs.take i).map (closeV w t) ++ [v].map (closeV w t) ++ xs.drop (i + 1)) := by
     intro b hb
     unfold impl_written_j2
     have hc : closeV w t v = bif b then { v with fDied := t } else v := by rw [hb]; rfl
     rw [List.map_cons, List.map_nil, hc]
     cases b with
     | true =>
      rw [cond_true, hg, Option.bind_some, cond_true, hw, Int.toNat_natCast, hset]
      simp
     | false =>
      rw [cond_false, cond_false, hw, ed]
      simp
    cases hk : v.fKey == w.fKey with
    | true =>
     rw [cond_true, Option.bind_some]
     exact fin _ (by rw [hk, Bool.true_and])
    | false =>
     rw [cond_false]
     exact fin false (by rw [hk, Bool.false_and])
   ·congr 1
    have q1 : xs.length - (v :: xs.drop (i + 1)).length = i := by simp; omega
    have q2 : xs.length - (xs.drop (i + 1)).length = i + 1 := by simp; omega
    rw [q1, q2]
    have t1 : ((xs.take i).map (closeV w t) ++ xs.drop i).take i = (xs.take i).map (closeV w t) := by
     rw [List.take_append_of_le_length (by omega), List.take_of_length_le (by omega)]
    have hil2 : ((xs.take (i + 1)).map (closeV w t)).length = i + 1 := by rw [List.length_map, List.length_take]; omega
    have t2 : ((xs.take (i + 1)).map (closeV w t) ++ xs.drop (i + 1)).take (i + 1) = (xs.take (i + 1)).map (closeV w t) := by
     rw [List.take_append_of_le_length (by omega), List.take_of_length_le (by omega)]
    rw [t1, t2, et]
    simp)
  (fun f s hI => by
   subst hI
   have hr1 := hr.1
   have q2 : xs.length - ([] : List T_impl_Version).length = xs.length := by simp
   rw [impl_written_l1, decide_eq_false (Int.lt_irrefl _), cond_false, List.take_length, List.drop_length, List.append_nil, q2]
   have t2 : (xs.map (closeV w t)).take xs.length = xs.map (closeV w t) := List.take_of_length_le (by simp)
   rw [t2]
   unfold newL
   cases w.fGone with
   | true => simp
   | false =>
    rw [Bool.not_false, cond_true, impl_cloneVR (by omega), Option.bind_some, app_lt (by simp; omega), Option.bind_some, cond_false]
    simp [newV]) (s := xs) (by simp)
 have e : impl_written_l1 t x4 xs K w FUEL 0 xs = _ := this
 rw [e]
 simp
theorem raw_len (t : Int) : ∀ (ws : List T_impl_Write) (xs : List T_impl_Version), (rawV xs ws t).length ≤ xs.length + ws.length
 | [], xs => Nat.le_refl _
 | w :: ws, xs => by
  have := raw_len t ws (xs.map (closeV w t) ++ newL w t)
  have h2 : (newL w t).length ≤ 1 := by unfold newL; cases w.fGone <;> simp
  show (rawV (xs.map (closeV w t) ++ newL w t) ws t).length ≤ _
  simp only [List.length_append, List.length_map, List.length_cons] at this ⊢
  omega
theorem impl_writtenV {T t : Int} (hT : T < t) (ht : 1 ≤ t) (ht2 : t ≤ 40) {ws : List T_impl_Write} (hw : wOk ws = true) {xs : List T_impl_Version} (h : InvV T xs) (hl : xs.length ≤ 1000000) : impl_written xs ws t = some (writtenV xs ws t) := by
 have hwl := wOk_len hw
 have hws := wOk_sm hw
 unfold impl_written
 rw [impl_copyVR (h.sm (by omega)), Option.bind_some]
 have := loop_opt (xs := ws) (L := fun f i (s : List T_impl_Version) => impl_written_l0 ws t f i s) (fun rest s => (slices_SortStableFunc_impl_Version_impl_Version (rawV s rest t) impl_written_1).bind fun v32 => (slices_Clip_impl_Version_impl_Version v32).bind fun v34 => some v34) (fun i s => s.length ≤ xs.length + i) (by omega)
  (fun f i s w hi hv hw' hI => .inr ⟨s.map (closeV w t) ++ newL w t, by
    have h2 : (newL w t).length ≤ 1 := by unfold newL; cases w.fGone <;> simp
    simp only [List.length_append, List.length_map]
    omega, by
    rw [impl_written_l0, decide_eq_true (by omega), cond_true, getI_nat, hv, Option.bind_some, impl_close (by omega) w (hws.2 w (List.mem_of_getElem? hv)), hw'], rfl⟩)
  (fun f s hI => by
   rw [impl_written_l0, decide_eq_false (Int.lt_irrefl _), cond_false]
   rfl) (s := xs) (by omega)
 have e : impl_written_l0 ws t FUEL 0 xs = _ := this
 rw [e]
 have hrl := raw_len t ws xs
 obtain ⟨W, h1, h2, h3⟩ := stable_ok (F := impl_written_1) impl_cfV ord_ver (rawV xs ws t) (by omega)
 have hI := (written_inv hT ht ht2 hw h).1
 have hWe : writtenV xs ws t = W := perm_uniq ord_ver ((written_perm t ws (List.Perm.refl xs)).trans h2.symm) (disV_lt hI.d) h3
 rw [h1, Option.bind_some, impl_clipV, hWe]
 rfl
end Go.D
set_option linter.unusedVariables false
namespace Go.D
def runV (xs : List T_impl_Version) (log : List T_impl_Entry) : List T_impl_Version := log.foldl (fun ys e => writtenV ys e.fWrites e.fTime) xs
def entG (e : T_impl_Entry) : Bool := inR e.fTime 1 40 && wOk e.fWrites
def logP (log : List T_impl_Entry) (i : Nat) : Bool := match log[i]? with
 | some e => entG e && (i == 0 || match log[i - 1]? with | some u => decide (u.fTime < e.fTime) | none => true)
 | none => true
def logOk (log : List T_impl_Entry) : Bool := (List.range log.length).all (logP log) && decide (log.length ≤ 12)
def SmLog (log : List T_impl_Entry) : Prop := Sm log.length ∧ ∀ e ∈ log, SmWrs e.fWrites
theorem entG_iff (e : T_impl_Entry) : entG e = true ↔ (1 ≤ e.fTime ∧ e.fTime ≤ 40) ∧ wOk e.fWrites = true := by
 unfold entG inR
 simp only [Bool.and_eq_true, decide_eq_true_eq]
def AscL (log : List T_impl_Entry) : Prop := log.Pairwise fun a b => a.fTime < b.fTime
theorem logOk_iff (log : List T_impl_Entry) : logOk log = true ↔ (∀ e ∈ log, entG e = true) ∧ AscL log ∧ log.length ≤ 12 := by
 constructor
 ·intro h
  unfold logOk at h
  rw [Bool.and_eq_true] at h
  have ha := List.all_eq_true.1 h.1
  refine ⟨fun w hw => ?_, asc_of_adj (R := fun a b : T_impl_Entry => a.fTime < b.fTime) (fun a b c h1 h2 => Int.lt_trans h1 h2) fun i hi => ?_, of_decide_eq_true h.2⟩
  ·obtain ⟨i, hi, rfl⟩ := List.getElem_of_mem hw
   have := ha i (List.mem_range.2 hi)
   unfold logP at this
   rw [List.getElem?_eq_getElem hi] at this
   simp only [Bool.and_eq_true] at this
   exact this.1
  ·have := ha (i + 1) (List.mem_range.2 hi)
   unfold logP at this
   rw [List.getElem?_eq_getElem hi, Nat.add_sub_cancel, List.getElem?_eq_getElem (show i < log.length by omega)] at this
   simp only [Bool.and_eq_true] at this
   have e : (i + 1 == 0) = false := beq_eq_false_iff_ne.2 (by omega)
   rw [e, Bool.false_or] at this
   exact of_decide_eq_true this.2
 ·rintro ⟨h1, h2, h3⟩
  unfold logOk
  rw [Bool.and_eq_true]
  refine ⟨List.all_eq_true.2 fun i hi => ?_, decide_eq_true h3⟩
  have hi := List.mem_range.1 hi
  unfold logP
  rw [List.getElem?_eq_getElem hi]
  simp only [Bool.and_eq_true]
  refine ⟨h1 _ (List.getElem_mem hi), ?_⟩
  by_cases h0 : i = 0
  ·subst h0; rfl
  ·rw [List.getElem?_eq_getElem (show i - 1 < log.length by omega)]
   have := List.pairwise_iff_getElem.1 h2 (i - 1) i (by omega) hi (by omega)
   simp only [decide_eq_true this, Bool.or_true]
theorem impl_wOk {ws : List T_impl_Write} (h : SmWrs ws) : impl_WritesOk ws = some (wOk ws) := by
 have hl := h.1
 unfold impl_WritesOk
 have := loop_idx (n := ws.length) (L := impl_WritesOk_l0 ws) (p := wrP ws) (fin := decide (ws.length ≤ 5)) (by omega) (fun f i hi hw => by
  have hv : ws[i]? = some ws[i] := List.getElem?_eq_getElem hi
  have hg : getI ws (i : Int) = some ws[i] := by rw [getI_nat, hv]
  have hk : impl_keyOk ws[i].fKey = some (inR ws[i].fKey 0 4) := by
   unfold impl_keyOk
   rw [impl_in]
   rfl
  rw [impl_WritesOk_l0, decide_eq_true (by omega), cond_true, hg, Option.bind_some, hk, Option.bind_some, impl_rowOk (h.2 _ (List.getElem_mem hi)), Option.bind_some]
  unfold wrP wrG
  rw [hv]
  simp only
  have hlen : decide ((ws[i].fRow.length : Int) > 0) = decide (0 < ws[i].fRow.length) := decide_eq_decide.2 (by omega)
  rw [hlen]
  cases inR ws[i].fKey 0 4 with
  | false => rfl
  | true =>
   cases rowOk ws[i].fRow with
   | false => rfl
   | true =>
    simp only [Bool.not_true, cond_false, Bool.true_and]
    by_cases h0 : i = 0
    ·subst h0
     simp only [show decide (((0 : Nat) : Int) > 0) = false from rfl, cond_false, impl_WritesOk_j1, hw]
     cases ws[0].fGone <;> cases decide (0 < ws[0].fRow.length) <;> rfl
    ·have hi1 : i - 1 < ws.length := by omega
     have hw1 : w64 ((i : Int) - 1) = ((i - 1 : Nat) : Int) := by rw [w64_of (by omega) (by omega)]; omega
     have hv1 : ws[i - 1]? = some ws[i - 1] := List.getElem?_eq_getElem hi1
     have e0 : (i == 0) = false := by simpa using h0
     have hge : decide (ws[i - 1].fKey ≥ ws[i].fKey) = !(decide (ws[i - 1].fKey < ws[i].fKey)) := by
      rw [← decide_not]
      exact decide_eq_decide.2 (by omega)
     simp only [decide_eq_true (show (i : Int) > 0 by omega), cond_true, hw1, getI_nat, hv1, Option.bind_some, e0, Bool.false_or, impl_WritesOk_j1, hw, hge]
     cases ws[i].fGone <;> cases decide (0 < ws[i].fRow.length) <;> cases decide (ws[i - 1].fKey < ws[i].fKey) <;> rfl)
  (fun f => by
   have e : decide ((ws.length : Int) ≤ 5) = decide (ws.length ≤ 5) := decide_eq_decide.2 (by omega)
   rw [impl_WritesOk_l0, decide_eq_false (Int.lt_irrefl _), cond_false, e])
 rw [this]
 show some (wOk ws && decide (ws.length ≤ 5)) = _
 cases h : wOk ws with
 | false => rfl
 | true => rw [decide_eq_true (wOk_len h)]; rfl
theorem impl_logOk {log : List T_impl_Entry} (h : SmLog log) : impl_LogOk log = some (logOk log) := by
 have hl := h.1
 unfold impl_LogOk logOk
 refine loop_idx (by omega) (fun f i hi hw => ?_) (fun f => ?_)
 ·have hv : log[i]? = some log[i] := List.getElem?_eq_getElem hi
  have hg : getI log (i : Int) = some log[i] := by rw [getI_nat, hv]
  rw [impl_LogOk_l0, decide_eq_true (by omega), cond_true, hg, Option.bind_some, impl_in, Option.bind_some, impl_wOk (h.2 _ (List.getElem_mem hi))]
  unfold logP entG
  rw [hv]
  simp only
  cases inR log[i].fTime 1 40 with
  | false => rfl
  | true =>
   simp only [Bool.not_true, cond_false, Bool.true_and]
   by_cases h0 : i = 0
   ·subst h0
    simp only [show decide (((0 : Nat) : Int) > 0) = false from rfl, cond_false, impl_LogOk_j1, hw, Option.bind_some]
    cases wOk log[0].fWrites <;> rfl
   ·have hi1 : i - 1 < log.length := by omega
    have hw1 : w64 ((i : Int) - 1) = ((i - 1 : Nat) : Int) := by rw [w64_of (by omega) (by omega)]; omega
    have hv1 : log[i - 1]? = some log[i - 1] := List.getElem?_eq_getElem hi1
    have e0 : (i == 0) = false := by simpa using h0
    have hge : decide (log[i - 1].fTime ≥ log[i].fTime) = !(decide (log[i - 1].fTime < log[i].fTime)) := by
     rw [← decide_not]
     exact decide_eq_decide.2 (by omega)
    simp only [decide_eq_true (show (i : Int) > 0 by omega), cond_true, hw1, getI_nat, hv1, Option.bind_some, e0, Bool.false_or, impl_LogOk_j1, hw, hge]
    cases wOk log[i].fWrites <;> cases decide (log[i - 1].fTime < log[i].fTime) <;> rfl
 ·have e : decide ((log.length : Int) ≤ 12) = decide (log.length ≤ 12) := decide_eq_decide.2 (by omega)
  rw [impl_LogOk_l0, decide_eq_false (Int.lt_irrefl _), cond_false, e]
theorem spec_logOk {log : List T_impl_Entry} (h : SmLog log) : spec_LogOk log = some (logOk log) := by
 have hl := h.1
 unfold spec_LogOk logOk
 refine loop_idx (by omega) (fun f i hi hw => ?_) (fun f => ?_)
 ·have hv : log[i]? = some log[i] := List.getElem?_eq_getElem hi
  have hg : getI log (i : Int) = some log[i] := by rw [getI_nat, hv]
  rw [spec_LogOk_l0, decide_eq_true (by omega), cond_true, hg, Option.bind_some, spec_in, Option.bind_some, Option.bind_some, spec_wOk (h.2 _ (List.getElem_mem hi))]
  unfold logP entG
  rw [hv]
  simp only
  cases inR log[i].fTime 1 40 with
  | false => rfl
  | true =>
   simp only [Bool.not_true, cond_false, Bool.true_and, Option.bind_some]
   by_cases h0 : i = 0
   ·subst h0
    simp only [show decide (((0 : Nat) : Int) > 0) = false from rfl, cond_false, spec_LogOk_j1, hw]
    cases wOk log[0].fWrites <;> rfl
   ·have hi1 : i - 1 < log.length := by omega
    have hw1 : w64 ((i : Int) - 1) = ((i - 1 : Nat) : Int) := by rw [w64_of (by omega) (by omega)]; omega
    have hv1 : log[i - 1]? = some log[i - 1] := List.getElem?_eq_getElem hi1
    have e0 : (i == 0) = false := by simpa using h0
    have hge : decide (log[i - 1].fTime ≥ log[i].fTime) = !(decide (log[i - 1].fTime < log[i].fTime)) := by
     rw [← decide_not]
     exact decide_eq_decide.2 (by omega)
    simp only [decide_eq_true (show (i : Int) > 0 by omega), cond_true, hw1, getI_nat, hv1, Option.bind_some, e0, Bool.false_or, spec_LogOk_j1, hw, hge]
    cases wOk log[i].fWrites <;> cases decide (log[i - 1].fTime < log[i].fTime) <;> rfl
 ·have e : decide ((log.length : Int) ≤ 12) = decide (log.length ≤ 12) := decide_eq_decide.2 (by omega)
  rw [spec_LogOk_l0, decide_eq_false (Int.lt_irrefl _), cond_false, e]
structure RunI (n : Nat) (T : Int) (xs : List T_impl_Version) (rest : List T_impl_Entry) : Prop where
 inv : InvV T xs
 len : xs.length ≤ 5 * n
 lo : 0 ≤ T
 hi : ∀ e ∈ rest, T < e.fTime
theorem RunI.step {n : Nat} {T : Int} {xs : List T_impl_Version} {e : T_impl_Entry} {rest : List T_impl_Entry} (h : RunI n T xs (e :: rest)) (hg : entG e = true) (ha : AscL (e :: rest)) : RunI (n + 1) e.fTime (writtenV xs e.fWrites e.fTime) rest := by
 obtain ⟨⟨t1, t2⟩, hw⟩ := (entG_iff e).1 hg
 obtain ⟨i1, i2⟩ := written_inv (h.hi e (by simp)) t1 t2 hw h.inv
 have := wOk_len hw
 have := h.len
 exact ⟨i1, by omega, by omega, fun u hu => (List.pairwise_cons.1 ha).1 u hu⟩
theorem RunI.start (log : List T_impl_Entry) (hg : ∀ e ∈ log, entG e = true) : RunI 0 0 [] log :=
 ⟨⟨fun v hv => (by cases hv), List.Pairwise.nil, fun v hv => (by cases hv)⟩, by simp, Int.le_refl _, fun e he => by have := ((entG_iff e).1 (hg e he)).1; omega⟩
theorem run_all : ∀ (log : List T_impl_Entry) {n : Nat} {T : Int} {xs : List T_impl_Version}, RunI n T xs log → (∀ e ∈ log, entG e = true) → AscL log → ∃ T', T ≤ T' ∧ RunI (n + log.length) T' (runV xs log) []
 | [], n, T, xs, h, _, _ => ⟨T, Int.le_refl _, h⟩
 | e :: log, n, T, xs, h, hg, ha => by
  obtain ⟨T', h1, h2⟩ := run_all log (h.step (hg e (by simp)) ha) (fun u hu => hg u (List.mem_cons_of_mem _ hu)) (List.pairwise_cons.1 ha).2
  have := h.hi e (by simp)
  refine ⟨T', by omega, ?_⟩
  have e1 : n + (e :: log).length = n + 1 + log.length := by simp; omega
  rw [e1]
  exact h2
theorem run_ok {log : List T_impl_Entry} (h : logOk log = true) : SmVers (runV [] log) ∧ vOk (runV [] log) = true ∧ (runV [] log).Pairwise disV := by
 obtain ⟨h1, h2, h3⟩ := (logOk_iff log).1 h
 obtain ⟨T', _, r⟩ := run_all log (RunI.start log h1) h1 h2
 have hl := r.len
 exact ⟨r.inv.sm (by omega), (vOk_iff _).2 ⟨r.inv.g, r.inv.d, by omega⟩, r.inv.d⟩
theorem drop_run {log : List T_impl_Entry} {i : Nat} (hi : i < log.length) : log.drop i = log[i] :: log.drop (i + 1) := List.drop_eq_getElem_cons hi
theorem lastT_lt {t : Int} (ht : 0 < t) (k : Int) : ∀ (xs : List T_impl_Version) (n : Int), n < t → (∀ v ∈ xs, v.fBorn < t ∧ v.fDied < t) → xs.foldl (fun n v => bif v.fKey == k then maxL n [v.fBorn, v.fDied] else n) n < t
 | [], n, hn, _ => hn
 | v :: xs, n, hn, h => by
  rw [List.foldl_cons]
  refine lastT_lt ht k xs _ ?_ fun u hu => h u (List.mem_cons_of_mem _ hu)
  have := h v (by simp)
  cases v.fKey == k with
  | false => exact hn
  | true =>
   rw [cond_true]
   simp only [maxL]
   repeat' split <;> omega
theorem wrAt_run {T t : Int} (hT : T < t) (ht : 1 ≤ t) (ht2 : t ≤ 40) (hT0 : 0 ≤ T) {ws : List T_impl_Write} (hw : wOk ws = true) {xs : List T_impl_Version} (h : InvV T xs) (hl : xs.length ≤ 60) (hl2 : (writtenV xs ws t).length ≤ 60) : wrAt xs ws t = (writtenV xs ws t, true) := by
 unfold wrAt
 have e1 : vOk xs = true := (vOk_iff xs).2 ⟨h.g, h.d, hl⟩
 have e2 : inR t 1 40 = true := by unfold inR; simp; omega
 have e3 : ((List.range 5).all fun k => decide (lastT xs (k : Int) < t)) = true := List.all_eq_true.2 fun k _ => decide_eq_true (lastT_lt (by omega) _ xs 0 (by omega) fun v hv => by have := h.t v hv; omega)
 rw [e1, hw, e2, e3, decide_eq_true hl2]
 rfl
theorem spec_runV {log : List T_impl_Entry} (h : SmLog log) : spec_LogRun log = some (bif logOk log then runV [] log else []) := by
 have hl := h.1
 unfold spec_LogRun
 cases hk : logOk log with
 | false =>
  rw [cond_false, spec_LogRun_l0.eq_def]
  show (bif _ then _ else _) = _
  rw [spec_logOk h, Option.bind_some, hk]
  cases decide ((0 : Int) < log.length) <;> rfl
 | true =>
  rw [cond_true]
  obtain ⟨hg, ha, h12⟩ := (logOk_iff log).1 hk
  have := loop_opt (xs := log) (L := fun f i (s : List T_impl_Version) => spec_LogRun_l0 log f s i) (fun rest s => some (runV s rest)) (fun i s => ∃ T, RunI i T s (log.drop i)) (by omega)
   (fun f i s e hi hv hw hI => by
    obtain ⟨T, hI⟩ := hI
    have he : log[i] = e := by rw [List.getElem?_eq_getElem hi] at hv; exact Option.some.inj hv
    rw [drop_run hi, he] at hI
    have hge := hg e (List.mem_of_getElem? hv)
    obtain ⟨⟨t1, t2⟩, hwo⟩ := (entG_iff e).1 hge
    have hal : AscL (e :: log.drop (i + 1)) := by
     have : AscL (log.drop i) := List.Pairwise.sublist (List.drop_sublist _ _) ha
     rw [drop_run hi, he] at this
     exact this
    have hstep := hI.step hge hal
    refine .inr ⟨writtenV s e.fWrites e.fTime, ⟨_, hstep⟩, ?_, rfl⟩
    have hsl := hI.len
    have hsl2 := hstep.len
    have hwl := wOk_len hwo
    rw [spec_LogRun_l0, decide_eq_true (by omega), cond_true, spec_logOk h, Option.bind_some, hk, spec_LogRun_j1, cond_true, getI_nat, hv, Option.bind_some, Option.bind_some, spec_wrAt (hI.inv.sm (by omega)) (wOk_sm hwo) (by omega), Option.bind_some,
     wrAt_run (hI.hi e (by simp)) t1 t2 hI.lo hwo hI.inv (by omega) (by omega), hw])
   (fun f s hI => by
    rw [spec_LogRun_l0, decide_eq_false (Int.lt_irrefl _), cond_false, spec_LogRun_j1, cond_false]
    rfl) (s := []) ⟨0, by simpa using RunI.start log hg⟩
  exact this
end Go.D
set_option linter.unusedVariables false
namespace Go.D
theorem spec_seenAt {xs : List T_impl_Version} (h : SmVers xs) (k t : Int) : spec_SeenAt xs k t = some (bif vOk xs then rowS (seenV xs k t) else ([], false)) := by
 have hl := h.1
 unfold spec_SeenAt
 cases hv : vOk xs with
 | false =>
  rw [cond_false, spec_SeenAt_l0.eq_def]
  show (bif _ then _ else _) = _
  rw [spec_vOk h, Option.bind_some, hv]
  cases decide ((0 : Int) < xs.length) <;> rfl
 | true =>
  rw [cond_true]
  have := loop_opt (xs := xs) (L := fun f i (_ : Unit) => spec_SeenAt_l0 xs k t f i) (fun rest _ => some (rowS (rest.find? (atV k t)))) (fun _ _ => True) (by omega)
   (fun f i s v hi hvi hw _ => by
    have hr := h.2 v (List.mem_of_getElem? hvi)
    have hs : spec_l13Seen v t = some (decide (v.fBorn ≤ t) && (v.fDied == 0 || decide (v.fDied > t))) := by
     unfold spec_l13Seen
     cases decide (v.fBorn ≤ t) <;> cases v.fDied == 0 <;> rfl
    have hc : spec_SeenAt_l0 xs k t (f + 1) i = bif atV k t v then some (v.fRow, true) else spec_SeenAt_l0 xs k t f ((i + 1 : Nat) : Int) := by
     rw [spec_SeenAt_l0, decide_eq_true (by omega), cond_true, spec_vOk h, Option.bind_some, hv, spec_SeenAt_j1, cond_true, getI_nat, hvi, Option.bind_some, Option.bind_some, hs]
     unfold atV
     simp only [spec_SeenAt_j2, Option.bind_some, hw, getI_nat, hvi, ownR hr]
     cases v.fKey == k <;> cases decide (v.fBorn ≤ t) <;> cases v.fDied == 0 <;> cases decide (v.fDied > t) <;> rfl
    cases ha : atV k t v with
    | true => exact .inl (by rw [hc, ha, cond_true, List.find?_cons, ha]; rfl)
    | false => exact .inr ⟨(), trivial, by rw [hc, ha, cond_false], by rw [List.find?_cons, ha]⟩)
   (fun f s _ => by rw [spec_SeenAt_l0, decide_eq_false (Int.lt_irrefl _), cond_false, spec_SeenAt_j1, cond_false]; rfl) (s := ()) trivial
  exact this
theorem impl_clipW {xs : List T_impl_Write} : slices_Clip_impl_Write_impl_Write xs = some xs := by
 unfold slices_Clip_impl_Write_impl_Write
 rw [show slI xs none (some (xs.length : Int)) (some (xs.length : Int)) = some xs by simp [slI]]
 rfl
theorem impl_copyW {xs : List T_impl_Write} (h : SmWrs xs) : impl_writesCopy xs = some xs := by
 have hl := h.1
 have := loop_opt (xs := xs) (L := fun f i (s : List T_impl_Write) => impl_writesCopy_l0 xs f i s) (fun rest s => some (s ++ rest)) (fun i s => s.length = i) (by omega)
  (fun f i s v hi hv hw hI => .inr ⟨s ++ [v], by simp; omega, by
   have := (h.2 v (List.mem_of_getElem? hv)).1
   rw [impl_writesCopy_l0, decide_eq_true (by omega), cond_true, getI_nat, hv, Option.bind_some, impl_cloneVR (by omega), Option.bind_some, app_lt (by simp; omega), Option.bind_some, hw], by simp⟩)
  (fun f s hI => by rw [impl_writesCopy_l0, decide_eq_false (Int.lt_irrefl _), cond_false, impl_clipW]; simp) (s := []) rfl
 have e : impl_writesCopy xs = some ([] ++ xs) := this
 simpa using e
def behL (b : T_impl_Entry) (log : List T_impl_Entry) : List T_impl_Entry := b :: log.filter fun e => decide (e.fTime > b.fTime)
def behV (b : T_impl_Entry) (log : List T_impl_Entry) : List T_impl_Entry × Bool := bif entG b && (logOk log && decide ((behL b log).length ≤ 12)) then (behL b log, true) else ([], false)
theorem ok_one (b : T_impl_Entry) : logOk [b] = entG b := by
 rw [Bool.eq_iff_iff, logOk_iff]
 constructor
 ·intro h; exact h.1 b (by simp)
 ·intro h; exact ⟨fun e he => by simp at he; rw [he]; exact h, List.pairwise_singleton _ _, by simp⟩
theorem behL_ok {b : T_impl_Entry} {log : List T_impl_Entry} (hl : logOk log = true) : logOk (behL b log) = (entG b && decide ((behL b log).length ≤ 12)) := by
 obtain ⟨h1, h2, h3⟩ := (logOk_iff log).1 hl
 rw [Bool.eq_iff_iff, logOk_iff, Bool.and_eq_true]
 constructor
 ·rintro ⟨g1, g2, g3⟩
  exact ⟨g1 b (by simp [behL]), decide_eq_true g3⟩
 ·rintro ⟨g1, g3⟩
  refine ⟨fun e he => ?_, ?_, of_decide_eq_true g3⟩
  ·rcases List.mem_cons.1 he with rfl | he
   ·exact g1
   ·exact h1 e ((List.mem_filter.1 he).1)
  ·refine List.pairwise_cons.2 ⟨fun e he => ?_, h2.filter _⟩
   have := (List.mem_filter.1 he).2
   exact of_decide_eq_true this
theorem impl_clipE {xs : List T_impl_Entry} : slices_Clip_impl_Entry_impl_Entry xs = some xs := by
 unfold slices_Clip_impl_Entry_impl_Entry
 rw [show slI xs none (some (xs.length : Int)) (some (xs.length : Int)) = some xs by simp [slI]]
 rfl
theorem impl_copyL {xs : List T_impl_Entry} (h : SmLog xs) : impl_logCopy xs = some xs := by
 have hl := h.1
 have := loop_opt (xs := xs) (L := fun f i (s : List T_impl_Entry) => impl_logCopy_l0 xs f i s) (fun rest s => some (s ++ rest)) (fun i s => s.length = i) (by omega)
  (fun f i s v hi hv hw hI => .inr ⟨s ++ [v], by simp; omega, by
   rw [impl_logCopy_l0, decide_eq_true (by omega), cond_true, getI_nat, hv, Option.bind_some, impl_copyW (h.2 v (List.mem_of_getElem? hv)), Option.bind_some, app_lt (by simp; omega), Option.bind_some, hw], by simp⟩)
  (fun f s hI => by rw [impl_logCopy_l0, decide_eq_false (Int.lt_irrefl _), cond_false, impl_clipE]; simp) (s := []) rfl
 have e : impl_logCopy xs = some ([] ++ xs) := this
 simpa using e
theorem spec_copyW {xs : List T_impl_Write} (h : SmWrs xs) : spec_l14Writes xs = some xs := by
 have hl := h.1
 have := loop_opt (xs := xs) (L := fun f i (s : List T_impl_Write) => spec_l14Writes_l0 xs f i s) (fun rest s => some (s ++ rest)) (fun i s => s.length = i) (by omega)
  (fun f i s v hi hv hw hI => .inr ⟨s ++ [v], by simp; omega, by
   rw [spec_l14Writes_l0, decide_eq_true (by omega), cond_true, getI_nat, hv, Option.bind_some, ownR (h.2 v (List.mem_of_getElem? hv)), Option.bind_some, app_lt (by simp; omega), Option.bind_some, hw], by simp⟩)
  (fun f s hI => by rw [spec_l14Writes_l0, decide_eq_false (Int.lt_irrefl _), cond_false]; simp) (s := []) rfl
 have e : spec_l14Writes xs = some ([] ++ xs) := this
 simpa using e
theorem spec_copyL {xs : List T_impl_Entry} (h : SmLog xs) : spec_l18Copy xs = some xs := by
 have hl := h.1
 have := loop_opt (xs := xs) (L := fun f i (s : List T_impl_Entry) => spec_l18Copy_l0 xs f i s) (fun rest s => some (s ++ rest)) (fun i s => s.length = i) (by omega)
  (fun f i s v hi hv hw hI => .inr ⟨s ++ [v], by simp; omega, by
   rw [spec_l18Copy_l0, decide_eq_true (by omega), cond_true, getI_nat, hv, Option.bind_some, Option.bind_some, spec_copyW (h.2 v (List.mem_of_getElem? hv)), Option.bind_some, app_lt (by simp; omega), Option.bind_some, hw], by simp⟩)
  (fun f s hI => by rw [spec_l18Copy_l0, decide_eq_false (Int.lt_irrefl _), cond_false]; simp) (s := []) rfl
 have e : spec_l18Copy xs = some ([] ++ xs) := this
 simpa using e
theorem SmLog.one {b : T_impl_Entry} (h : SmWrs b.fWrites) : SmLog [b] := ⟨by simp, fun e he => by simp at he; rw [he]; exact h⟩
theorem SmLog.beh {b : T_impl_Entry} {log : List T_impl_Entry} (hb : SmWrs b.fWrites) (h : SmLog log) (hl : log.length ≤ 2000000) : SmLog (behL b log) := by
 refine ⟨?_, fun e he => ?_⟩
 ·have := List.length_filter_le (fun e : T_impl_Entry => decide (e.fTime > b.fTime)) log
  simp only [behL, List.length_cons]
  omega
 ·rcases List.mem_cons.1 he with rfl | he
  ·exact hb
  ·exact h.2 e ((List.mem_filter.1 he).1)
theorem impl_beh {b : T_impl_Entry} {log : List T_impl_Entry} (hb : SmWrs b.fWrites) (h : SmLog log) (hl : log.length ≤ 2000000) : impl_LogBehind b log = some (behV b log) := by
 have hj : ∀ x, impl_LogBehind_j0 b log x = bif x then some ([], false) else impl_LogBehind_l1 b log FUEL 0 [b] := fun _ => rfl
 have hsm := SmLog.beh hb h hl
 unfold impl_LogBehind behV
 rw [impl_logOk (SmLog.one hb), Option.bind_some, ok_one]
 simp only [hj]
 cases entG b with
 | false => rfl
 | true =>
  rw [Bool.not_true, cond_false, impl_logOk h, Option.bind_some]
  cases logOk log with
  | false => rfl
  | true =>
   simp only [Bool.not_true, cond_false, Bool.true_and]
   have := loop_opt (xs := log) (L := fun f i (s : List T_impl_Entry) => impl_LogBehind_l1 b log f i s) (fun rest s => some (bif decide ((s ++ rest.filter fun e => decide (e.fTime > b.fTime)).length ≤ 12) then (s ++ rest.filter (fun e => decide (e.fTime > b.fTime)), true) else ([], false)))
    (fun i s => s = b :: (log.take i).filter fun e => decide (e.fTime > b.fTime)) (by omega)
    (fun f i s e hi hv hw hI => by
     have et : log.take (i + 1) = log.take i ++ [e] := by rw [List.take_add_one, hv]; rfl
     have hsl : s.length ≤ i + 1 := by
      rw [hI]
      have := List.length_filter_le (fun e : T_impl_Entry => decide (e.fTime > b.fTime)) (log.take i)
      have := List.length_take_le i log
      simp only [List.length_cons]
      omega
     refine .inr ⟨s ++ ([e].filter fun e => decide (e.fTime > b.fTime)), by rw [hI, et, List.filter_append]; rfl, ?_, ?_⟩
     ·rw [impl_LogBehind_l1, decide_eq_true (by omega), cond_true, getI_nat, hv, Option.bind_some]
      cases hc : decide (e.fTime > b.fTime) with
      | true => rw [cond_true, app_lt (by simp; omega), Option.bind_some, hw]; simp [hc]
      | false => rw [cond_false, hw]; simp [hc]
     ·have : (e :: log.drop (i + 1)).filter (fun e => decide (e.fTime > b.fTime)) = [e].filter (fun e => decide (e.fTime > b.fTime)) ++ (log.drop (i + 1)).filter fun e => decide (e.fTime > b.fTime) := by
       rw [← List.filter_append]; rfl
      rw [this, List.append_assoc])
    (fun f s hI => by
     have hs : s = behL b log := by rw [hI, List.take_length]; rfl
     have e : decide ((s.length : Int) > 12) = !(decide (s.length ≤ 12)) := by
      rw [← decide_not]
      exact decide_eq_decide.2 (by omega)
     rw [impl_LogBehind_l1, decide_eq_false (Int.lt_irrefl _), cond_false, e, hs, impl_copyL hsm]
     simp only [List.filter_nil, List.append_nil]
     cases decide ((behL b log).length ≤ 12) <;> rfl) (s := [b]) (by simp)
   exact this
theorem spec_beh {b : T_impl_Entry} {log : List T_impl_Entry} (hb : SmWrs b.fWrites) (h : SmLog log) (hl : log.length ≤ 2000000) : spec_LogBehind b log = some (behV b log) := by
 have hj : ∀ s x, spec_LogBehind_j2 s x = bif x then some ([], false) else (spec_l18Copy s).bind fun v => some (v, true) := fun _ _ => rfl
 have hsm := SmLog.beh hb h hl
 unfold spec_LogBehind
 have := loop_opt (xs := log) (L := fun f i (s : List T_impl_Entry) => spec_LogBehind_l0 b log f i s) (fun _ _ => some (behV b log)) (fun i s => s = b :: (log.take i).filter fun e => decide (e.fTime > b.fTime)) (by omega)
  (fun f i s e hi hv hw hI => by
   have et : log.take (i + 1) = log.take i ++ [e] := by rw [List.take_add_one, hv]; rfl
   have hsl : s.length ≤ i + 1 := by
    rw [hI]
    have := List.length_filter_le (fun e : T_impl_Entry => decide (e.fTime > b.fTime)) (log.take i)
    have := List.length_take_le i log
    simp only [List.length_cons]
    omega
   refine .inr ⟨s ++ ([e].filter fun e => decide (e.fTime > b.fTime)), by rw [hI, et, List.filter_append]; rfl, ?_, rfl⟩
   rw [spec_LogBehind_l0, decide_eq_true (by omega), cond_true, getI_nat, hv, Option.bind_some]
   cases hc : decide (e.fTime > b.fTime) with
   | true => rw [cond_true, Option.bind_some, app_lt (by simp; omega), Option.bind_some, spec_LogBehind_j1, hw]; simp [hc]
   | false => rw [cond_false, spec_LogBehind_j1, hw]; simp [hc])
  (fun f s hI => by
   have hs : s = behL b log := by rw [hI, List.take_length]; rfl
   rw [spec_LogBehind_l0, decide_eq_false (Int.lt_irrefl _), cond_false, spec_logOk h, Option.bind_some, hs]
   unfold behV
   cases hk : logOk log with
   | false =>
    rw [Bool.not_false, cond_true, hj, cond_true, Bool.false_and, Bool.and_false, cond_false]
   | true =>
    rw [Bool.not_true, cond_false, spec_logOk hsm, Option.bind_some, hj, behL_ok hk, Bool.true_and, spec_copyL hsm]
    cases entG b && decide ((behL b log).length ≤ 12) <;> rfl) (s := [b]) (by simp)
 exact this
end Go.D
set_option linter.unusedVariables false
namespace Go.D
end Go.D
set_option linter.unusedVariables false
namespace Go.D
structure RdOk (n : Int) (r : T_spec_l20Rd) : Prop where
 len : r.fB.length ≤ 2000
 lo : 0 ≤ r.fP
 hi : r.fP ≤ n
end Go.D
set_option linter.unusedVariables false
namespace Go.D
end Go.D
set_option linter.unusedVariables false
namespace Go.D
end Go.D
set_option linter.unusedVariables false
namespace Go.D
def Sr (m : Nat) (row : List T_impl_Value) : Prop := row.length ≤ m ∧ ∀ v ∈ row, v.fS.size ≤ 10
theorem Sr.sm {m : Nat} {row : List T_impl_Value} (h : Sr m row) (hm : m ≤ 1000) : SmR row := ⟨by have := h.1; omega, fun v hv => by have := h.2 v hv; unfold SmV; omega⟩
end Go.D
set_option linter.unusedVariables false
namespace Go.D
def Wrs (m : Nat) (ws : List T_impl_Write) : Prop := ws.length ≤ m ∧ ∀ w ∈ ws, Sr 9 w.fRow
def Vrs (m : Nat) (xs : List T_impl_Version) : Prop := xs.length ≤ m ∧ ∀ v ∈ xs, Sr 9 v.fRow
theorem Wrs.sm {m : Nat} {ws : List T_impl_Write} (h : Wrs m ws) (hm : m ≤ 1000) : SmWrs ws := ⟨by have := h.1; omega, fun w hw => (h.2 w hw).sm (by omega)⟩
theorem Vrs.sm {m : Nat} {xs : List T_impl_Version} (h : Vrs m xs) (hm : m ≤ 1000) : SmVers xs := ⟨by have := h.1; omega, fun w hw => (h.2 w hw).sm (by omega)⟩
theorem Vrs.set {m : Nat} {ws : List T_impl_Version} (h : Vrs m ws) (i : Nat) {w : T_impl_Version} (hw : Sr 9 w.fRow) : Vrs m (ws.set i w) := ⟨by have := h.1; simp; omega, fun u hu => by
 rcases List.mem_or_eq_of_mem_set hu with hu | rfl
 ·exact h.2 u hu
 ·exact hw⟩
end Go.D
set_option linter.unusedVariables false
namespace Go.D
def Lgs (m : Nat) (log : List T_impl_Entry) : Prop := log.length ≤ m ∧ ∀ e ∈ log, Wrs 6 e.fWrites
theorem Lgs.sm {m : Nat} {log : List T_impl_Entry} (h : Lgs m log) (hm : m ≤ 1000) : SmLog log := ⟨by have := h.1; omega, fun e he => (h.2 e he).sm (by omega)⟩
theorem Lgs.set {m : Nat} {log : List T_impl_Entry} (h : Lgs m log) (i : Nat) {e : T_impl_Entry} (he : Wrs 6 e.fWrites) : Lgs m (log.set i e) := ⟨by have := h.1; simp; omega, fun u hu => by
 rcases List.mem_or_eq_of_mem_set hu with hu | rfl
 ·exact h.2 u hu
 ·exact he⟩
end Go.D
set_option linter.unusedVariables false
namespace Go.D
open Go.Proofs
theorem rd_3 : Rd Try.prog 3 Int intW := rd_int Try.underlying3 (by kernel_rfl)
theorem rd_9 : Rd Try.prog 9 ByteArray strW := rd_str Try.underlying9 (by kernel_rfl)
def W_T_laws_Value (x : T_laws_Value) : Prop := intW x.fKind ∧ intW x.fN ∧ strW x.fS
theorem spl_140 (cs : List Value) (hc : cs.length = 3) : cs = (cs.drop 0).take 1 ++ ((cs.drop 1).take 1 ++ ((cs.drop 2).take 1)) := by
 match cs, hc with
 | [c0, c1, c2], _ => rfl
theorem rd_140 : Rd Try.prog 140 T_laws_Value W_T_laws_Value := ⟨by kernel_rfl, fun H enc w base sp held fuel cs x h => by
 obtain ⟨xs, n, _, rfl, hl, hlen, hf⟩ := DataW.trod_struct Try.underlying140 h
 match xs, hlen, hf with
 | [z0, z1, z2], _, hf =>
 obtain ⟨y0, h0, w0⟩ := (rd_3).2 H enc w base sp held n _ _ (hf 0 _ rfl)
 obtain ⟨y1, h1, w1⟩ := (rd_3).2 H enc w base sp held n _ _ (hf 1 _ rfl)
 obtain ⟨y2, h2, w2⟩ := (rd_9).2 H enc w base sp held n _ _ (hf 2 _ rfl)
 refine ⟨⟨y0, y1, y2⟩, ?_, w0, w1, w2⟩
 have hc : cs.length = 3 := hl.trans (by kernel_rfl)
 have h0 : FrL w (fun _ => False) (Enc.cells y0) ((cs.drop 0).take (Try.prog.cellsOf 3)) := h0
 rw [rd_3.1] at h0
 have k0 : FrL w (fun _ => False) (Enc.cells y0) ((cs.drop 0).take 1) := h0
 have h1 : FrL w (fun _ => False) (Enc.cells y1) ((cs.drop 1).take (Try.prog.cellsOf 3)) := h1
 rw [rd_3.1] at h1
 have k1 : FrL w (fun _ => False) (Enc.cells y1) ((cs.drop 1).take 1) := h1
 have h2 : FrL w (fun _ => False) (Enc.cells y2) ((cs.drop 2).take (Try.prog.cellsOf 9)) := h2
 rw [rd_9.1] at h2
 have k2 : FrL w (fun _ => False) (Enc.cells y2) ((cs.drop 2).take 1) := h2
 rw [spl_140 cs hc]
 exact (FrL.append k0 (FrL.append k1 k2))⟩
theorem rd_115 : Rd Try.prog 115 (List T_laws_Value) (listW W_T_laws_Value) := rd_slice Try.underlying115 (by kernel_rfl) rd_140
theorem rd_4 : Rd Try.prog 4 Bool boolW := rd_bool Try.underlying4 (by kernel_rfl)
def W_T_laws_Write (x : T_laws_Write) : Prop := intW x.fKey ∧ (listW W_T_laws_Value) x.fRow ∧ boolW x.fGone
theorem spl_117 (cs : List Value) (hc : cs.length = 3) : cs = (cs.drop 0).take 1 ++ ((cs.drop 1).take 1 ++ ((cs.drop 2).take 1)) := by
 match cs, hc with
 | [c0, c1, c2], _ => rfl
theorem rd_117 : Rd Try.prog 117 T_laws_Write W_T_laws_Write := ⟨by kernel_rfl, fun H enc w base sp held fuel cs x h => by
 obtain ⟨xs, n, _, rfl, hl, hlen, hf⟩ := DataW.trod_struct Try.underlying117 h
 match xs, hlen, hf with
 | [z0, z1, z2], _, hf =>
 obtain ⟨y0, h0, w0⟩ := (rd_3).2 H enc w base sp held n _ _ (hf 0 _ rfl)
 obtain ⟨y1, h1, w1⟩ := (rd_115).2 H enc w base sp held n _ _ (hf 1 _ rfl)
 obtain ⟨y2, h2, w2⟩ := (rd_4).2 H enc w base sp held n _ _ (hf 2 _ rfl)
 refine ⟨⟨y0, y1, y2⟩, ?_, w0, w1, w2⟩
 have hc : cs.length = 3 := hl.trans (by kernel_rfl)
 have h0 : FrL w (fun _ => False) (Enc.cells y0) ((cs.drop 0).take (Try.prog.cellsOf 3)) := h0
 rw [rd_3.1] at h0
 have k0 : FrL w (fun _ => False) (Enc.cells y0) ((cs.drop 0).take 1) := h0
 have h1 : FrL w (fun _ => False) (Enc.cells y1) ((cs.drop 1).take (Try.prog.cellsOf 115)) := h1
 rw [rd_115.1] at h1
 have k1 : FrL w (fun _ => False) (Enc.cells y1) ((cs.drop 1).take 1) := h1
 have h2 : FrL w (fun _ => False) (Enc.cells y2) ((cs.drop 2).take (Try.prog.cellsOf 4)) := h2
 rw [rd_4.1] at h2
 have k2 : FrL w (fun _ => False) (Enc.cells y2) ((cs.drop 2).take 1) := h2
 rw [spl_117 cs hc]
 exact (FrL.append k0 (FrL.append k1 k2))⟩
theorem rd_56 : Rd Try.prog 56 (List T_laws_Write) (listW W_T_laws_Write) := rd_slice Try.underlying56 (by kernel_rfl) rd_117
def W_T_laws_Entry (x : T_laws_Entry) : Prop := intW x.fTime ∧ (listW W_T_laws_Write) x.fWrites
theorem spl_58 (cs : List Value) (hc : cs.length = 2) : cs = (cs.drop 0).take 1 ++ ((cs.drop 1).take 1) := by
 match cs, hc with
 | [c0, c1], _ => rfl
theorem rd_58 : Rd Try.prog 58 T_laws_Entry W_T_laws_Entry := ⟨by kernel_rfl, fun H enc w base sp held fuel cs x h => by
 obtain ⟨xs, n, _, rfl, hl, hlen, hf⟩ := DataW.trod_struct Try.underlying58 h
 match xs, hlen, hf with
 | [z0, z1], _, hf =>
 obtain ⟨y0, h0, w0⟩ := (rd_3).2 H enc w base sp held n _ _ (hf 0 _ rfl)
 obtain ⟨y1, h1, w1⟩ := (rd_56).2 H enc w base sp held n _ _ (hf 1 _ rfl)
 refine ⟨⟨y0, y1⟩, ?_, w0, w1⟩
 have hc : cs.length = 2 := hl.trans (by kernel_rfl)
 have h0 : FrL w (fun _ => False) (Enc.cells y0) ((cs.drop 0).take (Try.prog.cellsOf 3)) := h0
 rw [rd_3.1] at h0
 have k0 : FrL w (fun _ => False) (Enc.cells y0) ((cs.drop 0).take 1) := h0
 have h1 : FrL w (fun _ => False) (Enc.cells y1) ((cs.drop 1).take (Try.prog.cellsOf 56)) := h1
 rw [rd_56.1] at h1
 have k1 : FrL w (fun _ => False) (Enc.cells y1) ((cs.drop 1).take 1) := h1
 rw [spl_58 cs hc]
 exact (FrL.append k0 k1)⟩
theorem rd_39 : Rd Try.prog 39 (List T_laws_Entry) (listW W_T_laws_Entry) := rd_slice Try.underlying39 (by kernel_rfl) rd_58
end Go.D
set_option linter.unusedVariables false
namespace Go.D
end Go.D
set_option linter.unusedVariables false
namespace Go.D
theorem find_at {α : Type} {xs : List α} {L : Nat → Int → Option Int} {p : α → Bool} (hlen : xs.length ≤ 70368744177662)
  (h : ∀ (f i : Nat) (v : α), i < xs.length → xs[i]? = some v → w64 ((i : Int) + 1) = ((i + 1 : Nat) : Int) → L (f + 1) i = bif p v then some (i : Int) else L f ((i + 1 : Nat) : Int))
  (he : ∀ f, L (f + 1) (xs.length : Int) = some (-1)) : (L FUEL 0 = some (-1) ∧ (xs.filter fun v => !(p v)) = xs) ∨ ∃ i : Nat, i < xs.length ∧ L FUEL 0 = some (i : Int) ∧ ((xs.take (i + 1)).filter fun v => !(p v)) = xs.take i := by
 have main : ∀ (k f i : Nat), i + k = xs.length → k < f → ((xs.take i).filter fun v => !(p v)) = xs.take i → (L f (i : Int) = some (-1) ∧ (xs.filter fun v => !(p v)) = xs) ∨ ∃ j : Nat, j < xs.length ∧ L f (i : Int) = some (j : Int) ∧ ((xs.take (j + 1)).filter fun v => !(p v)) = xs.take j := by
  intro k
  induction k with
  | zero =>
   intro f i hi hf hp
   obtain ⟨f, rfl⟩ : ∃ f', f = f' + 1 := ⟨f - 1, by omega⟩
   have : i = xs.length := by omega
   subst this
   rw [List.take_length] at hp
   exact .inl ⟨he f, hp⟩
  | succ k ih =>
   intro f i hi hf hp
   obtain ⟨f, rfl⟩ : ∃ f', f = f' + 1 := ⟨f - 1, by omega⟩
   have hlt : i < xs.length := by omega
   have ht : xs.take (i + 1) = xs.take i ++ [xs[i]] := by rw [List.take_add_one, List.getElem?_eq_getElem hlt]; rfl
   rw [h f i xs[i] hlt (List.getElem?_eq_getElem hlt) (succ_w hlt (by omega))]
   cases hq : p xs[i] with
   | true =>
    refine .inr ⟨i, hlt, rfl, ?_⟩
    rw [ht, List.filter_append, hp]
    simp [hq]
   | false =>
    refine ih f (i + 1) (by omega) (by omega) ?_
    rw [ht, List.filter_append, hp]
    simp [hq]
 exact main xs.length FUEL 0 (by omega) (by unfold FUEL; omega) (by simp)
theorem del_loop {α : Type} {orig : List α} {p : α → Bool} {L : Nat → Int → Int → List α → Option (List α)} (hl : orig.length ≤ 70368744177662)
  (hs : ∀ (f i j : Nat) (ys : List α) (v : α), ys[j]? = some v → j < ys.length → i < ys.length → w64 ((i : Int) + 1) = ((i + 1 : Nat) : Int) → w64 ((j : Int) + 1) = ((j + 1 : Nat) : Int) →
   L (f + 1) i j ys = bif !(p v) then L f ((i + 1 : Nat) : Int) ((j + 1 : Nat) : Int) (ys.set i v) else L f i ((j + 1 : Nat) : Int) ys)
  (he : ∀ (f i : Nat) (ys : List α), i ≤ ys.length → L (f + 1) i (ys.length : Int) ys = some (ys.take i)) :
  ∀ (k f i j : Nat) (ys : List α), j + k = orig.length → k < f → ys.length = orig.length → i < j → ys.take i = ((orig.take j).filter fun v => !(p v)) → ys.drop j = orig.drop j → L f i j ys = some (orig.filter fun v => !(p v)) := by
 intro k
 induction k with
 | zero =>
  intro f i j ys hj hf hy hij h1 h2
  obtain ⟨f, rfl⟩ : ∃ f', f = f' + 1 := ⟨f - 1, by omega⟩
  have : j = ys.length := by omega
  subst this
  rw [he f i ys (by omega), h1, hy, List.take_length]
 | succ k ih =>
  intro f i j ys hj hf hy hij h1 h2
  obtain ⟨f, rfl⟩ : ∃ f', f = f' + 1 := ⟨f - 1, by omega⟩
  have hlt : j < orig.length := by omega
  have hv : ys[j]? = some orig[j] := by
   have e : (ys.drop j)[0]? = (orig.drop j)[0]? := by rw [h2]
   rw [List.getElem?_drop, List.getElem?_drop, Nat.add_zero, List.getElem?_eq_getElem hlt] at e
   exact e
  have ht : orig.take (j + 1) = orig.take j ++ [orig[j]] := by rw [List.take_add_one, List.getElem?_eq_getElem hlt]; rfl
  have hd : ys.drop (j + 1) = orig.drop (j + 1) := by
   have e : (ys.drop j).drop 1 = (orig.drop j).drop 1 := by rw [h2]
   rw [List.drop_drop, List.drop_drop] at e
   exact e
  rw [hs f i j ys orig[j] hv (by omega) (by omega) (succ_w (n := orig.length) (by omega) (by omega)) (succ_w hlt (by omega))]
  cases hq : p orig[j] with
  | true =>
   refine ih f i (j + 1) ys (by omega) (by omega) hy (by omega) ?_ hd
   rw [ht, List.filter_append, h1]
   simp [hq]
  | false =>
   refine ih f (i + 1) (j + 1) (ys.set i orig[j]) (by omega) (by omega) (by rw [List.length_set, hy]) (by omega) ?_ ?_
   ·rw [List.take_add_one, List.getElem?_set_self (by omega), List.take_set_of_le (Nat.le_refl _), h1, ht, List.filter_append]
    simp [hq]
   ·rw [List.drop_set_of_lt (by omega), hd]
theorem slI_from {α : Type} {xs : List α} {i : Nat} (h : i ≤ xs.length) : slI xs (some (i : Int)) none none = some (xs.drop i) := by
 unfold slI
 rw [if_pos (by simp only [Option.getD_some, Option.getD_none]; omega)]
 simp only [Option.getD_some, Option.getD_none, Int.toNat_natCast]
 rw [List.take_of_length_le (by rw [List.length_drop]; omega)]
theorem slI_upto {α : Type} {xs : List α} {i : Nat} (h : i ≤ xs.length) : slI xs none (some (i : Int)) none = some (xs.take i) := by
 unfold slI
 rw [if_pos (by simp only [Option.getD_some, Option.getD_none]; omega)]
 simp
theorem clr_take {α : Type} {ys : List α} {i n : Nat} {z : α} (h : i ≤ ys.length) (hn : n = (ys.drop i).length) : slI (ys.take i ++ List.replicate n z) none (some (i : Int)) none = some (ys.take i) := by
 have hl : (ys.take i).length = i := by rw [List.length_take]; omega
 rw [slI_upto (by rw [List.length_append, hl]; omega), List.take_append_of_le_length (by omega), List.take_of_length_le (by omega)]
end Go.D
set_option linter.unusedVariables false
namespace Go.D
end Go.D
set_option linter.unusedVariables false
namespace Go.D
theorem clone_ent {xs : List T_impl_Entry} (h : xs.length ≤ 4194304) : slices_Clone_impl_Entry_impl_Entry xs = some xs := by
 unfold slices_Clone_impl_Entry_impl_Entry slices_Clone_impl_Entry_impl_Entry_j0
 rw [cond_false, app_lt (by simp; omega), Option.bind_some, List.nil_append]
theorem del_ent {xs : List T_impl_Entry} {f : T_impl_Entry → Option Bool} {p : T_impl_Entry → Bool} (hp : ∀ v, f v = some (p v)) (hl : xs.length ≤ 4194304) : slices_DeleteFunc_impl_Entry_impl_Entry xs f = some (xs.filter fun v => !(p v)) := by
 unfold slices_DeleteFunc_impl_Entry_impl_Entry slices_IndexFunc_impl_Entry_impl_Entry
 rcases find_at (xs := xs) (L := slices_IndexFunc_impl_Entry_impl_Entry_l0 xs f) (p := p) (by omega) (fun g i v hi hv hw => by
  have : (i : Int) < xs.length := by omega
  simp only [slices_IndexFunc_impl_Entry_impl_Entry_l0, this, decide_true, cond_true, getI_nat, hv, Option.bind_some, hp, hw]) (fun g => by
  simp only [slices_IndexFunc_impl_Entry_impl_Entry_l0, Int.lt_irrefl, decide_false, cond_false]) with ⟨h1, h2⟩ | ⟨i, hi, h1, h2⟩
 ·rw [h1, Option.bind_some, h2]
  rfl
 ·have hne : ((i : Int) == -1) = false := beq_eq_false_iff_ne.2 (by omega)
  rw [h1, Option.bind_some, hne, cond_false, succ_w hi (by omega)]
  refine del_loop (orig := xs) (p := p) (L := slices_DeleteFunc_impl_Entry_impl_Entry_l0 f) (by omega) (fun g i j ys v hv hj hi hw1 hw2 => ?_) (fun g i ys h => ?_) (xs.length - (i + 1)) FUEL i (i + 1) xs (by omega) (by unfold FUEL; omega) rfl (by omega) h2.symm rfl
  ·have h3 : (j : Int) < ys.length := by omega
   simp only [slices_DeleteFunc_impl_Entry_impl_Entry_l0, slices_DeleteFunc_impl_Entry_impl_Entry_j1, h3, decide_true, cond_true, getI_nat, hv, List.getElem?_eq_getElem hi, Option.bind_some, hp, hw1, hw2, Int.toNat_natCast]
  ·simp only [slices_DeleteFunc_impl_Entry_impl_Entry_l0, Int.lt_irrefl, decide_false, cond_false, slI_from h, Option.bind_some, Int.toNat_natCast, clr_take h rfl]
end Go.D
set_option linter.unusedVariables false
namespace Go.D
def cutL (log : List T_impl_Entry) (t : Int) : List T_impl_Entry := log.filter fun e => !(decide (e.fTime > t))
theorem cut_sm {log : List T_impl_Entry} (h : SmLog log) (t : Int) : SmLog (cutL log t) := ⟨Nat.le_trans (List.length_filter_le ..) h.1, fun e he => h.2 e (List.mem_filter.1 he).1⟩
theorem cut_ok {log : List T_impl_Entry} (h : logOk log = true) (t : Int) : logOk (cutL log t) = true := by
 obtain ⟨h1, h2, h3⟩ := (logOk_iff log).1 h
 exact (logOk_iff _).2 ⟨fun e he => h1 e (List.mem_filter.1 he).1, h2.sublist (List.filter_sublist ..), Nat.le_trans (List.length_filter_le ..) h3⟩
theorem impl_cut {log : List T_impl_Entry} (h : SmLog log) (hl : log.length ≤ 2000000) (t : Int) : impl_logCut log t = some (cutL log t) := by
 unfold impl_logCut
 rw [clone_ent (by omega), Option.bind_some, del_ent (f := fun z0 => impl_logCut_1 z0 t) (p := fun e => decide (e.fTime > t)) (fun v => rfl) (by omega), Option.bind_some]
 show (impl_logCopy (cutL log t)).bind _ = _
 rw [impl_copyL (cut_sm h t)]
 rfl
theorem spec_cut {log : List T_impl_Entry} (h : SmLog log) (hk : logOk log = true) (t : Int) : spec_LogCut log t = some (cutL log t) := by
 have hl := h.1
 have := loop_opt (xs := log) (L := fun f i (s : List T_impl_Entry) => spec_LogCut_l0 log t f i s) (fun _ _ => some (cutL log t)) (fun i s => s = cutL (log.take i) t) (by omega)
  (fun f i s v hi hv hw hI => by
   have hsl : s.length ≤ log.length := by
    rw [hI]
    exact Nat.le_trans (List.length_filter_le ..) (by rw [List.length_take]; omega)
   have ht : log.take (i + 1) = log.take i ++ [v] := by rw [List.take_add_one, hv]; rfl
   have e1 : cutL (log.take (i + 1)) t = s ++ (if decide (v.fTime ≤ t) then [v] else []) := by
    rw [ht, hI]
    unfold cutL
    rw [List.filter_append]
    congr 1
    rw [List.filter_cons]
    by_cases hv : v.fTime > t
    ·rw [if_neg (by simpa using hv), if_neg (by simp; omega)]; rfl
    ·rw [if_pos (by simp; omega), if_pos (by simp; omega)]; rfl
   refine .inr ⟨cutL (log.take (i + 1)) t, rfl, ?_, rfl⟩
   have e2 : spec_LogCut_l0 log t (f + 1) i s = bif decide (v.fTime ≤ t) then spec_LogCut_l0 log t f ((i + 1 : Nat) : Int) (s ++ [v]) else spec_LogCut_l0 log t f ((i + 1 : Nat) : Int) s := by
    rw [spec_LogCut_l0, decide_eq_true (by omega), cond_true, spec_logOk h, Option.bind_some, hk]
    unfold spec_LogCut_j1 spec_LogCut_j2
    rw [cond_true, getI_nat, hv, Option.bind_some, Option.bind_some, app_lt (by simp; omega), Option.bind_some, hw]
   rw [e2, e1]
   cases decide (v.fTime ≤ t) <;> simp)
  (fun f s hI => by
   rw [List.take_length] at hI
   rw [spec_LogCut_l0, decide_eq_false (Int.lt_irrefl _), cond_false]
   unfold spec_LogCut_j1
   rw [cond_false, hI, spec_copyL (cut_sm h t)]
   rfl) (s := []) (by simp [cutL])
 exact this
theorem spec_rowsAt {xs : List T_impl_Version} (h : SmVers xs) (hk : vOk xs = true) (t : Int) : spec_RowsAt xs t = some (rowsV xs t) := by
 have := loop_opt (xs := List.range 5) (L := fun f i (s : List (List T_impl_Value)) => spec_RowsAt_l0 xs t f i s) (fun _ _ => some (rowsV xs t)) (fun i s => s = (List.range i).filterMap (fun (k : Nat) => rowOf xs (k : Int) t) ∧ s.length ≤ i) (by simp)
  (fun f i s v hi hv hw hI => by
   obtain ⟨hI, hIl⟩ := hI
   have hi5 : i < 5 := by simpa using hi
   refine .inr ⟨s ++ (rowOf xs (i : Int) t).toList, ⟨by rw [fm_succ, ← hI], ?_⟩, ?_, rfl⟩
   ·cases rowOf xs (i : Int) t <;> simp <;> omega
   ·rw [spec_RowsAt_l0, decide_eq_true (by omega), cond_true, spec_seenAt h, hk, cond_true, Option.bind_some]
    unfold rowOf rowS spec_RowsAt_j1
    cases seenV xs (i : Int) t with
    | none => simp only [cond_false, hw]; simp
    | some v =>
     simp only [cond_true]
     rw [app_lt (by simp; omega), Option.bind_some, hw]
     rfl)
  (fun f s hI => by
   obtain ⟨hI, hIl⟩ := hI
   rw [List.length_range] at hI hIl
   show spec_RowsAt_l0 xs t (f + 1) (((List.range 5).length : Nat) : Int) s = _
   rw [List.length_range, spec_RowsAt_l0, decide_eq_false (by omega), cond_false, hI]
   rfl) (s := []) ⟨rfl, Nat.le_refl _⟩
 exact this
def restV (b : T_impl_Entry) (log : List T_impl_Entry) (t : Int) : List (List T_impl_Value) × Bool := bif (behV b log).2 && decide (b.fTime ≤ t) then (rowsV (runV [] (cutL (behL b log) t)) t, true) else ([], false)
theorem beh_facts {b : T_impl_Entry} {log : List T_impl_Entry} (hb : SmWrs b.fWrites) (h : SmLog log) (hl : log.length ≤ 2000000) (hv : (behV b log).2 = true) :
  behV b log = (behL b log, true) ∧ entG b = true ∧ logOk log = true ∧ logOk (behL b log) = true ∧ SmLog (behL b log) := by
 unfold behV at hv ⊢
 cases hc : entG b && (logOk log && decide ((behL b log).length ≤ 12)) with
 | false => rw [hc] at hv; cases hv
 | true =>
  simp only [Bool.and_eq_true] at hc
  obtain ⟨h1, h2, h3⟩ := hc
  exact ⟨rfl, h1, h2, by rw [behL_ok h2, h1, h3]; rfl, SmLog.beh hb h hl⟩
end Go.D
set_option linter.unusedVariables false
namespace Go.D
def Ok_Value (x : T_laws_Value) : Prop := x.fS.size ≤ 1048576
theorem sz_Value : SzP laws_szValue W_T_laws_Value Ok_Value := by
 have h := sz_one (z := laws_szValue) (W := W_T_laws_Value) (fun x => x.fS.size) (fun x h => h.2.2) (fun x n => by unfold laws_szValue; rfl)
 exact h
def c_Value (x : T_laws_Value) : T_impl_Value := ⟨x.fKind, x.fN, x.fS⟩
theorem to_Value (x : T_laws_Value) (h : Ok_Value x) : laws_toValue x = some (c_Value x) := rfl
def OkI_Value (x : T_impl_Value) : Prop := True
theorem eq_Value (x : T_impl_Value) (h : OkI_Value x) : laws_eqValue x x = some true := by
 unfold laws_eqValue
 simp only [beq_self_eq_true, Bool.not_true, cond_false]
theorem sz_ValueS : SzP laws_szValueS (listW W_T_laws_Value) (okL Ok_Value) := sz_loop sz_Value (fun _ _ => rfl) (fun _ _ _ _ => rfl)
theorem to_ValueS (xs : List T_laws_Value) (h : (okL Ok_Value) xs) : laws_toValueS xs = some (xs.map c_Value) := to_loop (S := laws_toValueS) (L := laws_toValueS_l0) to_Value (fun _ => rfl) (fun _ _ _ _ => rfl) xs h
theorem eq_ValueS (xs : List T_impl_Value) (h : (okL OkI_Value) xs) : laws_eqValueS xs xs = some true := eq_loop (S := laws_eqValueS) (L := laws_eqValueS_l0) eq_Value (fun _ _ => rfl) (fun _ _ _ _ => rfl) xs h
def Ok_Write (x : T_laws_Write) : Prop := (okL Ok_Value) x.fRow
theorem sz_Write : SzP laws_szWrite W_T_laws_Write Ok_Write := by
 intro x n hW h0 hn
 obtain ⟨w0, w1, w2⟩ := hW
 unfold laws_szWrite Ok_Write
 obtain ⟨r0, e0, k0⟩ := sz_ValueS x.fRow n w1 (by omega) (by omega)
 rw [e0, Option.bind_some]
 rcases k0 with k0 | ⟨p0, q0, o0⟩
 ·exact ⟨-1, by rw [decide_eq_true k0, cond_true], .inl (by omega)⟩
 rw [decide_eq_false (show ¬ r0 < 0 by omega), cond_false]
 exact ⟨r0, rfl, .inr ⟨by omega, by omega, o0⟩⟩
def c_Write (x : T_laws_Write) : T_impl_Write := ⟨x.fKey, (x.fRow.map c_Value), x.fGone⟩
theorem to_Write (x : T_laws_Write) (h : Ok_Write x) : laws_toWrite_D x = some (c_Write x) := by
 unfold laws_toWrite_D
 rw [to_ValueS x.fRow h, Option.bind_some]
 rfl
def OkI_Write (x : T_impl_Write) : Prop := (okL OkI_Value) x.fRow
theorem eq_Write (x : T_impl_Write) (h : OkI_Write x) : laws_eqWrite x x = some true := by
 unfold laws_eqWrite
 simp only [beq_self_eq_true, Bool.not_true, cond_false, eq_ValueS x.fRow h, Option.bind_some]
theorem sz_WriteS : SzP laws_szWriteS (listW W_T_laws_Write) (okL Ok_Write) := sz_loop sz_Write (fun _ _ => rfl) (fun _ _ _ _ => rfl)
theorem to_WriteS (xs : List T_laws_Write) (h : (okL Ok_Write) xs) : laws_toWriteS_D xs = some (xs.map c_Write) := to_loop (S := laws_toWriteS_D) (L := laws_toWriteS_D_l0) to_Write (fun _ => rfl) (fun _ _ _ _ => rfl) xs h
theorem eq_WriteS (xs : List T_impl_Write) (h : (okL OkI_Write) xs) : laws_eqWriteS xs xs = some true := eq_loop (S := laws_eqWriteS) (L := laws_eqWriteS_l0) eq_Write (fun _ _ => rfl) (fun _ _ _ _ => rfl) xs h
def Ok_Entry (x : T_laws_Entry) : Prop := (okL Ok_Write) x.fWrites
theorem sz_Entry : SzP laws_szEntry W_T_laws_Entry Ok_Entry := by
 intro x n hW h0 hn
 obtain ⟨w0, w1⟩ := hW
 unfold laws_szEntry Ok_Entry
 obtain ⟨r0, e0, k0⟩ := sz_WriteS x.fWrites n w1 (by omega) (by omega)
 rw [e0, Option.bind_some]
 rcases k0 with k0 | ⟨p0, q0, o0⟩
 ·exact ⟨-1, by rw [decide_eq_true k0, cond_true], .inl (by omega)⟩
 rw [decide_eq_false (show ¬ r0 < 0 by omega), cond_false]
 exact ⟨r0, rfl, .inr ⟨by omega, by omega, o0⟩⟩
def c_Entry (x : T_laws_Entry) : T_impl_Entry := ⟨x.fTime, (x.fWrites.map c_Write)⟩
theorem to_Entry (x : T_laws_Entry) (h : Ok_Entry x) : laws_toEntry_D x = some (c_Entry x) := by
 unfold laws_toEntry_D
 rw [to_WriteS x.fWrites h, Option.bind_some]
 rfl
def OkI_Entry (x : T_impl_Entry) : Prop := (okL OkI_Write) x.fWrites
theorem eq_Entry (x : T_impl_Entry) (h : OkI_Entry x) : laws_eqEntry x x = some true := by
 unfold laws_eqEntry
 simp only [beq_self_eq_true, Bool.not_true, cond_false, eq_WriteS x.fWrites h, Option.bind_some]
theorem sz_EntryS : SzP laws_szEntryS (listW W_T_laws_Entry) (okL Ok_Entry) := sz_loop sz_Entry (fun _ _ => rfl) (fun _ _ _ _ => rfl)
theorem to_EntryS (xs : List T_laws_Entry) (h : (okL Ok_Entry) xs) : laws_toEntryS_D xs = some (xs.map c_Entry) := to_loop (S := laws_toEntryS_D) (L := laws_toEntryS_D_l0) to_Entry (fun _ => rfl) (fun _ _ _ _ => rfl) xs h
theorem eq_EntryS (xs : List T_impl_Entry) (h : (okL OkI_Entry) xs) : laws_eqEntryS xs xs = some true := eq_loop (S := laws_eqEntryS) (L := laws_eqEntryS_l0) eq_Entry (fun _ _ => rfl) (fun _ _ _ _ => rfl) xs h
end Go.D
set_option linter.unusedVariables false
namespace Go.D
theorem sm_value {v : T_laws_Value} (h : Ok_Value v) : SmV (c_Value v) := Nat.le_trans h (by omega)
theorem okL_map {α β : Type} {ok : α → Prop} {ok' : β → Prop} {f : α → β} (hf : ∀ x, ok x → ok' (f x)) {xs : List α} (h : okL ok xs) : okL ok' (xs.map f) :=
 ⟨by rw [List.length_map]; exact h.1, fun y hy => by
  obtain ⟨x, hx, rfl⟩ := List.mem_map.1 hy
  exact hf x (h.2 x hx)⟩
theorem okL_sm {α : Type} {ok : α → Prop} {xs : List α} (h : okL ok xs) : Sm xs.length := Nat.le_trans h.1 (by omega)
theorem sm_row {r : List T_laws_Value} (h : okL Ok_Value r) : SmR (r.map c_Value) := ⟨okL_sm (okL_map (ok' := fun _ => True) (fun _ _ => trivial) h), (okL_map (ok' := SmV) (fun _ => sm_value) h).2⟩
end Go.D
set_option linter.unusedVariables false
namespace Go.D
theorem getI_setM {α : Type} {xs : List α} {i : Nat} {v : α} (h : i < xs.length) : getI (xs.set i v) (i : Int) = some v := by
 rw [getI_nat, List.getElem?_set_self h]
abbrev TOP : Int := 4611686018427387904
theorem w_succ {k : Int} (h0 : 0 ≤ k) (h1 : k < TOP) : w64 (k + 1) = k + 1 := w64_of (by omega) (by unfold TOP at h1; omega)
theorem mark_loop {α : Type} {M : Nat → Int → Int → List α → Option (Int × List α)} {H : List α → Nat → Int → Int → Option Int} {P : α → Prop} (c : Int) (hc : 0 ≤ c)
  (hm : ∀ (f : Nat) (k : Int) (i : Nat) (xs : List α) (x : α), xs[i]? = some x → xs.length ≤ 2097152 → P x → 0 ≤ k → k + c ≤ TOP → ∃ k' x', M (f + 1) k (i : Int) xs = M f k' ((i + 1 : Nat) : Int) (xs.set i x') ∧ k ≤ k' ∧ k' ≤ k + c ∧
   ∀ (ys : List α) (g : Nat), ys[i]? = some x' → ys.length ≤ 2097152 → H ys (g + 1) k (i : Int) = H ys g k' ((i + 1 : Nat) : Int))
  (he : ∀ (f : Nat) (k : Int) (xs : List α), M (f + 1) k (xs.length : Int) xs = some (k, xs))
  (hh : ∀ (g : Nat) (k : Int) (ys : List α), H ys (g + 1) k (ys.length : Int) = some k) :
  ∀ (m i : Nat) (xs : List α) (k : Int) (f : Nat), xs.length = i + m → xs.length ≤ 2097152 → m < f → (∀ (j : Nat) x, i ≤ j → xs[j]? = some x → P x) → 0 ≤ k → k + m * c ≤ TOP →
   ∃ k' ys, M f k (i : Int) xs = some (k', ys) ∧ ys.length = xs.length ∧ (∀ j, j < i → ys[j]? = xs[j]?) ∧ k ≤ k' ∧ k' ≤ k + m * c ∧ ∀ g, m < g → H ys g k (i : Int) = some k'
 | 0, i, xs, k, f, hl, hn, hf, hP, h0, hK => by
  obtain ⟨f, rfl⟩ : ∃ f', f = f' + 1 := ⟨f - 1, by omega⟩
  have e : (i : Int) = (xs.length : Int) := by rw [hl]; simp
  refine ⟨k, xs, by rw [e]; exact he f k xs, rfl, fun _ _ => rfl, by omega, by simp, fun g hg => ?_⟩
  obtain ⟨g, rfl⟩ : ∃ g', g = g' + 1 := ⟨g - 1, by omega⟩
  rw [e]
  exact hh g k xs
 | m + 1, i, xs, k, f, hl, hn, hf, hP, h0, hK => by
  obtain ⟨f, rfl⟩ : ∃ f', f = f' + 1 := ⟨f - 1, by omega⟩
  have hi : i < xs.length := by omega
  have hx : xs[i]? = some xs[i] := List.getElem?_eq_getElem hi
  have hmc : ((m + 1 : Nat) : Int) * c = m * c + c := by rw [Int.natCast_add, Int.add_mul]; simp
  have hmc0 : 0 ≤ (m : Int) * c := Int.mul_nonneg (by omega) hc
  rw [hmc] at hK
  obtain ⟨k1, x1, e1, p1, q1, r1⟩ := hm f k i xs xs[i] hx hn (hP i _ (Nat.le_refl _) hx) h0 (by omega)
  obtain ⟨k2, ys, e2, l2, s2, p2, q2, r2⟩ := mark_loop c hc hm he hh m (i + 1) (xs.set i x1) k1 f (by rw [List.length_set]; omega) (by rw [List.length_set]; exact hn) (by omega)
   (fun j x hj hxj => hP j x (by omega) (by rwa [List.getElem?_set_ne (by omega)] at hxj)) (by omega) (by omega)
  rw [List.length_set] at l2
  refine ⟨k2, ys, e1.trans e2, l2, fun j hj => ?_, by omega, by rw [hmc]; omega, fun g hg => ?_⟩
  ·rw [s2 j (by omega), List.getElem?_set_ne (by omega)]
  ·obtain ⟨g, rfl⟩ : ∃ g', g = g' + 1 := ⟨g - 1, by omega⟩
   rw [r1 ys g (by rw [s2 i (by omega), List.getElem?_set_self hi]) (by omega)]
   exact r2 g (by omega)
def MkP {α : Type} (M : α → Int → Option (Int × α)) (H : α → Int → Option Int) (P : α → Prop) (c : Int) : Prop :=
 ∀ x k, P x → 0 ≤ k → k + c ≤ TOP → ∃ k' x', M x k = some (k', x') ∧ k ≤ k' ∧ k' ≤ k + c ∧ H x' k = some k'
theorem mark_all {α : Type} {S : List α → Int → Option (Int × List α)} {T : List α → Int → Option Int} {M : Nat → Int → Int → List α → Option (Int × List α)} {H : List α → Nat → Int → Int → Option Int} {P : α → Prop} (c : Int) (hc : 0 ≤ c)
  (hS : ∀ xs k, S xs k = M FUEL k 0 xs) (hT : ∀ xs k, T xs k = H xs FUEL k 0)
  (hm : ∀ (f : Nat) (k : Int) (i : Nat) (xs : List α) (x : α), xs[i]? = some x → xs.length ≤ 2097152 → P x → 0 ≤ k → k + c ≤ TOP → ∃ k' x', M (f + 1) k (i : Int) xs = M f k' ((i + 1 : Nat) : Int) (xs.set i x') ∧ k ≤ k' ∧ k' ≤ k + c ∧
   ∀ (ys : List α) (g : Nat), ys[i]? = some x' → ys.length ≤ 2097152 → H ys (g + 1) k (i : Int) = H ys g k' ((i + 1 : Nat) : Int))
  (he : ∀ (f : Nat) (k : Int) (xs : List α), M (f + 1) k (xs.length : Int) xs = some (k, xs))
  (hh : ∀ (g : Nat) (k : Int) (ys : List α), H ys (g + 1) k (ys.length : Int) = some k) : MkP S T (okL P) (1048576 * c) := by
 intro xs k hP h0 hK
 have hn : (xs.length : Int) * c ≤ 1048576 * c := Int.mul_le_mul_of_nonneg_right (by have := hP.1; omega) hc
 have hF : xs.length < FUEL := by have := hP.1; unfold FUEL; omega
 obtain ⟨k', ys, e, l, _, p, q, r⟩ := mark_loop c hc hm he hh xs.length 0 xs k FUEL (by simp) (by have := hP.1; omega) hF (fun j x _ hx => hP.2 x (List.mem_of_getElem? hx)) h0 (by omega)
 exact ⟨k', ys, by rw [hS]; exact e, p, by omega, by rw [hT]; exact r FUEL hF⟩
def MkT {α : Type} (M : α → Int → Option (Int × α)) (P : α → Prop) (c : Int) : Prop :=
 ∀ x k, P x → 0 ≤ k → k + c ≤ TOP → ∃ k' x', M x k = some (k', x') ∧ k ≤ k' ∧ k' ≤ k + c
theorem mark_loopT {α : Type} {M : Nat → Int → Int → List α → Option (Int × List α)} {P : α → Prop} (c : Int) (hc : 0 ≤ c)
  (hm : ∀ (f : Nat) (k : Int) (i : Nat) (xs : List α) (x : α), xs[i]? = some x → xs.length ≤ 2097152 → P x → 0 ≤ k → k + c ≤ TOP → ∃ k' x', M (f + 1) k (i : Int) xs = M f k' ((i + 1 : Nat) : Int) (xs.set i x') ∧ k ≤ k' ∧ k' ≤ k + c)
  (he : ∀ (f : Nat) (k : Int) (xs : List α), M (f + 1) k (xs.length : Int) xs = some (k, xs)) :
  ∀ (m i : Nat) (xs : List α) (k : Int) (f : Nat), xs.length = i + m → xs.length ≤ 2097152 → m < f → (∀ (j : Nat) x, i ≤ j → xs[j]? = some x → P x) → 0 ≤ k → k + m * c ≤ TOP →
   ∃ k' ys, M f k (i : Int) xs = some (k', ys) ∧ k ≤ k' ∧ k' ≤ k + m * c
 | 0, i, xs, k, f, hl, hn, hf, hP, h0, hK => by
  obtain ⟨f, rfl⟩ : ∃ f', f = f' + 1 := ⟨f - 1, by omega⟩
  have e : (i : Int) = (xs.length : Int) := by rw [hl]; simp
  exact ⟨k, xs, by rw [e]; exact he f k xs, by omega, by simp⟩
 | m + 1, i, xs, k, f, hl, hn, hf, hP, h0, hK => by
  obtain ⟨f, rfl⟩ : ∃ f', f = f' + 1 := ⟨f - 1, by omega⟩
  have hi : i < xs.length := by omega
  have hx : xs[i]? = some xs[i] := List.getElem?_eq_getElem hi
  have hmc : ((m + 1 : Nat) : Int) * c = m * c + c := by rw [Int.natCast_add, Int.add_mul]; simp
  have hmc0 : 0 ≤ (m : Int) * c := Int.mul_nonneg (by omega) hc
  rw [hmc] at hK
  obtain ⟨k1, x1, e1, p1, q1⟩ := hm f k i xs xs[i] hx hn (hP i _ (Nat.le_refl _) hx) h0 (by omega)
  obtain ⟨k2, ys, e2, p2, q2⟩ := mark_loopT c hc hm he m (i + 1) (xs.set i x1) k1 f (by rw [List.length_set]; omega) (by rw [List.length_set]; exact hn) (by omega)
   (fun j x hj hxj => hP j x (by omega) (by rwa [List.getElem?_set_ne (by omega)] at hxj)) (by omega) (by omega)
  exact ⟨k2, ys, e1.trans e2, by omega, by rw [hmc]; omega⟩
theorem mark_allT {α : Type} {S : List α → Int → Option (Int × List α)} {M : Nat → Int → Int → List α → Option (Int × List α)} {P : α → Prop} (c : Int) (hc : 0 ≤ c)
  (hS : ∀ xs k, S xs k = M FUEL k 0 xs)
  (hm : ∀ (f : Nat) (k : Int) (i : Nat) (xs : List α) (x : α), xs[i]? = some x → xs.length ≤ 2097152 → P x → 0 ≤ k → k + c ≤ TOP → ∃ k' x', M (f + 1) k (i : Int) xs = M f k' ((i + 1 : Nat) : Int) (xs.set i x') ∧ k ≤ k' ∧ k' ≤ k + c)
  (he : ∀ (f : Nat) (k : Int) (xs : List α), M (f + 1) k (xs.length : Int) xs = some (k, xs)) : MkT S (okL P) (1048576 * c) := by
 intro xs k hP h0 hK
 have hn : (xs.length : Int) * c ≤ 1048576 * c := Int.mul_le_mul_of_nonneg_right (by have := hP.1; omega) hc
 have hF : xs.length < FUEL := by have := hP.1; unfold FUEL; omega
 obtain ⟨k', ys, e, p, q⟩ := mark_loopT c hc hm he xs.length 0 xs k FUEL (by simp) (by have := hP.1; omega) hF (fun j x _ hx => hP.2 x (List.mem_of_getElem? hx)) h0 (by omega)
 exact ⟨k', ys, by rw [hS]; exact e, p, by omega⟩
theorem addS_of {a b : ByteArray} (h : a.size + b.size ≤ 4611686018427387904) : addS a b = some (a ++ b) := if_pos h
end Go.D
set_option linter.unusedVariables false
set_option linter.unusedSimpArgs false
namespace Go.D
theorem markText_l0 : ∀ (d f : Nat) (x : Int) (s : ByteArray), 0 ≤ x → x < 10 ^ d → d < f → s.size + d ≤ 1000 → x ≤ 4611686018427387904 → ∃ t, laws_markText_l0 f x s = some t := by
 intro d
 induction d with
 | zero =>
  intro f x s h0 h1 hf hs hx
  obtain ⟨f, rfl⟩ : ∃ f', f = f' + 1 := ⟨f - 1, by omega⟩
  have e : x = 0 := by simp at h1; omega
  subst e
  rw [laws_markText_l0, decide_eq_false (by omega), cond_false, addS_of (by have : (ByteArray.mk #[109]).size = 1 := rfl; omega)]
  exact ⟨_, rfl⟩
 | succ d ih =>
  intro f x s h0 h1 hf hs hx
  obtain ⟨f, rfl⟩ : ∃ f', f = f' + 1 := ⟨f - 1, by omega⟩
  rw [laws_markText_l0]
  by_cases hp : x > 0
  ·rw [decide_eq_true hp, cond_true, addS_of (by have : ∀ b : UInt8, (ByteArray.mk (List.toArray ([b] : List UInt8))).size = 1 := fun _ => rfl; rw [this]; omega), Option.bind_some]
   have e : x.tdiv 10 = x / 10 := Int.tdiv_eq_ediv_of_nonneg h0
   have h2 : x < 10 * 10 ^ d := by rw [Int.pow_succ] at h1; omega
   have h3 : w64 (x.tdiv 10) = x / 10 := by rw [e]; exact w64_of (by omega) (by omega)
   rw [h3]
   refine ih f (x / 10) _ (by omega) ?_ (by omega) ?_ (by omega)
   ·generalize (10 : Int) ^ d = q at *
    omega
   ·rw [ByteArray.size_append]
    have : ∀ b : UInt8, (ByteArray.mk (List.toArray ([b] : List UInt8))).size = 1 := fun _ => rfl
    rw [this]; omega
  ·rw [decide_eq_false hp, cond_false, addS_of (by have : (ByteArray.mk #[109]).size = 1 := rfl; omega)]
   exact ⟨_, rfl⟩
theorem mark_text {k : Int} (h0 : 0 ≤ k) (h1 : k ≤ TOP) : ∃ t, laws_markText k = some t := by
 unfold laws_markText
 by_cases h : k ≤ 0
 ·rw [decide_eq_true h, cond_true]
  exact ⟨_, rfl⟩
 ·rw [decide_eq_false h, cond_false]
  exact markText_l0 19 FUEL k _ h0 (by unfold TOP at h1; omega) (by unfold FUEL; omega) (by decide) h1
theorem mk_ValueS : MkP laws_markValueS laws_heldValueS (okL (fun _ => True)) (1048576 * 3) :=
 mark_all (M := laws_markValueS_l0) (H := laws_heldValueS_l0) 3 (by omega) (fun _ _ => rfl) (fun _ _ => rfl) (by
  intro f k i xs x hx hn hP h0 hK
  have hi : i < xs.length := (List.getElem?_eq_some_iff.1 hx).1
  have hd : decide ((i : Int) < (xs.length : Int)) = true := decide_eq_true (by omega)
  have hs : w64 ((i : Int) + 1) = ((i + 1 : Nat) : Int) := succ_w hi (by omega)
  have hg0 : getI xs (i : Int) = some x := by rw [getI_nat]; exact hx
  have hg : ∀ v, getI (xs.set i v) (i : Int) = some v := fun v => getI_setM hi
  have w1 : w64 (k + 1) = k + 1 := w_succ (by omega) (by unfold TOP at *; omega)
  have w2 : w64 (k + 1 + 1) = k + 1 + 1 := w_succ (by omega) (by unfold TOP at *; omega)
  obtain ⟨t3, e3⟩ := mark_text (k := k + 1 + 1) (by omega) (by unfold TOP at *; omega)
  have w3 : w64 (k + 1 + 1 + 1) = k + 1 + 1 + 1 := w_succ (by omega) (by unfold TOP at *; omega)
  apply Exists.intro
  apply Exists.intro
  refine ⟨?_, ?_, ?_, fun ys g hy hl => ?_⟩
  ·rw [laws_markValueS_l0]
   simp only [hd, cond_true, hs, Int.toNat_natCast, hg0, hg, Option.bind_some, List.set_set, w1, w2, e3, w3]
   rfl
  ·omega
  ·omega
  ·have hi2 : i < ys.length := (List.getElem?_eq_some_iff.1 hy).1
   have hd2 : decide ((i : Int) < (ys.length : Int)) = true := decide_eq_true (by omega)
   have hy2 := hy
   rw [← getI_nat] at hy2
   rw [laws_heldValueS_l0]
   simp only [hd2, cond_true, hs, hy2, Option.bind_some, beq_self_eq_true, Bool.not_true, cond_false, w1, w2, e3, w3])
  (fun f k xs => by simp only [laws_markValueS_l0, Int.lt_irrefl, decide_false, cond_false])
  (fun g k ys => by simp only [laws_heldValueS_l0, Int.lt_irrefl, decide_false, cond_false])
theorem mk_ValueSS : MkP laws_markValueSS laws_heldValueSS (okL (okL (fun _ => True))) (1048576 * 3145728) :=
 mark_all (M := laws_markValueSS_l0) (H := laws_heldValueSS_l0) 3145728 (by omega) (fun _ _ => rfl) (fun _ _ => rfl) (by
  intro f k i xs x hx hn hP h0 hK
  have hi : i < xs.length := (List.getElem?_eq_some_iff.1 hx).1
  have hd : decide ((i : Int) < (xs.length : Int)) = true := decide_eq_true (by omega)
  have hs : w64 ((i : Int) + 1) = ((i + 1 : Nat) : Int) := succ_w hi (by omega)
  have hg0 : getI xs (i : Int) = some x := by rw [getI_nat]; exact hx
  have hg : ∀ v, getI (xs.set i v) (i : Int) = some v := fun v => getI_setM hi
  obtain ⟨k1, y1, e1, p1, q1, h1⟩ := mk_ValueS x (k) hP (by omega) (by unfold TOP at *; omega)
  have n1 : decide (k1 < 0) = false := decide_eq_false (by omega)
  apply Exists.intro
  apply Exists.intro
  refine ⟨?_, ?_, ?_, fun ys g hy hl => ?_⟩
  ·rw [laws_markValueSS_l0]
   simp only [hd, cond_true, hs, Int.toNat_natCast, hg0, hg, Option.bind_some, List.set_set, e1]
   rfl
  ·omega
  ·omega
  ·have hi2 : i < ys.length := (List.getElem?_eq_some_iff.1 hy).1
   have hd2 : decide ((i : Int) < (ys.length : Int)) = true := decide_eq_true (by omega)
   have hy2 := hy
   rw [← getI_nat] at hy2
   rw [laws_heldValueSS_l0]
   simp only [hd2, cond_true, hs, hy2, Option.bind_some, beq_self_eq_true, Bool.not_true, cond_false, h1, n1])
  (fun f k xs => by simp only [laws_markValueSS_l0, Int.lt_irrefl, decide_false, cond_false])
  (fun g k ys => by simp only [laws_heldValueSS_l0, Int.lt_irrefl, decide_false, cond_false])
theorem mk_WriteS : MkT laws_markWriteS (okL OkI_Write) (1048576 * 3145730) :=
 mark_allT (M := laws_markWriteS_l0) 3145730 (by omega) (fun _ _ => rfl) (by
  intro f k i xs x hx hn hP h0 hK
  have hi : i < xs.length := (List.getElem?_eq_some_iff.1 hx).1
  have hd : decide ((i : Int) < (xs.length : Int)) = true := decide_eq_true (by omega)
  have hs : w64 ((i : Int) + 1) = ((i + 1 : Nat) : Int) := succ_w hi (by omega)
  have hg0 : getI xs (i : Int) = some x := by rw [getI_nat]; exact hx
  have hg : ∀ v, getI (xs.set i v) (i : Int) = some v := fun v => getI_setM hi
  have w1 : w64 (k + 1) = k + 1 := w_succ (by omega) (by unfold TOP at *; omega)
  obtain ⟨k2, y2, e2, p2, q2, h2⟩ := mk_ValueS x.fRow (k + 1) hP (by omega) (by unfold TOP at *; omega)
  have n2 : decide (k2 < 0) = false := decide_eq_false (by omega)
  have w3 : w64 (k2 + 1) = k2 + 1 := w_succ (by omega) (by unfold TOP at *; omega)
  apply Exists.intro
  apply Exists.intro
  refine ⟨?_, ?_, ?_⟩
  ·rw [laws_markWriteS_l0]
   simp only [hd, cond_true, hs, Int.toNat_natCast, hg0, hg, Option.bind_some, List.set_set, w1, e2, w3]
   rfl
  ·omega
  ·omega)
  (fun f k xs => by simp only [laws_markWriteS_l0, Int.lt_irrefl, decide_false, cond_false])
theorem mk_EntryS : MkT laws_markEntryS (okL OkI_Entry) (1048576 * 3298536980481) :=
 mark_allT (M := laws_markEntryS_l0) 3298536980481 (by omega) (fun _ _ => rfl) (by
  intro f k i xs x hx hn hP h0 hK
  have hi : i < xs.length := (List.getElem?_eq_some_iff.1 hx).1
  have hd : decide ((i : Int) < (xs.length : Int)) = true := decide_eq_true (by omega)
  have hs : w64 ((i : Int) + 1) = ((i + 1 : Nat) : Int) := succ_w hi (by omega)
  have hg0 : getI xs (i : Int) = some x := by rw [getI_nat]; exact hx
  have hg : ∀ v, getI (xs.set i v) (i : Int) = some v := fun v => getI_setM hi
  have w1 : w64 (k + 1) = k + 1 := w_succ (by omega) (by unfold TOP at *; omega)
  obtain ⟨k2, y2, e2, p2, q2⟩ := mk_WriteS x.fWrites (k + 1) hP (by omega) (by unfold TOP at *; omega)
  have n2 : decide (k2 < 0) = false := decide_eq_false (by omega)
  apply Exists.intro
  apply Exists.intro
  refine ⟨?_, ?_, ?_⟩
  ·rw [laws_markEntryS_l0]
   simp only [hd, cond_true, hs, Int.toNat_natCast, hg0, hg, Option.bind_some, List.set_set, w1, e2]
   rfl
  ·omega
  ·omega)
  (fun f k xs => by simp only [laws_markEntryS_l0, Int.lt_irrefl, decide_false, cond_false])
theorem mk_Entry (x : T_impl_Entry) (k : Int) (hP : OkI_Entry x) (h0 : 0 ≤ k) (hK : k + 3298536980480 ≤ TOP) : ∃ k', laws_markEntry x k = some k' ∧ k ≤ k' ∧ k' ≤ k + 3298536980480 := by
  obtain ⟨k1, y1, e1, p1, q1⟩ := mk_WriteS x.fWrites (k) hP (by omega) (by unfold TOP at *; omega)
  have n1 : decide (k1 < 0) = false := decide_eq_false (by omega)
  apply Exists.intro
  refine ⟨?_, ?_, ?_⟩
  ·unfold laws_markEntry
   simp only [Option.bind_some, e1]
   rfl
  all_goals omega
end Go.D
set_option linter.unusedVariables false
namespace Go.D
theorem impl_cloneVD {a : List T_impl_Value} (ha : a.length ≤ 4194304) : impl_clone_impl_Value_R a = some a := by
 unfold impl_clone_impl_Value_R slices_Clip_impl_Value_impl_Value_R
 cases h : ((a.length : Int)) == 0
 ·rw [cond_false, app_lt (by simp; omega), Option.bind_some, List.nil_append, show slI a none (some (a.length : Int)) (some (a.length : Int)) = some a by simp [slI]]
  rfl
 ·have : a = [] := by
   have : (a.length : Int) = 0 := by simpa using h
   exact List.eq_nil_of_length_eq_zero (by omega)
  subst this
  rfl
theorem impl_clipRsD {xs : List (List T_impl_Value)} : slices_Clip_impl_Value_impl_Value_s3_D xs = some xs := by
 unfold slices_Clip_impl_Value_impl_Value_s3_D
 rw [show slI xs none (some (xs.length : Int)) (some (xs.length : Int)) = some xs by simp [slI]]
 rfl
theorem impl_copyRsD {xs : List (List T_impl_Value)} (hl : Sm xs.length) (h : ∀ r ∈ xs, SmR r) : impl_rowsCopy_D xs = some xs := by
 have := loop_opt (xs := xs) (L := fun f i (s : List (List T_impl_Value)) => impl_rowsCopy_D_l0 xs f i s) (fun rest s => some (s ++ rest)) (fun i s => s.length = i) (by omega)
  (fun f i s v hi hv hw hI => .inr ⟨s ++ [v], by simp; omega, by
   have := (h v (List.mem_of_getElem? hv)).1
   rw [impl_rowsCopy_D_l0, decide_eq_true (by omega), cond_true, getI_nat, hv, Option.bind_some, impl_cloneVD (by omega), Option.bind_some, app_lt (by simp; omega), Option.bind_some, hw], by simp⟩)
  (fun f s hI => by rw [impl_rowsCopy_D_l0, decide_eq_false (Int.lt_irrefl _), cond_false, impl_clipRsD]; simp) (s := []) rfl
 have e : impl_rowsCopy_D xs = some ([] ++ xs) := this
 simpa using e
theorem impl_rowsAtD {xs : List T_impl_Version} (h : SmVers xs) (t : Int) : impl_RowsAt_D xs t = some (bif vOk xs then rowsV xs t else []) := by
 unfold impl_RowsAt_D
 rw [impl_vOk h, Option.bind_some]
 cases vOk xs with
 | false => rfl
 | true =>
  rw [Bool.not_true, cond_false, cond_true]
  have := loop_opt (xs := List.range 5) (L := fun f i (s : List (List T_impl_Value)) => impl_RowsAt_D_l0 xs t f i s) (fun _ _ => some (rowsV xs t)) (fun i s => s = (List.range i).filterMap (fun (k : Nat) => rowOf xs (k : Int) t) ∧ s.length ≤ i) (by simp)
   (fun f i s v hi hv hw hI => by
    obtain ⟨hI, hIl⟩ := hI
    have hi5 : i < 5 := by simpa using hi
    refine .inr ⟨s ++ (rowOf xs (i : Int) t).toList, ⟨by rw [fm_succ, ← hI], ?_⟩, ?_, rfl⟩
    ·cases rowOf xs (i : Int) t <;> simp <;> omega
    ·rw [impl_RowsAt_D_l0, decide_eq_true (by omega), cond_true, impl_seenV h.1, Option.bind_some]
     unfold rowOf
     cases seenV xs (i : Int) t with
     | none => simp only [cond_false, hw]; simp
     | some v =>
      simp only [cond_true]
      rw [app_lt (by simp; omega), Option.bind_some, hw]
      rfl)
   (fun f s hI => by
    obtain ⟨hI, hIl⟩ := hI
    rw [List.length_range] at hI hIl
    show impl_RowsAt_D_l0 xs t (f + 1) (((List.range 5).length : Nat) : Int) s = _
    rw [List.length_range, impl_RowsAt_D_l0, decide_eq_false (by omega), cond_false, impl_copyRsD (by omega) (fun r hr => by
     rw [hI] at hr
     obtain ⟨k, _, hk⟩ := List.mem_filterMap.1 hr
     exact rowOf_sm h hk), Option.bind_some, hI]
    rfl) (s := []) ⟨rfl, Nat.le_refl _⟩
  exact this
theorem impl_runD {log : List T_impl_Entry} (hg : ∀ e ∈ log, entG e = true) (ha : AscL log) (hl : log.length ≤ 100000) : impl_logRun [] log = some (runV [] log) := by
 have := loop_opt (xs := log) (L := fun f i (s : List T_impl_Version) => impl_logRun_l0 log f s i) (fun rest s => some (runV s rest)) (fun i s => ∃ T, RunI i T s (log.drop i)) (by omega)
  (fun f i s e hi hv hw hI => by
   obtain ⟨T, hI⟩ := hI
   have he : log[i] = e := by rw [List.getElem?_eq_getElem hi] at hv; exact Option.some.inj hv
   rw [drop_run hi, he] at hI
   have hge := hg e (List.mem_of_getElem? hv)
   obtain ⟨⟨t1, t2⟩, hwo⟩ := (entG_iff e).1 hge
   have hal : AscL (e :: log.drop (i + 1)) := by
    have : AscL (log.drop i) := List.Pairwise.sublist (List.drop_sublist _ _) ha
    rw [drop_run hi, he] at this
    exact this
   refine .inr ⟨writtenV s e.fWrites e.fTime, ⟨_, hI.step hge hal⟩, ?_, rfl⟩
   have hsl := hI.len
   rw [impl_logRun_l0, decide_eq_true (by omega), cond_true, getI_nat, hv, Option.bind_some, impl_writtenV (hI.hi e (by simp)) t1 t2 hwo hI.inv (by omega), Option.bind_some, hw])
  (fun f s hI => by
   obtain ⟨T, hI⟩ := hI
   have hsl := hI.len
   rw [impl_logRun_l0, decide_eq_false (Int.lt_irrefl _), cond_false, impl_copyV (hI.inv.sm (by omega))]
   rfl) (s := []) ⟨0, by simpa using RunI.start log hg⟩
 exact this
theorem cut_runD {log : List T_impl_Entry} (h : SmLog log) (hk : logOk log = true) (t : Int) : impl_logRun [] (cutL log t) = some (runV [] (cutL log t)) ∧ SmVers (runV [] (cutL log t)) ∧ vOk (runV [] (cutL log t)) = true := by
 obtain ⟨h1, h2, h3⟩ := (logOk_iff _).1 (cut_ok hk t)
 obtain ⟨r1, r2, _⟩ := run_ok (cut_ok hk t)
 exact ⟨impl_runD h1 h2 (by omega), r1, r2⟩
theorem impl_restD {b : T_impl_Entry} {log : List T_impl_Entry} (hb : SmWrs b.fWrites) (h : SmLog log) (hl : log.length ≤ 2000000) (t : Int) : impl_RestoredAt_D b log t = some (restV b log t) := by
 unfold impl_RestoredAt_D restV
 rw [impl_beh hb h hl, Option.bind_some]
 cases hv : (behV b log).2 with
 | false => rfl
 | true =>
  obtain ⟨e, h1, h2, h3, h4⟩ := beh_facts hb h hl hv
  rw [Bool.not_true, cond_false, Bool.true_and]
  unfold impl_RestoredAt_D_j0
  by_cases ht : t < b.fTime
  ·rw [decide_eq_true ht, decide_eq_false (by omega)]; rfl
  ·obtain ⟨r1, r2, r3⟩ := cut_runD h4 h3 t
   have hbl : (behL b log).length ≤ 2000000 := by have := ((logOk_iff _).1 h3).2.2; omega
   rw [decide_eq_false ht, decide_eq_true (show b.fTime ≤ t by omega), cond_false, cond_true, e]
   simp only
   rw [impl_cut h4 hbl, Option.bind_some, r1, Option.bind_some, impl_rowsAtD r2, r3]
   rfl
theorem spec_restD {b : T_impl_Entry} {log : List T_impl_Entry} (hb : SmWrs b.fWrites) (h : SmLog log) (hl : log.length ≤ 2000000) (t : Int) : spec_RestoredAt b log t = some (restV b log t) := by
 unfold spec_RestoredAt restV
 rw [spec_beh hb h hl, Option.bind_some]
 cases hv : (behV b log).2 with
 | false => rfl
 | true =>
  obtain ⟨e, h1, h2, h3, h4⟩ := beh_facts hb h hl hv
  rw [Bool.not_true, cond_false, Bool.true_and]
  unfold spec_RestoredAt_j0
  by_cases ht : t < b.fTime
  ·rw [decide_eq_true ht, decide_eq_false (by omega)]; rfl
  ·obtain ⟨r1, r2, r3⟩ := cut_runD h4 h3 t
   rw [decide_eq_false ht, decide_eq_true (show b.fTime ≤ t by omega), cond_false, cond_true, e]
   simp only
   rw [spec_cut h4 h3, Option.bind_some, spec_runV (cut_sm h4 t), cut_ok h3 t, cond_true, Option.bind_some, spec_rowsAt r2 r3]
   rfl
theorem eq_ValueSS (xs : List (List T_impl_Value)) (h : (okL (okL OkI_Value)) xs) : laws_eqValueSS xs xs = some true := eq_loop (S := laws_eqValueSS) (L := laws_eqValueSS_l0) eq_ValueS (fun _ _ => rfl) (fun _ _ _ _ => rfl) xs h
theorem rest_ok {b : T_impl_Entry} {log : List T_impl_Entry} (hb : SmWrs b.fWrites) (h : SmLog log) (hl : log.length ≤ 2000000) (t : Int) : okL (okL OkI_Value) (restV b log t).1 := by
 have h0 : okL (okL OkI_Value) [] := ⟨by simp, fun e he => (by cases he)⟩
 unfold restV
 cases hv : (behV b log).2 with
 | false => exact h0
 | true =>
  obtain ⟨e, h1, h2, h3, h4⟩ := beh_facts hb h hl hv
  obtain ⟨r1, r2, r3⟩ := cut_runD h4 h3 t
  cases decide (b.fTime ≤ t) with
  | false => exact h0
  | true =>
   refine ⟨?_, fun r hr => ?_⟩
   ·show (rowsV (runV [] (cutL (behL b log) t)) t).length ≤ 1048576
    unfold rowsV
    exact Nat.le_trans (fm_len _ 5) (by omega)
   obtain ⟨k, _, hk⟩ := List.mem_filterMap.1 hr
   unfold rowOf at hk
   rw [Option.map_eq_some_iff] at hk
   obtain ⟨v, hv, rfl⟩ := hk
   have hg := ((vOk_iff _).1 r3).1 v (seenV_mem hv).1
   have hr := ((verG_iff v).1 hg).2.2.2
   unfold rowOk at hr
   rw [Bool.and_eq_true] at hr
   have := of_decide_eq_true hr.2
   exact ⟨by omega, fun _ _ => trivial⟩
theorem law_restored {a0 : T_laws_Entry} {a1 : List T_laws_Entry} {a2 : Int} (w0 : W_T_laws_Entry a0) (w1 : listW W_T_laws_Entry a1) (w2 : intW a2) : laws_FnExactRestoredAt a0 a1 a2 = some true := by
 unfold laws_FnExactRestoredAt
 obtain ⟨r0, e0, k0⟩ := sz_Entry a0 1048576 w0 (by omega) (by omega)
 rw [e0, Option.bind_some]
 rcases k0 with k0 | ⟨p0, q0, o0⟩
 ·rw [decide_eq_true k0, cond_true]
 rw [decide_eq_false (show ¬ r0 < 0 by omega), cond_false]
 obtain ⟨r1, e1, k1⟩ := sz_EntryS a1 r0 w1 (by omega) (by omega)
 rw [e1, Option.bind_some]
 rcases k1 with k1 | ⟨p1, q1, o1⟩
 ·rw [decide_eq_true k1, cond_true]
 rw [decide_eq_false (show ¬ r1 < 0 by omega), cond_false]
 have mw : ∀ x : T_laws_Entry, Ok_Entry x → OkI_Entry (c_Entry x) := fun x hx => okL_map (f := c_Write) (ok' := OkI_Write) (fun y hy => okL_map (f := c_Value) (ok' := OkI_Value) (fun _ _ => trivial) hy) hx
 have sw : ∀ x : T_laws_Entry, Ok_Entry x → SmWrs (c_Entry x).fWrites := fun x hx => by
  have h1 := okL_map (ok := Ok_Write) (ok' := OkI_Write) (f := c_Write) (fun y hy => okL_map (f := c_Value) (ok' := OkI_Value) (fun _ _ => trivial) hy) hx
  have h2 := okL_map (ok := Ok_Write) (ok' := fun w : T_impl_Write => SmR w.fRow) (f := c_Write) (fun y hy => sm_row hy) hx
  exact ⟨okL_sm h1, h2.2⟩
 have m0 := mw a0 o0
 have m1 := okL_map (f := c_Entry) (ok' := OkI_Entry) mw o1
 have hs0 := sw a0 o0
 have hs1 : SmLog (a1.map c_Entry) := ⟨okL_sm m1, (okL_map (ok := Ok_Entry) (ok' := fun e => SmWrs e.fWrites) (f := c_Entry) sw o1).2⟩
 have hl1 : (a1.map c_Entry).length ≤ 2000000 := by have := m1.1; omega
 have ov := rest_ok hs0 hs1 hl1 a2
 obtain ⟨k5, g5, p5, q5⟩ := mk_Entry _ 1 m0 (by omega) (by unfold TOP; omega)
 obtain ⟨k6, y6, g6, p6, q6⟩ := mk_EntryS _ k5 m1 (by omega) (by unfold TOP; omega)
 obtain ⟨k10, y10, g10, p10, q10, h10⟩ := mk_ValueSS _ 1 ov (by omega) (by unfold TOP; omega)
 have n6 : decide (k6 < 0) = false := decide_eq_false (by omega)
 have n10 : decide (k10 < 0) = false := decide_eq_false (by omega)
 simp only [to_Entry a0 o0, to_EntryS a1 o1, Option.bind_some, spec_restD hs0 hs1 hl1, impl_restD hs0 hs1 hl1, beq_self_eq_true, Bool.not_true, cond_false,
  eq_Entry _ m0, eq_EntryS _ m1, eq_ValueSS _ ov, g5, g6, n6, laws_FnExactRestoredAt_j0, laws_FnExactRestoredAt_j1, laws_FnExactRestoredAt_j2, g10, h10, n10]
end Go.D
set_option linter.unusedVariables false
namespace Go.D
open Go.ChangeShapes Go.RowKit
theorem trodAll_carry {H : Type} {enc : TypeId × Value → H} {P : Program} {w w' : World} {base : Nat} {sp : Nat → Bool} {held : Bool} : ∀ {ts : List TypeId} {vs : List Value} {ds : List (DataW H)} {ps : List MemPlace},
  DataW.TrodAll enc P w base sp held ts vs ds ps → (∀ p ∈ ps, w.sameAt w' p) → DataW.TrodAll enc P w' base sp held ts vs ds ps
 | [], [], [], _, h, _ => h
 | _ :: _, _ :: _, _ :: _, _, ⟨p, q, ⟨n, hn⟩, h2, e⟩, hs =>
  ⟨p, q, ⟨n, DataW.trod_carry n _ _ _ hn fun x hx => hs x (by rw [e]; exact List.mem_append_left _ hx)⟩, trodAll_carry h2 fun x hx => hs x (by rw [e]; exact List.mem_append_right _ hx), e⟩
theorem Kept.sameAt {w w' : World} (h : Grew w w') {p : MemPlace} (hp : p.block < w.heap.size) : w.sameAt w' p := by
 have hb := h.block p.block hp (fun h => h)
 cases p with
 | cell b off =>
  show w'.cell? ⟨b, off, none⟩ = w.cell? ⟨b, off, none⟩
  unfold World.cell?
  have hb : w'.heap[b]? = w.heap[b]? := hb
  simp only [hb]
 | map b => exact hb
theorem Kept.keptBut {w w' : World} (h : Grew w w') (may : MemPlace → Prop) : w.keptBut w' may := by
 refine ⟨h.os, h.output, fun i hi => ?_⟩
 rw [h.block i hi (fun h => h)]
 cases w.heap[i]? with
 | none => trivial
 | some o => cases o <;> simp
theorem contract_of {P : Program} {fid : FuncId} {fn : Func} {s : ChangeSpec} {tb : TypeId} {H : Type} {enc : TypeId × Value → H}
  (hK : Kids P (· < P.types.size)) (hfull : ∀ t e, t < P.types.size → P.underlying t = some (.slice e) → 0 < P.cellsOf e)
  (hp : ∀ t ∈ fn.params.toList, t < P.types.size) (hv : s.vars = []) (hr : fn.resultTypes = #[tb]) (hb : P.underlying tb = some .bool)
  {n : Nat} (hn : fn.params.toList.length = n) (hs : ∀ ds : List (DataW H), ds.length = n → s.fn H ds = { results := [.lit (.bool true)], args := ds })
  {W : World} {args : Array Value} {ds gs : List (DataW H)} {before : List MemPlace}
  (hlaw : ∀ p, DataW.TrodAll enc P W 0 (fun _ => true) true fn.params.toList args.toList ds p → ∃ ins, FrL W (fun _ => False) ins args.toList ∧ OK P fid ins (B true))
  (hW : DataW.Whole enc P fn.params.toList s.vars false W args.toList ds gs before) :
  Calls P fid args W fun e W' => ∃ v, e = .returned v ∧ s.post enc P fn false true false false W args v W' := by
 have hlt := hW.lt
 have hW' := hW
 obtain ⟨p, q, hA, hV, rfl, hfz, hnd⟩ := hW
 rw [hv] at hV
 obtain ⟨rfl, rfl⟩ := trodVars_none hV
 obtain ⟨ins, h1, h2⟩ := hlaw p hA
 have hlen : ∀ {ts : List TypeId} {vs : List Value} {ds : List (DataW H)} {ps : List MemPlace}, DataW.TrodAll enc P W 0 (fun _ => true) true ts vs ds ps → ds.length = ts.length := by
  intro ts
  induction ts with
  | nil => intro vs ds ps h; obtain ⟨_, rfl, _⟩ := trodAll_nil h; rfl
  | cons t ts ih =>
   intro vs ds ps h
   obtain ⟨_, _, _, _, _, _, rfl, rfl, rfl, _, h⟩ := trodAll_cons h
   simp [ih h]
 have hds : ds.length = n := (hlen hA).trans hn
 have hc := h2.2 W args.toList (fun _ => False) (fun b h => h.elim) h1
 have ha : args.toList.toArray = args := by simp
 rw [ha] at hc
 refine hc.mono fun e W' ⟨v, fp, he, hg, ho, _⟩ => ⟨v, he, ?_⟩
 simp only [B, Ow] at ho
 obtain ⟨rfl, rfl⟩ := ho
 have hsame : ∀ x ∈ p, W.sameAt W' x := fun x hx => Kept.sameAt hg (hlt x (by simpa using hx))
 refine ⟨ds, [], p ++ [], [], p, [], hW', ?_, ?_, ?_, Kept.keptBut hg _, fun h => by cases h⟩
 ·rw [List.append_nil, hs ds hds, hr]
  exact trodAll_mk1 (shut_bool hb true)
 ·rw [List.append_nil, hs ds hds]
  exact trodAll_carry (DataW.TrodAll.respare hK hfull hp hA fun x hx => by
   have := hlt x (by simpa using hx)
   simpa using this) hsame
 ·rw [hv, List.append_nil, hs ds hds]
  rfl
end Go.D
