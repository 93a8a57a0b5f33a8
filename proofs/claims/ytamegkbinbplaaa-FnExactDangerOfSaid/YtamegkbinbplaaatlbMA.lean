import Derived.Test.YtamegkbinbplaaatlbDXFB
import Derived.Test.YtamegkbinbplaaatlbDShow
import Derived.ChangeArms
import Derived.ChangeShapes
import Derived.Deep.Slices
import Derived.Test.YtamegkbinbplaaatlbDOwn3
import Derived.Test.YtamegkbinbplaaatlbDNil
import Derived.Test.YtamegkbinbplaaatlbDMin
import Derived.Test.YtamegkbinbplaaatlbDVal
import Derived.Test.YtamegkbinbplaaatlbDXT
import Derived.OpenShut
import Derived.ReadAgain
import Derived.ProofKit
set_option linter.unusedVariables false
namespace Go.D
end Go.D
set_option linter.unusedVariables false
namespace Go.D
def Rd (P : Program) (t : TypeId) (α : Type) [Enc α] (W : α → Prop) : Prop :=
 P.cellsOf t = Enc.sz α ∧ ∀ (H : Type) (enc : TypeId × Value → H) (w : World) (base : Nat) (sp : Nat → Bool) (held : Bool) (fuel : Nat) (cs : List Value) (x : DataW H × List MemPlace), DataW.trod enc P w base sp held fuel t cs = some x →
  ∃ y : α, FrL w (fun _ => False) (Enc.cells y) cs ∧ W y
def intW (n : Int) : Prop := -9223372036854775808 ≤ n ∧ n ≤ 9223372036854775807
def boolW (_ : Bool) : Prop := True
def strW (s : ByteArray) : Prop := s.size ≤ 9223372036854775807
def listW {α : Type} (W : α → Prop) (l : List α) : Prop := l.length ≤ 9223372036854775807 ∧ ∀ x ∈ l, W x
section
variable {P : Program}
theorem rd_int {t : TypeId} (ht : P.underlying t = some (.int .i64)) (hc : P.cellsOf t = 1) : Rd P t Int intW := ⟨hc, fun H enc w base sp held fuel cs x h => by
 obtain ⟨n, rfl, _, hw⟩ := DataW.trod_int ht h
 refine ⟨n, ?_, by simpa [Lit.wf, IntKind.min, IntKind.max, IntKind.signed, IntKind.bits, intW] using hw⟩
 show FrL w _ [I n] _
 simp only [FrL]
 exact ⟨_, _, rfl, by simp only [Fr], rfl⟩⟩
theorem rd_bool {t : TypeId} (ht : P.underlying t = some .bool) (hc : P.cellsOf t = 1) : Rd P t Bool boolW := ⟨hc, fun H enc w base sp held fuel cs x h => by
 obtain ⟨b, rfl, _⟩ := DataW.trod_bool ht h
 refine ⟨b, ?_, trivial⟩
 show FrL w _ [B b] _
 simp only [FrL]
 exact ⟨_, _, rfl, by simp only [Fr], rfl⟩⟩
theorem rd_str {t : TypeId} (ht : P.underlying t = some .string) (hc : P.cellsOf t = 1) : Rd P t ByteArray strW := ⟨hc, fun H enc w base sp held fuel cs x h => by
 obtain ⟨s, rfl, _, hs⟩ := DataW.trod_string ht h
 refine ⟨s, ?_, by simpa [strW, maxLen] using hs⟩
 show FrL w _ [S s] _
 simp only [FrL]
 exact ⟨_, _, rfl, by simp only [Fr], rfl⟩⟩
theorem eL_flat {α : Type} [Enc α] {w : World} {M : Nat → Prop} : ∀ {ys : List α} {uss : List (List Value)}, ys.length = uss.length → (∀ (i : Nat) (y : α) (us : List Value), ys[i]? = some y → uss[i]? = some us → FrL w M (Enc.cells y) us) → FrL w M (eL ys) uss.flatten
 | [], [], _, _ => by simp [eL, FrL]
 | [], _ :: _, h, _ => by simp at h
 | _ :: _, [], h, _ => by simp at h
 | y :: ys, us :: uss, h, k => by
  simp only [eL, List.flatten_cons]
  exact FrL.append (k 0 y us rfl rfl) (eL_flat (by simpa using h) fun i y' us' h1 h2 => k (i + 1) y' us' (by simpa using h1) (by simpa using h2))
theorem flat_get {sz : Nat} (hsz : 0 < sz) : ∀ {uss : List (List Value)}, (∀ us ∈ uss, us.length = sz) → ∀ {j : Nat} {v : Value}, uss.flatten[j]? = some v → ∃ us, uss[j / sz]? = some us ∧ us[j % sz]? = some v
 | [], _, j, v, h => by simp at h
 | us :: uss, hl, j, v, h => by
  have h0 : us.length = sz := hl us (by simp)
  simp only [List.flatten_cons] at h
  rcases Nat.lt_or_ge j sz with hj | hj
  ·rw [List.getElem?_append_left (by omega)] at h
   refine ⟨us, by rw [Nat.div_eq_of_lt hj]; rfl, by rw [Nat.mod_eq_of_lt hj]; exact h⟩
  ·rw [List.getElem?_append_right (by omega), h0] at h
   obtain ⟨us', h1, h2⟩ := flat_get hsz (fun us' hu => hl us' (by simp [hu])) h
   refine ⟨us', ?_, ?_⟩
   ·have : j / sz = (j - sz) / sz + 1 := by rw [Nat.div_eq_sub_div hsz hj]
    rw [this]
    simpa using h1
   ·rw [Nat.mod_eq_sub_mod hj]; exact h2
theorem rd_slice {t e : TypeId} {α : Type} [Enc α] {W : α → Prop} (ht : P.underlying t = some (.slice e)) (hc : P.cellsOf t = 1) (he : Rd P e α W) : Rd P t (List α) (listW W) := ⟨hc, fun H enc w base sp held fuel cs x h => by
 obtain ⟨hce, he⟩ := he
 have hpos : 0 < Enc.sz α := Enc.pos
 have fin : ∀ (ys : List α) (v : Value), Fr w (fun _ => False) (A ys) v → listW W ys → ∃ y : List α, FrL w (fun _ => False) (Enc.cells y) [v] ∧ listW W y := fun ys v h1 h2 => ⟨ys, by
  show FrL w _ [A ys] _
  simp only [FrL]
  exact ⟨_, _, rfl, h1, rfl⟩, h2⟩
 rcases Go.Deep.open_slice ht h with ⟨rfl, _⟩ | ⟨a, len, cap, m, n, D, Pl, rfl, hb, hl, hm, hmm, _, hx⟩
 ·exact fin [] _ (Fr.nil w _ _ hpos) ⟨by simp, by simp⟩
 ·have hcapm : cap ≤ maxI := by simpa [maxLen, maxI] using hm
  by_cases h0 : len = 0
  ·subst h0
   refine fin [] _ ?_ ⟨by simp, by simp⟩
   simp only [Fr]
   exact ⟨some a, cap, rfl, ⟨hpos, by simp [eL], by simp, hcapm, fun h => by cases h⟩, .inl rfl⟩
  ·have hlm : len ≤ m := by rw [hmm]; split <;> omega
   have hel : ∀ i, i < len → ∃ p : List Value × α, w.cells? base (a.add (i * P.cellsOf e)) (P.cellsOf e) = some p.1 ∧ FrL w (fun _ => False) (Enc.cells p.2) p.1 ∧ W p.2 := by
    intro i hi
    obtain ⟨cs', h1, h2⟩ := hx i (by omega)
    obtain ⟨y, h3, h4⟩ := he H enc w base sp held n cs' _ h2
    exact ⟨(cs', y), h1, h3, h4⟩
   obtain ⟨p0, hp0⟩ := hel 0 (by omega)
   haveI : Inhabited (List Value × α) := ⟨p0⟩
   obtain ⟨F, hF⟩ := Go.Deep.choose_lt (α := List Value × α) (p := fun i p => w.cells? base (a.add (i * P.cellsOf e)) (P.cellsOf e) = some p.1 ∧ FrL w (fun _ => False) (Enc.cells p.2) p.1 ∧ W p.2) hel
   let ys : List α := (List.range len).map fun i => (F i).2
   let uss : List (List Value) := (List.range len).map fun i => (F i).1
   have hul : ∀ us ∈ uss, us.length = Enc.sz α := by
    intro us hu
    obtain ⟨i, hi, rfl⟩ := List.mem_map.1 hu
    have := (World.cells?_some (hF i (List.mem_range.1 hi)).1).2.1
    rw [this, hce]
   have hys : ys.length = len := by simp [ys]
   have hfl : FrL w (fun _ => False) (eL ys) uss.flatten := eL_flat (by simp [ys, uss]) fun i y us h1 h2 => by
    simp only [ys, uss, List.getElem?_map] at h1 h2
    have hi : i < len := by
     cases hr : (List.range len)[i]? with
     | none => rw [hr] at h1; cases h1
     | some k => have := (List.getElem?_eq_some_iff.1 hr).1; simpa using this
    rw [List.getElem?_range hi] at h1 h2
    simp only [Option.map_some, Option.some.injEq] at h1 h2
    rw [← h1, ← h2]
    exact (hF i hi).2.1
   have hul0 : ((F 0).1).length = Enc.sz α := hul _ (List.mem_map.2 ⟨0, by simp; omega, rfl⟩)
   have h00 : ∃ v, w.cell? a = some v := by
    have h1 := (World.cells?_some (hF 0 (by omega)).1).2.2 0 (by rw [hce]; exact hpos)
    rw [List.getElem?_eq_getElem (by omega)] at h1
    refine ⟨_, Eq.trans ?_ h1⟩
    simp [Addr.add]
   obtain ⟨v00, hv00⟩ := h00
   have hspot : a.spot = none := World.cell?_spot hv00
   obtain ⟨ab, ao, as_⟩ := a
   simp only at hspot
   subst hspot
   have hcell : ∀ i j, i < len → j < Enc.sz α → w.cell? ⟨ab, ao + (i * Enc.sz α + j), none⟩ = ((F i).1)[j]? := by
    intro i j hi hj
    have := (World.cells?_some (hF i hi).1).2.2 j (by rw [hce]; exact hj)
    rw [hce] at this
    rw [← this]
    congr 1
    unfold Addr.add
    split <;> split <;> simp_all <;> omega
   refine fin ys _ ?_ ⟨by rw [hys]; simp only [maxI] at hcapm; omega, fun y hy => by
    obtain ⟨i, hi, rfl⟩ := List.mem_map.1 hy
    exact (hF i (List.mem_range.1 hi)).2.2⟩
   simp only [Fr]
   refine ⟨some ⟨ab, ao, none⟩, cap, by rw [hys], ⟨hpos, by rw [eL_len], by rw [hys]; exact hl, hcapm, fun h => by cases h⟩, .inr ⟨ab, ao, uss.flatten, rfl, World.block_lt_of_cell? _ _ hv00, fun h => h, hfl, fun j hj => ?_⟩⟩
   obtain ⟨us, h1, h2⟩ := flat_get hpos hul (List.getElem?_eq_getElem hj)
   have hi : j / Enc.sz α < len := by
    have := (List.getElem?_eq_some_iff.1 h1).1
    simpa [uss] using this
   simp only [uss, List.getElem?_map, List.getElem?_range hi, Option.map_some, Option.some.injEq] at h1
   have := hcell (j / Enc.sz α) (j % Enc.sz α) hi (Nat.mod_lt _ hpos)
   rw [h1, h2] at this
   have e1 : j / Enc.sz α * Enc.sz α + j % Enc.sz α = j := by rw [Nat.mul_comm]; exact Nat.div_add_mod j _
   rw [e1] at this
   rw [List.getElem?_eq_getElem hj, ← this]⟩
end
end Go.D
set_option linter.unusedVariables false
namespace Go.D
theorem w64_of {n : Int} (h1 : -9223372036854775808 ≤ n) (h2 : n ≤ 9223372036854775807) : w64 n = n := by
 have hm : IntKind.i64.min = -9223372036854775808 := by decide
 have hM : IntKind.i64.max = 9223372036854775807 := by decide
 simp [w64, IntKind.wrap, IntKind.signed, IntKind.bits]
 omega
theorem getI_nat {α : Type} {xs : List α} {i : Nat} : getI xs (i : Int) = xs[i]? := by
 unfold getI
 rw [if_pos (by omega), Int.toNat_natCast]
theorem getI_lt {α : Type} {xs : List α} {i : Int} (h0 : 0 ≤ i) (h1 : i < xs.length) : ∃ x, getI xs i = some x ∧ xs[i.toNat]? = some x := by
 unfold getI
 rw [if_pos h0]
 have : i.toNat < xs.length := by omega
 exact ⟨xs[i.toNat], by rw [List.getElem?_eq_getElem this], by rw [List.getElem?_eq_getElem this]⟩
theorem app_lt {α : Type} {xs ys : List α} (h : xs.length + ys.length < 68719476736) : app xs ys = some (xs ++ ys) := if_pos h
theorem succ_w {i n : Nat} (h : i < n) (hn : n ≤ 70368744177663) : w64 ((i : Int) + 1) = ((i + 1 : Nat) : Int) := by
 rw [w64_of (by omega) (by omega)]
 omega
theorem loop_all {α : Type} {xs : List α} {L : Nat → Int → Option Bool} {p : α → Bool} {fin : Bool} (hlen : xs.length ≤ 70368744177662)
  (h : ∀ (f i : Nat) (v : α), i < xs.length → xs[i]? = some v → w64 ((i : Int) + 1) = ((i + 1 : Nat) : Int) → L (f + 1) i = bif p v then L f ((i + 1 : Nat) : Int) else some false)
  (he : ∀ f, L (f + 1) (xs.length : Int) = some fin) : L FUEL 0 = some (xs.all p && fin) := by
 have main : ∀ (k f i : Nat), i + k = xs.length → k < f → L f (i : Int) = some ((xs.drop i).all p && fin) := by
  intro k
  induction k with
  | zero =>
   intro f i hi hf
   obtain ⟨f, rfl⟩ : ∃ f', f = f' + 1 := ⟨f - 1, by omega⟩
   have : i = xs.length := by omega
   subst this
   rw [he, List.drop_length]
   simp
  | succ k ih =>
   intro f i hi hf
   obtain ⟨f, rfl⟩ : ∃ f', f = f' + 1 := ⟨f - 1, by omega⟩
   have hlt : i < xs.length := by omega
   rw [h f i xs[i] hlt (List.getElem?_eq_getElem hlt) (succ_w hlt (by omega)), ih f (i + 1) (by omega) (by omega), List.drop_eq_getElem_cons hlt, List.all_cons]
   cases p xs[i] <;> simp
 have := main xs.length FUEL 0 (by omega) (by unfold FUEL; omega)
 simpa using this
theorem loop_find {α : Type} {xs : List α} {L : Nat → Int → Option Int} {p : α → Bool} (hlen : xs.length ≤ 70368744177662)
  (h : ∀ (f i : Nat) (v : α), i < xs.length → xs[i]? = some v → w64 ((i : Int) + 1) = ((i + 1 : Nat) : Int) → L (f + 1) i = bif p v then some (i : Int) else L f ((i + 1 : Nat) : Int))
  (he : ∀ f, L (f + 1) (xs.length : Int) = some (-1)) : ∃ r, L FUEL 0 = some r ∧ decide (r ≥ 0) = xs.any p := by
 have main : ∀ (k f i : Nat), i + k = xs.length → k < f → ∃ r, L f (i : Int) = some r ∧ decide (r ≥ 0) = (xs.drop i).any p := by
  intro k
  induction k with
  | zero =>
   intro f i hi hf
   obtain ⟨f, rfl⟩ : ∃ f', f = f' + 1 := ⟨f - 1, by omega⟩
   have : i = xs.length := by omega
   subst this
   rw [he, List.drop_length]
   exact ⟨_, rfl, by simp⟩
  | succ k ih =>
   intro f i hi hf
   obtain ⟨f, rfl⟩ : ∃ f', f = f' + 1 := ⟨f - 1, by omega⟩
   have hlt : i < xs.length := by omega
   rw [h f i xs[i] hlt (List.getElem?_eq_getElem hlt) (succ_w hlt (by omega)), List.drop_eq_getElem_cons hlt, List.any_cons]
   cases hp : p xs[i] with
   | true => exact ⟨_, rfl, by simp⟩
   | false =>
    obtain ⟨r, h1, h2⟩ := ih f (i + 1) (by omega) (by omega)
    exact ⟨r, h1, by simp [h2]⟩
 have := main xs.length FUEL 0 (by omega) (by unfold FUEL; omega)
 simpa using this
theorem loop_q {α σ β : Type} {xs : List α} {L : Nat → Int → σ → Option β} (Q : List α → σ → β → Prop) (Inv : Nat → σ → Prop) (hlen : xs.length ≤ 70368744177662)
  (h : ∀ (f i : Nat) (s : σ) (v : α) (rest : List α), i + (rest.length + 1) = xs.length → i < xs.length → xs[i]? = some v → w64 ((i : Int) + 1) = ((i + 1 : Nat) : Int) → Inv i s →
   (∃ y, L (f + 1) i s = some y ∧ Q (v :: rest) s y) ∨ ∃ s', Inv (i + 1) s' ∧ L (f + 1) i s = L f ((i + 1 : Nat) : Int) s' ∧ ∀ y, Q rest s' y → Q (v :: rest) s y)
  (he : ∀ f s, Inv xs.length s → ∃ y, L (f + 1) (xs.length : Int) s = some y ∧ Q [] s y) {s : σ} (h0 : Inv 0 s) : ∃ y, L FUEL 0 s = some y ∧ Q xs s y := by
 have main : ∀ (k f i : Nat) (s : σ), i + k = xs.length → k < f → Inv i s → ∃ y, L f (i : Int) s = some y ∧ Q (xs.drop i) s y := by
  intro k
  induction k with
  | zero =>
   intro f i s hi hf hI
   obtain ⟨f, rfl⟩ : ∃ f', f = f' + 1 := ⟨f - 1, by omega⟩
   have : i = xs.length := by omega
   subst this
   rw [List.drop_length]
   exact he _ _ hI
  | succ k ih =>
   intro f i s hi hf hI
   obtain ⟨f, rfl⟩ : ∃ f', f = f' + 1 := ⟨f - 1, by omega⟩
   have hlt : i < xs.length := by omega
   rw [List.drop_eq_getElem_cons hlt]
   rcases h f i s xs[i] (xs.drop (i + 1)) (by rw [List.length_drop]; omega) hlt (List.getElem?_eq_getElem hlt) (succ_w hlt (by omega)) hI with h1 | ⟨s', h1, h2, h3⟩
   ·exact h1
   ·obtain ⟨y, h4, h5⟩ := ih f (i + 1) s' (by omega) (by omega) h1
    exact ⟨y, h2.trans h4, h3 y h5⟩
 have := main xs.length FUEL 0 s (by omega) (by unfold FUEL; omega) h0
 simpa using this
def okL {α : Type} (ok : α → Prop) (xs : List α) : Prop := xs.length ≤ 1048576 ∧ ∀ x ∈ xs, ok x
def SzP {α : Type} (z : α → Int → Option Int) (W ok : α → Prop) : Prop := ∀ x n, W x → 0 ≤ n → n ≤ 1048576 → ∃ r, z x n = some r ∧ (r < 0 ∨ (0 ≤ r ∧ r ≤ n ∧ ok x))
theorem sz_cut {k : Nat} {n : Int} (hk : k ≤ 9223372036854775807) (h0 : 0 ≤ n) (hn : n ≤ 1048576) : w64 (n - (k : Int)) = n - k := w64_of (by omega) (by omega)
theorem sz_one {α : Type} {z : α → Int → Option Int} {W : α → Prop} (k : α → Nat) (hk : ∀ x, W x → k x ≤ 9223372036854775807)
  (hz : ∀ x n, z x n = bif (decide (w64 (n - ((k x : Nat) : Int)) < 0)) then some (-1) else some (w64 (n - ((k x : Nat) : Int)))) : SzP z W (fun x => k x ≤ 1048576) := by
 intro x n hW h0 hn
 rw [hz, sz_cut (hk x hW) h0 hn]
 by_cases h : n - (k x : Int) < 0
 ·exact ⟨-1, by rw [decide_eq_true h, cond_true], .inl (by omega)⟩
 ·exact ⟨n - k x, by rw [decide_eq_false h, cond_false], .inr ⟨by omega, by omega, by simp only; omega⟩⟩
theorem sz_flat {α : Type} {S : List α → Int → Option Int} {W ok : α → Prop} (hok : ∀ x, ok x) (hb : ∀ xs, listW W xs → xs.length ≤ 9223372036854775807)
  (hz : ∀ x n, S x n = bif (decide (w64 (n - ((x.length : Nat) : Int)) < 0)) then some (-1) else some (w64 (n - ((x.length : Nat) : Int)))) : SzP S (listW W) (okL ok) := by
 intro x n hW h0 hn
 obtain ⟨r, h1, h2⟩ := sz_one (z := S) (W := listW W) (fun x => x.length) hb hz x n hW h0 hn
 exact ⟨r, h1, h2.imp id fun h => ⟨h.1, h.2.1, h.2.2, fun x _ => hok x⟩⟩
theorem sz_loop {α : Type} {z : α → Int → Option Int} {S : List α → Int → Option Int} {L : List α → Nat → Int → Int → Option Int} {W ok : α → Prop} (hz : SzP z W ok)
  (hS : ∀ a n, S a n = bif (decide (w64 (n - ((a.length : Nat) : Int)) < 0)) then some (-1) else L a FUEL (w64 (n - ((a.length : Nat) : Int))) 0)
  (hL : ∀ a f n i, L a (f + 1) n i = bif (decide (i < ((a.length : Nat) : Int))) then (getI a i).bind fun v => (z v n).bind fun r => bif (decide (r < 0)) then some (-1) else L a f r (w64 (i + 1)) else some n) :
  SzP S (listW W) (okL ok) := by
 intro x n hW h0 hn
 rw [hS, sz_cut hW.1 h0 hn]
 by_cases h : n - (x.length : Int) < 0
 ·exact ⟨-1, by rw [decide_eq_true h, cond_true], .inl (by omega)⟩
 rw [decide_eq_false h, cond_false]
 have key := loop_q (xs := x) (L := fun f i (m : Int) => L x f m i) (fun rest m y => y < 0 ∨ (0 ≤ y ∧ y ≤ m ∧ ∀ v ∈ rest, ok v)) (fun i m => 0 ≤ m ∧ m ≤ n) (by omega)
  (fun f i m v rest hr hi hv hw hI => by
   have hlt : (i : Int) < x.length := by omega
   obtain ⟨r, h1, h2⟩ := hz v m (hW.2 v (List.mem_of_getElem? hv)) hI.1 (by omega)
   rcases h2 with h2 | ⟨h2, h3, h4⟩
   ·refine .inl ⟨-1, ?_, .inl (by omega)⟩
    simp only [hL, hlt, decide_true, cond_true, getI_nat, hv, Option.bind_some, h1, h2]
   ·refine .inr ⟨r, ⟨h2, by omega⟩, ?_, fun y hy => ?_⟩
    ·have : ¬ r < 0 := by omega
     simp only [hL, hlt, decide_true, cond_true, getI_nat, hv, Option.bind_some, h1, this, decide_false, cond_false, hw]
    ·rcases hy with hy | ⟨hy1, hy2, hy3⟩
     ·exact .inl hy
     ·refine .inr ⟨hy1, by omega, fun u hu => ?_⟩
      rcases List.mem_cons.1 hu with rfl | hu
      ·exact h4
      ·exact hy3 u hu)
  (fun f m hI => ⟨m, by simp only [hL, Int.lt_irrefl, decide_false, cond_false], .inr ⟨hI.1, Int.le_refl _, fun v hv => by cases hv⟩⟩) (s := n - (x.length : Int)) ⟨by omega, by omega⟩
 obtain ⟨y, h1, h2⟩ := key
 exact ⟨y, h1, h2.imp id fun h' => ⟨h'.1, by omega, by omega, h'.2.2⟩⟩
theorem to_loop {α β : Type} {c : α → β} {t : α → Option β} {S : List α → Option (List β)} {L : List α → Nat → Int → List β → Option (List β)} {d : β} {ok : α → Prop} (ht : ∀ x, ok x → t x = some (c x))
  (hS : ∀ a, S a = (mkI ((a.length : Nat) : Int) d).bind fun v => L a FUEL 0 v)
  (hL : ∀ a f i st, L a (f + 1) i st = bif (decide (i < ((a.length : Nat) : Int))) then (getI a i).bind fun v => (t v).bind fun y => (getI st i).bind fun _ => L a f (w64 (i + 1)) (st.set i.toNat y) else some st) :
  ∀ xs, okL ok xs → S xs = some (xs.map c) := by
 intro xs hx
 have hl := hx.1
 rw [hS, mkI, if_pos (by omega), Option.bind_some]
 have key := loop_q (xs := xs) (L := fun f i (st : List β) => L xs f i st) (fun rest st y => y = st.take (st.length - rest.length) ++ rest.map c) (fun i st => st.length = xs.length) (by omega)
  (fun f i st v rest hr hi hv hw hI => by
   have hlt : (i : Int) < xs.length := by omega
   obtain ⟨o, ho, _⟩ := getI_lt (xs := st) (i := (i : Int)) (by omega) (by omega)
   refine .inr ⟨st.set i (c v), by rw [List.length_set]; exact hI, ?_, fun y hy => ?_⟩
   ·rw [hL, decide_eq_true hlt, cond_true, getI_nat, hv, Option.bind_some, ht v (hx.2 v (List.mem_of_getElem? hv)), Option.bind_some, ho, Option.bind_some, hw, Int.toNat_natCast]
   ·have e1 : (st.set i (c v)).length - rest.length = i + 1 := by rw [List.length_set]; omega
    have e2 : st.length - (v :: rest).length = i := by simp only [List.length_cons]; omega
    rw [e1] at hy
    rw [e2, hy, List.take_add_one, List.take_set_of_le (Nat.le_refl i), List.getElem?_set_self (by omega)]
    simp)
  (fun f st hI => ⟨st, by simp only [hL, Int.lt_irrefl, decide_false, cond_false], by simp⟩) (s := List.replicate ((xs.length : Int)).toNat d) (by simp)
 obtain ⟨y, h1, h2⟩ := key
 rw [h1, h2]
 simp
theorem eq_loop {β : Type} {e : β → β → Option Bool} {S : List β → List β → Option Bool} {L : List β → List β → Nat → Int → Option Bool} {ok : β → Prop} (he : ∀ x, ok x → e x x = some true)
  (hS : ∀ a b, S a b = bif (!(((a.length : Nat) : Int) == ((b.length : Nat) : Int))) then some false else L a b FUEL 0)
  (hL : ∀ a b f i, L a b (f + 1) i = bif (decide (i < ((a.length : Nat) : Int))) then (getI a i).bind fun v => (getI b i).bind fun u => (e v u).bind fun r => bif (!r) then some false else L a b f (w64 (i + 1)) else some true) :
  ∀ xs, okL ok xs → S xs xs = some true := by
 intro xs hx
 have hl := hx.1
 rw [hS, beq_self_eq_true, Bool.not_true, cond_false]
 have := loop_all (xs := xs) (L := fun f i => L xs xs f i) (p := fun _ => true) (fin := true) (by omega) (fun f i v hi hv hw => by
  have hlt : (i : Int) < xs.length := by omega
  simp only [hL, hlt, decide_true, cond_true, getI_nat, hv, Option.bind_some, he v (hx.2 v (List.mem_of_getElem? hv)), Bool.not_true, cond_false, hw]) (fun f => by
  simp only [hL, Int.lt_irrefl, decide_false, cond_false])
 rw [this]
 simp
end Go.D
set_option linter.unusedVariables false
namespace Go.D
abbrev Sm (n : Nat) : Prop := n ≤ 2097152
def inR (a b c : Int) : Bool := decide (b ≤ a) && decide (a ≤ c)
theorem spec_in (a b c : Int) : spec_l1In a b c = some (inR a b c) := by
 unfold spec_l1In inR
 by_cases h : b ≤ a <;> simp [h]
theorem impl_in (a b c : Int) : impl_between a b c = some (inR a b c) := by
 unfold impl_between inR
 by_cases h : b ≤ a <;> simp [h]
theorem not_any_not {α : Type} (xs : List α) (p : α → Bool) : (!(xs.any fun x => !(p x))) = xs.all p := by
 induction xs with
 | nil => rfl
 | cons x xs ih => simp [← ih]
theorem cast_le6 (n : Nat) : decide ((n : Int) ≤ 6) = decide (n ≤ 6) := by
 simp only [decide_eq_decide]
 omega
theorem getB_nat {s : ByteArray} {i : Nat} : getB s (i : Int) = s.data.toList[i]? := by
 unfold getB
 rw [if_pos (by omega), Int.toNat_natCast]
 by_cases h : i < s.size
 ·rw [getElem?_pos s i h, List.getElem?_eq_getElem (by simpa using h)]
  simp only [Option.some.injEq]
  rfl
 ·rw [getElem?_neg s i h, List.getElem?_eq_none (by simpa using h)]
def letter (b : UInt8) : Bool := decide (97 ≤ b.toNat) && decide (b.toNat ≤ 122)
def textOk (s : ByteArray) : Bool := s.data.toList.all letter && decide (s.size ≤ 6)
theorem size_list (s : ByteArray) : s.data.toList.length = s.size := Array.length_toList
theorem spec_text {s : ByteArray} (h : Sm s.size) : spec_l1Text s = some (textOk s) := by
 unfold spec_l1Text textOk
 have hl := size_list s
 refine loop_all (xs := s.data.toList) (by omega) (fun f i v hi hv hw => ?_) (fun f => ?_)
 ·have : (i : Int) < s.size := by omega
  simp only [spec_l1Text_l0, this, decide_true, cond_true, getB_nat, hv, Option.bind_some, spec_l1Text_j1, hw]
  unfold letter
  by_cases h1 : (v.toNat : Int) < 97
  ·have : ¬ 97 ≤ v.toNat := by omega
   simp [h1, this]
  ·have h1' : 97 ≤ v.toNat := by omega
   by_cases h2 : (v.toNat : Int) > 122
   ·have : ¬ v.toNat ≤ 122 := by omega
    simp [h1, h1', h2, this]
   ·have : v.toNat ≤ 122 := by omega
    simp [h1, h1', h2, this]
 ·rw [hl]
  unfold spec_l1Text_l0
  rw [show decide ((s.size : Int) < (s.size : Int)) = false from decide_eq_false (Int.lt_irrefl _), cond_false, cast_le6]
theorem impl_lettersOk {s : ByteArray} (h : Sm s.size) : impl_letters s = some (s.data.toList.all letter) := by
 have hl := size_list s
 unfold impl_letters bytesOf
 rw [if_pos (by omega), Option.bind_some, ← Bool.and_true (s.data.toList.all letter)]
 refine loop_all (xs := s.data.toList) (by omega) (fun f i v hi hv hw => ?_) (fun f => ?_)
 ·have : (i : Int) < s.data.toList.length := by omega
  have hb : v.toNat < 256 := v.toNat_lt
  have h1 : w64 (v.toNat : Int) = v.toNat := w64_of (by omega) (by omega)
  simp only [impl_letters_l0, this, decide_true, cond_true, getI_nat, hv, Option.bind_some, impl_in, hw, h1]
  have : inR (v.toNat : Int) 97 122 = letter v := by
   unfold inR letter
   congr 1 <;> simp only [decide_eq_decide] <;> omega
  rw [this]
  cases letter v <;> rfl
 ·simp only [impl_letters_l0, Int.lt_irrefl, decide_false, cond_false]
def valOk (v : T_impl_Value) : Bool := bif v.fKind == 0 then v.fN == 0 && v.fS.toList == (ByteArray.mk #[]).toList else bif v.fKind == 1 then inR v.fN (-9999) 9999 && v.fS.toList == (ByteArray.mk #[]).toList else
 bif v.fKind == 2 then v.fN == 0 && textOk v.fS else bif v.fKind == 3 then inR v.fN 0 1 && v.fS.toList == (ByteArray.mk #[]).toList else false
theorem spec_value {v : T_impl_Value} (h : Sm v.fS.size) : spec_ValueOk v = some (valOk v) := by
 unfold spec_ValueOk valOk
 simp only [spec_in, spec_text h, Option.bind_some]
 cases v.fKind == 0 <;> cases v.fKind == 1 <;> cases v.fKind == 2 <;> cases v.fKind == 3 <;> cases v.fN == 0 <;> cases inR v.fN (-9999) 9999 <;> cases inR v.fN 0 1 <;> rfl
theorem impl_value {v : T_impl_Value} (h : Sm v.fS.size) : impl_Value_ok v = some (valOk v) := by
 unfold impl_Value_ok valOk
 simp only [impl_in, impl_lettersOk h, Option.bind_some]
 have e : eq_T_impl_Value v ((T_impl_Value.mk 0 0 (ByteArray.mk #[]))) = (v.fKind == 0 && (v.fN == 0 && v.fS.toList == (ByteArray.mk #[]).toList)) := rfl
 have e2 : decide ((v.fS.size : Int) ≤ 6) = decide (v.fS.size ≤ 6) := by
  simp only [decide_eq_decide]
  omega
 have e3 : textOk v.fS = (v.fS.data.toList.all letter && decide (v.fS.size ≤ 6)) := rfl
 rw [e, e2, e3]
 cases v.fKind == 0 <;> cases v.fKind == 1 <;> cases v.fKind == 2 <;> cases v.fKind == 3 <;> cases v.fN == 0 <;> cases inR v.fN (-9999) 9999 <;> cases inR v.fN 0 1 <;> cases v.fS.toList == (ByteArray.mk #[]).toList <;>
  cases decide (v.fS.size ≤ 6) <;> cases v.fS.data.toList.all letter <;> rfl
def SmV (v : T_impl_Value) : Prop := Sm v.fS.size
def SmR (r : List T_impl_Value) : Prop := Sm r.length ∧ ∀ v ∈ r, SmV v
def rowOk (r : List T_impl_Value) : Bool := r.all valOk && decide (r.length ≤ 4)
theorem spec_rowOk {r : List T_impl_Value} (h : SmR r) : spec_RowOk r = some (rowOk r) := by
 unfold spec_RowOk rowOk
 have hl := h.1
 refine loop_all (by omega) (fun f i v hi hv hw => ?_) (fun f => ?_)
 ·have : (i : Int) < r.length := by omega
  simp only [spec_RowOk_l0, this, decide_true, cond_true, getI_nat, hv, Option.bind_some, spec_value (h.2 v (List.mem_of_getElem? hv)), hw]
  cases valOk v <;> rfl
 ·simp only [spec_RowOk_l0, Int.lt_irrefl, decide_false, cond_false]
  congr 1
  simp only [decide_eq_decide]
  omega
theorem impl_rowAny {r : List T_impl_Value} (h : SmR r) : slices_ContainsFunc_impl_Value_impl_Value r impl_RowOk_1 = some (r.any fun v => !(valOk v)) := by
 unfold slices_ContainsFunc_impl_Value_impl_Value slices_IndexFunc_impl_Value_impl_Value
 have hl := h.1
 obtain ⟨x, h1, h2⟩ := loop_find (xs := r) (L := slices_IndexFunc_impl_Value_impl_Value_l0 r impl_RowOk_1) (p := fun v => !(valOk v)) (by omega) (fun f i v hi hv hw => by
  have : (i : Int) < r.length := by omega
  simp only [slices_IndexFunc_impl_Value_impl_Value_l0, this, decide_true, cond_true, getI_nat, hv, Option.bind_some, impl_RowOk_1, impl_value (h.2 v (List.mem_of_getElem? hv)), hw]) (fun f => by
  simp only [slices_IndexFunc_impl_Value_impl_Value_l0, Int.lt_irrefl, decide_false, cond_false])
 rw [h1, Option.bind_some, h2]
theorem le4 {α : Type} (xs : List α) : decide ((xs.length : Int) ≤ 4) = decide (xs.length ≤ 4) := by
 simp only [decide_eq_decide]
 omega
theorem impl_rowOk {r : List T_impl_Value} (h : SmR r) : impl_RowOk r = some (rowOk r) := by
 unfold impl_RowOk rowOk
 rw [impl_rowAny h, Option.bind_some, not_any_not, le4]
 cases decide (r.length ≤ 4) <;> simp
end Go.D
set_option linter.unusedVariables false
namespace Go.D
theorem loop_opt {α σ β : Type} {xs : List α} {L : Nat → Int → σ → Option β} (R : List α → σ → Option β) (Inv : Nat → σ → Prop) (hlen : xs.length ≤ 70368744177662)
  (h : ∀ (f i : Nat) (s : σ) (v : α), i < xs.length → xs[i]? = some v → w64 ((i : Int) + 1) = ((i + 1 : Nat) : Int) → Inv i s →
   L (f + 1) i s = R (v :: xs.drop (i + 1)) s ∨ ∃ s', Inv (i + 1) s' ∧ L (f + 1) i s = L f ((i + 1 : Nat) : Int) s' ∧ R (v :: xs.drop (i + 1)) s = R (xs.drop (i + 1)) s')
  (he : ∀ f s, Inv xs.length s → L (f + 1) (xs.length : Int) s = R [] s) {s : σ} (h0 : Inv 0 s) : L FUEL 0 s = R xs s := by
 have main : ∀ (k f i : Nat) (s : σ), i + k = xs.length → k < f → Inv i s → L f (i : Int) s = R (xs.drop i) s := by
  intro k
  induction k with
  | zero =>
   intro f i s hi hf hI
   obtain ⟨f, rfl⟩ : ∃ f', f = f' + 1 := ⟨f - 1, by omega⟩
   have : i = xs.length := by omega
   subst this
   rw [he _ _ hI, List.drop_length]
  | succ k ih =>
   intro f i s hi hf hI
   obtain ⟨f, rfl⟩ : ∃ f', f = f' + 1 := ⟨f - 1, by omega⟩
   have hlt : i < xs.length := by omega
   rw [List.drop_eq_getElem_cons hlt]
   rcases h f i s xs[i] hlt (List.getElem?_eq_getElem hlt) (succ_w hlt (by omega)) hI with h1 | ⟨s', h1, h2, h3⟩
   ·exact h1
   ·rw [h2, h3]
    exact ih f (i + 1) s' (by omega) (by omega) h1
 have := main xs.length FUEL 0 s (by omega) (by unfold FUEL; omega) h0
 simpa using this
end Go.D
set_option linter.unusedVariables false
namespace Go.D
theorem loop_idx {n : Nat} {L : Nat → Int → Option Bool} {p : Nat → Bool} {fin : Bool} (hn : n ≤ 70368744177662)
  (h : ∀ (f i : Nat), i < n → w64 ((i : Int) + 1) = ((i + 1 : Nat) : Int) → L (f + 1) i = bif p i then L f ((i + 1 : Nat) : Int) else some false)
  (he : ∀ f, L (f + 1) (n : Int) = some fin) : L FUEL 0 = some ((List.range n).all p && fin) := by
 refine loop_all (xs := List.range n) (by simpa using hn) (fun f i v hi hv hw => ?_) (by simpa using he)
 have hi' : i < n := by simpa using hi
 have : v = i := by
  rw [List.getElem?_range hi'] at hv
  exact (Option.some.inj hv).symm
 rw [this]
 exact h f i hi' hw
end Go.D
set_option linter.unusedVariables false
namespace Go.D
def verG (v : T_impl_Version) : Bool := inR v.fKey 0 4 && (inR v.fBorn 1 40 && ((v.fDied == 0 || inR v.fDied (w64 (v.fBorn + 1)) 40) && rowOk v.fRow))
def adjG (w v : T_impl_Version) : Bool := !(decide (w.fKey ≥ v.fKey) && (decide (w.fKey > v.fKey) || (w.fDied == 0 || decide (w.fDied > v.fBorn))))
def adjI (w v : T_impl_Version) : Bool := !(decide (w.fKey > v.fKey) || (w.fKey == v.fKey && (decide (w.fBorn ≥ v.fBorn) || (w.fDied == 0 || decide (w.fDied > v.fBorn)))))
def verP (adj : T_impl_Version → T_impl_Version → Bool) (xs : List T_impl_Version) (i : Nat) : Bool := match xs[i]? with
 | some v => verG v && (i == 0 || match xs[i - 1]? with | some w => adj w v | none => true)
 | none => true
def vOk (xs : List T_impl_Version) : Bool := (List.range xs.length).all (verP adjG xs) && decide (xs.length ≤ 60)
def SmVers (xs : List T_impl_Version) : Prop := Sm xs.length ∧ ∀ v ∈ xs, SmR v.fRow
theorem spec_verG {v : T_impl_Version} (h : SmR v.fRow) : spec_l13Version v = some (verG v) := by
 unfold spec_l13Version verG
 simp only [spec_in, spec_rowOk h, Option.bind_some]
 cases inR v.fKey 0 4 <;> cases inR v.fBorn 1 40 <;> cases v.fDied == 0 <;> cases inR v.fDied (w64 (v.fBorn + 1)) 40 <;> rfl
theorem spec_vOk {xs : List T_impl_Version} (h : SmVers xs) : spec_VersionsOk xs = some (vOk xs) := by
 have hl := h.1
 unfold spec_VersionsOk vOk
 refine loop_idx (by omega) (fun f i hi hw => ?_) (fun f => ?_)
 ·have hv : xs[i]? = some xs[i] := List.getElem?_eq_getElem hi
  have hg : getI xs (i : Int) = some xs[i] := by rw [getI_nat, hv]
  rw [spec_VersionsOk_l0, decide_eq_true (by omega), cond_true, hg, Option.bind_some, spec_verG (h.2 _ (List.getElem_mem hi)), Option.bind_some]
  unfold verP
  rw [hv]
  simp only
  cases verG xs[i] with
  | false => rfl
  | true =>
   rw [Bool.not_true, cond_false, Bool.true_and]
   by_cases h0 : i = 0
   ·subst h0
    rw [decide_eq_false (show ¬ (((0 : Nat) : Int) > 0) by omega), cond_false, spec_VersionsOk_j1, cond_false, hw]
    rfl
   ·have hi1 : i - 1 < xs.length := by omega
    have hw1 : w64 ((i : Int) - 1) = ((i - 1 : Nat) : Int) := by rw [w64_of (by omega) (by omega)]; omega
    have hv1 : xs[i - 1]? = some xs[i - 1] := List.getElem?_eq_getElem hi1
    have hg1 : getI xs (w64 ((i : Int) - 1)) = some xs[i - 1] := by rw [hw1, getI_nat, hv1]
    have e0 : (i == 0) = false := by simpa using h0
    rw [decide_eq_true (show (i : Int) > 0 by omega), cond_true, hv1, e0]
    simp only [hg, hg1, Option.bind_some, Bool.false_or, adjG, spec_VersionsOk_j1, hw]
    cases decide (xs[i - 1].fKey ≥ xs[i].fKey) <;> cases decide (xs[i - 1].fKey > xs[i].fKey) <;> cases xs[i - 1].fDied == 0 <;> cases decide (xs[i - 1].fDied > xs[i].fBorn) <;> rfl
 ·have e : decide ((xs.length : Int) ≤ 60) = decide (xs.length ≤ 60) := decide_eq_decide.2 (by omega)
  rw [spec_VersionsOk_l0, decide_eq_false (Int.lt_irrefl _), cond_false, e]
theorem adj_same {w v : T_impl_Version} (h : verG w = true) : adjI w v = adjG w v := by
 unfold verG at h
 simp only [Bool.and_eq_true, Bool.or_eq_true] at h
 obtain ⟨_, h2, h3, _⟩ := h
 unfold inR at h2 h3
 simp only [Bool.and_eq_true, decide_eq_true_eq, beq_iff_eq] at h2 h3
 have hw : w64 (w.fBorn + 1) = w.fBorn + 1 := w64_of (by omega) (by omega)
 rw [hw] at h3
 unfold adjI adjG
 rw [Bool.eq_iff_iff]
 simp only [Bool.not_eq_true', Bool.or_eq_false_iff, Bool.and_eq_false_iff, decide_eq_false_iff_not, beq_eq_false_iff_ne]
 omega
theorem all_same {xs : List T_impl_Version} : (List.range xs.length).all (verP adjI xs) = (List.range xs.length).all (verP adjG xs) := by
 have key : ∀ n, n ≤ xs.length → (List.range n).all (verP adjI xs) = (List.range n).all (verP adjG xs) := by
  intro n
  induction n with
  | zero => exact fun _ => rfl
  | succ n ih =>
   intro hn
   rw [List.range_succ, List.all_append, List.all_append, ih (by omega)]
   cases hall : (List.range n).all (verP adjG xs) with
   | false => rfl
   | true =>
    simp only [List.all_cons, List.all_nil, Bool.and_true, Bool.true_and]
    unfold verP
    rw [List.getElem?_eq_getElem (by omega)]
    simp only
    by_cases h0 : n = 0
    ·subst h0
     rfl
    ·have hg : verG xs[n - 1] = true := by
      have := List.all_eq_true.1 hall (n - 1) (List.mem_range.2 (by omega))
      unfold verP at this
      rw [List.getElem?_eq_getElem (by omega)] at this
      simp only [Bool.and_eq_true] at this
      exact this.1
     rw [List.getElem?_eq_getElem (by omega)]
     simp only [adj_same hg]
 exact key _ (Nat.le_refl _)
theorem impl_vOk {xs : List T_impl_Version} (h : SmVers xs) : impl_VersionsOk xs = some (vOk xs) := by
 have hl := h.1
 unfold impl_VersionsOk vOk
 rw [← all_same]
 refine loop_idx (by omega) (fun f i hi hw => ?_) (fun f => ?_)
 ·have hv : xs[i]? = some xs[i] := List.getElem?_eq_getElem hi
  have hg : getI xs (i : Int) = some xs[i] := by rw [getI_nat, hv]
  have hk : impl_keyOk xs[i].fKey = some (inR xs[i].fKey 0 4) := by
   unfold impl_keyOk
   rw [impl_in]
   rfl
  have key : ∀ b, verG xs[i] = !b → impl_VersionsOk_j1 xs (i : Int) (impl_VersionsOk_l0 xs f) xs[i] b = bif verP adjI xs i then impl_VersionsOk_l0 xs f ((i + 1 : Nat) : Int) else some false := by
   intro b hb
   unfold verP
   rw [hv]
   simp only
   rw [hb]
   cases b with
   | true => rfl
   | false =>
    rw [impl_VersionsOk_j1, cond_false, Bool.not_false, Bool.true_and]
    by_cases h0 : i = 0
    ·subst h0
     simp only [hw]
     rfl
    ·have hi1 : i - 1 < xs.length := by omega
     have hw1 : w64 ((i : Int) - 1) = ((i - 1 : Nat) : Int) := by rw [w64_of (by omega) (by omega)]; omega
     have hv1 : xs[i - 1]? = some xs[i - 1] := List.getElem?_eq_getElem hi1
     have hg1 : getI xs (w64 ((i : Int) - 1)) = some xs[i - 1] := by rw [hw1, getI_nat, hv1]
     have e0 : (i == 0) = false := by simpa using h0
     have e1 : ((i : Int) == 0) = false := beq_eq_false_iff_ne.2 (by omega)
     rw [e1, cond_false, hv1, e0]
     simp only [hg1, Option.bind_some, Bool.false_or, adjI, impl_VersionsOk_j2, hw]
     cases decide (xs[i - 1].fKey > xs[i].fKey) <;> cases xs[i - 1].fKey == xs[i].fKey <;> cases decide (xs[i - 1].fBorn ≥ xs[i].fBorn) <;> cases xs[i - 1].fDied == 0 <;> cases decide (xs[i - 1].fDied > xs[i].fBorn) <;> rfl
  rw [impl_VersionsOk_l0, decide_eq_true (by omega), cond_true, hg, Option.bind_some, hk, Option.bind_some, impl_in, Option.bind_some, impl_in, Option.bind_some, impl_rowOk (h.2 _ (List.getElem_mem hi)), Option.bind_some]
  have k1 := key true
  have k0 := key false
  have kd := key
  unfold verG at k1 k0 kd
  cases e1 : inR xs[i].fKey 0 4
  ·rw [e1] at k1
   exact k1 rfl
  cases e2 : inR xs[i].fBorn 1 40
  ·rw [e1, e2] at k1
   exact k1 rfl
  rw [e1, e2] at kd
  cases e3 : xs[i].fDied == 0
  ·cases e4 : inR xs[i].fDied (w64 (xs[i].fBorn + 1)) 40
   ·rw [e3, e4] at kd
    exact kd true rfl
   ·rw [e3, e4] at kd
    exact kd (!rowOk xs[i].fRow) (by simp)
  ·rw [e3] at kd
   exact kd (!rowOk xs[i].fRow) (by simp)
 ·have e : decide ((xs.length : Int) ≤ 60) = decide (xs.length ≤ 60) := decide_eq_decide.2 (by omega)
  rw [impl_VersionsOk_l0, decide_eq_false (Int.lt_irrefl _), cond_false, e]
end Go.D
set_option linter.unusedVariables false
namespace Go.D
def wrG (w : T_impl_Write) : Bool := inR w.fKey 0 4 && (rowOk w.fRow && !(w.fGone && decide (0 < w.fRow.length)))
def wrP (ws : List T_impl_Write) (i : Nat) : Bool := match ws[i]? with
 | some w => wrG w && (i == 0 || match ws[i - 1]? with | some u => decide (u.fKey < w.fKey) | none => true)
 | none => true
def wOk (ws : List T_impl_Write) : Bool := (List.range ws.length).all (wrP ws)
def SmWrs (ws : List T_impl_Write) : Prop := Sm ws.length ∧ ∀ w ∈ ws, SmR w.fRow
theorem spec_wOk {ws : List T_impl_Write} (h : SmWrs ws) : spec_WritesOk ws = some (wOk ws) := by
 have hl := h.1
 unfold spec_WritesOk wOk
 have := loop_idx (n := ws.length) (L := spec_WritesOk_l0 ws) (p := wrP ws) (fin := true) (by omega) (fun f i hi hw => by
  have hv : ws[i]? = some ws[i] := List.getElem?_eq_getElem hi
  have hg : getI ws (i : Int) = some ws[i] := by rw [getI_nat, hv]
  rw [spec_WritesOk_l0, decide_eq_true (by omega), cond_true, hg, Option.bind_some, spec_in, Option.bind_some, spec_rowOk (h.2 _ (List.getElem_mem hi)), Option.bind_some]
  unfold wrP wrG
  rw [hv]
  simp only
  have hlen : decide ((ws[i].fRow.length : Int) > 0) = decide (0 < ws[i].fRow.length) := decide_eq_decide.2 (by omega)
  rw [hlen]
  cases inR ws[i].fKey 0 4 with
  | false => rfl
  | true =>
   cases rowOk ws[i].fRow with
   | false => rfl
   | true =>
    simp only [Bool.not_true, cond_false, Bool.true_and]
    by_cases h0 : i = 0
    ·subst h0
     simp only [show decide (((0 : Nat) : Int) > 0) = false from rfl, cond_false, spec_WritesOk_j1, hw]
     cases ws[0].fGone <;> cases decide (0 < ws[0].fRow.length) <;> rfl
    ·have hi1 : i - 1 < ws.length := by omega
     have hw1 : w64 ((i : Int) - 1) = ((i - 1 : Nat) : Int) := by rw [w64_of (by omega) (by omega)]; omega
     have hv1 : ws[i - 1]? = some ws[i - 1] := List.getElem?_eq_getElem hi1
     have e0 : (i == 0) = false := by simpa using h0
     have hge : decide (ws[i - 1].fKey ≥ ws[i].fKey) = !(decide (ws[i - 1].fKey < ws[i].fKey)) := by
      rw [← decide_not]
      exact decide_eq_decide.2 (by omega)
     simp only [decide_eq_true (show (i : Int) > 0 by omega), cond_true, hw1, getI_nat, hv1, Option.bind_some, e0, Bool.false_or, spec_WritesOk_j1, hw, hge]
     cases ws[i].fGone <;> cases decide (0 < ws[i].fRow.length) <;> cases decide (ws[i - 1].fKey < ws[i].fKey) <;> rfl)
  (fun f => by rw [spec_WritesOk_l0, decide_eq_false (Int.lt_irrefl _), cond_false])
 rw [this, Bool.and_true]
def lastT (xs : List T_impl_Version) (k : Int) : Int := xs.foldl (fun n v => bif v.fKey == k then maxL n [v.fBorn, v.fDied] else n) 0
theorem spec_last {xs : List T_impl_Version} (h : SmVers xs) (k : Int) : spec_LastTurn xs k = some (bif vOk xs then lastT xs k else 0) := by
 have hl := h.1
 unfold spec_LastTurn
 cases hv : vOk xs with
 | false =>
  rw [cond_false, spec_LastTurn_l0.eq_def]
  show (bif _ then _ else _) = _
  rw [spec_vOk h, Option.bind_some, hv]
  cases decide ((0 : Int) < xs.length) <;> rfl
 | true =>
  rw [cond_true]
  have := loop_opt (xs := xs) (L := fun f i (s : Int) => spec_LastTurn_l0 xs k f s i) (fun rest s => some (rest.foldl (fun n v => bif v.fKey == k then maxL n [v.fBorn, v.fDied] else n) s)) (fun _ _ => True) (by omega)
   (fun f i s v hi hvi hw _ => .inr ⟨bif v.fKey == k then maxL s [v.fBorn, v.fDied] else s, trivial, by
    rw [spec_LastTurn_l0, decide_eq_true (by omega), cond_true, spec_vOk h, hv, Option.bind_some, spec_LastTurn_j1, cond_true, getI_nat, hvi, Option.bind_some]
    cases v.fKey == k
    ·rw [cond_false, cond_false, spec_LastTurn_j2, hw]
    ·rw [cond_true, cond_true, Option.bind_some, Option.bind_some, spec_LastTurn_j2, hw], by rw [List.foldl_cons]⟩)
   (fun f s _ => by rw [spec_LastTurn_l0, decide_eq_false (Int.lt_irrefl _), cond_false, spec_LastTurn_j1, cond_false]; rfl) (s := 0) trivial
  exact this
end Go.D
set_option linter.unusedVariables false
namespace Go.D
structure Ord3 {α : Type} (cf : α → α → Int) : Prop where
 refl : ∀ x, cf x x = 0
 lt : ∀ x y, cf x y < 0 → 0 < cf y x
 gt : ∀ x y, 0 < cf x y → cf y x < 0
 le : ∀ x y z, cf x y ≤ 0 → cf y z ≤ 0 → cf x z ≤ 0
section
variable {α : Type} {cf cg : α → α → Int}
end
end Go.D
set_option linter.unusedVariables false
namespace Go.D
theorem asc_of_adj {α : Type} {R : α → α → Prop} (ht : ∀ a b c, R a b → R b c → R a c) {xs : List α} (h : ∀ i (hi : i + 1 < xs.length), R (xs[i]'(by omega)) xs[i + 1]) : xs.Pairwise R := by
 rw [List.pairwise_iff_getElem]
 intro i j hi hj hij
 have key : ∀ d (hd : i + 1 + d < xs.length), R xs[i] (xs[i + 1 + d]'hd) := by
  intro d
  induction d with
  | zero => exact fun hd => h i hd
  | succ d ih => exact fun hd => ht _ _ _ (ih (by omega)) (h (i + 1 + d) hd)
 have := key (j - (i + 1)) (by omega)
 have e : i + 1 + (j - (i + 1)) = j := by omega
 simp only [e] at this
 exact this
end Go.D
set_option linter.unusedVariables false
namespace Go.D
theorem wOk_iffT (ws : List T_impl_Write) : wOk ws = true ↔ (∀ w ∈ ws, wrG w = true) ∧ ws.Pairwise fun a b => a.fKey < b.fKey := by
 constructor
 ·intro h
  unfold wOk at h
  have ha := List.all_eq_true.1 h
  refine ⟨fun w hw => ?_, asc_of_adj (R := fun a b : T_impl_Write => a.fKey < b.fKey) (fun a b c h1 h2 => Int.lt_trans h1 h2) fun i hi => ?_⟩
  ·obtain ⟨i, hi, rfl⟩ := List.getElem_of_mem hw
   have := ha i (List.mem_range.2 hi)
   unfold wrP at this
   rw [List.getElem?_eq_getElem hi] at this
   simp only [Bool.and_eq_true] at this
   exact this.1
  ·have := ha (i + 1) (List.mem_range.2 hi)
   unfold wrP at this
   rw [List.getElem?_eq_getElem hi, Nat.add_sub_cancel, List.getElem?_eq_getElem (show i < ws.length by omega)] at this
   simp only [Bool.and_eq_true] at this
   have e : (i + 1 == 0) = false := beq_eq_false_iff_ne.2 (by omega)
   rw [e, Bool.false_or] at this
   exact of_decide_eq_true this.2
 ·rintro ⟨h1, h2⟩
  unfold wOk
  refine List.all_eq_true.2 fun i hi => ?_
  have hi := List.mem_range.1 hi
  unfold wrP
  rw [List.getElem?_eq_getElem hi]
  simp only [Bool.and_eq_true]
  refine ⟨h1 _ (List.getElem_mem hi), ?_⟩
  by_cases h0 : i = 0
  ·subst h0; rfl
  ·rw [List.getElem?_eq_getElem (show i - 1 < ws.length by omega)]
   have := List.pairwise_iff_getElem.1 h2 (i - 1) i (by omega) hi (by omega)
   simp only [decide_eq_true this, Bool.or_true]
theorem wrG_iffT (w : T_impl_Write) : wrG w = true ↔ (0 ≤ w.fKey ∧ w.fKey ≤ 4) ∧ rowOk w.fRow = true ∧ (w.fGone = true → w.fRow = []) := by
 unfold wrG inR
 simp only [Bool.and_eq_true, decide_eq_true_eq, Bool.not_eq_true', Bool.and_eq_false_iff, decide_eq_false_iff_not]
 constructor
 ·rintro ⟨h1, h2, h3⟩
  refine ⟨h1, h2, fun hg => ?_⟩
  rcases h3 with h3 | h3
  ·rw [hg] at h3; cases h3
  ·exact List.eq_nil_of_length_eq_zero (by omega)
 ·rintro ⟨h1, h2, h3⟩
  refine ⟨h1, h2, ?_⟩
  cases hg : w.fGone with
  | false => exact .inl rfl
  | true => exact .inr (by rw [h3 hg]; simp)
theorem wOk_lenT {ws : List T_impl_Write} (h : wOk ws = true) : ws.length ≤ 5 := by
 obtain ⟨h1, h2⟩ := (wOk_iffT ws).1 h
 have key : ∀ i (hi : i < ws.length), (i : Int) ≤ ws[i].fKey := by
  intro i
  induction i with
  | zero =>
   intro hi
   have := ((wrG_iffT _).1 (h1 _ (List.getElem_mem hi))).1.1
   simpa using this
  | succ i ih =>
   intro hi
   have a := ih (by omega)
   have b := List.pairwise_iff_getElem.1 h2 i (i + 1) (by omega) hi (by omega)
   omega
 rcases Nat.lt_or_ge 5 ws.length with h5 | h5
 ·have a := key 5 h5
  have b := ((wrG_iffT _).1 (h1 _ (List.getElem_mem h5))).1.2
  omega
 ·exact h5
theorem impl_wOkT {ws : List T_impl_Write} (h : SmWrs ws) : impl_WritesOk ws = some (wOk ws) := by
 have hl := h.1
 unfold impl_WritesOk
 have := loop_idx (n := ws.length) (L := impl_WritesOk_l0 ws) (p := wrP ws) (fin := decide (ws.length ≤ 5)) (by omega) (fun f i hi hw => by
  have hv : ws[i]? = some ws[i] := List.getElem?_eq_getElem hi
  have hg : getI ws (i : Int) = some ws[i] := by rw [getI_nat, hv]
  have hk : impl_keyOk ws[i].fKey = some (inR ws[i].fKey 0 4) := by
   unfold impl_keyOk
   rw [impl_in]
   rfl
  rw [impl_WritesOk_l0, decide_eq_true (by omega), cond_true, hg, Option.bind_some, hk, Option.bind_some, impl_rowOk (h.2 _ (List.getElem_mem hi)), Option.bind_some]
  unfold wrP wrG
  rw [hv]
  simp only
  have hlen : decide ((ws[i].fRow.length : Int) > 0) = decide (0 < ws[i].fRow.length) := decide_eq_decide.2 (by omega)
  rw [hlen]
  cases inR ws[i].fKey 0 4 with
  | false => rfl
  | true =>
   cases rowOk ws[i].fRow with
   | false => rfl
   | true =>
    simp only [Bool.not_true, cond_false, Bool.true_and]
    by_cases h0 : i = 0
    ·subst h0
     simp only [show decide (((0 : Nat) : Int) > 0) = false from rfl, cond_false, impl_WritesOk_j1, hw]
     cases ws[0].fGone <;> cases decide (0 < ws[0].fRow.length) <;> rfl
    ·have hi1 : i - 1 < ws.length := by omega
     have hw1 : w64 ((i : Int) - 1) = ((i - 1 : Nat) : Int) := by rw [w64_of (by omega) (by omega)]; omega
     have hv1 : ws[i - 1]? = some ws[i - 1] := List.getElem?_eq_getElem hi1
     have e0 : (i == 0) = false := by simpa using h0
     have hge : decide (ws[i - 1].fKey ≥ ws[i].fKey) = !(decide (ws[i - 1].fKey < ws[i].fKey)) := by
      rw [← decide_not]
      exact decide_eq_decide.2 (by omega)
     simp only [decide_eq_true (show (i : Int) > 0 by omega), cond_true, hw1, getI_nat, hv1, Option.bind_some, e0, Bool.false_or, impl_WritesOk_j1, hw, hge]
     cases ws[i].fGone <;> cases decide (0 < ws[i].fRow.length) <;> cases decide (ws[i - 1].fKey < ws[i].fKey) <;> rfl)
  (fun f => by
   have e : decide ((ws.length : Int) ≤ 5) = decide (ws.length ≤ 5) := decide_eq_decide.2 (by omega)
   rw [impl_WritesOk_l0, decide_eq_false (Int.lt_irrefl _), cond_false, e])
 rw [this]
 show some (wOk ws && decide (ws.length ≤ 5)) = _
 cases h : wOk ws with
 | false => rfl
 | true => rw [decide_eq_true (wOk_lenT h)]; rfl
end Go.D
set_option linter.unusedVariables false
namespace Go.D
def risP (xs : List Int) (i : Nat) : Bool := match xs[i]? with
 | some v => inR v 0 4 && (i == 0 || match xs[i - 1]? with | some u => decide (u < v) | none => true)
 | none => true
def risB (xs : List Int) : Bool := (List.range xs.length).all (risP xs)
theorem spec_ris {xs : List Int} (hl : Sm xs.length) : spec_l14Reads xs = some (risB xs) := by
 unfold spec_l14Reads risB
 have := loop_idx (n := xs.length) (L := spec_l14Reads_l0 xs) (p := risP xs) (fin := true) (by omega) (fun f i hi hw => by
  have hv : xs[i]? = some xs[i] := List.getElem?_eq_getElem hi
  have hg : getI xs (i : Int) = some xs[i] := by rw [getI_nat, hv]
  rw [spec_l14Reads_l0, decide_eq_true (by omega), cond_true, hg, Option.bind_some, spec_in, Option.bind_some]
  unfold risP
  rw [hv]
  simp only
  cases inR xs[i] 0 4 with
  | false => rfl
  | true =>
   simp only [Bool.not_true, cond_false, Bool.true_and]
   by_cases h0 : i = 0
   ·subst h0
    simp only [show decide (((0 : Nat) : Int) > 0) = false from rfl, cond_false, spec_l14Reads_j1, hw]
    rfl
   ·have hi1 : i - 1 < xs.length := by omega
    have hw1 : w64 ((i : Int) - 1) = ((i - 1 : Nat) : Int) := by rw [w64_of (by omega) (by omega)]; omega
    have hv1 : xs[i - 1]? = some xs[i - 1] := List.getElem?_eq_getElem hi1
    have e0 : (i == 0) = false := by simpa using h0
    have hge : decide (xs[i - 1] ≥ xs[i]) = !(decide (xs[i - 1] < xs[i])) := by
     rw [← decide_not]
     exact decide_eq_decide.2 (by omega)
    simp only [decide_eq_true (show (i : Int) > 0 by omega), cond_true, hw1, getI_nat, hv1, Option.bind_some, e0, Bool.false_or, spec_l14Reads_j1, hw, hge]
    cases decide (xs[i - 1] < xs[i]) <;> rfl)
  (fun f => by rw [spec_l14Reads_l0, decide_eq_false (Int.lt_irrefl _), cond_false])
 rw [this, Bool.and_true]
theorem impl_ris {xs : List Int} (hl : Sm xs.length) : impl_rising xs 0 4 = some (risB xs) := by
 unfold impl_rising risB
 have := loop_idx (n := xs.length) (L := impl_rising_l0 xs 0 4) (p := risP xs) (fin := true) (by omega) (fun f i hi hw => by
  have hv : xs[i]? = some xs[i] := List.getElem?_eq_getElem hi
  have hg : getI xs (i : Int) = some xs[i] := by rw [getI_nat, hv]
  rw [impl_rising_l0, decide_eq_true (by omega), cond_true, hg, Option.bind_some, impl_in, Option.bind_some]
  unfold risP
  rw [hv]
  simp only
  cases inR xs[i] 0 4 with
  | false => rfl
  | true =>
   simp only [Bool.not_true, cond_false, Bool.true_and]
   by_cases h0 : i = 0
   ·subst h0
    simp only [show decide (((0 : Nat) : Int) > 0) = false from rfl, cond_false, impl_rising_j1, hw]
    rfl
   ·have hi1 : i - 1 < xs.length := by omega
    have hw1 : w64 ((i : Int) - 1) = ((i - 1 : Nat) : Int) := by rw [w64_of (by omega) (by omega)]; omega
    have hv1 : xs[i - 1]? = some xs[i - 1] := List.getElem?_eq_getElem hi1
    have e0 : (i == 0) = false := by simpa using h0
    have hge : decide (xs[i - 1] ≥ xs[i]) = !(decide (xs[i - 1] < xs[i])) := by
     rw [← decide_not]
     exact decide_eq_decide.2 (by omega)
    simp only [decide_eq_true (show (i : Int) > 0 by omega), cond_true, hw1, getI_nat, hv1, Option.bind_some, e0, Bool.false_or, impl_rising_j1, hw, hge]
    cases decide (xs[i - 1] < xs[i]) <;> rfl)
  (fun f => by rw [impl_rising_l0, decide_eq_false (Int.lt_irrefl _), cond_false])
 rw [this, Bool.and_true]
theorem impl_lastK {xs : List T_impl_Version} (hl : Sm xs.length) (k : Int) : impl_lastTurn xs k = some (lastT xs k) := by
 unfold impl_lastTurn
 have := loop_opt (xs := xs) (L := fun f i (s : Int) => impl_lastTurn_l0 xs k f s i) (fun rest s => some (rest.foldl (fun n v => bif v.fKey == k then maxL n [v.fBorn, v.fDied] else n) s)) (fun _ _ => True) (by omega)
  (fun f i s v hi hvi hw _ => .inr ⟨bif v.fKey == k then maxL s [v.fBorn, v.fDied] else s, trivial, by
   rw [impl_lastTurn_l0, decide_eq_true (by omega), cond_true, getI_nat, hvi, Option.bind_some, hw]
   cases v.fKey == k <;> rfl, by rw [List.foldl_cons]⟩)
  (fun f s _ => by rw [impl_lastTurn_l0, decide_eq_false (Int.lt_irrefl _), cond_false]; rfl) (s := 0) trivial
 exact this
def SmT (t : T_impl_Txn) : Prop := Sm t.fReads.length ∧ SmWrs t.fWrites
def txB (t : T_impl_Txn) (c : Int) : Bool :=
 bif t.fState == 0 then t.fBegin == 0 && (t.fEnd == 0 && (((t.fReads.length : Int) == 0) && ((t.fWrites.length : Int) == 0)))
 else bif t.fState == 2 then inR t.fEnd (w64 (t.fBegin + 1)) c && (inR t.fBegin 0 c && (risB t.fReads && wOk t.fWrites))
 else (t.fState == 1 || t.fState == 3) && (t.fEnd == 0 && (inR t.fBegin 0 c && (risB t.fReads && wOk t.fWrites)))
theorem and_some (a b : Bool) : (bif a then some b else some false) = some (a && b) := by cases a <;> rfl
theorem nand_some (a b : Bool) : (bif !a then some false else some b) = some (a && b) := by cases a <;> rfl
theorem impl_txB {t : T_impl_Txn} (h : SmT t) (c : Int) : impl_Txn_ok t c = some (txB t c) := by
 unfold impl_Txn_ok impl_Txn_ok_j1 impl_Txn_ok_j0 txB
 simp only [impl_in, impl_ris h.1, impl_wOkT h.2, Option.bind_some, and_some, nand_some]
 cases t.fState == 0 <;> cases t.fState == 2 <;> cases t.fState == 1 <;> cases t.fState == 3 <;> rfl
theorem spec_txB {t : T_impl_Txn} (h : SmT t) (c : Int) : spec_l14Txn t c = some (txB t c) := by
 unfold spec_l14Txn spec_l14Txn_j0 spec_l14Txn_j1 txB
 simp only [spec_in, spec_ris h.1, spec_wOk h.2, Option.bind_some, and_some]
 generalize hrl : ((t.fReads.length : Int) == 0) = rl
 generalize hwl : ((t.fWrites.length : Int) == 0) = wl
 generalize hb : inR t.fBegin 0 c = ib
 generalize he : inR t.fEnd (w64 (t.fBegin + 1)) c = ie
 generalize hb0 : (t.fBegin == 0) = b0
 generalize he0 : (t.fEnd == 0) = e0
 generalize risB t.fReads = rr
 generalize wOk t.fWrites = ww
 by_cases h0 : t.fState = 0
 ·rw [h0]
  cases rl <;> cases wl <;> cases b0 <;> cases e0 <;> rfl
 have f0 : (t.fState == 0) = false := beq_eq_false_iff_ne.2 h0
 by_cases h1 : t.fState = 1
 ·rw [h1]
  cases rl <;> cases wl <;> cases ib <;> cases e0 <;> rfl
 have f1 : (t.fState == 1) = false := beq_eq_false_iff_ne.2 h1
 by_cases h2 : t.fState = 2
 ·rw [h2]
  cases rl <;> cases wl <;> cases ib <;> cases ie <;> rfl
 have f2 : (t.fState == 2) = false := beq_eq_false_iff_ne.2 h2
 rw [f0, f1, f2]
 cases t.fState == 3 <;> cases rl <;> cases wl <;> cases ib <;> cases e0 <;> rfl
def dupB (t u : T_impl_Txn) : Bool := t.fState == 2 && (u.fState == 2 && t.fEnd == u.fEnd)
def specT (c : Int) : List T_impl_Txn → List T_impl_Txn → Bool
 | _, [] => true
 | prev, t :: r => txB t c && (!(prev.any (dupB t)) && specT c (prev ++ [t]) r)
def implT (c : Int) : List Int → List T_impl_Txn → Bool
 | _, [] => true
 | seen, t :: r => txB t c && (!(t.fState == 2 && seen.contains t.fEnd) && implT c (bif t.fState == 2 then insI seen t.fEnd else seen) r)
theorem insI_contains (seen : List Int) (k e : Int) : (insI seen k).contains e = (seen.contains e || k == e) := by
 unfold insI
 cases hc : seen.contains k with
 | true =>
  rw [cond_true]
  cases hk : k == e with
  | false => rw [Bool.or_false]
  | true => rw [← eq_of_beq hk, hc]; rfl
 | false =>
  rw [cond_false, Bool.eq_iff_iff]
  simp only [List.contains_iff_mem, List.mem_append, List.mem_singleton, Bool.or_eq_true, beq_iff_eq]
  constructor
  ·rintro (h | h)
   ·exact .inl h
   ·exact .inr h.symm
  ·rintro (h | h)
   ·exact .inl h
   ·exact .inr h.symm
theorem implT_eq (c : Int) : ∀ (r : List T_impl_Txn) (seen : List Int) (prev : List T_impl_Txn), (∀ e, seen.contains e = prev.any fun u => u.fState == 2 && u.fEnd == e) → implT c seen r = specT c prev r
 | [], seen, prev, _ => rfl
 | t :: r, seen, prev, H => by
  rw [implT, specT]
  have h1 : (t.fState == 2 && seen.contains t.fEnd) = prev.any (dupB t) := by
   rw [H]
   cases hs : t.fState == 2 with
   | false =>
    rw [Bool.false_and]
    refine (List.any_eq_false.2 fun u hu => ?_).symm
    unfold dupB
    rw [hs]
    simp
   | true =>
    rw [Bool.true_and]
    refine congrArg (fun q => prev.any q) (funext fun u => ?_)
    unfold dupB
    rw [hs, Bool.true_and]
    cases u.fState == 2 with
    | false => rfl
    | true =>
     rw [Bool.true_and, Bool.true_and, Bool.eq_iff_iff, beq_iff_eq, beq_iff_eq]
     exact eq_comm
  rw [h1, implT_eq c r (bif t.fState == 2 then insI seen t.fEnd else seen) (prev ++ [t]) fun e => ?_]
  rw [List.any_append]
  simp only [List.any_cons, List.any_nil, Bool.or_false]
  cases t.fState == 2 with
  | false => rw [cond_false, H, Bool.false_and, Bool.or_false]
  | true => rw [cond_true, insI_contains, H, Bool.true_and]
def turnB (xs : List T_impl_Version) (c : Int) : Bool := (List.range 5).all fun k => decide (lastT xs k ≤ c)
def houseB (h : T_impl_House) : Bool := vOk h.fList && (inR h.fClock 0 40 && (turnB h.fList h.fClock && (decide (h.fTxns.length = 4) && specT h.fClock [] h.fTxns)))
def SmH (h : T_impl_House) : Prop := SmVers h.fList ∧ Sm h.fTxns.length ∧ ∀ t ∈ h.fTxns, SmT t
theorem max_fold (c : Int) (f : Nat → Int) : ∀ (l : List Nat) (s : Int), decide (l.foldl (fun n k => maxL n [f k]) s > c) = (decide (s > c) || !(l.all fun k => decide (f k ≤ c)))
 | [], s => by simp
 | k :: l, s => by
  rw [List.foldl_cons, max_fold c f l]
  have : decide (maxL s [f k] > c) = (decide (s > c) || !decide (f k ≤ c)) := by
   show decide ((if f k > s then f k else s) > c) = _
   rw [Bool.eq_iff_iff, Bool.or_eq_true, Bool.not_eq_true', decide_eq_false_iff_not, decide_eq_true_eq, decide_eq_true_eq]
   by_cases h : f k > s
   ·rw [if_pos h]; omega
   ·rw [if_neg h]; omega
  rw [this, List.all_cons]
  cases decide (s > c) <;> cases decide (f k ≤ c) <;> rfl
theorem impl_turnK {xs : List T_impl_Version} (hl : Sm xs.length) : impl_turnAny xs = some ((List.range 5).foldl (fun n k => maxL n [lastT xs (k : Nat)]) 0) := by
 unfold impl_turnAny
 have := loop_opt (xs := List.range 5) (L := fun f i (s : Int) => impl_turnAny_l0 xs f s i) (fun rest s => some (rest.foldl (fun n k => maxL n [lastT xs (k : Nat)]) s)) (fun _ _ => True) (by simp)
  (fun f i s v hi hvi hw _ => .inr ⟨maxL s [lastT xs (v : Nat)], trivial, by
   have hi : i < 5 := by simpa using hi
   have hvi : v = i := by
    rw [List.getElem?_range hi] at hvi
    exact (Option.some.inj hvi).symm
   rw [impl_turnAny_l0, decide_eq_true (by omega), cond_true, impl_lastK hl, Option.bind_some, hw, hvi], by rw [List.foldl_cons]⟩)
  (fun f s _ => by rw [List.length_range, impl_turnAny_l0, decide_eq_false (by omega), cond_false]; rfl) (s := 0) trivial
 exact this
theorem impl_house {h : T_impl_House} (hs : SmH h) : impl_HouseOk h = some (houseB h) := by
 obtain ⟨hv, hl, ht⟩ := hs
 have main : impl_HouseOk_l1 h FUEL [] 0 = some (implT h.fClock [] h.fTxns) := by
  have := loop_opt (xs := h.fTxns) (L := fun f i (s : List Int) => impl_HouseOk_l1 h f s i) (fun rest s => some (implT h.fClock s rest)) (fun _ _ => True) (by omega)
   (fun f i s t hi hti hw _ => by
    have hm : t ∈ h.fTxns := List.mem_of_getElem? hti
    have e : impl_HouseOk_l1 h (f + 1) s (i : Int) = bif txB t h.fClock && !(t.fState == 2 && s.contains t.fEnd) then impl_HouseOk_l1 h f (bif t.fState == 2 then insI s t.fEnd else s) ((i + 1 : Nat) : Int) else some false := by
     rw [impl_HouseOk_l1, decide_eq_true (by omega), cond_true, getI_nat, hti, Option.bind_some, impl_txB (ht t hm), Option.bind_some]
     unfold impl_HouseOk_j2
     rw [hw]
     cases txB t h.fClock <;> cases t.fState == 2 <;> cases s.contains t.fEnd <;> rfl
    rw [e, implT]
    cases hq : txB t h.fClock && !(t.fState == 2 && s.contains t.fEnd) with
    | false =>
     refine .inl ?_
     rw [cond_false, ← Bool.and_assoc, hq, Bool.false_and]
    | true =>
     refine .inr ⟨bif t.fState == 2 then insI s t.fEnd else s, trivial, by rw [cond_true], ?_⟩
     rw [← Bool.and_assoc, hq, Bool.true_and])
   (fun f s _ => by rw [impl_HouseOk_l1, decide_eq_false (Int.lt_irrefl _), cond_false]; rfl) (s := []) trivial
  exact this
 unfold impl_HouseOk impl_HouseOk_j0 houseB
 rw [impl_vOk hv, Option.bind_some]
 cases vOk h.fList with
 | false => rfl
 | true =>
  rw [Bool.not_true, cond_false, impl_in, Option.bind_some]
  cases hc : inR h.fClock 0 40 with
  | false => rfl
  | true =>
   rw [Bool.not_true, cond_false, impl_turnK hv.1, Option.bind_some, max_fold]
   have h0 : decide ((0 : Int) > h.fClock) = false := decide_eq_false (by
    unfold inR at hc
    simp only [Bool.and_eq_true, decide_eq_true_eq] at hc
    omega)
   have et : ((List.range 5).all fun k => decide (lastT h.fList k ≤ h.fClock)) = turnB h.fList h.fClock := rfl
   rw [h0, Bool.false_or, et]
   cases turnB h.fList h.fClock with
   | false => rfl
   | true =>
    have e4 : (((h.fTxns.length : Int)) == 4) = decide (h.fTxns.length = 4) := by
     rw [Bool.eq_iff_iff, beq_iff_eq, decide_eq_true_eq]
     omega
    rw [Bool.not_true, cond_false, e4, main, implT_eq _ _ _ [] (fun e => rfl)]
    cases decide (h.fTxns.length = 4) <;> rfl
theorem spec_dupl {h : T_impl_House} (hl : Sm h.fTxns.length) {i : Nat} {t : T_impl_Txn} (hi : i < h.fTxns.length) (hti : h.fTxns[i]? = some t) (K : Int → Option Bool) :
  spec_HouseOk_l3 h (i : Int) K FUEL 0 = bif (h.fTxns.take i).any (dupB t) then some false else K (w64 ((i : Int) + 1)) := by
 have hlt : (h.fTxns.take i).length = i := by rw [List.length_take]; omega
 have := loop_opt (xs := h.fTxns.take i) (L := fun f j (_ : Unit) => spec_HouseOk_l3 h (i : Int) K f j) (fun rest _ => bif rest.any (dupB t) then some false else K (w64 ((i : Int) + 1))) (fun _ _ => True) (by omega)
  (fun f j s u hj huj hw _ => by
   have hji : j < i := by omega
   have huj : h.fTxns[j]? = some u := by rw [List.getElem?_take_of_lt hji] at huj; exact huj
   have e : spec_HouseOk_l3 h (i : Int) K (f + 1) (j : Int) = bif dupB t u then some false else spec_HouseOk_l3 h (i : Int) K f ((j + 1 : Nat) : Int) := by
    rw [spec_HouseOk_l3, decide_eq_true (by omega), cond_true]
    simp only [getI_nat, hti, huj, Option.bind_some, spec_HouseOk_j4, hw]
    unfold dupB
    cases t.fState == 2 <;> cases u.fState == 2 <;> cases t.fEnd == u.fEnd <;> rfl
   rw [e, List.any_cons]
   cases dupB t u with
   | true => exact .inl rfl
   | false => exact .inr ⟨(), trivial, rfl, rfl⟩)
  (fun f s _ => by rw [hlt, spec_HouseOk_l3, decide_eq_false (Int.lt_irrefl _), cond_false]; rfl) (s := ()) trivial
 exact this
theorem spec_house {h : T_impl_House} (hs : SmH h) : spec_HouseOk h = some (houseB h) := by
 obtain ⟨hv, hl, ht⟩ := hs
 have main : h.fTxns.length = 4 → spec_HouseOk_l2 h FUEL 0 = some (specT h.fClock [] h.fTxns) := fun h4 => by
  have := loop_opt (xs := h.fTxns) (L := fun f i (_ : List T_impl_Txn) => spec_HouseOk_l2 h f i) (fun rest s => some (specT h.fClock s rest)) (fun i s => s = h.fTxns.take i) (by omega)
   (fun f i s t hi hti hw hI => by
    have hm : t ∈ h.fTxns := List.mem_of_getElem? hti
    have e : spec_HouseOk_l2 h (f + 1) (i : Int) = bif txB t h.fClock && !((h.fTxns.take i).any (dupB t)) then spec_HouseOk_l2 h f ((i + 1 : Nat) : Int) else some false := by
     rw [spec_HouseOk_l2, decide_eq_true (by omega), cond_true, getI_nat, hti, Option.bind_some, spec_txB (ht t hm), Option.bind_some, spec_dupl hl hi hti, hw]
     cases txB t h.fClock <;> cases (h.fTxns.take i).any (dupB t) <;> rfl
    rw [e, specT, hI]
    cases hq : txB t h.fClock && !((h.fTxns.take i).any (dupB t)) with
    | false =>
     refine .inl ?_
     rw [cond_false, ← Bool.and_assoc, hq, Bool.false_and]
    | true =>
     refine .inr ⟨h.fTxns.take i ++ [t], by rw [List.take_add_one, hti]; rfl, by rw [cond_true], ?_⟩
     rw [← Bool.and_assoc, hq, Bool.true_and])
   (fun f s _ => by rw [h4, spec_HouseOk_l2, decide_eq_false (by omega), cond_false]; rfl) (s := []) (by simp)
  exact this
 unfold spec_HouseOk spec_HouseOk_j0 houseB
 rw [spec_vOk hv, Option.bind_some]
 cases hvo : vOk h.fList with
 | false => rfl
 | true =>
  rw [Bool.not_true, cond_false, spec_in, Option.bind_some]
  cases hc : inR h.fClock 0 40 with
  | false => rfl
  | true =>
   have e4 : (((h.fTxns.length : Int)) == 4) = decide (h.fTxns.length = 4) := by
    rw [Bool.eq_iff_iff, beq_iff_eq, decide_eq_true_eq]
    omega
   rw [Bool.not_true, cond_false, e4]
   by_cases h4 : h.fTxns.length = 4
   ·rw [decide_eq_true h4, Bool.not_true, cond_false, Bool.true_and, Bool.true_and, Bool.true_and]
    have := loop_idx (n := 5) (L := spec_HouseOk_l1 h) (p := fun k => decide (lastT h.fList k ≤ h.fClock)) (fin := specT h.fClock [] h.fTxns) (by omega) (fun f i hi hw => by
     rw [spec_HouseOk_l1, decide_eq_true (by omega), cond_true, spec_last hv, hvo, cond_true, Option.bind_some, hw]
     have : decide (lastT h.fList i > h.fClock) = !decide (lastT h.fList i ≤ h.fClock) := by
      rw [← decide_not]
      exact decide_eq_decide.2 (by omega)
     rw [this]
     cases decide (lastT h.fList i ≤ h.fClock) <;> rfl)
     (fun f => by rw [spec_HouseOk_l1, decide_eq_false (by omega), cond_false, main h4])
    exact this
   ·rw [decide_eq_false h4]
    cases turnB h.fList h.fClock <;> rfl
end Go.D
set_option linter.unusedVariables false
namespace Go.D
def wrB (t : T_impl_Txn) (k : Int) : Bool := t.fWrites.any fun w => w.fKey == k
def rdB (t : T_impl_Txn) (k : Int) : Bool := t.fReads.any fun x => x == k
theorem spec_own {t : T_impl_Txn} (h : SmT t) (k : Int) : ∃ r, spec_l14Own t k = some r ∧ decide (r ≥ 0) = wrB t k := by
 have hl := h.2.1
 unfold spec_l14Own wrB
 exact loop_find (xs := t.fWrites) (L := spec_l14Own_l0 t k) (p := fun w => w.fKey == k) (by omega) (fun f i v hi hv hw => by
  rw [spec_l14Own_l0, decide_eq_true (by omega), cond_true, getI_nat, hv, Option.bind_some, hw])
  (fun f => by rw [spec_l14Own_l0, decide_eq_false (Int.lt_irrefl _), cond_false])
theorem spec_rd {t : T_impl_Txn} (h : SmT t) (k : Int) : spec_l15Read t k = some (rdB t k) := by
 have hl := h.1
 unfold spec_l15Read rdB
 have := loop_opt (xs := t.fReads) (L := fun f i (_ : Unit) => spec_l15Read_l0 t k f i) (fun rest _ => some (rest.any fun x => x == k)) (fun _ _ => True) (by omega)
  (fun f i s v hi hv hw _ => by
   rw [spec_l15Read_l0, decide_eq_true (by omega), cond_true, getI_nat, hv, Option.bind_some, hw, List.any_cons]
   cases v == k with
   | true => exact .inl rfl
   | false => exact .inr ⟨(), trivial, rfl, rfl⟩)
  (fun f s _ => by rw [spec_l15Read_l0, decide_eq_false (Int.lt_irrefl _), cond_false]; rfl) (s := ()) trivial
 exact this
theorem idx_w {ws : List T_impl_Write} {f : T_impl_Write → Option Bool} {p : T_impl_Write → Bool} (hl : Sm ws.length) (hf : ∀ w ∈ ws, f w = some (p w)) :
  ∃ r, slices_IndexFunc_impl_Write_impl_Write ws f = some r ∧ decide (r ≥ 0) = ws.any p ∧ (0 ≤ r → r < ws.length) := by
 unfold slices_IndexFunc_impl_Write_impl_Write
 have := loop_opt (xs := ws) (L := fun g i (_ : Unit) => slices_IndexFunc_impl_Write_impl_Write_l0 ws f g i) (fun rest _ => some (match rest.findIdx? p with | some j => ((ws.length - rest.length + j : Nat) : Int) | none => -1)) (fun _ _ => True) (by omega)
  (fun g i s v hi hv hw _ => by
   have hm : v ∈ ws := List.mem_of_getElem? hv
   rw [slices_IndexFunc_impl_Write_impl_Write_l0, decide_eq_true (by omega), cond_true, getI_nat, hv, Option.bind_some, hf v hm, Option.bind_some, hw]
   have hdl : (ws.drop (i + 1)).length = ws.length - (i + 1) := List.length_drop
   rw [List.findIdx?_cons, List.length_cons, hdl]
   cases hp : p v with
   | true =>
    refine .inl ?_
    simp only [cond_true, if_true]
    congr 2
    omega
   | false =>
    refine .inr ⟨(), trivial, rfl, ?_⟩
    simp only [Bool.false_eq_true, if_false]
    cases (ws.drop (i + 1)).findIdx? p with
    | none => rfl
    | some j =>
     simp only [Option.map_some]
     congr 2
     omega)
  (fun g s _ => by rw [slices_IndexFunc_impl_Write_impl_Write_l0, decide_eq_false (Int.lt_irrefl _), cond_false]; rfl) (s := ()) trivial
 have this : slices_IndexFunc_impl_Write_impl_Write_l0 ws f FUEL 0 = _ := this
 rw [this]
 refine ⟨_, rfl, ?_, ?_⟩
 ·cases hq : ws.findIdx? p with
  | none =>
   have := List.findIdx?_eq_none_iff.1 hq
   refine (List.any_eq_false.2 fun w hw => ?_).symm
   rw [this w hw]
   simp
  | some j =>
   obtain ⟨hj, h1, _⟩ := List.findIdx?_eq_some_iff_getElem.1 hq
   rw [List.any_eq_true.2 ⟨ws[j], List.getElem_mem hj, h1⟩]
   exact decide_eq_true (by simp only; omega)
 ·cases hq : ws.findIdx? p with
  | none => intro h; simp only at h; omega
  | some j =>
   obtain ⟨hj, _, _⟩ := List.findIdx?_eq_some_iff_getElem.1 hq
   intro _
   simp only
   omega
theorem has_w {ws : List T_impl_Write} {f : T_impl_Write → Option Bool} {p : T_impl_Write → Bool} (hl : Sm ws.length) (hf : ∀ w ∈ ws, f w = some (p w)) : slices_ContainsFunc_impl_Write_impl_Write ws f = some (ws.any p) := by
 obtain ⟨r, h1, h2, _⟩ := idx_w hl hf
 unfold slices_ContainsFunc_impl_Write_impl_Write
 rw [h1, Option.bind_some, h2]
theorem impl_wr {t : T_impl_Txn} (h : SmT t) (k : Int) : impl_Txn_writes t k = some (wrB t k) := by
 obtain ⟨r, h1, h2, h3⟩ := idx_w (ws := t.fWrites) (f := fun z0 => impl_Txn_write_1 z0 k) (p := fun w => w.fKey == k) h.2.1 (fun w _ => rfl)
 unfold impl_Txn_writes impl_Txn_write
 rw [h1, Option.bind_some]
 unfold wrB
 rw [← h2]
 by_cases h0 : r < 0
 ·rw [decide_eq_true h0, cond_true, Option.bind_some, decide_eq_false (by omega)]
 ·obtain ⟨x, hx, _⟩ := getI_lt (xs := t.fWrites) (i := r) (by omega) (h3 (by omega))
  rw [decide_eq_false h0, cond_false, hx, Option.bind_some, Option.bind_some, decide_eq_true (by omega)]
theorem contains_rd {xs : List Int} (hl : Sm xs.length) (k : Int) : slices_Contains_int_int xs k = some (xs.any fun x => x == k) := by
 unfold slices_Contains_int_int slices_Index_int_int
 obtain ⟨r, h1, h2⟩ := loop_find (xs := xs) (L := slices_Index_int_int_l0 xs k) (p := fun x => x == k) (by omega) (fun f i v hi hv hw => by
  have e : (k == v) = (v == k) := by rw [Bool.eq_iff_iff, beq_iff_eq, beq_iff_eq]; exact eq_comm
  rw [slices_Index_int_int_l0, decide_eq_true (by omega), cond_true, getI_nat, hv, Option.bind_some, hw, e])
  (fun f => by rw [slices_Index_int_int_l0, decide_eq_false (Int.lt_irrefl _), cond_false])
 rw [h1, Option.bind_some, h2]
structure KeyT (t : T_impl_Txn) : Prop where
 w : ∀ w ∈ t.fWrites, 0 ≤ w.fKey ∧ w.fKey ≤ 4
 r : ∀ x ∈ t.fReads, 0 ≤ x ∧ x ≤ 4
def any5 (p : Int → Bool) : Bool := (List.range 5).any fun k => p (k : Nat)
theorem any_w {t : T_impl_Txn} (K : KeyT t) (q : Int → Bool) : (t.fWrites.any fun w => q w.fKey) = any5 fun k => wrB t k && q k := by
 rw [Bool.eq_iff_iff]
 unfold any5 wrB
 simp only [List.any_eq_true, Bool.and_eq_true, beq_iff_eq, List.mem_range]
 constructor
 ·rintro ⟨w, hw, hq⟩
  obtain ⟨h1, h2⟩ := K.w w hw
  refine ⟨w.fKey.toNat, by omega, ⟨w, hw, by omega⟩, ?_⟩
  rw [Int.toNat_of_nonneg h1]
  exact hq
 ·rintro ⟨k, hk, ⟨w, hw, he⟩, hq⟩
  exact ⟨w, hw, by rw [he]; exact hq⟩
def relB (a b : T_impl_Txn) (kind : Int) : Bool :=
 bif kind == 1 then decide (a.fEnd < b.fEnd) && any5 fun k => wrB a k && wrB b k
 else bif kind == 2 then decide (a.fEnd ≤ b.fBegin) && any5 fun k => wrB a k && rdB b k
 else decide (b.fEnd > a.fBegin) && any5 fun k => wrB b k && rdB a k
theorem some_same {α : Type} (x : Option α) : (x.bind fun v => some v) = x := by cases x <;> rfl
theorem impl_rel {a b : T_impl_Txn} (ha : SmT a) (hb : SmT b) (ka : KeyT a) (kb : KeyT b) (kind : Int) : impl_Txn_related a b kind = some (relB a b kind) := by
 have r1 : ∀ {t u : T_impl_Txn}, SmT t → SmT u → KeyT t → impl_Txn_related_1 t u = some (any5 fun k => wrB t k && rdB u k) := fun {t u} ht hu kt => by
  unfold impl_Txn_related_1
  rw [some_same, has_w ht.2.1 (p := fun w => rdB u w.fKey) (fun w _ => by
   unfold impl_Txn_related_1_1
   rw [some_same]
   exact contains_rd hu.1 _)]
  rw [any_w kt]
 unfold impl_Txn_related relB
 simp only [some_same]
 rw [r1 ha hb ka, r1 hb ha kb, has_w ha.2.1 (p := fun w => wrB b w.fKey) (fun w _ => by
   unfold impl_Txn_related_2
   rw [some_same]
   exact impl_wr hb _), any_w ka]
 cases kind == 1 <;> cases kind == 2 <;> cases decide (a.fEnd < b.fEnd) <;> cases decide (a.fEnd ≤ b.fBegin) <;> cases decide (b.fEnd > a.fBegin) <;> rfl
theorem any5_and (c : Bool) (p : Int → Bool) : (any5 fun k => p k && c) = (c && any5 p) := by
 unfold any5
 cases c with
 | true => simp
 | false => simp
theorem spec_rel {a b : T_impl_Txn} (ha : SmT a) (hb : SmT b) {kind : Int} (hk : kind = 1 ∨ kind = 2 ∨ kind = 3) : spec_l15Has a b kind = some (relB a b kind) := by
 unfold spec_l15Has
 have := loop_opt (xs := List.range 5) (L := fun f i (_ : Unit) => spec_l15Has_l0 a b kind f i) (fun rest _ => some (rest.any fun k => bif kind == 1 then (wrB a (k : Nat) && wrB b (k : Nat)) && decide (a.fEnd < b.fEnd) else bif kind == 2 then (wrB a (k : Nat) && rdB b (k : Nat)) && decide (a.fEnd ≤ b.fBegin) else (wrB b (k : Nat) && rdB a (k : Nat)) && decide (b.fEnd > a.fBegin))) (fun _ _ => True) (by simp)
  (fun f i s v hi hv hw _ => by
   have hi : i < 5 := by simpa using hi
   have hv : v = i := by
    rw [List.getElem?_range hi] at hv
    exact (Option.some.inj hv).symm
   subst hv
   obtain ⟨p, p1, p2⟩ := spec_own ha v
   obtain ⟨q, q1, q2⟩ := spec_own hb v
   rw [spec_l15Has_l0, decide_eq_true (by omega), cond_true, p1, Option.bind_some, q1, Option.bind_some, p2, q2, List.any_cons]
   unfold spec_l15Has_j1 spec_l15Has_j2 spec_l15Has_j3
   simp only [spec_rd ha, spec_rd hb, Option.bind_some, hw]
   rcases hk with rfl | rfl | rfl
   ·simp only [show ((1 : Int) == 1) = true from rfl, show ((1 : Int) == 2) = false from rfl, show ((1 : Int) == 3) = false from rfl, cond_true, cond_false]
    cases wrB a v <;> cases wrB b v <;> cases decide (a.fEnd < b.fEnd) <;> first | exact .inl rfl | exact .inr ⟨(), trivial, rfl, rfl⟩
   ·simp only [show ((2 : Int) == 1) = false from rfl, show ((2 : Int) == 2) = true from rfl, show ((2 : Int) == 3) = false from rfl, cond_true, cond_false]
    cases wrB a v <;> cases rdB b v <;> cases decide (a.fEnd ≤ b.fBegin) <;> first | exact .inl rfl | exact .inr ⟨(), trivial, rfl, rfl⟩
   ·simp only [show ((3 : Int) == 1) = false from rfl, show ((3 : Int) == 2) = false from rfl, show ((3 : Int) == 3) = true from rfl, cond_true, cond_false]
    cases wrB b v <;> cases rdB a v <;> cases decide (b.fEnd > a.fBegin) <;> first | exact .inl rfl | exact .inr ⟨(), trivial, rfl, rfl⟩)
  (fun f s _ => by rw [List.length_range, spec_l15Has_l0, decide_eq_false (by omega), cond_false]; rfl) (s := ()) trivial
 have this : spec_l15Has_l0 a b kind FUEL 0 = _ := this
 rw [this]
 unfold relB
 rcases hk with rfl | rfl | rfl
 ·exact congrArg some (any5_and _ fun k => wrB a k && wrB b k)
 ·exact congrArg some (any5_and _ fun k => wrB a k && rdB b k)
 ·exact congrArg some (any5_and _ fun k => wrB b k && rdB a k)
end Go.D
set_option linter.unusedVariables false
namespace Go.D
theorem specT_mem {c : Int} : ∀ {r prev : List T_impl_Txn}, specT c prev r = true → ∀ t ∈ r, txB t c = true
 | [], _, _, t, ht => by cases ht
 | u :: r, prev, h, t, ht => by
  rw [specT, Bool.and_eq_true, Bool.and_eq_true] at h
  rcases List.mem_cons.1 ht with rfl | ht
  ·exact h.1
  ·exact specT_mem h.2.2 t ht
theorem tx_key {t : T_impl_Txn} {c : Int} (h : txB t c = true) : KeyT t := by
 have go : risB t.fReads = true → wOk t.fWrites = true → KeyT t := fun h1 h2 => by
  refine ⟨fun w hw => ((wrG_iffT w).1 (((wOk_iffT _).1 h2).1 w hw)).1, fun x hx => ?_⟩
  obtain ⟨i, hi, rfl⟩ := List.getElem_of_mem hx
  have := List.all_eq_true.1 h1 i (List.mem_range.2 hi)
  unfold risP at this
  rw [List.getElem?_eq_getElem hi] at this
  simp only [Bool.and_eq_true] at this
  have := this.1
  unfold inR at this
  simp only [Bool.and_eq_true, decide_eq_true_eq] at this
  exact this
 unfold txB at h
 cases h0 : t.fState == 0 with
 | true =>
  rw [h0, cond_true] at h
  simp only [Bool.and_eq_true, beq_iff_eq] at h
  have e1 : t.fReads = [] := List.eq_nil_of_length_eq_zero (by omega)
  have e2 : t.fWrites = [] := List.eq_nil_of_length_eq_zero (by omega)
  exact ⟨fun w hw => (by rw [e2] at hw; cases hw), fun x hx => (by rw [e1] at hx; cases hx)⟩
 | false =>
  rw [h0, cond_false] at h
  cases h2 : t.fState == 2 with
  | true =>
   rw [h2, cond_true] at h
   simp only [Bool.and_eq_true] at h
   exact go h.2.2.1 h.2.2.2
  | false =>
   rw [h2, cond_false] at h
   simp only [Bool.and_eq_true] at h
   exact go h.2.2.2.1 h.2.2.2.2
theorem house_txns {h : T_impl_House} (hb : houseB h = true) : h.fTxns.length = 4 ∧ ∀ t ∈ h.fTxns, KeyT t := by
 unfold houseB at hb
 simp only [Bool.and_eq_true, decide_eq_true_eq] at hb
 exact ⟨hb.2.2.2.1, fun t ht => tx_key (specT_mem hb.2.2.2.2 t ht)⟩
def edB (i k : Int) (a b : T_impl_Txn) (kind : Int) : Bool := !(i == k) && (a.fState == 2 && (b.fState == 2 && relB a b kind))
def ed1 (i k : Int) (a b : T_impl_Txn) (kind : Int) : List T_impl_Edge := bif edB i k a b kind then [T_impl_Edge.mk i k kind] else []
def edV (i k : Int) (a b : T_impl_Txn) : List T_impl_Edge := ed1 i k a b 1 ++ (ed1 i k a b 2 ++ ed1 i k a b 3)
def rowE (i : Int) (a : T_impl_Txn) : Nat → List T_impl_Txn → List T_impl_Edge
 | _, [] => []
 | k, b :: r => edV i (k : Int) a b ++ rowE i a (k + 1) r
def allE (ts : List T_impl_Txn) : Nat → List T_impl_Txn → List T_impl_Edge
 | _, [] => []
 | i, a :: r => rowE (i : Int) a 0 ts ++ allE ts (i + 1) r
theorem ed1_len (i k : Int) (a b : T_impl_Txn) (kind : Int) : (ed1 i k a b kind).length ≤ 1 := by
 unfold ed1
 cases edB i k a b kind <;> simp
theorem edV_len (i k : Int) (a b : T_impl_Txn) : (edV i k a b).length ≤ 3 := by
 have h1 := ed1_len i k a b 1
 have h2 := ed1_len i k a b 2
 have h3 := ed1_len i k a b 3
 unfold edV
 rw [List.length_append, List.length_append]
 omega
theorem rowE_len (i : Int) (a : T_impl_Txn) : ∀ (r : List T_impl_Txn) (k : Nat), (rowE i a k r).length ≤ 3 * r.length
 | [], k => by simp [rowE]
 | b :: r, k => by
  have h1 := edV_len i (k : Int) a b
  have h2 := rowE_len i a r (k + 1)
  rw [rowE, List.length_append, List.length_cons]
  omega
theorem allE_len {ts : List T_impl_Txn} (h4 : ts.length = 4) : ∀ (r : List T_impl_Txn) (i : Nat), (allE ts i r).length ≤ 12 * r.length
 | [], i => by simp [allE]
 | a :: r, i => by
  have h1 := rowE_len (i : Int) a ts 0
  have h2 := allE_len h4 r (i + 1)
  rw [allE, List.length_append, List.length_cons]
  omega
theorem fuel4 : FUEL = 70368744177660 + 4 := rfl
theorem app_ed {out : List T_impl_Edge} {i k kind : Int} (h : out.length ≤ 3000) (a b : T_impl_Txn) (K : List T_impl_Edge → Option (List T_impl_Edge)) :
  (bif edB i k a b kind then (app out [T_impl_Edge.mk i k kind]).bind K else K out) = K (out ++ ed1 i k a b kind) := by
 unfold ed1
 cases edB i k a b kind with
 | true => rw [cond_true, cond_true, app_lt (by simp; omega), Option.bind_some]
 | false => rw [cond_false, cond_false, List.append_nil]
theorem kinds_loop {L : Nat → Int → List T_impl_Edge → Option (List T_impl_Edge)} {i k : Int} {a b : T_impl_Txn} {E : List T_impl_Edge → Option (List T_impl_Edge)} {out : List T_impl_Edge} (h : out.length ≤ 2000)
  (hr : ∀ (f : Nat) (kind : Int) (s : List T_impl_Edge), (kind = 1 ∨ kind = 2 ∨ kind = 3) → L (f + 1) kind s = bif edB i k a b kind then (app s [T_impl_Edge.mk i k kind]).bind (fun s => L f (kind + 1) s) else L f (kind + 1) s)
  (he : ∀ f s, L (f + 1) 4 s = E s) : L FUEL 1 out = E (out ++ edV i k a b) := by
 have h1 := ed1_len i k a b 1
 have h2 := ed1_len i k a b 2
 rw [fuel4, hr _ 1 out (.inl rfl), app_ed (by omega), show (1 : Int) + 1 = 2 from rfl, hr _ 2 _ (.inr (.inl rfl)), app_ed (by rw [List.length_append]; omega), show (2 : Int) + 1 = 3 from rfl, hr _ 3 _ (.inr (.inr rfl)), app_ed (by rw [List.length_append, List.length_append]; omega), show (3 : Int) + 1 = 4 from rfl, he]
 unfold edV
 rw [List.append_assoc, List.append_assoc]
theorem kind_w {kind : Int} (hk : kind = 1 ∨ kind = 2 ∨ kind = 3) : w64 (kind + 1) = kind + 1 ∧ decide (kind ≤ 3) = true := by
 rcases hk with rfl | rfl | rfl <;> exact ⟨rfl, rfl⟩
theorem spec_edge {h : T_impl_House} (hs : SmH h) (hb : houseB h = true) {i k : Nat} {a b : T_impl_Txn} (ha : h.fTxns[i]? = some a) (hb' : h.fTxns[k]? = some b) {kind : Int} (hk : kind = 1 ∨ kind = 2 ∨ kind = 3) : spec_l15Edge h (i : Int) (k : Int) kind = some (edB (i : Int) (k : Int) a b kind) := by
 unfold spec_l15Edge edB
 simp only [getI_nat, ha, hb', Option.bind_some, spec_rel (hs.2.2 a (List.mem_of_getElem? ha)) (hs.2.2 b (List.mem_of_getElem? hb')) hk]
 cases (i : Int) == (k : Int) <;> cases a.fState == 2 <;> cases b.fState == 2 <;> rfl
end Go.D
set_option linter.unusedVariables false
namespace Go.D
theorem impl_kindsN {h : T_impl_House} (hs : SmH h) (hb : houseB h = true) {i k : Int} {a b : T_impl_Txn} (ha : a ∈ h.fTxns) (hb' : b ∈ h.fTxns) {out : List T_impl_Edge} (ho : out.length ≤ 2000) (K : Int → List T_impl_Edge → Option (List T_impl_Edge)) :
  impl_House_edges_l2 i a k K b FUEL 1 out = K (w64 (k + 1)) (out ++ edV i k a b) := by
 refine kinds_loop ho (fun f kind s hk => ?_) (fun f s => ?_)
 ·obtain ⟨e1, e2⟩ := kind_w hk
  have ht := (house_txns hb).2
  rw [impl_House_edges_l2, e2, cond_true, impl_rel (hs.2.2 a ha) (hs.2.2 b hb') (ht a ha) (ht b hb')]
  unfold impl_House_edges_j4 impl_House_edges_j3 edB
  rw [e1]
  cases i == k <;> cases a.fState == 2 <;> cases b.fState == 2 <;> cases relB a b kind <;> rfl
 ·rw [impl_House_edges_l2, show decide ((4 : Int) ≤ 3) = false from rfl, cond_false]
theorem impl_rowN {h : T_impl_House} (hs : SmH h) (hb : houseB h = true) {i : Int} {a : T_impl_Txn} (ha : a ∈ h.fTxns) {out : List T_impl_Edge} (ho : out.length ≤ 1000) (K : Int → List T_impl_Edge → Option (List T_impl_Edge)) :
  impl_House_edges_l1 h i K a FUEL 0 out = K (w64 (i + 1)) (out ++ rowE i a 0 h.fTxns) := by
 have h4 := (house_txns hb).1
 have := loop_opt (xs := h.fTxns) (L := fun f k (s : List T_impl_Edge) => impl_House_edges_l1 h i K a f k s) (fun rest s => K (w64 (i + 1)) (s ++ rowE i a (4 - rest.length) rest)) (fun k s => s.length ≤ 1000 + 3 * k) (by omega)
  (fun f k s b hk hkb hw hI => by
   have hm : b ∈ h.fTxns := List.mem_of_getElem? hkb
   have he := edV_len i (k : Int) a b
   refine .inr ⟨s ++ edV i (k : Int) a b, by rw [List.length_append]; omega, ?_, ?_⟩
   ·rw [impl_House_edges_l1, decide_eq_true (by omega), cond_true, getI_nat, hkb, Option.bind_some, impl_kindsN hs hb ha hm (by omega), hw]
   ·have hdl : (h.fTxns.drop (k + 1)).length = 4 - (k + 1) := by rw [List.length_drop, h4]
    rw [List.length_cons, hdl, rowE, List.append_assoc]
    have e1 : 4 - (4 - (k + 1) + 1) = k := by omega
    have e2 : 4 - (4 - (k + 1)) = k + 1 := by omega
    rw [e1, e2])
  (fun f s _ => by rw [impl_House_edges_l1, decide_eq_false (Int.lt_irrefl _), cond_false, rowE, List.append_nil]) (s := out) (by omega)
 have this : impl_House_edges_l1 h i K a FUEL 0 out = _ := this
 rw [this, h4]
theorem impl_edgesN {h : T_impl_House} (hs : SmH h) (hb : houseB h = true) : impl_House_edges h = some (allE h.fTxns 0 h.fTxns) := by
 have h4 := (house_txns hb).1
 unfold impl_House_edges
 have := loop_opt (xs := h.fTxns) (L := fun f i (s : List T_impl_Edge) => impl_House_edges_l0 h f i s) (fun rest s => some (s ++ allE h.fTxns (4 - rest.length) rest)) (fun i s => s.length ≤ 12 * i) (by omega)
  (fun f i s a hi hia hw hI => by
   have hm : a ∈ h.fTxns := List.mem_of_getElem? hia
   have he := rowE_len (i : Int) a h.fTxns 0
   refine .inr ⟨s ++ rowE (i : Int) a 0 h.fTxns, by rw [List.length_append]; omega, ?_, ?_⟩
   ·rw [impl_House_edges_l0, decide_eq_true (by omega), cond_true, getI_nat, hia, Option.bind_some, impl_rowN hs hb hm (by omega), hw]
   ·have hdl : (h.fTxns.drop (i + 1)).length = 4 - (i + 1) := by rw [List.length_drop, h4]
    rw [List.length_cons, hdl, allE, List.append_assoc]
    have e1 : 4 - (4 - (i + 1) + 1) = i := by omega
    have e2 : 4 - (4 - (i + 1)) = i + 1 := by omega
    rw [e1, e2])
  (fun f s _ => by
   rw [impl_House_edges_l0, decide_eq_false (Int.lt_irrefl _), cond_false]
   unfold slices_Clip_impl_Edge_impl_Edge
   rw [show slI s none (some (s.length : Int)) (some (s.length : Int)) = some s by simp [slI], allE, List.append_nil]
   rfl) (s := []) (by simp)
 have this : impl_House_edges_l0 h FUEL 0 [] = _ := this
 rw [this, h4]
 rfl
theorem mem_ed1 {i k : Int} {a b : T_impl_Txn} {kind : Int} {e : T_impl_Edge} : e ∈ ed1 i k a b kind ↔ e = T_impl_Edge.mk i k kind ∧ edB i k a b kind = true := by
 unfold ed1
 cases h : edB i k a b kind with
 | true => rw [cond_true]; simp
 | false => rw [cond_false]; simp
theorem mem_edV {i k : Int} {a b : T_impl_Txn} {e : T_impl_Edge} : e ∈ edV i k a b ↔ ∃ kind, (kind = 1 ∨ kind = 2 ∨ kind = 3) ∧ e = T_impl_Edge.mk i k kind ∧ edB i k a b kind = true := by
 unfold edV
 rw [List.mem_append, List.mem_append, mem_ed1, mem_ed1, mem_ed1]
 constructor
 ·rintro (h | h | h)
  ·exact ⟨1, .inl rfl, h⟩
  ·exact ⟨2, .inr (.inl rfl), h⟩
  ·exact ⟨3, .inr (.inr rfl), h⟩
 ·rintro ⟨kind, rfl | rfl | rfl, h⟩
  ·exact .inl h
  ·exact .inr (.inl h)
  ·exact .inr (.inr h)
theorem mem_rowE {i : Int} {a : T_impl_Txn} {e : T_impl_Edge} : ∀ {r : List T_impl_Txn} {k0 : Nat}, e ∈ rowE i a k0 r ↔ ∃ (j : Nat) (b : T_impl_Txn), r[j]? = some b ∧ e ∈ edV i ((k0 + j : Nat) : Int) a b
 | [], k0 => by simp [rowE]
 | b :: r, k0 => by
  rw [rowE, List.mem_append, mem_rowE]
  constructor
  ·rintro (h | ⟨j, b', h1, h2⟩)
   ·exact ⟨0, b, rfl, h⟩
   ·exact ⟨j + 1, b', h1, by rw [show k0 + (j + 1) = k0 + 1 + j by omega]; exact h2⟩
  ·rintro ⟨j, b', h1, h2⟩
   cases j with
   | zero => cases h1; exact .inl h2
   | succ j => exact .inr ⟨j, b', h1, by rw [show k0 + 1 + j = k0 + (j + 1) by omega]; exact h2⟩
theorem mem_allE {ts : List T_impl_Txn} {e : T_impl_Edge} : ∀ {r : List T_impl_Txn} {i0 : Nat}, e ∈ allE ts i0 r ↔ ∃ (j : Nat) (a : T_impl_Txn), r[j]? = some a ∧ e ∈ rowE ((i0 + j : Nat) : Int) a 0 ts
 | [], i0 => by simp [allE]
 | a :: r, i0 => by
  rw [allE, List.mem_append, mem_allE]
  constructor
  ·rintro (h | ⟨j, b', h1, h2⟩)
   ·exact ⟨0, a, rfl, h⟩
   ·exact ⟨j + 1, b', h1, by rw [show i0 + (j + 1) = i0 + 1 + j by omega]; exact h2⟩
  ·rintro ⟨j, b', h1, h2⟩
   cases j with
   | zero => cases h1; exact .inl h2
   | succ j => exact .inr ⟨j, b', h1, by rw [show i0 + 1 + j = i0 + (j + 1) by omega]; exact h2⟩
theorem mem_edge {ts : List T_impl_Txn} {i k : Nat} {a b : T_impl_Txn} (ha : ts[i]? = some a) (hb : ts[k]? = some b) {kind : Int} (hk : kind = 1 ∨ kind = 2 ∨ kind = 3) : T_impl_Edge.mk (i : Int) (k : Int) kind ∈ allE ts 0 ts ↔ edB (i : Int) (k : Int) a b kind = true := by
 rw [mem_allE]
 constructor
 ·rintro ⟨j, a', h1, h2⟩
  obtain ⟨l, b', h3, h4⟩ := mem_rowE.1 h2
  obtain ⟨kind', _, h5, h6⟩ := mem_edV.1 h4
  simp only [Nat.zero_add, T_impl_Edge.mk.injEq] at h5
  obtain ⟨e1, e2, e3⟩ := h5
  have e1 : i = j := by omega
  have e2 : k = l := by omega
  subst e1; subst e2
  rw [ha] at h1; rw [hb] at h3
  cases h1; cases h3
  rw [e3]
  simpa using h6
 ·intro h
  exact ⟨i, a, ha, mem_rowE.2 ⟨k, b, hb, mem_edV.2 ⟨kind, hk, by rw [Nat.zero_add, Nat.zero_add], by rw [Nat.zero_add, Nat.zero_add]; exact h⟩⟩⟩
end Go.D
set_option linter.unusedVariables false
namespace Go.D
def F3 (D : Nat → Nat → Nat → Bool) (a b : Nat) (k : Option (List Int)) : Option (List Int) :=
 bif D a b 0 then some [(a : Int), (b : Int), ((0 : Nat) : Int)] else bif D a b 1 then some [(a : Int), (b : Int), ((1 : Nat) : Int)] else bif D a b 2 then some [(a : Int), (b : Int), ((2 : Nat) : Int)] else bif D a b 3 then some [(a : Int), (b : Int), ((3 : Nat) : Int)] else k
def F2 (D : Nat → Nat → Nat → Bool) (a : Nat) (k : Option (List Int)) : Option (List Int) := F3 D a 0 (F3 D a 1 (F3 D a 2 (F3 D a 3 k)))
def F1 (D : Nat → Nat → Nat → Bool) : Option (List Int) := F2 D 0 (F2 D 1 (F2 D 2 (F2 D 3 (some []))))
theorem fuel5 : FUEL = 70368744177659 + 1 + 1 + 1 + 1 + 1 := rfl
theorem loops3 (D : Nat → Nat → Nat → Bool) {L1 : Nat → Int → Option (List Int)} {L2 : Int → (Int → Option (List Int)) → Nat → Int → Option (List Int)} {L3 : Int → Int → (Int → Option (List Int)) → Nat → Int → Option (List Int)}
  (h3 : ∀ (a b c : Nat) K f, a < 4 → b < 4 → c < 4 → L3 (a : Int) (b : Int) K (f + 1) (c : Int) = bif D a b c then some [(a : Int), (b : Int), (c : Int)] else L3 (a : Int) (b : Int) K f (w64 ((c : Int) + 1)))
  (e3 : ∀ (a b : Nat) K f, L3 (a : Int) (b : Int) K (f + 1) 4 = K (w64 ((b : Int) + 1)))
  (h2 : ∀ (a b : Nat) K f, b < 4 → L2 (a : Int) K (f + 1) (b : Int) = L3 (a : Int) (b : Int) (L2 (a : Int) K f) FUEL 0)
  (e2 : ∀ (a : Nat) K f, L2 (a : Int) K (f + 1) 4 = K (w64 ((a : Int) + 1)))
  (h1 : ∀ (a : Nat) f, a < 4 → L1 (f + 1) (a : Int) = L2 (a : Int) (L1 f) FUEL 0)
  (e1 : ∀ f, L1 (f + 1) 4 = some []) : L1 FUEL 0 = F1 D := by
 have k3 : ∀ (a b : Nat) K, a < 4 → b < 4 → L3 (a : Int) (b : Int) K FUEL 0 = F3 D a b (K (w64 ((b : Int) + 1))) := fun a b K ha hb => by
  have s0 : ∀ f, L3 (a : Int) (b : Int) K (f + 1) 0 = bif D a b 0 then some [(a : Int), (b : Int), ((0 : Nat) : Int)] else L3 (a : Int) (b : Int) K f 1 := fun f => h3 a b 0 K f ha hb (by omega)
  have s1 : ∀ f, L3 (a : Int) (b : Int) K (f + 1) 1 = bif D a b 1 then some [(a : Int), (b : Int), ((1 : Nat) : Int)] else L3 (a : Int) (b : Int) K f 2 := fun f => h3 a b 1 K f ha hb (by omega)
  have s2 : ∀ f, L3 (a : Int) (b : Int) K (f + 1) 2 = bif D a b 2 then some [(a : Int), (b : Int), ((2 : Nat) : Int)] else L3 (a : Int) (b : Int) K f 3 := fun f => h3 a b 2 K f ha hb (by omega)
  have s3 : ∀ f, L3 (a : Int) (b : Int) K (f + 1) 3 = bif D a b 3 then some [(a : Int), (b : Int), ((3 : Nat) : Int)] else L3 (a : Int) (b : Int) K f 4 := fun f => h3 a b 3 K f ha hb (by omega)
  rw [fuel5, s0, s1, s2, s3, e3]
  rfl
 have k2 : ∀ (a : Nat) K, a < 4 → L2 (a : Int) K FUEL 0 = F2 D a (K (w64 ((a : Int) + 1))) := fun a K ha => by
  have s0 : ∀ f, L2 (a : Int) K (f + 1) 0 = F3 D a 0 (L2 (a : Int) K f 1) := fun f => (h2 a 0 K f (by omega)).trans (k3 a 0 _ ha (by omega))
  have s1 : ∀ f, L2 (a : Int) K (f + 1) 1 = F3 D a 1 (L2 (a : Int) K f 2) := fun f => (h2 a 1 K f (by omega)).trans (k3 a 1 _ ha (by omega))
  have s2 : ∀ f, L2 (a : Int) K (f + 1) 2 = F3 D a 2 (L2 (a : Int) K f 3) := fun f => (h2 a 2 K f (by omega)).trans (k3 a 2 _ ha (by omega))
  have s3 : ∀ f, L2 (a : Int) K (f + 1) 3 = F3 D a 3 (L2 (a : Int) K f 4) := fun f => (h2 a 3 K f (by omega)).trans (k3 a 3 _ ha (by omega))
  rw [fuel5, s0, s1, s2, s3, e2]
  rfl
 have s0 : ∀ f, L1 (f + 1) 0 = F2 D 0 (L1 f 1) := fun f => (h1 0 f (by omega)).trans (k2 0 _ (by omega))
 have s1 : ∀ f, L1 (f + 1) 1 = F2 D 1 (L1 f 2) := fun f => (h1 1 f (by omega)).trans (k2 1 _ (by omega))
 have s2 : ∀ f, L1 (f + 1) 2 = F2 D 2 (L1 f 3) := fun f => (h1 2 f (by omega)).trans (k2 2 _ (by omega))
 have s3 : ∀ f, L1 (f + 1) 3 = F2 D 3 (L1 f 4) := fun f => (h1 3 f (by omega)).trans (k2 3 _ (by omega))
 rw [fuel5, s0, s1, s2, s3, e1]
 rfl
def besB (a b : T_impl_Txn) : Bool := decide (a.fBegin < b.fEnd) && decide (b.fBegin < a.fEnd)
def dngT (a b c : Nat) (x y z : T_impl_Txn) : Bool := edB (a : Int) (b : Int) x y 3 && (edB (b : Int) (c : Int) y z 3 && (besB x y && (besB y z && (decide (z.fEnd < y.fEnd) && decide (z.fEnd ≤ x.fEnd)))))
def dngB (ts : List T_impl_Txn) (a b c : Nat) : Bool := match ts[a]?, ts[b]?, ts[c]? with
 | some x, some y, some z => dngT a b c x y z
 | _, _, _ => false
theorem dngB_of {ts : List T_impl_Txn} {a b c : Nat} {x y z : T_impl_Txn} (ha : ts[a]? = some x) (hb : ts[b]? = some y) (hc : ts[c]? = some z) : dngB ts a b c = dngT a b c x y z := by
 unfold dngB
 rw [ha, hb, hc]
theorem spec_bes (a b : T_impl_Txn) : spec_l15Beside a b = some (besB a b) := by
 unfold spec_l15Beside besB
 cases decide (a.fBegin < b.fEnd) <;> rfl
theorem eqE_true {a b : T_impl_Edge} : eq_T_impl_Edge a b = true ↔ a = b := by
 cases a; cases b
 simp [eq_T_impl_Edge, andB]
theorem contains_ed {es : List T_impl_Edge} (hl : es.length ≤ 1000) (e : T_impl_Edge) : slices_Contains_impl_Edge_impl_Edge es e = some (es.any fun x => eq_T_impl_Edge e x) := by
 unfold slices_Contains_impl_Edge_impl_Edge slices_Index_impl_Edge_impl_Edge
 obtain ⟨r, h1, h2⟩ := loop_find (xs := es) (L := slices_Index_impl_Edge_impl_Edge_l0 es e) (p := fun x => eq_T_impl_Edge e x) (by omega) (fun f i v hi hv hw => by
  rw [slices_Index_impl_Edge_impl_Edge_l0, decide_eq_true (by omega), cond_true, getI_nat, hv, Option.bind_some, hw])
  (fun f => by rw [slices_Index_impl_Edge_impl_Edge_l0, decide_eq_false (Int.lt_irrefl _), cond_false])
 rw [h1, Option.bind_some, h2]
theorem impl_blind {ts : List T_impl_Txn} (h4 : ts.length = 4) {i k : Nat} {a b : T_impl_Txn} (ha : ts[i]? = some a) (hb : ts[k]? = some b) : impl_House_danger_1 (i : Int) (k : Int) (allE ts 0 ts) = some (edB (i : Int) (k : Int) a b 3) := by
 have hl := allE_len h4 ts 0
 unfold impl_House_danger_1
 rw [contains_ed (by omega), Option.bind_some]
 congr 1
 rw [Bool.eq_iff_iff, ← mem_edge ha hb (.inr (.inr rfl)), List.any_eq_true]
 constructor
 ·rintro ⟨x, hx, he⟩
  rw [eqE_true.1 he]
  exact hx
 ·intro h
  exact ⟨_, h, eqE_true.2 rfl⟩
def dangerV (h : T_impl_House) : Option (List Int) := bif houseB h then F1 (dngB h.fTxns) else some []
theorem impl_dangerV {h : T_impl_House} (hs : SmH h) : impl_DangerOf_R h = dangerV h := by
 unfold impl_DangerOf_R dangerV
 rw [impl_house hs, Option.bind_some]
 cases hb : houseB h with
 | false => rfl
 | true =>
  have h4 := (house_txns hb).1
  have hg : ∀ n : Nat, n < 4 → ∃ x, h.fTxns[n]? = some x := fun n hn => ⟨h.fTxns[n], List.getElem?_eq_getElem (by omega)⟩
  rw [Bool.not_true, cond_false, cond_true, some_same]
  unfold impl_House_danger_R
  rw [impl_edgesN hs hb, Option.bind_some]
  refine loops3 (dngB h.fTxns) (L1 := impl_House_danger_R_l0 h (allE h.fTxns 0 h.fTxns)) (L2 := impl_House_danger_R_l1 h (allE h.fTxns 0 h.fTxns)) (L3 := impl_House_danger_R_l2 h (allE h.fTxns 0 h.fTxns)) (fun a b c K f ha hb' hc => ?_) (fun a b K f => ?_) (fun a b K f hb' => ?_) (fun a K f => ?_) (fun a f ha => ?_) (fun f => ?_)
  ·obtain ⟨x, hx⟩ := hg a ha
   obtain ⟨y, hy⟩ := hg b hb'
   obtain ⟨z, hz⟩ := hg c hc
   rw [impl_House_danger_R_l2, decide_eq_true (by omega), cond_true, impl_blind h4 hx hy, impl_blind h4 hy hz, dngB_of hx hy hz]
   unfold impl_House_beside impl_House_danger_R_j3 dngT besB edB
   simp only [getI_nat, hx, hy, hz, Option.bind_some]
   cases (a : Int) == (b : Int) <;> cases (b : Int) == (c : Int) <;> cases x.fState == 2 <;> cases y.fState == 2 <;> cases z.fState == 2 <;> cases relB x y 3 <;> cases relB y z 3 <;> first | rfl | skip
   all_goals (cases decide (x.fBegin < y.fEnd) <;> cases decide (y.fBegin < x.fEnd) <;> cases decide (y.fBegin < z.fEnd) <;> cases decide (z.fBegin < y.fEnd) <;> cases decide (z.fEnd < y.fEnd) <;> rfl)
  ·rw [impl_House_danger_R_l2, show decide ((4 : Int) < 4) = false from rfl, cond_false]
  ·rw [impl_House_danger_R_l1, decide_eq_true (by omega), cond_true]
  ·rw [impl_House_danger_R_l1, show decide ((4 : Int) < 4) = false from rfl, cond_false]
  ·rw [impl_House_danger_R_l0, decide_eq_true (by omega), cond_true]
  ·rw [impl_House_danger_R_l0, show decide ((4 : Int) < 4) = false from rfl, cond_false]
theorem spec_dangerV {h : T_impl_House} (hs : SmH h) : spec_DangerOf h = dangerV h := by
 unfold spec_DangerOf dangerV
 cases hb : houseB h with
 | false =>
  rw [fuel5, spec_DangerOf_l0, spec_house hs, hb, Option.bind_some]
  rfl
 | true =>
  have h4 := (house_txns hb).1
  have hg : ∀ n : Nat, n < 4 → ∃ x, h.fTxns[n]? = some x := fun n hn => ⟨h.fTxns[n], List.getElem?_eq_getElem (by omega)⟩
  rw [cond_true]
  refine loops3 (dngB h.fTxns) (L1 := spec_DangerOf_l0 h) (L2 := spec_DangerOf_l2 h) (L3 := spec_DangerOf_l3 h) (fun a b c K f ha hb' hc => ?_) (fun a b K f => ?_) (fun a b K f hb' => ?_) (fun a K f => ?_) (fun a f ha => ?_) (fun f => ?_)
  ·obtain ⟨x, hx⟩ := hg a ha
   obtain ⟨y, hy⟩ := hg b hb'
   obtain ⟨z, hz⟩ := hg c hc
   rw [spec_DangerOf_l3, decide_eq_true (by omega), cond_true, spec_edge hs hb hx hy (.inr (.inr rfl)), spec_edge hs hb hy hz (.inr (.inr rfl)), dngB_of hx hy hz]
   unfold spec_DangerOf_j4 dngT
   simp only [getI_nat, hx, hy, hz, Option.bind_some, spec_bes]
   cases edB (a : Int) (b : Int) x y 3 <;> cases edB (b : Int) (c : Int) y z 3 <;> cases besB x y <;> cases besB y z <;> cases decide (z.fEnd < y.fEnd) <;> rfl
  ·rw [spec_DangerOf_l3, show decide ((4 : Int) < 4) = false from rfl, cond_false]
  ·rw [spec_DangerOf_l2, decide_eq_true (by omega), cond_true]
  ·rw [spec_DangerOf_l2, show decide ((4 : Int) < 4) = false from rfl, cond_false]
  ·rw [spec_DangerOf_l0, decide_eq_true (by omega), cond_true, spec_house hs, hb, Option.bind_some]
   rfl
  ·rw [spec_DangerOf_l0, show decide ((4 : Int) < 4) = false from rfl, cond_false]
   rfl
theorem F3_some {D : Nat → Nat → Nat → Bool} {a b : Nat} {k : Option (List Int)} (hk : ∃ v, k = some v ∧ v.length ≤ 3) : ∃ v, F3 D a b k = some v ∧ v.length ≤ 3 := by
 unfold F3
 cases D a b 0 with
 | true => exact ⟨_, rfl, Nat.le_refl _⟩
 | false =>
  cases D a b 1 with
  | true => exact ⟨_, rfl, Nat.le_refl _⟩
  | false =>
   cases D a b 2 with
   | true => exact ⟨_, rfl, Nat.le_refl _⟩
   | false =>
    cases D a b 3 with
    | true => exact ⟨_, rfl, Nat.le_refl _⟩
    | false => exact hk
theorem danger_some (h : T_impl_House) : ∃ v, dangerV h = some v ∧ v.length ≤ 3 := by
 unfold dangerV
 cases houseB h with
 | false => exact ⟨[], rfl, by simp⟩
 | true =>
  rw [cond_true]
  unfold F1 F2
  repeat apply F3_some
  exact ⟨[], rfl, by simp⟩
end Go.D
set_option linter.unusedVariables false
namespace Go.D
section
variable {α : Type} {xs : List α} (h : xs.length ≤ 2097152)
include h
end
section
variable {α : Type} {xs : List α}
end
end Go.D
set_option linter.unusedVariables false
namespace Go.D
end Go.D
set_option linter.unusedVariables false
namespace Go.D
open Go.Proofs
theorem rd_3 : Rd Try.prog 3 Int intW := rd_int Try.underlying3 (by kernel_rfl)
theorem rd_9 : Rd Try.prog 9 ByteArray strW := rd_str Try.underlying9 (by kernel_rfl)
def W_T_laws_Value (x : T_laws_Value) : Prop := intW x.fKind ∧ intW x.fN ∧ strW x.fS
theorem spl_194 (cs : List Value) (hc : cs.length = 3) : cs = (cs.drop 0).take 1 ++ ((cs.drop 1).take 1 ++ ((cs.drop 2).take 1)) := by
 match cs, hc with
 | [c0, c1, c2], _ => rfl
theorem rd_194 : Rd Try.prog 194 T_laws_Value W_T_laws_Value := ⟨by kernel_rfl, fun H enc w base sp held fuel cs x h => by
 obtain ⟨xs, n, _, rfl, hl, hlen, hf⟩ := DataW.trod_struct Try.underlying194 h
 match xs, hlen, hf with
 | [z0, z1, z2], _, hf =>
 obtain ⟨y0, h0, w0⟩ := (rd_3).2 H enc w base sp held n _ _ (hf 0 _ rfl)
 obtain ⟨y1, h1, w1⟩ := (rd_3).2 H enc w base sp held n _ _ (hf 1 _ rfl)
 obtain ⟨y2, h2, w2⟩ := (rd_9).2 H enc w base sp held n _ _ (hf 2 _ rfl)
 refine ⟨⟨y0, y1, y2⟩, ?_, w0, w1, w2⟩
 have hc : cs.length = 3 := hl.trans (by kernel_rfl)
 have h0 : FrL w (fun _ => False) (Enc.cells y0) ((cs.drop 0).take (Try.prog.cellsOf 3)) := h0
 rw [rd_3.1] at h0
 have k0 : FrL w (fun _ => False) (Enc.cells y0) ((cs.drop 0).take 1) := h0
 have h1 : FrL w (fun _ => False) (Enc.cells y1) ((cs.drop 1).take (Try.prog.cellsOf 3)) := h1
 rw [rd_3.1] at h1
 have k1 : FrL w (fun _ => False) (Enc.cells y1) ((cs.drop 1).take 1) := h1
 have h2 : FrL w (fun _ => False) (Enc.cells y2) ((cs.drop 2).take (Try.prog.cellsOf 9)) := h2
 rw [rd_9.1] at h2
 have k2 : FrL w (fun _ => False) (Enc.cells y2) ((cs.drop 2).take 1) := h2
 rw [spl_194 cs hc]
 exact (FrL.append k0 (FrL.append k1 k2))⟩
theorem rd_118 : Rd Try.prog 118 (List T_laws_Value) (listW W_T_laws_Value) := rd_slice Try.underlying118 (by kernel_rfl) rd_194
def W_T_laws_Version (x : T_laws_Version) : Prop := intW x.fKey ∧ intW x.fBorn ∧ intW x.fDied ∧ (listW W_T_laws_Value) x.fRow
theorem spl_120 (cs : List Value) (hc : cs.length = 4) : cs = (cs.drop 0).take 1 ++ ((cs.drop 1).take 1 ++ ((cs.drop 2).take 1 ++ ((cs.drop 3).take 1))) := by
 match cs, hc with
 | [c0, c1, c2, c3], _ => rfl
theorem rd_120 : Rd Try.prog 120 T_laws_Version W_T_laws_Version := ⟨by kernel_rfl, fun H enc w base sp held fuel cs x h => by
 obtain ⟨xs, n, _, rfl, hl, hlen, hf⟩ := DataW.trod_struct Try.underlying120 h
 match xs, hlen, hf with
 | [z0, z1, z2, z3], _, hf =>
 obtain ⟨y0, h0, w0⟩ := (rd_3).2 H enc w base sp held n _ _ (hf 0 _ rfl)
 obtain ⟨y1, h1, w1⟩ := (rd_3).2 H enc w base sp held n _ _ (hf 1 _ rfl)
 obtain ⟨y2, h2, w2⟩ := (rd_3).2 H enc w base sp held n _ _ (hf 2 _ rfl)
 obtain ⟨y3, h3, w3⟩ := (rd_118).2 H enc w base sp held n _ _ (hf 3 _ rfl)
 refine ⟨⟨y0, y1, y2, y3⟩, ?_, w0, w1, w2, w3⟩
 have hc : cs.length = 4 := hl.trans (by kernel_rfl)
 have h0 : FrL w (fun _ => False) (Enc.cells y0) ((cs.drop 0).take (Try.prog.cellsOf 3)) := h0
 rw [rd_3.1] at h0
 have k0 : FrL w (fun _ => False) (Enc.cells y0) ((cs.drop 0).take 1) := h0
 have h1 : FrL w (fun _ => False) (Enc.cells y1) ((cs.drop 1).take (Try.prog.cellsOf 3)) := h1
 rw [rd_3.1] at h1
 have k1 : FrL w (fun _ => False) (Enc.cells y1) ((cs.drop 1).take 1) := h1
 have h2 : FrL w (fun _ => False) (Enc.cells y2) ((cs.drop 2).take (Try.prog.cellsOf 3)) := h2
 rw [rd_3.1] at h2
 have k2 : FrL w (fun _ => False) (Enc.cells y2) ((cs.drop 2).take 1) := h2
 have h3 : FrL w (fun _ => False) (Enc.cells y3) ((cs.drop 3).take (Try.prog.cellsOf 118)) := h3
 rw [rd_118.1] at h3
 have k3 : FrL w (fun _ => False) (Enc.cells y3) ((cs.drop 3).take 1) := h3
 rw [spl_120 cs hc]
 exact (FrL.append k0 (FrL.append k1 (FrL.append k2 k3)))⟩
theorem rd_22 : Rd Try.prog 22 (List T_laws_Version) (listW W_T_laws_Version) := rd_slice Try.underlying22 (by kernel_rfl) rd_120
theorem rd_41 : Rd Try.prog 41 (List Int) (listW intW) := rd_slice Try.underlying41 (by kernel_rfl) rd_3
theorem rd_4 : Rd Try.prog 4 Bool boolW := rd_bool Try.underlying4 (by kernel_rfl)
def W_T_laws_Write (x : T_laws_Write) : Prop := intW x.fKey ∧ (listW W_T_laws_Value) x.fRow ∧ boolW x.fGone
theorem spl_197 (cs : List Value) (hc : cs.length = 3) : cs = (cs.drop 0).take 1 ++ ((cs.drop 1).take 1 ++ ((cs.drop 2).take 1)) := by
 match cs, hc with
 | [c0, c1, c2], _ => rfl
theorem rd_197 : Rd Try.prog 197 T_laws_Write W_T_laws_Write := ⟨by kernel_rfl, fun H enc w base sp held fuel cs x h => by
 obtain ⟨xs, n, _, rfl, hl, hlen, hf⟩ := DataW.trod_struct Try.underlying197 h
 match xs, hlen, hf with
 | [z0, z1, z2], _, hf =>
 obtain ⟨y0, h0, w0⟩ := (rd_3).2 H enc w base sp held n _ _ (hf 0 _ rfl)
 obtain ⟨y1, h1, w1⟩ := (rd_118).2 H enc w base sp held n _ _ (hf 1 _ rfl)
 obtain ⟨y2, h2, w2⟩ := (rd_4).2 H enc w base sp held n _ _ (hf 2 _ rfl)
 refine ⟨⟨y0, y1, y2⟩, ?_, w0, w1, w2⟩
 have hc : cs.length = 3 := hl.trans (by kernel_rfl)
 have h0 : FrL w (fun _ => False) (Enc.cells y0) ((cs.drop 0).take (Try.prog.cellsOf 3)) := h0
 rw [rd_3.1] at h0
 have k0 : FrL w (fun _ => False) (Enc.cells y0) ((cs.drop 0).take 1) := h0
 have h1 : FrL w (fun _ => False) (Enc.cells y1) ((cs.drop 1).take (Try.prog.cellsOf 118)) := h1
 rw [rd_118.1] at h1
 have k1 : FrL w (fun _ => False) (Enc.cells y1) ((cs.drop 1).take 1) := h1
 have h2 : FrL w (fun _ => False) (Enc.cells y2) ((cs.drop 2).take (Try.prog.cellsOf 4)) := h2
 rw [rd_4.1] at h2
 have k2 : FrL w (fun _ => False) (Enc.cells y2) ((cs.drop 2).take 1) := h2
 rw [spl_197 cs hc]
 exact (FrL.append k0 (FrL.append k1 k2))⟩
theorem rd_122 : Rd Try.prog 122 (List T_laws_Write) (listW W_T_laws_Write) := rd_slice Try.underlying122 (by kernel_rfl) rd_197
def W_T_laws_Txn (x : T_laws_Txn) : Prop := intW x.fState ∧ intW x.fBegin ∧ intW x.fEnd ∧ (listW intW) x.fReads ∧ (listW W_T_laws_Write) x.fWrites
theorem spl_124 (cs : List Value) (hc : cs.length = 5) : cs = (cs.drop 0).take 1 ++ ((cs.drop 1).take 1 ++ ((cs.drop 2).take 1 ++ ((cs.drop 3).take 1 ++ ((cs.drop 4).take 1)))) := by
 match cs, hc with
 | [c0, c1, c2, c3, c4], _ => rfl
theorem rd_124 : Rd Try.prog 124 T_laws_Txn W_T_laws_Txn := ⟨by kernel_rfl, fun H enc w base sp held fuel cs x h => by
 obtain ⟨xs, n, _, rfl, hl, hlen, hf⟩ := DataW.trod_struct Try.underlying124 h
 match xs, hlen, hf with
 | [z0, z1, z2, z3, z4], _, hf =>
 obtain ⟨y0, h0, w0⟩ := (rd_3).2 H enc w base sp held n _ _ (hf 0 _ rfl)
 obtain ⟨y1, h1, w1⟩ := (rd_3).2 H enc w base sp held n _ _ (hf 1 _ rfl)
 obtain ⟨y2, h2, w2⟩ := (rd_3).2 H enc w base sp held n _ _ (hf 2 _ rfl)
 obtain ⟨y3, h3, w3⟩ := (rd_41).2 H enc w base sp held n _ _ (hf 3 _ rfl)
 obtain ⟨y4, h4, w4⟩ := (rd_122).2 H enc w base sp held n _ _ (hf 4 _ rfl)
 refine ⟨⟨y0, y1, y2, y3, y4⟩, ?_, w0, w1, w2, w3, w4⟩
 have hc : cs.length = 5 := hl.trans (by kernel_rfl)
 have h0 : FrL w (fun _ => False) (Enc.cells y0) ((cs.drop 0).take (Try.prog.cellsOf 3)) := h0
 rw [rd_3.1] at h0
 have k0 : FrL w (fun _ => False) (Enc.cells y0) ((cs.drop 0).take 1) := h0
 have h1 : FrL w (fun _ => False) (Enc.cells y1) ((cs.drop 1).take (Try.prog.cellsOf 3)) := h1
 rw [rd_3.1] at h1
 have k1 : FrL w (fun _ => False) (Enc.cells y1) ((cs.drop 1).take 1) := h1
 have h2 : FrL w (fun _ => False) (Enc.cells y2) ((cs.drop 2).take (Try.prog.cellsOf 3)) := h2
 rw [rd_3.1] at h2
 have k2 : FrL w (fun _ => False) (Enc.cells y2) ((cs.drop 2).take 1) := h2
 have h3 : FrL w (fun _ => False) (Enc.cells y3) ((cs.drop 3).take (Try.prog.cellsOf 41)) := h3
 rw [rd_41.1] at h3
 have k3 : FrL w (fun _ => False) (Enc.cells y3) ((cs.drop 3).take 1) := h3
 have h4 : FrL w (fun _ => False) (Enc.cells y4) ((cs.drop 4).take (Try.prog.cellsOf 122)) := h4
 rw [rd_122.1] at h4
 have k4 : FrL w (fun _ => False) (Enc.cells y4) ((cs.drop 4).take 1) := h4
 rw [spl_124 cs hc]
 exact (FrL.append k0 (FrL.append k1 (FrL.append k2 (FrL.append k3 k4))))⟩
theorem rd_23 : Rd Try.prog 23 (List T_laws_Txn) (listW W_T_laws_Txn) := rd_slice Try.underlying23 (by kernel_rfl) rd_124
def W_T_laws_House (x : T_laws_House) : Prop := (listW W_T_laws_Version) x.fList ∧ intW x.fClock ∧ (listW W_T_laws_Txn) x.fTxns
theorem spl_25 (cs : List Value) (hc : cs.length = 3) : cs = (cs.drop 0).take 1 ++ ((cs.drop 1).take 1 ++ ((cs.drop 2).take 1)) := by
 match cs, hc with
 | [c0, c1, c2], _ => rfl
theorem rd_25 : Rd Try.prog 25 T_laws_House W_T_laws_House := ⟨by kernel_rfl, fun H enc w base sp held fuel cs x h => by
 obtain ⟨xs, n, _, rfl, hl, hlen, hf⟩ := DataW.trod_struct Try.underlying25 h
 match xs, hlen, hf with
 | [z0, z1, z2], _, hf =>
 obtain ⟨y0, h0, w0⟩ := (rd_22).2 H enc w base sp held n _ _ (hf 0 _ rfl)
 obtain ⟨y1, h1, w1⟩ := (rd_3).2 H enc w base sp held n _ _ (hf 1 _ rfl)
 obtain ⟨y2, h2, w2⟩ := (rd_23).2 H enc w base sp held n _ _ (hf 2 _ rfl)
 refine ⟨⟨y0, y1, y2⟩, ?_, w0, w1, w2⟩
 have hc : cs.length = 3 := hl.trans (by kernel_rfl)
 have h0 : FrL w (fun _ => False) (Enc.cells y0) ((cs.drop 0).take (Try.prog.cellsOf 22)) := h0
 rw [rd_22.1] at h0
 have k0 : FrL w (fun _ => False) (Enc.cells y0) ((cs.drop 0).take 1) := h0
 have h1 : FrL w (fun _ => False) (Enc.cells y1) ((cs.drop 1).take (Try.prog.cellsOf 3)) := h1
 rw [rd_3.1] at h1
 have k1 : FrL w (fun _ => False) (Enc.cells y1) ((cs.drop 1).take 1) := h1
 have h2 : FrL w (fun _ => False) (Enc.cells y2) ((cs.drop 2).take (Try.prog.cellsOf 23)) := h2
 rw [rd_23.1] at h2
 have k2 : FrL w (fun _ => False) (Enc.cells y2) ((cs.drop 2).take 1) := h2
 rw [spl_25 cs hc]
 exact (FrL.append k0 (FrL.append k1 k2))⟩
end Go.D
set_option linter.unusedVariables false
namespace Go.D
def Ok_Value (x : T_laws_Value) : Prop := x.fS.size ≤ 1048576
theorem sz_Value : SzP laws_szValue W_T_laws_Value Ok_Value := by
 have h := sz_one (z := laws_szValue) (W := W_T_laws_Value) (fun x => x.fS.size) (fun x h => h.2.2) (fun x n => by unfold laws_szValue; rfl)
 exact h
def c_Value (x : T_laws_Value) : T_impl_Value := ⟨x.fKind, x.fN, x.fS⟩
theorem to_Value (x : T_laws_Value) (h : Ok_Value x) : laws_toValue x = some (c_Value x) := rfl
def OkI_Value (x : T_impl_Value) : Prop := True
theorem eq_Value (x : T_impl_Value) (h : OkI_Value x) : laws_eqValue x x = some true := by
 unfold laws_eqValue
 simp only [beq_self_eq_true, Bool.not_true, cond_false]
theorem sz_ValueS : SzP laws_szValueS (listW W_T_laws_Value) (okL Ok_Value) := sz_loop sz_Value (fun _ _ => rfl) (fun _ _ _ _ => rfl)
theorem to_ValueS (xs : List T_laws_Value) (h : (okL Ok_Value) xs) : laws_toValueS xs = some (xs.map c_Value) := to_loop (S := laws_toValueS) (L := laws_toValueS_l0) to_Value (fun _ => rfl) (fun _ _ _ _ => rfl) xs h
theorem eq_ValueS (xs : List T_impl_Value) (h : (okL OkI_Value) xs) : laws_eqValueS xs xs = some true := eq_loop (S := laws_eqValueS) (L := laws_eqValueS_l0) eq_Value (fun _ _ => rfl) (fun _ _ _ _ => rfl) xs h
def Ok_Version (x : T_laws_Version) : Prop := (okL Ok_Value) x.fRow
theorem sz_Version : SzP laws_szVersion W_T_laws_Version Ok_Version := by
 intro x n hW h0 hn
 obtain ⟨w0, w1, w2, w3⟩ := hW
 unfold laws_szVersion Ok_Version
 obtain ⟨r0, e0, k0⟩ := sz_ValueS x.fRow n w3 (by omega) (by omega)
 rw [e0, Option.bind_some]
 rcases k0 with k0 | ⟨p0, q0, o0⟩
 ·exact ⟨-1, by rw [decide_eq_true k0, cond_true], .inl (by omega)⟩
 rw [decide_eq_false (show ¬ r0 < 0 by omega), cond_false]
 exact ⟨r0, rfl, .inr ⟨by omega, by omega, o0⟩⟩
def c_Version (x : T_laws_Version) : T_impl_Version := ⟨x.fKey, x.fBorn, x.fDied, (x.fRow.map c_Value)⟩
theorem to_Version (x : T_laws_Version) (h : Ok_Version x) : laws_toVersion_D x = some (c_Version x) := by
 unfold laws_toVersion_D
 rw [to_ValueS x.fRow h, Option.bind_some]
 rfl
def OkI_Version (x : T_impl_Version) : Prop := (okL OkI_Value) x.fRow
theorem eq_Version (x : T_impl_Version) (h : OkI_Version x) : laws_eqVersion x x = some true := by
 unfold laws_eqVersion
 simp only [beq_self_eq_true, Bool.not_true, cond_false, eq_ValueS x.fRow h, Option.bind_some]
theorem sz_VersionS : SzP laws_szVersionS (listW W_T_laws_Version) (okL Ok_Version) := sz_loop sz_Version (fun _ _ => rfl) (fun _ _ _ _ => rfl)
theorem to_VersionS (xs : List T_laws_Version) (h : (okL Ok_Version) xs) : laws_toVersionS_D xs = some (xs.map c_Version) := to_loop (S := laws_toVersionS_D) (L := laws_toVersionS_D_l0) to_Version (fun _ => rfl) (fun _ _ _ _ => rfl) xs h
theorem eq_VersionS (xs : List T_impl_Version) (h : (okL OkI_Version) xs) : laws_eqVersionS xs xs = some true := eq_loop (S := laws_eqVersionS) (L := laws_eqVersionS_l0) eq_Version (fun _ _ => rfl) (fun _ _ _ _ => rfl) xs h
theorem sz_IntS : SzP laws_szIntS (listW intW) (okL (fun _ => True)) := sz_flat (fun _ => trivial) (fun _ h => h.1) (fun _ _ => rfl)
theorem to_IntS (xs : List Int) (h : (okL (fun _ => True)) xs) : laws_toIntS xs = some xs := by
 have := to_loop (c := fun x => x) (t := some) (S := laws_toIntS) (L := laws_toIntS_l0) (fun _ _ => rfl) (fun _ => rfl) (fun _ _ _ _ => rfl) xs h
 rwa [show xs.map (fun x => x) = xs from List.map_id xs] at this
theorem eq_IntS (xs : List Int) (h : (okL (fun _ => True)) xs) : laws_eqIntS xs xs = some true := eq_loop (S := laws_eqIntS) (L := laws_eqIntS_l0) (e := fun x y => some (x == y)) (fun x _ => congrArg some (beq_self_eq_true x)) (fun _ _ => rfl) (fun _ _ _ _ => rfl) xs h
def Ok_Write (x : T_laws_Write) : Prop := (okL Ok_Value) x.fRow
theorem sz_Write : SzP laws_szWrite W_T_laws_Write Ok_Write := by
 intro x n hW h0 hn
 obtain ⟨w0, w1, w2⟩ := hW
 unfold laws_szWrite Ok_Write
 obtain ⟨r0, e0, k0⟩ := sz_ValueS x.fRow n w1 (by omega) (by omega)
 rw [e0, Option.bind_some]
 rcases k0 with k0 | ⟨p0, q0, o0⟩
 ·exact ⟨-1, by rw [decide_eq_true k0, cond_true], .inl (by omega)⟩
 rw [decide_eq_false (show ¬ r0 < 0 by omega), cond_false]
 exact ⟨r0, rfl, .inr ⟨by omega, by omega, o0⟩⟩
def c_Write (x : T_laws_Write) : T_impl_Write := ⟨x.fKey, (x.fRow.map c_Value), x.fGone⟩
theorem to_Write (x : T_laws_Write) (h : Ok_Write x) : laws_toWrite_D x = some (c_Write x) := by
 unfold laws_toWrite_D
 rw [to_ValueS x.fRow h, Option.bind_some]
 rfl
def OkI_Write (x : T_impl_Write) : Prop := (okL OkI_Value) x.fRow
theorem eq_Write (x : T_impl_Write) (h : OkI_Write x) : laws_eqWrite x x = some true := by
 unfold laws_eqWrite
 simp only [beq_self_eq_true, Bool.not_true, cond_false, eq_ValueS x.fRow h, Option.bind_some]
theorem sz_WriteS : SzP laws_szWriteS (listW W_T_laws_Write) (okL Ok_Write) := sz_loop sz_Write (fun _ _ => rfl) (fun _ _ _ _ => rfl)
theorem to_WriteS (xs : List T_laws_Write) (h : (okL Ok_Write) xs) : laws_toWriteS_D xs = some (xs.map c_Write) := to_loop (S := laws_toWriteS_D) (L := laws_toWriteS_D_l0) to_Write (fun _ => rfl) (fun _ _ _ _ => rfl) xs h
theorem eq_WriteS (xs : List T_impl_Write) (h : (okL OkI_Write) xs) : laws_eqWriteS xs xs = some true := eq_loop (S := laws_eqWriteS) (L := laws_eqWriteS_l0) eq_Write (fun _ _ => rfl) (fun _ _ _ _ => rfl) xs h
def Ok_Txn (x : T_laws_Txn) : Prop := (okL (fun _ => True)) x.fReads ∧ (okL Ok_Write) x.fWrites
theorem sz_Txn : SzP laws_szTxn W_T_laws_Txn Ok_Txn := by
 intro x n hW h0 hn
 obtain ⟨w0, w1, w2, w3, w4⟩ := hW
 unfold laws_szTxn Ok_Txn
 obtain ⟨r0, e0, k0⟩ := sz_IntS x.fReads n w3 (by omega) (by omega)
 rw [e0, Option.bind_some]
 rcases k0 with k0 | ⟨p0, q0, o0⟩
 ·exact ⟨-1, by rw [decide_eq_true k0, cond_true], .inl (by omega)⟩
 rw [decide_eq_false (show ¬ r0 < 0 by omega), cond_false]
 obtain ⟨r1, e1, k1⟩ := sz_WriteS x.fWrites r0 w4 (by omega) (by omega)
 rw [e1, Option.bind_some]
 rcases k1 with k1 | ⟨p1, q1, o1⟩
 ·exact ⟨-1, by rw [decide_eq_true k1, cond_true], .inl (by omega)⟩
 rw [decide_eq_false (show ¬ r1 < 0 by omega), cond_false]
 exact ⟨r1, rfl, .inr ⟨by omega, by omega, o0, o1⟩⟩
def c_Txn (x : T_laws_Txn) : T_impl_Txn := ⟨x.fState, x.fBegin, x.fEnd, x.fReads, (x.fWrites.map c_Write)⟩
theorem to_Txn (x : T_laws_Txn) (h : Ok_Txn x) : laws_toTxn_D x = some (c_Txn x) := by
 unfold laws_toTxn_D
 rw [to_IntS x.fReads h.1, Option.bind_some, to_WriteS x.fWrites h.2, Option.bind_some]
 rfl
def OkI_Txn (x : T_impl_Txn) : Prop := (okL (fun _ => True)) x.fReads ∧ (okL OkI_Write) x.fWrites
theorem eq_Txn (x : T_impl_Txn) (h : OkI_Txn x) : laws_eqTxn x x = some true := by
 unfold laws_eqTxn
 simp only [beq_self_eq_true, Bool.not_true, cond_false, eq_IntS x.fReads h.1, eq_WriteS x.fWrites h.2, Option.bind_some]
theorem sz_TxnS : SzP laws_szTxnS (listW W_T_laws_Txn) (okL Ok_Txn) := sz_loop sz_Txn (fun _ _ => rfl) (fun _ _ _ _ => rfl)
theorem to_TxnS (xs : List T_laws_Txn) (h : (okL Ok_Txn) xs) : laws_toTxnS_D xs = some (xs.map c_Txn) := to_loop (S := laws_toTxnS_D) (L := laws_toTxnS_D_l0) to_Txn (fun _ => rfl) (fun _ _ _ _ => rfl) xs h
theorem eq_TxnS (xs : List T_impl_Txn) (h : (okL OkI_Txn) xs) : laws_eqTxnS xs xs = some true := eq_loop (S := laws_eqTxnS) (L := laws_eqTxnS_l0) eq_Txn (fun _ _ => rfl) (fun _ _ _ _ => rfl) xs h
def Ok_House (x : T_laws_House) : Prop := (okL Ok_Version) x.fList ∧ (okL Ok_Txn) x.fTxns
theorem sz_House : SzP laws_szHouse W_T_laws_House Ok_House := by
 intro x n hW h0 hn
 obtain ⟨w0, w1, w2⟩ := hW
 unfold laws_szHouse Ok_House
 obtain ⟨r0, e0, k0⟩ := sz_VersionS x.fList n w0 (by omega) (by omega)
 rw [e0, Option.bind_some]
 rcases k0 with k0 | ⟨p0, q0, o0⟩
 ·exact ⟨-1, by rw [decide_eq_true k0, cond_true], .inl (by omega)⟩
 rw [decide_eq_false (show ¬ r0 < 0 by omega), cond_false]
 obtain ⟨r1, e1, k1⟩ := sz_TxnS x.fTxns r0 w2 (by omega) (by omega)
 rw [e1, Option.bind_some]
 rcases k1 with k1 | ⟨p1, q1, o1⟩
 ·exact ⟨-1, by rw [decide_eq_true k1, cond_true], .inl (by omega)⟩
 rw [decide_eq_false (show ¬ r1 < 0 by omega), cond_false]
 exact ⟨r1, rfl, .inr ⟨by omega, by omega, o0, o1⟩⟩
def c_House (x : T_laws_House) : T_impl_House := ⟨(x.fList.map c_Version), x.fClock, (x.fTxns.map c_Txn)⟩
theorem to_House (x : T_laws_House) (h : Ok_House x) : laws_toHouse_D x = some (c_House x) := by
 unfold laws_toHouse_D
 rw [to_VersionS x.fList h.1, Option.bind_some, to_TxnS x.fTxns h.2, Option.bind_some]
 rfl
def OkI_House (x : T_impl_House) : Prop := (okL OkI_Version) x.fList ∧ (okL OkI_Txn) x.fTxns
theorem eq_House (x : T_impl_House) (h : OkI_House x) : laws_eqHouse x x = some true := by
 unfold laws_eqHouse
 simp only [beq_self_eq_true, Bool.not_true, cond_false, eq_VersionS x.fList h.1, eq_TxnS x.fTxns h.2, Option.bind_some]
end Go.D
set_option linter.unusedVariables false
namespace Go.D
theorem sm_value {v : T_laws_Value} (h : Ok_Value v) : SmV (c_Value v) := Nat.le_trans h (by omega)
theorem okL_map {α β : Type} {ok : α → Prop} {ok' : β → Prop} {f : α → β} (hf : ∀ x, ok x → ok' (f x)) {xs : List α} (h : okL ok xs) : okL ok' (xs.map f) :=
 ⟨by rw [List.length_map]; exact h.1, fun y hy => by
  obtain ⟨x, hx, rfl⟩ := List.mem_map.1 hy
  exact hf x (h.2 x hx)⟩
theorem okL_sm {α : Type} {ok : α → Prop} {xs : List α} (h : okL ok xs) : Sm xs.length := Nat.le_trans h.1 (by omega)
theorem sm_row {r : List T_laws_Value} (h : okL Ok_Value r) : SmR (r.map c_Value) := ⟨okL_sm (okL_map (ok' := fun _ => True) (fun _ _ => trivial) h), (okL_map (ok' := SmV) (fun _ => sm_value) h).2⟩
end Go.D
set_option linter.unusedVariables false
namespace Go.D
theorem sm_vers {xs : List T_laws_Version} (h : okL Ok_Version xs) : SmVers (xs.map c_Version) :=
 ⟨okL_sm (okL_map (ok' := fun _ => True) (fun _ _ => trivial) h), (okL_map (ok := Ok_Version) (ok' := fun v => SmR v.fRow) (f := c_Version) (fun y hy => sm_row hy) h).2⟩
theorem sm_wrs {xs : List T_laws_Write} (h : okL Ok_Write xs) : SmWrs (xs.map c_Write) :=
 ⟨okL_sm (okL_map (ok' := fun _ => True) (fun _ _ => trivial) h), (okL_map (ok := Ok_Write) (ok' := fun w => SmR w.fRow) (f := c_Write) (fun y hy => sm_row hy) h).2⟩
theorem sm_house {a : T_laws_House} (h : Ok_House a) : SmH (c_House a) :=
 ⟨sm_vers h.1, okL_sm (okL_map (ok' := fun _ => True) (fun _ _ => trivial) h.2), (okL_map (ok := Ok_Txn) (ok' := SmT) (f := c_Txn) (fun y hy => ⟨okL_sm hy.1, sm_wrs hy.2⟩) h.2).2⟩
theorem oki_house {a : T_laws_House} (h : Ok_House a) : OkI_House (c_House a) :=
 ⟨okL_map (f := c_Version) (ok' := OkI_Version) (fun y hy => okL_map (f := c_Value) (ok' := OkI_Value) (fun _ _ => trivial) hy) h.1,
  okL_map (f := c_Txn) (ok' := OkI_Txn) (fun y hy => ⟨hy.1, okL_map (f := c_Write) (ok' := OkI_Write) (fun y hy => okL_map (f := c_Value) (ok' := OkI_Value) (fun _ _ => trivial) hy) hy.2⟩) h.2⟩
theorem eta_house (v8 : T_impl_House) : ({ (({ v8 with fList := v8.fList }) : T_impl_House) with fTxns := v8.fTxns } : T_impl_House) = v8 := rfl
end Go.D
set_option linter.unusedVariables false
namespace Go.D
theorem getI_setM {α : Type} {xs : List α} {i : Nat} {v : α} (h : i < xs.length) : getI (xs.set i v) (i : Int) = some v := by
 rw [getI_nat, List.getElem?_set_self h]
abbrev TOP : Int := 4611686018427387904
theorem w_succ {k : Int} (h0 : 0 ≤ k) (h1 : k < TOP) : w64 (k + 1) = k + 1 := w64_of (by omega) (by unfold TOP at h1; omega)
theorem mark_loop {α : Type} {M : Nat → Int → Int → List α → Option (Int × List α)} {H : List α → Nat → Int → Int → Option Int} {P : α → Prop} (c : Int) (hc : 0 ≤ c)
  (hm : ∀ (f : Nat) (k : Int) (i : Nat) (xs : List α) (x : α), xs[i]? = some x → xs.length ≤ 2097152 → P x → 0 ≤ k → k + c ≤ TOP → ∃ k' x', M (f + 1) k (i : Int) xs = M f k' ((i + 1 : Nat) : Int) (xs.set i x') ∧ k ≤ k' ∧ k' ≤ k + c ∧
   ∀ (ys : List α) (g : Nat), ys[i]? = some x' → ys.length ≤ 2097152 → H ys (g + 1) k (i : Int) = H ys g k' ((i + 1 : Nat) : Int))
  (he : ∀ (f : Nat) (k : Int) (xs : List α), M (f + 1) k (xs.length : Int) xs = some (k, xs))
  (hh : ∀ (g : Nat) (k : Int) (ys : List α), H ys (g + 1) k (ys.length : Int) = some k) :
  ∀ (m i : Nat) (xs : List α) (k : Int) (f : Nat), xs.length = i + m → xs.length ≤ 2097152 → m < f → (∀ (j : Nat) x, i ≤ j → xs[j]? = some x → P x) → 0 ≤ k → k + m * c ≤ TOP →
   ∃ k' ys, M f k (i : Int) xs = some (k', ys) ∧ ys.length = xs.length ∧ (∀ j, j < i → ys[j]? = xs[j]?) ∧ k ≤ k' ∧ k' ≤ k + m * c ∧ ∀ g, m < g → H ys g k (i : Int) = some k'
 | 0, i, xs, k, f, hl, hn, hf, hP, h0, hK => by
  obtain ⟨f, rfl⟩ : ∃ f', f = f' + 1 := ⟨f - 1, by omega⟩
  have e : (i : Int) = (xs.length : Int) := by rw [hl]; simp
  refine ⟨k, xs, by rw [e]; exact he f k xs, rfl, fun _ _ => rfl, by omega, by simp, fun g hg => ?_⟩
  obtain ⟨g, rfl⟩ : ∃ g', g = g' + 1 := ⟨g - 1, by omega⟩
  rw [e]
  exact hh g k xs
 | m + 1, i, xs, k, f, hl, hn, hf, hP, h0, hK => by
  obtain ⟨f, rfl⟩ : ∃ f', f = f' + 1 := ⟨f - 1, by omega⟩
  have hi : i < xs.length := by omega
  have hx : xs[i]? = some xs[i] := List.getElem?_eq_getElem hi
  have hmc : ((m + 1 : Nat) : Int) * c = m * c + c := by rw [Int.natCast_add, Int.add_mul]; simp
  have hmc0 : 0 ≤ (m : Int) * c := Int.mul_nonneg (by omega) hc
  rw [hmc] at hK
  obtain ⟨k1, x1, e1, p1, q1, r1⟩ := hm f k i xs xs[i] hx hn (hP i _ (Nat.le_refl _) hx) h0 (by omega)
  obtain ⟨k2, ys, e2, l2, s2, p2, q2, r2⟩ := mark_loop c hc hm he hh m (i + 1) (xs.set i x1) k1 f (by rw [List.length_set]; omega) (by rw [List.length_set]; exact hn) (by omega)
   (fun j x hj hxj => hP j x (by omega) (by rwa [List.getElem?_set_ne (by omega)] at hxj)) (by omega) (by omega)
  rw [List.length_set] at l2
  refine ⟨k2, ys, e1.trans e2, l2, fun j hj => ?_, by omega, by rw [hmc]; omega, fun g hg => ?_⟩
  ·rw [s2 j (by omega), List.getElem?_set_ne (by omega)]
  ·obtain ⟨g, rfl⟩ : ∃ g', g = g' + 1 := ⟨g - 1, by omega⟩
   rw [r1 ys g (by rw [s2 i (by omega), List.getElem?_set_self hi]) (by omega)]
   exact r2 g (by omega)
def MkP {α : Type} (M : α → Int → Option (Int × α)) (H : α → Int → Option Int) (P : α → Prop) (c : Int) : Prop :=
 ∀ x k, P x → 0 ≤ k → k + c ≤ TOP → ∃ k' x', M x k = some (k', x') ∧ k ≤ k' ∧ k' ≤ k + c ∧ H x' k = some k'
theorem mark_all {α : Type} {S : List α → Int → Option (Int × List α)} {T : List α → Int → Option Int} {M : Nat → Int → Int → List α → Option (Int × List α)} {H : List α → Nat → Int → Int → Option Int} {P : α → Prop} (c : Int) (hc : 0 ≤ c)
  (hS : ∀ xs k, S xs k = M FUEL k 0 xs) (hT : ∀ xs k, T xs k = H xs FUEL k 0)
  (hm : ∀ (f : Nat) (k : Int) (i : Nat) (xs : List α) (x : α), xs[i]? = some x → xs.length ≤ 2097152 → P x → 0 ≤ k → k + c ≤ TOP → ∃ k' x', M (f + 1) k (i : Int) xs = M f k' ((i + 1 : Nat) : Int) (xs.set i x') ∧ k ≤ k' ∧ k' ≤ k + c ∧
   ∀ (ys : List α) (g : Nat), ys[i]? = some x' → ys.length ≤ 2097152 → H ys (g + 1) k (i : Int) = H ys g k' ((i + 1 : Nat) : Int))
  (he : ∀ (f : Nat) (k : Int) (xs : List α), M (f + 1) k (xs.length : Int) xs = some (k, xs))
  (hh : ∀ (g : Nat) (k : Int) (ys : List α), H ys (g + 1) k (ys.length : Int) = some k) : MkP S T (okL P) (1048576 * c) := by
 intro xs k hP h0 hK
 have hn : (xs.length : Int) * c ≤ 1048576 * c := Int.mul_le_mul_of_nonneg_right (by have := hP.1; omega) hc
 have hF : xs.length < FUEL := by have := hP.1; unfold FUEL; omega
 obtain ⟨k', ys, e, l, _, p, q, r⟩ := mark_loop c hc hm he hh xs.length 0 xs k FUEL (by simp) (by have := hP.1; omega) hF (fun j x _ hx => hP.2 x (List.mem_of_getElem? hx)) h0 (by omega)
 exact ⟨k', ys, by rw [hS]; exact e, p, by omega, by rw [hT]; exact r FUEL hF⟩
def MkT {α : Type} (M : α → Int → Option (Int × α)) (P : α → Prop) (c : Int) : Prop :=
 ∀ x k, P x → 0 ≤ k → k + c ≤ TOP → ∃ k' x', M x k = some (k', x') ∧ k ≤ k' ∧ k' ≤ k + c
theorem mark_loopT {α : Type} {M : Nat → Int → Int → List α → Option (Int × List α)} {P : α → Prop} (c : Int) (hc : 0 ≤ c)
  (hm : ∀ (f : Nat) (k : Int) (i : Nat) (xs : List α) (x : α), xs[i]? = some x → xs.length ≤ 2097152 → P x → 0 ≤ k → k + c ≤ TOP → ∃ k' x', M (f + 1) k (i : Int) xs = M f k' ((i + 1 : Nat) : Int) (xs.set i x') ∧ k ≤ k' ∧ k' ≤ k + c)
  (he : ∀ (f : Nat) (k : Int) (xs : List α), M (f + 1) k (xs.length : Int) xs = some (k, xs)) :
  ∀ (m i : Nat) (xs : List α) (k : Int) (f : Nat), xs.length = i + m → xs.length ≤ 2097152 → m < f → (∀ (j : Nat) x, i ≤ j → xs[j]? = some x → P x) → 0 ≤ k → k + m * c ≤ TOP →
   ∃ k' ys, M f k (i : Int) xs = some (k', ys) ∧ k ≤ k' ∧ k' ≤ k + m * c
 | 0, i, xs, k, f, hl, hn, hf, hP, h0, hK => by
  obtain ⟨f, rfl⟩ : ∃ f', f = f' + 1 := ⟨f - 1, by omega⟩
  have e : (i : Int) = (xs.length : Int) := by rw [hl]; simp
  exact ⟨k, xs, by rw [e]; exact he f k xs, by omega, by simp⟩
 | m + 1, i, xs, k, f, hl, hn, hf, hP, h0, hK => by
  obtain ⟨f, rfl⟩ : ∃ f', f = f' + 1 := ⟨f - 1, by omega⟩
  have hi : i < xs.length := by omega
  have hx : xs[i]? = some xs[i] := List.getElem?_eq_getElem hi
  have hmc : ((m + 1 : Nat) : Int) * c = m * c + c := by rw [Int.natCast_add, Int.add_mul]; simp
  have hmc0 : 0 ≤ (m : Int) * c := Int.mul_nonneg (by omega) hc
  rw [hmc] at hK
  obtain ⟨k1, x1, e1, p1, q1⟩ := hm f k i xs xs[i] hx hn (hP i _ (Nat.le_refl _) hx) h0 (by omega)
  obtain ⟨k2, ys, e2, p2, q2⟩ := mark_loopT c hc hm he m (i + 1) (xs.set i x1) k1 f (by rw [List.length_set]; omega) (by rw [List.length_set]; exact hn) (by omega)
   (fun j x hj hxj => hP j x (by omega) (by rwa [List.getElem?_set_ne (by omega)] at hxj)) (by omega) (by omega)
  exact ⟨k2, ys, e1.trans e2, by omega, by rw [hmc]; omega⟩
theorem mark_allT {α : Type} {S : List α → Int → Option (Int × List α)} {M : Nat → Int → Int → List α → Option (Int × List α)} {P : α → Prop} (c : Int) (hc : 0 ≤ c)
  (hS : ∀ xs k, S xs k = M FUEL k 0 xs)
  (hm : ∀ (f : Nat) (k : Int) (i : Nat) (xs : List α) (x : α), xs[i]? = some x → xs.length ≤ 2097152 → P x → 0 ≤ k → k + c ≤ TOP → ∃ k' x', M (f + 1) k (i : Int) xs = M f k' ((i + 1 : Nat) : Int) (xs.set i x') ∧ k ≤ k' ∧ k' ≤ k + c)
  (he : ∀ (f : Nat) (k : Int) (xs : List α), M (f + 1) k (xs.length : Int) xs = some (k, xs)) : MkT S (okL P) (1048576 * c) := by
 intro xs k hP h0 hK
 have hn : (xs.length : Int) * c ≤ 1048576 * c := Int.mul_le_mul_of_nonneg_right (by have := hP.1; omega) hc
 have hF : xs.length < FUEL := by have := hP.1; unfold FUEL; omega
 obtain ⟨k', ys, e, p, q⟩ := mark_loopT c hc hm he xs.length 0 xs k FUEL (by simp) (by have := hP.1; omega) hF (fun j x _ hx => hP.2 x (List.mem_of_getElem? hx)) h0 (by omega)
 exact ⟨k', ys, by rw [hS]; exact e, p, by omega⟩
theorem addS_of {a b : ByteArray} (h : a.size + b.size ≤ 4611686018427387904) : addS a b = some (a ++ b) := if_pos h
end Go.D
set_option linter.unusedVariables false
set_option linter.unusedSimpArgs false
namespace Go.D
theorem markText_l0 : ∀ (d f : Nat) (x : Int) (s : ByteArray), 0 ≤ x → x < 10 ^ d → d < f → s.size + d ≤ 1000 → x ≤ 4611686018427387904 → ∃ t, laws_markText_l0 f x s = some t := by
 intro d
 induction d with
 | zero =>
  intro f x s h0 h1 hf hs hx
  obtain ⟨f, rfl⟩ : ∃ f', f = f' + 1 := ⟨f - 1, by omega⟩
  have e : x = 0 := by simp at h1; omega
  subst e
  rw [laws_markText_l0, decide_eq_false (by omega), cond_false, addS_of (by have : (ByteArray.mk #[109]).size = 1 := rfl; omega)]
  exact ⟨_, rfl⟩
 | succ d ih =>
  intro f x s h0 h1 hf hs hx
  obtain ⟨f, rfl⟩ : ∃ f', f = f' + 1 := ⟨f - 1, by omega⟩
  rw [laws_markText_l0]
  by_cases hp : x > 0
  ·rw [decide_eq_true hp, cond_true, addS_of (by have : ∀ b : UInt8, (ByteArray.mk (List.toArray ([b] : List UInt8))).size = 1 := fun _ => rfl; rw [this]; omega), Option.bind_some]
   have e : x.tdiv 10 = x / 10 := Int.tdiv_eq_ediv_of_nonneg h0
   have h2 : x < 10 * 10 ^ d := by rw [Int.pow_succ] at h1; omega
   have h3 : w64 (x.tdiv 10) = x / 10 := by rw [e]; exact w64_of (by omega) (by omega)
   rw [h3]
   refine ih f (x / 10) _ (by omega) ?_ (by omega) ?_ (by omega)
   ·generalize (10 : Int) ^ d = q at *
    omega
   ·rw [ByteArray.size_append]
    have : ∀ b : UInt8, (ByteArray.mk (List.toArray ([b] : List UInt8))).size = 1 := fun _ => rfl
    rw [this]; omega
  ·rw [decide_eq_false hp, cond_false, addS_of (by have : (ByteArray.mk #[109]).size = 1 := rfl; omega)]
   exact ⟨_, rfl⟩
theorem mark_text {k : Int} (h0 : 0 ≤ k) (h1 : k ≤ TOP) : ∃ t, laws_markText k = some t := by
 unfold laws_markText
 by_cases h : k ≤ 0
 ·rw [decide_eq_true h, cond_true]
  exact ⟨_, rfl⟩
 ·rw [decide_eq_false h, cond_false]
  exact markText_l0 19 FUEL k _ h0 (by unfold TOP at h1; omega) (by unfold FUEL; omega) (by decide) h1
theorem mk_IntS : MkP laws_markIntS laws_heldIntS (okL (fun _ => True)) (1048576 * 1) :=
 mark_all (M := laws_markIntS_l0) (H := laws_heldIntS_l0) 1 (by omega) (fun _ _ => rfl) (fun _ _ => rfl) (by
  intro f k i xs x hx hn hP h0 hK
  have hi : i < xs.length := (List.getElem?_eq_some_iff.1 hx).1
  have hd : decide ((i : Int) < (xs.length : Int)) = true := decide_eq_true (by omega)
  have hs : w64 ((i : Int) + 1) = ((i + 1 : Nat) : Int) := succ_w hi (by omega)
  have hg0 : getI xs (i : Int) = some x := by rw [getI_nat]; exact hx
  have hg : ∀ v, getI (xs.set i v) (i : Int) = some v := fun v => getI_setM hi
  have w1 : w64 (k + 1) = k + 1 := w_succ (by omega) (by unfold TOP at *; omega)
  apply Exists.intro
  apply Exists.intro
  refine ⟨?_, ?_, ?_, fun ys g hy hl => ?_⟩
  ·rw [laws_markIntS_l0]
   simp only [hd, cond_true, hs, Int.toNat_natCast, hg0, hg, Option.bind_some, List.set_set, w1]
   rfl
  ·omega
  ·omega
  ·have hi2 : i < ys.length := (List.getElem?_eq_some_iff.1 hy).1
   have hd2 : decide ((i : Int) < (ys.length : Int)) = true := decide_eq_true (by omega)
   have hy2 := hy
   rw [← getI_nat] at hy2
   rw [laws_heldIntS_l0]
   simp only [hd2, cond_true, hs, hy2, Option.bind_some, beq_self_eq_true, Bool.not_true, cond_false, w1])
  (fun f k xs => by simp only [laws_markIntS_l0, Int.lt_irrefl, decide_false, cond_false])
  (fun g k ys => by simp only [laws_heldIntS_l0, Int.lt_irrefl, decide_false, cond_false])
theorem mk_ValueS : MkT laws_markValueS (okL (fun _ => True)) (1048576 * 3) :=
 mark_allT (M := laws_markValueS_l0) 3 (by omega) (fun _ _ => rfl) (by
  intro f k i xs x hx hn hP h0 hK
  have hi : i < xs.length := (List.getElem?_eq_some_iff.1 hx).1
  have hd : decide ((i : Int) < (xs.length : Int)) = true := decide_eq_true (by omega)
  have hs : w64 ((i : Int) + 1) = ((i + 1 : Nat) : Int) := succ_w hi (by omega)
  have hg0 : getI xs (i : Int) = some x := by rw [getI_nat]; exact hx
  have hg : ∀ v, getI (xs.set i v) (i : Int) = some v := fun v => getI_setM hi
  have w1 : w64 (k + 1) = k + 1 := w_succ (by omega) (by unfold TOP at *; omega)
  have w2 : w64 (k + 1 + 1) = k + 1 + 1 := w_succ (by omega) (by unfold TOP at *; omega)
  obtain ⟨t3, e3⟩ := mark_text (k := k + 1 + 1) (by omega) (by unfold TOP at *; omega)
  have w3 : w64 (k + 1 + 1 + 1) = k + 1 + 1 + 1 := w_succ (by omega) (by unfold TOP at *; omega)
  apply Exists.intro
  apply Exists.intro
  refine ⟨?_, ?_, ?_⟩
  ·rw [laws_markValueS_l0]
   simp only [hd, cond_true, hs, Int.toNat_natCast, hg0, hg, Option.bind_some, List.set_set, w1, w2, e3, w3]
   rfl
  ·omega
  ·omega)
  (fun f k xs => by simp only [laws_markValueS_l0, Int.lt_irrefl, decide_false, cond_false])
theorem mk_WriteS : MkT laws_markWriteS (okL OkI_Write) (1048576 * 3145730) :=
 mark_allT (M := laws_markWriteS_l0) 3145730 (by omega) (fun _ _ => rfl) (by
  intro f k i xs x hx hn hP h0 hK
  have hi : i < xs.length := (List.getElem?_eq_some_iff.1 hx).1
  have hd : decide ((i : Int) < (xs.length : Int)) = true := decide_eq_true (by omega)
  have hs : w64 ((i : Int) + 1) = ((i + 1 : Nat) : Int) := succ_w hi (by omega)
  have hg0 : getI xs (i : Int) = some x := by rw [getI_nat]; exact hx
  have hg : ∀ v, getI (xs.set i v) (i : Int) = some v := fun v => getI_setM hi
  have w1 : w64 (k + 1) = k + 1 := w_succ (by omega) (by unfold TOP at *; omega)
  obtain ⟨k2, y2, e2, p2, q2⟩ := mk_ValueS x.fRow (k + 1) hP (by omega) (by unfold TOP at *; omega)
  have n2 : decide (k2 < 0) = false := decide_eq_false (by omega)
  have w3 : w64 (k2 + 1) = k2 + 1 := w_succ (by omega) (by unfold TOP at *; omega)
  apply Exists.intro
  apply Exists.intro
  refine ⟨?_, ?_, ?_⟩
  ·rw [laws_markWriteS_l0]
   simp only [hd, cond_true, hs, Int.toNat_natCast, hg0, hg, Option.bind_some, List.set_set, w1, e2, w3]
   rfl
  ·omega
  ·omega)
  (fun f k xs => by simp only [laws_markWriteS_l0, Int.lt_irrefl, decide_false, cond_false])
theorem mk_VersionS : MkT laws_markVersionS (okL OkI_Version) (1048576 * 3145731) :=
 mark_allT (M := laws_markVersionS_l0) 3145731 (by omega) (fun _ _ => rfl) (by
  intro f k i xs x hx hn hP h0 hK
  have hi : i < xs.length := (List.getElem?_eq_some_iff.1 hx).1
  have hd : decide ((i : Int) < (xs.length : Int)) = true := decide_eq_true (by omega)
  have hs : w64 ((i : Int) + 1) = ((i + 1 : Nat) : Int) := succ_w hi (by omega)
  have hg0 : getI xs (i : Int) = some x := by rw [getI_nat]; exact hx
  have hg : ∀ v, getI (xs.set i v) (i : Int) = some v := fun v => getI_setM hi
  have w1 : w64 (k + 1) = k + 1 := w_succ (by omega) (by unfold TOP at *; omega)
  have w2 : w64 (k + 1 + 1) = k + 1 + 1 := w_succ (by omega) (by unfold TOP at *; omega)
  have w3 : w64 (k + 1 + 1 + 1) = k + 1 + 1 + 1 := w_succ (by omega) (by unfold TOP at *; omega)
  obtain ⟨k4, y4, e4, p4, q4⟩ := mk_ValueS x.fRow (k + 1 + 1 + 1) hP (by omega) (by unfold TOP at *; omega)
  have n4 : decide (k4 < 0) = false := decide_eq_false (by omega)
  apply Exists.intro
  apply Exists.intro
  refine ⟨?_, ?_, ?_⟩
  ·rw [laws_markVersionS_l0]
   simp only [hd, cond_true, hs, Int.toNat_natCast, hg0, hg, Option.bind_some, List.set_set, w1, w2, w3, e4]
   rfl
  ·omega
  ·omega)
  (fun f k xs => by simp only [laws_markVersionS_l0, Int.lt_irrefl, decide_false, cond_false])
theorem mk_TxnS : MkT laws_markTxnS (okL OkI_Txn) (1048576 * 3298538029059) :=
 mark_allT (M := laws_markTxnS_l0) 3298538029059 (by omega) (fun _ _ => rfl) (by
  intro f k i xs x hx hn hP h0 hK
  have hi : i < xs.length := (List.getElem?_eq_some_iff.1 hx).1
  have hd : decide ((i : Int) < (xs.length : Int)) = true := decide_eq_true (by omega)
  have hs : w64 ((i : Int) + 1) = ((i + 1 : Nat) : Int) := succ_w hi (by omega)
  have hg0 : getI xs (i : Int) = some x := by rw [getI_nat]; exact hx
  have hg : ∀ v, getI (xs.set i v) (i : Int) = some v := fun v => getI_setM hi
  have w1 : w64 (k + 1) = k + 1 := w_succ (by omega) (by unfold TOP at *; omega)
  have w2 : w64 (k + 1 + 1) = k + 1 + 1 := w_succ (by omega) (by unfold TOP at *; omega)
  have w3 : w64 (k + 1 + 1 + 1) = k + 1 + 1 + 1 := w_succ (by omega) (by unfold TOP at *; omega)
  obtain ⟨k4, y4, e4, p4, q4, h4⟩ := mk_IntS x.fReads (k + 1 + 1 + 1) hP.1 (by omega) (by unfold TOP at *; omega)
  have n4 : decide (k4 < 0) = false := decide_eq_false (by omega)
  obtain ⟨k5, y5, e5, p5, q5⟩ := mk_WriteS x.fWrites (k4) hP.2 (by omega) (by unfold TOP at *; omega)
  have n5 : decide (k5 < 0) = false := decide_eq_false (by omega)
  apply Exists.intro
  apply Exists.intro
  refine ⟨?_, ?_, ?_⟩
  ·rw [laws_markTxnS_l0]
   simp only [hd, cond_true, hs, Int.toNat_natCast, hg0, hg, Option.bind_some, List.set_set, w1, w2, w3, e4, e5]
   rfl
  ·omega
  ·omega)
  (fun f k xs => by simp only [laws_markTxnS_l0, Int.lt_irrefl, decide_false, cond_false])
theorem mk_House (x : T_impl_House) (k : Int) (hP : OkI_House x) (h0 : 0 ≤ k) (hK : k + 3458771110896599040 ≤ TOP) : ∃ k', laws_markHouse x k = some k' ∧ k ≤ k' ∧ k' ≤ k + 3458771110896599040 := by
  obtain ⟨k1, y1, e1, p1, q1⟩ := mk_VersionS x.fList (k) hP.1 (by omega) (by unfold TOP at *; omega)
  have n1 : decide (k1 < 0) = false := decide_eq_false (by omega)
  obtain ⟨k2, y2, e2, p2, q2⟩ := mk_TxnS x.fTxns (k1) hP.2 (by omega) (by unfold TOP at *; omega)
  have n2 : decide (k2 < 0) = false := decide_eq_false (by omega)
  apply Exists.intro
  refine ⟨?_, ?_, ?_⟩
  ·unfold laws_markHouse
   simp only [Option.bind_some, e1, e2]
   rfl
  all_goals omega
end Go.D
set_option linter.unusedVariables false
namespace Go.D
theorem law_exDanger {a0 : T_laws_House} (w0 : W_T_laws_House a0) : laws_FnExactDangerOf a0 = some true := by
 unfold laws_FnExactDangerOf
 obtain ⟨r0, e0, k0⟩ := sz_House a0 1048576 w0 (by omega) (by omega)
 rw [e0, Option.bind_some]
 rcases k0 with k0 | ⟨p0, q0, o0⟩
 ·rw [decide_eq_true k0, cond_true]
 rw [decide_eq_false (show ¬ r0 < 0 by omega), cond_false]
 have m0 := oki_house o0
 have hs := sm_house o0
 obtain ⟨v, hv, hvl⟩ := danger_some (c_House a0)
 have ov : okL (fun _ : Int => True) v := ⟨by omega, fun _ _ => trivial⟩
 obtain ⟨k5, g5, p5, q5⟩ := mk_House (c_House a0) 1 m0 (by omega) (by unfold TOP; omega)
 obtain ⟨k10, y10, g10, p10, q10, h10⟩ := mk_IntS _ 1 ov (by omega) (by unfold TOP; omega)
 have n6 : decide (k5 < 0) = false := decide_eq_false (by omega)
 have n10 : decide (k10 < 0) = false := decide_eq_false (by omega)
 simp only [to_House a0 o0, Option.bind_some, spec_dangerV hs, eta_house, impl_dangerV hs, hv, beq_self_eq_true, Bool.not_true, cond_false,
  eq_House _ m0, eq_IntS _ ov, g5, n6, laws_FnExactDangerOf_j0, g10, h10, n10]
end Go.D
set_option linter.unusedVariables false
namespace Go.D
open Go.ChangeShapes Go.RowKit
theorem trodAll_carry {H : Type} {enc : TypeId × Value → H} {P : Program} {w w' : World} {base : Nat} {sp : Nat → Bool} {held : Bool} : ∀ {ts : List TypeId} {vs : List Value} {ds : List (DataW H)} {ps : List MemPlace},
  DataW.TrodAll enc P w base sp held ts vs ds ps → (∀ p ∈ ps, w.sameAt w' p) → DataW.TrodAll enc P w' base sp held ts vs ds ps
 | [], [], [], _, h, _ => h
 | _ :: _, _ :: _, _ :: _, _, ⟨p, q, ⟨n, hn⟩, h2, e⟩, hs =>
  ⟨p, q, ⟨n, DataW.trod_carry n _ _ _ hn fun x hx => hs x (by rw [e]; exact List.mem_append_left _ hx)⟩, trodAll_carry h2 fun x hx => hs x (by rw [e]; exact List.mem_append_right _ hx), e⟩
theorem Kept.sameAt {w w' : World} (h : Grew w w') {p : MemPlace} (hp : p.block < w.heap.size) : w.sameAt w' p := by
 have hb := h.block p.block hp (fun h => h)
 cases p with
 | cell b off =>
  show w'.cell? ⟨b, off, none⟩ = w.cell? ⟨b, off, none⟩
  unfold World.cell?
  have hb : w'.heap[b]? = w.heap[b]? := hb
  simp only [hb]
 | map b => exact hb
theorem Kept.keptBut {w w' : World} (h : Grew w w') (may : MemPlace → Prop) : w.keptBut w' may := by
 refine ⟨h.os, h.output, fun i hi => ?_⟩
 rw [h.block i hi (fun h => h)]
 cases w.heap[i]? with
 | none => trivial
 | some o => cases o <;> simp
theorem contract_of {P : Program} {fid : FuncId} {fn : Func} {s : ChangeSpec} {tb : TypeId} {H : Type} {enc : TypeId × Value → H}
  (hK : Kids P (· < P.types.size)) (hfull : ∀ t e, t < P.types.size → P.underlying t = some (.slice e) → 0 < P.cellsOf e)
  (hp : ∀ t ∈ fn.params.toList, t < P.types.size) (hv : s.vars = []) (hr : fn.resultTypes = #[tb]) (hb : P.underlying tb = some .bool)
  {n : Nat} (hn : fn.params.toList.length = n) (hs : ∀ ds : List (DataW H), ds.length = n → s.fn H ds = { results := [.lit (.bool true)], args := ds })
  {W : World} {args : Array Value} {ds gs : List (DataW H)} {before : List MemPlace}
  (hlaw : ∀ p, DataW.TrodAll enc P W 0 (fun _ => true) true fn.params.toList args.toList ds p → ∃ ins, FrL W (fun _ => False) ins args.toList ∧ OK P fid ins (B true))
  (hW : DataW.Whole enc P fn.params.toList s.vars false W args.toList ds gs before) :
  Calls P fid args W fun e W' => ∃ v, e = .returned v ∧ s.post enc P fn false true false false W args v W' := by
 have hlt := hW.lt
 have hW' := hW
 obtain ⟨p, q, hA, hV, rfl, hfz, hnd⟩ := hW
 rw [hv] at hV
 obtain ⟨rfl, rfl⟩ := trodVars_none hV
 obtain ⟨ins, h1, h2⟩ := hlaw p hA
 have hlen : ∀ {ts : List TypeId} {vs : List Value} {ds : List (DataW H)} {ps : List MemPlace}, DataW.TrodAll enc P W 0 (fun _ => true) true ts vs ds ps → ds.length = ts.length := by
  intro ts
  induction ts with
  | nil => intro vs ds ps h; obtain ⟨_, rfl, _⟩ := trodAll_nil h; rfl
  | cons t ts ih =>
   intro vs ds ps h
   obtain ⟨_, _, _, _, _, _, rfl, rfl, rfl, _, h⟩ := trodAll_cons h
   simp [ih h]
 have hds : ds.length = n := (hlen hA).trans hn
 have hc := h2.2 W args.toList (fun _ => False) (fun b h => h.elim) h1
 have ha : args.toList.toArray = args := by simp
 rw [ha] at hc
 refine hc.mono fun e W' ⟨v, fp, he, hg, ho, _⟩ => ⟨v, he, ?_⟩
 simp only [B, Ow] at ho
 obtain ⟨rfl, rfl⟩ := ho
 have hsame : ∀ x ∈ p, W.sameAt W' x := fun x hx => Kept.sameAt hg (hlt x (by simpa using hx))
 refine ⟨ds, [], p ++ [], [], p, [], hW', ?_, ?_, ?_, Kept.keptBut hg _, fun h => by cases h⟩
 ·rw [List.append_nil, hs ds hds, hr]
  exact trodAll_mk1 (shut_bool hb true)
 ·rw [List.append_nil, hs ds hds]
  exact trodAll_carry (DataW.TrodAll.respare hK hfull hp hA fun x hx => by
   have := hlt x (by simpa using hx)
   simpa using this) hsame
 ·rw [hv, List.append_nil, hs ds hds]
  rfl
end Go.D
