import Derived.Test.YtmcciakfjapjeaaExDXF
import Derived.Test.YtmcciakfjapjeaaExDXF
import Derived.Test.YtmcciakfjapjeaaExDShow
import Derived.ChangeArms
import Derived.ChangeShapes
import Derived.Deep.Slices
import Derived.Test.YtmcciakfjapjeaaExDOwn3
import Derived.Test.YtmcciakfjapjeaaExDNil
import Derived.Test.YtmcciakfjapjeaaExDMin
import Derived.Test.YtmcciakfjapjeaaExDPrim
import Derived.Test.YtmcciakfjapjeaaExDXT
import Derived.OpenShut
import Derived.ReadAgain
import Derived.ProofKit
set_option linter.unusedVariables false
namespace Go.D
end Go.D
set_option linter.unusedVariables false
namespace Go.D
def Rd (P : Program) (t : TypeId) (α : Type) [Enc α] (W : α → Prop) : Prop :=
 P.cellsOf t = Enc.sz α ∧ ∀ (H : Type) (enc : TypeId × Value → H) (w : World) (base : Nat) (sp : Nat → Bool) (held : Bool) (fuel : Nat) (cs : List Value) (x : DataW H × List MemPlace), DataW.trod enc P w base sp held fuel t cs = some x →
  ∃ y : α, FrL w (fun _ => False) (Enc.cells y) cs ∧ W y
def intW (n : Int) : Prop := -9223372036854775808 ≤ n ∧ n ≤ 9223372036854775807
def boolW (_ : Bool) : Prop := True
def strW (s : ByteArray) : Prop := s.size ≤ 9223372036854775807
def listW {α : Type} (W : α → Prop) (l : List α) : Prop := l.length ≤ 9223372036854775807 ∧ ∀ x ∈ l, W x
section
variable {P : Program}
theorem rd_int {t : TypeId} (ht : P.underlying t = some (.int .i64)) (hc : P.cellsOf t = 1) : Rd P t Int intW := ⟨hc, fun H enc w base sp held fuel cs x h => by
 obtain ⟨n, rfl, _, hw⟩ := DataW.trod_int ht h
 refine ⟨n, ?_, by simpa [Lit.wf, IntKind.min, IntKind.max, IntKind.signed, IntKind.bits, intW] using hw⟩
 show FrL w _ [I n] _
 simp only [FrL]
 exact ⟨_, _, rfl, by simp only [Fr], rfl⟩⟩
theorem rd_bool {t : TypeId} (ht : P.underlying t = some .bool) (hc : P.cellsOf t = 1) : Rd P t Bool boolW := ⟨hc, fun H enc w base sp held fuel cs x h => by
 obtain ⟨b, rfl, _⟩ := DataW.trod_bool ht h
 refine ⟨b, ?_, trivial⟩
 show FrL w _ [B b] _
 simp only [FrL]
 exact ⟨_, _, rfl, by simp only [Fr], rfl⟩⟩
theorem rd_str {t : TypeId} (ht : P.underlying t = some .string) (hc : P.cellsOf t = 1) : Rd P t ByteArray strW := ⟨hc, fun H enc w base sp held fuel cs x h => by
 obtain ⟨s, rfl, _, hs⟩ := DataW.trod_string ht h
 refine ⟨s, ?_, by simpa [strW, maxLen] using hs⟩
 show FrL w _ [S s] _
 simp only [FrL]
 exact ⟨_, _, rfl, by simp only [Fr], rfl⟩⟩
theorem eL_flat {α : Type} [Enc α] {w : World} {M : Nat → Prop} : ∀ {ys : List α} {uss : List (List Value)}, ys.length = uss.length → (∀ (i : Nat) (y : α) (us : List Value), ys[i]? = some y → uss[i]? = some us → FrL w M (Enc.cells y) us) → FrL w M (eL ys) uss.flatten
 | [], [], _, _ => by simp [eL, FrL]
 | [], _ :: _, h, _ => by simp at h
 | _ :: _, [], h, _ => by simp at h
 | y :: ys, us :: uss, h, k => by
  simp only [eL, List.flatten_cons]
  exact FrL.append (k 0 y us rfl rfl) (eL_flat (by simpa using h) fun i y' us' h1 h2 => k (i + 1) y' us' (by simpa using h1) (by simpa using h2))
theorem flat_get {sz : Nat} (hsz : 0 < sz) : ∀ {uss : List (List Value)}, (∀ us ∈ uss, us.length = sz) → ∀ {j : Nat} {v : Value}, uss.flatten[j]? = some v → ∃ us, uss[j / sz]? = some us ∧ us[j % sz]? = some v
 | [], _, j, v, h => by simp at h
 | us :: uss, hl, j, v, h => by
  have h0 : us.length = sz := hl us (by simp)
  simp only [List.flatten_cons] at h
  rcases Nat.lt_or_ge j sz with hj | hj
  ·rw [List.getElem?_append_left (by omega)] at h
   refine ⟨us, by rw [Nat.div_eq_of_lt hj]; rfl, by rw [Nat.mod_eq_of_lt hj]; exact h⟩
  ·rw [List.getElem?_append_right (by omega), h0] at h
   obtain ⟨us', h1, h2⟩ := flat_get hsz (fun us' hu => hl us' (by simp [hu])) h
   refine ⟨us', ?_, ?_⟩
   ·have : j / sz = (j - sz) / sz + 1 := by rw [Nat.div_eq_sub_div hsz hj]
    rw [this]
    simpa using h1
   ·rw [Nat.mod_eq_sub_mod hj]; exact h2
theorem rd_slice {t e : TypeId} {α : Type} [Enc α] {W : α → Prop} (ht : P.underlying t = some (.slice e)) (hc : P.cellsOf t = 1) (he : Rd P e α W) : Rd P t (List α) (listW W) := ⟨hc, fun H enc w base sp held fuel cs x h => by
 obtain ⟨hce, he⟩ := he
 have hpos : 0 < Enc.sz α := Enc.pos
 have fin : ∀ (ys : List α) (v : Value), Fr w (fun _ => False) (A ys) v → listW W ys → ∃ y : List α, FrL w (fun _ => False) (Enc.cells y) [v] ∧ listW W y := fun ys v h1 h2 => ⟨ys, by
  show FrL w _ [A ys] _
  simp only [FrL]
  exact ⟨_, _, rfl, h1, rfl⟩, h2⟩
 rcases Go.Deep.open_slice ht h with ⟨rfl, _⟩ | ⟨a, len, cap, m, n, D, Pl, rfl, hb, hl, hm, hmm, _, hx⟩
 ·exact fin [] _ (Fr.nil w _ _ hpos) ⟨by simp, by simp⟩
 ·have hcapm : cap ≤ maxI := by simpa [maxLen, maxI] using hm
  by_cases h0 : len = 0
  ·subst h0
   refine fin [] _ ?_ ⟨by simp, by simp⟩
   simp only [Fr]
   exact ⟨some a, cap, rfl, ⟨hpos, by simp [eL], by simp, hcapm, fun h => by cases h⟩, .inl rfl⟩
  ·have hlm : len ≤ m := by rw [hmm]; split <;> omega
   have hel : ∀ i, i < len → ∃ p : List Value × α, w.cells? base (a.add (i * P.cellsOf e)) (P.cellsOf e) = some p.1 ∧ FrL w (fun _ => False) (Enc.cells p.2) p.1 ∧ W p.2 := by
    intro i hi
    obtain ⟨cs', h1, h2⟩ := hx i (by omega)
    obtain ⟨y, h3, h4⟩ := he H enc w base sp held n cs' _ h2
    exact ⟨(cs', y), h1, h3, h4⟩
   obtain ⟨p0, hp0⟩ := hel 0 (by omega)
   haveI : Inhabited (List Value × α) := ⟨p0⟩
   obtain ⟨F, hF⟩ := Go.Deep.choose_lt (α := List Value × α) (p := fun i p => w.cells? base (a.add (i * P.cellsOf e)) (P.cellsOf e) = some p.1 ∧ FrL w (fun _ => False) (Enc.cells p.2) p.1 ∧ W p.2) hel
   let ys : List α := (List.range len).map fun i => (F i).2
   let uss : List (List Value) := (List.range len).map fun i => (F i).1
   have hul : ∀ us ∈ uss, us.length = Enc.sz α := by
    intro us hu
    obtain ⟨i, hi, rfl⟩ := List.mem_map.1 hu
    have := (World.cells?_some (hF i (List.mem_range.1 hi)).1).2.1
    rw [this, hce]
   have hys : ys.length = len := by simp [ys]
   have hfl : FrL w (fun _ => False) (eL ys) uss.flatten := eL_flat (by simp [ys, uss]) fun i y us h1 h2 => by
    simp only [ys, uss, List.getElem?_map] at h1 h2
    have hi : i < len := by
     cases hr : (List.range len)[i]? with
     | none => rw [hr] at h1; cases h1
     | some k => have := (List.getElem?_eq_some_iff.1 hr).1; simpa using this
    rw [List.getElem?_range hi] at h1 h2
    simp only [Option.map_some, Option.some.injEq] at h1 h2
    rw [← h1, ← h2]
    exact (hF i hi).2.1
   have hul0 : ((F 0).1).length = Enc.sz α := hul _ (List.mem_map.2 ⟨0, by simp; omega, rfl⟩)
   have h00 : ∃ v, w.cell? a = some v := by
    have h1 := (World.cells?_some (hF 0 (by omega)).1).2.2 0 (by rw [hce]; exact hpos)
    rw [List.getElem?_eq_getElem (by omega)] at h1
    refine ⟨_, Eq.trans ?_ h1⟩
    simp [Addr.add]
   obtain ⟨v00, hv00⟩ := h00
   have hspot : a.spot = none := World.cell?_spot hv00
   obtain ⟨ab, ao, as_⟩ := a
   simp only at hspot
   subst hspot
   have hcell : ∀ i j, i < len → j < Enc.sz α → w.cell? ⟨ab, ao + (i * Enc.sz α + j), none⟩ = ((F i).1)[j]? := by
    intro i j hi hj
    have := (World.cells?_some (hF i hi).1).2.2 j (by rw [hce]; exact hj)
    rw [hce] at this
    rw [← this]
    congr 1
    unfold Addr.add
    split <;> split <;> simp_all <;> omega
   refine fin ys _ ?_ ⟨by rw [hys]; simp only [maxI] at hcapm; omega, fun y hy => by
    obtain ⟨i, hi, rfl⟩ := List.mem_map.1 hy
    exact (hF i (List.mem_range.1 hi)).2.2⟩
   simp only [Fr]
   refine ⟨some ⟨ab, ao, none⟩, cap, by rw [hys], ⟨hpos, by rw [eL_len], by rw [hys]; exact hl, hcapm, fun h => by cases h⟩, .inr ⟨ab, ao, uss.flatten, rfl, World.block_lt_of_cell? _ _ hv00, fun h => h, hfl, fun j hj => ?_⟩⟩
   obtain ⟨us, h1, h2⟩ := flat_get hpos hul (List.getElem?_eq_getElem hj)
   have hi : j / Enc.sz α < len := by
    have := (List.getElem?_eq_some_iff.1 h1).1
    simpa [uss] using this
   simp only [uss, List.getElem?_map, List.getElem?_range hi, Option.map_some, Option.some.injEq] at h1
   have := hcell (j / Enc.sz α) (j % Enc.sz α) hi (Nat.mod_lt _ hpos)
   rw [h1, h2] at this
   have e1 : j / Enc.sz α * Enc.sz α + j % Enc.sz α = j := by rw [Nat.mul_comm]; exact Nat.div_add_mod j _
   rw [e1] at this
   rw [List.getElem?_eq_getElem hj, ← this]⟩
end
end Go.D
set_option linter.unusedVariables false
namespace Go.D
theorem w64_of {n : Int} (h1 : -9223372036854775808 ≤ n) (h2 : n ≤ 9223372036854775807) : w64 n = n := by
 have hm : IntKind.i64.min = -9223372036854775808 := by decide
 have hM : IntKind.i64.max = 9223372036854775807 := by decide
 simp [w64, IntKind.wrap, IntKind.signed, IntKind.bits]
 omega
theorem getI_nat {α : Type} {xs : List α} {i : Nat} : getI xs (i : Int) = xs[i]? := by
 unfold getI
 rw [if_pos (by omega), Int.toNat_natCast]
theorem getI_lt {α : Type} {xs : List α} {i : Int} (h0 : 0 ≤ i) (h1 : i < xs.length) : ∃ x, getI xs i = some x ∧ xs[i.toNat]? = some x := by
 unfold getI
 rw [if_pos h0]
 have : i.toNat < xs.length := by omega
 exact ⟨xs[i.toNat], by rw [List.getElem?_eq_getElem this], by rw [List.getElem?_eq_getElem this]⟩
theorem app_lt {α : Type} {xs ys : List α} (h : xs.length + ys.length < 68719476736) : app xs ys = some (xs ++ ys) := if_pos h
theorem succ_w {i n : Nat} (h : i < n) (hn : n ≤ 70368744177663) : w64 ((i : Int) + 1) = ((i + 1 : Nat) : Int) := by
 rw [w64_of (by omega) (by omega)]
 omega
theorem loop_all {α : Type} {xs : List α} {L : Nat → Int → Option Bool} {p : α → Bool} {fin : Bool} (hlen : xs.length ≤ 70368744177662)
  (h : ∀ (f i : Nat) (v : α), i < xs.length → xs[i]? = some v → w64 ((i : Int) + 1) = ((i + 1 : Nat) : Int) → L (f + 1) i = bif p v then L f ((i + 1 : Nat) : Int) else some false)
  (he : ∀ f, L (f + 1) (xs.length : Int) = some fin) : L FUEL 0 = some (xs.all p && fin) := by
 have main : ∀ (k f i : Nat), i + k = xs.length → k < f → L f (i : Int) = some ((xs.drop i).all p && fin) := by
  intro k
  induction k with
  | zero =>
   intro f i hi hf
   obtain ⟨f, rfl⟩ : ∃ f', f = f' + 1 := ⟨f - 1, by omega⟩
   have : i = xs.length := by omega
   subst this
   rw [he, List.drop_length]
   simp
  | succ k ih =>
   intro f i hi hf
   obtain ⟨f, rfl⟩ : ∃ f', f = f' + 1 := ⟨f - 1, by omega⟩
   have hlt : i < xs.length := by omega
   rw [h f i xs[i] hlt (List.getElem?_eq_getElem hlt) (succ_w hlt (by omega)), ih f (i + 1) (by omega) (by omega), List.drop_eq_getElem_cons hlt, List.all_cons]
   cases p xs[i] <;> simp
 have := main xs.length FUEL 0 (by omega) (by unfold FUEL; omega)
 simpa using this
theorem loop_find {α : Type} {xs : List α} {L : Nat → Int → Option Int} {p : α → Bool} (hlen : xs.length ≤ 70368744177662)
  (h : ∀ (f i : Nat) (v : α), i < xs.length → xs[i]? = some v → w64 ((i : Int) + 1) = ((i + 1 : Nat) : Int) → L (f + 1) i = bif p v then some (i : Int) else L f ((i + 1 : Nat) : Int))
  (he : ∀ f, L (f + 1) (xs.length : Int) = some (-1)) : ∃ r, L FUEL 0 = some r ∧ decide (r ≥ 0) = xs.any p := by
 have main : ∀ (k f i : Nat), i + k = xs.length → k < f → ∃ r, L f (i : Int) = some r ∧ decide (r ≥ 0) = (xs.drop i).any p := by
  intro k
  induction k with
  | zero =>
   intro f i hi hf
   obtain ⟨f, rfl⟩ : ∃ f', f = f' + 1 := ⟨f - 1, by omega⟩
   have : i = xs.length := by omega
   subst this
   rw [he, List.drop_length]
   exact ⟨_, rfl, by simp⟩
  | succ k ih =>
   intro f i hi hf
   obtain ⟨f, rfl⟩ : ∃ f', f = f' + 1 := ⟨f - 1, by omega⟩
   have hlt : i < xs.length := by omega
   rw [h f i xs[i] hlt (List.getElem?_eq_getElem hlt) (succ_w hlt (by omega)), List.drop_eq_getElem_cons hlt, List.any_cons]
   cases hp : p xs[i] with
   | true => exact ⟨_, rfl, by simp⟩
   | false =>
    obtain ⟨r, h1, h2⟩ := ih f (i + 1) (by omega) (by omega)
    exact ⟨r, h1, by simp [h2]⟩
 have := main xs.length FUEL 0 (by omega) (by unfold FUEL; omega)
 simpa using this
theorem loop_rec {α σ β : Type} {xs : List α} {L : Nat → Int → σ → Option β} (R : List α → σ → β) (Inv : Nat → σ → Prop) (hlen : xs.length ≤ 70368744177662)
  (h : ∀ (f i : Nat) (s : σ) (v : α) (rest : List α), i < xs.length → xs[i]? = some v → w64 ((i : Int) + 1) = ((i + 1 : Nat) : Int) → Inv i s →
   L (f + 1) i s = some (R (v :: rest) s) ∨ ∃ s', Inv (i + 1) s' ∧ L (f + 1) i s = L f ((i + 1 : Nat) : Int) s' ∧ R (v :: rest) s = R rest s')
  (he : ∀ f s, Inv xs.length s → L (f + 1) (xs.length : Int) s = some (R [] s)) {s : σ} (h0 : Inv 0 s) : L FUEL 0 s = some (R xs s) := by
 have main : ∀ (k f i : Nat) (s : σ), i + k = xs.length → k < f → Inv i s → L f (i : Int) s = some (R (xs.drop i) s) := by
  intro k
  induction k with
  | zero =>
   intro f i s hi hf hI
   obtain ⟨f, rfl⟩ : ∃ f', f = f' + 1 := ⟨f - 1, by omega⟩
   have : i = xs.length := by omega
   subst this
   rw [he _ _ hI, List.drop_length]
  | succ k ih =>
   intro f i s hi hf hI
   obtain ⟨f, rfl⟩ : ∃ f', f = f' + 1 := ⟨f - 1, by omega⟩
   have hlt : i < xs.length := by omega
   rw [List.drop_eq_getElem_cons hlt]
   rcases h f i s xs[i] (xs.drop (i + 1)) hlt (List.getElem?_eq_getElem hlt) (succ_w hlt (by omega)) hI with h1 | ⟨s', h1, h2, h3⟩
   ·exact h1
   ·rw [h2, h3]
    exact ih f (i + 1) s' (by omega) (by omega) h1
 have := main xs.length FUEL 0 s (by omega) (by unfold FUEL; omega) h0
 simpa using this
theorem loop_q {α σ β : Type} {xs : List α} {L : Nat → Int → σ → Option β} (Q : List α → σ → β → Prop) (Inv : Nat → σ → Prop) (hlen : xs.length ≤ 70368744177662)
  (h : ∀ (f i : Nat) (s : σ) (v : α) (rest : List α), i + (rest.length + 1) = xs.length → i < xs.length → xs[i]? = some v → w64 ((i : Int) + 1) = ((i + 1 : Nat) : Int) → Inv i s →
   (∃ y, L (f + 1) i s = some y ∧ Q (v :: rest) s y) ∨ ∃ s', Inv (i + 1) s' ∧ L (f + 1) i s = L f ((i + 1 : Nat) : Int) s' ∧ ∀ y, Q rest s' y → Q (v :: rest) s y)
  (he : ∀ f s, Inv xs.length s → ∃ y, L (f + 1) (xs.length : Int) s = some y ∧ Q [] s y) {s : σ} (h0 : Inv 0 s) : ∃ y, L FUEL 0 s = some y ∧ Q xs s y := by
 have main : ∀ (k f i : Nat) (s : σ), i + k = xs.length → k < f → Inv i s → ∃ y, L f (i : Int) s = some y ∧ Q (xs.drop i) s y := by
  intro k
  induction k with
  | zero =>
   intro f i s hi hf hI
   obtain ⟨f, rfl⟩ : ∃ f', f = f' + 1 := ⟨f - 1, by omega⟩
   have : i = xs.length := by omega
   subst this
   rw [List.drop_length]
   exact he _ _ hI
  | succ k ih =>
   intro f i s hi hf hI
   obtain ⟨f, rfl⟩ : ∃ f', f = f' + 1 := ⟨f - 1, by omega⟩
   have hlt : i < xs.length := by omega
   rw [List.drop_eq_getElem_cons hlt]
   rcases h f i s xs[i] (xs.drop (i + 1)) (by rw [List.length_drop]; omega) hlt (List.getElem?_eq_getElem hlt) (succ_w hlt (by omega)) hI with h1 | ⟨s', h1, h2, h3⟩
   ·exact h1
   ·obtain ⟨y, h4, h5⟩ := ih f (i + 1) s' (by omega) (by omega) h1
    exact ⟨y, h2.trans h4, h3 y h5⟩
 have := main xs.length FUEL 0 s (by omega) (by unfold FUEL; omega) h0
 simpa using this
def okL {α : Type} (ok : α → Prop) (xs : List α) : Prop := xs.length ≤ 1048576 ∧ ∀ x ∈ xs, ok x
def SzP {α : Type} (z : α → Int → Option Int) (W ok : α → Prop) : Prop := ∀ x n, W x → 0 ≤ n → n ≤ 1048576 → ∃ r, z x n = some r ∧ (r < 0 ∨ (0 ≤ r ∧ r ≤ n ∧ ok x))
theorem sz_cut {k : Nat} {n : Int} (hk : k ≤ 9223372036854775807) (h0 : 0 ≤ n) (hn : n ≤ 1048576) : w64 (n - (k : Int)) = n - k := w64_of (by omega) (by omega)
theorem sz_one {α : Type} {z : α → Int → Option Int} {W : α → Prop} (k : α → Nat) (hk : ∀ x, W x → k x ≤ 9223372036854775807)
  (hz : ∀ x n, z x n = bif (decide (w64 (n - ((k x : Nat) : Int)) < 0)) then some (-1) else some (w64 (n - ((k x : Nat) : Int)))) : SzP z W (fun x => k x ≤ 1048576) := by
 intro x n hW h0 hn
 rw [hz, sz_cut (hk x hW) h0 hn]
 by_cases h : n - (k x : Int) < 0
 ·exact ⟨-1, by rw [decide_eq_true h, cond_true], .inl (by omega)⟩
 ·exact ⟨n - k x, by rw [decide_eq_false h, cond_false], .inr ⟨by omega, by omega, by simp only; omega⟩⟩
theorem sz_flat {α : Type} {S : List α → Int → Option Int} {W ok : α → Prop} (hok : ∀ x, ok x) (hb : ∀ xs, listW W xs → xs.length ≤ 9223372036854775807)
  (hz : ∀ x n, S x n = bif (decide (w64 (n - ((x.length : Nat) : Int)) < 0)) then some (-1) else some (w64 (n - ((x.length : Nat) : Int)))) : SzP S (listW W) (okL ok) := by
 intro x n hW h0 hn
 obtain ⟨r, h1, h2⟩ := sz_one (z := S) (W := listW W) (fun x => x.length) hb hz x n hW h0 hn
 exact ⟨r, h1, h2.imp id fun h => ⟨h.1, h.2.1, h.2.2, fun x _ => hok x⟩⟩
theorem sz_loop {α : Type} {z : α → Int → Option Int} {S : List α → Int → Option Int} {L : List α → Nat → Int → Int → Option Int} {W ok : α → Prop} (hz : SzP z W ok)
  (hS : ∀ a n, S a n = bif (decide (w64 (n - ((a.length : Nat) : Int)) < 0)) then some (-1) else L a FUEL (w64 (n - ((a.length : Nat) : Int))) 0)
  (hL : ∀ a f n i, L a (f + 1) n i = bif (decide (i < ((a.length : Nat) : Int))) then (getI a i).bind fun v => (z v n).bind fun r => bif (decide (r < 0)) then some (-1) else L a f r (w64 (i + 1)) else some n) :
  SzP S (listW W) (okL ok) := by
 intro x n hW h0 hn
 rw [hS, sz_cut hW.1 h0 hn]
 by_cases h : n - (x.length : Int) < 0
 ·exact ⟨-1, by rw [decide_eq_true h, cond_true], .inl (by omega)⟩
 rw [decide_eq_false h, cond_false]
 have key := loop_q (xs := x) (L := fun f i (m : Int) => L x f m i) (fun rest m y => y < 0 ∨ (0 ≤ y ∧ y ≤ m ∧ ∀ v ∈ rest, ok v)) (fun i m => 0 ≤ m ∧ m ≤ n) (by omega)
  (fun f i m v rest hr hi hv hw hI => by
   have hlt : (i : Int) < x.length := by omega
   obtain ⟨r, h1, h2⟩ := hz v m (hW.2 v (List.mem_of_getElem? hv)) hI.1 (by omega)
   rcases h2 with h2 | ⟨h2, h3, h4⟩
   ·refine .inl ⟨-1, ?_, .inl (by omega)⟩
    simp only [hL, hlt, decide_true, cond_true, getI_nat, hv, Option.bind_some, h1, h2]
   ·refine .inr ⟨r, ⟨h2, by omega⟩, ?_, fun y hy => ?_⟩
    ·have : ¬ r < 0 := by omega
     simp only [hL, hlt, decide_true, cond_true, getI_nat, hv, Option.bind_some, h1, this, decide_false, cond_false, hw]
    ·rcases hy with hy | ⟨hy1, hy2, hy3⟩
     ·exact .inl hy
     ·refine .inr ⟨hy1, by omega, fun u hu => ?_⟩
      rcases List.mem_cons.1 hu with rfl | hu
      ·exact h4
      ·exact hy3 u hu)
  (fun f m hI => ⟨m, by simp only [hL, Int.lt_irrefl, decide_false, cond_false], .inr ⟨hI.1, Int.le_refl _, fun v hv => by cases hv⟩⟩) (s := n - (x.length : Int)) ⟨by omega, by omega⟩
 obtain ⟨y, h1, h2⟩ := key
 exact ⟨y, h1, h2.imp id fun h' => ⟨h'.1, by omega, by omega, h'.2.2⟩⟩
theorem to_loop {α β : Type} {c : α → β} {t : α → Option β} {S : List α → Option (List β)} {L : List α → Nat → Int → List β → Option (List β)} {d : β} {ok : α → Prop} (ht : ∀ x, ok x → t x = some (c x))
  (hS : ∀ a, S a = (mkI ((a.length : Nat) : Int) d).bind fun v => L a FUEL 0 v)
  (hL : ∀ a f i st, L a (f + 1) i st = bif (decide (i < ((a.length : Nat) : Int))) then (getI a i).bind fun v => (t v).bind fun y => (getI st i).bind fun _ => L a f (w64 (i + 1)) (st.set i.toNat y) else some st) :
  ∀ xs, okL ok xs → S xs = some (xs.map c) := by
 intro xs hx
 have hl := hx.1
 rw [hS, mkI, if_pos (by omega), Option.bind_some]
 have key := loop_q (xs := xs) (L := fun f i (st : List β) => L xs f i st) (fun rest st y => y = st.take (st.length - rest.length) ++ rest.map c) (fun i st => st.length = xs.length) (by omega)
  (fun f i st v rest hr hi hv hw hI => by
   have hlt : (i : Int) < xs.length := by omega
   obtain ⟨o, ho, _⟩ := getI_lt (xs := st) (i := (i : Int)) (by omega) (by omega)
   refine .inr ⟨st.set i (c v), by rw [List.length_set]; exact hI, ?_, fun y hy => ?_⟩
   ·rw [hL, decide_eq_true hlt, cond_true, getI_nat, hv, Option.bind_some, ht v (hx.2 v (List.mem_of_getElem? hv)), Option.bind_some, ho, Option.bind_some, hw, Int.toNat_natCast]
   ·have e1 : (st.set i (c v)).length - rest.length = i + 1 := by rw [List.length_set]; omega
    have e2 : st.length - (v :: rest).length = i := by simp only [List.length_cons]; omega
    rw [e1] at hy
    rw [e2, hy, List.take_add_one, List.take_set_of_le (Nat.le_refl i), List.getElem?_set_self (by omega)]
    simp)
  (fun f st hI => ⟨st, by simp only [hL, Int.lt_irrefl, decide_false, cond_false], by simp⟩) (s := List.replicate ((xs.length : Int)).toNat d) (by simp)
 obtain ⟨y, h1, h2⟩ := key
 rw [h1, h2]
 simp
theorem eq_loop {β : Type} {e : β → β → Option Bool} {S : List β → List β → Option Bool} {L : List β → List β → Nat → Int → Option Bool} {ok : β → Prop} (he : ∀ x, ok x → e x x = some true)
  (hS : ∀ a b, S a b = bif (!(((a.length : Nat) : Int) == ((b.length : Nat) : Int))) then some false else L a b FUEL 0)
  (hL : ∀ a b f i, L a b (f + 1) i = bif (decide (i < ((a.length : Nat) : Int))) then (getI a i).bind fun v => (getI b i).bind fun u => (e v u).bind fun r => bif (!r) then some false else L a b f (w64 (i + 1)) else some true) :
  ∀ xs, okL ok xs → S xs xs = some true := by
 intro xs hx
 have hl := hx.1
 rw [hS, beq_self_eq_true, Bool.not_true, cond_false]
 have := loop_all (xs := xs) (L := fun f i => L xs xs f i) (p := fun _ => true) (fin := true) (by omega) (fun f i v hi hv hw => by
  have hlt : (i : Int) < xs.length := by omega
  simp only [hL, hlt, decide_true, cond_true, getI_nat, hv, Option.bind_some, he v (hx.2 v (List.mem_of_getElem? hv)), Bool.not_true, cond_false, hw]) (fun f => by
  simp only [hL, Int.lt_irrefl, decide_false, cond_false])
 rw [this]
 simp
end Go.D
set_option linter.unusedVariables false
namespace Go.D
abbrev Sm (n : Nat) : Prop := n ≤ 2097152
def inR (a b c : Int) : Bool := decide (b ≤ a) && decide (a ≤ c)
theorem spec_in (a b c : Int) : spec_l1In a b c = some (inR a b c) := by
 unfold spec_l1In inR
 by_cases h : b ≤ a <;> simp [h]
theorem impl_in (a b c : Int) : impl_between a b c = some (inR a b c) := by
 unfold impl_between inR
 by_cases h : b ≤ a <;> simp [h]
def colsOk (cs : List T_impl_Column) : Bool := cs.all (fun c => inR c.fKind 1 3) && decide (cs.length ≤ 4)
theorem spec_colsOk {cs : List T_impl_Column} (h : Sm cs.length) : spec_ColumnsOk cs = some (colsOk cs) := by
 unfold spec_ColumnsOk colsOk
 refine loop_all (by omega) (fun f i v hi hv hw => ?_) (fun f => ?_)
 ·have : (i : Int) < cs.length := by omega
  simp only [spec_ColumnsOk_l0, this, decide_true, cond_true, getI_nat, hv, Option.bind_some, spec_in, hw]
  cases inR v.fKind 1 3 <;> rfl
 ·simp only [spec_ColumnsOk_l0, Int.lt_irrefl, decide_false, cond_false]
  congr 1
  simp only [decide_eq_decide]
  omega
theorem impl_colsAny {cs : List T_impl_Column} (h : Sm cs.length) : slices_ContainsFunc_impl_Column_impl_Column cs impl_ColumnsOk_1 = some (cs.any fun c => !(inR c.fKind 1 3)) := by
 unfold slices_ContainsFunc_impl_Column_impl_Column slices_IndexFunc_impl_Column_impl_Column
 obtain ⟨r, h1, h2⟩ := loop_find (xs := cs) (L := slices_IndexFunc_impl_Column_impl_Column_l0 cs impl_ColumnsOk_1) (p := fun c => !(inR c.fKind 1 3)) (by omega) (fun f i v hi hv hw => by
  have : (i : Int) < cs.length := by omega
  simp only [slices_IndexFunc_impl_Column_impl_Column_l0, this, decide_true, cond_true, getI_nat, hv, Option.bind_some, impl_ColumnsOk_1, impl_in, hw]) (fun f => by
  simp only [slices_IndexFunc_impl_Column_impl_Column_l0, Int.lt_irrefl, decide_false, cond_false])
 rw [h1, Option.bind_some, h2]
theorem not_any_not {α : Type} (xs : List α) (p : α → Bool) : (!(xs.any fun x => !(p x))) = xs.all p := by
 induction xs with
 | nil => rfl
 | cons x xs ih => simp [← ih]
theorem impl_colsOk {cs : List T_impl_Column} (h : Sm cs.length) : impl_ColumnsOk cs = some (colsOk cs) := by
 unfold impl_ColumnsOk colsOk
 rw [impl_colsAny h, Option.bind_some, not_any_not]
 by_cases h4 : cs.length ≤ 4
 ·have : (cs.length : Int) ≤ 4 := by omega
  simp [h4, this]
 ·have : ¬ (cs.length : Int) ≤ 4 := by omega
  simp [h4, this]
theorem cast_le6 (n : Nat) : decide ((n : Int) ≤ 6) = decide (n ≤ 6) := by
 simp only [decide_eq_decide]
 omega
theorem getB_nat {s : ByteArray} {i : Nat} : getB s (i : Int) = s.data.toList[i]? := by
 unfold getB
 rw [if_pos (by omega), Int.toNat_natCast]
 by_cases h : i < s.size
 ·rw [getElem?_pos s i h, List.getElem?_eq_getElem (by simpa using h)]
  simp only [Option.some.injEq]
  rfl
 ·rw [getElem?_neg s i h, List.getElem?_eq_none (by simpa using h)]
def letter (b : UInt8) : Bool := decide (97 ≤ b.toNat) && decide (b.toNat ≤ 122)
def textOk (s : ByteArray) : Bool := s.data.toList.all letter && decide (s.size ≤ 6)
theorem size_list (s : ByteArray) : s.data.toList.length = s.size := Array.length_toList
theorem spec_text {s : ByteArray} (h : Sm s.size) : spec_l1Text s = some (textOk s) := by
 unfold spec_l1Text textOk
 have hl := size_list s
 refine loop_all (xs := s.data.toList) (by omega) (fun f i v hi hv hw => ?_) (fun f => ?_)
 ·have : (i : Int) < s.size := by omega
  simp only [spec_l1Text_l0, this, decide_true, cond_true, getB_nat, hv, Option.bind_some, spec_l1Text_j1, hw]
  unfold letter
  by_cases h1 : (v.toNat : Int) < 97
  ·have : ¬ 97 ≤ v.toNat := by omega
   simp [h1, this]
  ·have h1' : 97 ≤ v.toNat := by omega
   by_cases h2 : (v.toNat : Int) > 122
   ·have : ¬ v.toNat ≤ 122 := by omega
    simp [h1, h1', h2, this]
   ·have : v.toNat ≤ 122 := by omega
    simp [h1, h1', h2, this]
 ·rw [hl]
  unfold spec_l1Text_l0
  rw [show decide ((s.size : Int) < (s.size : Int)) = false from decide_eq_false (Int.lt_irrefl _), cond_false, cast_le6]
theorem impl_lettersOk {s : ByteArray} (h : Sm s.size) : impl_letters s = some (s.data.toList.all letter) := by
 have hl := size_list s
 unfold impl_letters bytesOf
 rw [if_pos (by omega), Option.bind_some, ← Bool.and_true (s.data.toList.all letter)]
 refine loop_all (xs := s.data.toList) (by omega) (fun f i v hi hv hw => ?_) (fun f => ?_)
 ·have : (i : Int) < s.data.toList.length := by omega
  have hb : v.toNat < 256 := v.toNat_lt
  have h1 : w64 (v.toNat : Int) = v.toNat := w64_of (by omega) (by omega)
  simp only [impl_letters_l0, this, decide_true, cond_true, getI_nat, hv, Option.bind_some, impl_in, hw, h1]
  have : inR (v.toNat : Int) 97 122 = letter v := by
   unfold inR letter
   congr 1 <;> simp only [decide_eq_decide] <;> omega
  rw [this]
  cases letter v <;> rfl
 ·simp only [impl_letters_l0, Int.lt_irrefl, decide_false, cond_false]
def valOk (v : T_impl_Value) : Bool := bif v.fKind == 0 then v.fN == 0 && v.fS.toList == (ByteArray.mk #[]).toList else bif v.fKind == 1 then inR v.fN (-9999) 9999 && v.fS.toList == (ByteArray.mk #[]).toList else
 bif v.fKind == 2 then v.fN == 0 && textOk v.fS else bif v.fKind == 3 then inR v.fN 0 1 && v.fS.toList == (ByteArray.mk #[]).toList else false
theorem spec_value {v : T_impl_Value} (h : Sm v.fS.size) : spec_ValueOk v = some (valOk v) := by
 unfold spec_ValueOk valOk
 simp only [spec_in, spec_text h, Option.bind_some]
 cases v.fKind == 0 <;> cases v.fKind == 1 <;> cases v.fKind == 2 <;> cases v.fKind == 3 <;> cases v.fN == 0 <;> cases inR v.fN (-9999) 9999 <;> cases inR v.fN 0 1 <;> rfl
theorem impl_value {v : T_impl_Value} (h : Sm v.fS.size) : impl_Value_ok v = some (valOk v) := by
 unfold impl_Value_ok valOk
 simp only [impl_in, impl_lettersOk h, Option.bind_some]
 have e : eq_T_impl_Value v ((T_impl_Value.mk 0 0 (ByteArray.mk #[]))) = (v.fKind == 0 && (v.fN == 0 && v.fS.toList == (ByteArray.mk #[]).toList)) := rfl
 have e2 : decide ((v.fS.size : Int) ≤ 6) = decide (v.fS.size ≤ 6) := by
  simp only [decide_eq_decide]
  omega
 have e3 : textOk v.fS = (v.fS.data.toList.all letter && decide (v.fS.size ≤ 6)) := rfl
 rw [e, e2, e3]
 cases v.fKind == 0 <;> cases v.fKind == 1 <;> cases v.fKind == 2 <;> cases v.fKind == 3 <;> cases v.fN == 0 <;> cases inR v.fN (-9999) 9999 <;> cases inR v.fN 0 1 <;> cases v.fS.toList == (ByteArray.mk #[]).toList <;>
  cases decide (v.fS.size ≤ 6) <;> cases v.fS.data.toList.all letter <;> rfl
def SmV (v : T_impl_Value) : Prop := Sm v.fS.size
end Go.D
set_option linter.unusedVariables false
namespace Go.D
theorem g2 {α : Type} {xs : List α} (a b : α) : getI (xs ++ [a, b]) (xs.length : Int) = some a := by
 rw [getI_nat]
 simp
theorem g3 {α : Type} {xs : List α} (b : α) : getI (xs ++ [b]) (xs.length : Int) = some b := by
 rw [getI_nat]
 simp
theorem wm1 : w64 (-1) = -1 := w64_of (by omega) (by omega)
section
variable {α : Type} {xs : List α} (h : xs.length ≤ 2097152)
include h
theorem g1 (a b : α) : getI (xs ++ [a, b]) (w64 (((xs ++ [a, b]).length : Int) - 1)) = some b := by
 have e : (((xs ++ [a, b]).length : Int) - 1) = ((xs.length + 1 : Nat) : Int) := by simp only [List.length_append, List.length_cons, List.length_nil]; omega
 rw [e, w64_of (by omega) (by omega), getI_nat]
 simp
theorem sl_pre {ys : List α} {n : Int} (hn : n = (xs.length : Int)) : slI (xs ++ ys) none (some n) none = some xs := by
 subst hn
 unfold slI
 rw [if_pos]
 ·simp
 ·simp only [Option.getD_none, Option.getD_some, List.length_append]
  omega
theorem sl_post {ys : List α} {n : Int} (hn : n = (xs.length : Int)) : slI (xs ++ ys) (some n) none none = some ys := by
 subst hn
 unfold slI
 rw [if_pos]
 ·simp only [Option.getD_none, Option.getD_some, Int.toNat_natCast, List.drop_left, List.length_append]
  rw [List.take_of_length_le (by omega)]
 ·simp only [Option.getD_none, Option.getD_some, List.length_append]
  omega
theorem max0 {n : Int} (hn : n = (xs.length : Int)) : maxL n [0] = (xs.length : Int) := by
 subst hn
 unfold maxL maxL
 rw [if_neg (by omega)]
theorem len2 (a b : α) : w64 (((xs ++ [a, b]).length : Int) - 2) = (xs.length : Int) := by
 rw [w64_of] <;> simp <;> omega
theorem len1 (b : α) : w64 (((xs ++ [b]).length : Int) - 1) = (xs.length : Int) := by
 rw [w64_of] <;> simp <;> omega
theorem len0 : w64 ((xs.length : Int) - 0) = (xs.length : Int) := by
 rw [w64_of] <;> omega
theorem ap_pre {ys : List α} (k : α) : appT (xs ++ ys) [k] xs.length = some (xs ++ [k]) := by
 unfold appT
 rw [if_pos (by simp; omega)]
 simp
theorem ap_all (k : α) : app xs [k] = some (xs ++ [k]) := app_lt (by simp; omega)
end
def zeroV (v : T_impl_Value) : Bool := eq_T_impl_Value v ((T_impl_Value.mk 0 0 (ByteArray.mk #[])))
def exprStep (cs : List T_impl_Column) (rs : List Int) (p : T_impl_Part) : Option (List Int) :=
 if p.fKind = 1 then bif p.fN == 0 && (valOk p.fV && !(p.fV.fKind == 0)) then some (p.fV.fKind :: rs) else none
 else if p.fKind = 2 then bif zeroV p.fV && inR p.fN 0 ((cs.length : Int) - 1) then (getI cs p.fN).map fun c => c.fKind :: rs else none
 else if p.fKind = 3 then bif zeroV p.fV && p.fN == 0 then (match rs with
  | b :: a :: r => bif b == 1 && a == 1 then some (1 :: r) else none
  | _ => none) else none
 else if p.fKind = 4 then bif zeroV p.fV && inR p.fN 1 4 then (match rs with
  | b :: a :: r => bif b == a then some (3 :: r) else none
  | _ => none) else none
 else if p.fKind = 5 ∨ p.fKind = 6 then bif zeroV p.fV && p.fN == 0 then (match rs with
  | b :: a :: r => bif b == 3 && a == 3 then some (3 :: r) else none
  | _ => none) else none
 else if p.fKind = 7 then bif zeroV p.fV && p.fN == 0 then (match rs with
  | b :: r => bif b == 3 then some (3 :: r) else none
  | _ => none) else none
 else if p.fKind = 8 then bif zeroV p.fV && p.fN == 0 then (match rs with
  | b :: r => some (3 :: r)
  | _ => none) else none
 else none
def exprRun (cs : List T_impl_Column) : List T_impl_Part → List Int → Int
 | [], rs => match rs with
  | [k] => k
  | _ => -1
 | p :: ps, rs => match exprStep cs rs p with
  | none => -1
  | some rs' => exprRun cs ps rs'
def SmP (p : T_impl_Part) : Prop := SmV p.fV
theorem exprStep_len {cs : List T_impl_Column} {rs rs' : List Int} {p : T_impl_Part} (h : exprStep cs rs p = some rs') : rs'.length ≤ rs.length + 1 := by
 unfold exprStep at h
 have hb : ∀ {c : Bool} {a : Option (List Int)}, (bif c then a else none) = some rs' → a = some rs' := fun {c a} h => by cases c <;> simp_all
 split at h
 ·have := hb h
  cases this
  simp
 split at h
 ·have := hb h
  simp only [Option.map_eq_some_iff] at this
  obtain ⟨_, _, rfl⟩ := this
  simp
 split at h
 ·have := hb h
  split at this
  ·cases hb this
   simp <;> omega
  ·cases this
 split at h
 ·have := hb h
  split at this
  ·cases hb this
   simp <;> omega
  ·cases this
 split at h
 ·have := hb h
  split at this
  ·cases hb this
   simp <;> omega
  ·cases this
 split at h
 ·have := hb h
  split at this
  ·cases hb this
   simp
  ·cases this
 split at h
 ·have := hb h
  split at this
  ·cases this
   simp
  ·cases this
 ·cases h
theorem stack_cases {α : Type} (rs : List α) : rs = [] ∨ (∃ b, rs = [b]) ∨ ∃ b a r, rs = b :: a :: r := by
 match rs with
 | [] => exact .inl rfl
 | [b] => exact .inr (.inl ⟨b, rfl⟩)
 | b :: a :: r => exact .inr (.inr ⟨b, a, r, rfl⟩)
theorem kind_cases (k : Int) : k = 1 ∨ k = 2 ∨ k = 3 ∨ k = 4 ∨ k = 5 ∨ k = 6 ∨ k = 7 ∨ k = 8 ∨ (k ≠ 1 ∧ k ≠ 2 ∧ k ≠ 3 ∧ k ≠ 4 ∧ k ≠ 5 ∧ k ≠ 6 ∧ k ≠ 7 ∧ k ≠ 8) := by omega
section
variable {α : Type} {xs : List α}
theorem gt1 (a b : α) : decide (((xs ++ [a, b]).length : Int) > 1) = true := by simp; omega
theorem gt0 (b : α) : decide (((xs ++ [b]).length : Int) > 0) = true := by simp only [List.length_append, List.length_cons, List.length_nil, decide_eq_true_eq]; omega
theorem lt2 (a b : α) : decide (((xs ++ [a, b]).length : Int) < 2) = false := by simp; omega
theorem lt1 (b : α) : decide (((xs ++ [b]).length : Int) < 1) = false := by simp; omega
theorem lt0 : decide ((xs.length : Int) < 0) = false := by simp only [decide_eq_false_iff_not]; omega
theorem rev2 (a b : α) (r : List α) : (b :: a :: r).reverse = r.reverse ++ [a, b] := by simp
theorem rev1 (b : α) (r : List α) : (b :: r).reverse = r.reverse ++ [b] := by simp
end
theorem low2 {xs : List Int} (h : xs.length ≤ 1) : slI xs none (some (maxL (w64 ((xs.length : Int) - 2)) [0])) none = some [] := by
 rw [w64_of (by omega) (by omega)]
 unfold maxL maxL
 rw [if_pos (by omega)]
 unfold slI
 simp
theorem apt0 (xs : List Int) (k : Int) : appT xs [k] ([] : List Int).length = some [k] := by
 unfold appT
 simp
theorem j2_low {xs : List Int} (h : xs.length ≤ 1) (b : Bool) : spec_l4Step_j2 xs b = some ([1], b) := by
 unfold spec_l4Step_j2
 rw [low2 h, Option.bind_some, apt0, Option.bind_some]
theorem j3_low {xs : List Int} (h : xs.length ≤ 1) (b : Bool) : spec_l4Step_j3 xs b = some ([3], b) := by
 unfold spec_l4Step_j3
 rw [low2 h, Option.bind_some, apt0, Option.bind_some]
theorem j5_low {xs : List Int} (h : xs.length ≤ 1) (b : Bool) : spec_l4Step_j5 xs b = some ([3], b) := by
 unfold spec_l4Step_j5
 rw [low2 h, Option.bind_some, apt0, Option.bind_some]
def SpecStep (cs : List T_impl_Column) (rs : List Int) (p : T_impl_Part) : Prop := match exprStep cs rs p with
 | some rs' => spec_l4Step cs rs.reverse p = some (rs'.reverse, true)
 | none => ∃ s, spec_l4Step cs rs.reverse p = some (s, false)
theorem spec_step {cs : List T_impl_Column} {rs : List Int} {p : T_impl_Part} (hc : Sm cs.length) (hr : rs.length ≤ 2000000) (hp : SmP p) : SpecStep cs rs p := by
 obtain ⟨k, n, v⟩ := p
 have hv : spec_ValueOk v = some (valOk v) := spec_value hp
 have hz : eq_T_impl_Value v ((T_impl_Value.mk 0 0 (ByteArray.mk #[]))) = zeroV v := rfl
 have hw : w64 ((cs.length : Int) - 1) = (cs.length : Int) - 1 := w64_of (by omega) (by omega)
 unfold SpecStep
 rcases kind_cases k with rfl | rfl | rfl | rfl | rfl | rfl | rfl | rfl | hk
 ·have ha : app rs.reverse [v.fKind] = some (rs.reverse ++ [v.fKind]) := ap_all (by simp; omega) _
  simp only [exprStep, spec_l4Step, spec_l4Step_j0, spec_l4Step_j1, hz, hv, hw, spec_in, Option.bind_some, ha]
  cases n == 0 <;> cases valOk v <;> cases v.fKind == 0 <;> simp
 ·simp only [exprStep, spec_l4Step, spec_l4Step_j0, hz, hw, spec_in, Option.bind_some]
  cases zeroV v
  ·simp
  ·cases hi : inR n 0 ((cs.length : Int) - 1) with
   | false => simp
   | true =>
    unfold inR at hi
    simp only [Bool.and_eq_true, decide_eq_true_eq] at hi
    obtain ⟨c, h1, h2⟩ := getI_lt (xs := cs) hi.1 (by omega)
    have ha : app rs.reverse [c.fKind] = some (rs.reverse ++ [c.fKind]) := ap_all (by simp; omega) _
    simp [h1, ha]
 ·rcases stack_cases rs with rfl | ⟨b, rfl⟩ | ⟨b, a, r, rfl⟩
  ·simp [exprStep, spec_l4Step, spec_l4Step_j0, j2_low, hz, spec_in, Option.bind]
   cases n == 0 <;> cases zeroV v <;> simp
  ·simp [exprStep, spec_l4Step, spec_l4Step_j0, j2_low, hz, spec_in, Option.bind]
   cases n == 0 <;> cases zeroV v <;> simp
  ·have hx : r.reverse.length ≤ 2097152 := by simp at hr ⊢; omega
   simp only [exprStep, spec_l4Step, spec_l4Step_j0, spec_l4Step_j2, hz, spec_in, rev2, g1 hx, len2 hx, g2, gt1, max0 hx rfl, sl_pre hx rfl, ap_pre hx, Option.bind_some]
   cases n == 0 <;> cases zeroV v <;> cases b == 1 <;> cases a == 1 <;> simp
 ·rcases stack_cases rs with rfl | ⟨b, rfl⟩ | ⟨b, a, r, rfl⟩
  ·simp [exprStep, spec_l4Step, spec_l4Step_j0, j3_low, hz, spec_in, Option.bind]
   cases inR n 1 4 <;> cases zeroV v <;> simp
  ·simp [exprStep, spec_l4Step, spec_l4Step_j0, j3_low, hz, spec_in, Option.bind]
   cases inR n 1 4 <;> cases zeroV v <;> simp
  ·have hx : r.reverse.length ≤ 2097152 := by simp at hr ⊢; omega
   simp only [exprStep, spec_l4Step, spec_l4Step_j0, spec_l4Step_j3, hz, spec_in, rev2, g1 hx, len2 hx, g2, gt1, max0 hx rfl, sl_pre hx rfl, ap_pre hx, Option.bind_some]
   cases inR n 1 4 <;> cases zeroV v <;> cases b == a <;> simp
 ·rcases stack_cases rs with rfl | ⟨b, rfl⟩ | ⟨b, a, r, rfl⟩
  ·simp [exprStep, spec_l4Step, spec_l4Step_j0, spec_l4Step_j4, j5_low, hz, spec_in, Option.bind]
   cases n == 0 <;> cases zeroV v <;> simp
  ·simp [exprStep, spec_l4Step, spec_l4Step_j0, spec_l4Step_j4, j5_low, hz, spec_in, Option.bind]
   cases n == 0 <;> cases zeroV v <;> simp
  ·have hx : r.reverse.length ≤ 2097152 := by simp at hr ⊢; omega
   simp only [exprStep, spec_l4Step, spec_l4Step_j0, spec_l4Step_j4, spec_l4Step_j5, hz, spec_in, rev2, g1 hx, len2 hx, g2, gt1, max0 hx rfl, sl_pre hx rfl, ap_pre hx, Option.bind_some]
   cases n == 0 <;> cases zeroV v <;> cases b == 3 <;> cases a == 3 <;> simp
 ·rcases stack_cases rs with rfl | ⟨b, rfl⟩ | ⟨b, a, r, rfl⟩
  ·simp [exprStep, spec_l4Step, spec_l4Step_j0, spec_l4Step_j4, j5_low, hz, spec_in, Option.bind]
   cases n == 0 <;> cases zeroV v <;> simp
  ·simp [exprStep, spec_l4Step, spec_l4Step_j0, spec_l4Step_j4, j5_low, hz, spec_in, Option.bind]
   cases n == 0 <;> cases zeroV v <;> simp
  ·have hx : r.reverse.length ≤ 2097152 := by simp at hr ⊢; omega
   simp only [exprStep, spec_l4Step, spec_l4Step_j0, spec_l4Step_j4, spec_l4Step_j5, hz, spec_in, rev2, g1 hx, len2 hx, g2, gt1, max0 hx rfl, sl_pre hx rfl, ap_pre hx, Option.bind_some]
   cases n == 0 <;> cases zeroV v <;> cases b == 3 <;> cases a == 3 <;> simp
 ·rcases rs with _ | ⟨b, r⟩
  ·simp [exprStep, spec_l4Step, spec_l4Step_j0, spec_l4Step_j4, hz]
  ·have hx : r.reverse.length ≤ 2097152 := by simp at hr ⊢; omega
   simp only [exprStep, spec_l4Step, spec_l4Step_j0, spec_l4Step_j4, hz, rev1, len1 hx, g3, gt0, max0 hx rfl, sl_pre hx rfl, ap_pre hx, Option.bind_some]
   cases n == 0 <;> cases zeroV v <;> cases hb : b == 3 <;> simp_all
 ·rcases rs with _ | ⟨b, r⟩
  ·simp [exprStep, spec_l4Step, spec_l4Step_j0, spec_l4Step_j4, hz, wm1, appT, maxL, slI]
   cases n == 0 <;> cases zeroV v <;> simp
  ·have hx : r.reverse.length ≤ 2097152 := by simp at hr ⊢; omega
   simp only [exprStep, spec_l4Step, spec_l4Step_j0, spec_l4Step_j4, hz, rev1, len1 hx, g3, gt0, max0 hx rfl, sl_pre hx rfl, ap_pre hx, Option.bind_some]
   cases n == 0 <;> cases zeroV v <;> simp
 ·obtain ⟨h1, h2, h3, h4, h5, h6, h7, h8⟩ := hk
  have b1 : (k == 1) = false := by simp [h1]
  have b2 : (k == 2) = false := by simp [h2]
  have b3 : (k == 3) = false := by simp [h3]
  have b4 : (k == 4) = false := by simp [h4]
  have b5 : (k == 5) = false := by simp [h5]
  have b6 : (k == 6) = false := by simp [h6]
  have b7 : (k == 7) = false := by simp [h7]
  have b8 : (k == 8) = false := by simp [h8]
  simp only [exprStep, h1, h2, h3, h4, h5, h6, h7, h8, if_false, or_self, spec_l4Step, spec_l4Step_j0, spec_l4Step_j4, b1, b2, b3, b4, b5, b6, b7, b8, hz]
  cases zeroV v <;> cases n == 0 <;> simp
end Go.D
set_option linter.unusedVariables false
namespace Go.D
def exprKind (cs : List T_impl_Column) (ps : List T_impl_Part) : Int := bif colsOk cs && decide (ps.length ≤ 12) then exprRun cs ps [] else -1
theorem gt12 {α : Type} (xs : List α) : decide ((xs.length : Int) > 12) = !(decide (xs.length ≤ 12)) := by
 by_cases h : xs.length ≤ 12
 ·have : ¬ (xs.length : Int) > 12 := by omega
  simp [h, this]
 ·have : (xs.length : Int) > 12 := by omega
  simp [h, this]
theorem fin_run (st : List Int) (cs : List T_impl_Column) : (bif !((st.length : Int) == 1) then some (-1) else (getI st 0).bind fun v => some v) = some (exprRun cs [] st.reverse) := by
 match st with
 | [] => rfl
 | [k] => rfl
 | a :: b :: r =>
  have e : (((a :: b :: r).length : Int) == 1) = false := by
   simp only [beq_eq_false_iff_ne, ne_eq, List.length_cons]
   omega
  rw [e]
  unfold exprRun
  split
  ·next k hk =>
   have := congrArg List.length hk
   simp at this
  ·rfl
theorem spec_exprKind {cs : List T_impl_Column} {ps : List T_impl_Part} (hc : Sm cs.length) (hl : ps.length ≤ 2097152) (hp : ∀ p ∈ ps, SmP p) : spec_ExprKind cs ps = some (exprKind cs ps) := by
 unfold spec_ExprKind exprKind
 rw [spec_colsOk hc, Option.bind_some, gt12]
 cases colsOk cs
 ·rfl
 cases h12 : decide (ps.length ≤ 12)
 ·rfl
 have h12 : ps.length ≤ 12 := of_decide_eq_true h12
 simp only [Bool.not_true, cond_false, Bool.true_and, cond_true, spec_ExprKind_j0]
 have := loop_rec (xs := ps) (L := fun f i (s : Bool × List Int) => spec_ExprKind_l1 cs ps f s.1 i s.2) (fun ps s => bif s.1 then exprRun cs ps s.2.reverse else -1) (fun i s => s.1 = true → s.2.length ≤ i) (by omega)
  (fun f i s v rest hi hv hw hI => by
   obtain ⟨ok, st⟩ := s
   have hlt : (i : Int) < ps.length := by omega
   cases ok with
   | false =>
    refine .inl ?_
    simp only [spec_ExprKind_l1, hlt, decide_true, cond_true, spec_ExprKind_j2, cond_false, Bool.not_false, spec_ExprKind_j3]
   | true =>
    have hst := hI rfl
    have hs : SpecStep cs st.reverse v := spec_step hc (by simp; simp only at hst; omega) (hp v (List.mem_of_getElem? hv))
    unfold SpecStep at hs
    simp only [List.reverse_reverse] at hs
    refine .inr ?_
    cases he : exprStep cs st.reverse v with
    | none =>
     rw [he] at hs
     obtain ⟨s', hs⟩ := hs
     refine ⟨(false, s'), (fun h => by cases h), ?_, ?_⟩
     ·simp only [spec_ExprKind_l1, hlt, decide_true, cond_true, spec_ExprKind_j2, getI_nat, hv, Option.bind_some, hs, hw]
     ·simp only [cond_true, cond_false, exprRun, he]
    | some rs' =>
     rw [he] at hs
     have hs : spec_l4Step cs st v = some (rs'.reverse, true) := hs
     refine ⟨(true, rs'.reverse), fun _ => ?_, ?_, ?_⟩
     ·have := exprStep_len he
      simp only [List.length_reverse] at this ⊢
      simp only at hst
      omega
     ·simp only [spec_ExprKind_l1, hlt, decide_true, cond_true, spec_ExprKind_j2, getI_nat, hv, Option.bind_some, hs, hw]
     ·simp only [cond_true, exprRun, he, List.reverse_reverse])
  (fun f s hI => by
   obtain ⟨ok, st⟩ := s
   simp only [spec_ExprKind_l1, Int.lt_irrefl, decide_false, cond_false, spec_ExprKind_j2]
   cases ok with
   | false => rfl
   | true =>
    simp only [Bool.not_true, cond_false, spec_ExprKind_j3, cond_true]
    exact fin_run st cs) (s := (true, [])) (fun _ => by simp)
 exact this
theorem impl_allk (k : Int) {xs : List Int} (h : xs.length ≤ 2097152) : impl_Part_kind_1 k xs = some (xs.all (· == k)) := by
 unfold impl_Part_kind_1 slices_ContainsFunc_int_int slices_IndexFunc_int_int
 obtain ⟨r, h1, h2⟩ := loop_find (xs := xs) (L := slices_IndexFunc_int_int_l0 xs (fun z0 => impl_Part_kind_1_1 z0 k)) (p := fun z => !(z == k)) (by omega) (fun f i v hi hv hw => by
  have : (i : Int) < xs.length := by omega
  simp only [slices_IndexFunc_int_int_l0, this, decide_true, cond_true, getI_nat, hv, Option.bind_some, impl_Part_kind_1_1, hw]) (fun f => by
  simp only [slices_IndexFunc_int_int_l0, Int.lt_irrefl, decide_false, cond_false])
 rw [h1, Option.bind_some, Option.bind_some, h2, not_any_not]
def ImplStep (cs : List T_impl_Column) (rs : List Int) (p : T_impl_Part) (x4 : Int) (K : Int → List Int → Option Int) : Prop :=
 ((impl_Part_takes p).bind fun v11 => (impl_Part_tells p cs).bind fun v24 => bif (!v24) then impl_ExprKind_j2 cs x4 rs.reverse K p v11 true else impl_ExprKind_j2 cs x4 rs.reverse K p v11 ((decide (((rs.reverse.length : Int)) < v11)))) =
  match exprStep cs rs p with
  | none => some (-1)
  | some rs' => K (w64 (x4 + 1)) rs'.reverse
theorem pre_all {xs : List Int} (h : xs.length ≤ 2097152) : slI xs none (some (w64 ((xs.length : Int) - 0))) none = some xs := by
 rw [len0 h]
 have := sl_pre (ys := []) h rfl
 rwa [List.append_nil] at this
theorem post_all {xs : List Int} (h : xs.length ≤ 2097152) : slI xs (some (w64 ((xs.length : Int) - 0))) none none = some [] := by
 rw [len0 h]
 have := sl_post (ys := []) h rfl
 rwa [List.append_nil] at this
theorem ap_full {xs : List Int} (h : xs.length ≤ 2097152) (k : Int) : appT xs [k] xs.length = some (xs ++ [k]) := by
 have := ap_pre (ys := []) h k
 rwa [List.append_nil] at this
theorem get0 (a b : Int) : getI [a, b] 0 = some a := rfl
theorem get1 (a b : Int) : getI [a, b] 1 = some b := rfl
theorem eq_comm_b (a b : Int) : (a == b) = (b == a) := by
 rw [Bool.eq_iff_iff, beq_iff_eq, beq_iff_eq]
 exact eq_comm
theorem impl_step {cs : List T_impl_Column} {rs : List Int} {p : T_impl_Part} {x4 : Int} {K : Int → List Int → Option Int} (hc : Sm cs.length) (hr : rs.length ≤ 2000000) (hp : SmP p) : ImplStep cs rs p x4 K := by
 obtain ⟨k, n, v⟩ := p
 have hv : impl_Value_ok v = some (valOk v) := impl_value hp
 have hz : eq_T_impl_Value v ((T_impl_Value.mk 0 0 (ByteArray.mk #[]))) = zeroV v := rfl
 have hw : w64 ((cs.length : Int) - 1) = (cs.length : Int) - 1 := w64_of (by omega) (by omega)
 have hxr : rs.reverse.length ≤ 2097152 := by simp; omega
 unfold ImplStep
 rcases kind_cases k with rfl | rfl | rfl | rfl | rfl | rfl | rfl | rfl | hk
 ·simp only [exprStep, impl_Part_takes, impl_Part_takes_j0, impl_Part_takes_j1, impl_Part_tells, impl_Part_tells_j0, impl_ExprKind_j2, hv, hz, hw, impl_in, impl_Part_kind, Option.bind_some]
  cases n == 0 <;> cases valOk v <;> cases v.fKind == 0 <;> simp [-List.length_reverse, -Int.sub_zero, -List.length_append, -List.length_cons, -List.length_nil, lt0, post_all hxr, pre_all hxr, ap_full hxr]
 ·simp only [exprStep, impl_Part_takes, impl_Part_takes_j0, impl_Part_takes_j1, impl_Part_tells, impl_Part_tells_j0, impl_ExprKind_j2, hv, hz, hw, impl_in, impl_Part_kind, Option.bind_some]
  cases zeroV v
  ·cases inR n 0 ((cs.length : Int) - 1) <;> simp [-List.length_reverse, -Int.sub_zero, -List.length_append, -List.length_cons, -List.length_nil, lt0, post_all hxr, pre_all hxr, ap_full hxr]
  ·cases hi : inR n 0 ((cs.length : Int) - 1) with
   | false => simp [-List.length_reverse, -Int.sub_zero, -List.length_append, -List.length_cons, -List.length_nil, lt0, post_all hxr, pre_all hxr, ap_full hxr]
   | true =>
    unfold inR at hi
    simp only [Bool.and_eq_true, decide_eq_true_eq] at hi
    obtain ⟨c, h1, h2⟩ := getI_lt (xs := cs) hi.1 (by omega)
    simp [-List.length_reverse, -Int.sub_zero, -List.length_append, -List.length_cons, -List.length_nil, lt0, post_all hxr, pre_all hxr, ap_full hxr, h1]
 ·rcases stack_cases rs with rfl | ⟨b, rfl⟩ | ⟨b, a, r, rfl⟩
  ·simp only [exprStep, impl_Part_takes, impl_Part_takes_j0, impl_Part_takes_j1, impl_Part_tells, impl_Part_tells_j0, impl_ExprKind_j2, hv, hz, hw, impl_in, impl_Part_kind, Option.bind_some]
   cases n == 0 <;> cases zeroV v <;> simp
  ·simp only [exprStep, impl_Part_takes, impl_Part_takes_j0, impl_Part_takes_j1, impl_Part_tells, impl_Part_tells_j0, impl_ExprKind_j2, hv, hz, hw, impl_in, impl_Part_kind, Option.bind_some]
   cases n == 0 <;> cases zeroV v <;> simp
  ·have hx : r.reverse.length ≤ 2097152 := by simp at hr ⊢; omega
   have hab : ([a, b] : List Int).length ≤ 2097152 := by simp
   simp only [exprStep, impl_Part_takes, impl_Part_takes_j0, impl_Part_takes_j1, impl_Part_tells, impl_Part_tells_j0, impl_ExprKind_j2, hv, hz, hw, impl_in, impl_Part_kind, Option.bind_some, rev2]
   cases n == 0 <;> cases zeroV v <;> cases ha : a == 1 <;> cases hb : b == 1 <;> simp [*, -List.length_reverse, -Int.sub_zero, -List.length_append, -List.length_cons, -List.length_nil, lt2, len2 hx, sl_pre hx rfl, sl_post hx rfl, ap_pre hx, impl_allk 1 hab, impl_allk 3 hab, get0, get1]
 ·rcases stack_cases rs with rfl | ⟨b, rfl⟩ | ⟨b, a, r, rfl⟩
  ·simp only [exprStep, impl_Part_takes, impl_Part_takes_j0, impl_Part_takes_j1, impl_Part_tells, impl_Part_tells_j0, impl_ExprKind_j2, hv, hz, hw, impl_in, impl_Part_kind, Option.bind_some]
   cases inR n 1 4 <;> cases zeroV v <;> simp
  ·simp only [exprStep, impl_Part_takes, impl_Part_takes_j0, impl_Part_takes_j1, impl_Part_tells, impl_Part_tells_j0, impl_ExprKind_j2, hv, hz, hw, impl_in, impl_Part_kind, Option.bind_some]
   cases inR n 1 4 <;> cases zeroV v <;> simp
  ·have hx : r.reverse.length ≤ 2097152 := by simp at hr ⊢; omega
   have hab : ([a, b] : List Int).length ≤ 2097152 := by simp
   simp only [exprStep, impl_Part_takes, impl_Part_takes_j0, impl_Part_takes_j1, impl_Part_tells, impl_Part_tells_j0, impl_ExprKind_j2, hv, hz, hw, impl_in, impl_Part_kind, Option.bind_some, rev2]
   cases inR n 1 4 <;> cases zeroV v <;> cases hb : b == a <;> simp [*, -List.length_reverse, -Int.sub_zero, -List.length_append, -List.length_cons, -List.length_nil, lt2, len2 hx, sl_pre hx rfl, sl_post hx rfl, ap_pre hx, impl_allk 1 hab, impl_allk 3 hab, get0, get1, eq_comm_b a b]
 ·rcases stack_cases rs with rfl | ⟨b, rfl⟩ | ⟨b, a, r, rfl⟩
  ·simp only [exprStep, impl_Part_takes, impl_Part_takes_j0, impl_Part_takes_j1, impl_Part_tells, impl_Part_tells_j0, impl_ExprKind_j2, hv, hz, hw, impl_in, impl_Part_kind, Option.bind_some]
   cases n == 0 <;> cases zeroV v <;> simp
  ·simp only [exprStep, impl_Part_takes, impl_Part_takes_j0, impl_Part_takes_j1, impl_Part_tells, impl_Part_tells_j0, impl_ExprKind_j2, hv, hz, hw, impl_in, impl_Part_kind, Option.bind_some]
   cases n == 0 <;> cases zeroV v <;> simp
  ·have hx : r.reverse.length ≤ 2097152 := by simp at hr ⊢; omega
   have hab : ([a, b] : List Int).length ≤ 2097152 := by simp
   simp only [exprStep, impl_Part_takes, impl_Part_takes_j0, impl_Part_takes_j1, impl_Part_tells, impl_Part_tells_j0, impl_ExprKind_j2, hv, hz, hw, impl_in, impl_Part_kind, Option.bind_some, rev2]
   cases n == 0 <;> cases zeroV v <;> cases ha : a == 3 <;> cases hb : b == 3 <;> simp [*, -List.length_reverse, -Int.sub_zero, -List.length_append, -List.length_cons, -List.length_nil, lt2, len2 hx, sl_pre hx rfl, sl_post hx rfl, ap_pre hx, impl_allk 1 hab, impl_allk 3 hab, get0, get1]
 ·rcases stack_cases rs with rfl | ⟨b, rfl⟩ | ⟨b, a, r, rfl⟩
  ·simp only [exprStep, impl_Part_takes, impl_Part_takes_j0, impl_Part_takes_j1, impl_Part_tells, impl_Part_tells_j0, impl_ExprKind_j2, hv, hz, hw, impl_in, impl_Part_kind, Option.bind_some]
   cases n == 0 <;> cases zeroV v <;> simp
  ·simp only [exprStep, impl_Part_takes, impl_Part_takes_j0, impl_Part_takes_j1, impl_Part_tells, impl_Part_tells_j0, impl_ExprKind_j2, hv, hz, hw, impl_in, impl_Part_kind, Option.bind_some]
   cases n == 0 <;> cases zeroV v <;> simp
  ·have hx : r.reverse.length ≤ 2097152 := by simp at hr ⊢; omega
   have hab : ([a, b] : List Int).length ≤ 2097152 := by simp
   simp only [exprStep, impl_Part_takes, impl_Part_takes_j0, impl_Part_takes_j1, impl_Part_tells, impl_Part_tells_j0, impl_ExprKind_j2, hv, hz, hw, impl_in, impl_Part_kind, Option.bind_some, rev2]
   cases n == 0 <;> cases zeroV v <;> cases ha : a == 3 <;> cases hb : b == 3 <;> simp [*, -List.length_reverse, -Int.sub_zero, -List.length_append, -List.length_cons, -List.length_nil, lt2, len2 hx, sl_pre hx rfl, sl_post hx rfl, ap_pre hx, impl_allk 1 hab, impl_allk 3 hab, get0, get1]
 ·rcases rs with _ | ⟨b, r⟩
  ·simp only [exprStep, impl_Part_takes, impl_Part_takes_j0, impl_Part_takes_j1, impl_Part_tells, impl_Part_tells_j0, impl_ExprKind_j2, hv, hz, hw, impl_in, impl_Part_kind, Option.bind_some]
   cases n == 0 <;> cases zeroV v <;> simp
  ·have hx : r.reverse.length ≤ 2097152 := by simp at hr ⊢; omega
   have hab : ([b] : List Int).length ≤ 2097152 := by simp
   simp only [exprStep, impl_Part_takes, impl_Part_takes_j0, impl_Part_takes_j1, impl_Part_tells, impl_Part_tells_j0, impl_ExprKind_j2, hv, hz, hw, impl_in, impl_Part_kind, Option.bind_some, rev1]
   cases n == 0 <;> cases zeroV v <;> cases hb : b == 3 <;> simp [*, -List.length_reverse, -Int.sub_zero, -List.length_append, -List.length_cons, -List.length_nil, lt1, len1 hx, sl_pre hx rfl, sl_post hx rfl, ap_pre hx, impl_allk 3 hab]
 ·rcases rs with _ | ⟨b, r⟩
  ·simp only [exprStep, impl_Part_takes, impl_Part_takes_j0, impl_Part_takes_j1, impl_Part_tells, impl_Part_tells_j0, impl_ExprKind_j2, hv, hz, hw, impl_in, impl_Part_kind, Option.bind_some]
   cases n == 0 <;> cases zeroV v <;> simp
  ·have hx : r.reverse.length ≤ 2097152 := by simp at hr ⊢; omega
   have hab : ([b] : List Int).length ≤ 2097152 := by simp
   simp only [exprStep, impl_Part_takes, impl_Part_takes_j0, impl_Part_takes_j1, impl_Part_tells, impl_Part_tells_j0, impl_ExprKind_j2, hv, hz, hw, impl_in, impl_Part_kind, Option.bind_some, rev1]
   cases n == 0 <;> cases zeroV v <;> cases hb : b == 3 <;> simp [*, -List.length_reverse, -Int.sub_zero, -List.length_append, -List.length_cons, -List.length_nil, lt1, len1 hx, sl_pre hx rfl, sl_post hx rfl, ap_pre hx, impl_allk 3 hab]
 ·obtain ⟨h1, h2, h3, h4, h5, h6, h7, h8⟩ := hk
  have b1 : (k == 1) = false := by simp [h1]
  have b2 : (k == 2) = false := by simp [h2]
  have b3 : (k == 3) = false := by simp [h3]
  have b4 : (k == 4) = false := by simp [h4]
  have b5 : (k == 5) = false := by simp [h5]
  have b6 : (k == 6) = false := by simp [h6]
  have b7 : (k == 7) = false := by simp [h7]
  have b8 : (k == 8) = false := by simp [h8]
  simp only [h1, h2, h3, h4, h5, h6, h7, h8, if_false, or_self, b1, b2, b3, b4, b5, b6, b7, b8, exprStep, impl_Part_takes, impl_Part_takes_j0, impl_Part_takes_j1, impl_Part_tells, impl_Part_tells_j0, impl_ExprKind_j2, hv, hz, hw, impl_in, impl_Part_kind, Option.bind_some]
  rfl
theorem impl_exprKind {cs : List T_impl_Column} {ps : List T_impl_Part} (hc : Sm cs.length) (hl : ps.length ≤ 2097152) (hp : ∀ p ∈ ps, SmP p) : impl_ExprKind cs ps = some (exprKind cs ps) := by
 unfold impl_ExprKind exprKind
 rw [impl_colsOk hc, Option.bind_some, gt12]
 cases colsOk cs
 ·rfl
 cases h12 : decide (ps.length ≤ 12)
 ·rfl
 have h12 : ps.length ≤ 12 := of_decide_eq_true h12
 simp only [Bool.not_true, cond_false, Bool.true_and, cond_true, impl_ExprKind_j0]
 have := loop_rec (xs := ps) (L := fun f i (s : List Int) => impl_ExprKind_l1 cs ps f i s) (fun ps s => exprRun cs ps s.reverse) (fun i s => s.length ≤ i) (by omega)
  (fun f i st v rest hi hv hw hI => by
   have hlt : (i : Int) < ps.length := by omega
   have hs : ImplStep cs st.reverse v i (impl_ExprKind_l1 cs ps f) := impl_step hc (by simp; omega) (hp v (List.mem_of_getElem? hv))
   unfold ImplStep at hs
   rw [List.reverse_reverse, hw] at hs
   have e : impl_ExprKind_l1 cs ps (f + 1) i st = match exprStep cs st.reverse v with
    | none => some (-1)
    | some rs' => impl_ExprKind_l1 cs ps f ((i + 1 : Nat) : Int) rs'.reverse := by
    rw [← hs]
    simp only [impl_ExprKind_l1, hlt, decide_true, cond_true, getI_nat, hv, Option.bind_some]
   cases he : exprStep cs st.reverse v with
   | none =>
    refine .inl ?_
    rw [he] at e
    simp only [exprRun, he]
    exact e
   | some rs' =>
    rw [he] at e
    refine .inr ⟨rs'.reverse, ?_, e, ?_⟩
    ·have := exprStep_len he
     simp only [List.length_reverse] at this ⊢
     omega
    ·simp only [exprRun, he, List.reverse_reverse])
  (fun f st hI => by
   simp only [impl_ExprKind_l1, Int.lt_irrefl, decide_false, cond_false]
   exact fin_run st cs) (s := []) (by simp)
 exact this
end Go.D
set_option linter.unusedVariables false
namespace Go.D
end Go.D
set_option linter.unusedVariables false
namespace Go.D
end Go.D
set_option linter.unusedVariables false
namespace Go.D
theorem bifSome {α : Type} {c : Bool} {a : Option α} {y : α} (h : (bif c then a else none) = some y) : c = true ∧ a = some y := by
 cases c with
 | false => cases h
 | true => exact ⟨rfl, h⟩
theorem loop_opt {α σ β : Type} {xs : List α} {L : Nat → Int → σ → Option β} (R : List α → σ → Option β) (Inv : Nat → σ → Prop) (hlen : xs.length ≤ 70368744177662)
  (h : ∀ (f i : Nat) (s : σ) (v : α), i < xs.length → xs[i]? = some v → w64 ((i : Int) + 1) = ((i + 1 : Nat) : Int) → Inv i s →
   L (f + 1) i s = R (v :: xs.drop (i + 1)) s ∨ ∃ s', Inv (i + 1) s' ∧ L (f + 1) i s = L f ((i + 1 : Nat) : Int) s' ∧ R (v :: xs.drop (i + 1)) s = R (xs.drop (i + 1)) s')
  (he : ∀ f s, Inv xs.length s → L (f + 1) (xs.length : Int) s = R [] s) {s : σ} (h0 : Inv 0 s) : L FUEL 0 s = R xs s := by
 have main : ∀ (k f i : Nat) (s : σ), i + k = xs.length → k < f → Inv i s → L f (i : Int) s = R (xs.drop i) s := by
  intro k
  induction k with
  | zero =>
   intro f i s hi hf hI
   obtain ⟨f, rfl⟩ : ∃ f', f = f' + 1 := ⟨f - 1, by omega⟩
   have : i = xs.length := by omega
   subst this
   rw [he _ _ hI, List.drop_length]
  | succ k ih =>
   intro f i s hi hf hI
   obtain ⟨f, rfl⟩ : ∃ f', f = f' + 1 := ⟨f - 1, by omega⟩
   have hlt : i < xs.length := by omega
   rw [List.drop_eq_getElem_cons hlt]
   rcases h f i s xs[i] hlt (List.getElem?_eq_getElem hlt) (succ_w hlt (by omega)) hI with h1 | ⟨s', h1, h2, h3⟩
   ·exact h1
   ·rw [h2, h3]
    exact ih f (i + 1) s' (by omega) (by omega) h1
 have := main xs.length FUEL 0 s (by omega) (by unfold FUEL; omega) h0
 simpa using this
end Go.D
set_option linter.unusedVariables false
namespace Go.D
end Go.D
set_option linter.unusedVariables false
namespace Go.D
theorem v1 {rs : List Int} {st : List T_impl_Value} {b : Int} {r : List Int} (h : rs.length = st.length) (hr : rs = b :: r) : ∃ y t, st = y :: t ∧ r.length = t.length := by
 subst hr
 match st, h with
 | y :: t, h => exact ⟨y, t, rfl, by simpa using h⟩
section
variable {α : Type} {xs : List α} (h : xs.length ≤ 2097152)
include h
end
structure Inv (cs : List T_impl_Column) (ps : List T_impl_Part) (i : Nat) (s : List T_impl_Value) : Prop where
 h : ∃ ks, exprRun cs (ps.drop i) ks = 3 ∧ ks.length = s.length ∧ s.length ≤ i ∧ ∀ v ∈ s, SmV v
end Go.D
set_option linter.unusedVariables false
namespace Go.D
theorem asc_ext : ∀ {xs ys : List Int}, xs.Pairwise (· < ·) → ys.Pairwise (· < ·) → (∀ x, x ∈ xs ↔ x ∈ ys) → xs = ys
 | [], [], _, _, _ => rfl
 | [], y :: ys, _, _, h => absurd ((h y).2 (by simp)) (by simp)
 | x :: xs, [], _, _, h => absurd ((h x).1 (by simp)) (by simp)
 | x :: xs, y :: ys, h1, h2, h => by
  rw [List.pairwise_cons] at h1 h2
  have hxy : x = y := by
   rcases List.mem_cons.1 ((h x).1 (by simp)) with e | e
   ·exact e
   ·rcases List.mem_cons.1 ((h y).2 (by simp)) with e' | e'
    ·exact e'.symm
    ·have := h2.1 x e
     have := h1.1 y e'
     omega
  subst hxy
  congr 1
  refine asc_ext h1.2 h2.2 fun z => ⟨fun hz => ?_, fun hz => ?_⟩
  ·rcases List.mem_cons.1 ((h z).1 (by simp [hz])) with e | e
   ·have := h1.1 z hz
    omega
   ·exact e
  ·rcases List.mem_cons.1 ((h z).2 (by simp [hz])) with e | e
   ·have := h2.1 z hz
    omega
   ·exact e
theorem compactUpTo_asc {d : Array Int} : ∀ (m : Nat), (∀ i j, i ≤ j → j < m → d[i]! ≤ d[j]!) → (Lib.compactUpTo d m).Pairwise (· < ·) ∧ ∀ x, x ∈ Lib.compactUpTo d m ↔ ∃ j, j < m ∧ d[j]! = x
 | 0, _ => by
  refine ⟨by simp [Lib.compactUpTo], fun x => ⟨fun h => by simp [Lib.compactUpTo] at h, ?_⟩⟩
  rintro ⟨j, hj, _⟩
  omega
 | m + 1, h => by
  obtain ⟨h1, h2⟩ := compactUpTo_asc m fun i j hi hj => h i j hi (by omega)
  rw [Lib.compactUpTo_succ]
  cases hk : Lib.keeps d m with
  | true =>
   rw [if_pos rfl]
   refine ⟨?_, fun x => ?_⟩
   ·rw [List.pairwise_append]
    refine ⟨h1, by simp, fun x hx y hy => ?_⟩
    simp only [List.mem_cons, List.not_mem_nil, or_false] at hy
    subst hy
    obtain ⟨j, hj, rfl⟩ := (h2 x).1 hx
    have hne : d[m]! ≠ d[m - 1]! := by
     unfold Lib.keeps at hk
     rcases of_decide_eq_true hk with e | e
     ·omega
     ·exact e
    have a1 := h j (m - 1) (by omega) (by omega)
    have a2 := h (m - 1) m (by omega) (by omega)
    omega
   ·rw [List.mem_append, h2]
    simp only [List.mem_cons, List.not_mem_nil, or_false]
    constructor
    ·rintro (⟨j, hj, e⟩ | e)
     ·exact ⟨j, by omega, e⟩
     ·exact ⟨m, by omega, e.symm⟩
    ·rintro ⟨j, hj, e⟩
     by_cases hjm : j = m
     ·subst hjm
      exact .inr e.symm
     ·exact .inl ⟨j, by omega, e⟩
  | false =>
   rw [if_neg (by simp), List.append_nil]
   refine ⟨h1, fun x => ?_⟩
   rw [h2]
   have hn : ¬ (m = 0 ∨ d[m]! ≠ d[m - 1]!) := by
    unfold Lib.keeps at hk
    exact of_decide_eq_false hk
   have hm : m ≠ 0 := fun e => hn (.inl e)
   have he : d[m]! = d[m - 1]! := Decidable.byContradiction fun e => hn (.inr e)
   constructor
   ·rintro ⟨j, hj, e⟩
    exact ⟨j, by omega, e⟩
   ·rintro ⟨j, hj, e⟩
    by_cases hjm : j = m
    ·subst hjm
     exact ⟨j - 1, by omega, by rw [← he]; exact e⟩
    ·exact ⟨j, by omega, e⟩
theorem compact_sort (zs : List Int) : (Lib.compact (zs.mergeSort fun x y => decide (x ≤ y))).Pairwise (· < ·) ∧ ∀ x, x ∈ Lib.compact (zs.mergeSort fun x y => decide (x ≤ y)) ↔ x ∈ zs := by
 have hs : (zs.mergeSort fun x y => decide (x ≤ y)).Pairwise fun a b => decide (a ≤ b) = true := List.pairwise_mergeSort (fun a b c h1 h2 => by simp at *; omega) (fun a b => by simp; omega) zs
 have hm : ∀ x, x ∈ (zs.mergeSort fun x y => decide (x ≤ y)) ↔ x ∈ zs := fun x => List.mem_mergeSort
 generalize (zs.mergeSort fun x y => decide (x ≤ y)) = ys at hs hm
 have hg : ∀ (j : Nat) (hj : j < ys.length), ys.toArray[j]! = ys[j] := fun j hj => by simp [hj]
 have := compactUpTo_asc (d := ys.toArray) ys.length fun i j hij hj => by
  rw [hg i (by omega), hg j hj]
  by_cases e : i = j
  ·subst e
   omega
  ·exact of_decide_eq_true (List.pairwise_iff_getElem.1 hs i j (by omega) hj (by omega))
 refine ⟨this.1, fun x => ?_⟩
 rw [← hm x]
 refine (this.2 x).trans ⟨?_, fun h => ?_⟩
 ·rintro ⟨j, hj, rfl⟩
  rw [hg j hj]
  exact List.getElem_mem hj
 ·obtain ⟨j, hj, rfl⟩ := List.getElem_of_mem h
  exact ⟨j, hj, hg j hj⟩
def asked (e : List T_impl_Part) (k : Nat) : Bool := e.any fun p => p.fKind == 2 && p.fN == (k : Int)
def colsV (cs : List T_impl_Column) (e : List T_impl_Part) : List Int := bif decide (0 ≤ exprKind cs e) then ((List.range cs.length).filter (asked e)).map Int.ofNat else []
def colsL (e : List T_impl_Part) : List Int := (e.filter fun p => p.fKind == 2).map (·.fN)
theorem run_cols {cs : List T_impl_Column} : ∀ (ps : List T_impl_Part) (rs : List Int), 0 ≤ exprRun cs ps rs → ∀ p ∈ ps, p.fKind = 2 → 0 ≤ p.fN ∧ p.fN < cs.length
 | [], _, _, p, hp, _ => by cases hp
 | q :: ps, rs, h, p, hp, hk => by
  unfold exprRun at h
  cases he : exprStep cs rs q with
  | none =>
   rw [he] at h
   have h : (0 : Int) ≤ -1 := h
   omega
  | some rs' =>
   rw [he] at h
   rcases List.mem_cons.1 hp with rfl | hp
   ·unfold exprStep at he
    rw [if_neg (by omega), if_pos hk] at he
    obtain ⟨h1, _⟩ := bifSome he
    unfold inR at h1
    simp only [Bool.and_eq_true, decide_eq_true_eq] at h1
    omega
   ·exact run_cols ps rs' h p hp hk
theorem kind_run {cs : List T_impl_Column} {e : List T_impl_Part} (h : 0 ≤ exprKind cs e) : 0 ≤ exprRun cs e [] ∧ colsOk cs = true ∧ e.length ≤ 12 := by
 unfold exprKind at h
 cases hc : colsOk cs && decide (e.length ≤ 12) with
 | false =>
  rw [hc] at h
  have h : (0 : Int) ≤ -1 := h
  omega
 | true =>
  rw [hc, cond_true] at h
  simp only [Bool.and_eq_true, decide_eq_true_eq] at hc
  exact ⟨h, hc.1, hc.2⟩
theorem colsV_asc (cs : List T_impl_Column) (e : List T_impl_Part) : (colsV cs e).Pairwise (· < ·) := by
 unfold colsV
 cases decide (0 ≤ exprKind cs e)
 ·exact List.Pairwise.nil
 ·rw [cond_true, List.pairwise_map]
  refine (List.Pairwise.filter _ List.pairwise_lt_range).imp fun h => ?_
  exact Int.ofNat_lt.2 h
theorem colsV_mem {cs : List T_impl_Column} {e : List T_impl_Part} {x : Int} (h : x ∈ colsV cs e) : 0 ≤ x ∧ x < cs.length := by
 unfold colsV at h
 cases hk : decide (0 ≤ exprKind cs e) with
 | false =>
  rw [hk] at h
  cases h
 | true =>
  rw [hk, cond_true, List.mem_map] at h
  obtain ⟨k, hk, rfl⟩ := h
  have := List.mem_range.1 (List.mem_filter.1 hk).1
  exact ⟨Int.natCast_nonneg _, by show (k : Int) < _; omega⟩
theorem colsV_len (cs : List T_impl_Column) (e : List T_impl_Part) : (colsV cs e).length ≤ cs.length := by
 unfold colsV
 cases decide (0 ≤ exprKind cs e)
 ·exact Nat.zero_le _
 ·rw [cond_true, List.length_map]
  exact Nat.le_trans (List.length_filter_le _ _) (by simp)
theorem colsV_has {cs : List T_impl_Column} {e : List T_impl_Part} (h : 0 ≤ exprKind cs e) {k : Nat} (hk : k < cs.length) : (k : Int) ∈ colsV cs e ↔ asked e k = true := by
 unfold colsV
 rw [decide_eq_true h, cond_true, List.mem_map]
 constructor
 ·rintro ⟨j, hj, ej⟩
  have : j = k := Int.ofNat_inj.1 ej
  subst this
  exact (List.mem_filter.1 hj).2
 ·intro ha
  exact ⟨k, List.mem_filter.2 ⟨List.mem_range.2 hk, ha⟩, rfl⟩
theorem colsV_eq {cs : List T_impl_Column} {e : List T_impl_Part} (h : 0 ≤ exprKind cs e) : Lib.compact ((colsL e).mergeSort fun x y => decide (x ≤ y)) = colsV cs e := by
 obtain ⟨h1, h2⟩ := compact_sort (colsL e)
 refine asc_ext h1 (colsV_asc cs e) fun x => ?_
 rw [h2]
 unfold colsL
 rw [List.mem_map]
 constructor
 ·rintro ⟨p, hp, rfl⟩
  obtain ⟨hp1, hp2⟩ := List.mem_filter.1 hp
  have hp2 := beq_iff_eq.1 hp2
  obtain ⟨a1, a2⟩ := run_cols e [] (kind_run h).1 p hp1 hp2
  obtain ⟨k, hk⟩ := Int.eq_ofNat_of_zero_le a1
  rw [hk, colsV_has h (by omega)]
  unfold asked
  rw [List.any_eq_true]
  exact ⟨p, hp1, by simp [hp2, hk]⟩
 ·intro hx
  obtain ⟨a1, a2⟩ := colsV_mem hx
  obtain ⟨k, rfl⟩ := Int.eq_ofNat_of_zero_le a1
  rw [colsV_has h (by omega)] at hx
  unfold asked at hx
  rw [List.any_eq_true] at hx
  obtain ⟨p, hp, hq⟩ := hx
  simp only [Bool.and_eq_true, beq_iff_eq] at hq
  exact ⟨p, List.mem_filter.2 ⟨hp, by simp [hq.1]⟩, hq.2⟩
theorem spec_found {e : List T_impl_Part} (he : e.length ≤ 2097152) (k : Nat) (acc : List Int) (hacc : acc.length ≤ 2097152) (K : Int → List Int → Option (List Int)) :
  spec_ExprColumns_l3 e (k : Int) acc K FUEL false 0 = bif asked e k then K (w64 ((k : Int) + 1)) (acc ++ [(k : Int)]) else K (w64 ((k : Int) + 1)) acc := by
 have := loop_opt (xs := e) (L := fun f i (s : Bool) => spec_ExprColumns_l3 e (k : Int) acc K f s i) (fun rest s => bif s || asked rest k then K (w64 ((k : Int) + 1)) (acc ++ [(k : Int)]) else K (w64 ((k : Int) + 1)) acc) (fun _ _ => True) (by omega)
  (fun f i s p hi hv hw _ => by
   refine .inr ⟨s || (p.fKind == 2 && p.fN == (k : Int)), trivial, ?_, ?_⟩
   ·rw [spec_ExprColumns_l3, decide_eq_true (by omega), cond_true, getI_nat, hv]
    cases s
    ·rw [cond_false, Option.bind_some, Option.bind_some]
     cases p.fKind == 2
     ·rw [cond_false, spec_ExprColumns_j4, hw]; rfl
     ·rw [cond_true, spec_ExprColumns_j4, hw]; rfl
    ·rw [cond_true, spec_ExprColumns_j4, hw]; rfl
   ·unfold asked
    rw [List.any_cons, Bool.or_assoc])
  (fun f s _ => by
   rw [spec_ExprColumns_l3, decide_eq_false (Int.lt_irrefl _), cond_false]
   cases s
   ·rfl
   ·rw [cond_true, app_lt (by simp; omega)]; rfl) (s := false) trivial
 rw [Bool.false_or] at this
 exact this
theorem spec_cols {cs : List T_impl_Column} {e : List T_impl_Part} (hc : Sm cs.length) (hl : e.length ≤ 2097152) (hp : ∀ p ∈ e, SmP p) : spec_ExprColumns cs e = some (colsV cs e) := by
 unfold spec_ExprColumns
 cases hk : decide (0 ≤ exprKind cs e) with
 | false =>
  have hv : colsV cs e = [] := by
   unfold colsV
   rw [hk]
   rfl
  have hd : decide (exprKind cs e ≥ 0) = false := hk
  rw [hv, spec_ExprColumns_l0.eq_def]
  show (bif _ then _ else _) = _
  rw [spec_exprKind hc hl hp, Option.bind_some, hd]
  cases decide ((0 : Int) < cs.length) <;> rfl
 | true =>
  have h := of_decide_eq_true hk
  have hd : decide (exprKind cs e ≥ 0) = true := hk
  have := loop_opt (xs := cs) (L := fun f i (s : List Int) => spec_ExprColumns_l0 cs e f i s) (fun _ _ => some (colsV cs e)) (fun i s => s = ((List.range i).filter (asked e)).map Int.ofNat) (by omega)
   (fun f i s c hi hv hw hI => by
    subst hI
    have hs : (((List.range i).filter (asked e)).map Int.ofNat).length ≤ 2097152 := by
     rw [List.length_map]
     have := List.length_filter_le (asked e) (List.range i)
     rw [List.length_range] at this
     omega
    refine .inr ⟨_, rfl, ?_, rfl⟩
    rw [spec_ExprColumns_l0, decide_eq_true (by omega), cond_true, spec_exprKind hc hl hp, Option.bind_some, hd, spec_ExprColumns_j1, cond_true, spec_found hl i _ hs, hw, List.range_succ, List.filter_append, List.map_append]
    cases ha : asked e i
    ·simp [ha]
    ·simp [ha])
   (fun f s hI => by
    subst hI
    rw [spec_ExprColumns_l0, decide_eq_false (Int.lt_irrefl _), cond_false]
    unfold colsV
    rw [hk]
    rfl) (s := []) rfl
  exact this
end Go.D
set_option linter.unusedVariables false
namespace Go.D
open Go.Proofs
theorem rd_3 : Rd Try.prog 3 Int intW := rd_int Try.underlying3 (by kernel_rfl)
theorem rd_4 : Rd Try.prog 4 Bool boolW := rd_bool Try.underlying4 (by kernel_rfl)
def W_T_laws_Column (x : T_laws_Column) : Prop := intW x.fKind ∧ boolW x.fEmpty
theorem spl_67 (cs : List Value) (hc : cs.length = 2) : cs = (cs.drop 0).take 1 ++ ((cs.drop 1).take 1) := by
 match cs, hc with
 | [c0, c1], _ => rfl
theorem rd_67 : Rd Try.prog 67 T_laws_Column W_T_laws_Column := ⟨by kernel_rfl, fun H enc w base sp held fuel cs x h => by
 obtain ⟨xs, n, _, rfl, hl, hlen, hf⟩ := DataW.trod_struct Try.underlying67 h
 match xs, hlen, hf with
 | [z0, z1], _, hf =>
 obtain ⟨y0, h0, w0⟩ := (rd_3).2 H enc w base sp held n _ _ (hf 0 _ rfl)
 obtain ⟨y1, h1, w1⟩ := (rd_4).2 H enc w base sp held n _ _ (hf 1 _ rfl)
 refine ⟨⟨y0, y1⟩, ?_, w0, w1⟩
 have hc : cs.length = 2 := hl.trans (by kernel_rfl)
 have h0 : FrL w (fun _ => False) (Enc.cells y0) ((cs.drop 0).take (Try.prog.cellsOf 3)) := h0
 rw [rd_3.1] at h0
 have k0 : FrL w (fun _ => False) (Enc.cells y0) ((cs.drop 0).take 1) := h0
 have h1 : FrL w (fun _ => False) (Enc.cells y1) ((cs.drop 1).take (Try.prog.cellsOf 4)) := h1
 rw [rd_4.1] at h1
 have k1 : FrL w (fun _ => False) (Enc.cells y1) ((cs.drop 1).take 1) := h1
 rw [spl_67 cs hc]
 exact (FrL.append k0 k1)⟩
theorem rd_39 : Rd Try.prog 39 (List T_laws_Column) (listW W_T_laws_Column) := rd_slice Try.underlying39 (by kernel_rfl) rd_67
theorem rd_9 : Rd Try.prog 9 ByteArray strW := rd_str Try.underlying9 (by kernel_rfl)
def W_T_laws_Value (x : T_laws_Value) : Prop := intW x.fKind ∧ intW x.fN ∧ strW x.fS
theorem spl_63 (cs : List Value) (hc : cs.length = 3) : cs = (cs.drop 0).take 1 ++ ((cs.drop 1).take 1 ++ ((cs.drop 2).take 1)) := by
 match cs, hc with
 | [c0, c1, c2], _ => rfl
theorem rd_63 : Rd Try.prog 63 T_laws_Value W_T_laws_Value := ⟨by kernel_rfl, fun H enc w base sp held fuel cs x h => by
 obtain ⟨xs, n, _, rfl, hl, hlen, hf⟩ := DataW.trod_struct Try.underlying63 h
 match xs, hlen, hf with
 | [z0, z1, z2], _, hf =>
 obtain ⟨y0, h0, w0⟩ := (rd_3).2 H enc w base sp held n _ _ (hf 0 _ rfl)
 obtain ⟨y1, h1, w1⟩ := (rd_3).2 H enc w base sp held n _ _ (hf 1 _ rfl)
 obtain ⟨y2, h2, w2⟩ := (rd_9).2 H enc w base sp held n _ _ (hf 2 _ rfl)
 refine ⟨⟨y0, y1, y2⟩, ?_, w0, w1, w2⟩
 have hc : cs.length = 3 := hl.trans (by kernel_rfl)
 have h0 : FrL w (fun _ => False) (Enc.cells y0) ((cs.drop 0).take (Try.prog.cellsOf 3)) := h0
 rw [rd_3.1] at h0
 have k0 : FrL w (fun _ => False) (Enc.cells y0) ((cs.drop 0).take 1) := h0
 have h1 : FrL w (fun _ => False) (Enc.cells y1) ((cs.drop 1).take (Try.prog.cellsOf 3)) := h1
 rw [rd_3.1] at h1
 have k1 : FrL w (fun _ => False) (Enc.cells y1) ((cs.drop 1).take 1) := h1
 have h2 : FrL w (fun _ => False) (Enc.cells y2) ((cs.drop 2).take (Try.prog.cellsOf 9)) := h2
 rw [rd_9.1] at h2
 have k2 : FrL w (fun _ => False) (Enc.cells y2) ((cs.drop 2).take 1) := h2
 rw [spl_63 cs hc]
 exact (FrL.append k0 (FrL.append k1 k2))⟩
def W_T_laws_Part (x : T_laws_Part) : Prop := intW x.fKind ∧ intW x.fN ∧ W_T_laws_Value x.fV
theorem spl_65 (cs : List Value) (hc : cs.length = 5) : cs = (cs.drop 0).take 1 ++ ((cs.drop 1).take 1 ++ ((cs.drop 2).take 3)) := by
 match cs, hc with
 | [c0, c1, c2, c3, c4], _ => rfl
theorem rd_65 : Rd Try.prog 65 T_laws_Part W_T_laws_Part := ⟨by kernel_rfl, fun H enc w base sp held fuel cs x h => by
 obtain ⟨xs, n, _, rfl, hl, hlen, hf⟩ := DataW.trod_struct Try.underlying65 h
 match xs, hlen, hf with
 | [z0, z1, z2], _, hf =>
 obtain ⟨y0, h0, w0⟩ := (rd_3).2 H enc w base sp held n _ _ (hf 0 _ rfl)
 obtain ⟨y1, h1, w1⟩ := (rd_3).2 H enc w base sp held n _ _ (hf 1 _ rfl)
 obtain ⟨y2, h2, w2⟩ := (rd_63).2 H enc w base sp held n _ _ (hf 2 _ rfl)
 refine ⟨⟨y0, y1, y2⟩, ?_, w0, w1, w2⟩
 have hc : cs.length = 5 := hl.trans (by kernel_rfl)
 have h0 : FrL w (fun _ => False) (Enc.cells y0) ((cs.drop 0).take (Try.prog.cellsOf 3)) := h0
 rw [rd_3.1] at h0
 have k0 : FrL w (fun _ => False) (Enc.cells y0) ((cs.drop 0).take 1) := h0
 have h1 : FrL w (fun _ => False) (Enc.cells y1) ((cs.drop 1).take (Try.prog.cellsOf 3)) := h1
 rw [rd_3.1] at h1
 have k1 : FrL w (fun _ => False) (Enc.cells y1) ((cs.drop 1).take 1) := h1
 have h2 : FrL w (fun _ => False) (Enc.cells y2) ((cs.drop 2).take (Try.prog.cellsOf 63)) := h2
 rw [rd_63.1] at h2
 have k2 : FrL w (fun _ => False) (Enc.cells y2) ((cs.drop 2).take 3) := h2
 rw [spl_65 cs hc]
 exact (FrL.append k0 (FrL.append k1 k2))⟩
theorem rd_40 : Rd Try.prog 40 (List T_laws_Part) (listW W_T_laws_Part) := rd_slice Try.underlying40 (by kernel_rfl) rd_65
end Go.D
set_option linter.unusedVariables false
namespace Go.D
def Ok_Column (x : T_laws_Column) : Prop := True
def c_Column (x : T_laws_Column) : T_impl_Column := ⟨x.fKind, x.fEmpty⟩
theorem to_Column (x : T_laws_Column) (h : Ok_Column x) : laws_toColumn x = some (c_Column x) := rfl
def OkI_Column (x : T_impl_Column) : Prop := True
theorem eq_Column (x : T_impl_Column) (h : OkI_Column x) : laws_eqColumn x x = some true := by
 unfold laws_eqColumn
 simp only [beq_self_eq_true, Bool.not_true, cond_false]
theorem sz_ColumnS : SzP laws_szColumnS (listW W_T_laws_Column) (okL Ok_Column) := sz_flat (fun _ => trivial) (fun _ h => h.1) (fun _ _ => rfl)
theorem to_ColumnS (xs : List T_laws_Column) (h : (okL Ok_Column) xs) : laws_toColumnS xs = some (xs.map c_Column) := to_loop (S := laws_toColumnS) (L := laws_toColumnS_l0) to_Column (fun _ => rfl) (fun _ _ _ _ => rfl) xs h
theorem eq_ColumnS (xs : List T_impl_Column) (h : (okL OkI_Column) xs) : laws_eqColumnS xs xs = some true := eq_loop (S := laws_eqColumnS) (L := laws_eqColumnS_l0) eq_Column (fun _ _ => rfl) (fun _ _ _ _ => rfl) xs h
def Ok_Value (x : T_laws_Value) : Prop := x.fS.size ≤ 1048576
theorem sz_Value : SzP laws_szValue W_T_laws_Value Ok_Value := by
 have h := sz_one (z := laws_szValue) (W := W_T_laws_Value) (fun x => x.fS.size) (fun x h => h.2.2) (fun x n => by unfold laws_szValue; rfl)
 exact h
def c_Value (x : T_laws_Value) : T_impl_Value := ⟨x.fKind, x.fN, x.fS⟩
theorem to_Value (x : T_laws_Value) (h : Ok_Value x) : laws_toValue x = some (c_Value x) := rfl
def OkI_Value (x : T_impl_Value) : Prop := True
theorem eq_Value (x : T_impl_Value) (h : OkI_Value x) : laws_eqValue x x = some true := by
 unfold laws_eqValue
 simp only [beq_self_eq_true, Bool.not_true, cond_false]
def Ok_Part (x : T_laws_Part) : Prop := Ok_Value x.fV
theorem sz_Part : SzP laws_szPart W_T_laws_Part Ok_Part := by
 intro x n hW h0 hn
 obtain ⟨w0, w1, w2⟩ := hW
 unfold laws_szPart Ok_Part
 obtain ⟨r0, e0, k0⟩ := sz_Value x.fV n w2 (by omega) (by omega)
 rw [e0, Option.bind_some]
 rcases k0 with k0 | ⟨p0, q0, o0⟩
 ·exact ⟨-1, by rw [decide_eq_true k0, cond_true], .inl (by omega)⟩
 rw [decide_eq_false (show ¬ r0 < 0 by omega), cond_false]
 exact ⟨r0, rfl, .inr ⟨by omega, by omega, o0⟩⟩
def c_Part (x : T_laws_Part) : T_impl_Part := ⟨x.fKind, x.fN, (c_Value x.fV)⟩
theorem to_Part (x : T_laws_Part) (h : Ok_Part x) : laws_toPart x = some (c_Part x) := by
 unfold laws_toPart
 rw [to_Value x.fV h, Option.bind_some]
 rfl
def OkI_Part (x : T_impl_Part) : Prop := OkI_Value x.fV
theorem eq_Part (x : T_impl_Part) (h : OkI_Part x) : laws_eqPart x x = some true := by
 unfold laws_eqPart
 simp only [beq_self_eq_true, Bool.not_true, cond_false, eq_Value x.fV h, Option.bind_some]
theorem sz_PartS : SzP laws_szPartS (listW W_T_laws_Part) (okL Ok_Part) := sz_loop sz_Part (fun _ _ => rfl) (fun _ _ _ _ => rfl)
theorem to_PartS (xs : List T_laws_Part) (h : (okL Ok_Part) xs) : laws_toPartS xs = some (xs.map c_Part) := to_loop (S := laws_toPartS) (L := laws_toPartS_l0) to_Part (fun _ => rfl) (fun _ _ _ _ => rfl) xs h
theorem eq_PartS (xs : List T_impl_Part) (h : (okL OkI_Part) xs) : laws_eqPartS xs xs = some true := eq_loop (S := laws_eqPartS) (L := laws_eqPartS_l0) eq_Part (fun _ _ => rfl) (fun _ _ _ _ => rfl) xs h
end Go.D
set_option linter.unusedVariables false
namespace Go.D
theorem sm_value {v : T_laws_Value} (h : Ok_Value v) : SmV (c_Value v) := Nat.le_trans h (by omega)
theorem okL_map {α β : Type} {ok : α → Prop} {ok' : β → Prop} {f : α → β} (hf : ∀ x, ok x → ok' (f x)) {xs : List α} (h : okL ok xs) : okL ok' (xs.map f) :=
 ⟨by rw [List.length_map]; exact h.1, fun y hy => by
  obtain ⟨x, hx, rfl⟩ := List.mem_map.1 hy
  exact hf x (h.2 x hx)⟩
theorem okL_sm {α : Type} {ok : α → Prop} {xs : List α} (h : okL ok xs) : Sm xs.length := Nat.le_trans h.1 (by omega)
end Go.D
set_option linter.unusedVariables false
namespace Go.D
theorem getI_setM {α : Type} {xs : List α} {i : Nat} {v : α} (h : i < xs.length) : getI (xs.set i v) (i : Int) = some v := by
 rw [getI_nat, List.getElem?_set_self h]
abbrev TOP : Int := 4611686018427387904
theorem w_succ {k : Int} (h0 : 0 ≤ k) (h1 : k < TOP) : w64 (k + 1) = k + 1 := w64_of (by omega) (by unfold TOP at h1; omega)
theorem mark_loop {α : Type} {M : Nat → Int → Int → List α → Option (Int × List α)} {H : List α → Nat → Int → Int → Option Int} {P : α → Prop} (c : Int) (hc : 0 ≤ c)
  (hm : ∀ (f : Nat) (k : Int) (i : Nat) (xs : List α) (x : α), xs[i]? = some x → xs.length ≤ 2097152 → P x → 0 ≤ k → k + c ≤ TOP → ∃ k' x', M (f + 1) k (i : Int) xs = M f k' ((i + 1 : Nat) : Int) (xs.set i x') ∧ k ≤ k' ∧ k' ≤ k + c ∧
   ∀ (ys : List α) (g : Nat), ys[i]? = some x' → ys.length ≤ 2097152 → H ys (g + 1) k (i : Int) = H ys g k' ((i + 1 : Nat) : Int))
  (he : ∀ (f : Nat) (k : Int) (xs : List α), M (f + 1) k (xs.length : Int) xs = some (k, xs))
  (hh : ∀ (g : Nat) (k : Int) (ys : List α), H ys (g + 1) k (ys.length : Int) = some k) :
  ∀ (m i : Nat) (xs : List α) (k : Int) (f : Nat), xs.length = i + m → xs.length ≤ 2097152 → m < f → (∀ (j : Nat) x, i ≤ j → xs[j]? = some x → P x) → 0 ≤ k → k + m * c ≤ TOP →
   ∃ k' ys, M f k (i : Int) xs = some (k', ys) ∧ ys.length = xs.length ∧ (∀ j, j < i → ys[j]? = xs[j]?) ∧ k ≤ k' ∧ k' ≤ k + m * c ∧ ∀ g, m < g → H ys g k (i : Int) = some k'
 | 0, i, xs, k, f, hl, hn, hf, hP, h0, hK => by
  obtain ⟨f, rfl⟩ : ∃ f', f = f' + 1 := ⟨f - 1, by omega⟩
  have e : (i : Int) = (xs.length : Int) := by rw [hl]; simp
  refine ⟨k, xs, by rw [e]; exact he f k xs, rfl, fun _ _ => rfl, by omega, by simp, fun g hg => ?_⟩
  obtain ⟨g, rfl⟩ : ∃ g', g = g' + 1 := ⟨g - 1, by omega⟩
  rw [e]
  exact hh g k xs
 | m + 1, i, xs, k, f, hl, hn, hf, hP, h0, hK => by
  obtain ⟨f, rfl⟩ : ∃ f', f = f' + 1 := ⟨f - 1, by omega⟩
  have hi : i < xs.length := by omega
  have hx : xs[i]? = some xs[i] := List.getElem?_eq_getElem hi
  have hmc : ((m + 1 : Nat) : Int) * c = m * c + c := by rw [Int.natCast_add, Int.add_mul]; simp
  have hmc0 : 0 ≤ (m : Int) * c := Int.mul_nonneg (by omega) hc
  rw [hmc] at hK
  obtain ⟨k1, x1, e1, p1, q1, r1⟩ := hm f k i xs xs[i] hx hn (hP i _ (Nat.le_refl _) hx) h0 (by omega)
  obtain ⟨k2, ys, e2, l2, s2, p2, q2, r2⟩ := mark_loop c hc hm he hh m (i + 1) (xs.set i x1) k1 f (by rw [List.length_set]; omega) (by rw [List.length_set]; exact hn) (by omega)
   (fun j x hj hxj => hP j x (by omega) (by rwa [List.getElem?_set_ne (by omega)] at hxj)) (by omega) (by omega)
  rw [List.length_set] at l2
  refine ⟨k2, ys, e1.trans e2, l2, fun j hj => ?_, by omega, by rw [hmc]; omega, fun g hg => ?_⟩
  ·rw [s2 j (by omega), List.getElem?_set_ne (by omega)]
  ·obtain ⟨g, rfl⟩ : ∃ g', g = g' + 1 := ⟨g - 1, by omega⟩
   rw [r1 ys g (by rw [s2 i (by omega), List.getElem?_set_self hi]) (by omega)]
   exact r2 g (by omega)
def MkP {α : Type} (M : α → Int → Option (Int × α)) (H : α → Int → Option Int) (P : α → Prop) (c : Int) : Prop :=
 ∀ x k, P x → 0 ≤ k → k + c ≤ TOP → ∃ k' x', M x k = some (k', x') ∧ k ≤ k' ∧ k' ≤ k + c ∧ H x' k = some k'
theorem mark_all {α : Type} {S : List α → Int → Option (Int × List α)} {T : List α → Int → Option Int} {M : Nat → Int → Int → List α → Option (Int × List α)} {H : List α → Nat → Int → Int → Option Int} {P : α → Prop} (c : Int) (hc : 0 ≤ c)
  (hS : ∀ xs k, S xs k = M FUEL k 0 xs) (hT : ∀ xs k, T xs k = H xs FUEL k 0)
  (hm : ∀ (f : Nat) (k : Int) (i : Nat) (xs : List α) (x : α), xs[i]? = some x → xs.length ≤ 2097152 → P x → 0 ≤ k → k + c ≤ TOP → ∃ k' x', M (f + 1) k (i : Int) xs = M f k' ((i + 1 : Nat) : Int) (xs.set i x') ∧ k ≤ k' ∧ k' ≤ k + c ∧
   ∀ (ys : List α) (g : Nat), ys[i]? = some x' → ys.length ≤ 2097152 → H ys (g + 1) k (i : Int) = H ys g k' ((i + 1 : Nat) : Int))
  (he : ∀ (f : Nat) (k : Int) (xs : List α), M (f + 1) k (xs.length : Int) xs = some (k, xs))
  (hh : ∀ (g : Nat) (k : Int) (ys : List α), H ys (g + 1) k (ys.length : Int) = some k) : MkP S T (okL P) (1048576 * c) := by
 intro xs k hP h0 hK
 have hn : (xs.length : Int) * c ≤ 1048576 * c := Int.mul_le_mul_of_nonneg_right (by have := hP.1; omega) hc
 have hF : xs.length < FUEL := by have := hP.1; unfold FUEL; omega
 obtain ⟨k', ys, e, l, _, p, q, r⟩ := mark_loop c hc hm he hh xs.length 0 xs k FUEL (by simp) (by have := hP.1; omega) hF (fun j x _ hx => hP.2 x (List.mem_of_getElem? hx)) h0 (by omega)
 exact ⟨k', ys, by rw [hS]; exact e, p, by omega, by rw [hT]; exact r FUEL hF⟩
def MkT {α : Type} (M : α → Int → Option (Int × α)) (P : α → Prop) (c : Int) : Prop :=
 ∀ x k, P x → 0 ≤ k → k + c ≤ TOP → ∃ k' x', M x k = some (k', x') ∧ k ≤ k' ∧ k' ≤ k + c
theorem mark_loopT {α : Type} {M : Nat → Int → Int → List α → Option (Int × List α)} {P : α → Prop} (c : Int) (hc : 0 ≤ c)
  (hm : ∀ (f : Nat) (k : Int) (i : Nat) (xs : List α) (x : α), xs[i]? = some x → xs.length ≤ 2097152 → P x → 0 ≤ k → k + c ≤ TOP → ∃ k' x', M (f + 1) k (i : Int) xs = M f k' ((i + 1 : Nat) : Int) (xs.set i x') ∧ k ≤ k' ∧ k' ≤ k + c)
  (he : ∀ (f : Nat) (k : Int) (xs : List α), M (f + 1) k (xs.length : Int) xs = some (k, xs)) :
  ∀ (m i : Nat) (xs : List α) (k : Int) (f : Nat), xs.length = i + m → xs.length ≤ 2097152 → m < f → (∀ (j : Nat) x, i ≤ j → xs[j]? = some x → P x) → 0 ≤ k → k + m * c ≤ TOP →
   ∃ k' ys, M f k (i : Int) xs = some (k', ys) ∧ k ≤ k' ∧ k' ≤ k + m * c
 | 0, i, xs, k, f, hl, hn, hf, hP, h0, hK => by
  obtain ⟨f, rfl⟩ : ∃ f', f = f' + 1 := ⟨f - 1, by omega⟩
  have e : (i : Int) = (xs.length : Int) := by rw [hl]; simp
  exact ⟨k, xs, by rw [e]; exact he f k xs, by omega, by simp⟩
 | m + 1, i, xs, k, f, hl, hn, hf, hP, h0, hK => by
  obtain ⟨f, rfl⟩ : ∃ f', f = f' + 1 := ⟨f - 1, by omega⟩
  have hi : i < xs.length := by omega
  have hx : xs[i]? = some xs[i] := List.getElem?_eq_getElem hi
  have hmc : ((m + 1 : Nat) : Int) * c = m * c + c := by rw [Int.natCast_add, Int.add_mul]; simp
  have hmc0 : 0 ≤ (m : Int) * c := Int.mul_nonneg (by omega) hc
  rw [hmc] at hK
  obtain ⟨k1, x1, e1, p1, q1⟩ := hm f k i xs xs[i] hx hn (hP i _ (Nat.le_refl _) hx) h0 (by omega)
  obtain ⟨k2, ys, e2, p2, q2⟩ := mark_loopT c hc hm he m (i + 1) (xs.set i x1) k1 f (by rw [List.length_set]; omega) (by rw [List.length_set]; exact hn) (by omega)
   (fun j x hj hxj => hP j x (by omega) (by rwa [List.getElem?_set_ne (by omega)] at hxj)) (by omega) (by omega)
  exact ⟨k2, ys, e1.trans e2, by omega, by rw [hmc]; omega⟩
theorem mark_allT {α : Type} {S : List α → Int → Option (Int × List α)} {M : Nat → Int → Int → List α → Option (Int × List α)} {P : α → Prop} (c : Int) (hc : 0 ≤ c)
  (hS : ∀ xs k, S xs k = M FUEL k 0 xs)
  (hm : ∀ (f : Nat) (k : Int) (i : Nat) (xs : List α) (x : α), xs[i]? = some x → xs.length ≤ 2097152 → P x → 0 ≤ k → k + c ≤ TOP → ∃ k' x', M (f + 1) k (i : Int) xs = M f k' ((i + 1 : Nat) : Int) (xs.set i x') ∧ k ≤ k' ∧ k' ≤ k + c)
  (he : ∀ (f : Nat) (k : Int) (xs : List α), M (f + 1) k (xs.length : Int) xs = some (k, xs)) : MkT S (okL P) (1048576 * c) := by
 intro xs k hP h0 hK
 have hn : (xs.length : Int) * c ≤ 1048576 * c := Int.mul_le_mul_of_nonneg_right (by have := hP.1; omega) hc
 have hF : xs.length < FUEL := by have := hP.1; unfold FUEL; omega
 obtain ⟨k', ys, e, p, q⟩ := mark_loopT c hc hm he xs.length 0 xs k FUEL (by simp) (by have := hP.1; omega) hF (fun j x _ hx => hP.2 x (List.mem_of_getElem? hx)) h0 (by omega)
 exact ⟨k', ys, by rw [hS]; exact e, p, by omega⟩
theorem addS_of {a b : ByteArray} (h : a.size + b.size ≤ 4611686018427387904) : addS a b = some (a ++ b) := if_pos h
end Go.D
set_option linter.unusedVariables false
set_option linter.unusedSimpArgs false
namespace Go.D
theorem markText_l0 : ∀ (d f : Nat) (x : Int) (s : ByteArray), 0 ≤ x → x < 10 ^ d → d < f → s.size + d ≤ 1000 → x ≤ 4611686018427387904 → ∃ t, laws_markText_l0 f x s = some t := by
 intro d
 induction d with
 | zero =>
  intro f x s h0 h1 hf hs hx
  obtain ⟨f, rfl⟩ : ∃ f', f = f' + 1 := ⟨f - 1, by omega⟩
  have e : x = 0 := by simp at h1; omega
  subst e
  rw [laws_markText_l0, decide_eq_false (by omega), cond_false, addS_of (by have : (ByteArray.mk #[109]).size = 1 := rfl; omega)]
  exact ⟨_, rfl⟩
 | succ d ih =>
  intro f x s h0 h1 hf hs hx
  obtain ⟨f, rfl⟩ : ∃ f', f = f' + 1 := ⟨f - 1, by omega⟩
  rw [laws_markText_l0]
  by_cases hp : x > 0
  ·rw [decide_eq_true hp, cond_true, addS_of (by have : ∀ b : UInt8, (ByteArray.mk (List.toArray ([b] : List UInt8))).size = 1 := fun _ => rfl; rw [this]; omega), Option.bind_some]
   have e : x.tdiv 10 = x / 10 := Int.tdiv_eq_ediv_of_nonneg h0
   have h2 : x < 10 * 10 ^ d := by rw [Int.pow_succ] at h1; omega
   have h3 : w64 (x.tdiv 10) = x / 10 := by rw [e]; exact w64_of (by omega) (by omega)
   rw [h3]
   refine ih f (x / 10) _ (by omega) ?_ (by omega) ?_ (by omega)
   ·generalize (10 : Int) ^ d = q at *
    omega
   ·rw [ByteArray.size_append]
    have : ∀ b : UInt8, (ByteArray.mk (List.toArray ([b] : List UInt8))).size = 1 := fun _ => rfl
    rw [this]; omega
  ·rw [decide_eq_false hp, cond_false, addS_of (by have : (ByteArray.mk #[109]).size = 1 := rfl; omega)]
   exact ⟨_, rfl⟩
theorem mark_text {k : Int} (h0 : 0 ≤ k) (h1 : k ≤ TOP) : ∃ t, laws_markText k = some t := by
 unfold laws_markText
 by_cases h : k ≤ 0
 ·rw [decide_eq_true h, cond_true]
  exact ⟨_, rfl⟩
 ·rw [decide_eq_false h, cond_false]
  exact markText_l0 19 FUEL k _ h0 (by unfold TOP at h1; omega) (by unfold FUEL; omega) (by decide) h1
theorem mk_ColumnS : MkT laws_markColumnS (okL (fun _ => True)) (1048576 * 2) :=
 mark_allT (M := laws_markColumnS_l0) 2 (by omega) (fun _ _ => rfl) (by
  intro f k i xs x hx hn hP h0 hK
  have hi : i < xs.length := (List.getElem?_eq_some_iff.1 hx).1
  have hd : decide ((i : Int) < (xs.length : Int)) = true := decide_eq_true (by omega)
  have hs : w64 ((i : Int) + 1) = ((i + 1 : Nat) : Int) := succ_w hi (by omega)
  have hg0 : getI xs (i : Int) = some x := by rw [getI_nat]; exact hx
  have hg : ∀ v, getI (xs.set i v) (i : Int) = some v := fun v => getI_setM hi
  have w1 : w64 (k + 1) = k + 1 := w_succ (by omega) (by unfold TOP at *; omega)
  have w2 : w64 (k + 1 + 1) = k + 1 + 1 := w_succ (by omega) (by unfold TOP at *; omega)
  apply Exists.intro
  apply Exists.intro
  refine ⟨?_, ?_, ?_⟩
  ·rw [laws_markColumnS_l0]
   simp only [hd, cond_true, hs, Int.toNat_natCast, hg0, hg, Option.bind_some, List.set_set, w1, w2]
   rfl
  ·omega
  ·omega)
  (fun f k xs => by simp only [laws_markColumnS_l0, Int.lt_irrefl, decide_false, cond_false])
theorem mk_IntS : MkP laws_markIntS laws_heldIntS (okL (fun _ => True)) (1048576 * 1) :=
 mark_all (M := laws_markIntS_l0) (H := laws_heldIntS_l0) 1 (by omega) (fun _ _ => rfl) (fun _ _ => rfl) (by
  intro f k i xs x hx hn hP h0 hK
  have hi : i < xs.length := (List.getElem?_eq_some_iff.1 hx).1
  have hd : decide ((i : Int) < (xs.length : Int)) = true := decide_eq_true (by omega)
  have hs : w64 ((i : Int) + 1) = ((i + 1 : Nat) : Int) := succ_w hi (by omega)
  have hg0 : getI xs (i : Int) = some x := by rw [getI_nat]; exact hx
  have hg : ∀ v, getI (xs.set i v) (i : Int) = some v := fun v => getI_setM hi
  have w1 : w64 (k + 1) = k + 1 := w_succ (by omega) (by unfold TOP at *; omega)
  apply Exists.intro
  apply Exists.intro
  refine ⟨?_, ?_, ?_, fun ys g hy hl => ?_⟩
  ·rw [laws_markIntS_l0]
   simp only [hd, cond_true, hs, Int.toNat_natCast, hg0, hg, Option.bind_some, List.set_set, w1]
   rfl
  ·omega
  ·omega
  ·have hi2 : i < ys.length := (List.getElem?_eq_some_iff.1 hy).1
   have hd2 : decide ((i : Int) < (ys.length : Int)) = true := decide_eq_true (by omega)
   have hy2 := hy
   rw [← getI_nat] at hy2
   rw [laws_heldIntS_l0]
   simp only [hd2, cond_true, hs, hy2, Option.bind_some, beq_self_eq_true, Bool.not_true, cond_false, w1])
  (fun f k xs => by simp only [laws_markIntS_l0, Int.lt_irrefl, decide_false, cond_false])
  (fun g k ys => by simp only [laws_heldIntS_l0, Int.lt_irrefl, decide_false, cond_false])
theorem mk_PartS : MkT laws_markPartS (okL (fun _ => True)) (1048576 * 5) :=
 mark_allT (M := laws_markPartS_l0) 5 (by omega) (fun _ _ => rfl) (by
  intro f k i xs x hx hn hP h0 hK
  have hi : i < xs.length := (List.getElem?_eq_some_iff.1 hx).1
  have hd : decide ((i : Int) < (xs.length : Int)) = true := decide_eq_true (by omega)
  have hs : w64 ((i : Int) + 1) = ((i + 1 : Nat) : Int) := succ_w hi (by omega)
  have hg0 : getI xs (i : Int) = some x := by rw [getI_nat]; exact hx
  have hg : ∀ v, getI (xs.set i v) (i : Int) = some v := fun v => getI_setM hi
  have w1 : w64 (k + 1) = k + 1 := w_succ (by omega) (by unfold TOP at *; omega)
  have w2 : w64 (k + 1 + 1) = k + 1 + 1 := w_succ (by omega) (by unfold TOP at *; omega)
  have w3 : w64 (k + 1 + 1 + 1) = k + 1 + 1 + 1 := w_succ (by omega) (by unfold TOP at *; omega)
  have w4 : w64 (k + 1 + 1 + 1 + 1) = k + 1 + 1 + 1 + 1 := w_succ (by omega) (by unfold TOP at *; omega)
  obtain ⟨t5, e5⟩ := mark_text (k := k + 1 + 1 + 1 + 1) (by omega) (by unfold TOP at *; omega)
  have w5 : w64 (k + 1 + 1 + 1 + 1 + 1) = k + 1 + 1 + 1 + 1 + 1 := w_succ (by omega) (by unfold TOP at *; omega)
  apply Exists.intro
  apply Exists.intro
  refine ⟨?_, ?_, ?_⟩
  ·rw [laws_markPartS_l0]
   simp only [hd, cond_true, hs, Int.toNat_natCast, hg0, hg, Option.bind_some, List.set_set, w1, w2, w3, w4, e5, w5]
   rfl
  ·omega
  ·omega)
  (fun f k xs => by simp only [laws_markPartS_l0, Int.lt_irrefl, decide_false, cond_false])
end Go.D
set_option linter.unusedVariables false
namespace Go.D
theorem impl_cloneIR {a : List Int} (ha : a.length ≤ 4194304) : impl_clone_int_R a = some a := by
 unfold impl_clone_int_R slices_Clip_int_int_R
 cases h : ((a.length : Int)) == 0
 ·rw [app_lt (by simp; omega), Option.bind_some, List.nil_append, show slI a none (some (a.length : Int)) (some (a.length : Int)) = some a by simp [slI]]
  rfl
 ·have : a = [] := by
   have : (a.length : Int) = 0 := by simpa using h
   exact List.eq_nil_of_length_eq_zero (by omega)
  subst this
  rfl
theorem impl_colsLR {e : List T_impl_Part} (hl : e.length ≤ 2097152) : impl_exprColumns_R e = some (Lib.compact ((colsL e).mergeSort fun x y => decide (x ≤ y))) := by
 unfold impl_exprColumns_R
 have := loop_opt (xs := e) (L := fun f i (s : List Int) => impl_exprColumns_R_l0 e f i s) (fun rest s => some (Lib.compact ((s ++ colsL rest).mergeSort fun x y => decide (x ≤ y)))) (fun i s => s.length ≤ i) (by omega)
  (fun f i s p hi hv hw hI => by
   cases hk : p.fKind == 2 with
   | false =>
    refine .inr ⟨s, by omega, ?_, ?_⟩
    ·rw [impl_exprColumns_R_l0, decide_eq_true (by omega), cond_true, getI_nat, hv, Option.bind_some, hk, cond_false, hw]
    ·unfold colsL
     rw [List.filter_cons, hk]
     rfl
   | true =>
    refine .inr ⟨s ++ [p.fN], by simp; omega, ?_, ?_⟩
    ·rw [impl_exprColumns_R_l0, decide_eq_true (by omega), cond_true, getI_nat, hv, Option.bind_some, hk, cond_true, app_lt (by simp; omega), Option.bind_some, hw]
    ·unfold colsL
     rw [List.filter_cons, hk, List.append_assoc]
     rfl)
  (fun f s hI => by
   have hc : (Lib.compact (s.mergeSort fun x y => decide (x ≤ y))).length ≤ 4194304 := by
    have : (Lib.compact (s.mergeSort fun x y => decide (x ≤ y))).length ≤ (s.mergeSort fun x y => decide (x ≤ y)).length := by
     unfold Lib.compact Lib.compactUpTo
     rw [List.length_map]
     refine Nat.le_trans (List.length_filter_le _ _) ?_
     simp
    rw [List.length_mergeSort] at this
    omega
   rw [impl_exprColumns_R_l0, decide_eq_false (Int.lt_irrefl _), cond_false]
   unfold sortI compactI
   rw [decide_eq_true (show s.length < 4611686018427387904 by omega), cond_true, Option.bind_some, Option.bind_some, impl_cloneIR hc, Option.bind_some]
   show _ = some (Lib.compact ((s ++ []).mergeSort _))
   rw [List.append_nil]) (s := []) (Nat.le_refl _)
 rw [List.nil_append] at this
 exact this
theorem impl_colsR {cs : List T_impl_Column} {e : List T_impl_Part} (hc : Sm cs.length) (hl : e.length ≤ 2097152) (hp : ∀ p ∈ e, SmP p) : impl_ExprColumns_R cs e = some (colsV cs e) := by
 unfold impl_ExprColumns_R
 rw [impl_exprKind hc hl hp, Option.bind_some]
 by_cases h : 0 ≤ exprKind cs e
 ·rw [decide_eq_false (show ¬ exprKind cs e < 0 by omega), cond_false, impl_colsLR hl, Option.bind_some, colsV_eq h]
 ·rw [decide_eq_true (show exprKind cs e < 0 by omega), cond_true]
  unfold colsV
  rw [decide_eq_false h]
  rfl
theorem okI_ints {xs : List Int} (h : xs.length ≤ 1048576) : okL (fun _ => True) xs := ⟨h, fun _ _ => trivial⟩
theorem eq_ints {a : List Int} (ha : a.length ≤ 4194304) : laws_eqIntS a a = some true := by
 unfold laws_eqIntS
 rw [beq_self_eq_true, Bool.not_true, cond_false]
 exact loop_opt (xs := a) (L := fun f i (_ : Unit) => laws_eqIntS_l0 a a f i) (fun _ _ => some true) (fun _ _ => True) (by omega)
  (fun f i s v hi hv hw _ => .inr ⟨(), trivial, by
   rw [laws_eqIntS_l0, decide_eq_true (by omega), cond_true, getI_nat, hv, Option.bind_some, Option.bind_some, beq_self_eq_true, Bool.not_true, cond_false, hw], rfl⟩)
  (fun f s _ => by rw [laws_eqIntS_l0, decide_eq_false (Int.lt_irrefl _), cond_false]) (s := ()) trivial
theorem law_exprColumns {a0 : List T_laws_Column} {a1 : List T_laws_Part} (w0 : listW W_T_laws_Column a0) (w1 : listW W_T_laws_Part a1) : laws_FnExactExprColumns a0 a1 = some true := by
 unfold laws_FnExactExprColumns
 obtain ⟨r0, e0, k0⟩ := sz_ColumnS a0 1048576 w0 (by omega) (by omega)
 rw [e0, Option.bind_some]
 rcases k0 with k0 | ⟨p0, q0, o0⟩
 ·rw [decide_eq_true k0, cond_true]
 rw [decide_eq_false (show ¬ r0 < 0 by omega), cond_false]
 obtain ⟨r1, e1, k1⟩ := sz_PartS a1 r0 w1 (by omega) (by omega)
 rw [e1, Option.bind_some]
 rcases k1 with k1 | ⟨p1, q1, o1⟩
 ·rw [decide_eq_true k1, cond_true]
 rw [decide_eq_false (show ¬ r1 < 0 by omega), cond_false]
 have m0 := okL_map (f := c_Column) (ok' := fun _ => True) (fun _ _ => trivial) o0
 have m1 := okL_map (f := c_Part) (ok' := fun _ => True) (fun _ _ => trivial) o1
 have hc : Sm (a0.map c_Column).length := okL_sm m0
 have hl : (a1.map c_Part).length ≤ 2097152 := okL_sm m1
 have hp : ∀ p ∈ a1.map c_Part, SmP p := (okL_map (ok := Ok_Part) (ok' := SmP) (f := c_Part) (fun x h => sm_value (v := x.fV) h) o1).2
 have hv := colsV_len (a0.map c_Column) (a1.map c_Part)
 have hb := m0.1
 have ov := okI_ints (xs := colsV (a0.map c_Column) (a1.map c_Part)) (by omega)
 obtain ⟨k5, y5, g5, p5, q5⟩ := mk_ColumnS _ 1 m0 (by omega) (by unfold TOP; omega)
 obtain ⟨k6, y6, g6, p6, q6⟩ := mk_PartS _ k5 m1 (by omega) (by unfold TOP; omega)
 obtain ⟨k10, y10, g10, p10, q10, h10⟩ := mk_IntS _ 1 ov (by omega) (by unfold TOP; omega)
 have n6 : decide (k6 < 0) = false := decide_eq_false (by omega)
 have n10 : decide (k10 < 0) = false := decide_eq_false (by omega)
 simp only [to_ColumnS a0 o0, to_PartS a1 o1, Option.bind_some, spec_cols hc hl hp, impl_colsR hc hl hp, beq_self_eq_true, Bool.not_true, cond_false,
  eq_ColumnS _ m0, eq_PartS _ m1, eq_ints (show (colsV (a0.map c_Column) (a1.map c_Part)).length ≤ 4194304 by omega), g5, g6, n6, laws_FnExactExprColumns_j0, g10, h10, n10]
end Go.D
set_option linter.unusedVariables false
namespace Go.D
open Go.ChangeShapes Go.RowKit
theorem trodAll_carry {H : Type} {enc : TypeId × Value → H} {P : Program} {w w' : World} {base : Nat} {sp : Nat → Bool} {held : Bool} : ∀ {ts : List TypeId} {vs : List Value} {ds : List (DataW H)} {ps : List MemPlace},
  DataW.TrodAll enc P w base sp held ts vs ds ps → (∀ p ∈ ps, w.sameAt w' p) → DataW.TrodAll enc P w' base sp held ts vs ds ps
 | [], [], [], _, h, _ => h
 | _ :: _, _ :: _, _ :: _, _, ⟨p, q, ⟨n, hn⟩, h2, e⟩, hs =>
  ⟨p, q, ⟨n, DataW.trod_carry n _ _ _ hn fun x hx => hs x (by rw [e]; exact List.mem_append_left _ hx)⟩, trodAll_carry h2 fun x hx => hs x (by rw [e]; exact List.mem_append_right _ hx), e⟩
theorem Kept.sameAt {w w' : World} (h : Grew w w') {p : MemPlace} (hp : p.block < w.heap.size) : w.sameAt w' p := by
 have hb := h.block p.block hp (fun h => h)
 cases p with
 | cell b off =>
  show w'.cell? ⟨b, off, none⟩ = w.cell? ⟨b, off, none⟩
  unfold World.cell?
  have hb : w'.heap[b]? = w.heap[b]? := hb
  simp only [hb]
 | map b => exact hb
theorem Kept.keptBut {w w' : World} (h : Grew w w') (may : MemPlace → Prop) : w.keptBut w' may := by
 refine ⟨h.os, h.output, fun i hi => ?_⟩
 rw [h.block i hi (fun h => h)]
 cases w.heap[i]? with
 | none => trivial
 | some o => cases o <;> simp
theorem contract_of {P : Program} {fid : FuncId} {fn : Func} {s : ChangeSpec} {tb : TypeId} {H : Type} {enc : TypeId × Value → H}
  (hK : Kids P (· < P.types.size)) (hfull : ∀ t e, t < P.types.size → P.underlying t = some (.slice e) → 0 < P.cellsOf e)
  (hp : ∀ t ∈ fn.params.toList, t < P.types.size) (hv : s.vars = []) (hr : fn.resultTypes = #[tb]) (hb : P.underlying tb = some .bool)
  {n : Nat} (hn : fn.params.toList.length = n) (hs : ∀ ds : List (DataW H), ds.length = n → s.fn H ds = { results := [.lit (.bool true)], args := ds })
  {W : World} {args : Array Value} {ds gs : List (DataW H)} {before : List MemPlace}
  (hlaw : ∀ p, DataW.TrodAll enc P W 0 (fun _ => true) true fn.params.toList args.toList ds p → ∃ ins, FrL W (fun _ => False) ins args.toList ∧ OK P fid ins (B true))
  (hW : DataW.Whole enc P fn.params.toList s.vars false W args.toList ds gs before) :
  Calls P fid args W fun e W' => ∃ v, e = .returned v ∧ s.post enc P fn false true false false W args v W' := by
 have hlt := hW.lt
 have hW' := hW
 obtain ⟨p, q, hA, hV, rfl, hfz, hnd⟩ := hW
 rw [hv] at hV
 obtain ⟨rfl, rfl⟩ := trodVars_none hV
 obtain ⟨ins, h1, h2⟩ := hlaw p hA
 have hlen : ∀ {ts : List TypeId} {vs : List Value} {ds : List (DataW H)} {ps : List MemPlace}, DataW.TrodAll enc P W 0 (fun _ => true) true ts vs ds ps → ds.length = ts.length := by
  intro ts
  induction ts with
  | nil => intro vs ds ps h; obtain ⟨_, rfl, _⟩ := trodAll_nil h; rfl
  | cons t ts ih =>
   intro vs ds ps h
   obtain ⟨_, _, _, _, _, _, rfl, rfl, rfl, _, h⟩ := trodAll_cons h
   simp [ih h]
 have hds : ds.length = n := (hlen hA).trans hn
 have hc := h2.2 W args.toList (fun _ => False) (fun b h => h.elim) h1
 have ha : args.toList.toArray = args := by simp
 rw [ha] at hc
 refine hc.mono fun e W' ⟨v, fp, he, hg, ho, _⟩ => ⟨v, he, ?_⟩
 simp only [B, Ow] at ho
 obtain ⟨rfl, rfl⟩ := ho
 have hsame : ∀ x ∈ p, W.sameAt W' x := fun x hx => Kept.sameAt hg (hlt x (by simpa using hx))
 refine ⟨ds, [], p ++ [], [], p, [], hW', ?_, ?_, ?_, Kept.keptBut hg _, fun h => by cases h⟩
 ·rw [List.append_nil, hs ds hds, hr]
  exact trodAll_mk1 (shut_bool hb true)
 ·rw [List.append_nil, hs ds hds]
  exact trodAll_carry (DataW.TrodAll.respare hK hfull hp hA fun x hx => by
   have := hlt x (by simpa using hx)
   simpa using this) hsame
 ·rw [hv, List.append_nil, hs ds hds]
  rfl
end Go.D
