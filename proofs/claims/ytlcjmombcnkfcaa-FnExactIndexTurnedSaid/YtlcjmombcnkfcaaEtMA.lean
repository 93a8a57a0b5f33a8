import Derived.Test.YtlcjmombcnkfcaaEtDXFB
import Derived.Test.YtlcjmombcnkfcaaEtDShow
import Derived.ChangeArms
import Derived.ChangeShapes
import Derived.Deep.Slices
import Derived.Test.YtlcjmombcnkfcaaEtDOwn3
import Derived.Test.YtlcjmombcnkfcaaEtDNil
import Derived.Test.YtlcjmombcnkfcaaEtDMore
import Derived.Test.YtlcjmombcnkfcaaEtDVal
import Derived.Test.YtlcjmombcnkfcaaEtDSortF
import Derived.Test.YtlcjmombcnkfcaaEtDPrimM
import Derived.Test.YtlcjmombcnkfcaaEtDXT
import Derived.OpenShut
import Derived.ReadAgain
import Derived.ProofKit
set_option linter.unusedVariables false
namespace Go.D
end Go.D
set_option linter.unusedVariables false
namespace Go.D
def Rd (P : Program) (t : TypeId) (α : Type) [Enc α] (W : α → Prop) : Prop :=
 P.cellsOf t = Enc.sz α ∧ ∀ (H : Type) (enc : TypeId × Value → H) (w : World) (base : Nat) (sp : Nat → Bool) (held : Bool) (fuel : Nat) (cs : List Value) (x : DataW H × List MemPlace), DataW.trod enc P w base sp held fuel t cs = some x →
  ∃ y : α, FrL w (fun _ => False) (Enc.cells y) cs ∧ W y
def intW (n : Int) : Prop := -9223372036854775808 ≤ n ∧ n ≤ 9223372036854775807
def boolW (_ : Bool) : Prop := True
def strW (s : ByteArray) : Prop := s.size ≤ 9223372036854775807
def listW {α : Type} (W : α → Prop) (l : List α) : Prop := l.length ≤ 9223372036854775807 ∧ ∀ x ∈ l, W x
section
variable {P : Program}
theorem rd_int {t : TypeId} (ht : P.underlying t = some (.int .i64)) (hc : P.cellsOf t = 1) : Rd P t Int intW := ⟨hc, fun H enc w base sp held fuel cs x h => by
 obtain ⟨n, rfl, _, hw⟩ := DataW.trod_int ht h
 refine ⟨n, ?_, by simpa [Lit.wf, IntKind.min, IntKind.max, IntKind.signed, IntKind.bits, intW] using hw⟩
 show FrL w _ [I n] _
 simp only [FrL]
 exact ⟨_, _, rfl, by simp only [Fr], rfl⟩⟩
theorem rd_bool {t : TypeId} (ht : P.underlying t = some .bool) (hc : P.cellsOf t = 1) : Rd P t Bool boolW := ⟨hc, fun H enc w base sp held fuel cs x h => by
 obtain ⟨b, rfl, _⟩ := DataW.trod_bool ht h
 refine ⟨b, ?_, trivial⟩
 show FrL w _ [B b] _
 simp only [FrL]
 exact ⟨_, _, rfl, by simp only [Fr], rfl⟩⟩
theorem rd_str {t : TypeId} (ht : P.underlying t = some .string) (hc : P.cellsOf t = 1) : Rd P t ByteArray strW := ⟨hc, fun H enc w base sp held fuel cs x h => by
 obtain ⟨s, rfl, _, hs⟩ := DataW.trod_string ht h
 refine ⟨s, ?_, by simpa [strW, maxLen] using hs⟩
 show FrL w _ [S s] _
 simp only [FrL]
 exact ⟨_, _, rfl, by simp only [Fr], rfl⟩⟩
theorem eL_flat {α : Type} [Enc α] {w : World} {M : Nat → Prop} : ∀ {ys : List α} {uss : List (List Value)}, ys.length = uss.length → (∀ (i : Nat) (y : α) (us : List Value), ys[i]? = some y → uss[i]? = some us → FrL w M (Enc.cells y) us) → FrL w M (eL ys) uss.flatten
 | [], [], _, _ => by simp [eL, FrL]
 | [], _ :: _, h, _ => by simp at h
 | _ :: _, [], h, _ => by simp at h
 | y :: ys, us :: uss, h, k => by
  simp only [eL, List.flatten_cons]
  exact FrL.append (k 0 y us rfl rfl) (eL_flat (by simpa using h) fun i y' us' h1 h2 => k (i + 1) y' us' (by simpa using h1) (by simpa using h2))
theorem flat_get {sz : Nat} (hsz : 0 < sz) : ∀ {uss : List (List Value)}, (∀ us ∈ uss, us.length = sz) → ∀ {j : Nat} {v : Value}, uss.flatten[j]? = some v → ∃ us, uss[j / sz]? = some us ∧ us[j % sz]? = some v
 | [], _, j, v, h => by simp at h
 | us :: uss, hl, j, v, h => by
  have h0 : us.length = sz := hl us (by simp)
  simp only [List.flatten_cons] at h
  rcases Nat.lt_or_ge j sz with hj | hj
  ·rw [List.getElem?_append_left (by omega)] at h
   refine ⟨us, by rw [Nat.div_eq_of_lt hj]; rfl, by rw [Nat.mod_eq_of_lt hj]; exact h⟩
  ·rw [List.getElem?_append_right (by omega), h0] at h
   obtain ⟨us', h1, h2⟩ := flat_get hsz (fun us' hu => hl us' (by simp [hu])) h
   refine ⟨us', ?_, ?_⟩
   ·have : j / sz = (j - sz) / sz + 1 := by rw [Nat.div_eq_sub_div hsz hj]
    rw [this]
    simpa using h1
   ·rw [Nat.mod_eq_sub_mod hj]; exact h2
theorem rd_slice {t e : TypeId} {α : Type} [Enc α] {W : α → Prop} (ht : P.underlying t = some (.slice e)) (hc : P.cellsOf t = 1) (he : Rd P e α W) : Rd P t (List α) (listW W) := ⟨hc, fun H enc w base sp held fuel cs x h => by
 obtain ⟨hce, he⟩ := he
 have hpos : 0 < Enc.sz α := Enc.pos
 have fin : ∀ (ys : List α) (v : Value), Fr w (fun _ => False) (A ys) v → listW W ys → ∃ y : List α, FrL w (fun _ => False) (Enc.cells y) [v] ∧ listW W y := fun ys v h1 h2 => ⟨ys, by
  show FrL w _ [A ys] _
  simp only [FrL]
  exact ⟨_, _, rfl, h1, rfl⟩, h2⟩
 rcases Go.Deep.open_slice ht h with ⟨rfl, _⟩ | ⟨a, len, cap, m, n, D, Pl, rfl, hb, hl, hm, hmm, _, hx⟩
 ·exact fin [] _ (Fr.nil w _ _ hpos) ⟨by simp, by simp⟩
 ·have hcapm : cap ≤ maxI := by simpa [maxLen, maxI] using hm
  by_cases h0 : len = 0
  ·subst h0
   refine fin [] _ ?_ ⟨by simp, by simp⟩
   simp only [Fr]
   exact ⟨some a, cap, rfl, ⟨hpos, by simp [eL], by simp, hcapm, fun h => by cases h⟩, .inl rfl⟩
  ·have hlm : len ≤ m := by rw [hmm]; split <;> omega
   have hel : ∀ i, i < len → ∃ p : List Value × α, w.cells? base (a.add (i * P.cellsOf e)) (P.cellsOf e) = some p.1 ∧ FrL w (fun _ => False) (Enc.cells p.2) p.1 ∧ W p.2 := by
    intro i hi
    obtain ⟨cs', h1, h2⟩ := hx i (by omega)
    obtain ⟨y, h3, h4⟩ := he H enc w base sp held n cs' _ h2
    exact ⟨(cs', y), h1, h3, h4⟩
   obtain ⟨p0, hp0⟩ := hel 0 (by omega)
   haveI : Inhabited (List Value × α) := ⟨p0⟩
   obtain ⟨F, hF⟩ := Go.Deep.choose_lt (α := List Value × α) (p := fun i p => w.cells? base (a.add (i * P.cellsOf e)) (P.cellsOf e) = some p.1 ∧ FrL w (fun _ => False) (Enc.cells p.2) p.1 ∧ W p.2) hel
   let ys : List α := (List.range len).map fun i => (F i).2
   let uss : List (List Value) := (List.range len).map fun i => (F i).1
   have hul : ∀ us ∈ uss, us.length = Enc.sz α := by
    intro us hu
    obtain ⟨i, hi, rfl⟩ := List.mem_map.1 hu
    have := (World.cells?_some (hF i (List.mem_range.1 hi)).1).2.1
    rw [this, hce]
   have hys : ys.length = len := by simp [ys]
   have hfl : FrL w (fun _ => False) (eL ys) uss.flatten := eL_flat (by simp [ys, uss]) fun i y us h1 h2 => by
    simp only [ys, uss, List.getElem?_map] at h1 h2
    have hi : i < len := by
     cases hr : (List.range len)[i]? with
     | none => rw [hr] at h1; cases h1
     | some k => have := (List.getElem?_eq_some_iff.1 hr).1; simpa using this
    rw [List.getElem?_range hi] at h1 h2
    simp only [Option.map_some, Option.some.injEq] at h1 h2
    rw [← h1, ← h2]
    exact (hF i hi).2.1
   have hul0 : ((F 0).1).length = Enc.sz α := hul _ (List.mem_map.2 ⟨0, by simp; omega, rfl⟩)
   have h00 : ∃ v, w.cell? a = some v := by
    have h1 := (World.cells?_some (hF 0 (by omega)).1).2.2 0 (by rw [hce]; exact hpos)
    rw [List.getElem?_eq_getElem (by omega)] at h1
    refine ⟨_, Eq.trans ?_ h1⟩
    simp [Addr.add]
   obtain ⟨v00, hv00⟩ := h00
   have hspot : a.spot = none := World.cell?_spot hv00
   obtain ⟨ab, ao, as_⟩ := a
   simp only at hspot
   subst hspot
   have hcell : ∀ i j, i < len → j < Enc.sz α → w.cell? ⟨ab, ao + (i * Enc.sz α + j), none⟩ = ((F i).1)[j]? := by
    intro i j hi hj
    have := (World.cells?_some (hF i hi).1).2.2 j (by rw [hce]; exact hj)
    rw [hce] at this
    rw [← this]
    congr 1
    unfold Addr.add
    split <;> split <;> simp_all <;> omega
   refine fin ys _ ?_ ⟨by rw [hys]; simp only [maxI] at hcapm; omega, fun y hy => by
    obtain ⟨i, hi, rfl⟩ := List.mem_map.1 hy
    exact (hF i (List.mem_range.1 hi)).2.2⟩
   simp only [Fr]
   refine ⟨some ⟨ab, ao, none⟩, cap, by rw [hys], ⟨hpos, by rw [eL_len], by rw [hys]; exact hl, hcapm, fun h => by cases h⟩, .inr ⟨ab, ao, uss.flatten, rfl, World.block_lt_of_cell? _ _ hv00, fun h => h, hfl, fun j hj => ?_⟩⟩
   obtain ⟨us, h1, h2⟩ := flat_get hpos hul (List.getElem?_eq_getElem hj)
   have hi : j / Enc.sz α < len := by
    have := (List.getElem?_eq_some_iff.1 h1).1
    simpa [uss] using this
   simp only [uss, List.getElem?_map, List.getElem?_range hi, Option.map_some, Option.some.injEq] at h1
   have := hcell (j / Enc.sz α) (j % Enc.sz α) hi (Nat.mod_lt _ hpos)
   rw [h1, h2] at this
   have e1 : j / Enc.sz α * Enc.sz α + j % Enc.sz α = j := by rw [Nat.mul_comm]; exact Nat.div_add_mod j _
   rw [e1] at this
   rw [List.getElem?_eq_getElem hj, ← this]⟩
end
end Go.D
set_option linter.unusedVariables false
namespace Go.D
theorem w64_of {n : Int} (h1 : -9223372036854775808 ≤ n) (h2 : n ≤ 9223372036854775807) : w64 n = n := by
 have hm : IntKind.i64.min = -9223372036854775808 := by decide
 have hM : IntKind.i64.max = 9223372036854775807 := by decide
 simp [w64, IntKind.wrap, IntKind.signed, IntKind.bits]
 omega
theorem getI_nat {α : Type} {xs : List α} {i : Nat} : getI xs (i : Int) = xs[i]? := by
 unfold getI
 rw [if_pos (by omega), Int.toNat_natCast]
theorem getI_lt {α : Type} {xs : List α} {i : Int} (h0 : 0 ≤ i) (h1 : i < xs.length) : ∃ x, getI xs i = some x ∧ xs[i.toNat]? = some x := by
 unfold getI
 rw [if_pos h0]
 have : i.toNat < xs.length := by omega
 exact ⟨xs[i.toNat], by rw [List.getElem?_eq_getElem this], by rw [List.getElem?_eq_getElem this]⟩
theorem app_lt {α : Type} {xs ys : List α} (h : xs.length + ys.length < 68719476736) : app xs ys = some (xs ++ ys) := if_pos h
theorem succ_w {i n : Nat} (h : i < n) (hn : n ≤ 70368744177663) : w64 ((i : Int) + 1) = ((i + 1 : Nat) : Int) := by
 rw [w64_of (by omega) (by omega)]
 omega
theorem loop_all {α : Type} {xs : List α} {L : Nat → Int → Option Bool} {p : α → Bool} {fin : Bool} (hlen : xs.length ≤ 70368744177662)
  (h : ∀ (f i : Nat) (v : α), i < xs.length → xs[i]? = some v → w64 ((i : Int) + 1) = ((i + 1 : Nat) : Int) → L (f + 1) i = bif p v then L f ((i + 1 : Nat) : Int) else some false)
  (he : ∀ f, L (f + 1) (xs.length : Int) = some fin) : L FUEL 0 = some (xs.all p && fin) := by
 have main : ∀ (k f i : Nat), i + k = xs.length → k < f → L f (i : Int) = some ((xs.drop i).all p && fin) := by
  intro k
  induction k with
  | zero =>
   intro f i hi hf
   obtain ⟨f, rfl⟩ : ∃ f', f = f' + 1 := ⟨f - 1, by omega⟩
   have : i = xs.length := by omega
   subst this
   rw [he, List.drop_length]
   simp
  | succ k ih =>
   intro f i hi hf
   obtain ⟨f, rfl⟩ : ∃ f', f = f' + 1 := ⟨f - 1, by omega⟩
   have hlt : i < xs.length := by omega
   rw [h f i xs[i] hlt (List.getElem?_eq_getElem hlt) (succ_w hlt (by omega)), ih f (i + 1) (by omega) (by omega), List.drop_eq_getElem_cons hlt, List.all_cons]
   cases p xs[i] <;> simp
 have := main xs.length FUEL 0 (by omega) (by unfold FUEL; omega)
 simpa using this
theorem loop_find {α : Type} {xs : List α} {L : Nat → Int → Option Int} {p : α → Bool} (hlen : xs.length ≤ 70368744177662)
  (h : ∀ (f i : Nat) (v : α), i < xs.length → xs[i]? = some v → w64 ((i : Int) + 1) = ((i + 1 : Nat) : Int) → L (f + 1) i = bif p v then some (i : Int) else L f ((i + 1 : Nat) : Int))
  (he : ∀ f, L (f + 1) (xs.length : Int) = some (-1)) : ∃ r, L FUEL 0 = some r ∧ decide (r ≥ 0) = xs.any p := by
 have main : ∀ (k f i : Nat), i + k = xs.length → k < f → ∃ r, L f (i : Int) = some r ∧ decide (r ≥ 0) = (xs.drop i).any p := by
  intro k
  induction k with
  | zero =>
   intro f i hi hf
   obtain ⟨f, rfl⟩ : ∃ f', f = f' + 1 := ⟨f - 1, by omega⟩
   have : i = xs.length := by omega
   subst this
   rw [he, List.drop_length]
   exact ⟨_, rfl, by simp⟩
  | succ k ih =>
   intro f i hi hf
   obtain ⟨f, rfl⟩ : ∃ f', f = f' + 1 := ⟨f - 1, by omega⟩
   have hlt : i < xs.length := by omega
   rw [h f i xs[i] hlt (List.getElem?_eq_getElem hlt) (succ_w hlt (by omega)), List.drop_eq_getElem_cons hlt, List.any_cons]
   cases hp : p xs[i] with
   | true => exact ⟨_, rfl, by simp⟩
   | false =>
    obtain ⟨r, h1, h2⟩ := ih f (i + 1) (by omega) (by omega)
    exact ⟨r, h1, by simp [h2]⟩
 have := main xs.length FUEL 0 (by omega) (by unfold FUEL; omega)
 simpa using this
theorem loop_q {α σ β : Type} {xs : List α} {L : Nat → Int → σ → Option β} (Q : List α → σ → β → Prop) (Inv : Nat → σ → Prop) (hlen : xs.length ≤ 70368744177662)
  (h : ∀ (f i : Nat) (s : σ) (v : α) (rest : List α), i + (rest.length + 1) = xs.length → i < xs.length → xs[i]? = some v → w64 ((i : Int) + 1) = ((i + 1 : Nat) : Int) → Inv i s →
   (∃ y, L (f + 1) i s = some y ∧ Q (v :: rest) s y) ∨ ∃ s', Inv (i + 1) s' ∧ L (f + 1) i s = L f ((i + 1 : Nat) : Int) s' ∧ ∀ y, Q rest s' y → Q (v :: rest) s y)
  (he : ∀ f s, Inv xs.length s → ∃ y, L (f + 1) (xs.length : Int) s = some y ∧ Q [] s y) {s : σ} (h0 : Inv 0 s) : ∃ y, L FUEL 0 s = some y ∧ Q xs s y := by
 have main : ∀ (k f i : Nat) (s : σ), i + k = xs.length → k < f → Inv i s → ∃ y, L f (i : Int) s = some y ∧ Q (xs.drop i) s y := by
  intro k
  induction k with
  | zero =>
   intro f i s hi hf hI
   obtain ⟨f, rfl⟩ : ∃ f', f = f' + 1 := ⟨f - 1, by omega⟩
   have : i = xs.length := by omega
   subst this
   rw [List.drop_length]
   exact he _ _ hI
  | succ k ih =>
   intro f i s hi hf hI
   obtain ⟨f, rfl⟩ : ∃ f', f = f' + 1 := ⟨f - 1, by omega⟩
   have hlt : i < xs.length := by omega
   rw [List.drop_eq_getElem_cons hlt]
   rcases h f i s xs[i] (xs.drop (i + 1)) (by rw [List.length_drop]; omega) hlt (List.getElem?_eq_getElem hlt) (succ_w hlt (by omega)) hI with h1 | ⟨s', h1, h2, h3⟩
   ·exact h1
   ·obtain ⟨y, h4, h5⟩ := ih f (i + 1) s' (by omega) (by omega) h1
    exact ⟨y, h2.trans h4, h3 y h5⟩
 have := main xs.length FUEL 0 s (by omega) (by unfold FUEL; omega) h0
 simpa using this
def okL {α : Type} (ok : α → Prop) (xs : List α) : Prop := xs.length ≤ 1048576 ∧ ∀ x ∈ xs, ok x
def SzP {α : Type} (z : α → Int → Option Int) (W ok : α → Prop) : Prop := ∀ x n, W x → 0 ≤ n → n ≤ 1048576 → ∃ r, z x n = some r ∧ (r < 0 ∨ (0 ≤ r ∧ r ≤ n ∧ ok x))
theorem sz_cut {k : Nat} {n : Int} (hk : k ≤ 9223372036854775807) (h0 : 0 ≤ n) (hn : n ≤ 1048576) : w64 (n - (k : Int)) = n - k := w64_of (by omega) (by omega)
theorem sz_one {α : Type} {z : α → Int → Option Int} {W : α → Prop} (k : α → Nat) (hk : ∀ x, W x → k x ≤ 9223372036854775807)
  (hz : ∀ x n, z x n = bif (decide (w64 (n - ((k x : Nat) : Int)) < 0)) then some (-1) else some (w64 (n - ((k x : Nat) : Int)))) : SzP z W (fun x => k x ≤ 1048576) := by
 intro x n hW h0 hn
 rw [hz, sz_cut (hk x hW) h0 hn]
 by_cases h : n - (k x : Int) < 0
 ·exact ⟨-1, by rw [decide_eq_true h, cond_true], .inl (by omega)⟩
 ·exact ⟨n - k x, by rw [decide_eq_false h, cond_false], .inr ⟨by omega, by omega, by simp only; omega⟩⟩
theorem sz_loop {α : Type} {z : α → Int → Option Int} {S : List α → Int → Option Int} {L : List α → Nat → Int → Int → Option Int} {W ok : α → Prop} (hz : SzP z W ok)
  (hS : ∀ a n, S a n = bif (decide (w64 (n - ((a.length : Nat) : Int)) < 0)) then some (-1) else L a FUEL (w64 (n - ((a.length : Nat) : Int))) 0)
  (hL : ∀ a f n i, L a (f + 1) n i = bif (decide (i < ((a.length : Nat) : Int))) then (getI a i).bind fun v => (z v n).bind fun r => bif (decide (r < 0)) then some (-1) else L a f r (w64 (i + 1)) else some n) :
  SzP S (listW W) (okL ok) := by
 intro x n hW h0 hn
 rw [hS, sz_cut hW.1 h0 hn]
 by_cases h : n - (x.length : Int) < 0
 ·exact ⟨-1, by rw [decide_eq_true h, cond_true], .inl (by omega)⟩
 rw [decide_eq_false h, cond_false]
 have key := loop_q (xs := x) (L := fun f i (m : Int) => L x f m i) (fun rest m y => y < 0 ∨ (0 ≤ y ∧ y ≤ m ∧ ∀ v ∈ rest, ok v)) (fun i m => 0 ≤ m ∧ m ≤ n) (by omega)
  (fun f i m v rest hr hi hv hw hI => by
   have hlt : (i : Int) < x.length := by omega
   obtain ⟨r, h1, h2⟩ := hz v m (hW.2 v (List.mem_of_getElem? hv)) hI.1 (by omega)
   rcases h2 with h2 | ⟨h2, h3, h4⟩
   ·refine .inl ⟨-1, ?_, .inl (by omega)⟩
    simp only [hL, hlt, decide_true, cond_true, getI_nat, hv, Option.bind_some, h1, h2]
   ·refine .inr ⟨r, ⟨h2, by omega⟩, ?_, fun y hy => ?_⟩
    ·have : ¬ r < 0 := by omega
     simp only [hL, hlt, decide_true, cond_true, getI_nat, hv, Option.bind_some, h1, this, decide_false, cond_false, hw]
    ·rcases hy with hy | ⟨hy1, hy2, hy3⟩
     ·exact .inl hy
     ·refine .inr ⟨hy1, by omega, fun u hu => ?_⟩
      rcases List.mem_cons.1 hu with rfl | hu
      ·exact h4
      ·exact hy3 u hu)
  (fun f m hI => ⟨m, by simp only [hL, Int.lt_irrefl, decide_false, cond_false], .inr ⟨hI.1, Int.le_refl _, fun v hv => by cases hv⟩⟩) (s := n - (x.length : Int)) ⟨by omega, by omega⟩
 obtain ⟨y, h1, h2⟩ := key
 exact ⟨y, h1, h2.imp id fun h' => ⟨h'.1, by omega, by omega, h'.2.2⟩⟩
theorem to_loop {α β : Type} {c : α → β} {t : α → Option β} {S : List α → Option (List β)} {L : List α → Nat → Int → List β → Option (List β)} {d : β} {ok : α → Prop} (ht : ∀ x, ok x → t x = some (c x))
  (hS : ∀ a, S a = (mkI ((a.length : Nat) : Int) d).bind fun v => L a FUEL 0 v)
  (hL : ∀ a f i st, L a (f + 1) i st = bif (decide (i < ((a.length : Nat) : Int))) then (getI a i).bind fun v => (t v).bind fun y => (getI st i).bind fun _ => L a f (w64 (i + 1)) (st.set i.toNat y) else some st) :
  ∀ xs, okL ok xs → S xs = some (xs.map c) := by
 intro xs hx
 have hl := hx.1
 rw [hS, mkI, if_pos (by omega), Option.bind_some]
 have key := loop_q (xs := xs) (L := fun f i (st : List β) => L xs f i st) (fun rest st y => y = st.take (st.length - rest.length) ++ rest.map c) (fun i st => st.length = xs.length) (by omega)
  (fun f i st v rest hr hi hv hw hI => by
   have hlt : (i : Int) < xs.length := by omega
   obtain ⟨o, ho, _⟩ := getI_lt (xs := st) (i := (i : Int)) (by omega) (by omega)
   refine .inr ⟨st.set i (c v), by rw [List.length_set]; exact hI, ?_, fun y hy => ?_⟩
   ·rw [hL, decide_eq_true hlt, cond_true, getI_nat, hv, Option.bind_some, ht v (hx.2 v (List.mem_of_getElem? hv)), Option.bind_some, ho, Option.bind_some, hw, Int.toNat_natCast]
   ·have e1 : (st.set i (c v)).length - rest.length = i + 1 := by rw [List.length_set]; omega
    have e2 : st.length - (v :: rest).length = i := by simp only [List.length_cons]; omega
    rw [e1] at hy
    rw [e2, hy, List.take_add_one, List.take_set_of_le (Nat.le_refl i), List.getElem?_set_self (by omega)]
    simp)
  (fun f st hI => ⟨st, by simp only [hL, Int.lt_irrefl, decide_false, cond_false], by simp⟩) (s := List.replicate ((xs.length : Int)).toNat d) (by simp)
 obtain ⟨y, h1, h2⟩ := key
 rw [h1, h2]
 simp
theorem eq_loop {β : Type} {e : β → β → Option Bool} {S : List β → List β → Option Bool} {L : List β → List β → Nat → Int → Option Bool} {ok : β → Prop} (he : ∀ x, ok x → e x x = some true)
  (hS : ∀ a b, S a b = bif (!(((a.length : Nat) : Int) == ((b.length : Nat) : Int))) then some false else L a b FUEL 0)
  (hL : ∀ a b f i, L a b (f + 1) i = bif (decide (i < ((a.length : Nat) : Int))) then (getI a i).bind fun v => (getI b i).bind fun u => (e v u).bind fun r => bif (!r) then some false else L a b f (w64 (i + 1)) else some true) :
  ∀ xs, okL ok xs → S xs xs = some true := by
 intro xs hx
 have hl := hx.1
 rw [hS, beq_self_eq_true, Bool.not_true, cond_false]
 have := loop_all (xs := xs) (L := fun f i => L xs xs f i) (p := fun _ => true) (fin := true) (by omega) (fun f i v hi hv hw => by
  have hlt : (i : Int) < xs.length := by omega
  simp only [hL, hlt, decide_true, cond_true, getI_nat, hv, Option.bind_some, he v (hx.2 v (List.mem_of_getElem? hv)), Bool.not_true, cond_false, hw]) (fun f => by
  simp only [hL, Int.lt_irrefl, decide_false, cond_false])
 rw [this]
 simp
end Go.D
set_option linter.unusedVariables false
namespace Go.D
abbrev Sm (n : Nat) : Prop := n ≤ 2097152
def inR (a b c : Int) : Bool := decide (b ≤ a) && decide (a ≤ c)
theorem spec_in (a b c : Int) : spec_l1In a b c = some (inR a b c) := by
 unfold spec_l1In inR
 by_cases h : b ≤ a <;> simp [h]
theorem impl_in (a b c : Int) : impl_between a b c = some (inR a b c) := by
 unfold impl_between inR
 by_cases h : b ≤ a <;> simp [h]
theorem not_any_not {α : Type} (xs : List α) (p : α → Bool) : (!(xs.any fun x => !(p x))) = xs.all p := by
 induction xs with
 | nil => rfl
 | cons x xs ih => simp [← ih]
theorem cast_le6 (n : Nat) : decide ((n : Int) ≤ 6) = decide (n ≤ 6) := by
 simp only [decide_eq_decide]
 omega
theorem getB_nat {s : ByteArray} {i : Nat} : getB s (i : Int) = s.data.toList[i]? := by
 unfold getB
 rw [if_pos (by omega), Int.toNat_natCast]
 by_cases h : i < s.size
 ·rw [getElem?_pos s i h, List.getElem?_eq_getElem (by simpa using h)]
  simp only [Option.some.injEq]
  rfl
 ·rw [getElem?_neg s i h, List.getElem?_eq_none (by simpa using h)]
def letter (b : UInt8) : Bool := decide (97 ≤ b.toNat) && decide (b.toNat ≤ 122)
def textOk (s : ByteArray) : Bool := s.data.toList.all letter && decide (s.size ≤ 6)
theorem size_list (s : ByteArray) : s.data.toList.length = s.size := Array.length_toList
theorem spec_text {s : ByteArray} (h : Sm s.size) : spec_l1Text s = some (textOk s) := by
 unfold spec_l1Text textOk
 have hl := size_list s
 refine loop_all (xs := s.data.toList) (by omega) (fun f i v hi hv hw => ?_) (fun f => ?_)
 ·have : (i : Int) < s.size := by omega
  simp only [spec_l1Text_l0, this, decide_true, cond_true, getB_nat, hv, Option.bind_some, spec_l1Text_j1, hw]
  unfold letter
  by_cases h1 : (v.toNat : Int) < 97
  ·have : ¬ 97 ≤ v.toNat := by omega
   simp [h1, this]
  ·have h1' : 97 ≤ v.toNat := by omega
   by_cases h2 : (v.toNat : Int) > 122
   ·have : ¬ v.toNat ≤ 122 := by omega
    simp [h1, h1', h2, this]
   ·have : v.toNat ≤ 122 := by omega
    simp [h1, h1', h2, this]
 ·rw [hl]
  unfold spec_l1Text_l0
  rw [show decide ((s.size : Int) < (s.size : Int)) = false from decide_eq_false (Int.lt_irrefl _), cond_false, cast_le6]
theorem impl_lettersOk {s : ByteArray} (h : Sm s.size) : impl_letters s = some (s.data.toList.all letter) := by
 have hl := size_list s
 unfold impl_letters bytesOf
 rw [if_pos (by omega), Option.bind_some, ← Bool.and_true (s.data.toList.all letter)]
 refine loop_all (xs := s.data.toList) (by omega) (fun f i v hi hv hw => ?_) (fun f => ?_)
 ·have : (i : Int) < s.data.toList.length := by omega
  have hb : v.toNat < 256 := v.toNat_lt
  have h1 : w64 (v.toNat : Int) = v.toNat := w64_of (by omega) (by omega)
  simp only [impl_letters_l0, this, decide_true, cond_true, getI_nat, hv, Option.bind_some, impl_in, hw, h1]
  have : inR (v.toNat : Int) 97 122 = letter v := by
   unfold inR letter
   congr 1 <;> simp only [decide_eq_decide] <;> omega
  rw [this]
  cases letter v <;> rfl
 ·simp only [impl_letters_l0, Int.lt_irrefl, decide_false, cond_false]
def valOk (v : T_impl_Value) : Bool := bif v.fKind == 0 then v.fN == 0 && v.fS.toList == (ByteArray.mk #[]).toList else bif v.fKind == 1 then inR v.fN (-9999) 9999 && v.fS.toList == (ByteArray.mk #[]).toList else
 bif v.fKind == 2 then v.fN == 0 && textOk v.fS else bif v.fKind == 3 then inR v.fN 0 1 && v.fS.toList == (ByteArray.mk #[]).toList else false
theorem spec_value {v : T_impl_Value} (h : Sm v.fS.size) : spec_ValueOk v = some (valOk v) := by
 unfold spec_ValueOk valOk
 simp only [spec_in, spec_text h, Option.bind_some]
 cases v.fKind == 0 <;> cases v.fKind == 1 <;> cases v.fKind == 2 <;> cases v.fKind == 3 <;> cases v.fN == 0 <;> cases inR v.fN (-9999) 9999 <;> cases inR v.fN 0 1 <;> rfl
theorem impl_value {v : T_impl_Value} (h : Sm v.fS.size) : impl_Value_ok v = some (valOk v) := by
 unfold impl_Value_ok valOk
 simp only [impl_in, impl_lettersOk h, Option.bind_some]
 have e : eq_T_impl_Value v ((T_impl_Value.mk 0 0 (ByteArray.mk #[]))) = (v.fKind == 0 && (v.fN == 0 && v.fS.toList == (ByteArray.mk #[]).toList)) := rfl
 have e2 : decide ((v.fS.size : Int) ≤ 6) = decide (v.fS.size ≤ 6) := by
  simp only [decide_eq_decide]
  omega
 have e3 : textOk v.fS = (v.fS.data.toList.all letter && decide (v.fS.size ≤ 6)) := rfl
 rw [e, e2, e3]
 cases v.fKind == 0 <;> cases v.fKind == 1 <;> cases v.fKind == 2 <;> cases v.fKind == 3 <;> cases v.fN == 0 <;> cases inR v.fN (-9999) 9999 <;> cases inR v.fN 0 1 <;> cases v.fS.toList == (ByteArray.mk #[]).toList <;>
  cases decide (v.fS.size ≤ 6) <;> cases v.fS.data.toList.all letter <;> rfl
def SmV (v : T_impl_Value) : Prop := Sm v.fS.size
def SmR (r : List T_impl_Value) : Prop := Sm r.length ∧ ∀ v ∈ r, SmV v
def rowOk (r : List T_impl_Value) : Bool := r.all valOk && decide (r.length ≤ 4)
theorem spec_rowOk {r : List T_impl_Value} (h : SmR r) : spec_RowOk r = some (rowOk r) := by
 unfold spec_RowOk rowOk
 have hl := h.1
 refine loop_all (by omega) (fun f i v hi hv hw => ?_) (fun f => ?_)
 ·have : (i : Int) < r.length := by omega
  simp only [spec_RowOk_l0, this, decide_true, cond_true, getI_nat, hv, Option.bind_some, spec_value (h.2 v (List.mem_of_getElem? hv)), hw]
  cases valOk v <;> rfl
 ·simp only [spec_RowOk_l0, Int.lt_irrefl, decide_false, cond_false]
  congr 1
  simp only [decide_eq_decide]
  omega
theorem impl_rowAny {r : List T_impl_Value} (h : SmR r) : slices_ContainsFunc_impl_Value_impl_Value r impl_RowOk_1 = some (r.any fun v => !(valOk v)) := by
 unfold slices_ContainsFunc_impl_Value_impl_Value slices_IndexFunc_impl_Value_impl_Value
 have hl := h.1
 obtain ⟨x, h1, h2⟩ := loop_find (xs := r) (L := slices_IndexFunc_impl_Value_impl_Value_l0 r impl_RowOk_1) (p := fun v => !(valOk v)) (by omega) (fun f i v hi hv hw => by
  have : (i : Int) < r.length := by omega
  simp only [slices_IndexFunc_impl_Value_impl_Value_l0, this, decide_true, cond_true, getI_nat, hv, Option.bind_some, impl_RowOk_1, impl_value (h.2 v (List.mem_of_getElem? hv)), hw]) (fun f => by
  simp only [slices_IndexFunc_impl_Value_impl_Value_l0, Int.lt_irrefl, decide_false, cond_false])
 rw [h1, Option.bind_some, h2]
theorem le4 {α : Type} (xs : List α) : decide ((xs.length : Int) ≤ 4) = decide (xs.length ≤ 4) := by
 simp only [decide_eq_decide]
 omega
theorem impl_rowOk {r : List T_impl_Value} (h : SmR r) : impl_RowOk r = some (rowOk r) := by
 unfold impl_RowOk rowOk
 rw [impl_rowAny h, Option.bind_some, not_any_not, le4]
 cases decide (r.length ≤ 4) <;> simp
end Go.D
set_option linter.unusedVariables false
namespace Go.D
theorem loop_opt {α σ β : Type} {xs : List α} {L : Nat → Int → σ → Option β} (R : List α → σ → Option β) (Inv : Nat → σ → Prop) (hlen : xs.length ≤ 70368744177662)
  (h : ∀ (f i : Nat) (s : σ) (v : α), i < xs.length → xs[i]? = some v → w64 ((i : Int) + 1) = ((i + 1 : Nat) : Int) → Inv i s →
   L (f + 1) i s = R (v :: xs.drop (i + 1)) s ∨ ∃ s', Inv (i + 1) s' ∧ L (f + 1) i s = L f ((i + 1 : Nat) : Int) s' ∧ R (v :: xs.drop (i + 1)) s = R (xs.drop (i + 1)) s')
  (he : ∀ f s, Inv xs.length s → L (f + 1) (xs.length : Int) s = R [] s) {s : σ} (h0 : Inv 0 s) : L FUEL 0 s = R xs s := by
 have main : ∀ (k f i : Nat) (s : σ), i + k = xs.length → k < f → Inv i s → L f (i : Int) s = R (xs.drop i) s := by
  intro k
  induction k with
  | zero =>
   intro f i s hi hf hI
   obtain ⟨f, rfl⟩ : ∃ f', f = f' + 1 := ⟨f - 1, by omega⟩
   have : i = xs.length := by omega
   subst this
   rw [he _ _ hI, List.drop_length]
  | succ k ih =>
   intro f i s hi hf hI
   obtain ⟨f, rfl⟩ : ∃ f', f = f' + 1 := ⟨f - 1, by omega⟩
   have hlt : i < xs.length := by omega
   rw [List.drop_eq_getElem_cons hlt]
   rcases h f i s xs[i] hlt (List.getElem?_eq_getElem hlt) (succ_w hlt (by omega)) hI with h1 | ⟨s', h1, h2, h3⟩
   ·exact h1
   ·rw [h2, h3]
    exact ih f (i + 1) s' (by omega) (by omega) h1
 have := main xs.length FUEL 0 s (by omega) (by unfold FUEL; omega) h0
 simpa using this
end Go.D
set_option linter.unusedVariables false
namespace Go.D
theorem loop_idx {n : Nat} {L : Nat → Int → Option Bool} {p : Nat → Bool} {fin : Bool} (hn : n ≤ 70368744177662)
  (h : ∀ (f i : Nat), i < n → w64 ((i : Int) + 1) = ((i + 1 : Nat) : Int) → L (f + 1) i = bif p i then L f ((i + 1 : Nat) : Int) else some false)
  (he : ∀ f, L (f + 1) (n : Int) = some fin) : L FUEL 0 = some ((List.range n).all p && fin) := by
 refine loop_all (xs := List.range n) (by simpa using hn) (fun f i v hi hv hw => ?_) (by simpa using he)
 have hi' : i < n := by simpa using hi
 have : v = i := by
  rw [List.getElem?_range hi'] at hv
  exact (Option.some.inj hv).symm
 rw [this]
 exact h f i hi' hw
end Go.D
set_option linter.unusedVariables false
namespace Go.D
def verG (v : T_impl_Version) : Bool := inR v.fKey 0 4 && (inR v.fBorn 1 40 && ((v.fDied == 0 || inR v.fDied (w64 (v.fBorn + 1)) 40) && rowOk v.fRow))
theorem spec_verG {v : T_impl_Version} (h : SmR v.fRow) : spec_l13Version v = some (verG v) := by
 unfold spec_l13Version verG
 simp only [spec_in, spec_rowOk h, Option.bind_some]
 cases inR v.fKey 0 4 <;> cases inR v.fBorn 1 40 <;> cases v.fDied == 0 <;> cases inR v.fDied (w64 (v.fBorn + 1)) 40 <;> rfl
end Go.D
set_option linter.unusedVariables false
namespace Go.D
structure Ord3 {α : Type} (cf : α → α → Int) : Prop where
 refl : ∀ x, cf x x = 0
 lt : ∀ x y, cf x y < 0 → 0 < cf y x
 gt : ∀ x y, 0 < cf x y → cf y x < 0
 le : ∀ x y z, cf x y ≤ 0 → cf y z ≤ 0 → cf x z ≤ 0
section
variable {α : Type} {cf cg : α → α → Int}
theorem Ord3.eq (h : Ord3 cf) {x y : α} (e : cf x y = 0) : cf y x = 0 := by
 rcases Int.lt_trichotomy (cf y x) 0 with k | k | k
 ·have := h.lt _ _ k; omega
 ·exact k
 ·have := h.gt _ _ k; omega
theorem Ord3.ge (h : Ord3 cf) {x y : α} (e : 0 ≤ cf x y) : cf y x ≤ 0 := by
 by_cases k : cf x y = 0
 ·have := h.eq k; omega
 ·have := h.gt x y (by omega); omega
theorem Ord3.lex (h : Ord3 cf) (k : Ord3 cg) : Ord3 fun x y => if cf x y ≠ 0 then cf x y else cg x y := by
 refine ⟨fun x => ?_, fun x y e => ?_, fun x y e => ?_, fun x y z e1 e2 => ?_⟩
 ·simp only [h.refl, ne_eq, not_true_eq_false, if_false, k.refl]
 ·by_cases e0 : cf x y = 0
  ·rw [if_neg (by simpa using e0)] at e
   rw [if_neg (by simpa using h.eq e0)]
   exact k.lt _ _ e
  ·rw [if_pos e0] at e
   have := h.lt _ _ e
   rw [if_pos (by omega)]
   exact this
 ·by_cases e0 : cf x y = 0
  ·rw [if_neg (by simpa using e0)] at e
   rw [if_neg (by simpa using h.eq e0)]
   exact k.gt _ _ e
  ·rw [if_pos e0] at e
   have := h.gt _ _ e
   rw [if_pos (by omega)]
   exact this
 ·have a1 : cf x y ≤ 0 := by
   by_cases e0 : cf x y = 0
   ·omega
   ·rw [if_pos e0] at e1; exact e1
  have a2 : cf y z ≤ 0 := by
   by_cases e0 : cf y z = 0
   ·omega
   ·rw [if_pos e0] at e2; exact e2
  have a3 := h.le x y z a1 a2
  by_cases e0 : cf x z = 0
  ·rw [if_neg (by simpa using e0)]
   have b0 := h.eq e0
   have b1 : cf x y = 0 := by
    have := h.le y z x a2 (by omega)
    rcases Int.lt_or_le (cf x y) 0 with q | q
    ·have := h.lt _ _ q; omega
    ·omega
   have b2 : cf y z = 0 := by
    have := h.le z x y (by omega) a1
    rcases Int.lt_or_le (cf y z) 0 with q | q
    ·have := h.lt _ _ q; omega
    ·omega
   rw [if_neg (by simpa using b1)] at e1
   rw [if_neg (by simpa using b2)] at e2
   exact k.le x y z e1 e2
  ·rw [if_pos e0]
   exact a3
theorem Ord3.on {β : Type} (h : Ord3 cf) (f : β → α) : Ord3 fun x y => cf (f x) (f y) := ⟨fun _ => h.refl _, fun _ _ => h.lt _ _, fun _ _ => h.gt _ _, fun _ _ _ => h.le _ _ _⟩
end
theorem perm_uniq {α : Type} {cf : α → α → Int} (h : Ord3 cf) : ∀ {xs ys : List α}, xs.Perm ys → xs.Pairwise (fun a b => cf a b < 0) → ys.Pairwise (fun a b => cf a b ≤ 0) → xs = ys
 | [], ys, hp, _, _ => (List.perm_nil.1 hp.symm).symm
 | x :: xs, [], hp, _, _ => absurd hp.length_eq (by simp)
 | x :: xs, y :: ys, hp, h1, h2 => by
  rw [List.pairwise_cons] at h1 h2
  have hxy : x = y := by
   rcases List.mem_cons.1 (hp.symm.subset (List.mem_cons_self)) with e | e
   ·exact e.symm
   ·have a := h1.1 y e
    rcases List.mem_cons.1 (hp.subset (List.mem_cons_self)) with e' | e'
    ·exact e'
    ·have b := h2.1 x e'
     have := h.lt _ _ a
     omega
  subst hxy
  rw [perm_uniq h (List.perm_cons x |>.1 hp) h1.2 h2.2]
end Go.D
set_option linter.unusedVariables false
namespace Go.D
open Go.Sort Go.Proofs
section
variable {α : Type} {cf cg : α → α → Int}
theorem Ord3.swo (h : Ord3 cf) : SWO (ltOf cf) := by
 refine ⟨fun x => ?_, fun x y z h1 h2 => ?_, fun x y z h1 h2 => ?_⟩
 ·unfold ltOf
  rw [h.refl]
  rfl
 ·unfold ltOf at *
  have h1 := of_decide_eq_true h1
  have h2 := of_decide_eq_true h2
  refine decide_eq_true ?_
  rcases Int.lt_or_le (cf x z) 0 with k | k
  ·exact k
  ·have := h.le z x y (h.ge k) (by omega)
   have := h.lt y z h2
   omega
 ·unfold ltOf at *
  have h1 := of_decide_eq_false h1
  have h2 := of_decide_eq_false h2
  refine decide_eq_false fun k => ?_
  have := h.le z y x (h.ge (by omega)) (h.ge (by omega))
  have := h.lt x z k
  omega
end
theorem sortL_len {α : Type} [Inhabited α] {cf : α → α → Int} (h : Ord3 cf) (zs : List α) : (sortL cf zs).Perm zs ∧ (sortL cf zs).Pairwise fun a b => cf a b ≤ 0 := by
 obtain ⟨⟨h1, h2, h3⟩, h4⟩ := pdq_sorts (ltOf cf) h.swo zs.toArray 0 zs.length (Lib.bitLen zs.length) true true (Nat.zero_le _) (by simp) (Or.inl rfl)
 have hs : (pdq (ltOf cf) zs.toArray 0 zs.length (Lib.bitLen zs.length) true true).size = zs.length := by rw [h1]; simp
 refine ⟨?_, ?_⟩
 ·unfold sortL
  generalize pdq (ltOf cf) zs.toArray 0 zs.length (Lib.bitLen zs.length) true true = ys at hs h3 ⊢
  have e : ys.extract 0 zs.length = ys := by
   rw [← hs]
   exact Array.extract_size
  rw [e] at h3
  simpa using h3
 ·rw [List.pairwise_iff_getElem]
  intro i j hi hj hij
  unfold sortL at hi hj ⊢
  rw [Array.length_toList, hs] at hi hj
  have := h4 i j (Nat.zero_le _) hij hj
  rw [getElem!_pos _ j (by rw [hs]; exact hj), getElem!_pos _ i (by rw [hs]; exact hi)] at this
  rw [Array.getElem_toList, Array.getElem_toList]
  have key : ∀ x y, ltOf cf x y = false → cf y x ≤ 0 := fun x y e => h.ge (by
   have e : decide (cf x y < 0) = false := e
   have := of_decide_eq_false e
   omega)
  exact key _ _ this
end Go.D
set_option linter.unusedVariables false
namespace Go.D
theorem ins_perm {α : Type} (xs : List α) (m : α) (k : Nat) : (xs.take k ++ m :: xs.drop k).Perm (m :: xs) := by
 have := List.perm_middle (a := m) (l₁ := xs.take k) (l₂ := xs.drop k)
 rwa [List.take_append_drop] at this
theorem ins_asc {α : Type} {R : α → α → Prop} (ht : ∀ a b c, R a b → R b c → R a c) {xs : List α} {m : α} {k : Nat} (hk : k ≤ xs.length) (hs : xs.Pairwise R)
  (h1 : ∀ j (hj : j < xs.length), k ≤ j → R m xs[j]) (h2 : ∀ (hj : k - 1 < xs.length), k ≠ 0 → R (xs[k - 1]'hj) m) : (xs.take k ++ m :: xs.drop k).Pairwise R := by
 have hidx := List.pairwise_iff_getElem.1 hs
 rw [List.pairwise_append, List.pairwise_cons]
 refine ⟨hs.sublist (List.take_sublist _ _), ⟨fun y hy => ?_, hs.sublist (List.drop_sublist _ _)⟩, fun x hx y hy => ?_⟩
 ·obtain ⟨j, hj, rfl⟩ := List.getElem_of_mem hy
  rw [List.getElem_drop]
  exact h1 _ _ (Nat.le_add_right _ _)
 ·obtain ⟨i, hi, rfl⟩ := List.getElem_of_mem hx
  have hi' : i < k := by
   rw [List.length_take] at hi
   omega
  rw [List.getElem_take]
  have hxm : R (xs[i]'(by omega)) m := by
   by_cases e : i = k - 1
   ·subst e
    exact h2 (by omega) (by omega)
   ·exact ht _ _ _ (hidx i (k - 1) (by omega) (by omega) (by omega)) (h2 (by omega) (by omega))
  rcases List.mem_cons.1 hy with rfl | hy
  ·exact hxm
  ·obtain ⟨j, hj, rfl⟩ := List.getElem_of_mem hy
   rw [List.getElem_drop]
   exact ht _ _ _ hxm (h1 _ _ (Nat.le_add_right _ _))
theorem asc_of_adj {α : Type} {R : α → α → Prop} (ht : ∀ a b c, R a b → R b c → R a c) {xs : List α} (h : ∀ i (hi : i + 1 < xs.length), R (xs[i]'(by omega)) xs[i + 1]) : xs.Pairwise R := by
 rw [List.pairwise_iff_getElem]
 intro i j hi hj hij
 have key : ∀ d (hd : i + 1 + d < xs.length), R xs[i] (xs[i + 1 + d]'hd) := by
  intro d
  induction d with
  | zero => exact fun hd => h i hd
  | succ d ih => exact fun hd => ht _ _ _ (ih (by omega)) (h (i + 1 + d) hd)
 have := key (j - (i + 1)) (by omega)
 have e : i + 1 + (j - (i + 1)) = j := by omega
 simp only [e] at this
 exact this
end Go.D
set_option linter.unusedVariables false
namespace Go.D
theorem g2 {α : Type} {xs : List α} (a b : α) : getI (xs ++ [a, b]) (xs.length : Int) = some a := by
 rw [getI_nat]
 simp
theorem g3 {α : Type} {xs : List α} (b : α) : getI (xs ++ [b]) (xs.length : Int) = some b := by
 rw [getI_nat]
 simp
section
variable {α : Type} {xs : List α} (h : xs.length ≤ 2097152)
include h
theorem g1 (a b : α) : getI (xs ++ [a, b]) (w64 (((xs ++ [a, b]).length : Int) - 1)) = some b := by
 have e : (((xs ++ [a, b]).length : Int) - 1) = ((xs.length + 1 : Nat) : Int) := by simp only [List.length_append, List.length_cons, List.length_nil]; omega
 rw [e, w64_of (by omega) (by omega), getI_nat]
 simp
end
section
variable {α : Type} {xs : List α}
end
end Go.D
set_option linter.unusedVariables false
namespace Go.D
end Go.D
set_option linter.unusedVariables false
namespace Go.D
end Go.D
set_option linter.unusedVariables false
namespace Go.D
end Go.D
set_option linter.unusedVariables false
namespace Go.D
def N0 : T_impl_Value := T_impl_Value.mk 0 0 (ByteArray.mk #[])
def cmpI (a b : Int) : Int := if a < b then -1 else if a > b then 1 else 0
def cmpS (a b : ByteArray) : Int := bif Op.bytesLess a.toList b.toList then -1 else bif !Op.bytesLess a.toList b.toList && !(a.toList == b.toList) then 1 else 0
def ordV (a b : T_impl_Value) : Int := if cmpI a.fKind b.fKind ≠ 0 then cmpI a.fKind b.fKind else if cmpI a.fN b.fN ≠ 0 then cmpI a.fN b.fN else cmpS a.fS b.fS
theorem impl_cmpI (a b : Int) : cmp_Compare_int a b = some (cmpI a b) := by
 unfold cmp_Compare_int cmp_isNaN_int cmpI
 simp only [beq_self_eq_true, Bool.not_true, Option.bind_some, cond_false]
 by_cases h : a < b
 ·simp [h]
 ·by_cases h2 : a > b
  ·simp [h, h2]
  ·simp [h, h2]
theorem impl_cmpS (a b : ByteArray) : cmp_Compare_string a b = some (cmpS a b) := by
 unfold cmp_Compare_string cmp_isNaN_string cmpS
 simp only [beq_self_eq_true, Bool.not_true, Option.bind_some, cond_false]
 cases Op.bytesLess a.toList b.toList <;> cases a.toList == b.toList <;> rfl
theorem fuel4 : ∃ F, FUEL = F + 1 + 1 + 1 + 1 := by
 have h : 4 ≤ FUEL := by unfold FUEL; omega
 exact ⟨FUEL - 4, by omega⟩
theorem impl_or3 (a b c : Int) : cmp_Or_int [a, b, c] = some (if a ≠ 0 then a else if b ≠ 0 then b else c) := by
 obtain ⟨F, hF⟩ := fuel4
 unfold cmp_Or_int
 rw [hF]
 have w3 : w64 (0 + 1) = 1 := w64_of (by omega) (by omega)
 have w4 : w64 (1 + 1) = 2 := w64_of (by omega) (by omega)
 have w5 : w64 (2 + 1) = 3 := w64_of (by omega) (by omega)
 have i0 : getI [a, b, c] 0 = some a := rfl
 have i1 : getI [a, b, c] 1 = some b := rfl
 have i2 : getI [a, b, c] 2 = some c := rfl
 have l0 : decide ((0 : Int) < (([a, b, c] : List Int).length : Int)) = true := rfl
 have l1 : decide ((1 : Int) < (([a, b, c] : List Int).length : Int)) = true := rfl
 have l2 : decide ((2 : Int) < (([a, b, c] : List Int).length : Int)) = true := rfl
 have l3 : decide ((3 : Int) < (([a, b, c] : List Int).length : Int)) = false := rfl
 rw [cmp_Or_int_l0, l0, cond_true, i0, Option.bind_some, w3, cmp_Or_int_l0, l1, cond_true, i1, Option.bind_some, w4, cmp_Or_int_l0, l2, cond_true, i2, Option.bind_some, w5, cmp_Or_int_l0, l3, cond_false]
 have bf : ∀ {x : Int}, ¬ x = 0 → (x == 0) = false := fun h => by simp [h]
 by_cases ha : a = 0
 ·subst ha
  by_cases hb : b = 0
  ·subst hb
   by_cases hc : c = 0
   ·subst hc
    rfl
   ·rw [bf hc]
    simp
  ·rw [bf hb]
   simp [hb]
 ·rw [bf ha]
  simp [ha]
theorem impl_ord (a b : T_impl_Value) : impl_Value_order a b = some (ordV a b) := by
 unfold impl_Value_order
 simp only [impl_cmpI, impl_cmpS, impl_or3, Option.bind_some, ordV]
theorem spec_less (a b : Int) : (bif !(a == b) then (spec_l1Less b a).bind fun v => some (w64 (w64 (2 * v) - 1)) else none) = (if a = b then none else some (cmpI a b)) := by
 have w1 : w64 (w64 (2 * 1) - 1) = 1 := by rw [w64_of (n := 2 * 1) (by omega) (by omega), w64_of] <;> omega
 have w0 : w64 (w64 (2 * 0) - 1) = -1 := by rw [w64_of (n := 2 * 0) (by omega) (by omega), w64_of] <;> omega
 unfold spec_l1Less cmpI
 by_cases h : a = b
 ·simp [h]
 ·have e : (a == b) = false := by simp [h]
  rw [e, if_neg h, Bool.not_false, cond_true]
  by_cases h1 : b < a
  ·have : ¬ a < b := by omega
   rw [decide_eq_true h1, cond_true, Option.bind_some, w1, if_neg this, if_pos h1]
  ·have : a < b := by omega
   rw [decide_eq_false h1, cond_false, Option.bind_some, w0, if_pos this]
theorem cmpI_ne {a b : Int} (h : a ≠ b) : cmpI a b ≠ 0 := by
 unfold cmpI
 split
 ·omega
 ·split <;> omega
theorem cmpI_eq (a : Int) : cmpI a a = 0 := by simp [cmpI]
theorem spec_ord {a b : T_impl_Value} (sa : SmV a) (sb : SmV b) (ha : valOk a = true) (hb : valOk b = true) : spec_ValueOrder a b = some (ordV a b) := by
 unfold spec_ValueOrder
 rw [spec_value sa, Option.bind_some, spec_value sb, Option.bind_some, ha, hb]
 simp only [Bool.not_true, cond_false, spec_ValueOrder_j0]
 have hk := spec_less a.fKind b.fKind
 have hn := spec_less a.fN b.fN
 unfold ordV
 by_cases h1 : a.fKind = b.fKind
 ·rw [if_neg (by rw [h1, cmpI_eq]; simp)]
  by_cases h2 : a.fN = b.fN
  ·rw [if_neg (by rw [h2, cmpI_eq]; simp)]
   simp only [h1, h2, beq_self_eq_true, Bool.not_true, cond_false, spec_l1Cmp, cmpS]
   cases Op.bytesLess a.fS.toList b.fS.toList <;> cases a.fS.toList == b.fS.toList <;> rfl
  ·rw [if_pos (cmpI_ne h2)]
   rw [if_neg h2] at hn
   have e : (a.fN == b.fN) = false := by simp [h2]
   rw [e] at hn ⊢
   simp only [h1, beq_self_eq_true, Bool.not_true, cond_false]
   exact hn
 ·rw [if_pos (cmpI_ne h1)]
  rw [if_neg h1] at hk
  have e : (a.fKind == b.fKind) = false := by simp [h1]
  rw [e] at hk ⊢
  exact hk
end Go.D
set_option linter.unusedVariables false
namespace Go.D
theorem ord_int : Ord3 cmpI := by
 refine ⟨fun x => ?_, fun x y e => ?_, fun x y e => ?_, fun x y z e1 e2 => ?_⟩ <;> unfold cmpI at *
 ·simp
 ·repeat' split at e
  all_goals (repeat' split) <;> omega
 ·repeat' split at e
  all_goals (repeat' split) <;> omega
 ·repeat' split at e1
  all_goals (repeat' split at e2)
  all_goals (repeat' split) <;> omega
end Go.D
set_option linter.unusedVariables false
namespace Go.D
open Go.Sort Go.Proofs Go.Lib
theorem cmpS_eq (a b : ByteArray) : cmpS a b = if a.toList < b.toList then -1 else if a.toList = b.toList then 0 else 1 := by
 unfold cmpS
 rw [bytesLess_eq]
 by_cases h : a.toList < b.toList
 ·simp [h]
 ·by_cases e : a.toList = b.toList
  ·simp [e]
  ·have e2 : (a.toList == b.toList) = false := beq_eq_false_iff_ne.2 e
   rw [decide_eq_false h, e2, if_neg h, if_neg e]
   rfl
theorem ord_str : Ord3 cmpS := by
 have tri : ∀ a b : List UInt8, ¬ a < b → a ≠ b → b < a := fun a b h n => by
  rcases List.le_total a b with k | k
  ·exact absurd (List.le_antisymm k (List.not_lt.1 h)) n
  ·rcases List.le_iff_lt_or_eq.1 k with k | k
   ·exact k
   ·exact absurd k.symm n
 have irr : ∀ a : List UInt8, ¬ a < a := fun a => List.lt_irrefl a
 have asy : ∀ a b : List UInt8, a < b → ¬ b < a := fun a b h k => List.lt_irrefl a (List.lt_trans h k)
 refine ⟨fun x => ?_, fun x y e => ?_, fun x y e => ?_, fun x y z e1 e2 => ?_⟩
 ·rw [cmpS_eq, if_neg (irr _), if_pos rfl]
 ·rw [cmpS_eq] at e ⊢
  have h : x.toList < y.toList := by
   split at e
   ·assumption
   ·split at e <;> omega
  rw [if_neg (asy _ _ h), if_neg (fun k => irr _ (by rw [k] at h; exact h))]
  omega
 ·rw [cmpS_eq] at e ⊢
  have h : y.toList < x.toList := by
   split at e
   ·omega
   ·split at e
    ·omega
    ·exact tri _ _ (by assumption) (by assumption)
  rw [if_pos h]
  omega
 ·rw [cmpS_eq] at e1 e2 ⊢
  have le : ∀ a b : ByteArray, (if a.toList < b.toList then (-1 : Int) else if a.toList = b.toList then 0 else 1) ≤ 0 → a.toList < b.toList ∨ a.toList = b.toList := fun a b e => by
   split at e
   ·exact .inl (by assumption)
   ·split at e
    ·exact .inr (by assumption)
    ·omega
  have : x.toList < z.toList ∨ x.toList = z.toList := by
   rcases le _ _ e1 with h1 | h1
   ·rcases le _ _ e2 with h2 | h2
    ·exact .inl (List.lt_trans h1 h2)
    ·exact .inl (by rw [← h2]; exact h1)
   ·rcases le _ _ e2 with h2 | h2
    ·exact .inl (by rw [h1]; exact h2)
    ·exact .inr (h1.trans h2)
  rcases this with h | h
  ·rw [if_pos h]
   omega
  ·rw [if_neg (by rw [h]; exact irr _), if_pos h]
   omega
theorem ord_val : Ord3 ordV := (ord_int.on T_impl_Value.fKind).lex ((ord_int.on T_impl_Value.fN).lex (ord_str.on T_impl_Value.fS))
end Go.D
set_option linter.unusedVariables false
namespace Go.D
def ordM (a b : T_impl_Mark) : Int := if ordV a.fV b.fV ≠ 0 then ordV a.fV b.fV else if cmpI a.fKey b.fKey ≠ 0 then cmpI a.fKey b.fKey else cmpI a.fBorn b.fBorn
theorem ord_mark : Ord3 ordM := (ord_val.on T_impl_Mark.fV).lex ((ord_int.on T_impl_Mark.fKey).lex (ord_int.on T_impl_Mark.fBorn))
theorem impl_ordM (a b : T_impl_Mark) : impl_Mark_order a b = some (ordM a b) := by
 unfold impl_Mark_order
 simp only [impl_ord, impl_cmpI, impl_or3, Option.bind_some, ordM]
theorem spec_lessM {a b : T_impl_Mark} (sa : SmV a.fV) (sb : SmV b.fV) (ha : valOk a.fV = true) (hb : valOk b.fV = true) : spec_l31Less a b = some (decide (ordM a b < 0)) := by
 unfold spec_l31Less ordM
 rw [spec_ord sa sb ha hb, Option.bind_some]
 by_cases h0 : ordV a.fV b.fV = 0
 ·rw [if_neg (by simpa using h0), h0]
  simp only [beq_self_eq_true, Bool.not_true, cond_false]
  by_cases h1 : a.fKey < b.fKey
  ·rw [decide_eq_true h1, cond_true]
   have : cmpI a.fKey b.fKey = -1 := by unfold cmpI; rw [if_pos h1]
   rw [this]
   rfl
  ·rw [decide_eq_false h1, cond_false]
   by_cases h2 : a.fKey = b.fKey
   ·have : cmpI a.fKey b.fKey = 0 := by rw [h2]; exact cmpI_eq _
    rw [this, if_neg (by simp), h2, beq_self_eq_true, cond_true]
    congr 1
    rw [decide_eq_decide]
    unfold cmpI
    repeat' split <;> omega
   ·have : cmpI a.fKey b.fKey = 1 := by unfold cmpI; rw [if_neg h1, if_pos (by omega)]
    rw [this, beq_eq_false_iff_ne.2 h2]
    rfl
 ·rw [if_pos h0, beq_eq_false_iff_ne.2 h0]
  rfl
def firstV (r : List T_impl_Value) : T_impl_Value := (r.head?).getD N0
theorem impl_first (r : List T_impl_Value) : impl_firstOf r = some (firstV r) := by
 unfold impl_firstOf firstV
 cases r with
 | nil => rfl
 | cons v r =>
  have : (((v :: r).length : Int) == 0) = false := beq_eq_false_iff_ne.2 (by simp; omega)
  rw [this]
  rfl
theorem spec_first (r : List T_impl_Value) : spec_l31Value r = some (firstV r) := by
 unfold spec_l31Value firstV
 cases r with
 | nil => rfl
 | cons v r =>
  have : (((v :: r).length : Int) == 0) = false := beq_eq_false_iff_ne.2 (by simp; omega)
  rw [this]
  rfl
end Go.D
set_option linter.unusedVariables false
namespace Go.D
def SmM (m : T_impl_Mark) : Prop := SmV m.fV ∧ valOk m.fV = true
theorem put_loop {xs : List T_impl_Mark} {m : T_impl_Mark} (hl : xs.length ≤ 1000) (hx : ∀ x ∈ xs, SmM x) (hm : SmM m) : ∀ (k f : Nat), k ≤ xs.length → k < f → (∀ j (hj : j < xs.length), k ≤ j → ordM m xs[j] < 0) →
  ∃ k', spec_l31Put_l0 xs m f (k : Int) = some (xs.take k' ++ m :: xs.drop k') ∧ k' ≤ xs.length ∧ (∀ j (hj : j < xs.length), k' ≤ j → ordM m xs[j] < 0) ∧ ∀ (hj : k' - 1 < xs.length), k' ≠ 0 → ¬ ordM m (xs[k' - 1]'hj) < 0 := by
 intro k
 have fin : ∀ k, k ≤ xs.length → ∀ K, spec_l31Put_j1 xs m (k : Int) K false = some (xs.take k ++ m :: xs.drop k) := by
  intro k hk K
  have e1 : slI xs none (some (k : Int)) none = some (xs.take k) := by
   unfold slI
   rw [if_pos (by simp only [Option.getD_none, Option.getD_some]; omega)]
   simp
  have e2 : slI xs (some (k : Int)) none none = some (xs.drop k) := by
   unfold slI
   rw [if_pos (by simp only [Option.getD_none, Option.getD_some]; omega)]
   simp
   exact List.take_of_length_le (by simp)
  rw [spec_l31Put_j1, cond_false, e1, Option.bind_some, app_lt (by simp; omega), Option.bind_some, app_lt (by simp; omega), Option.bind_some, e2, Option.bind_some, app_lt (by simp; omega), Option.bind_some]
  simp
 induction k with
 | zero =>
  intro f hk hf hj
  obtain ⟨f, rfl⟩ : ∃ f', f = f' + 1 := ⟨f - 1, by omega⟩
  refine ⟨0, ?_, hk, hj, fun _ h => absurd rfl h⟩
  rw [spec_l31Put_l0, decide_eq_false (show ¬ (((0 : Nat) : Int) > 0) by omega), cond_false]
  exact fin 0 hk _
 | succ k ih =>
  intro f hk hf hj
  obtain ⟨f, rfl⟩ : ∃ f', f = f' + 1 := ⟨f - 1, by omega⟩
  have hkl : k < xs.length := by omega
  have hw : w64 (((k + 1 : Nat) : Int) - 1) = (k : Int) := by rw [w64_of (by omega) (by omega)]; omega
  have hg : getI xs (k : Int) = some xs[k] := by rw [getI_nat, List.getElem?_eq_getElem hkl]
  have hxk := hx _ (List.getElem_mem hkl)
  rw [spec_l31Put_l0, decide_eq_true (show ((k + 1 : Nat) : Int) > 0 by omega), cond_true, hw, hg, Option.bind_some, spec_lessM hm.1 hxk.1 hm.2 hxk.2, Option.bind_some]
  by_cases hlt : ordM m xs[k] < 0
  ·rw [decide_eq_true hlt, spec_l31Put_j1, cond_true, hw]
   refine ih f (by omega) (by omega) fun j hjl hkj => ?_
   by_cases e : j = k
   ·subst e
    exact hlt
   ·exact hj j hjl (by omega)
  ·rw [decide_eq_false hlt]
   exact ⟨k + 1, fin _ hk _, hk, hj, fun _ _ => hlt⟩
theorem ordM_zero {a b : T_impl_Mark} (h : ordM a b = 0) : a.fKey = b.fKey ∧ a.fBorn = b.fBorn := by
 unfold ordM at h
 by_cases h0 : ordV a.fV b.fV = 0
 ·rw [if_neg (by simpa using h0)] at h
  by_cases h1 : cmpI a.fKey b.fKey = 0
  ·rw [if_neg (by simpa using h1)] at h
   have z : ∀ x y : Int, cmpI x y = 0 → x = y := fun x y e => by
    by_cases q : x = y
    ·exact q
    ·exact absurd e (cmpI_ne q)
   exact ⟨z _ _ h1, z _ _ h⟩
  ·rw [if_pos h1] at h
   exact absurd h h1
 ·rw [if_pos h0] at h
  exact absurd h h0
theorem first_ok {r : List T_impl_Value} (h : SmR r) (hr : rowOk r = true) : SmV (firstV r) ∧ valOk (firstV r) = true := by
 have e0 : (ByteArray.mk #[]).size = 0 := rfl
 unfold firstV
 cases r with
 | nil =>
  refine ⟨?_, show valOk N0 = true by simp [valOk, N0]⟩
  show Sm (ByteArray.mk #[]).size
  rw [e0]
  omega
 | cons v r =>
  unfold rowOk at hr
  simp only [List.all_cons, Bool.and_eq_true] at hr
  exact ⟨h.2 v (by simp), hr.1.1⟩
end Go.D
set_option linter.unusedVariables false
namespace Go.D
end Go.D
set_option linter.unusedVariables false
namespace Go.D
def markG (m : T_impl_Mark) : Bool := valOk m.fV && (inR m.fKey 0 4 && (inR m.fBorn 1 40 && (m.fDied == 0 || inR m.fDied (w64 (m.fBorn + 1)) 40)))
def endM (m : T_impl_Mark) : Int := bif m.fDied == 0 then 41 else m.fDied
def overM (a b : T_impl_Mark) : Bool := a.fKey == b.fKey && (decide (a.fBorn < endM b) && decide (b.fBorn < endM a))
def ixP (xs : List T_impl_Mark) (i : Nat) : Bool := match xs[i]? with
 | some m => (markG m && (i == 0 || match xs[i - 1]? with | some u => decide (ordM u m ≤ 0) | none => true)) && !((xs.take i).any fun z => overM z m)
 | none => true
def ixOk (xs : List T_impl_Mark) : Bool := (List.range xs.length).all (ixP xs) && decide (xs.length ≤ 60)
def SmMs (xs : List T_impl_Mark) : Prop := Sm xs.length ∧ ∀ m ∈ xs, SmV m.fV
theorem impl_over (a b : T_impl_Mark) : impl_IndexOk_1 a b = some (overM a b) := by
 have e : ∀ m, impl_Mark_end m = some (endM m) := fun m => by
  unfold impl_Mark_end endM
  cases m.fDied == 0 <;> rfl
 unfold impl_IndexOk_1 overM
 simp only [e, Option.bind_some]
 cases a.fKey == b.fKey <;> cases decide (a.fBorn < endM b) <;> rfl
theorem impl_anyM {xs : List T_impl_Mark} (h : Sm xs.length) {f : T_impl_Mark → Option Bool} {p : T_impl_Mark → Bool} (hf : ∀ m, f m = some (p m)) : slices_ContainsFunc_impl_Mark_impl_Mark xs f = some (xs.any p) := by
 unfold slices_ContainsFunc_impl_Mark_impl_Mark slices_IndexFunc_impl_Mark_impl_Mark
 obtain ⟨r, h1, h2⟩ := loop_find (xs := xs) (L := slices_IndexFunc_impl_Mark_impl_Mark_l0 xs f) (p := p) (by omega) (fun f i v hi hv hw => by
  have : (i : Int) < xs.length := by omega
  simp only [slices_IndexFunc_impl_Mark_impl_Mark_l0, this, decide_true, cond_true, getI_nat, hv, Option.bind_some, hf, hw]) (fun f => by
  simp only [slices_IndexFunc_impl_Mark_impl_Mark_l0, Int.lt_irrefl, decide_false, cond_false])
 rw [h1, Option.bind_some, h2]
theorem impl_ixOk {xs : List T_impl_Mark} (h : SmMs xs) : impl_IndexOk xs = some (ixOk xs) := by
 have hl := h.1
 unfold impl_IndexOk ixOk
 refine loop_idx (by omega) (fun f i hi hw => ?_) (fun f => ?_)
 ·have hv : xs[i]? = some xs[i] := List.getElem?_eq_getElem hi
  have hg : getI xs (i : Int) = some xs[i] := by rw [getI_nat, hv]
  have hk : impl_keyOk xs[i].fKey = some (inR xs[i].fKey 0 4) := by
   unfold impl_keyOk
   rw [impl_in]
   rfl
  have ht : slI xs none (some (i : Int)) none = some (xs.take i) := by
   unfold slI
   rw [if_pos (by simp only [Option.getD_none, Option.getD_some]; omega)]
   simp
  have key : ∀ b, (markG xs[i] && (i == 0 || match xs[i - 1]? with | some u => decide (ordM u xs[i] ≤ 0) | none => true)) = !b → impl_IndexOk_j1 xs (i : Int) (impl_IndexOk_l0 xs f) xs[i] b = bif ixP xs i then impl_IndexOk_l0 xs f ((i + 1 : Nat) : Int) else some false := by
   intro b hb
   unfold ixP
   rw [hv]
   simp only
   rw [hb]
   cases b with
   | true => rfl
   | false =>
    rw [impl_IndexOk_j1, cond_false, ht, Option.bind_some, impl_anyM (by rw [List.length_take]; omega) (fun m => impl_over m xs[i]), Option.bind_some, hw]
    cases (xs.take i).any fun z => overM z xs[i] <;> rfl
  rw [impl_IndexOk_l0, decide_eq_true (by omega), cond_true, hg, Option.bind_some, impl_value (h.2 _ (List.getElem_mem hi)), Option.bind_some]
  simp only [hk, impl_in, Option.bind_some]
  have ho : (bif decide ((i : Int) > 0) then (getI xs (w64 ((i : Int) - 1))).bind fun v22 => (impl_Mark_order v22 xs[i]).bind fun v24 => impl_IndexOk_j1 xs (i : Int) (impl_IndexOk_l0 xs f) xs[i] (decide (v24 > 0)) else impl_IndexOk_j1 xs (i : Int) (impl_IndexOk_l0 xs f) xs[i] false)
    = impl_IndexOk_j1 xs (i : Int) (impl_IndexOk_l0 xs f) xs[i] (!(i == 0 || match xs[i - 1]? with | some u => decide (ordM u xs[i] ≤ 0) | none => true)) := by
   by_cases h0 : i = 0
   ·subst h0
    rfl
   ·have hi1 : i - 1 < xs.length := by omega
    have hw1 : w64 ((i : Int) - 1) = ((i - 1 : Nat) : Int) := by rw [w64_of (by omega) (by omega)]; omega
    have hv1 : xs[i - 1]? = some xs[i - 1] := List.getElem?_eq_getElem hi1
    have e0 : (i == 0) = false := by simpa using h0
    have e1 : decide (ordM xs[i - 1] xs[i] > 0) = !(decide (ordM xs[i - 1] xs[i] ≤ 0)) := by
     rw [← decide_not]
     exact decide_eq_decide.2 (by omega)
    rw [decide_eq_true (show (i : Int) > 0 by omega), cond_true, hw1, getI_nat, hv1, Option.bind_some, impl_ordM, Option.bind_some, e0, Bool.false_or, e1]
  rw [ho]
  have key' := key
  unfold markG at key'
  cases e1 : valOk xs[i].fV with
  | false =>
   rw [e1] at key'
   exact key' true rfl
  | true =>
   cases e2 : inR xs[i].fKey 0 4 with
   | false =>
    rw [e1, e2] at key'
    exact key' true rfl
   | true =>
    cases e3 : inR xs[i].fBorn 1 40 with
    | false =>
     rw [e1, e2, e3] at key'
     exact key' true rfl
    | true =>
     rw [e1, e2, e3] at key'
     cases e4 : xs[i].fDied == 0 with
     | true =>
      rw [e4] at key'
      exact key' _ (by rw [Bool.not_not]; rfl)
     | false =>
      cases e5 : inR xs[i].fDied (w64 (xs[i].fBorn + 1)) 40 with
      | false =>
       rw [e4, e5] at key'
       exact key' true rfl
      | true =>
       rw [e4, e5] at key'
       exact key' _ (by rw [Bool.not_not]; rfl)
 ·have e : decide ((xs.length : Int) ≤ 60) = decide (xs.length ≤ 60) := decide_eq_decide.2 (by omega)
  rw [impl_IndexOk_l0, decide_eq_false (Int.lt_irrefl _), cond_false, e]
end Go.D
set_option linter.unusedVariables false
namespace Go.D
def overS (z m : T_impl_Mark) : Bool := z.fKey == m.fKey && (bif z.fDied == 0 then (m.fDied == 0 || decide (z.fBorn < m.fDied)) else decide (m.fBorn < z.fDied) && (m.fDied == 0 || decide (z.fBorn < m.fDied)))
def lessS (a b : T_impl_Mark) : Bool := (spec_l31Less a b).getD false
theorem spec_lessS {a b : T_impl_Mark} (sa : SmV a.fV) (sb : SmV b.fV) : spec_l31Less a b = some (lessS a b) := by
 have fin : ∀ q, spec_l31Less a b = some q → spec_l31Less a b = some (lessS a b) := fun q hq => by
  unfold lessS
  rw [hq]
  rfl
 have bad : spec_ValueOrder a.fV b.fV = some 0 → spec_l31Less a b = some (lessS a b) := fun e0 => by
  have : ∃ q, spec_l31Less a b = some q := by
   unfold spec_l31Less
   rw [e0, Option.bind_some]
   simp only [beq_self_eq_true, Bool.not_true, cond_false]
   cases decide (a.fKey < b.fKey) <;> cases a.fKey == b.fKey <;> exact ⟨_, rfl⟩
  obtain ⟨q, hq⟩ := this
  exact fin q hq
 cases ha : valOk a.fV with
 | false => exact bad (by unfold spec_ValueOrder; rw [spec_value sa, Option.bind_some, ha]; rfl)
 | true =>
  cases hb : valOk b.fV with
  | false => exact bad (by unfold spec_ValueOrder; rw [spec_value sa, Option.bind_some, ha, Bool.not_true, cond_false, spec_value sb, Option.bind_some, hb]; rfl)
  | true => exact fin _ (spec_lessM sa sb ha hb)
theorem lessS_ok {a b : T_impl_Mark} (sa : SmV a.fV) (sb : SmV b.fV) (ha : valOk a.fV = true) (hb : valOk b.fV = true) : lessS a b = decide (ordM a b < 0) := by
 have := spec_lessS sa sb
 rw [spec_lessM sa sb ha hb] at this
 exact (Option.some.inj this).symm
def ixS (xs : List T_impl_Mark) (i : Nat) : Bool := match xs[i]? with
 | some m => (markG m && (i == 0 || match xs[i - 1]? with | some u => lessS u m | none => true)) && !((xs.take i).any fun z => overS z m)
 | none => true
theorem over_loop {xs : List T_impl_Mark} {i : Nat} (hl : xs.length ≤ 70368744177662) (hi : i ≤ xs.length) (K : Int → Option Bool) (m : T_impl_Mark) : spec_IndexOk_l2 xs (i : Int) K m FUEL 0 = bif (xs.take i).any (fun z => overS z m) then some false else K (w64 ((i : Int) + 1)) := by
 have hlen : (xs.take i).length = i := by rw [List.length_take]; omega
 have := loop_opt (xs := xs.take i) (L := fun f j (_ : Unit) => spec_IndexOk_l2 xs (i : Int) K m f j) (fun rest _ => bif rest.any (fun z => overS z m) then some false else K (w64 ((i : Int) + 1))) (fun _ _ => True) (by omega)
  (fun f j s v hj hv hw _ => by
   have hji : j < i := by omega
   have hx : xs[j]? = some v := by
    rw [List.getElem?_take] at hv
    rwa [if_pos hji] at hv
   have st : spec_IndexOk_l2 xs (i : Int) K m (f + 1) j = bif overS v m then some false else spec_IndexOk_l2 xs (i : Int) K m f ((j + 1 : Nat) : Int) := by
    rw [spec_IndexOk_l2, decide_eq_true (by omega), cond_true, getI_nat, hx, Option.bind_some]
    unfold overS spec_IndexOk_j3
    rw [hw]
    cases v.fKey == m.fKey <;> cases v.fDied == 0 <;> cases m.fDied == 0 <;> cases decide (v.fBorn < m.fDied) <;> cases decide (m.fBorn < v.fDied) <;> rfl
   cases ho : overS v m with
   | true => exact .inl (by rw [st, ho, cond_true, List.any_cons, ho]; rfl)
   | false => exact .inr ⟨(), trivial, by rw [st, ho, cond_false], by rw [List.any_cons, ho, Bool.false_or]⟩)
  (fun f s _ => by rw [hlen, spec_IndexOk_l2, decide_eq_false (Int.lt_irrefl _), cond_false]; rfl) (s := ()) trivial
 exact this
theorem mark_ver (m : T_impl_Mark) : markG m = (valOk m.fV && verG (T_impl_Version.mk m.fKey m.fBorn m.fDied [])) := by
 have h : rowOk [] = true := rfl
 unfold markG verG
 rw [h, Bool.and_true]
theorem spec_ixS {xs : List T_impl_Mark} (h : SmMs xs) : spec_IndexOk xs = some ((List.range xs.length).all (ixS xs) && decide (xs.length ≤ 60)) := by
 have hl := h.1
 unfold spec_IndexOk
 refine loop_idx (by omega) (fun f i hi hw => ?_) (fun f => ?_)
 ·have hv : xs[i]? = some xs[i] := List.getElem?_eq_getElem hi
  have hg : getI xs (i : Int) = some xs[i] := by rw [getI_nat, hv]
  have key : ∀ b, (markG xs[i] && (i == 0 || match xs[i - 1]? with | some u => lessS u xs[i] | none => true)) = !b → spec_IndexOk_j1 xs (i : Int) (spec_IndexOk_l0 xs f) xs[i] b = bif ixS xs i then spec_IndexOk_l0 xs f ((i + 1 : Nat) : Int) else some false := by
   intro b hb
   unfold ixS
   rw [hv]
   simp only
   rw [hb]
   cases b with
   | true => rfl
   | false =>
    rw [spec_IndexOk_j1, cond_false, over_loop (by omega) (by omega), hw]
    cases (xs.take i).any fun z => overS z xs[i] <;> rfl
  rw [mark_ver] at key
  rw [spec_IndexOk_l0, decide_eq_true (by omega), cond_true, hg, Option.bind_some, spec_value (h.2 _ (List.getElem_mem hi)), Option.bind_some]
  cases e1 : valOk xs[i].fV with
  | false =>
   rw [e1] at key
   exact key true rfl
  | true =>
   rw [e1, Bool.true_and] at key
   rw [Bool.not_true, cond_false, spec_verG ⟨by simp, fun v hv => (by cases hv)⟩, Option.bind_some]
   cases e2 : verG (T_impl_Version.mk xs[i].fKey xs[i].fBorn xs[i].fDied []) with
   | false =>
    rw [e2] at key
    exact key true rfl
   | true =>
    rw [e2, Bool.true_and] at key
    rw [Bool.not_true, cond_false]
    by_cases h0 : i = 0
    ·subst h0
     exact key false rfl
    ·have hi1 : i - 1 < xs.length := by omega
     have hw1 : w64 ((i : Int) - 1) = ((i - 1 : Nat) : Int) := by rw [w64_of (by omega) (by omega)]; omega
     have hv1 : xs[i - 1]? = some xs[i - 1] := List.getElem?_eq_getElem hi1
     have e0 : (i == 0) = false := by simpa using h0
     rw [decide_eq_true (show (i : Int) > 0 by omega), cond_true, hw1, getI_nat, hv1, Option.bind_some, spec_lessS (h.2 _ (List.getElem_mem hi1)) (h.2 _ (List.getElem_mem hi)), Option.bind_some]
     refine key _ ?_
     rw [e0, hv1, Bool.not_not, Bool.false_or]
 ·have e : decide ((xs.length : Int) ≤ 60) = decide (xs.length ≤ 60) := decide_eq_decide.2 (by omega)
  rw [spec_IndexOk_l0, decide_eq_false (Int.lt_irrefl _), cond_false, e]
theorem markG_born {m : T_impl_Mark} (h : markG m = true) : valOk m.fV = true ∧ 1 ≤ m.fBorn ∧ m.fBorn ≤ 40 ∧ (m.fDied = 0 ∨ m.fBorn + 1 ≤ m.fDied ∧ m.fDied ≤ 40) := by
 unfold markG at h
 simp only [Bool.and_eq_true, Bool.or_eq_true, beq_iff_eq] at h
 obtain ⟨h1, _, h3, h4⟩ := h
 unfold inR at h3 h4
 simp only [Bool.and_eq_true, decide_eq_true_eq] at h3 h4
 have hw : w64 (m.fBorn + 1) = m.fBorn + 1 := w64_of (by omega) (by omega)
 rw [hw] at h4
 exact ⟨h1, h3.1, h3.2, h4⟩
theorem over_eq {z m : T_impl_Mark} (hz : markG z = true) (hm : markG m = true) : overS z m = overM z m := by
 obtain ⟨_, _, z2, _⟩ := markG_born hz
 obtain ⟨_, _, m2, _⟩ := markG_born hm
 unfold overS overM endM
 cases hz0 : z.fDied == 0 <;> cases hm0 : m.fDied == 0 <;> simp only [cond_true, cond_false, Bool.true_or, Bool.false_or, Bool.and_true]
 ·rw [Bool.and_comm (decide (m.fBorn < z.fDied))]
 ·rw [decide_eq_true (show z.fBorn < 41 by omega), Bool.true_and]
 ·rw [decide_eq_true (show m.fBorn < 41 by omega), Bool.and_true]
 ·rw [decide_eq_true (show m.fBorn < 41 by omega), decide_eq_true (show z.fBorn < 41 by omega), Bool.and_true, Bool.and_true]
theorem ord_over {a b : T_impl_Mark} (ha : markG a = true) (hb : markG b = true) (h : ordM a b = 0) : overM a b = true := by
 obtain ⟨h1, h2⟩ := ordM_zero h
 obtain ⟨_, a1, a2, a3⟩ := markG_born ha
 obtain ⟨_, b1, b2, b3⟩ := markG_born hb
 unfold overM endM
 rw [h1, beq_self_eq_true, Bool.true_and, Bool.and_eq_true, decide_eq_true_eq, decide_eq_true_eq]
 constructor
 ·cases hq : b.fDied == 0 with
  | true => rw [cond_true]; omega
  | false =>
   have := beq_eq_false_iff_ne.1 hq
   rw [cond_false]; omega
 ·cases hq : a.fDied == 0 with
  | true => rw [cond_true]; omega
  | false =>
   have := beq_eq_false_iff_ne.1 hq
   rw [cond_false]; omega
theorem ixS_iff {xs : List T_impl_Mark} {i : Nat} (hi : i < xs.length) : ixS xs i = true ↔ markG xs[i] = true ∧ (i ≠ 0 → lessS (xs[i - 1]'(by omega)) xs[i] = true) ∧ ∀ z ∈ xs.take i, overS z xs[i] = false := by
 unfold ixS
 rw [List.getElem?_eq_getElem hi, List.getElem?_eq_getElem (show i - 1 < xs.length by omega)]
 simp only [Bool.and_eq_true, Bool.or_eq_true, beq_iff_eq, Bool.not_eq_true', List.any_eq_false]
 constructor
 ·rintro ⟨⟨h1, h2⟩, h3⟩
  exact ⟨h1, fun h0 => h2.resolve_left h0, fun z hz => by simpa using h3 z hz⟩
 ·rintro ⟨h1, h2, h3⟩
  refine ⟨⟨h1, ?_⟩, fun z hz => by simpa using h3 z hz⟩
  by_cases h0 : i = 0
  ·exact .inl h0
  ·exact .inr (h2 h0)
theorem ixP_iff {xs : List T_impl_Mark} {i : Nat} (hi : i < xs.length) : ixP xs i = true ↔ markG xs[i] = true ∧ (i ≠ 0 → ordM (xs[i - 1]'(by omega)) xs[i] ≤ 0) ∧ ∀ z ∈ xs.take i, overM z xs[i] = false := by
 unfold ixP
 rw [List.getElem?_eq_getElem hi, List.getElem?_eq_getElem (show i - 1 < xs.length by omega)]
 simp only [Bool.and_eq_true, Bool.or_eq_true, beq_iff_eq, Bool.not_eq_true', List.any_eq_false, decide_eq_true_eq]
 constructor
 ·rintro ⟨⟨h1, h2⟩, h3⟩
  exact ⟨h1, fun h0 => h2.resolve_left h0, fun z hz => by simpa using h3 z hz⟩
 ·rintro ⟨h1, h2, h3⟩
  refine ⟨⟨h1, ?_⟩, fun z hz => by simpa using h3 z hz⟩
  by_cases h0 : i = 0
  ·exact .inl h0
  ·exact .inr (h2 h0)
theorem take_mem {α : Type} {xs : List α} {i : Nat} (hi : i < xs.length) (h0 : i ≠ 0) : xs[i - 1]'(by omega) ∈ xs.take i := List.mem_take_iff_getElem.2 ⟨i - 1, by omega, rfl⟩
theorem spec_ixOk {xs : List T_impl_Mark} (h : SmMs xs) : spec_IndexOk xs = some (ixOk xs) := by
 rw [spec_ixS h]
 unfold ixOk
 congr 2
 rw [Bool.eq_iff_iff, List.all_eq_true, List.all_eq_true]
 have sm : ∀ {i : Nat} (hi : i < xs.length), SmV xs[i].fV := fun hi => h.2 _ (List.getElem_mem hi)
 constructor
 ·intro H i hi
  have hi := List.mem_range.1 hi
  have H' : ∀ j (hj : j < xs.length), markG xs[j] = true := fun j hj => ((ixS_iff hj).1 (H j (List.mem_range.2 hj))).1
  obtain ⟨h1, h2, h3⟩ := (ixS_iff hi).1 (H i (List.mem_range.2 hi))
  refine (ixP_iff hi).2 ⟨h1, fun h0 => ?_, fun z hz => ?_⟩
  ·have := h2 h0
   rw [lessS_ok (sm (by omega)) (sm hi) (markG_born (H' _ (by omega))).1 (markG_born h1).1, decide_eq_true_eq] at this
   omega
  ·have := h3 z hz
   obtain ⟨j, hj, rfl⟩ := List.getElem_of_mem (List.mem_of_mem_take hz)
   rw [over_eq (H' j hj) h1] at this
   exact this
 ·intro H i hi
  have hi := List.mem_range.1 hi
  have H' : ∀ j (hj : j < xs.length), markG xs[j] = true := fun j hj => ((ixP_iff hj).1 (H j (List.mem_range.2 hj))).1
  obtain ⟨h1, h2, h3⟩ := (ixP_iff hi).1 (H i (List.mem_range.2 hi))
  refine (ixS_iff hi).2 ⟨h1, fun h0 => ?_, fun z hz => ?_⟩
  ·have q := h2 h0
   have q2 := h3 _ (take_mem hi h0)
   rw [lessS_ok (sm (by omega)) (sm hi) (markG_born (H' _ (by omega))).1 (markG_born h1).1, decide_eq_true_eq]
   have : ordM (xs[i - 1]'(by omega)) xs[i] ≠ 0 := fun hz => by
    rw [ord_over (H' _ (by omega)) h1 hz] at q2
    cases q2
   omega
  ·have := h3 z hz
   obtain ⟨j, hj, rfl⟩ := List.getElem_of_mem (List.mem_of_mem_take hz)
   rw [over_eq (H' j hj) h1]
   exact this
end Go.D
set_option linter.unusedVariables false
namespace Go.D
def wrG (w : T_impl_Write) : Bool := inR w.fKey 0 4 && (rowOk w.fRow && !(w.fGone && decide (0 < w.fRow.length)))
def wrP (ws : List T_impl_Write) (i : Nat) : Bool := match ws[i]? with
 | some w => wrG w && (i == 0 || match ws[i - 1]? with | some u => decide (u.fKey < w.fKey) | none => true)
 | none => true
def wOk (ws : List T_impl_Write) : Bool := (List.range ws.length).all (wrP ws)
def SmWrs (ws : List T_impl_Write) : Prop := Sm ws.length ∧ ∀ w ∈ ws, SmR w.fRow
theorem spec_wOk {ws : List T_impl_Write} (h : SmWrs ws) : spec_WritesOk ws = some (wOk ws) := by
 have hl := h.1
 unfold spec_WritesOk wOk
 have := loop_idx (n := ws.length) (L := spec_WritesOk_l0 ws) (p := wrP ws) (fin := true) (by omega) (fun f i hi hw => by
  have hv : ws[i]? = some ws[i] := List.getElem?_eq_getElem hi
  have hg : getI ws (i : Int) = some ws[i] := by rw [getI_nat, hv]
  rw [spec_WritesOk_l0, decide_eq_true (by omega), cond_true, hg, Option.bind_some, spec_in, Option.bind_some, spec_rowOk (h.2 _ (List.getElem_mem hi)), Option.bind_some]
  unfold wrP wrG
  rw [hv]
  simp only
  have hlen : decide ((ws[i].fRow.length : Int) > 0) = decide (0 < ws[i].fRow.length) := decide_eq_decide.2 (by omega)
  rw [hlen]
  cases inR ws[i].fKey 0 4 with
  | false => rfl
  | true =>
   cases rowOk ws[i].fRow with
   | false => rfl
   | true =>
    simp only [Bool.not_true, cond_false, Bool.true_and]
    by_cases h0 : i = 0
    ·subst h0
     simp only [show decide (((0 : Nat) : Int) > 0) = false from rfl, cond_false, spec_WritesOk_j1, hw]
     cases ws[0].fGone <;> cases decide (0 < ws[0].fRow.length) <;> rfl
    ·have hi1 : i - 1 < ws.length := by omega
     have hw1 : w64 ((i : Int) - 1) = ((i - 1 : Nat) : Int) := by rw [w64_of (by omega) (by omega)]; omega
     have hv1 : ws[i - 1]? = some ws[i - 1] := List.getElem?_eq_getElem hi1
     have e0 : (i == 0) = false := by simpa using h0
     have hge : decide (ws[i - 1].fKey ≥ ws[i].fKey) = !(decide (ws[i - 1].fKey < ws[i].fKey)) := by
      rw [← decide_not]
      exact decide_eq_decide.2 (by omega)
     simp only [decide_eq_true (show (i : Int) > 0 by omega), cond_true, hw1, getI_nat, hv1, Option.bind_some, e0, Bool.false_or, spec_WritesOk_j1, hw, hge]
     cases ws[i].fGone <;> cases decide (0 < ws[i].fRow.length) <;> cases decide (ws[i - 1].fKey < ws[i].fKey) <;> rfl)
  (fun f => by rw [spec_WritesOk_l0, decide_eq_false (Int.lt_irrefl _), cond_false])
 rw [this, Bool.and_true]
end Go.D
set_option linter.unusedVariables false
namespace Go.D
open Go.Proofs
theorem rd_3 : Rd Try.prog 3 Int intW := rd_int Try.underlying3 (by kernel_rfl)
theorem rd_9 : Rd Try.prog 9 ByteArray strW := rd_str Try.underlying9 (by kernel_rfl)
def W_T_laws_Value (x : T_laws_Value) : Prop := intW x.fKind ∧ intW x.fN ∧ strW x.fS
theorem spl_97 (cs : List Value) (hc : cs.length = 3) : cs = (cs.drop 0).take 1 ++ ((cs.drop 1).take 1 ++ ((cs.drop 2).take 1)) := by
 match cs, hc with
 | [c0, c1, c2], _ => rfl
theorem rd_97 : Rd Try.prog 97 T_laws_Value W_T_laws_Value := ⟨by kernel_rfl, fun H enc w base sp held fuel cs x h => by
 obtain ⟨xs, n, _, rfl, hl, hlen, hf⟩ := DataW.trod_struct Try.underlying97 h
 match xs, hlen, hf with
 | [z0, z1, z2], _, hf =>
 obtain ⟨y0, h0, w0⟩ := (rd_3).2 H enc w base sp held n _ _ (hf 0 _ rfl)
 obtain ⟨y1, h1, w1⟩ := (rd_3).2 H enc w base sp held n _ _ (hf 1 _ rfl)
 obtain ⟨y2, h2, w2⟩ := (rd_9).2 H enc w base sp held n _ _ (hf 2 _ rfl)
 refine ⟨⟨y0, y1, y2⟩, ?_, w0, w1, w2⟩
 have hc : cs.length = 3 := hl.trans (by kernel_rfl)
 have h0 : FrL w (fun _ => False) (Enc.cells y0) ((cs.drop 0).take (Try.prog.cellsOf 3)) := h0
 rw [rd_3.1] at h0
 have k0 : FrL w (fun _ => False) (Enc.cells y0) ((cs.drop 0).take 1) := h0
 have h1 : FrL w (fun _ => False) (Enc.cells y1) ((cs.drop 1).take (Try.prog.cellsOf 3)) := h1
 rw [rd_3.1] at h1
 have k1 : FrL w (fun _ => False) (Enc.cells y1) ((cs.drop 1).take 1) := h1
 have h2 : FrL w (fun _ => False) (Enc.cells y2) ((cs.drop 2).take (Try.prog.cellsOf 9)) := h2
 rw [rd_9.1] at h2
 have k2 : FrL w (fun _ => False) (Enc.cells y2) ((cs.drop 2).take 1) := h2
 rw [spl_97 cs hc]
 exact (FrL.append k0 (FrL.append k1 k2))⟩
def W_T_laws_Mark (x : T_laws_Mark) : Prop := W_T_laws_Value x.fV ∧ intW x.fKey ∧ intW x.fBorn ∧ intW x.fDied
theorem spl_99 (cs : List Value) (hc : cs.length = 6) : cs = (cs.drop 0).take 3 ++ ((cs.drop 3).take 1 ++ ((cs.drop 4).take 1 ++ ((cs.drop 5).take 1))) := by
 match cs, hc with
 | [c0, c1, c2, c3, c4, c5], _ => rfl
theorem rd_99 : Rd Try.prog 99 T_laws_Mark W_T_laws_Mark := ⟨by kernel_rfl, fun H enc w base sp held fuel cs x h => by
 obtain ⟨xs, n, _, rfl, hl, hlen, hf⟩ := DataW.trod_struct Try.underlying99 h
 match xs, hlen, hf with
 | [z0, z1, z2, z3], _, hf =>
 obtain ⟨y0, h0, w0⟩ := (rd_97).2 H enc w base sp held n _ _ (hf 0 _ rfl)
 obtain ⟨y1, h1, w1⟩ := (rd_3).2 H enc w base sp held n _ _ (hf 1 _ rfl)
 obtain ⟨y2, h2, w2⟩ := (rd_3).2 H enc w base sp held n _ _ (hf 2 _ rfl)
 obtain ⟨y3, h3, w3⟩ := (rd_3).2 H enc w base sp held n _ _ (hf 3 _ rfl)
 refine ⟨⟨y0, y1, y2, y3⟩, ?_, w0, w1, w2, w3⟩
 have hc : cs.length = 6 := hl.trans (by kernel_rfl)
 have h0 : FrL w (fun _ => False) (Enc.cells y0) ((cs.drop 0).take (Try.prog.cellsOf 97)) := h0
 rw [rd_97.1] at h0
 have k0 : FrL w (fun _ => False) (Enc.cells y0) ((cs.drop 0).take 3) := h0
 have h1 : FrL w (fun _ => False) (Enc.cells y1) ((cs.drop 3).take (Try.prog.cellsOf 3)) := h1
 rw [rd_3.1] at h1
 have k1 : FrL w (fun _ => False) (Enc.cells y1) ((cs.drop 3).take 1) := h1
 have h2 : FrL w (fun _ => False) (Enc.cells y2) ((cs.drop 4).take (Try.prog.cellsOf 3)) := h2
 rw [rd_3.1] at h2
 have k2 : FrL w (fun _ => False) (Enc.cells y2) ((cs.drop 4).take 1) := h2
 have h3 : FrL w (fun _ => False) (Enc.cells y3) ((cs.drop 5).take (Try.prog.cellsOf 3)) := h3
 rw [rd_3.1] at h3
 have k3 : FrL w (fun _ => False) (Enc.cells y3) ((cs.drop 5).take 1) := h3
 rw [spl_99 cs hc]
 exact (FrL.append k0 (FrL.append k1 (FrL.append k2 k3)))⟩
theorem rd_50 : Rd Try.prog 50 (List T_laws_Mark) (listW W_T_laws_Mark) := rd_slice Try.underlying50 (by kernel_rfl) rd_99
theorem rd_62 : Rd Try.prog 62 (List T_laws_Value) (listW W_T_laws_Value) := rd_slice Try.underlying62 (by kernel_rfl) rd_97
theorem rd_4 : Rd Try.prog 4 Bool boolW := rd_bool Try.underlying4 (by kernel_rfl)
def W_T_laws_Write (x : T_laws_Write) : Prop := intW x.fKey ∧ (listW W_T_laws_Value) x.fRow ∧ boolW x.fGone
theorem spl_102 (cs : List Value) (hc : cs.length = 3) : cs = (cs.drop 0).take 1 ++ ((cs.drop 1).take 1 ++ ((cs.drop 2).take 1)) := by
 match cs, hc with
 | [c0, c1, c2], _ => rfl
theorem rd_102 : Rd Try.prog 102 T_laws_Write W_T_laws_Write := ⟨by kernel_rfl, fun H enc w base sp held fuel cs x h => by
 obtain ⟨xs, n, _, rfl, hl, hlen, hf⟩ := DataW.trod_struct Try.underlying102 h
 match xs, hlen, hf with
 | [z0, z1, z2], _, hf =>
 obtain ⟨y0, h0, w0⟩ := (rd_3).2 H enc w base sp held n _ _ (hf 0 _ rfl)
 obtain ⟨y1, h1, w1⟩ := (rd_62).2 H enc w base sp held n _ _ (hf 1 _ rfl)
 obtain ⟨y2, h2, w2⟩ := (rd_4).2 H enc w base sp held n _ _ (hf 2 _ rfl)
 refine ⟨⟨y0, y1, y2⟩, ?_, w0, w1, w2⟩
 have hc : cs.length = 3 := hl.trans (by kernel_rfl)
 have h0 : FrL w (fun _ => False) (Enc.cells y0) ((cs.drop 0).take (Try.prog.cellsOf 3)) := h0
 rw [rd_3.1] at h0
 have k0 : FrL w (fun _ => False) (Enc.cells y0) ((cs.drop 0).take 1) := h0
 have h1 : FrL w (fun _ => False) (Enc.cells y1) ((cs.drop 1).take (Try.prog.cellsOf 62)) := h1
 rw [rd_62.1] at h1
 have k1 : FrL w (fun _ => False) (Enc.cells y1) ((cs.drop 1).take 1) := h1
 have h2 : FrL w (fun _ => False) (Enc.cells y2) ((cs.drop 2).take (Try.prog.cellsOf 4)) := h2
 rw [rd_4.1] at h2
 have k2 : FrL w (fun _ => False) (Enc.cells y2) ((cs.drop 2).take 1) := h2
 rw [spl_102 cs hc]
 exact (FrL.append k0 (FrL.append k1 k2))⟩
theorem rd_51 : Rd Try.prog 51 (List T_laws_Write) (listW W_T_laws_Write) := rd_slice Try.underlying51 (by kernel_rfl) rd_102
end Go.D
set_option linter.unusedVariables false
namespace Go.D
def Ok_Value (x : T_laws_Value) : Prop := x.fS.size ≤ 1048576
theorem sz_Value : SzP laws_szValue W_T_laws_Value Ok_Value := by
 have h := sz_one (z := laws_szValue) (W := W_T_laws_Value) (fun x => x.fS.size) (fun x h => h.2.2) (fun x n => by unfold laws_szValue; rfl)
 exact h
def c_Value (x : T_laws_Value) : T_impl_Value := ⟨x.fKind, x.fN, x.fS⟩
theorem to_Value (x : T_laws_Value) (h : Ok_Value x) : laws_toValue x = some (c_Value x) := rfl
def OkI_Value (x : T_impl_Value) : Prop := True
theorem eq_Value (x : T_impl_Value) (h : OkI_Value x) : laws_eqValue x x = some true := by
 unfold laws_eqValue
 simp only [beq_self_eq_true, Bool.not_true, cond_false]
def Ok_Mark (x : T_laws_Mark) : Prop := Ok_Value x.fV
theorem sz_Mark : SzP laws_szMark W_T_laws_Mark Ok_Mark := by
 intro x n hW h0 hn
 obtain ⟨w0, w1, w2, w3⟩ := hW
 unfold laws_szMark Ok_Mark
 obtain ⟨r0, e0, k0⟩ := sz_Value x.fV n w0 (by omega) (by omega)
 rw [e0, Option.bind_some]
 rcases k0 with k0 | ⟨p0, q0, o0⟩
 ·exact ⟨-1, by rw [decide_eq_true k0, cond_true], .inl (by omega)⟩
 rw [decide_eq_false (show ¬ r0 < 0 by omega), cond_false]
 exact ⟨r0, rfl, .inr ⟨by omega, by omega, o0⟩⟩
def c_Mark (x : T_laws_Mark) : T_impl_Mark := ⟨(c_Value x.fV), x.fKey, x.fBorn, x.fDied⟩
theorem to_Mark (x : T_laws_Mark) (h : Ok_Mark x) : laws_toMark x = some (c_Mark x) := by
 unfold laws_toMark
 rw [to_Value x.fV h, Option.bind_some]
 rfl
def OkI_Mark (x : T_impl_Mark) : Prop := OkI_Value x.fV
theorem eq_Mark (x : T_impl_Mark) (h : OkI_Mark x) : laws_eqMark x x = some true := by
 unfold laws_eqMark
 simp only [beq_self_eq_true, Bool.not_true, cond_false, eq_Value x.fV h, Option.bind_some]
theorem sz_MarkS : SzP laws_szMarkS (listW W_T_laws_Mark) (okL Ok_Mark) := sz_loop sz_Mark (fun _ _ => rfl) (fun _ _ _ _ => rfl)
theorem to_MarkS (xs : List T_laws_Mark) (h : (okL Ok_Mark) xs) : laws_toMarkS xs = some (xs.map c_Mark) := to_loop (S := laws_toMarkS) (L := laws_toMarkS_l0) to_Mark (fun _ => rfl) (fun _ _ _ _ => rfl) xs h
theorem eq_MarkS (xs : List T_impl_Mark) (h : (okL OkI_Mark) xs) : laws_eqMarkS xs xs = some true := eq_loop (S := laws_eqMarkS) (L := laws_eqMarkS_l0) eq_Mark (fun _ _ => rfl) (fun _ _ _ _ => rfl) xs h
theorem sz_ValueS : SzP laws_szValueS (listW W_T_laws_Value) (okL Ok_Value) := sz_loop sz_Value (fun _ _ => rfl) (fun _ _ _ _ => rfl)
theorem to_ValueS (xs : List T_laws_Value) (h : (okL Ok_Value) xs) : laws_toValueS xs = some (xs.map c_Value) := to_loop (S := laws_toValueS) (L := laws_toValueS_l0) to_Value (fun _ => rfl) (fun _ _ _ _ => rfl) xs h
theorem eq_ValueS (xs : List T_impl_Value) (h : (okL OkI_Value) xs) : laws_eqValueS xs xs = some true := eq_loop (S := laws_eqValueS) (L := laws_eqValueS_l0) eq_Value (fun _ _ => rfl) (fun _ _ _ _ => rfl) xs h
def Ok_Write (x : T_laws_Write) : Prop := (okL Ok_Value) x.fRow
theorem sz_Write : SzP laws_szWrite W_T_laws_Write Ok_Write := by
 intro x n hW h0 hn
 obtain ⟨w0, w1, w2⟩ := hW
 unfold laws_szWrite Ok_Write
 obtain ⟨r0, e0, k0⟩ := sz_ValueS x.fRow n w1 (by omega) (by omega)
 rw [e0, Option.bind_some]
 rcases k0 with k0 | ⟨p0, q0, o0⟩
 ·exact ⟨-1, by rw [decide_eq_true k0, cond_true], .inl (by omega)⟩
 rw [decide_eq_false (show ¬ r0 < 0 by omega), cond_false]
 exact ⟨r0, rfl, .inr ⟨by omega, by omega, o0⟩⟩
def c_Write (x : T_laws_Write) : T_impl_Write := ⟨x.fKey, (x.fRow.map c_Value), x.fGone⟩
theorem to_Write (x : T_laws_Write) (h : Ok_Write x) : laws_toWrite_D x = some (c_Write x) := by
 unfold laws_toWrite_D
 rw [to_ValueS x.fRow h, Option.bind_some]
 rfl
def OkI_Write (x : T_impl_Write) : Prop := (okL OkI_Value) x.fRow
theorem eq_Write (x : T_impl_Write) (h : OkI_Write x) : laws_eqWrite x x = some true := by
 unfold laws_eqWrite
 simp only [beq_self_eq_true, Bool.not_true, cond_false, eq_ValueS x.fRow h, Option.bind_some]
theorem sz_WriteS : SzP laws_szWriteS (listW W_T_laws_Write) (okL Ok_Write) := sz_loop sz_Write (fun _ _ => rfl) (fun _ _ _ _ => rfl)
theorem to_WriteS (xs : List T_laws_Write) (h : (okL Ok_Write) xs) : laws_toWriteS_D xs = some (xs.map c_Write) := to_loop (S := laws_toWriteS_D) (L := laws_toWriteS_D_l0) to_Write (fun _ => rfl) (fun _ _ _ _ => rfl) xs h
theorem eq_WriteS (xs : List T_impl_Write) (h : (okL OkI_Write) xs) : laws_eqWriteS xs xs = some true := eq_loop (S := laws_eqWriteS) (L := laws_eqWriteS_l0) eq_Write (fun _ _ => rfl) (fun _ _ _ _ => rfl) xs h
end Go.D
set_option linter.unusedVariables false
namespace Go.D
theorem sm_value {v : T_laws_Value} (h : Ok_Value v) : SmV (c_Value v) := Nat.le_trans h (by omega)
theorem okL_map {α β : Type} {ok : α → Prop} {ok' : β → Prop} {f : α → β} (hf : ∀ x, ok x → ok' (f x)) {xs : List α} (h : okL ok xs) : okL ok' (xs.map f) :=
 ⟨by rw [List.length_map]; exact h.1, fun y hy => by
  obtain ⟨x, hx, rfl⟩ := List.mem_map.1 hy
  exact hf x (h.2 x hx)⟩
theorem okL_sm {α : Type} {ok : α → Prop} {xs : List α} (h : okL ok xs) : Sm xs.length := Nat.le_trans h.1 (by omega)
theorem sm_row {r : List T_laws_Value} (h : okL Ok_Value r) : SmR (r.map c_Value) := ⟨okL_sm (okL_map (ok' := fun _ => True) (fun _ _ => trivial) h), (okL_map (ok' := SmV) (fun _ => sm_value) h).2⟩
end Go.D
set_option linter.unusedVariables false
namespace Go.D
theorem getI_setM {α : Type} {xs : List α} {i : Nat} {v : α} (h : i < xs.length) : getI (xs.set i v) (i : Int) = some v := by
 rw [getI_nat, List.getElem?_set_self h]
abbrev TOP : Int := 4611686018427387904
theorem w_succ {k : Int} (h0 : 0 ≤ k) (h1 : k < TOP) : w64 (k + 1) = k + 1 := w64_of (by omega) (by unfold TOP at h1; omega)
theorem mark_loop {α : Type} {M : Nat → Int → Int → List α → Option (Int × List α)} {H : List α → Nat → Int → Int → Option Int} {P : α → Prop} (c : Int) (hc : 0 ≤ c)
  (hm : ∀ (f : Nat) (k : Int) (i : Nat) (xs : List α) (x : α), xs[i]? = some x → xs.length ≤ 2097152 → P x → 0 ≤ k → k + c ≤ TOP → ∃ k' x', M (f + 1) k (i : Int) xs = M f k' ((i + 1 : Nat) : Int) (xs.set i x') ∧ k ≤ k' ∧ k' ≤ k + c ∧
   ∀ (ys : List α) (g : Nat), ys[i]? = some x' → ys.length ≤ 2097152 → H ys (g + 1) k (i : Int) = H ys g k' ((i + 1 : Nat) : Int))
  (he : ∀ (f : Nat) (k : Int) (xs : List α), M (f + 1) k (xs.length : Int) xs = some (k, xs))
  (hh : ∀ (g : Nat) (k : Int) (ys : List α), H ys (g + 1) k (ys.length : Int) = some k) :
  ∀ (m i : Nat) (xs : List α) (k : Int) (f : Nat), xs.length = i + m → xs.length ≤ 2097152 → m < f → (∀ (j : Nat) x, i ≤ j → xs[j]? = some x → P x) → 0 ≤ k → k + m * c ≤ TOP →
   ∃ k' ys, M f k (i : Int) xs = some (k', ys) ∧ ys.length = xs.length ∧ (∀ j, j < i → ys[j]? = xs[j]?) ∧ k ≤ k' ∧ k' ≤ k + m * c ∧ ∀ g, m < g → H ys g k (i : Int) = some k'
 | 0, i, xs, k, f, hl, hn, hf, hP, h0, hK => by
  obtain ⟨f, rfl⟩ : ∃ f', f = f' + 1 := ⟨f - 1, by omega⟩
  have e : (i : Int) = (xs.length : Int) := by rw [hl]; simp
  refine ⟨k, xs, by rw [e]; exact he f k xs, rfl, fun _ _ => rfl, by omega, by simp, fun g hg => ?_⟩
  obtain ⟨g, rfl⟩ : ∃ g', g = g' + 1 := ⟨g - 1, by omega⟩
  rw [e]
  exact hh g k xs
 | m + 1, i, xs, k, f, hl, hn, hf, hP, h0, hK => by
  obtain ⟨f, rfl⟩ : ∃ f', f = f' + 1 := ⟨f - 1, by omega⟩
  have hi : i < xs.length := by omega
  have hx : xs[i]? = some xs[i] := List.getElem?_eq_getElem hi
  have hmc : ((m + 1 : Nat) : Int) * c = m * c + c := by rw [Int.natCast_add, Int.add_mul]; simp
  have hmc0 : 0 ≤ (m : Int) * c := Int.mul_nonneg (by omega) hc
  rw [hmc] at hK
  obtain ⟨k1, x1, e1, p1, q1, r1⟩ := hm f k i xs xs[i] hx hn (hP i _ (Nat.le_refl _) hx) h0 (by omega)
  obtain ⟨k2, ys, e2, l2, s2, p2, q2, r2⟩ := mark_loop c hc hm he hh m (i + 1) (xs.set i x1) k1 f (by rw [List.length_set]; omega) (by rw [List.length_set]; exact hn) (by omega)
   (fun j x hj hxj => hP j x (by omega) (by rwa [List.getElem?_set_ne (by omega)] at hxj)) (by omega) (by omega)
  rw [List.length_set] at l2
  refine ⟨k2, ys, e1.trans e2, l2, fun j hj => ?_, by omega, by rw [hmc]; omega, fun g hg => ?_⟩
  ·rw [s2 j (by omega), List.getElem?_set_ne (by omega)]
  ·obtain ⟨g, rfl⟩ : ∃ g', g = g' + 1 := ⟨g - 1, by omega⟩
   rw [r1 ys g (by rw [s2 i (by omega), List.getElem?_set_self hi]) (by omega)]
   exact r2 g (by omega)
def MkP {α : Type} (M : α → Int → Option (Int × α)) (H : α → Int → Option Int) (P : α → Prop) (c : Int) : Prop :=
 ∀ x k, P x → 0 ≤ k → k + c ≤ TOP → ∃ k' x', M x k = some (k', x') ∧ k ≤ k' ∧ k' ≤ k + c ∧ H x' k = some k'
theorem mark_all {α : Type} {S : List α → Int → Option (Int × List α)} {T : List α → Int → Option Int} {M : Nat → Int → Int → List α → Option (Int × List α)} {H : List α → Nat → Int → Int → Option Int} {P : α → Prop} (c : Int) (hc : 0 ≤ c)
  (hS : ∀ xs k, S xs k = M FUEL k 0 xs) (hT : ∀ xs k, T xs k = H xs FUEL k 0)
  (hm : ∀ (f : Nat) (k : Int) (i : Nat) (xs : List α) (x : α), xs[i]? = some x → xs.length ≤ 2097152 → P x → 0 ≤ k → k + c ≤ TOP → ∃ k' x', M (f + 1) k (i : Int) xs = M f k' ((i + 1 : Nat) : Int) (xs.set i x') ∧ k ≤ k' ∧ k' ≤ k + c ∧
   ∀ (ys : List α) (g : Nat), ys[i]? = some x' → ys.length ≤ 2097152 → H ys (g + 1) k (i : Int) = H ys g k' ((i + 1 : Nat) : Int))
  (he : ∀ (f : Nat) (k : Int) (xs : List α), M (f + 1) k (xs.length : Int) xs = some (k, xs))
  (hh : ∀ (g : Nat) (k : Int) (ys : List α), H ys (g + 1) k (ys.length : Int) = some k) : MkP S T (okL P) (1048576 * c) := by
 intro xs k hP h0 hK
 have hn : (xs.length : Int) * c ≤ 1048576 * c := Int.mul_le_mul_of_nonneg_right (by have := hP.1; omega) hc
 have hF : xs.length < FUEL := by have := hP.1; unfold FUEL; omega
 obtain ⟨k', ys, e, l, _, p, q, r⟩ := mark_loop c hc hm he hh xs.length 0 xs k FUEL (by simp) (by have := hP.1; omega) hF (fun j x _ hx => hP.2 x (List.mem_of_getElem? hx)) h0 (by omega)
 exact ⟨k', ys, by rw [hS]; exact e, p, by omega, by rw [hT]; exact r FUEL hF⟩
def MkT {α : Type} (M : α → Int → Option (Int × α)) (P : α → Prop) (c : Int) : Prop :=
 ∀ x k, P x → 0 ≤ k → k + c ≤ TOP → ∃ k' x', M x k = some (k', x') ∧ k ≤ k' ∧ k' ≤ k + c
theorem mark_loopT {α : Type} {M : Nat → Int → Int → List α → Option (Int × List α)} {P : α → Prop} (c : Int) (hc : 0 ≤ c)
  (hm : ∀ (f : Nat) (k : Int) (i : Nat) (xs : List α) (x : α), xs[i]? = some x → xs.length ≤ 2097152 → P x → 0 ≤ k → k + c ≤ TOP → ∃ k' x', M (f + 1) k (i : Int) xs = M f k' ((i + 1 : Nat) : Int) (xs.set i x') ∧ k ≤ k' ∧ k' ≤ k + c)
  (he : ∀ (f : Nat) (k : Int) (xs : List α), M (f + 1) k (xs.length : Int) xs = some (k, xs)) :
  ∀ (m i : Nat) (xs : List α) (k : Int) (f : Nat), xs.length = i + m → xs.length ≤ 2097152 → m < f → (∀ (j : Nat) x, i ≤ j → xs[j]? = some x → P x) → 0 ≤ k → k + m * c ≤ TOP →
   ∃ k' ys, M f k (i : Int) xs = some (k', ys) ∧ k ≤ k' ∧ k' ≤ k + m * c
 | 0, i, xs, k, f, hl, hn, hf, hP, h0, hK => by
  obtain ⟨f, rfl⟩ : ∃ f', f = f' + 1 := ⟨f - 1, by omega⟩
  have e : (i : Int) = (xs.length : Int) := by rw [hl]; simp
  exact ⟨k, xs, by rw [e]; exact he f k xs, by omega, by simp⟩
 | m + 1, i, xs, k, f, hl, hn, hf, hP, h0, hK => by
  obtain ⟨f, rfl⟩ : ∃ f', f = f' + 1 := ⟨f - 1, by omega⟩
  have hi : i < xs.length := by omega
  have hx : xs[i]? = some xs[i] := List.getElem?_eq_getElem hi
  have hmc : ((m + 1 : Nat) : Int) * c = m * c + c := by rw [Int.natCast_add, Int.add_mul]; simp
  have hmc0 : 0 ≤ (m : Int) * c := Int.mul_nonneg (by omega) hc
  rw [hmc] at hK
  obtain ⟨k1, x1, e1, p1, q1⟩ := hm f k i xs xs[i] hx hn (hP i _ (Nat.le_refl _) hx) h0 (by omega)
  obtain ⟨k2, ys, e2, p2, q2⟩ := mark_loopT c hc hm he m (i + 1) (xs.set i x1) k1 f (by rw [List.length_set]; omega) (by rw [List.length_set]; exact hn) (by omega)
   (fun j x hj hxj => hP j x (by omega) (by rwa [List.getElem?_set_ne (by omega)] at hxj)) (by omega) (by omega)
  exact ⟨k2, ys, e1.trans e2, by omega, by rw [hmc]; omega⟩
theorem mark_allT {α : Type} {S : List α → Int → Option (Int × List α)} {M : Nat → Int → Int → List α → Option (Int × List α)} {P : α → Prop} (c : Int) (hc : 0 ≤ c)
  (hS : ∀ xs k, S xs k = M FUEL k 0 xs)
  (hm : ∀ (f : Nat) (k : Int) (i : Nat) (xs : List α) (x : α), xs[i]? = some x → xs.length ≤ 2097152 → P x → 0 ≤ k → k + c ≤ TOP → ∃ k' x', M (f + 1) k (i : Int) xs = M f k' ((i + 1 : Nat) : Int) (xs.set i x') ∧ k ≤ k' ∧ k' ≤ k + c)
  (he : ∀ (f : Nat) (k : Int) (xs : List α), M (f + 1) k (xs.length : Int) xs = some (k, xs)) : MkT S (okL P) (1048576 * c) := by
 intro xs k hP h0 hK
 have hn : (xs.length : Int) * c ≤ 1048576 * c := Int.mul_le_mul_of_nonneg_right (by have := hP.1; omega) hc
 have hF : xs.length < FUEL := by have := hP.1; unfold FUEL; omega
 obtain ⟨k', ys, e, p, q⟩ := mark_loopT c hc hm he xs.length 0 xs k FUEL (by simp) (by have := hP.1; omega) hF (fun j x _ hx => hP.2 x (List.mem_of_getElem? hx)) h0 (by omega)
 exact ⟨k', ys, by rw [hS]; exact e, p, by omega⟩
theorem addS_of {a b : ByteArray} (h : a.size + b.size ≤ 4611686018427387904) : addS a b = some (a ++ b) := if_pos h
end Go.D
set_option linter.unusedVariables false
set_option linter.unusedSimpArgs false
namespace Go.D
theorem markText_l0 : ∀ (d f : Nat) (x : Int) (s : ByteArray), 0 ≤ x → x < 10 ^ d → d < f → s.size + d ≤ 1000 → x ≤ 4611686018427387904 → ∃ t, laws_markText_l0 f x s = some t := by
 intro d
 induction d with
 | zero =>
  intro f x s h0 h1 hf hs hx
  obtain ⟨f, rfl⟩ : ∃ f', f = f' + 1 := ⟨f - 1, by omega⟩
  have e : x = 0 := by simp at h1; omega
  subst e
  rw [laws_markText_l0, decide_eq_false (by omega), cond_false, addS_of (by have : (ByteArray.mk #[109]).size = 1 := rfl; omega)]
  exact ⟨_, rfl⟩
 | succ d ih =>
  intro f x s h0 h1 hf hs hx
  obtain ⟨f, rfl⟩ : ∃ f', f = f' + 1 := ⟨f - 1, by omega⟩
  rw [laws_markText_l0]
  by_cases hp : x > 0
  ·rw [decide_eq_true hp, cond_true, addS_of (by have : ∀ b : UInt8, (ByteArray.mk (List.toArray ([b] : List UInt8))).size = 1 := fun _ => rfl; rw [this]; omega), Option.bind_some]
   have e : x.tdiv 10 = x / 10 := Int.tdiv_eq_ediv_of_nonneg h0
   have h2 : x < 10 * 10 ^ d := by rw [Int.pow_succ] at h1; omega
   have h3 : w64 (x.tdiv 10) = x / 10 := by rw [e]; exact w64_of (by omega) (by omega)
   rw [h3]
   refine ih f (x / 10) _ (by omega) ?_ (by omega) ?_ (by omega)
   ·generalize (10 : Int) ^ d = q at *
    omega
   ·rw [ByteArray.size_append]
    have : ∀ b : UInt8, (ByteArray.mk (List.toArray ([b] : List UInt8))).size = 1 := fun _ => rfl
    rw [this]; omega
  ·rw [decide_eq_false hp, cond_false, addS_of (by have : (ByteArray.mk #[109]).size = 1 := rfl; omega)]
   exact ⟨_, rfl⟩
theorem mark_text {k : Int} (h0 : 0 ≤ k) (h1 : k ≤ TOP) : ∃ t, laws_markText k = some t := by
 unfold laws_markText
 by_cases h : k ≤ 0
 ·rw [decide_eq_true h, cond_true]
  exact ⟨_, rfl⟩
 ·rw [decide_eq_false h, cond_false]
  exact markText_l0 19 FUEL k _ h0 (by unfold TOP at h1; omega) (by unfold FUEL; omega) (by decide) h1
theorem mk_MarkS : MkP laws_markMarkS laws_heldMarkS (okL (fun _ => True)) (1048576 * 6) :=
 mark_all (M := laws_markMarkS_l0) (H := laws_heldMarkS_l0) 6 (by omega) (fun _ _ => rfl) (fun _ _ => rfl) (by
  intro f k i xs x hx hn hP h0 hK
  have hi : i < xs.length := (List.getElem?_eq_some_iff.1 hx).1
  have hd : decide ((i : Int) < (xs.length : Int)) = true := decide_eq_true (by omega)
  have hs : w64 ((i : Int) + 1) = ((i + 1 : Nat) : Int) := succ_w hi (by omega)
  have hg0 : getI xs (i : Int) = some x := by rw [getI_nat]; exact hx
  have hg : ∀ v, getI (xs.set i v) (i : Int) = some v := fun v => getI_setM hi
  have w1 : w64 (k + 1) = k + 1 := w_succ (by omega) (by unfold TOP at *; omega)
  have w2 : w64 (k + 1 + 1) = k + 1 + 1 := w_succ (by omega) (by unfold TOP at *; omega)
  obtain ⟨t3, e3⟩ := mark_text (k := k + 1 + 1) (by omega) (by unfold TOP at *; omega)
  have w3 : w64 (k + 1 + 1 + 1) = k + 1 + 1 + 1 := w_succ (by omega) (by unfold TOP at *; omega)
  have w4 : w64 (k + 1 + 1 + 1 + 1) = k + 1 + 1 + 1 + 1 := w_succ (by omega) (by unfold TOP at *; omega)
  have w5 : w64 (k + 1 + 1 + 1 + 1 + 1) = k + 1 + 1 + 1 + 1 + 1 := w_succ (by omega) (by unfold TOP at *; omega)
  have w6 : w64 (k + 1 + 1 + 1 + 1 + 1 + 1) = k + 1 + 1 + 1 + 1 + 1 + 1 := w_succ (by omega) (by unfold TOP at *; omega)
  apply Exists.intro
  apply Exists.intro
  refine ⟨?_, ?_, ?_, fun ys g hy hl => ?_⟩
  ·rw [laws_markMarkS_l0]
   simp only [hd, cond_true, hs, Int.toNat_natCast, hg0, hg, Option.bind_some, List.set_set, w1, w2, e3, w3, w4, w5, w6]
   rfl
  ·omega
  ·omega
  ·have hi2 : i < ys.length := (List.getElem?_eq_some_iff.1 hy).1
   have hd2 : decide ((i : Int) < (ys.length : Int)) = true := decide_eq_true (by omega)
   have hy2 := hy
   rw [← getI_nat] at hy2
   rw [laws_heldMarkS_l0]
   simp only [hd2, cond_true, hs, hy2, Option.bind_some, beq_self_eq_true, Bool.not_true, cond_false, w1, w2, e3, w3, w4, w5, w6])
  (fun f k xs => by simp only [laws_markMarkS_l0, Int.lt_irrefl, decide_false, cond_false])
  (fun g k ys => by simp only [laws_heldMarkS_l0, Int.lt_irrefl, decide_false, cond_false])
theorem mk_ValueS : MkT laws_markValueS (okL (fun _ => True)) (1048576 * 3) :=
 mark_allT (M := laws_markValueS_l0) 3 (by omega) (fun _ _ => rfl) (by
  intro f k i xs x hx hn hP h0 hK
  have hi : i < xs.length := (List.getElem?_eq_some_iff.1 hx).1
  have hd : decide ((i : Int) < (xs.length : Int)) = true := decide_eq_true (by omega)
  have hs : w64 ((i : Int) + 1) = ((i + 1 : Nat) : Int) := succ_w hi (by omega)
  have hg0 : getI xs (i : Int) = some x := by rw [getI_nat]; exact hx
  have hg : ∀ v, getI (xs.set i v) (i : Int) = some v := fun v => getI_setM hi
  have w1 : w64 (k + 1) = k + 1 := w_succ (by omega) (by unfold TOP at *; omega)
  have w2 : w64 (k + 1 + 1) = k + 1 + 1 := w_succ (by omega) (by unfold TOP at *; omega)
  obtain ⟨t3, e3⟩ := mark_text (k := k + 1 + 1) (by omega) (by unfold TOP at *; omega)
  have w3 : w64 (k + 1 + 1 + 1) = k + 1 + 1 + 1 := w_succ (by omega) (by unfold TOP at *; omega)
  apply Exists.intro
  apply Exists.intro
  refine ⟨?_, ?_, ?_⟩
  ·rw [laws_markValueS_l0]
   simp only [hd, cond_true, hs, Int.toNat_natCast, hg0, hg, Option.bind_some, List.set_set, w1, w2, e3, w3]
   rfl
  ·omega
  ·omega)
  (fun f k xs => by simp only [laws_markValueS_l0, Int.lt_irrefl, decide_false, cond_false])
theorem mk_WriteS : MkT laws_markWriteS (okL OkI_Write) (1048576 * 3145730) :=
 mark_allT (M := laws_markWriteS_l0) 3145730 (by omega) (fun _ _ => rfl) (by
  intro f k i xs x hx hn hP h0 hK
  have hi : i < xs.length := (List.getElem?_eq_some_iff.1 hx).1
  have hd : decide ((i : Int) < (xs.length : Int)) = true := decide_eq_true (by omega)
  have hs : w64 ((i : Int) + 1) = ((i + 1 : Nat) : Int) := succ_w hi (by omega)
  have hg0 : getI xs (i : Int) = some x := by rw [getI_nat]; exact hx
  have hg : ∀ v, getI (xs.set i v) (i : Int) = some v := fun v => getI_setM hi
  have w1 : w64 (k + 1) = k + 1 := w_succ (by omega) (by unfold TOP at *; omega)
  obtain ⟨k2, y2, e2, p2, q2⟩ := mk_ValueS x.fRow (k + 1) hP (by omega) (by unfold TOP at *; omega)
  have n2 : decide (k2 < 0) = false := decide_eq_false (by omega)
  have w3 : w64 (k2 + 1) = k2 + 1 := w_succ (by omega) (by unfold TOP at *; omega)
  apply Exists.intro
  apply Exists.intro
  refine ⟨?_, ?_, ?_⟩
  ·rw [laws_markWriteS_l0]
   simp only [hd, cond_true, hs, Int.toNat_natCast, hg0, hg, Option.bind_some, List.set_set, w1, e2, w3]
   rfl
  ·omega
  ·omega)
  (fun f k xs => by simp only [laws_markWriteS_l0, Int.lt_irrefl, decide_false, cond_false])
end Go.D
set_option linter.unusedVariables false
namespace Go.D
theorem wOk_iffT (ws : List T_impl_Write) : wOk ws = true ↔ (∀ w ∈ ws, wrG w = true) ∧ ws.Pairwise fun a b => a.fKey < b.fKey := by
 constructor
 ·intro h
  unfold wOk at h
  have ha := List.all_eq_true.1 h
  refine ⟨fun w hw => ?_, asc_of_adj (R := fun a b : T_impl_Write => a.fKey < b.fKey) (fun a b c h1 h2 => Int.lt_trans h1 h2) fun i hi => ?_⟩
  ·obtain ⟨i, hi, rfl⟩ := List.getElem_of_mem hw
   have := ha i (List.mem_range.2 hi)
   unfold wrP at this
   rw [List.getElem?_eq_getElem hi] at this
   simp only [Bool.and_eq_true] at this
   exact this.1
  ·have := ha (i + 1) (List.mem_range.2 hi)
   unfold wrP at this
   rw [List.getElem?_eq_getElem hi, Nat.add_sub_cancel, List.getElem?_eq_getElem (show i < ws.length by omega)] at this
   simp only [Bool.and_eq_true] at this
   have e : (i + 1 == 0) = false := beq_eq_false_iff_ne.2 (by omega)
   rw [e, Bool.false_or] at this
   exact of_decide_eq_true this.2
 ·rintro ⟨h1, h2⟩
  unfold wOk
  refine List.all_eq_true.2 fun i hi => ?_
  have hi := List.mem_range.1 hi
  unfold wrP
  rw [List.getElem?_eq_getElem hi]
  simp only [Bool.and_eq_true]
  refine ⟨h1 _ (List.getElem_mem hi), ?_⟩
  by_cases h0 : i = 0
  ·subst h0; rfl
  ·rw [List.getElem?_eq_getElem (show i - 1 < ws.length by omega)]
   have := List.pairwise_iff_getElem.1 h2 (i - 1) i (by omega) hi (by omega)
   simp only [decide_eq_true this, Bool.or_true]
theorem wrG_iffT (w : T_impl_Write) : wrG w = true ↔ (0 ≤ w.fKey ∧ w.fKey ≤ 4) ∧ rowOk w.fRow = true ∧ (w.fGone = true → w.fRow = []) := by
 unfold wrG inR
 simp only [Bool.and_eq_true, decide_eq_true_eq, Bool.not_eq_true', Bool.and_eq_false_iff, decide_eq_false_iff_not]
 constructor
 ·rintro ⟨h1, h2, h3⟩
  refine ⟨h1, h2, fun hg => ?_⟩
  rcases h3 with h3 | h3
  ·rw [hg] at h3; cases h3
  ·exact List.eq_nil_of_length_eq_zero (by omega)
 ·rintro ⟨h1, h2, h3⟩
  refine ⟨h1, h2, ?_⟩
  cases hg : w.fGone with
  | false => exact .inl rfl
  | true => exact .inr (by rw [h3 hg]; simp)
theorem wOk_lenT {ws : List T_impl_Write} (h : wOk ws = true) : ws.length ≤ 5 := by
 obtain ⟨h1, h2⟩ := (wOk_iffT ws).1 h
 have key : ∀ i (hi : i < ws.length), (i : Int) ≤ ws[i].fKey := by
  intro i
  induction i with
  | zero =>
   intro hi
   have := ((wrG_iffT _).1 (h1 _ (List.getElem_mem hi))).1.1
   simpa using this
  | succ i ih =>
   intro hi
   have a := ih (by omega)
   have b := List.pairwise_iff_getElem.1 h2 i (i + 1) (by omega) hi (by omega)
   omega
 rcases Nat.lt_or_ge 5 ws.length with h5 | h5
 ·have a := key 5 h5
  have b := ((wrG_iffT _).1 (h1 _ (List.getElem_mem h5))).1.2
  omega
 ·exact h5
theorem impl_wOkT {ws : List T_impl_Write} (h : SmWrs ws) : impl_WritesOk ws = some (wOk ws) := by
 have hl := h.1
 unfold impl_WritesOk
 have := loop_idx (n := ws.length) (L := impl_WritesOk_l0 ws) (p := wrP ws) (fin := decide (ws.length ≤ 5)) (by omega) (fun f i hi hw => by
  have hv : ws[i]? = some ws[i] := List.getElem?_eq_getElem hi
  have hg : getI ws (i : Int) = some ws[i] := by rw [getI_nat, hv]
  have hk : impl_keyOk ws[i].fKey = some (inR ws[i].fKey 0 4) := by
   unfold impl_keyOk
   rw [impl_in]
   rfl
  rw [impl_WritesOk_l0, decide_eq_true (by omega), cond_true, hg, Option.bind_some, hk, Option.bind_some, impl_rowOk (h.2 _ (List.getElem_mem hi)), Option.bind_some]
  unfold wrP wrG
  rw [hv]
  simp only
  have hlen : decide ((ws[i].fRow.length : Int) > 0) = decide (0 < ws[i].fRow.length) := decide_eq_decide.2 (by omega)
  rw [hlen]
  cases inR ws[i].fKey 0 4 with
  | false => rfl
  | true =>
   cases rowOk ws[i].fRow with
   | false => rfl
   | true =>
    simp only [Bool.not_true, cond_false, Bool.true_and]
    by_cases h0 : i = 0
    ·subst h0
     simp only [show decide (((0 : Nat) : Int) > 0) = false from rfl, cond_false, impl_WritesOk_j1, hw]
     cases ws[0].fGone <;> cases decide (0 < ws[0].fRow.length) <;> rfl
    ·have hi1 : i - 1 < ws.length := by omega
     have hw1 : w64 ((i : Int) - 1) = ((i - 1 : Nat) : Int) := by rw [w64_of (by omega) (by omega)]; omega
     have hv1 : ws[i - 1]? = some ws[i - 1] := List.getElem?_eq_getElem hi1
     have e0 : (i == 0) = false := by simpa using h0
     have hge : decide (ws[i - 1].fKey ≥ ws[i].fKey) = !(decide (ws[i - 1].fKey < ws[i].fKey)) := by
      rw [← decide_not]
      exact decide_eq_decide.2 (by omega)
     simp only [decide_eq_true (show (i : Int) > 0 by omega), cond_true, hw1, getI_nat, hv1, Option.bind_some, e0, Bool.false_or, impl_WritesOk_j1, hw, hge]
     cases ws[i].fGone <;> cases decide (0 < ws[i].fRow.length) <;> cases decide (ws[i - 1].fKey < ws[i].fKey) <;> rfl)
  (fun f => by
   have e : decide ((ws.length : Int) ≤ 5) = decide (ws.length ≤ 5) := decide_eq_decide.2 (by omega)
   rw [impl_WritesOk_l0, decide_eq_false (Int.lt_irrefl _), cond_false, e])
 rw [this]
 show some (wOk ws && decide (ws.length ≤ 5)) = _
 cases h : wOk ws with
 | false => rfl
 | true => rw [decide_eq_true (wOk_lenT h)]; rfl
theorem clone_mark {xs : List T_impl_Mark} (h : xs.length ≤ 4194304) : slices_Clone_impl_Mark_impl_Mark xs = some xs := by
 unfold slices_Clone_impl_Mark_impl_Mark slices_Clone_impl_Mark_impl_Mark_j0
 rw [cond_false, app_lt (by simp; omega), Option.bind_some, List.nil_append]
theorem ixOk_iff (xs : List T_impl_Mark) : ixOk xs = true ↔ (∀ m ∈ xs, markG m = true) ∧ (xs.Pairwise fun a b => ordM a b < 0) ∧ (xs.Pairwise fun a b => overM a b = false) ∧ xs.length ≤ 60 := by
 unfold ixOk
 rw [Bool.and_eq_true, List.all_eq_true, decide_eq_true_eq]
 constructor
 ·rintro ⟨H, hl⟩
  have H1 : ∀ j (hj : j < xs.length), markG xs[j] = true := fun j hj => ((ixP_iff hj).1 (H j (List.mem_range.2 hj))).1
  have ho : xs.Pairwise fun a b => overM a b = false := List.pairwise_iff_getElem.2 fun i j hi hj hij => ((ixP_iff hj).1 (H j (List.mem_range.2 hj))).2.2 _ (List.mem_take_iff_getElem.2 ⟨i, by omega, rfl⟩)
  refine ⟨fun m hm => ?_, asc_of_adj (fun a b c h1 h2 => ?_) fun i hi => ?_, ho, hl⟩
  ·obtain ⟨j, hj, rfl⟩ := List.getElem_of_mem hm
   exact H1 j hj
  ·have := ord_mark.swo.trans a b c (decide_eq_true h1) (decide_eq_true h2)
   exact of_decide_eq_true this
  ·have h1 := ((ixP_iff hi).1 (H (i + 1) (List.mem_range.2 hi))).2.1 (by omega)
   have h1 : ordM xs[i] xs[i + 1] ≤ 0 := h1
   have h2 := List.pairwise_iff_getElem.1 ho i (i + 1) (by omega) hi (by omega)
   have : ordM xs[i] xs[i + 1] ≠ 0 := fun hz => by
    rw [ord_over (H1 _ (by omega)) (H1 _ hi) hz] at h2
    cases h2
   omega
 ·rintro ⟨h1, h2, h3, h4⟩
  refine ⟨fun i hi => ?_, h4⟩
  have hi := List.mem_range.1 hi
  refine (ixP_iff hi).2 ⟨h1 _ (List.getElem_mem hi), fun h0 => ?_, fun z hz => ?_⟩
  ·have := List.pairwise_iff_getElem.1 h2 (i - 1) i (by omega) hi (by omega)
   omega
  ·obtain ⟨j, hj, rfl⟩ := List.mem_take_iff_getElem.1 hz
   exact List.pairwise_iff_getElem.1 h3 j i (by omega) hi (by omega)
theorem impl_cloneMR {a : List T_impl_Mark} (ha : a.length ≤ 4194304) : impl_clone_impl_Mark_R a = some a := by
 unfold impl_clone_impl_Mark_R slices_Clip_impl_Mark_impl_Mark_R
 cases h : ((a.length : Int)) == 0
 ·rw [app_lt (by simp; omega), Option.bind_some, List.nil_append, show slI a none (some (a.length : Int)) (some (a.length : Int)) = some a by simp [slI]]
  rfl
 ·have : a = [] := by
   have : (a.length : Int) = 0 := by simpa using h
   exact List.eq_nil_of_length_eq_zero (by omega)
  subst this
  rfl
def closeM (t : Int) (w : T_impl_Write) (m : T_impl_Mark) : T_impl_Mark := bif m.fKey == w.fKey && m.fDied == 0 then { m with fDied := t } else m
def newM (t : Int) (w : T_impl_Write) : List T_impl_Mark := bif w.fGone then [] else [T_impl_Mark.mk (firstV w.fRow) w.fKey t 0]
def rawM (xs : List T_impl_Mark) (ws : List T_impl_Write) (t : Int) : List T_impl_Mark := ws.foldl (fun ys w => ys.map (closeM t w) ++ newM t w) xs
def closeAM (ws : List T_impl_Write) (t : Int) (m : T_impl_Mark) : T_impl_Mark := ws.foldl (fun m w => closeM t w m) m
theorem closeM_key (t : Int) (w : T_impl_Write) (m : T_impl_Mark) : (closeM t w m).fV = m.fV ∧ (closeM t w m).fKey = m.fKey ∧ (closeM t w m).fBorn = m.fBorn := by
 unfold closeM
 cases m.fKey == w.fKey && m.fDied == 0 <;> exact ⟨rfl, rfl, rfl⟩
theorem closeAM_key (t : Int) : ∀ (ws : List T_impl_Write) (m : T_impl_Mark), (closeAM ws t m).fV = m.fV ∧ (closeAM ws t m).fKey = m.fKey ∧ (closeAM ws t m).fBorn = m.fBorn
 | [], m => ⟨rfl, rfl, rfl⟩
 | w :: ws, m => by
  obtain ⟨h1, h2, h3⟩ := closeAM_key t ws (closeM t w m)
  obtain ⟨g1, g2, g3⟩ := closeM_key t w m
  exact ⟨h1.trans g1, h2.trans g2, h3.trans g3⟩
theorem ordM_same {a b c d : T_impl_Mark} (h1 : a.fV = c.fV ∧ a.fKey = c.fKey ∧ a.fBorn = c.fBorn) (h2 : b.fV = d.fV ∧ b.fKey = d.fKey ∧ b.fBorn = d.fBorn) : ordM a b = ordM c d := by
 unfold ordM
 rw [h1.1, h1.2.1, h1.2.2, h2.1, h2.2.1, h2.2.2]
theorem newM_len (t : Int) (w : T_impl_Write) : (newM t w).length ≤ 1 := by
 unfold newM
 cases w.fGone <;> simp
theorem newM_mem {t : Int} {w : T_impl_Write} {m : T_impl_Mark} (h : m ∈ newM t w) : m = T_impl_Mark.mk (firstV w.fRow) w.fKey t 0 := by
 unfold newM at h
 cases hw : w.fGone with
 | true => rw [hw] at h; cases h
 | false => rw [hw] at h; simpa using h
theorem raw_eq (t : Int) : ∀ (ws : List T_impl_Write) (xs acc : List T_impl_Mark), ws.Pairwise (fun a b => a.fKey < b.fKey) → (∀ m ∈ acc, ∀ w ∈ ws, m.fKey ≠ w.fKey) →
  rawM (xs ++ acc) ws t = xs.map (closeAM ws t) ++ (acc ++ ws.flatMap (newM t))
 | [], xs, acc, _, _ => by
  have : xs.map (closeAM [] t) = xs := by
   have e : closeAM [] t = id := rfl
   rw [e, List.map_id]
  rw [this]
  simp [rawM]
 | w :: ws, xs, acc, hp, hk => by
  obtain ⟨h1, h2⟩ := List.pairwise_cons.1 hp
  have ha : acc.map (closeM t w) = acc := by
   have : acc.map (closeM t w) = acc.map id := List.map_congr_left fun m hm => by
    have : (m.fKey == w.fKey) = false := beq_eq_false_iff_ne.2 (hk m hm w (by simp))
    unfold closeM
    rw [this]
    rfl
   rw [this, List.map_id]
  show rawM ((xs ++ acc).map (closeM t w) ++ newM t w) ws t = _
  rw [List.map_append, ha, List.append_assoc, raw_eq t ws (xs.map (closeM t w)) (acc ++ newM t w) h2 (fun m hm u hu => by
   rcases List.mem_append.1 hm with hm | hm
   ·exact hk m hm u (List.mem_cons_of_mem _ hu)
   ·rw [newM_mem hm]
    have := h1 u hu
    show w.fKey ≠ u.fKey
    omega), List.map_map, List.flatMap_cons, List.append_assoc]
  rfl
theorem impl_closeM {xs : List T_impl_Mark} (hl : xs.length ≤ 1000000) (w : T_impl_Write) (t x6 : Int) (K : Int → List T_impl_Mark → Option (List T_impl_Mark × Bool)) :
  impl_IndexTurned_R_l2 t x6 xs K w FUEL 0 xs = K (w64 (x6 + 1)) (xs.map (closeM t w) ++ newM t w) := by
 have := loop_opt (xs := xs) (L := fun f i (s : List T_impl_Mark) => impl_IndexTurned_R_l2 t x6 xs K w f i s) (fun _ _ => K (w64 (x6 + 1)) (xs.map (closeM t w) ++ newM t w)) (fun i s => s = (xs.take i).map (closeM t w) ++ xs.drop i) (by omega)
  (fun f i s v hi hv hw hI => by
   have hx : xs[i] = v := by rw [List.getElem?_eq_getElem hi] at hv; exact Option.some.inj hv
   have hlt : ((xs.take i).map (closeM t w)).length = i := by rw [List.length_map, List.length_take]; omega
   have hd : xs.drop i = v :: xs.drop (i + 1) := by rw [List.drop_eq_getElem_cons hi, hx]
   have ht : xs.take (i + 1) = xs.take i ++ [v] := by rw [List.take_add_one, hv]; rfl
   have hg : getI s (i : Int) = some v := by
    rw [getI_nat, hI, List.getElem?_append_right (by omega), hlt, hd, Nat.sub_self]
    rfl
   have hset : ∀ u, s.set i u = (xs.take i).map (closeM t w) ++ u :: xs.drop (i + 1) := fun u => by
    rw [hI, List.set_append_right _ _ (by omega), hlt, hd, Nat.sub_self]
    rfl
   have hnext : (xs.take (i + 1)).map (closeM t w) ++ xs.drop (i + 1) = (xs.take i).map (closeM t w) ++ closeM t w v :: xs.drop (i + 1) := by
    rw [ht, List.map_append, List.append_assoc]
    rfl
   refine .inr ⟨_, rfl, ?_, rfl⟩
   rw [impl_IndexTurned_R_l2, decide_eq_true (by omega), cond_true, hg, Option.bind_some, Option.bind_some, hnext]
   unfold impl_IndexTurned_R_j3 closeM
   rw [hg, hw, Option.bind_some, Int.toNat_natCast, hset]
   cases hk : v.fKey == w.fKey with
   | false =>
    rw [Bool.false_and, cond_false, cond_false, cond_false, hI, hd]
    rfl
   | true =>
    rw [Bool.true_and, cond_true]
    cases hq : v.fDied == 0 with
    | true => rfl
    | false =>
     rw [cond_false, cond_false, hI, hd]
     rfl)
  (fun f s hI => by
   rw [List.take_length, List.drop_length, List.append_nil] at hI
   rw [impl_IndexTurned_R_l2, decide_eq_false (Int.lt_irrefl _), cond_false, hI, impl_first, Option.bind_some]
   unfold newM
   cases w.fGone with
   | true => rw [Bool.not_true, cond_false, cond_true, List.append_nil]
   | false => rw [Bool.not_false, cond_true, cond_false, app_lt (by simp; omega), Option.bind_some]) (s := xs) (by simp)
 exact this
def turnOk (ms : List T_impl_Mark) (ws : List T_impl_Write) (t : Int) : Bool := ixOk ms && (wOk ws && (inR t 1 40 && !(ms.any fun m => decide (m.fBorn ≥ t) || decide (m.fDied ≥ t))))
def turnV (ms : List T_impl_Mark) (ws : List T_impl_Write) (t : Int) : List T_impl_Mark × Bool := bif turnOk ms ws t then (bif decide ((sortL ordM (rawM ms ws t)).length > 60) then ([], false) else (sortL ordM (rawM ms ws t), true)) else ([], false)
theorem impl_turn {ms : List T_impl_Mark} {ws : List T_impl_Write} (h : SmMs ms) (hws : SmWrs ws) (t : Int) : impl_IndexTurned_R ms ws t = some (turnV ms ws t) := by
 have hl := h.1
 have hbad : ∀ m, impl_IndexTurned_1 m t = some (decide (m.fBorn ≥ t) || decide (m.fDied ≥ t)) := fun m => by
  unfold impl_IndexTurned_1
  cases decide (m.fBorn ≥ t) <;> rfl
 unfold impl_IndexTurned_R turnV turnOk
 rw [impl_ixOk h, Option.bind_some]
 cases hk : ixOk ms with
 | false => rfl
 | true =>
  rw [Bool.not_true, cond_false, impl_wOkT hws, Option.bind_some, Bool.true_and]
  cases hk2 : wOk ws with
  | false => rfl
  | true =>
   rw [Bool.not_true, cond_false, impl_in, Option.bind_some, Bool.true_and]
   cases hk3 : inR t 1 40 with
   | false => rfl
   | true =>
    rw [Bool.not_true, cond_false, impl_anyM hl hbad, Option.bind_some, Bool.true_and]
    cases hk4 : ms.any fun m => decide (m.fBorn ≥ t) || decide (m.fDied ≥ t) with
    | true => rfl
    | false =>
     unfold impl_IndexTurned_R_j0
     rw [cond_false, Bool.not_false, cond_true, clone_mark (by omega), Option.bind_some]
     have h60 := ((ixOk_iff ms).1 hk).2.2.2
     have h5 := wOk_lenT hk2
     have := loop_opt (xs := ws) (L := fun f i (s : List T_impl_Mark) => impl_IndexTurned_R_l1 ws t f i s) (fun rest s => some (bif decide ((sortL ordM (rawM s rest t)).length > 60) then ([], false) else (sortL ordM (rawM s rest t), true))) (fun i s => s.length ≤ 60 + i) (by omega)
      (fun f i s w hi hv hw hI => by
       have hn := newM_len t w
       refine .inr ⟨s.map (closeM t w) ++ newM t w, by rw [List.length_append, List.length_map]; omega, ?_, rfl⟩
       rw [impl_IndexTurned_R_l1, decide_eq_true (by omega), cond_true, getI_nat, hv, Option.bind_some, impl_closeM (by omega), hw])
      (fun f s hI => by
       have hsl : (sortL ordM s).length = s.length := sortL_length ord_mark.swo _
       have e : decide (((sortL ordM s).length : Int) > 60) = decide ((sortL ordM s).length > 60) := decide_eq_decide.2 (by omega)
       rw [impl_IndexTurned_R_l1, decide_eq_false (Int.lt_irrefl _), cond_false, sortM_of impl_ordM ord_mark.swo (by omega), Option.bind_some, e, impl_cloneMR (by omega), Option.bind_some]
       show _ = some (bif decide ((sortL ordM s).length > 60) then ([], false) else (sortL ordM s, true))
       cases decide ((sortL ordM s).length > 60) <;> rfl) (s := ms) (by omega)
     exact this
theorem spec_closeA (ws : List T_impl_Write) (hws : ws.length ≤ 1000000) (t x4 : Int) (xs : List T_impl_Mark) (hx : xs.length ≤ 1000000) (K : Int → List T_impl_Mark → Option (List T_impl_Mark × Bool)) (m : T_impl_Mark) :
  spec_IndexTurned_l3 ws t x4 xs K FUEL 0 m = K (w64 (x4 + 1)) (xs ++ [closeAM ws t m]) := by
 have := loop_opt (xs := ws) (L := fun f i (s : T_impl_Mark) => spec_IndexTurned_l3 ws t x4 xs K f i s) (fun rest s => K (w64 (x4 + 1)) (xs ++ [closeAM rest t s])) (fun _ _ => True) (by omega)
  (fun f i s w hi hv hw _ => by
   refine .inr ⟨closeM t w s, trivial, ?_, rfl⟩
   have hc : (w.fKey == s.fKey) = (s.fKey == w.fKey) := by rw [Bool.eq_iff_iff, beq_iff_eq, beq_iff_eq]; exact eq_comm
   rw [spec_IndexTurned_l3, decide_eq_true (by omega), cond_true, getI_nat, hv, Option.bind_some, hc]
   unfold spec_IndexTurned_j5 spec_IndexTurned_j4 closeM
   rw [hw]
   cases s.fKey == w.fKey <;> cases s.fDied == 0 <;> rfl)
  (fun f s _ => by
   rw [spec_IndexTurned_l3, decide_eq_false (Int.lt_irrefl _), cond_false, app_lt (by simp; omega), Option.bind_some]
   rfl) (s := m) trivial
 exact this
theorem spec_turn {ms : List T_impl_Mark} {ws : List T_impl_Write} (h : SmMs ms) (hws : SmWrs ws) (t : Int) : spec_IndexTurned ms ws t = some (turnV ms ws t) := by
 have hl := h.1
 unfold spec_IndexTurned turnV turnOk
 rw [spec_ixOk h, Option.bind_some]
 cases hk : ixOk ms with
 | false => rfl
 | true =>
  rw [Bool.not_true, cond_false, spec_wOk hws, Option.bind_some, Bool.true_and]
  cases hk2 : wOk ws with
  | false => rfl
  | true =>
   rw [Bool.not_true, cond_false, spec_in, Option.bind_some, Bool.true_and]
   cases hk3 : inR t 1 40 with
   | false => rfl
   | true =>
    obtain ⟨m1, m2, m3, h60⟩ := (ixOk_iff ms).1 hk
    obtain ⟨g1, g2⟩ := (wOk_iffT ws).1 hk2
    have h5 := wOk_lenT hk2
    rw [Bool.not_true, Bool.true_and]
    unfold spec_IndexTurned_j0
    rw [cond_false]
    have hraw : rawM ms ws t = ms.map (closeAM ws t) ++ ws.flatMap (newM t) := by
     have := raw_eq t ws ms [] g2 (fun m hm => (by cases hm))
     rw [List.append_nil, List.nil_append] at this
     exact this
    -- the new ones are put
    have put : (∀ m ∈ ms, m.fBorn < t) → spec_IndexTurned_l6 ws t FUEL 0 (ms.map (closeAM ws t)) = some (bif decide ((sortL ordM (rawM ms ws t)).length > 60) then ([], false) else (sortL ordM (rawM ms ws t), true)) := by
     intro hb
     have lt_tr : ∀ a b c, ordM a b < 0 → ordM b c < 0 → ordM a c < 0 := fun a b c h1 h2 => by
      have := ord_mark.swo.trans a b c (decide_eq_true h1) (decide_eq_true h2)
      exact of_decide_eq_true this
     have smo : ∀ m ∈ ms.map (closeAM ws t), SmM m ∧ m.fBorn < t := fun m hm => by
      obtain ⟨u, hu, rfl⟩ := List.mem_map.1 hm
      obtain ⟨e1, e2, e3⟩ := closeAM_key t ws u
      unfold SmM
      rw [e1, e3]
      exact ⟨⟨h.2 u hu, (markG_born (m1 u hu)).1⟩, hb u hu⟩
     have smn : ∀ w ∈ ws, SmM (T_impl_Mark.mk (firstV w.fRow) w.fKey t 0) := fun w hw => first_ok (hws.2 w hw) ((wrG_iffT w).1 (g1 w hw)).2.1
     have := loop_opt (xs := ws) (L := fun f i (s : List T_impl_Mark) => spec_IndexTurned_l6 ws t f i s) (fun _ _ => some (bif decide ((sortL ordM (rawM ms ws t)).length > 60) then ([], false) else (sortL ordM (rawM ms ws t), true)))
      (fun i s => s.Perm (ms.map (closeAM ws t) ++ (ws.take i).flatMap (newM t)) ∧ (s.Pairwise fun a b => ordM a b < 0) ∧ s.length ≤ 60 + i) (by omega)
      (fun f i s w hi hv hw hI => by
       obtain ⟨hp, hs, hsl⟩ := hI
       have hwm : w ∈ ws := List.mem_of_getElem? hv
       have ht : ws.take (i + 1) = ws.take i ++ [w] := by rw [List.take_add_one, hv]; rfl
       have efl : (ws.take (i + 1)).flatMap (newM t) = (ws.take i).flatMap (newM t) ++ newM t w := by rw [ht, List.flatMap_append]; simp
       have st : spec_IndexTurned_l6 ws t (f + 1) i s = bif w.fGone then spec_IndexTurned_l6 ws t f ((i + 1 : Nat) : Int) s else (spec_l31Put s (T_impl_Mark.mk (firstV w.fRow) w.fKey t 0)).bind fun v => spec_IndexTurned_l6 ws t f ((i + 1 : Nat) : Int) v := by
        rw [spec_IndexTurned_l6, decide_eq_true (by omega), cond_true, getI_nat, hv, Option.bind_some, Option.bind_some, spec_first, Option.bind_some, Option.bind_some]
        unfold spec_IndexTurned_j7
        rw [hw]
        cases w.fGone <;> rfl
       rw [st]
       cases hgone : w.fGone with
       | true =>
        have e0 : newM t w = [] := by unfold newM; rw [hgone]; rfl
        rw [efl, e0, List.append_nil]
        exact .inr ⟨s, ⟨hp, hs, by omega⟩, rfl, rfl⟩
       | false =>
        have e1 : newM t w = [T_impl_Mark.mk (firstV w.fRow) w.fKey t 0] := by unfold newM; rw [hgone]; rfl
        have hsm : ∀ x ∈ s, SmM x ∧ ordM (T_impl_Mark.mk (firstV w.fRow) w.fKey t 0) x ≠ 0 := fun x hx => by
         rcases List.mem_append.1 (hp.subset hx) with q | q
         ·obtain ⟨q1, q2⟩ := smo x q
          refine ⟨q1, fun hz => ?_⟩
          have := (ordM_zero hz).2
          simp only at this
          omega
         ·obtain ⟨u, hu, hxu⟩ := List.mem_flatMap.1 q
          have hxe := newM_mem hxu
          obtain ⟨j, hj, hje⟩ := List.mem_take_iff_getElem.1 hu
          have hki := List.pairwise_iff_getElem.1 g2 j i (by omega) hi (by omega)
          have hwi : ws[i] = w := by rw [List.getElem?_eq_getElem hi] at hv; exact Option.some.inj hv
          rw [hje, hwi] at hki
          rw [hxe]
          refine ⟨smn u (by rw [← hje]; exact List.getElem_mem _), fun hz => ?_⟩
          have := (ordM_zero hz).1
          simp only at this
          omega
        obtain ⟨k, p1, p2, p3, p4⟩ := put_loop (xs := s) (m := T_impl_Mark.mk (firstV w.fRow) w.fKey t 0) (by omega) (fun x hx => (hsm x hx).1) (smn w hwm) s.length FUEL (Nat.le_refl _) (by unfold FUEL; omega) (fun j hj hk => by omega)
        have p1 : spec_l31Put s (T_impl_Mark.mk (firstV w.fRow) w.fKey t 0) = some (s.take k ++ T_impl_Mark.mk (firstV w.fRow) w.fKey t 0 :: s.drop k) := p1
        refine .inr ⟨s.take k ++ T_impl_Mark.mk (firstV w.fRow) w.fKey t 0 :: s.drop k, ⟨?_, ?_, ?_⟩, ?_, rfl⟩
        ·rw [efl, e1, ← List.append_assoc]
         refine (ins_perm s _ k).trans ?_
         exact (List.Perm.cons _ hp).trans (List.perm_append_comm (l₁ := [_]))
        ·refine ins_asc lt_tr p2 hs p3 fun hj h0 => ?_
         have a := p4 hj h0
         have b := (hsm _ (List.getElem_mem hj)).2
         exact ord_mark.gt _ _ (by omega)
        ·rw [(ins_perm s _ k).length_eq, List.length_cons]
         omega
        ·rw [cond_false, p1, Option.bind_some])
      (fun f s hI => by
       obtain ⟨hp, hs, hsl⟩ := hI
       rw [List.take_length, ← hraw] at hp
       obtain ⟨q1, q2⟩ := sortL_len ord_mark (rawM ms ws t)
       have e : s = sortL ordM (rawM ms ws t) := perm_uniq ord_mark (hp.trans q1.symm) hs q2
       have e2 : decide ((s.length : Int) > 60) = decide (s.length > 60) := decide_eq_decide.2 (by omega)
       rw [spec_IndexTurned_l6, decide_eq_false (Int.lt_irrefl _), cond_false, e2, e]
       cases decide ((sortL ordM (rawM ms ws t)).length > 60) <;> rfl) (s := ms.map (closeAM ws t)) ⟨by simp, by
        rw [List.pairwise_map]
        exact m2.imp fun {a b} hab => by rw [ordM_same (closeAM_key t ws a) (closeAM_key t ws b)]; exact hab, by rw [List.length_map]; omega⟩
     exact this
    have := loop_opt (xs := ms) (L := fun f i (s : List T_impl_Mark) => spec_IndexTurned_l1 ms ws t f i s) (fun rest s => bif rest.any (fun m => decide (m.fBorn ≥ t) || decide (m.fDied ≥ t)) then some ([], false) else spec_IndexTurned_l6 ws t FUEL 0 (s ++ rest.map (closeAM ws t))) (fun i s => s.length ≤ i) (by omega)
     (fun f i s m hi hv hw hI => by
      have st : spec_IndexTurned_l1 ms ws t (f + 1) i s = bif decide (m.fBorn ≥ t) || decide (m.fDied ≥ t) then some ([], false) else spec_IndexTurned_l1 ms ws t f ((i + 1 : Nat) : Int) (s ++ [closeAM ws t m]) := by
       rw [spec_IndexTurned_l1, decide_eq_true (by omega), cond_true, getI_nat, hv, Option.bind_some]
       unfold spec_IndexTurned_j2
       rw [spec_closeA ws (by omega) t _ s (by omega), hw]
       cases decide (m.fBorn ≥ t) <;> cases decide (m.fDied ≥ t) <;> rfl
      rw [st, List.any_cons]
      cases decide (m.fBorn ≥ t) || decide (m.fDied ≥ t) with
      | true => exact .inl rfl
      | false => exact .inr ⟨s ++ [closeAM ws t m], by simp; omega, rfl, by rw [Bool.false_or, List.append_assoc]; rfl⟩)
     (fun f s hI => by
      rw [spec_IndexTurned_l1, decide_eq_false (Int.lt_irrefl _), cond_false]
      simp) (s := []) (by simp)
    have e : spec_IndexTurned_l1 ms ws t FUEL 0 [] = bif ms.any (fun m => decide (m.fBorn ≥ t) || decide (m.fDied ≥ t)) then some ([], false) else spec_IndexTurned_l6 ws t FUEL 0 (ms.map (closeAM ws t)) := this
    rw [e]
    cases hk4 : ms.any fun m => decide (m.fBorn ≥ t) || decide (m.fDied ≥ t) with
    | true => rfl
    | false =>
     rw [cond_false, Bool.not_false, cond_true, put (fun m hm => by
      have := List.any_eq_false.1 hk4 m hm
      simp at this
      omega)]
theorem turn_ok (ms : List T_impl_Mark) (ws : List T_impl_Write) (t : Int) : okL OkI_Mark (turnV ms ws t).1 := by
 have h0 : okL OkI_Mark [] := ⟨by simp, fun e he => (by cases he)⟩
 unfold turnV
 cases turnOk ms ws t with
 | false => exact h0
 | true =>
  rw [cond_true]
  cases hq : decide ((sortL ordM (rawM ms ws t)).length > 60) with
  | true => exact h0
  | false =>
   have := of_decide_eq_false hq
   exact ⟨by rw [cond_false]; simp only; omega, fun _ _ => trivial⟩
theorem law_turned {a0 : List T_laws_Mark} {a1 : List T_laws_Write} {a2 : Int} (w0 : listW W_T_laws_Mark a0) (w1 : listW W_T_laws_Write a1) (w2 : intW a2) : laws_FnExactIndexTurned a0 a1 a2 = some true := by
 unfold laws_FnExactIndexTurned
 obtain ⟨r0, e0, k0⟩ := sz_MarkS a0 1048576 w0 (by omega) (by omega)
 rw [e0, Option.bind_some]
 rcases k0 with k0 | ⟨p0, q0, o0⟩
 ·rw [decide_eq_true k0, cond_true]
 rw [decide_eq_false (show ¬ r0 < 0 by omega), cond_false]
 obtain ⟨r1, e1, k1⟩ := sz_WriteS a1 r0 w1 (by omega) (by omega)
 rw [e1, Option.bind_some]
 rcases k1 with k1 | ⟨p1, q1, o1⟩
 ·rw [decide_eq_true k1, cond_true]
 rw [decide_eq_false (show ¬ r1 < 0 by omega), cond_false]
 have m0 := okL_map (f := c_Mark) (ok' := OkI_Mark) (fun x hx => trivial) o0
 have m1 := okL_map (f := c_Write) (ok' := OkI_Write) (fun y hy => okL_map (f := c_Value) (ok' := OkI_Value) (fun _ _ => trivial) hy) o1
 have hs : SmMs (a0.map c_Mark) := ⟨okL_sm m0, (okL_map (ok := Ok_Mark) (ok' := fun m => SmV m.fV) (f := c_Mark) (fun x hx => sm_value hx) o0).2⟩
 have hw : SmWrs (a1.map c_Write) := ⟨okL_sm m1, (okL_map (ok := Ok_Write) (ok' := fun w => SmR w.fRow) (f := c_Write) (fun y hy => sm_row hy) o1).2⟩
 have ov := turn_ok (a0.map c_Mark) (a1.map c_Write) a2
 obtain ⟨k5, y5, g5, p5, q5, _⟩ := mk_MarkS _ 1 m0 (by omega) (by unfold TOP; omega)
 obtain ⟨k6, y6, g6, p6, q6⟩ := mk_WriteS _ k5 m1 (by omega) (by unfold TOP; omega)
 obtain ⟨k10, y10, g10, p10, q10, h10⟩ := mk_MarkS _ 1 ov (by omega) (by unfold TOP; omega)
 have n6 : decide (k6 < 0) = false := decide_eq_false (by omega)
 have n10 : decide (k10 < 0) = false := decide_eq_false (by omega)
 simp only [to_MarkS a0 o0, to_WriteS a1 o1, Option.bind_some, spec_turn hs hw, impl_turn hs hw, beq_self_eq_true, Bool.not_true, cond_false,
  eq_MarkS _ m0, eq_MarkS _ ov, eq_WriteS _ m1, g5, g6, n6, laws_FnExactIndexTurned_j0, laws_FnExactIndexTurned_j1, laws_FnExactIndexTurned_j2, g10, h10, n10]
end Go.D
set_option linter.unusedVariables false
namespace Go.D
open Go.ChangeShapes Go.RowKit
theorem trodAll_carry {H : Type} {enc : TypeId × Value → H} {P : Program} {w w' : World} {base : Nat} {sp : Nat → Bool} {held : Bool} : ∀ {ts : List TypeId} {vs : List Value} {ds : List (DataW H)} {ps : List MemPlace},
  DataW.TrodAll enc P w base sp held ts vs ds ps → (∀ p ∈ ps, w.sameAt w' p) → DataW.TrodAll enc P w' base sp held ts vs ds ps
 | [], [], [], _, h, _ => h
 | _ :: _, _ :: _, _ :: _, _, ⟨p, q, ⟨n, hn⟩, h2, e⟩, hs =>
  ⟨p, q, ⟨n, DataW.trod_carry n _ _ _ hn fun x hx => hs x (by rw [e]; exact List.mem_append_left _ hx)⟩, trodAll_carry h2 fun x hx => hs x (by rw [e]; exact List.mem_append_right _ hx), e⟩
theorem Kept.sameAt {w w' : World} (h : Grew w w') {p : MemPlace} (hp : p.block < w.heap.size) : w.sameAt w' p := by
 have hb := h.block p.block hp (fun h => h)
 cases p with
 | cell b off =>
  show w'.cell? ⟨b, off, none⟩ = w.cell? ⟨b, off, none⟩
  unfold World.cell?
  have hb : w'.heap[b]? = w.heap[b]? := hb
  simp only [hb]
 | map b => exact hb
theorem Kept.keptBut {w w' : World} (h : Grew w w') (may : MemPlace → Prop) : w.keptBut w' may := by
 refine ⟨h.os, h.output, fun i hi => ?_⟩
 rw [h.block i hi (fun h => h)]
 cases w.heap[i]? with
 | none => trivial
 | some o => cases o <;> simp
theorem contract_of {P : Program} {fid : FuncId} {fn : Func} {s : ChangeSpec} {tb : TypeId} {H : Type} {enc : TypeId × Value → H}
  (hK : Kids P (· < P.types.size)) (hfull : ∀ t e, t < P.types.size → P.underlying t = some (.slice e) → 0 < P.cellsOf e)
  (hp : ∀ t ∈ fn.params.toList, t < P.types.size) (hv : s.vars = []) (hr : fn.resultTypes = #[tb]) (hb : P.underlying tb = some .bool)
  {n : Nat} (hn : fn.params.toList.length = n) (hs : ∀ ds : List (DataW H), ds.length = n → s.fn H ds = { results := [.lit (.bool true)], args := ds })
  {W : World} {args : Array Value} {ds gs : List (DataW H)} {before : List MemPlace}
  (hlaw : ∀ p, DataW.TrodAll enc P W 0 (fun _ => true) true fn.params.toList args.toList ds p → ∃ ins, FrL W (fun _ => False) ins args.toList ∧ OK P fid ins (B true))
  (hW : DataW.Whole enc P fn.params.toList s.vars false W args.toList ds gs before) :
  Calls P fid args W fun e W' => ∃ v, e = .returned v ∧ s.post enc P fn false true false false W args v W' := by
 have hlt := hW.lt
 have hW' := hW
 obtain ⟨p, q, hA, hV, rfl, hfz, hnd⟩ := hW
 rw [hv] at hV
 obtain ⟨rfl, rfl⟩ := trodVars_none hV
 obtain ⟨ins, h1, h2⟩ := hlaw p hA
 have hlen : ∀ {ts : List TypeId} {vs : List Value} {ds : List (DataW H)} {ps : List MemPlace}, DataW.TrodAll enc P W 0 (fun _ => true) true ts vs ds ps → ds.length = ts.length := by
  intro ts
  induction ts with
  | nil => intro vs ds ps h; obtain ⟨_, rfl, _⟩ := trodAll_nil h; rfl
  | cons t ts ih =>
   intro vs ds ps h
   obtain ⟨_, _, _, _, _, _, rfl, rfl, rfl, _, h⟩ := trodAll_cons h
   simp [ih h]
 have hds : ds.length = n := (hlen hA).trans hn
 have hc := h2.2 W args.toList (fun _ => False) (fun b h => h.elim) h1
 have ha : args.toList.toArray = args := by simp
 rw [ha] at hc
 refine hc.mono fun e W' ⟨v, fp, he, hg, ho, _⟩ => ⟨v, he, ?_⟩
 simp only [B, Ow] at ho
 obtain ⟨rfl, rfl⟩ := ho
 have hsame : ∀ x ∈ p, W.sameAt W' x := fun x hx => Kept.sameAt hg (hlt x (by simpa using hx))
 refine ⟨ds, [], p ++ [], [], p, [], hW', ?_, ?_, ?_, Kept.keptBut hg _, fun h => by cases h⟩
 ·rw [List.append_nil, hs ds hds, hr]
  exact trodAll_mk1 (shut_bool hb true)
 ·rw [List.append_nil, hs ds hds]
  exact trodAll_carry (DataW.TrodAll.respare hK hfull hp hA fun x hx => by
   have := hlt x (by simpa using hx)
   simpa using this) hsame
 ·rw [hv, List.append_nil, hs ds hds]
  rfl
end Go.D
