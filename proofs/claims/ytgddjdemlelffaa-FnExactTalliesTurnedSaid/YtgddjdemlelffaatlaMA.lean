import Derived.Test.YtgddjdemlelffaatlaDXFB
import Derived.Test.YtgddjdemlelffaatlaDShow
import Derived.ChangeArms
import Derived.ChangeShapes
import Derived.Deep.Slices
import Derived.Test.YtgddjdemlelffaatlaDOwn3
import Derived.Test.YtgddjdemlelffaatlaDNil
import Derived.Test.YtgddjdemlelffaatlaDMore
import Derived.Test.YtgddjdemlelffaatlaDOrd3
import Derived.Test.YtgddjdemlelffaatlaDXT
import Derived.OpenShut
import Derived.ReadAgain
import Derived.ProofKit
set_option linter.unusedVariables false
namespace Go.D
end Go.D
set_option linter.unusedVariables false
namespace Go.D
def Rd (P : Program) (t : TypeId) (α : Type) [Enc α] (W : α → Prop) : Prop :=
 P.cellsOf t = Enc.sz α ∧ ∀ (H : Type) (enc : TypeId × Value → H) (w : World) (base : Nat) (sp : Nat → Bool) (held : Bool) (fuel : Nat) (cs : List Value) (x : DataW H × List MemPlace), DataW.trod enc P w base sp held fuel t cs = some x →
  ∃ y : α, FrL w (fun _ => False) (Enc.cells y) cs ∧ W y
def intW (n : Int) : Prop := -9223372036854775808 ≤ n ∧ n ≤ 9223372036854775807
def strW (s : ByteArray) : Prop := s.size ≤ 9223372036854775807
def listW {α : Type} (W : α → Prop) (l : List α) : Prop := l.length ≤ 9223372036854775807 ∧ ∀ x ∈ l, W x
section
variable {P : Program}
theorem rd_int {t : TypeId} (ht : P.underlying t = some (.int .i64)) (hc : P.cellsOf t = 1) : Rd P t Int intW := ⟨hc, fun H enc w base sp held fuel cs x h => by
 obtain ⟨n, rfl, _, hw⟩ := DataW.trod_int ht h
 refine ⟨n, ?_, by simpa [Lit.wf, IntKind.min, IntKind.max, IntKind.signed, IntKind.bits, intW] using hw⟩
 show FrL w _ [I n] _
 simp only [FrL]
 exact ⟨_, _, rfl, by simp only [Fr], rfl⟩⟩
theorem rd_str {t : TypeId} (ht : P.underlying t = some .string) (hc : P.cellsOf t = 1) : Rd P t ByteArray strW := ⟨hc, fun H enc w base sp held fuel cs x h => by
 obtain ⟨s, rfl, _, hs⟩ := DataW.trod_string ht h
 refine ⟨s, ?_, by simpa [strW, maxLen] using hs⟩
 show FrL w _ [S s] _
 simp only [FrL]
 exact ⟨_, _, rfl, by simp only [Fr], rfl⟩⟩
theorem eL_flat {α : Type} [Enc α] {w : World} {M : Nat → Prop} : ∀ {ys : List α} {uss : List (List Value)}, ys.length = uss.length → (∀ (i : Nat) (y : α) (us : List Value), ys[i]? = some y → uss[i]? = some us → FrL w M (Enc.cells y) us) → FrL w M (eL ys) uss.flatten
 | [], [], _, _ => by simp [eL, FrL]
 | [], _ :: _, h, _ => by simp at h
 | _ :: _, [], h, _ => by simp at h
 | y :: ys, us :: uss, h, k => by
  simp only [eL, List.flatten_cons]
  exact FrL.append (k 0 y us rfl rfl) (eL_flat (by simpa using h) fun i y' us' h1 h2 => k (i + 1) y' us' (by simpa using h1) (by simpa using h2))
theorem flat_get {sz : Nat} (hsz : 0 < sz) : ∀ {uss : List (List Value)}, (∀ us ∈ uss, us.length = sz) → ∀ {j : Nat} {v : Value}, uss.flatten[j]? = some v → ∃ us, uss[j / sz]? = some us ∧ us[j % sz]? = some v
 | [], _, j, v, h => by simp at h
 | us :: uss, hl, j, v, h => by
  have h0 : us.length = sz := hl us (by simp)
  simp only [List.flatten_cons] at h
  rcases Nat.lt_or_ge j sz with hj | hj
  ·rw [List.getElem?_append_left (by omega)] at h
   refine ⟨us, by rw [Nat.div_eq_of_lt hj]; rfl, by rw [Nat.mod_eq_of_lt hj]; exact h⟩
  ·rw [List.getElem?_append_right (by omega), h0] at h
   obtain ⟨us', h1, h2⟩ := flat_get hsz (fun us' hu => hl us' (by simp [hu])) h
   refine ⟨us', ?_, ?_⟩
   ·have : j / sz = (j - sz) / sz + 1 := by rw [Nat.div_eq_sub_div hsz hj]
    rw [this]
    simpa using h1
   ·rw [Nat.mod_eq_sub_mod hj]; exact h2
theorem rd_slice {t e : TypeId} {α : Type} [Enc α] {W : α → Prop} (ht : P.underlying t = some (.slice e)) (hc : P.cellsOf t = 1) (he : Rd P e α W) : Rd P t (List α) (listW W) := ⟨hc, fun H enc w base sp held fuel cs x h => by
 obtain ⟨hce, he⟩ := he
 have hpos : 0 < Enc.sz α := Enc.pos
 have fin : ∀ (ys : List α) (v : Value), Fr w (fun _ => False) (A ys) v → listW W ys → ∃ y : List α, FrL w (fun _ => False) (Enc.cells y) [v] ∧ listW W y := fun ys v h1 h2 => ⟨ys, by
  show FrL w _ [A ys] _
  simp only [FrL]
  exact ⟨_, _, rfl, h1, rfl⟩, h2⟩
 rcases Go.Deep.open_slice ht h with ⟨rfl, _⟩ | ⟨a, len, cap, m, n, D, Pl, rfl, hb, hl, hm, hmm, _, hx⟩
 ·exact fin [] _ (Fr.nil w _ _ hpos) ⟨by simp, by simp⟩
 ·have hcapm : cap ≤ maxI := by simpa [maxLen, maxI] using hm
  by_cases h0 : len = 0
  ·subst h0
   refine fin [] _ ?_ ⟨by simp, by simp⟩
   simp only [Fr]
   exact ⟨some a, cap, rfl, ⟨hpos, by simp [eL], by simp, hcapm, fun h => by cases h⟩, .inl rfl⟩
  ·have hlm : len ≤ m := by rw [hmm]; split <;> omega
   have hel : ∀ i, i < len → ∃ p : List Value × α, w.cells? base (a.add (i * P.cellsOf e)) (P.cellsOf e) = some p.1 ∧ FrL w (fun _ => False) (Enc.cells p.2) p.1 ∧ W p.2 := by
    intro i hi
    obtain ⟨cs', h1, h2⟩ := hx i (by omega)
    obtain ⟨y, h3, h4⟩ := he H enc w base sp held n cs' _ h2
    exact ⟨(cs', y), h1, h3, h4⟩
   obtain ⟨p0, hp0⟩ := hel 0 (by omega)
   haveI : Inhabited (List Value × α) := ⟨p0⟩
   obtain ⟨F, hF⟩ := Go.Deep.choose_lt (α := List Value × α) (p := fun i p => w.cells? base (a.add (i * P.cellsOf e)) (P.cellsOf e) = some p.1 ∧ FrL w (fun _ => False) (Enc.cells p.2) p.1 ∧ W p.2) hel
   let ys : List α := (List.range len).map fun i => (F i).2
   let uss : List (List Value) := (List.range len).map fun i => (F i).1
   have hul : ∀ us ∈ uss, us.length = Enc.sz α := by
    intro us hu
    obtain ⟨i, hi, rfl⟩ := List.mem_map.1 hu
    have := (World.cells?_some (hF i (List.mem_range.1 hi)).1).2.1
    rw [this, hce]
   have hys : ys.length = len := by simp [ys]
   have hfl : FrL w (fun _ => False) (eL ys) uss.flatten := eL_flat (by simp [ys, uss]) fun i y us h1 h2 => by
    simp only [ys, uss, List.getElem?_map] at h1 h2
    have hi : i < len := by
     cases hr : (List.range len)[i]? with
     | none => rw [hr] at h1; cases h1
     | some k => have := (List.getElem?_eq_some_iff.1 hr).1; simpa using this
    rw [List.getElem?_range hi] at h1 h2
    simp only [Option.map_some, Option.some.injEq] at h1 h2
    rw [← h1, ← h2]
    exact (hF i hi).2.1
   have hul0 : ((F 0).1).length = Enc.sz α := hul _ (List.mem_map.2 ⟨0, by simp; omega, rfl⟩)
   have h00 : ∃ v, w.cell? a = some v := by
    have h1 := (World.cells?_some (hF 0 (by omega)).1).2.2 0 (by rw [hce]; exact hpos)
    rw [List.getElem?_eq_getElem (by omega)] at h1
    refine ⟨_, Eq.trans ?_ h1⟩
    simp [Addr.add]
   obtain ⟨v00, hv00⟩ := h00
   have hspot : a.spot = none := World.cell?_spot hv00
   obtain ⟨ab, ao, as_⟩ := a
   simp only at hspot
   subst hspot
   have hcell : ∀ i j, i < len → j < Enc.sz α → w.cell? ⟨ab, ao + (i * Enc.sz α + j), none⟩ = ((F i).1)[j]? := by
    intro i j hi hj
    have := (World.cells?_some (hF i hi).1).2.2 j (by rw [hce]; exact hj)
    rw [hce] at this
    rw [← this]
    congr 1
    unfold Addr.add
    split <;> split <;> simp_all <;> omega
   refine fin ys _ ?_ ⟨by rw [hys]; simp only [maxI] at hcapm; omega, fun y hy => by
    obtain ⟨i, hi, rfl⟩ := List.mem_map.1 hy
    exact (hF i (List.mem_range.1 hi)).2.2⟩
   simp only [Fr]
   refine ⟨some ⟨ab, ao, none⟩, cap, by rw [hys], ⟨hpos, by rw [eL_len], by rw [hys]; exact hl, hcapm, fun h => by cases h⟩, .inr ⟨ab, ao, uss.flatten, rfl, World.block_lt_of_cell? _ _ hv00, fun h => h, hfl, fun j hj => ?_⟩⟩
   obtain ⟨us, h1, h2⟩ := flat_get hpos hul (List.getElem?_eq_getElem hj)
   have hi : j / Enc.sz α < len := by
    have := (List.getElem?_eq_some_iff.1 h1).1
    simpa [uss] using this
   simp only [uss, List.getElem?_map, List.getElem?_range hi, Option.map_some, Option.some.injEq] at h1
   have := hcell (j / Enc.sz α) (j % Enc.sz α) hi (Nat.mod_lt _ hpos)
   rw [h1, h2] at this
   have e1 : j / Enc.sz α * Enc.sz α + j % Enc.sz α = j := by rw [Nat.mul_comm]; exact Nat.div_add_mod j _
   rw [e1] at this
   rw [List.getElem?_eq_getElem hj, ← this]⟩
end
end Go.D
set_option linter.unusedVariables false
namespace Go.D
theorem w64_of {n : Int} (h1 : -9223372036854775808 ≤ n) (h2 : n ≤ 9223372036854775807) : w64 n = n := by
 have hm : IntKind.i64.min = -9223372036854775808 := by decide
 have hM : IntKind.i64.max = 9223372036854775807 := by decide
 simp [w64, IntKind.wrap, IntKind.signed, IntKind.bits]
 omega
theorem getI_nat {α : Type} {xs : List α} {i : Nat} : getI xs (i : Int) = xs[i]? := by
 unfold getI
 rw [if_pos (by omega), Int.toNat_natCast]
theorem getI_lt {α : Type} {xs : List α} {i : Int} (h0 : 0 ≤ i) (h1 : i < xs.length) : ∃ x, getI xs i = some x ∧ xs[i.toNat]? = some x := by
 unfold getI
 rw [if_pos h0]
 have : i.toNat < xs.length := by omega
 exact ⟨xs[i.toNat], by rw [List.getElem?_eq_getElem this], by rw [List.getElem?_eq_getElem this]⟩
theorem app_lt {α : Type} {xs ys : List α} (h : xs.length + ys.length < 68719476736) : app xs ys = some (xs ++ ys) := if_pos h
theorem succ_w {i n : Nat} (h : i < n) (hn : n ≤ 70368744177663) : w64 ((i : Int) + 1) = ((i + 1 : Nat) : Int) := by
 rw [w64_of (by omega) (by omega)]
 omega
theorem loop_all {α : Type} {xs : List α} {L : Nat → Int → Option Bool} {p : α → Bool} {fin : Bool} (hlen : xs.length ≤ 70368744177662)
  (h : ∀ (f i : Nat) (v : α), i < xs.length → xs[i]? = some v → w64 ((i : Int) + 1) = ((i + 1 : Nat) : Int) → L (f + 1) i = bif p v then L f ((i + 1 : Nat) : Int) else some false)
  (he : ∀ f, L (f + 1) (xs.length : Int) = some fin) : L FUEL 0 = some (xs.all p && fin) := by
 have main : ∀ (k f i : Nat), i + k = xs.length → k < f → L f (i : Int) = some ((xs.drop i).all p && fin) := by
  intro k
  induction k with
  | zero =>
   intro f i hi hf
   obtain ⟨f, rfl⟩ : ∃ f', f = f' + 1 := ⟨f - 1, by omega⟩
   have : i = xs.length := by omega
   subst this
   rw [he, List.drop_length]
   simp
  | succ k ih =>
   intro f i hi hf
   obtain ⟨f, rfl⟩ : ∃ f', f = f' + 1 := ⟨f - 1, by omega⟩
   have hlt : i < xs.length := by omega
   rw [h f i xs[i] hlt (List.getElem?_eq_getElem hlt) (succ_w hlt (by omega)), ih f (i + 1) (by omega) (by omega), List.drop_eq_getElem_cons hlt, List.all_cons]
   cases p xs[i] <;> simp
 have := main xs.length FUEL 0 (by omega) (by unfold FUEL; omega)
 simpa using this
theorem loop_find {α : Type} {xs : List α} {L : Nat → Int → Option Int} {p : α → Bool} (hlen : xs.length ≤ 70368744177662)
  (h : ∀ (f i : Nat) (v : α), i < xs.length → xs[i]? = some v → w64 ((i : Int) + 1) = ((i + 1 : Nat) : Int) → L (f + 1) i = bif p v then some (i : Int) else L f ((i + 1 : Nat) : Int))
  (he : ∀ f, L (f + 1) (xs.length : Int) = some (-1)) : ∃ r, L FUEL 0 = some r ∧ decide (r ≥ 0) = xs.any p := by
 have main : ∀ (k f i : Nat), i + k = xs.length → k < f → ∃ r, L f (i : Int) = some r ∧ decide (r ≥ 0) = (xs.drop i).any p := by
  intro k
  induction k with
  | zero =>
   intro f i hi hf
   obtain ⟨f, rfl⟩ : ∃ f', f = f' + 1 := ⟨f - 1, by omega⟩
   have : i = xs.length := by omega
   subst this
   rw [he, List.drop_length]
   exact ⟨_, rfl, by simp⟩
  | succ k ih =>
   intro f i hi hf
   obtain ⟨f, rfl⟩ : ∃ f', f = f' + 1 := ⟨f - 1, by omega⟩
   have hlt : i < xs.length := by omega
   rw [h f i xs[i] hlt (List.getElem?_eq_getElem hlt) (succ_w hlt (by omega)), List.drop_eq_getElem_cons hlt, List.any_cons]
   cases hp : p xs[i] with
   | true => exact ⟨_, rfl, by simp⟩
   | false =>
    obtain ⟨r, h1, h2⟩ := ih f (i + 1) (by omega) (by omega)
    exact ⟨r, h1, by simp [h2]⟩
 have := main xs.length FUEL 0 (by omega) (by unfold FUEL; omega)
 simpa using this
theorem loop_q {α σ β : Type} {xs : List α} {L : Nat → Int → σ → Option β} (Q : List α → σ → β → Prop) (Inv : Nat → σ → Prop) (hlen : xs.length ≤ 70368744177662)
  (h : ∀ (f i : Nat) (s : σ) (v : α) (rest : List α), i + (rest.length + 1) = xs.length → i < xs.length → xs[i]? = some v → w64 ((i : Int) + 1) = ((i + 1 : Nat) : Int) → Inv i s →
   (∃ y, L (f + 1) i s = some y ∧ Q (v :: rest) s y) ∨ ∃ s', Inv (i + 1) s' ∧ L (f + 1) i s = L f ((i + 1 : Nat) : Int) s' ∧ ∀ y, Q rest s' y → Q (v :: rest) s y)
  (he : ∀ f s, Inv xs.length s → ∃ y, L (f + 1) (xs.length : Int) s = some y ∧ Q [] s y) {s : σ} (h0 : Inv 0 s) : ∃ y, L FUEL 0 s = some y ∧ Q xs s y := by
 have main : ∀ (k f i : Nat) (s : σ), i + k = xs.length → k < f → Inv i s → ∃ y, L f (i : Int) s = some y ∧ Q (xs.drop i) s y := by
  intro k
  induction k with
  | zero =>
   intro f i s hi hf hI
   obtain ⟨f, rfl⟩ : ∃ f', f = f' + 1 := ⟨f - 1, by omega⟩
   have : i = xs.length := by omega
   subst this
   rw [List.drop_length]
   exact he _ _ hI
  | succ k ih =>
   intro f i s hi hf hI
   obtain ⟨f, rfl⟩ : ∃ f', f = f' + 1 := ⟨f - 1, by omega⟩
   have hlt : i < xs.length := by omega
   rw [List.drop_eq_getElem_cons hlt]
   rcases h f i s xs[i] (xs.drop (i + 1)) (by rw [List.length_drop]; omega) hlt (List.getElem?_eq_getElem hlt) (succ_w hlt (by omega)) hI with h1 | ⟨s', h1, h2, h3⟩
   ·exact h1
   ·obtain ⟨y, h4, h5⟩ := ih f (i + 1) s' (by omega) (by omega) h1
    exact ⟨y, h2.trans h4, h3 y h5⟩
 have := main xs.length FUEL 0 s (by omega) (by unfold FUEL; omega) h0
 simpa using this
def okL {α : Type} (ok : α → Prop) (xs : List α) : Prop := xs.length ≤ 1048576 ∧ ∀ x ∈ xs, ok x
def SzP {α : Type} (z : α → Int → Option Int) (W ok : α → Prop) : Prop := ∀ x n, W x → 0 ≤ n → n ≤ 1048576 → ∃ r, z x n = some r ∧ (r < 0 ∨ (0 ≤ r ∧ r ≤ n ∧ ok x))
theorem sz_cut {k : Nat} {n : Int} (hk : k ≤ 9223372036854775807) (h0 : 0 ≤ n) (hn : n ≤ 1048576) : w64 (n - (k : Int)) = n - k := w64_of (by omega) (by omega)
theorem sz_one {α : Type} {z : α → Int → Option Int} {W : α → Prop} (k : α → Nat) (hk : ∀ x, W x → k x ≤ 9223372036854775807)
  (hz : ∀ x n, z x n = bif (decide (w64 (n - ((k x : Nat) : Int)) < 0)) then some (-1) else some (w64 (n - ((k x : Nat) : Int)))) : SzP z W (fun x => k x ≤ 1048576) := by
 intro x n hW h0 hn
 rw [hz, sz_cut (hk x hW) h0 hn]
 by_cases h : n - (k x : Int) < 0
 ·exact ⟨-1, by rw [decide_eq_true h, cond_true], .inl (by omega)⟩
 ·exact ⟨n - k x, by rw [decide_eq_false h, cond_false], .inr ⟨by omega, by omega, by simp only; omega⟩⟩
theorem sz_loop {α : Type} {z : α → Int → Option Int} {S : List α → Int → Option Int} {L : List α → Nat → Int → Int → Option Int} {W ok : α → Prop} (hz : SzP z W ok)
  (hS : ∀ a n, S a n = bif (decide (w64 (n - ((a.length : Nat) : Int)) < 0)) then some (-1) else L a FUEL (w64 (n - ((a.length : Nat) : Int))) 0)
  (hL : ∀ a f n i, L a (f + 1) n i = bif (decide (i < ((a.length : Nat) : Int))) then (getI a i).bind fun v => (z v n).bind fun r => bif (decide (r < 0)) then some (-1) else L a f r (w64 (i + 1)) else some n) :
  SzP S (listW W) (okL ok) := by
 intro x n hW h0 hn
 rw [hS, sz_cut hW.1 h0 hn]
 by_cases h : n - (x.length : Int) < 0
 ·exact ⟨-1, by rw [decide_eq_true h, cond_true], .inl (by omega)⟩
 rw [decide_eq_false h, cond_false]
 have key := loop_q (xs := x) (L := fun f i (m : Int) => L x f m i) (fun rest m y => y < 0 ∨ (0 ≤ y ∧ y ≤ m ∧ ∀ v ∈ rest, ok v)) (fun i m => 0 ≤ m ∧ m ≤ n) (by omega)
  (fun f i m v rest hr hi hv hw hI => by
   have hlt : (i : Int) < x.length := by omega
   obtain ⟨r, h1, h2⟩ := hz v m (hW.2 v (List.mem_of_getElem? hv)) hI.1 (by omega)
   rcases h2 with h2 | ⟨h2, h3, h4⟩
   ·refine .inl ⟨-1, ?_, .inl (by omega)⟩
    simp only [hL, hlt, decide_true, cond_true, getI_nat, hv, Option.bind_some, h1, h2]
   ·refine .inr ⟨r, ⟨h2, by omega⟩, ?_, fun y hy => ?_⟩
    ·have : ¬ r < 0 := by omega
     simp only [hL, hlt, decide_true, cond_true, getI_nat, hv, Option.bind_some, h1, this, decide_false, cond_false, hw]
    ·rcases hy with hy | ⟨hy1, hy2, hy3⟩
     ·exact .inl hy
     ·refine .inr ⟨hy1, by omega, fun u hu => ?_⟩
      rcases List.mem_cons.1 hu with rfl | hu
      ·exact h4
      ·exact hy3 u hu)
  (fun f m hI => ⟨m, by simp only [hL, Int.lt_irrefl, decide_false, cond_false], .inr ⟨hI.1, Int.le_refl _, fun v hv => by cases hv⟩⟩) (s := n - (x.length : Int)) ⟨by omega, by omega⟩
 obtain ⟨y, h1, h2⟩ := key
 exact ⟨y, h1, h2.imp id fun h' => ⟨h'.1, by omega, by omega, h'.2.2⟩⟩
theorem to_loop {α β : Type} {c : α → β} {t : α → Option β} {S : List α → Option (List β)} {L : List α → Nat → Int → List β → Option (List β)} {d : β} {ok : α → Prop} (ht : ∀ x, ok x → t x = some (c x))
  (hS : ∀ a, S a = (mkI ((a.length : Nat) : Int) d).bind fun v => L a FUEL 0 v)
  (hL : ∀ a f i st, L a (f + 1) i st = bif (decide (i < ((a.length : Nat) : Int))) then (getI a i).bind fun v => (t v).bind fun y => (getI st i).bind fun _ => L a f (w64 (i + 1)) (st.set i.toNat y) else some st) :
  ∀ xs, okL ok xs → S xs = some (xs.map c) := by
 intro xs hx
 have hl := hx.1
 rw [hS, mkI, if_pos (by omega), Option.bind_some]
 have key := loop_q (xs := xs) (L := fun f i (st : List β) => L xs f i st) (fun rest st y => y = st.take (st.length - rest.length) ++ rest.map c) (fun i st => st.length = xs.length) (by omega)
  (fun f i st v rest hr hi hv hw hI => by
   have hlt : (i : Int) < xs.length := by omega
   obtain ⟨o, ho, _⟩ := getI_lt (xs := st) (i := (i : Int)) (by omega) (by omega)
   refine .inr ⟨st.set i (c v), by rw [List.length_set]; exact hI, ?_, fun y hy => ?_⟩
   ·rw [hL, decide_eq_true hlt, cond_true, getI_nat, hv, Option.bind_some, ht v (hx.2 v (List.mem_of_getElem? hv)), Option.bind_some, ho, Option.bind_some, hw, Int.toNat_natCast]
   ·have e1 : (st.set i (c v)).length - rest.length = i + 1 := by rw [List.length_set]; omega
    have e2 : st.length - (v :: rest).length = i := by simp only [List.length_cons]; omega
    rw [e1] at hy
    rw [e2, hy, List.take_add_one, List.take_set_of_le (Nat.le_refl i), List.getElem?_set_self (by omega)]
    simp)
  (fun f st hI => ⟨st, by simp only [hL, Int.lt_irrefl, decide_false, cond_false], by simp⟩) (s := List.replicate ((xs.length : Int)).toNat d) (by simp)
 obtain ⟨y, h1, h2⟩ := key
 rw [h1, h2]
 simp
theorem eq_loop {β : Type} {e : β → β → Option Bool} {S : List β → List β → Option Bool} {L : List β → List β → Nat → Int → Option Bool} {ok : β → Prop} (he : ∀ x, ok x → e x x = some true)
  (hS : ∀ a b, S a b = bif (!(((a.length : Nat) : Int) == ((b.length : Nat) : Int))) then some false else L a b FUEL 0)
  (hL : ∀ a b f i, L a b (f + 1) i = bif (decide (i < ((a.length : Nat) : Int))) then (getI a i).bind fun v => (getI b i).bind fun u => (e v u).bind fun r => bif (!r) then some false else L a b f (w64 (i + 1)) else some true) :
  ∀ xs, okL ok xs → S xs xs = some true := by
 intro xs hx
 have hl := hx.1
 rw [hS, beq_self_eq_true, Bool.not_true, cond_false]
 have := loop_all (xs := xs) (L := fun f i => L xs xs f i) (p := fun _ => true) (fin := true) (by omega) (fun f i v hi hv hw => by
  have hlt : (i : Int) < xs.length := by omega
  simp only [hL, hlt, decide_true, cond_true, getI_nat, hv, Option.bind_some, he v (hx.2 v (List.mem_of_getElem? hv)), Bool.not_true, cond_false, hw]) (fun f => by
  simp only [hL, Int.lt_irrefl, decide_false, cond_false])
 rw [this]
 simp
end Go.D
set_option linter.unusedVariables false
namespace Go.D
abbrev Sm (n : Nat) : Prop := n ≤ 2097152
def inR (a b c : Int) : Bool := decide (b ≤ a) && decide (a ≤ c)
theorem spec_in (a b c : Int) : spec_l1In a b c = some (inR a b c) := by
 unfold spec_l1In inR
 by_cases h : b ≤ a <;> simp [h]
theorem impl_in (a b c : Int) : impl_between a b c = some (inR a b c) := by
 unfold impl_between inR
 by_cases h : b ≤ a <;> simp [h]
theorem not_any_not {α : Type} (xs : List α) (p : α → Bool) : (!(xs.any fun x => !(p x))) = xs.all p := by
 induction xs with
 | nil => rfl
 | cons x xs ih => simp [← ih]
theorem cast_le6 (n : Nat) : decide ((n : Int) ≤ 6) = decide (n ≤ 6) := by
 simp only [decide_eq_decide]
 omega
theorem getB_nat {s : ByteArray} {i : Nat} : getB s (i : Int) = s.data.toList[i]? := by
 unfold getB
 rw [if_pos (by omega), Int.toNat_natCast]
 by_cases h : i < s.size
 ·rw [getElem?_pos s i h, List.getElem?_eq_getElem (by simpa using h)]
  simp only [Option.some.injEq]
  rfl
 ·rw [getElem?_neg s i h, List.getElem?_eq_none (by simpa using h)]
def letter (b : UInt8) : Bool := decide (97 ≤ b.toNat) && decide (b.toNat ≤ 122)
def textOk (s : ByteArray) : Bool := s.data.toList.all letter && decide (s.size ≤ 6)
theorem size_list (s : ByteArray) : s.data.toList.length = s.size := Array.length_toList
theorem spec_text {s : ByteArray} (h : Sm s.size) : spec_l1Text s = some (textOk s) := by
 unfold spec_l1Text textOk
 have hl := size_list s
 refine loop_all (xs := s.data.toList) (by omega) (fun f i v hi hv hw => ?_) (fun f => ?_)
 ·have : (i : Int) < s.size := by omega
  simp only [spec_l1Text_l0, this, decide_true, cond_true, getB_nat, hv, Option.bind_some, spec_l1Text_j1, hw]
  unfold letter
  by_cases h1 : (v.toNat : Int) < 97
  ·have : ¬ 97 ≤ v.toNat := by omega
   simp [h1, this]
  ·have h1' : 97 ≤ v.toNat := by omega
   by_cases h2 : (v.toNat : Int) > 122
   ·have : ¬ v.toNat ≤ 122 := by omega
    simp [h1, h1', h2, this]
   ·have : v.toNat ≤ 122 := by omega
    simp [h1, h1', h2, this]
 ·rw [hl]
  unfold spec_l1Text_l0
  rw [show decide ((s.size : Int) < (s.size : Int)) = false from decide_eq_false (Int.lt_irrefl _), cond_false, cast_le6]
theorem impl_lettersOk {s : ByteArray} (h : Sm s.size) : impl_letters s = some (s.data.toList.all letter) := by
 have hl := size_list s
 unfold impl_letters bytesOf
 rw [if_pos (by omega), Option.bind_some, ← Bool.and_true (s.data.toList.all letter)]
 refine loop_all (xs := s.data.toList) (by omega) (fun f i v hi hv hw => ?_) (fun f => ?_)
 ·have : (i : Int) < s.data.toList.length := by omega
  have hb : v.toNat < 256 := v.toNat_lt
  have h1 : w64 (v.toNat : Int) = v.toNat := w64_of (by omega) (by omega)
  simp only [impl_letters_l0, this, decide_true, cond_true, getI_nat, hv, Option.bind_some, impl_in, hw, h1]
  have : inR (v.toNat : Int) 97 122 = letter v := by
   unfold inR letter
   congr 1 <;> simp only [decide_eq_decide] <;> omega
  rw [this]
  cases letter v <;> rfl
 ·simp only [impl_letters_l0, Int.lt_irrefl, decide_false, cond_false]
def valOk (v : T_impl_Value) : Bool := bif v.fKind == 0 then v.fN == 0 && v.fS.toList == (ByteArray.mk #[]).toList else bif v.fKind == 1 then inR v.fN (-9999) 9999 && v.fS.toList == (ByteArray.mk #[]).toList else
 bif v.fKind == 2 then v.fN == 0 && textOk v.fS else bif v.fKind == 3 then inR v.fN 0 1 && v.fS.toList == (ByteArray.mk #[]).toList else false
theorem spec_value {v : T_impl_Value} (h : Sm v.fS.size) : spec_ValueOk v = some (valOk v) := by
 unfold spec_ValueOk valOk
 simp only [spec_in, spec_text h, Option.bind_some]
 cases v.fKind == 0 <;> cases v.fKind == 1 <;> cases v.fKind == 2 <;> cases v.fKind == 3 <;> cases v.fN == 0 <;> cases inR v.fN (-9999) 9999 <;> cases inR v.fN 0 1 <;> rfl
theorem impl_value {v : T_impl_Value} (h : Sm v.fS.size) : impl_Value_ok v = some (valOk v) := by
 unfold impl_Value_ok valOk
 simp only [impl_in, impl_lettersOk h, Option.bind_some]
 have e : eq_T_impl_Value v ((T_impl_Value.mk 0 0 (ByteArray.mk #[]))) = (v.fKind == 0 && (v.fN == 0 && v.fS.toList == (ByteArray.mk #[]).toList)) := rfl
 have e2 : decide ((v.fS.size : Int) ≤ 6) = decide (v.fS.size ≤ 6) := by
  simp only [decide_eq_decide]
  omega
 have e3 : textOk v.fS = (v.fS.data.toList.all letter && decide (v.fS.size ≤ 6)) := rfl
 rw [e, e2, e3]
 cases v.fKind == 0 <;> cases v.fKind == 1 <;> cases v.fKind == 2 <;> cases v.fKind == 3 <;> cases v.fN == 0 <;> cases inR v.fN (-9999) 9999 <;> cases inR v.fN 0 1 <;> cases v.fS.toList == (ByteArray.mk #[]).toList <;>
  cases decide (v.fS.size ≤ 6) <;> cases v.fS.data.toList.all letter <;> rfl
def SmV (v : T_impl_Value) : Prop := Sm v.fS.size
def SmR (r : List T_impl_Value) : Prop := Sm r.length ∧ ∀ v ∈ r, SmV v
def rowOk (r : List T_impl_Value) : Bool := r.all valOk && decide (r.length ≤ 4)
theorem spec_rowOk {r : List T_impl_Value} (h : SmR r) : spec_RowOk r = some (rowOk r) := by
 unfold spec_RowOk rowOk
 have hl := h.1
 refine loop_all (by omega) (fun f i v hi hv hw => ?_) (fun f => ?_)
 ·have : (i : Int) < r.length := by omega
  simp only [spec_RowOk_l0, this, decide_true, cond_true, getI_nat, hv, Option.bind_some, spec_value (h.2 v (List.mem_of_getElem? hv)), hw]
  cases valOk v <;> rfl
 ·simp only [spec_RowOk_l0, Int.lt_irrefl, decide_false, cond_false]
  congr 1
  simp only [decide_eq_decide]
  omega
theorem impl_rowAny {r : List T_impl_Value} (h : SmR r) : slices_ContainsFunc_impl_Value_impl_Value r impl_RowOk_1 = some (r.any fun v => !(valOk v)) := by
 unfold slices_ContainsFunc_impl_Value_impl_Value slices_IndexFunc_impl_Value_impl_Value
 have hl := h.1
 obtain ⟨x, h1, h2⟩ := loop_find (xs := r) (L := slices_IndexFunc_impl_Value_impl_Value_l0 r impl_RowOk_1) (p := fun v => !(valOk v)) (by omega) (fun f i v hi hv hw => by
  have : (i : Int) < r.length := by omega
  simp only [slices_IndexFunc_impl_Value_impl_Value_l0, this, decide_true, cond_true, getI_nat, hv, Option.bind_some, impl_RowOk_1, impl_value (h.2 v (List.mem_of_getElem? hv)), hw]) (fun f => by
  simp only [slices_IndexFunc_impl_Value_impl_Value_l0, Int.lt_irrefl, decide_false, cond_false])
 rw [h1, Option.bind_some, h2]
theorem le4 {α : Type} (xs : List α) : decide ((xs.length : Int) ≤ 4) = decide (xs.length ≤ 4) := by
 simp only [decide_eq_decide]
 omega
theorem impl_rowOk {r : List T_impl_Value} (h : SmR r) : impl_RowOk r = some (rowOk r) := by
 unfold impl_RowOk rowOk
 rw [impl_rowAny h, Option.bind_some, not_any_not, le4]
 cases decide (r.length ≤ 4) <;> simp
end Go.D
set_option linter.unusedVariables false
namespace Go.D
theorem g2 {α : Type} {xs : List α} (a b : α) : getI (xs ++ [a, b]) (xs.length : Int) = some a := by
 rw [getI_nat]
 simp
section
variable {α : Type} {xs : List α} (h : xs.length ≤ 2097152)
include h
theorem g1 (a b : α) : getI (xs ++ [a, b]) (w64 (((xs ++ [a, b]).length : Int) - 1)) = some b := by
 have e : (((xs ++ [a, b]).length : Int) - 1) = ((xs.length + 1 : Nat) : Int) := by simp only [List.length_append, List.length_cons, List.length_nil]; omega
 rw [e, w64_of (by omega) (by omega), getI_nat]
 simp
end
section
variable {α : Type} {xs : List α}
end
end Go.D
set_option linter.unusedVariables false
namespace Go.D
end Go.D
set_option linter.unusedVariables false
namespace Go.D
end Go.D
set_option linter.unusedVariables false
namespace Go.D
end Go.D
set_option linter.unusedVariables false
namespace Go.D
theorem loop_opt {α σ β : Type} {xs : List α} {L : Nat → Int → σ → Option β} (R : List α → σ → Option β) (Inv : Nat → σ → Prop) (hlen : xs.length ≤ 70368744177662)
  (h : ∀ (f i : Nat) (s : σ) (v : α), i < xs.length → xs[i]? = some v → w64 ((i : Int) + 1) = ((i + 1 : Nat) : Int) → Inv i s →
   L (f + 1) i s = R (v :: xs.drop (i + 1)) s ∨ ∃ s', Inv (i + 1) s' ∧ L (f + 1) i s = L f ((i + 1 : Nat) : Int) s' ∧ R (v :: xs.drop (i + 1)) s = R (xs.drop (i + 1)) s')
  (he : ∀ f s, Inv xs.length s → L (f + 1) (xs.length : Int) s = R [] s) {s : σ} (h0 : Inv 0 s) : L FUEL 0 s = R xs s := by
 have main : ∀ (k f i : Nat) (s : σ), i + k = xs.length → k < f → Inv i s → L f (i : Int) s = R (xs.drop i) s := by
  intro k
  induction k with
  | zero =>
   intro f i s hi hf hI
   obtain ⟨f, rfl⟩ : ∃ f', f = f' + 1 := ⟨f - 1, by omega⟩
   have : i = xs.length := by omega
   subst this
   rw [he _ _ hI, List.drop_length]
  | succ k ih =>
   intro f i s hi hf hI
   obtain ⟨f, rfl⟩ : ∃ f', f = f' + 1 := ⟨f - 1, by omega⟩
   have hlt : i < xs.length := by omega
   rw [List.drop_eq_getElem_cons hlt]
   rcases h f i s xs[i] hlt (List.getElem?_eq_getElem hlt) (succ_w hlt (by omega)) hI with h1 | ⟨s', h1, h2, h3⟩
   ·exact h1
   ·rw [h2, h3]
    exact ih f (i + 1) s' (by omega) (by omega) h1
 have := main xs.length FUEL 0 s (by omega) (by unfold FUEL; omega) h0
 simpa using this
end Go.D
set_option linter.unusedVariables false
namespace Go.D
def cmpI (a b : Int) : Int := if a < b then -1 else if a > b then 1 else 0
def cmpS (a b : ByteArray) : Int := bif Op.bytesLess a.toList b.toList then -1 else bif !Op.bytesLess a.toList b.toList && !(a.toList == b.toList) then 1 else 0
def ordV (a b : T_impl_Value) : Int := if cmpI a.fKind b.fKind ≠ 0 then cmpI a.fKind b.fKind else if cmpI a.fN b.fN ≠ 0 then cmpI a.fN b.fN else cmpS a.fS b.fS
theorem impl_cmpI (a b : Int) : cmp_Compare_int a b = some (cmpI a b) := by
 unfold cmp_Compare_int cmp_isNaN_int cmpI
 simp only [beq_self_eq_true, Bool.not_true, Option.bind_some, cond_false]
 by_cases h : a < b
 ·simp [h]
 ·by_cases h2 : a > b
  ·simp [h, h2]
  ·simp [h, h2]
theorem impl_cmpS (a b : ByteArray) : cmp_Compare_string a b = some (cmpS a b) := by
 unfold cmp_Compare_string cmp_isNaN_string cmpS
 simp only [beq_self_eq_true, Bool.not_true, Option.bind_some, cond_false]
 cases Op.bytesLess a.toList b.toList <;> cases a.toList == b.toList <;> rfl
theorem fuel4 : ∃ F, FUEL = F + 1 + 1 + 1 + 1 := by
 have h : 4 ≤ FUEL := by unfold FUEL; omega
 exact ⟨FUEL - 4, by omega⟩
theorem impl_or3 (a b c : Int) : cmp_Or_int [a, b, c] = some (if a ≠ 0 then a else if b ≠ 0 then b else c) := by
 obtain ⟨F, hF⟩ := fuel4
 unfold cmp_Or_int
 rw [hF]
 have w3 : w64 (0 + 1) = 1 := w64_of (by omega) (by omega)
 have w4 : w64 (1 + 1) = 2 := w64_of (by omega) (by omega)
 have w5 : w64 (2 + 1) = 3 := w64_of (by omega) (by omega)
 have i0 : getI [a, b, c] 0 = some a := rfl
 have i1 : getI [a, b, c] 1 = some b := rfl
 have i2 : getI [a, b, c] 2 = some c := rfl
 have l0 : decide ((0 : Int) < (([a, b, c] : List Int).length : Int)) = true := rfl
 have l1 : decide ((1 : Int) < (([a, b, c] : List Int).length : Int)) = true := rfl
 have l2 : decide ((2 : Int) < (([a, b, c] : List Int).length : Int)) = true := rfl
 have l3 : decide ((3 : Int) < (([a, b, c] : List Int).length : Int)) = false := rfl
 rw [cmp_Or_int_l0, l0, cond_true, i0, Option.bind_some, w3, cmp_Or_int_l0, l1, cond_true, i1, Option.bind_some, w4, cmp_Or_int_l0, l2, cond_true, i2, Option.bind_some, w5, cmp_Or_int_l0, l3, cond_false]
 have bf : ∀ {x : Int}, ¬ x = 0 → (x == 0) = false := fun h => by simp [h]
 by_cases ha : a = 0
 ·subst ha
  by_cases hb : b = 0
  ·subst hb
   by_cases hc : c = 0
   ·subst hc
    rfl
   ·rw [bf hc]
    simp
  ·rw [bf hb]
   simp [hb]
 ·rw [bf ha]
  simp [ha]
theorem impl_ord (a b : T_impl_Value) : impl_Value_order a b = some (ordV a b) := by
 unfold impl_Value_order
 simp only [impl_cmpI, impl_cmpS, impl_or3, Option.bind_some, ordV]
theorem spec_less (a b : Int) : (bif !(a == b) then (spec_l1Less b a).bind fun v => some (w64 (w64 (2 * v) - 1)) else none) = (if a = b then none else some (cmpI a b)) := by
 have w1 : w64 (w64 (2 * 1) - 1) = 1 := by rw [w64_of (n := 2 * 1) (by omega) (by omega), w64_of] <;> omega
 have w0 : w64 (w64 (2 * 0) - 1) = -1 := by rw [w64_of (n := 2 * 0) (by omega) (by omega), w64_of] <;> omega
 unfold spec_l1Less cmpI
 by_cases h : a = b
 ·simp [h]
 ·have e : (a == b) = false := by simp [h]
  rw [e, if_neg h, Bool.not_false, cond_true]
  by_cases h1 : b < a
  ·have : ¬ a < b := by omega
   rw [decide_eq_true h1, cond_true, Option.bind_some, w1, if_neg this, if_pos h1]
  ·have : a < b := by omega
   rw [decide_eq_false h1, cond_false, Option.bind_some, w0, if_pos this]
theorem cmpI_ne {a b : Int} (h : a ≠ b) : cmpI a b ≠ 0 := by
 unfold cmpI
 split
 ·omega
 ·split <;> omega
theorem cmpI_eq (a : Int) : cmpI a a = 0 := by simp [cmpI]
theorem spec_ord {a b : T_impl_Value} (sa : SmV a) (sb : SmV b) (ha : valOk a = true) (hb : valOk b = true) : spec_ValueOrder a b = some (ordV a b) := by
 unfold spec_ValueOrder
 rw [spec_value sa, Option.bind_some, spec_value sb, Option.bind_some, ha, hb]
 simp only [Bool.not_true, cond_false, spec_ValueOrder_j0]
 have hk := spec_less a.fKind b.fKind
 have hn := spec_less a.fN b.fN
 unfold ordV
 by_cases h1 : a.fKind = b.fKind
 ·rw [if_neg (by rw [h1, cmpI_eq]; simp)]
  by_cases h2 : a.fN = b.fN
  ·rw [if_neg (by rw [h2, cmpI_eq]; simp)]
   simp only [h1, h2, beq_self_eq_true, Bool.not_true, cond_false, spec_l1Cmp, cmpS]
   cases Op.bytesLess a.fS.toList b.fS.toList <;> cases a.fS.toList == b.fS.toList <;> rfl
  ·rw [if_pos (cmpI_ne h2)]
   rw [if_neg h2] at hn
   have e : (a.fN == b.fN) = false := by simp [h2]
   rw [e] at hn ⊢
   simp only [h1, beq_self_eq_true, Bool.not_true, cond_false]
   exact hn
 ·rw [if_pos (cmpI_ne h1)]
  rw [if_neg h1] at hk
  have e : (a.fKind == b.fKind) = false := by simp [h1]
  rw [e] at hk ⊢
  exact hk
end Go.D
set_option linter.unusedVariables false
namespace Go.D
theorem ord_int : Ord3 cmpI := by
 refine ⟨fun x => ?_, fun x y e => ?_, fun x y e => ?_, fun x y z e1 e2 => ?_⟩ <;> unfold cmpI at *
 ·simp
 ·repeat' split at e
  all_goals (repeat' split) <;> omega
 ·repeat' split at e
  all_goals (repeat' split) <;> omega
 ·repeat' split at e1
  all_goals (repeat' split at e2)
  all_goals (repeat' split) <;> omega
end Go.D
set_option linter.unusedVariables false
namespace Go.D
theorem bl_eq : ∀ (x y : List UInt8), Op.bytesLess x y = decide (x < y)
 | [], [] => by simp [Op.bytesLess]
 | _ :: _, [] => by simp [Op.bytesLess]
 | [], _ :: _ => by simp [Op.bytesLess]
 | a :: x, b :: y => by
  rw [Op.bytesLess, bl_eq x y]
  simp only [List.cons_lt_cons_iff]
  by_cases h1 : a < b <;> by_cases h2 : a = b <;> by_cases h3 : x < y <;> simp [h1, h2, h3]
theorem cmpS_eq (a b : ByteArray) : cmpS a b = if a.toList < b.toList then -1 else if a.toList = b.toList then 0 else 1 := by
 unfold cmpS
 rw [bl_eq]
 by_cases h : a.toList < b.toList
 ·simp [h]
 ·by_cases e : a.toList = b.toList
  ·simp [e]
  ·have e2 : (a.toList == b.toList) = false := beq_eq_false_iff_ne.2 e
   rw [decide_eq_false h, e2, if_neg h, if_neg e]
   rfl
theorem ord_str : Ord3 cmpS := by
 have tri : ∀ a b : List UInt8, ¬ a < b → a ≠ b → b < a := fun a b h n => by
  rcases List.le_total a b with k | k
  ·exact absurd (List.le_antisymm k (List.not_lt.1 h)) n
  ·rcases List.le_iff_lt_or_eq.1 k with k | k
   ·exact k
   ·exact absurd k.symm n
 have irr : ∀ a : List UInt8, ¬ a < a := fun a => List.lt_irrefl a
 have asy : ∀ a b : List UInt8, a < b → ¬ b < a := fun a b h k => List.lt_irrefl a (List.lt_trans h k)
 refine ⟨fun x => ?_, fun x y e => ?_, fun x y e => ?_, fun x y z e1 e2 => ?_⟩
 ·rw [cmpS_eq, if_neg (irr _), if_pos rfl]
 ·rw [cmpS_eq] at e ⊢
  have h : x.toList < y.toList := by
   split at e
   ·assumption
   ·split at e <;> omega
  rw [if_neg (asy _ _ h), if_neg (fun k => irr _ (by rw [k] at h; exact h))]
  omega
 ·rw [cmpS_eq] at e ⊢
  have h : y.toList < x.toList := by
   split at e
   ·omega
   ·split at e
    ·omega
    ·exact tri _ _ (by assumption) (by assumption)
  rw [if_pos h]
  omega
 ·rw [cmpS_eq] at e1 e2 ⊢
  have le : ∀ a b : ByteArray, (if a.toList < b.toList then (-1 : Int) else if a.toList = b.toList then 0 else 1) ≤ 0 → a.toList < b.toList ∨ a.toList = b.toList := fun a b e => by
   split at e
   ·exact .inl (by assumption)
   ·split at e
    ·exact .inr (by assumption)
    ·omega
  have : x.toList < z.toList ∨ x.toList = z.toList := by
   rcases le _ _ e1 with h1 | h1
   ·rcases le _ _ e2 with h2 | h2
    ·exact .inl (List.lt_trans h1 h2)
    ·exact .inl (by rw [← h2]; exact h1)
   ·rcases le _ _ e2 with h2 | h2
    ·exact .inl (by rw [h1]; exact h2)
    ·exact .inr (h1.trans h2)
  rcases this with h | h
  ·rw [if_pos h]
   omega
  ·rw [if_neg (by rw [h]; exact irr _), if_pos h]
   omega
theorem ord_val : Ord3 ordV := (ord_int.on T_impl_Value.fKind).lex ((ord_int.on T_impl_Value.fN).lex (ord_str.on T_impl_Value.fS))
end Go.D
set_option linter.unusedVariables false
namespace Go.D
end Go.D
set_option linter.unusedVariables false
namespace Go.D
theorem v1 {rs : List Int} {st : List T_impl_Value} {b : Int} {r : List Int} (h : rs.length = st.length) (hr : rs = b :: r) : ∃ y t, st = y :: t ∧ r.length = t.length := by
 subst hr
 match st, h with
 | y :: t, h => exact ⟨y, t, rfl, by simpa using h⟩
section
variable {α : Type} {xs : List α} (h : xs.length ≤ 2097152)
include h
end
end Go.D
set_option linter.unusedVariables false
namespace Go.D
section
end
end Go.D
set_option linter.unusedVariables false
namespace Go.D
theorem toList_loop (s : ByteArray) : ∀ (k i : Nat) (r : List UInt8), i + k = s.size → ByteArray.toList.loop s i r = r.reverse ++ s.data.toList.drop i
 | 0, i, r, h => by
  rw [ByteArray.toList.loop, if_neg (by omega), List.drop_of_length_le (by rw [Array.length_toList]; show s.size ≤ i; omega), List.append_nil]
 | k + 1, i, r, h => by
  have hi : i < s.data.toList.length := by rw [Array.length_toList]; show i < s.size; omega
  rw [ByteArray.toList.loop, if_pos (by omega), toList_loop s k (i + 1) _ (by omega), List.drop_eq_getElem_cons hi, List.reverse_cons, List.append_assoc]
  congr 1
  rw [List.singleton_append]
  congr 1
  show s.data[i]! = _
  rw [getElem!_pos s.data i (by rw [Array.length_toList] at hi; exact hi)]
  simp
theorem bytes_toList (s : ByteArray) : s.toList = s.data.toList := by
 unfold ByteArray.toList
 rw [toList_loop s s.size 0 [] (by omega)]
 simp
end Go.D
set_option linter.unusedVariables false
namespace Go.D
def ordR : List T_impl_Value → List T_impl_Value → Int
 | [], [] => 0
 | [], _ :: _ => -1
 | _ :: _, [] => 1
 | x :: xs, y :: ys => if ordV x y ≠ 0 then ordV x y else ordR xs ys
theorem ordV_0 {a b : T_impl_Value} : ordV a b = 0 ↔ a = b := by
 constructor
 ·intro h
  have e1 : ∀ x y : Int, cmpI x y = 0 → x = y := fun x y h => by
   unfold cmpI at h
   split at h
   ·omega
   ·split at h <;> omega
  unfold ordV at h
  split at h
  ·next hne => exact absurd h hne
  ·next h1 =>
   have k1 := e1 _ _ (Decidable.not_not.1 h1)
   split at h
   ·next hne => exact absurd h hne
   ·next h2 =>
    have k2 := e1 _ _ (Decidable.not_not.1 h2)
    rw [cmpS_eq] at h
    have k3 : a.fS.toList = b.fS.toList := by
     split at h
     ·omega
     ·split at h
      ·assumption
      ·omega
    rw [bytes_toList, bytes_toList] at k3
    cases a with | mk k n s => cases b with | mk k' n' s' =>
    simp only at k1 k2 k3
    subst k1 k2
    congr 1
    cases s with | mk s => cases s' with | mk s' =>
    simp only at k3
    exact congrArg ByteArray.mk (Array.toList_inj.1 k3)
 ·rintro rfl
  exact ord_val.refl _
theorem ord_row : Ord3 ordR := by
 have hr : ∀ x, ordR x x = 0 := by
  intro x
  induction x with
  | nil => rfl
  | cons a x ih => simp only [ordR, ord_val.refl, ne_eq, not_true_eq_false, if_false, ih]
 have hlt : ∀ x y, (ordR x y < 0 → 0 < ordR y x) ∧ (0 < ordR x y → ordR y x < 0) := by
  intro x
  induction x with
  | nil =>
   intro y
   cases y <;> simp [ordR]
  | cons a x ih =>
   intro y
   cases y with
   | nil => simp [ordR]
   | cons b y =>
    simp only [ordR]
    by_cases h : ordV a b = 0
    ·have h' := ord_val.eq h
     rw [if_neg (by simp [h]), if_neg (by simp [h'])]
     exact ih y
    ·have h' : ordV b a ≠ 0 := fun e => h (ord_val.eq e)
     rw [if_pos h, if_pos h']
     exact ⟨ord_val.lt a b, ord_val.gt a b⟩
 refine ⟨hr, fun x y => (hlt x y).1, fun x y => (hlt x y).2, ?_⟩
 intro x
 induction x with
 | nil =>
  intro y z h1 h2
  cases z with
  | nil => simp [ordR]
  | cons c z => simp [ordR]
 | cons a x ih =>
  intro y z h1 h2
  cases y with
  | nil => simp [ordR] at h1
  | cons b y =>
   cases z with
   | nil => simp [ordR] at h2
   | cons c z =>
    simp only [ordR] at h1 h2 ⊢
    by_cases k1 : ordV a b = 0
    ·have e := ordV_0.1 k1
     subst e
     rw [if_neg (by simp [k1])] at h1
     by_cases k2 : ordV a c = 0
     ·rw [if_neg (by simp [k2])] at h2 ⊢
      exact ih _ _ h1 h2
     ·rw [if_pos k2] at h2 ⊢
      exact h2
    ·rw [if_pos k1] at h1
     by_cases k2 : ordV b c = 0
     ·have e := ordV_0.1 k2
      subst e
      rw [if_pos k1]
      exact h1
     ·rw [if_pos k2] at h2
      have h3 := ord_val.le _ _ _ h1 h2
      by_cases k3 : ordV a c = 0
      ·have e := ordV_0.1 k3
       subst e
       have := ord_val.lt a b (by omega)
       omega
      ·rw [if_pos k3]
       exact h3
theorem ordR_0 : ∀ {a b : List T_impl_Value}, ordR a b = 0 ↔ a = b
 | [], [] => by simp [ordR]
 | [], _ :: _ => by simp [ordR]
 | _ :: _, [] => by simp [ordR]
 | x :: xs, y :: ys => by
  simp only [ordR]
  by_cases h : ordV x y = 0
  ·rw [if_neg (by simp [h]), ordR_0, ordV_0.1 h]
   simp
  ·rw [if_pos h]
   constructor
   ·intro e
    exact absurd e h
   ·intro e
    injection e with e1 e2
    exact absurd (ordV_0.2 e1) h
theorem cmpF_l0 (a b : List T_impl_Value) (ha : a.length ≤ 4194304) : ∀ (k i f : Nat), i + k = a.length → k < f → slices_CompareFunc_impl_Value_impl_Value_impl_Value_impl_Value_s2_l0 a b impl_Value_order f (i : Int) = some (ordR (a.drop i) (b.drop i))
 | 0, i, f + 1, hi, _ => by
  have hd : a.drop i = [] := List.drop_of_length_le (by omega)
  have h0 : ¬ (i : Int) < (a.length : Int) := by omega
  unfold slices_CompareFunc_impl_Value_impl_Value_impl_Value_impl_Value_s2_l0
  rw [decide_eq_false h0, cond_false, hd]
  by_cases hb : a.length < b.length
  ·have : (a.length : Int) < (b.length : Int) := by omega
   rw [decide_eq_true this, cond_true]
   cases hbd : b.drop i with
   | nil =>
    have := congrArg List.length hbd
    simp at this
    omega
   | cons y ys => rfl
  ·have : ¬ (a.length : Int) < (b.length : Int) := by omega
   rw [decide_eq_false this, cond_false, List.drop_of_length_le (by omega : b.length ≤ i)]
   rfl
 | k + 1, i, f + 1, hi, hf => by
  have hlt : i < a.length := by omega
  have h0 : (i : Int) < (a.length : Int) := by omega
  unfold slices_CompareFunc_impl_Value_impl_Value_impl_Value_impl_Value_s2_l0
  rw [decide_eq_true h0, cond_true, getI_nat, List.getElem?_eq_getElem hlt, Option.bind_some, List.drop_eq_getElem_cons hlt]
  by_cases hb : i < b.length
  ·have : ¬ (i : Int) ≥ (b.length : Int) := by omega
   rw [decide_eq_false this, cond_false, getI_nat, List.getElem?_eq_getElem hb, Option.bind_some, impl_ord, Option.bind_some, List.drop_eq_getElem_cons hb, succ_w hlt (by omega), cmpF_l0 a b ha k (i + 1) f (by omega) (by omega)]
   simp only [ordR]
   by_cases h : ordV a[i] b[i] = 0
   ·rw [h]
    simp
   ·have : (ordV a[i] b[i] == 0) = false := by simp [h]
    rw [this, if_pos h]
    rfl
  ·have : (i : Int) ≥ (b.length : Int) := by omega
   rw [decide_eq_true this, cond_true, List.drop_of_length_le (by omega : b.length ≤ i)]
   rfl
theorem cmpOr2 (a b : Int) : cmp_Or_int [a, b] = some (if a ≠ 0 then a else b) := by
 obtain ⟨F, hF⟩ : ∃ F, FUEL = F + 1 + 1 + 1 := ⟨FUEL - 3, by decide⟩
 unfold cmp_Or_int
 rw [hF]
 have e1 : w64 ((0 : Int) + 1) = 1 := by decide
 have e2 : w64 ((1 : Int) + 1) = 2 := by decide
 have g0 : getI [a, b] 0 = some a := rfl
 have g1 : getI [a, b] 1 = some b := rfl
 simp only [cmp_Or_int_l0, List.length_cons, List.length_nil, g0, g1, Option.bind_some, e1, e2]
 by_cases ha : a = 0
 ·subst ha
  by_cases hb : b = 0
  ·subst hb
   rfl
  ·have hb' : (b == 0) = false := by simp [hb]
   simp [hb']
 ·have ha' : (a == 0) = false := by simp [ha]
  simp [ha, ha']
theorem impl_ordR {a b : List T_impl_Value} (ha : Sm a.length) : impl_rowOrder a b = some (ordR a b) := by
 unfold impl_rowOrder slices_CompareFunc_impl_Value_impl_Value_impl_Value_impl_Value_s2
 have h := cmpF_l0 a b (by omega) a.length 0 FUEL (by omega) (Nat.lt_of_le_of_lt ha (by decide))
 rw [show ((0 : Nat) : Int) = 0 from rfl] at h
 rw [h, Option.bind_some, impl_cmpI, Option.bind_some, cmpOr2, List.drop_zero, List.drop_zero, Option.bind_some]
 by_cases e : ordR a b = 0
 ·rw [if_neg (by simp [e]), ordR_0.1 e, cmpI_eq, ord_row.refl]
 ·rw [if_pos e]
theorem l1Less_eq (a b : Int) : spec_l1Less a b = some (if a < b then 1 else 0) := by
 unfold spec_l1Less
 by_cases h : a < b
 ·rw [decide_eq_true h, if_pos h]; rfl
 ·rw [decide_eq_false h, if_neg h]; rfl
theorem spec_ordR_l (a b : List T_impl_Value) (ha : SmR a) (hb : SmR b) (va : ∀ v ∈ a, valOk v = true) (vb : ∀ v ∈ b, valOk v = true) : ∀ (k i f : Nat), i + k = a.length → i ≤ b.length → k < f → spec_RowOrder_l1 a b f (i : Int) = some (ordR (a.drop i) (b.drop i))
 | 0, i, f + 1, hi, hib, _ => by
  have hd : a.drop i = [] := List.drop_of_length_le (by omega)
  have h0 : ¬ (i : Int) < (a.length : Int) := by omega
  unfold spec_RowOrder_l1
  rw [decide_eq_false h0, cond_false, hd]
  simp only [spec_RowOrder_j2, cond_false, l1Less_eq, Option.bind_some]
  by_cases hb' : a.length < b.length
  ·have h1 : ¬ (b.length : Int) < (a.length : Int) := by omega
   have h2 : (a.length : Int) < (b.length : Int) := by omega
   rw [if_neg h1, if_pos h2]
   cases hbd : b.drop i with
   | nil =>
    have := congrArg List.length hbd
    simp at this
    omega
   | cons y ys => rfl
  ·have h2 : ¬ (a.length : Int) < (b.length : Int) := by omega
   rw [List.drop_of_length_le (by omega : b.length ≤ i), if_neg h2]
   by_cases h1 : (b.length : Int) < (a.length : Int)
   ·omega
   ·rw [if_neg h1]
    rfl
 | k + 1, i, f + 1, hi, hib, hf => by
  have hlt : i < a.length := by omega
  have h0 : (i : Int) < (a.length : Int) := by omega
  unfold spec_RowOrder_l1
  rw [decide_eq_true h0, cond_true, List.drop_eq_getElem_cons hlt]
  by_cases hb' : i < b.length
  ·have : (i : Int) < (b.length : Int) := by omega
   rw [decide_eq_true this, List.drop_eq_getElem_cons hb']
   simp only [spec_RowOrder_j2, cond_true]
   rw [getI_nat, List.getElem?_eq_getElem hlt, Option.bind_some, getI_nat, List.getElem?_eq_getElem hb', Option.bind_some, spec_ord (ha.2 _ (List.getElem_mem hlt)) (hb.2 _ (List.getElem_mem hb')) (va _ (List.getElem_mem hlt)) (vb _ (List.getElem_mem hb')), Option.bind_some,
    succ_w hlt (by have := ha.1; omega), spec_ordR_l a b ha hb va vb k (i + 1) f (by omega) (by omega) (by omega)]
   simp only [ordR]
   by_cases h : ordV a[i] b[i] = 0
   ·rw [h]
    simp
   ·have : (ordV a[i] b[i] == 0) = false := by simp [h]
    rw [this, if_pos h]
    rfl
  ·have : ¬ (i : Int) < (b.length : Int) := by omega
   have h1 : (b.length : Int) < (a.length : Int) := by omega
   have h2 : ¬ (a.length : Int) < (b.length : Int) := by omega
   rw [decide_eq_false this, List.drop_of_length_le (by omega : b.length ≤ i)]
   simp only [spec_RowOrder_j2, cond_false, l1Less_eq, Option.bind_some]
   rw [if_pos h1, if_neg h2]
   rfl
theorem rowOk_vals {r : List T_impl_Value} (h : rowOk r = true) : ∀ v ∈ r, valOk v = true := by
 unfold rowOk at h
 simp only [Bool.and_eq_true, List.all_eq_true] at h
 exact h.1
def ordK (a b : List T_impl_Value) : Int := bif rowOk a && rowOk b then ordR a b else 0
theorem spec_ordK {a b : List T_impl_Value} (ha : SmR a) (hb : SmR b) : spec_RowOrder a b = some (ordK a b) := by
 unfold spec_RowOrder ordK
 rw [spec_rowOk ha, Option.bind_some]
 cases va : rowOk a with
 | false => rfl
 | true =>
  rw [Bool.not_true, cond_false, spec_rowOk hb, Option.bind_some]
  cases vb : rowOk b with
  | false => rfl
  | true =>
   have h := spec_ordR_l a b ha hb (rowOk_vals va) (rowOk_vals vb) a.length 0 FUEL (by omega) (by omega) (Nat.lt_of_le_of_lt ha.1 (by decide))
   rw [show ((0 : Nat) : Int) = 0 from rfl, List.drop_zero, List.drop_zero] at h
   exact h
theorem ordK_ok {a b : List T_impl_Value} (ha : rowOk a = true) (hb : rowOk b = true) : ordK a b = ordR a b := by
 unfold ordK
 rw [ha, hb]
 rfl
abbrev AscR (xs : List (List T_impl_Value)) : Prop := xs.Pairwise fun a b => ordR a b ≤ 0
theorem spec_ownR {a : List T_impl_Value} (ha : Sm a.length) : spec_l3Own a = some a := by
 unfold spec_l3Own
 rw [app_lt (by simp; omega)]
 rfl
theorem slI_front {α : Type} {xs : List α} {n : Nat} (h : n ≤ xs.length) : slI xs none (some (n : Int)) none = some (xs.take n) := by
 unfold slI
 simp only [Option.getD_none, Option.getD_some]
 rw [if_pos (by omega)]
 simp
theorem clone_v0 {a : List T_impl_Value} (ha : a.length ≤ 4194304) : impl_clone_impl_Value a = some a := by
 unfold impl_clone_impl_Value slices_Clip_impl_Value_impl_Value
 cases h : ((a.length : Int)) == 0
 ·rw [cond_false, app_lt (by simp; omega), Option.bind_some, List.nil_append, show slI a none (some (a.length : Int)) (some (a.length : Int)) = some a by simp [slI]]
  rfl
 ·have : a = [] := by
   have : (a.length : Int) = 0 := by simpa using h
   exact List.eq_nil_of_length_eq_zero (by omega)
  subst this
  rfl
end Go.D
namespace Go.D
theorem half_of {x : Int} (h0 : 0 ≤ x) (h1 : x < 4611686018427387904) : w64 (shrU (u64 x) 1) = x / 2 := by
 unfold shrU u64
 have e1 : Go.IntKind.wrap .u64 x = x := by
  simp [Go.IntKind.wrap, Go.IntKind.bits]
  omega
 rw [e1]
 have e2 : min (Int.toNat 1) (Go.IntKind.bits .u64) = 1 := by decide
 rw [e2]
 have : x.fdiv (2 ^ 1) = x / 2 := by
  rw [Int.fdiv_eq_ediv_of_nonneg]
  ·rfl
  ·decide
 rw [this, w64_of (by omega) (by omega)]
end Go.D
set_option linter.unusedVariables false
namespace Go.D
abbrev Tal := T_impl_Tally
theorem len_is (n k : Nat) : ((n : Int) == (k : Int)) = (n == k) := by
 rw [Bool.eq_iff_iff, beq_iff_eq, beq_iff_eq]
 omega
def talG (t : Tal) : Bool := t.fKey.length == 1 && (rowOk t.fKey && (inR t.fRows 1 100 && (inR t.fMany 0 t.fRows && inR t.fSum (w64 ((-9999) * t.fMany)) (w64 (9999 * t.fMany)))))
def prevOk (pr : Option (List T_impl_Value)) (k : List T_impl_Value) : Bool := match pr with
 | some p => !(decide (ordR p k ≥ 0))
 | none => true
def talsGo : Option (List T_impl_Value) → List Tal → Bool
 | _, [] => true
 | pr, t :: ts => talG t && (prevOk pr t.fKey && talsGo (some t.fKey) ts)
def talsOk (xs : List Tal) : Bool := talsGo none xs
def SmTl (xs : List Tal) : Prop := xs.length ≤ 2097152 ∧ ∀ t ∈ xs, SmR t.fKey
theorem ordR_ltt {a b c : List T_impl_Value} (h : ordR a b < 0) (k : ordR b c < 0) : ordR a c < 0 := by
 have h1 := ord_row.le a b c (by omega) (by omega)
 by_cases h0 : ordR a c = 0
 ·have e := ordR_0.1 h0
  subst e
  have := ord_row.lt _ _ h
  omega
 ·omega
theorem talsGo_iff : ∀ (ts : List Tal) (k : List T_impl_Value), talsGo (some k) ts = true ↔ (∀ t ∈ ts, talG t = true ∧ ordR k t.fKey < 0) ∧ ts.Pairwise fun a b => ordR a.fKey b.fKey < 0
 | [], k => by simp [talsGo]
 | t :: ts, k => by
  simp only [talsGo, prevOk, Bool.and_eq_true, talsGo_iff ts t.fKey, Bool.not_eq_true', decide_eq_false_iff_not, List.pairwise_cons, List.forall_mem_cons]
  constructor
  ·rintro ⟨h1, h2, h3, h4⟩
   exact ⟨⟨⟨h1, by omega⟩, fun u hu => ⟨(h3 u hu).1, ordR_ltt (by omega) (h3 u hu).2⟩⟩, fun u hu => (h3 u hu).2, h4⟩
  ·rintro ⟨⟨⟨h1, h2⟩, h3⟩, h4, h5⟩
   exact ⟨h1, by omega, fun u hu => ⟨(h3 u hu).1, h4 u hu⟩, h5⟩
theorem talsOk_iff (ts : List Tal) : talsOk ts = true ↔ (∀ t ∈ ts, talG t = true) ∧ ts.Pairwise fun a b => ordR a.fKey b.fKey < 0 := by
 cases ts with
 | nil => simp [talsOk, talsGo]
 | cons t ts =>
  simp only [talsOk, talsGo, prevOk, Bool.and_eq_true, talsGo_iff, List.forall_mem_cons, List.pairwise_cons, Bool.true_and, true_and]
  constructor
  ·rintro ⟨h1, h3, h4⟩
   exact ⟨⟨h1, fun u hu => (h3 u hu).1⟩, fun u hu => (h3 u hu).2, h4⟩
  ·rintro ⟨⟨h1, h3⟩, h4, h5⟩
   exact ⟨h1, fun u hu => ⟨h3 u hu, h4 u hu⟩, h5⟩
theorem talG_row {t : Tal} (h : talG t = true) : rowOk t.fKey = true ∧ t.fKey.length = 1 ∧ (1 ≤ t.fRows ∧ t.fRows ≤ 100) ∧ (0 ≤ t.fMany ∧ t.fMany ≤ t.fRows) ∧ -9999 * t.fMany ≤ t.fSum ∧ t.fSum ≤ 9999 * t.fMany := by
 unfold talG inR at h
 simp only [Bool.and_eq_true, decide_eq_true_eq, beq_iff_eq] at h
 obtain ⟨h1, h2, h3, h4, h5, h6⟩ := h
 rw [w64_of (by omega) (by omega)] at h5
 rw [w64_of (by omega) (by omega)] at h6
 exact ⟨h2, h1, h3, h4, h5, h6⟩
theorem impl_talG {t : Tal} (h : SmR t.fKey) : impl_Tally_ok t = some (talG t) := by
 unfold impl_Tally_ok talG
 rw [show ((t.fKey.length : Int) == 1) = (t.fKey.length == 1) from len_is _ 1]
 cases t.fKey.length == 1 with
 | false => rfl
 | true =>
  rw [cond_true, impl_rowOk h, Option.bind_some]
  cases rowOk t.fKey with
  | false => rfl
  | true =>
   rw [cond_true, impl_in, Option.bind_some]
   cases inR t.fRows 1 100 with
   | false => rfl
   | true =>
    rw [cond_true, impl_in, Option.bind_some]
    cases inR t.fMany 0 t.fRows with
    | false => rfl
    | true => rw [cond_true, impl_in]; rfl
theorem prev_inv {xs : List Tal} {i : Nat} {s : Option (List T_impl_Value)} (hI : s = (if i = 0 then none else (xs[i - 1]?).map (·.fKey))) {v : Tal} (hv : xs[i]? = some v) : some v.fKey = (if i + 1 = 0 then none else (xs[i + 1 - 1]?).map (·.fKey)) := by
 rw [if_neg (by omega), Nat.add_sub_cancel, hv]
 rfl
theorem impl_talsOk {xs : List Tal} (h : SmTl xs) : impl_TalliesOk xs = some (talsOk xs) := by
 have hl := h.1
 unfold impl_TalliesOk
 have := loop_opt (xs := xs) (L := fun f i (_ : Option (List T_impl_Value)) => impl_TalliesOk_l0 xs f i) (fun rest s => some (talsGo s rest)) (fun i s => s = (if i = 0 then none else (xs[i - 1]?).map (·.fKey))) (by omega)
  (fun f i s v hi hv hw hI => by
   have hr := h.2 v (List.mem_of_getElem? hv)
   have st : impl_TalliesOk_l0 xs (f + 1) i = bif talG v && prevOk s v.fKey then impl_TalliesOk_l0 xs f ((i + 1 : Nat) : Int) else some false := by
    rw [impl_TalliesOk_l0, decide_eq_true (by omega), cond_true, getI_nat, hv, Option.bind_some, impl_talG hr, Option.bind_some]
    cases hg : talG v with
    | false => rfl
    | true =>
     rw [Bool.not_true, cond_false, Bool.true_and]
     by_cases h0 : i = 0
     ·rw [if_pos h0] at hI
      subst hI
      rw [decide_eq_false (by omega), cond_false, impl_TalliesOk_j1, cond_false, hw]
      rfl
     ·rw [if_neg h0, List.getElem?_eq_getElem (show i - 1 < xs.length by omega)] at hI
      subst hI
      have hw1 : w64 ((i : Int) - 1) = ((i - 1 : Nat) : Int) := by rw [w64_of] <;> omega
      rw [decide_eq_true (by omega), cond_true, hw1, getI_nat, List.getElem?_eq_getElem (show i - 1 < xs.length by omega), Option.bind_some, impl_ordR (h.2 _ (List.getElem_mem _)).1, Option.bind_some, impl_TalliesOk_j1, hw]
      simp only [Option.map_some, prevOk]
      cases decide (ordR (xs[i - 1]'(by omega)).fKey v.fKey ≥ 0) <;> rfl
   cases hc : talG v && prevOk s v.fKey with
   | false =>
    refine .inl ?_
    rw [st, hc]
    simp only [talsGo]
    rw [← Bool.and_assoc, hc]
    rfl
   | true =>
    refine .inr ⟨some v.fKey, prev_inv hI hv, by rw [st, hc]; rfl, ?_⟩
    simp only [talsGo]
    rw [← Bool.and_assoc, hc, Bool.true_and])
  (fun f s hI => by
   rw [impl_TalliesOk_l0, decide_eq_false (Int.lt_irrefl _), cond_false]
   rfl) (s := none) rfl
 exact this
theorem spec_talsOk {xs : List Tal} (h : SmTl xs) : spec_TalliesOk xs = some (talsOk xs) := by
 have hl := h.1
 unfold spec_TalliesOk
 have := loop_opt (xs := xs) (L := fun f i (_ : Option (List T_impl_Value)) => spec_TalliesOk_l0 xs f i) (fun rest s => some (talsGo s rest)) (fun i s => s = (if i = 0 then none else (xs[i - 1]?).map (·.fKey)) ∧ ∀ k, s = some k → rowOk k = true) (by omega)
  (fun f i s v hi hv hw hI => by
   obtain ⟨hI, hk⟩ := hI
   have hr := h.2 v (List.mem_of_getElem? hv)
   have st : spec_TalliesOk_l0 xs (f + 1) i = bif talG v && prevOk s v.fKey then spec_TalliesOk_l0 xs f ((i + 1 : Nat) : Int) else some false := by
    rw [spec_TalliesOk_l0, decide_eq_true (by omega), cond_true, getI_nat, hv, Option.bind_some, spec_rowOk hr, Option.bind_some, show ((v.fKey.length : Int) == 1) = (v.fKey.length == 1) from len_is _ 1]
    unfold talG
    cases hro : rowOk v.fKey with
    | false => cases v.fKey.length == 1 <;> rfl
    | true =>
     cases v.fKey.length == 1 with
     | false => rfl
     | true =>
      rw [Bool.not_true, cond_false, cond_false, spec_in, Option.bind_some]
      cases inR v.fRows 1 100 with
      | false => rfl
      | true =>
       rw [Bool.not_true, cond_false, spec_in, Option.bind_some]
       cases inR v.fMany 0 v.fRows with
       | false => rfl
       | true =>
        rw [Bool.not_true, cond_false, spec_in, Option.bind_some]
        cases inR v.fSum (w64 ((-9999) * v.fMany)) (w64 (9999 * v.fMany)) with
        | false => rfl
        | true =>
         rw [Bool.not_true, cond_false]
         simp only [Bool.and_self, Bool.true_and]
         by_cases h0 : i = 0
         ·rw [if_pos h0] at hI
          subst hI
          rw [decide_eq_false (by omega), cond_false, spec_TalliesOk_j1, cond_false, hw]
          rfl
         ·rw [if_neg h0, List.getElem?_eq_getElem (show i - 1 < xs.length by omega)] at hI
          subst hI
          have hw1 : w64 ((i : Int) - 1) = ((i - 1 : Nat) : Int) := by rw [w64_of] <;> omega
          rw [decide_eq_true (by omega), cond_true, hw1, getI_nat, List.getElem?_eq_getElem (show i - 1 < xs.length by omega), Option.bind_some, spec_ordK (h.2 _ (List.getElem_mem _)) hr, Option.bind_some, spec_TalliesOk_j1, hw, ordK_ok (hk _ rfl) hro]
          simp only [Option.map_some, prevOk]
          cases decide (ordR (xs[i - 1]'(by omega)).fKey v.fKey ≥ 0) <;> rfl
   cases hc : talG v && prevOk s v.fKey with
   | false =>
    refine .inl ?_
    rw [st, hc]
    simp only [talsGo]
    rw [← Bool.and_assoc, hc]
    rfl
   | true =>
    refine .inr ⟨some v.fKey, ⟨prev_inv hI hv, fun k e => ?_⟩, by rw [st, hc]; rfl, ?_⟩
    ·cases e
     simp only [Bool.and_eq_true] at hc
     exact (talG_row hc.1).1
    ·simp only [talsGo]
     rw [← Bool.and_assoc, hc, Bool.true_and])
  (fun f s hI => by
   rw [spec_TalliesOk_l0, decide_eq_false (Int.lt_irrefl _), cond_false]
   rfl) (s := none) ⟨rfl, fun k e => by cases e⟩
 exact this
def addT (x t : Tal) : Tal := ⟨x.fKey, w64 (x.fRows + t.fRows), w64 (x.fMany + t.fMany), w64 (x.fSum + t.fSum)⟩
def zeroT (x : Tal) : Bool := x.fRows == 0 && (x.fMany == 0 && x.fSum == 0)
def turnV (t : Tal) : List Tal → List Tal
 | [] => [t]
 | x :: xs => bif decide (ordR x.fKey t.fKey < 0) then x :: turnV t xs else bif ordR x.fKey t.fKey == 0 then (bif zeroT (addT x t) then xs else addT x t :: xs) else t :: x :: xs
theorem turnV_len (t : Tal) : ∀ xs, (turnV t xs).length ≤ xs.length + 1
 | [] => by simp [turnV]
 | x :: xs => by
  have := turnV_len t xs
  unfold turnV
  cases decide (ordR x.fKey t.fKey < 0) <;> cases ordR x.fKey t.fKey == 0 <;> cases zeroT (addT x t) <;> simp <;> omega
theorem turnV_mem {t : Tal} {p : List T_impl_Value → Prop} (ht : p t.fKey) : ∀ {xs : List Tal}, (∀ x ∈ xs, p x.fKey) → ∀ x ∈ turnV t xs, p x.fKey
 | [], h, x, hx => by
  have : x = t := by simpa [turnV] using hx
  rw [this]; exact ht
 | y :: xs, h, x, hx => by
  have ih := turnV_mem (xs := xs) ht fun z hz => h z (by simp [hz])
  have hy := h y (by simp)
  have hxs := fun z (hz : z ∈ xs) => h z (by simp [hz])
  unfold turnV at hx
  have ha : (addT y t).fKey = y.fKey := rfl
  cases h1 : decide (ordR y.fKey t.fKey < 0) with
  | true =>
   rw [h1, cond_true] at hx
   rcases List.mem_cons.1 hx with rfl | hx
   ·exact hy
   ·exact ih x hx
  | false =>
   rw [h1, cond_false] at hx
   cases h2 : ordR y.fKey t.fKey == 0 with
   | true =>
    rw [h2, cond_true] at hx
    cases h3 : zeroT (addT y t) with
    | true => rw [h3, cond_true] at hx; exact hxs x hx
    | false =>
     rw [h3, cond_false] at hx
     rcases List.mem_cons.1 hx with rfl | hx
     ·exact hy
     ·exact hxs x hx
   | false =>
    rw [h2, cond_false] at hx
    rcases List.mem_cons.1 hx with rfl | hx
    ·exact ht
    ·exact h x hx
theorem turnV_low {t : Tal} : ∀ {lo hi : List Tal}, (∀ x ∈ lo, ordR x.fKey t.fKey < 0) → turnV t (lo ++ hi) = lo ++ turnV t hi
 | [], hi, _ => rfl
 | x :: lo, hi, h => by
  rw [List.cons_append, turnV, decide_eq_true (h x (by simp)), cond_true, turnV_low fun y hy => h y (by simp [hy])]
  rfl
def tOf (r : List T_impl_Value) (n : Int) : Tal := match r with
 | [a, b] => ⟨[a], n, bif b.fKind == 1 then n else 0, bif b.fKind == 1 then w64 (n * b.fN) else 0⟩
 | _ => ⟨[], 0, 0, 0⟩
def cntG (r : List T_impl_Value) : Bool := r.length == 2 && (rowOk r && (match r[1]? with | some b => b.fKind == 1 || b.fKind == 0 | none => false))
theorem cntG_two {r : List T_impl_Value} (h : cntG r = true) : ∃ a b, r = [a, b] ∧ rowOk r = true ∧ valOk a = true ∧ valOk b = true := by
 unfold cntG at h
 simp only [Bool.and_eq_true, beq_iff_eq] at h
 obtain ⟨h1, h2, h3⟩ := h
 match r, h1 with
 | [a, b], _ => exact ⟨a, b, rfl, h2, rowOk_vals h2 a (by simp), rowOk_vals h2 b (by simp)⟩
theorem impl_cntG {r : List T_impl_Value} (h : SmR r) : impl_counted r = some (cntG r) := by
 unfold impl_counted cntG
 rw [show ((r.length : Int) == 2) = (r.length == 2) from len_is _ 2]
 cases hl : r.length == 2 with
 | false => rfl
 | true =>
  rw [cond_true, impl_rowOk h, Option.bind_some]
  cases rowOk r with
  | false => rfl
  | true =>
   have hl' : r.length = 2 := by simpa using hl
   have e : getI r 1 = r[1]? := getI_nat (i := 1)
   rw [cond_true, e, List.getElem?_eq_getElem (show 1 < r.length by omega), Option.bind_some, Option.bind_some]
   simp only [Bool.true_and]
   cases r[1].fKind == 1 <;> rfl
theorem spec_cntG {r : List T_impl_Value} (h : SmR r) : spec_l32Row r = some (cntG r) := by
 unfold spec_l32Row cntG
 rw [spec_rowOk h, Option.bind_some, show ((r.length : Int) == 2) = (r.length == 2) from len_is _ 2]
 cases rowOk r with
 | false => cases r.length == 2 <;> rfl
 | true =>
  rw [cond_true]
  cases hl : r.length == 2 with
  | false => rfl
  | true =>
   have hl' : r.length = 2 := by simpa using hl
   have e : getI r 1 = r[1]? := getI_nat (i := 1)
   rw [cond_true, e, List.getElem?_eq_getElem (show 1 < r.length by omega), Option.bind_some, Option.bind_some]
   simp only [Bool.true_and]
   cases r[1].fKind == 1 <;> rfl
theorem rowOk_one {a : T_impl_Value} (h : valOk a = true) : rowOk [a] = true := by
 unfold rowOk
 simp [h]
theorem smR_one {a b : T_impl_Value} (h : SmR [a, b]) : SmR [a] := ⟨by simp, fun v hv => h.2 v (by simp at hv ⊢; exact .inl hv)⟩
theorem spec_turn {xs : List Tal} (hs : SmTl xs) (hk : ∀ x ∈ xs, rowOk x.fKey = true) (hp : xs.Pairwise fun a b => ordR a.fKey b.fKey < 0) (hz : ∀ x ∈ xs, zeroT x = false) {r : List T_impl_Value} (hr : SmR r) (hc : cntG r = true) (n : Int) :
  ∃ a b, getI r 0 = some a ∧ getI r 1 = some b ∧ spec_l32Turn xs a b n = some (turnV (tOf r n) xs) := by
 obtain ⟨a, b, rfl, h1, h2, h3⟩ := cntG_two hc
 refine ⟨a, b, rfl, rfl, ?_⟩
 have hka := rowOk_one h2
 have hsa := smR_one hr
 have hl := hs.1
 have main : ∀ t : Tal, t.fKey = [a] → spec_l32Turn_j0 xs t = some (turnV t xs) := fun t ht => by
  unfold spec_l32Turn_j0
  have hidx := List.pairwise_iff_getElem.1 hp
  have := loop_opt (xs := xs) (L := fun f i (s : Bool × List Tal) => spec_l32Turn_l1 xs t f s.1 i s.2) (fun rest s => some (s.2 ++ bif s.1 then rest else turnV t rest))
   (fun i s => s.2.length ≤ 2 * i ∧ (s.1 = true → ∀ j (hj : j < xs.length), i ≤ j → ordR xs[j].fKey t.fKey > 0)) (by omega)
   (fun f i s v hi hv hw hI => by
    obtain ⟨d, out⟩ := s
    obtain ⟨i1, i2⟩ := hI
    simp only at i1 i2
    have hm := List.mem_of_getElem? hv
    have ev : xs[i] = v := by
     rw [List.getElem?_eq_getElem hi] at hv
     exact Option.some.inj hv
    have ho : spec_RowOrder v.fKey t.fKey = some (ordR v.fKey t.fKey) := by rw [spec_ordK (hs.2 v hm) (by rw [ht]; exact hsa), ordK_ok (hk v hm) (by rw [ht]; exact hka)]
    have nz : ∀ (K : Bool → Int → List Tal → Option (List Tal)) (out : List Tal) (d : Bool), out.length ≤ 4194304 → spec_l32Turn_j4 (i : Int) K out d v = K d ((i + 1 : Nat) : Int) (out ++ [v]) := fun K out d hol => by
     have hzv := hz v hm
     unfold zeroT at hzv
     unfold spec_l32Turn_j4 spec_l32Turn_j5 spec_l32Turn_j2
     rw [hw]
     cases h4 : v.fRows == 0 <;> cases h5 : v.fMany == 0 <;> cases h6 : v.fSum == 0 <;> simp_all [app_lt] <;> rw [app_lt (by simp; omega)] <;> rfl
    by_cases hlt : ordR v.fKey t.fKey < 0
    ·have hd : d = false := by
      cases d with
      | false => rfl
      | true =>
       have := i2 rfl i hi (Nat.le_refl _)
       rw [ev] at this
       omega
     subst hd
     have e0 : (ordR v.fKey t.fKey == 0) = false := beq_eq_false_iff_ne.2 (by omega)
     refine .inr ⟨(false, out ++ [v]), ⟨by simp; omega, fun h => by cases h⟩, ?_, ?_⟩
     ·simp only
      rw [spec_l32Turn_l1, decide_eq_true (by omega), cond_true, getI_nat, hv, Option.bind_some, ho, Option.bind_some, decide_eq_false (by omega), cond_false, spec_l32Turn_j6, cond_false, spec_l32Turn_j3, e0, cond_false, nz _ _ _ (by omega)]
     ·simp only [cond_false, turnV, decide_eq_true hlt, cond_true, List.append_assoc, List.singleton_append]
    ·by_cases heq : ordR v.fKey t.fKey = 0
     ·have hd : d = false := by
       cases d with
       | false => rfl
       | true =>
        have := i2 rfl i hi (Nat.le_refl _)
        rw [ev] at this
        omega
      subst hd
      have ek := ordR_0.1 heq
      have e0 : (ordR v.fKey t.fKey == 0) = true := beq_iff_eq.2 heq
      have rest : ∀ j (hj : j < xs.length), i + 1 ≤ j → ordR xs[j].fKey t.fKey > 0 := fun j hj hij => by
       have := hidx i j hi hj (by omega)
       rw [ev, ek] at this
       exact ord_row.lt _ _ this
      have st : spec_l32Turn_l1 xs t (f + 1) false i out = bif zeroT (addT v t) then spec_l32Turn_l1 xs t f true ((i + 1 : Nat) : Int) out else spec_l32Turn_l1 xs t f true ((i + 1 : Nat) : Int) (out ++ [addT v t]) := by
       rw [spec_l32Turn_l1, decide_eq_true (by omega), cond_true, getI_nat, hv, Option.bind_some, ho, Option.bind_some, decide_eq_false (by omega), cond_false, spec_l32Turn_j6, cond_false, spec_l32Turn_j3, e0, cond_true]
       show spec_l32Turn_j4 (i : Int) _ out true (addT v t) = _
       unfold spec_l32Turn_j4 spec_l32Turn_j5 spec_l32Turn_j2 zeroT
       rw [hw]
       cases h4 : (addT v t).fRows == 0 <;> cases h5 : (addT v t).fMany == 0 <;> cases h6 : (addT v t).fSum == 0 <;> simp [app_lt] <;> rw [app_lt (by simp; omega)] <;> rfl
      cases hq : zeroT (addT v t) with
      | true =>
       refine .inr ⟨(true, out), ⟨by simp only; omega, fun _ j hj hij => rest j hj hij⟩, ?_, ?_⟩
       ·simp only
        rw [st, hq, cond_true]
       ·simp only [cond_false, cond_true, turnV, decide_eq_false hlt, e0, hq]
      | false =>
       refine .inr ⟨(true, out ++ [addT v t]), ⟨by simp; omega, fun _ j hj hij => rest j hj hij⟩, ?_, ?_⟩
       ·simp only
        rw [st, hq, cond_false]
       ·simp only [cond_false, cond_true, turnV, decide_eq_false hlt, e0, hq, List.append_assoc, List.singleton_append]
     ·have hgt : ordR v.fKey t.fKey > 0 := by omega
      have e0 : (ordR v.fKey t.fKey == 0) = false := beq_eq_false_iff_ne.2 heq
      have rest : ∀ j (hj : j < xs.length), i + 1 ≤ j → ordR xs[j].fKey t.fKey > 0 := fun j hj hij => by
       have h1 := hidx i j hi hj (by omega)
       rw [ev] at h1
       have h2 := ord_row.gt _ _ hgt
       exact ord_row.lt _ _ (ordR_ltt h2 h1)
      cases d with
      | true =>
       refine .inr ⟨(true, out ++ [v]), ⟨by simp; omega, fun _ j hj hij => rest j hj hij⟩, ?_, by simp⟩
       simp only
       rw [spec_l32Turn_l1, decide_eq_true (by omega), cond_true, getI_nat, hv, Option.bind_some, ho, Option.bind_some, decide_eq_true hgt, cond_true, spec_l32Turn_j6, Bool.not_true, cond_false, spec_l32Turn_j3, e0, cond_false, nz _ _ _ (by omega)]
      | false =>
       refine .inr ⟨(true, out ++ [t] ++ [v]), ⟨?_, fun _ j hj hij => rest j hj hij⟩, ?_, ?_⟩
       ·simp only [List.length_append, List.length_cons, List.length_nil]; omega
       ·simp only
        rw [spec_l32Turn_l1, decide_eq_true (by omega), cond_true, getI_nat, hv, Option.bind_some, ho, Option.bind_some, decide_eq_true hgt, cond_true, spec_l32Turn_j6, Bool.not_false, cond_true, app_lt (by simp; omega), Option.bind_some, spec_l32Turn_j3, e0, cond_false, nz _ _ _ (by simp; omega)]
       ·simp [turnV, decide_eq_false hlt, e0])
   (fun f s hI => by
    obtain ⟨d, out⟩ := s
    obtain ⟨i1, i2⟩ := hI
    simp only at i1 i2 ⊢
    rw [spec_l32Turn_l1, decide_eq_false (Int.lt_irrefl _), cond_false]
    cases d with
    | true => simp
    | false =>
     rw [Bool.not_false, cond_true, app_lt (by simp; omega), Option.bind_some]
     rfl) (s := (false, [])) ⟨Nat.zero_le _, fun h => by cases h⟩
  exact this
 unfold spec_l32Turn tOf
 cases hb : b.fKind == 1 with
 | true => rw [cond_true, main _ rfl]; simp only [hb, cond_true]
 | false => rw [cond_false, main _ rfl]; simp only [hb, cond_false]
end Go.D
set_option linter.unusedVariables false
namespace Go.D
theorem half_two {i j : Nat} (h : i + j < 2000000000) : w64 (shrU (u64 (w64 ((i : Int) + (j : Int)))) 1) = (((i + j) / 2 : Nat) : Int) := by
 have e : w64 ((i : Int) + (j : Int)) = (i : Int) + (j : Int) := w64_of (by omega) (by omega)
 rw [e, half_of (by omega) (by omega)]
 omega
theorem impl_tell1 {x : Tal} (h : SmR x.fKey) (k : List T_impl_Value) : impl_tell_1 x k = some (ordR x.fKey k) := by
 unfold impl_tell_1
 rw [impl_ordR h.1]
 rfl
theorem bsearch {xs : List Tal} (hs : SmTl xs) (hp : xs.Pairwise fun a b => ordR a.fKey b.fKey < 0) (k : List T_impl_Value) : ∀ (n f lo hi : Nat), hi - lo ≤ n → n < f → lo ≤ hi → hi ≤ xs.length → (∀ j (hj : j < xs.length), j < lo → ordR xs[j].fKey k < 0) → (∀ j (hj : j < xs.length), hi ≤ j → 0 ≤ ordR xs[j].fKey k) →
  ∃ p, p ≤ xs.length ∧ (∀ j (hj : j < xs.length), j < p → ordR xs[j].fKey k < 0) ∧ (∀ j (hj : j < xs.length), p ≤ j → 0 ≤ ordR xs[j].fKey k) ∧
   slices_BinarySearchFunc_impl_Tally_impl_Tally_impl_Value_s2_l0 xs k impl_tell_1 f (lo : Int) (hi : Int) = some ((p : Int), match xs[p]? with | some x => ordR x.fKey k == 0 | none => false)
 | n, 0, lo, hi, _, hf, _, _, _, _ => absurd hf (by omega)
 | n, f + 1, lo, hi, hn, hf, hlh, hhl, h1, h2 => by
  have hl := hs.1
  have hidx := List.pairwise_iff_getElem.1 hp
  by_cases hlt : lo < hi
  ·obtain ⟨n, rfl⟩ : ∃ n', n = n' + 1 := ⟨n - 1, by omega⟩
   have hw := half_two (i := lo) (j := hi) (by omega)
   have hm : (lo + hi) / 2 < xs.length := by omega
   rw [slices_BinarySearchFunc_impl_Tally_impl_Tally_impl_Value_s2_l0, decide_eq_true (by omega), cond_true, hw, getI_nat, List.getElem?_eq_getElem hm, Option.bind_some, impl_tell1 (hs.2 _ (List.getElem_mem hm)), Option.bind_some]
   by_cases hc : ordR xs[(lo + hi) / 2].fKey k < 0
   ·rw [decide_eq_true hc, cond_true, show w64 ((((lo + hi) / 2 : Nat) : Int) + 1) = (((lo + hi) / 2 + 1 : Nat) : Int) by rw [w64_of] <;> omega]
    exact bsearch hs hp k n f ((lo + hi) / 2 + 1) hi (by omega) (by omega) (by omega) hhl (fun j hj hjl => by
     by_cases e : j = (lo + hi) / 2
     ·subst e; exact hc
     ·exact ordR_ltt (hidx j ((lo + hi) / 2) hj hm (by omega)) hc) h2
   ·rw [decide_eq_false hc, cond_false]
    exact bsearch hs hp k n f lo ((lo + hi) / 2) (by omega) (by omega) (by omega) (by omega) h1 (fun j hj hjl => by
     by_cases e : j = (lo + hi) / 2
     ·subst e; omega
     ·have a := hidx ((lo + hi) / 2) j hm hj (by omega)
      have b := ord_row.lt _ _ a
      by_cases h0 : ordR xs[j].fKey k < 0
      ·exact absurd (ordR_ltt a h0) hc
      ·omega)
  ·have : lo = hi := by omega
   subst this
   refine ⟨lo, hhl, h1, h2, ?_⟩
   rw [slices_BinarySearchFunc_impl_Tally_impl_Tally_impl_Value_s2_l0, decide_eq_false (Int.lt_irrefl _), cond_false]
   by_cases hll : lo < xs.length
   ·rw [decide_eq_true (by omega), cond_true, getI_nat, List.getElem?_eq_getElem hll, Option.bind_some, impl_tell1 (hs.2 _ (List.getElem_mem hll))]
    rfl
   ·rw [decide_eq_false (by omega), cond_false, List.getElem?_eq_none (by omega)]
theorem set_mid {α : Type} (lo hi : List α) (x y : α) : (lo ++ x :: hi).set lo.length y = lo ++ y :: hi := by
 rw [List.set_append_right _ _ (Nat.le_refl _), Nat.sub_self]
 rfl
theorem delT_mid (lo hi : List Tal) (y : Tal) (hl : lo.length + hi.length ≤ 4194304) : delT (lo ++ y :: hi) (lo.length : Int) (w64 ((lo.length : Int) + 1)) = some (lo ++ hi) := by
 rw [show w64 ((lo.length : Int) + 1) = ((lo.length + 1 : Nat) : Int) by rw [w64_of] <;> omega]
 unfold delT
 rw [decide_eq_true (by omega), decide_eq_true (by omega), decide_eq_true (by simp; omega)]
 simp only [Bool.and_self, cond_true, Int.toNat_natCast, List.take_left', List.take_left]
 congr 2
 rw [show lo.length + 1 = (lo ++ [y]).length by simp, show lo ++ y :: hi = (lo ++ [y]) ++ hi by simp, List.drop_left]
theorem tell_at {lo hi : List Tal} {x : Tal} {a b : T_impl_Value} {n : Int} (fnd : Bool) (hl : lo.length + hi.length ≤ 4194304) (hm : -1000000 ≤ x.fMany ∧ x.fMany ≤ 1000000) (hs : -100000000 ≤ x.fSum ∧ x.fSum ≤ 100000000) :
  impl_tell_j0 [a, b] n ((lo.length : Int), fnd) (lo ++ x :: hi) = some (bif zeroT (addT x (tOf [a, b] n)) then lo ++ hi else lo ++ addT x (tOf [a, b] n) :: hi) := by
 have g1 : getI (lo ++ x :: hi) (lo.length : Int) = some x := by
  rw [getI_nat, List.getElem?_append_right (Nat.le_refl _), Nat.sub_self]
  rfl
 have g2 : getI [a, b] 1 = some b := rfl
 unfold impl_tell_j0
 simp only
 rw [g1, Option.bind_some, g2, Option.bind_some]
 cases hk : b.fKind == 1 with
 | true =>
  rw [cond_true, Option.bind_some]
  have ey : addT x (tOf [a, b] n) = ⟨x.fKey, w64 (x.fRows + n), w64 (x.fMany + n), w64 (x.fSum + w64 (n * b.fN))⟩ := by
   unfold addT tOf
   simp only [hk, cond_true]
  rw [ey]
  unfold impl_tell_j1 zeroT
  simp only [Int.toNat_natCast, List.set_set, set_mid]
  cases w64 (x.fRows + n) == 0 with
  | false => rfl
  | true =>
   cases w64 (x.fMany + n) == 0 with
   | false => rfl
   | true =>
    cases w64 (x.fSum + w64 (n * b.fN)) == 0 with
    | false => rfl
    | true =>
     simp only [cond_true, Bool.and_self]
     rw [delT_mid _ _ _ hl]
     rfl
 | false =>
  rw [cond_false]
  have ey : addT x (tOf [a, b] n) = ⟨x.fKey, w64 (x.fRows + n), x.fMany, x.fSum⟩ := by
   unfold addT tOf
   simp only [hk, cond_false, Int.add_zero]
   rw [w64_of (n := x.fMany) (by omega) (by omega), w64_of (n := x.fSum) (by omega) (by omega)]
  rw [ey]
  unfold impl_tell_j2 zeroT
  simp only [Int.toNat_natCast, set_mid]
  cases w64 (x.fRows + n) == 0 with
  | false => rfl
  | true =>
   cases x.fMany == 0 with
   | false => rfl
   | true =>
    cases x.fSum == 0 with
    | false => rfl
    | true =>
     simp only [cond_true, Bool.and_self]
     rw [delT_mid _ _ _ hl]
     rfl
theorem insT_at {lo hi : List Tal} (z : Tal) (hl : lo.length + hi.length ≤ 4194304) : insT (lo ++ hi) (lo.length : Int) [z] = some (lo ++ z :: hi) := by
 unfold insT
 rw [decide_eq_true (by omega), decide_eq_true (by rw [List.length_append]; omega), decide_eq_true (by simp), decide_eq_true (by simp; omega)]
 simp
theorem impl_turn {xs : List Tal} (hs : SmTl xs) (hp : xs.Pairwise fun a b => ordR a.fKey b.fKey < 0) (hb : ∀ x ∈ xs, (-1000000 ≤ x.fMany ∧ x.fMany ≤ 1000000) ∧ (-100000000 ≤ x.fSum ∧ x.fSum ≤ 100000000)) {r : List T_impl_Value} (hr : SmR r) (hc : cntG r = true) {n : Int} (n0 : n ≠ 0) (n1 : -100 ≤ n) (n2 : n ≤ 100) :
  impl_tell xs r n = some (turnV (tOf r n) xs) := by
 obtain ⟨a, b, rfl, h1, h2, h3⟩ := cntG_two hc
 have hl := hs.1
 have e1 : slI [a, b] none (some (1 : Int)) none = some [a] := slI_front (n := 1) (by simp)
 obtain ⟨p, q1, q2, q3, q4⟩ := bsearch hs hp [a] xs.length FUEL 0 xs.length (by omega) (by unfold FUEL; omega) (Nat.zero_le _) (Nat.le_refl _) (fun j hj h => by omega) (fun j hj h => by omega)
 have ht : (tOf [a, b] n).fKey = [a] := rfl
 unfold impl_tell slices_BinarySearchFunc_impl_Tally_impl_Tally_impl_Value_s2
 rw [e1, Option.bind_some]
 rw [show ((0 : Nat) : Int) = 0 from rfl] at q4
 rw [q4, Option.bind_some]
 have exs : xs = xs.take p ++ xs.drop p := (List.take_append_drop p xs).symm
 have llo : (xs.take p).length = p := by rw [List.length_take]; omega
 have hlo : ∀ x ∈ xs.take p, ordR x.fKey (tOf [a, b] n).fKey < 0 := fun x hx => by
  obtain ⟨j, hj, rfl⟩ := List.getElem_of_mem hx
  rw [List.getElem_take, ht]
  exact q2 j (by rw [List.length_take] at hj; omega) (by rw [List.length_take] at hj; omega)
 have hT : turnV (tOf [a, b] n) xs = xs.take p ++ turnV (tOf [a, b] n) (xs.drop p) := by
  conv => lhs; rw [exs]
  exact turnV_low hlo
 rw [hT]
 have fresh : xs.drop p = [] ∨ (∃ x hi, xs.drop p = x :: hi ∧ 0 < ordR x.fKey [a]) → (match xs[p]? with | some x => ordR x.fKey [a] == 0 | none => false) = false →
   (bif !(match xs[p]? with | some x => ordR x.fKey [a] == 0 | none => false) then (slI [a, b] none (some 1) none).bind fun v26 => (impl_clone_impl_Value v26).bind fun v28 => (insT xs (p : Int) [T_impl_Tally.mk v28 0 0 0]).bind fun v30 => impl_tell_j0 [a, b] n ((p : Int), false) v30 else impl_tell_j0 [a, b] n ((p : Int), false) xs) = some (xs.take p ++ turnV (tOf [a, b] n) (xs.drop p)) := fun hd hf => by
  rw [hf, Bool.not_false, cond_true, e1, Option.bind_some, clone_v0 (by simp), Option.bind_some]
  have hi0 : insT xs (p : Int) [T_impl_Tally.mk [a] 0 0 0] = some (xs.take p ++ T_impl_Tally.mk [a] 0 0 0 :: xs.drop p) := by
   have := insT_at (lo := xs.take p) (hi := xs.drop p) (T_impl_Tally.mk [a] 0 0 0) (by rw [llo, List.length_drop]; omega)
   rwa [List.take_append_drop, llo] at this
  rw [hi0, Option.bind_some]
  have := tell_at (lo := xs.take p) (hi := xs.drop p) (x := T_impl_Tally.mk [a] 0 0 0) (a := a) (b := b) (n := n) false (by rw [llo, List.length_drop]; omega) ⟨(by decide : (-1000000 : Int) ≤ 0), (by decide : (0 : Int) ≤ 1000000)⟩ ⟨(by decide : (-100000000 : Int) ≤ 0), (by decide : (0 : Int) ≤ 100000000)⟩
  rw [llo] at this
  rw [this]
  have ea : addT (T_impl_Tally.mk [a] 0 0 0) (tOf [a, b] n) = tOf [a, b] n := by
   have hbn : -9999 ≤ b.fN ∧ b.fN ≤ 9999 ∨ (b.fKind == 1) = false := by
    cases hk : b.fKind == 1 with
    | false => exact .inr rfl
    | true =>
     refine .inl ?_
     have hk1 : b.fKind = 1 := by simpa using hk
     unfold valOk at h3
     rw [hk1] at h3
     simp only [inR] at h3
     simp at h3
     omega
   unfold addT tOf
   simp only [Int.zero_add]
   rw [w64_of (n := n) (by omega) (by omega)]
   cases hk : b.fKind == 1 with
   | false =>
    simp only [cond_false]
    rw [w64_of (n := 0) (by omega) (by omega)]
   | true =>
    simp only [cond_true]
    rw [w64_of (n := n) (by omega) (by omega)]
    rcases hbn with hbn | hbn
    ·have m1 : -999900 ≤ n * b.fN ∧ n * b.fN ≤ 999900 := by
      have : (n * b.fN).natAbs ≤ 100 * 9999 := by
       rw [Int.natAbs_mul]
       exact Nat.mul_le_mul (by omega) (by omega)
      omega
     rw [w64_of (n := n * b.fN) (by omega) (by omega), w64_of (by omega) (by omega)]
    ·rw [hbn] at hk
     cases hk
  rw [ea]
  have hz : zeroT (tOf [a, b] n) = false := by
   unfold zeroT tOf
   simp only
   rw [beq_eq_false_iff_ne.2 n0]
   rfl
  rw [hz, cond_false]
  rcases hd with hd | ⟨x, hi, hd, hx⟩
  ·rw [hd]
   rfl
  ·rw [hd, turnV, ht, decide_eq_false (by omega), cond_false, beq_eq_false_iff_ne.2 (by omega), cond_false]
 by_cases hpl : p < xs.length
 ·have hge := q3 p hpl (Nat.le_refl _)
  have hdr : xs.drop p = xs[p] :: xs.drop (p + 1) := List.drop_eq_getElem_cons hpl
  by_cases h0 : ordR xs[p].fKey [a] = 0
  ·have hm := hb _ (List.getElem_mem hpl)
   have := tell_at (lo := xs.take p) (hi := xs.drop (p + 1)) (x := xs[p]) (a := a) (b := b) (n := n) true (by rw [llo, List.length_drop]; omega) hm.1 hm.2
   rw [llo, ← hdr, List.take_append_drop] at this
   rw [List.getElem?_eq_getElem hpl]
   simp only [beq_iff_eq.2 h0, Bool.not_true, cond_false]
   rw [this, hdr, turnV, ht, decide_eq_false (by omega), cond_false, beq_iff_eq.2 h0, cond_true]
   cases zeroT (addT xs[p] (tOf [a, b] n)) <;> rfl
  ·have hf : (match xs[p]? with | some x => ordR x.fKey [a] == 0 | none => false) = false := by
    rw [List.getElem?_eq_getElem hpl]
    exact beq_eq_false_iff_ne.2 h0
   have := fresh (.inr ⟨xs[p], xs.drop (p + 1), hdr, by omega⟩) hf
   rw [hf] at this ⊢
   exact this
 ·have hf : (match xs[p]? with | some x => ordR x.fKey [a] == 0 | none => false) = false := by rw [List.getElem?_eq_none (by omega)]
  have := fresh (.inl (List.drop_of_length_le (by omega))) hf
  rw [hf] at this ⊢
  exact this
end Go.D
set_option linter.unusedVariables false
namespace Go.D
open Go.Proofs
theorem rd_3 : Rd Try.prog 3 Int intW := rd_int Try.underlying3 (by kernel_rfl)
theorem rd_9 : Rd Try.prog 9 ByteArray strW := rd_str Try.underlying9 (by kernel_rfl)
def W_T_laws_Value (x : T_laws_Value) : Prop := intW x.fKind ∧ intW x.fN ∧ strW x.fS
theorem spl_178 (cs : List Value) (hc : cs.length = 3) : cs = (cs.drop 0).take 1 ++ ((cs.drop 1).take 1 ++ ((cs.drop 2).take 1)) := by
 match cs, hc with
 | [c0, c1, c2], _ => rfl
theorem rd_178 : Rd Try.prog 178 T_laws_Value W_T_laws_Value := ⟨by kernel_rfl, fun H enc w base sp held fuel cs x h => by
 obtain ⟨xs, n, _, rfl, hl, hlen, hf⟩ := DataW.trod_struct Try.underlying178 h
 match xs, hlen, hf with
 | [z0, z1, z2], _, hf =>
 obtain ⟨y0, h0, w0⟩ := (rd_3).2 H enc w base sp held n _ _ (hf 0 _ rfl)
 obtain ⟨y1, h1, w1⟩ := (rd_3).2 H enc w base sp held n _ _ (hf 1 _ rfl)
 obtain ⟨y2, h2, w2⟩ := (rd_9).2 H enc w base sp held n _ _ (hf 2 _ rfl)
 refine ⟨⟨y0, y1, y2⟩, ?_, w0, w1, w2⟩
 have hc : cs.length = 3 := hl.trans (by kernel_rfl)
 have h0 : FrL w (fun _ => False) (Enc.cells y0) ((cs.drop 0).take (Try.prog.cellsOf 3)) := h0
 rw [rd_3.1] at h0
 have k0 : FrL w (fun _ => False) (Enc.cells y0) ((cs.drop 0).take 1) := h0
 have h1 : FrL w (fun _ => False) (Enc.cells y1) ((cs.drop 1).take (Try.prog.cellsOf 3)) := h1
 rw [rd_3.1] at h1
 have k1 : FrL w (fun _ => False) (Enc.cells y1) ((cs.drop 1).take 1) := h1
 have h2 : FrL w (fun _ => False) (Enc.cells y2) ((cs.drop 2).take (Try.prog.cellsOf 9)) := h2
 rw [rd_9.1] at h2
 have k2 : FrL w (fun _ => False) (Enc.cells y2) ((cs.drop 2).take 1) := h2
 rw [spl_178 cs hc]
 exact (FrL.append k0 (FrL.append k1 k2))⟩
theorem rd_104 : Rd Try.prog 104 (List T_laws_Value) (listW W_T_laws_Value) := rd_slice Try.underlying104 (by kernel_rfl) rd_178
def W_T_laws_Tally (x : T_laws_Tally) : Prop := (listW W_T_laws_Value) x.fKey ∧ intW x.fRows ∧ intW x.fMany ∧ intW x.fSum
theorem spl_106 (cs : List Value) (hc : cs.length = 4) : cs = (cs.drop 0).take 1 ++ ((cs.drop 1).take 1 ++ ((cs.drop 2).take 1 ++ ((cs.drop 3).take 1))) := by
 match cs, hc with
 | [c0, c1, c2, c3], _ => rfl
theorem rd_106 : Rd Try.prog 106 T_laws_Tally W_T_laws_Tally := ⟨by kernel_rfl, fun H enc w base sp held fuel cs x h => by
 obtain ⟨xs, n, _, rfl, hl, hlen, hf⟩ := DataW.trod_struct Try.underlying106 h
 match xs, hlen, hf with
 | [z0, z1, z2, z3], _, hf =>
 obtain ⟨y0, h0, w0⟩ := (rd_104).2 H enc w base sp held n _ _ (hf 0 _ rfl)
 obtain ⟨y1, h1, w1⟩ := (rd_3).2 H enc w base sp held n _ _ (hf 1 _ rfl)
 obtain ⟨y2, h2, w2⟩ := (rd_3).2 H enc w base sp held n _ _ (hf 2 _ rfl)
 obtain ⟨y3, h3, w3⟩ := (rd_3).2 H enc w base sp held n _ _ (hf 3 _ rfl)
 refine ⟨⟨y0, y1, y2, y3⟩, ?_, w0, w1, w2, w3⟩
 have hc : cs.length = 4 := hl.trans (by kernel_rfl)
 have h0 : FrL w (fun _ => False) (Enc.cells y0) ((cs.drop 0).take (Try.prog.cellsOf 104)) := h0
 rw [rd_104.1] at h0
 have k0 : FrL w (fun _ => False) (Enc.cells y0) ((cs.drop 0).take 1) := h0
 have h1 : FrL w (fun _ => False) (Enc.cells y1) ((cs.drop 1).take (Try.prog.cellsOf 3)) := h1
 rw [rd_3.1] at h1
 have k1 : FrL w (fun _ => False) (Enc.cells y1) ((cs.drop 1).take 1) := h1
 have h2 : FrL w (fun _ => False) (Enc.cells y2) ((cs.drop 2).take (Try.prog.cellsOf 3)) := h2
 rw [rd_3.1] at h2
 have k2 : FrL w (fun _ => False) (Enc.cells y2) ((cs.drop 2).take 1) := h2
 have h3 : FrL w (fun _ => False) (Enc.cells y3) ((cs.drop 3).take (Try.prog.cellsOf 3)) := h3
 rw [rd_3.1] at h3
 have k3 : FrL w (fun _ => False) (Enc.cells y3) ((cs.drop 3).take 1) := h3
 rw [spl_106 cs hc]
 exact (FrL.append k0 (FrL.append k1 (FrL.append k2 k3)))⟩
theorem rd_47 : Rd Try.prog 47 (List T_laws_Tally) (listW W_T_laws_Tally) := rd_slice Try.underlying47 (by kernel_rfl) rd_106
def W_T_laws_Delta (x : T_laws_Delta) : Prop := (listW W_T_laws_Value) x.fRow ∧ intW x.fMany
theorem spl_109 (cs : List Value) (hc : cs.length = 2) : cs = (cs.drop 0).take 1 ++ ((cs.drop 1).take 1) := by
 match cs, hc with
 | [c0, c1], _ => rfl
theorem rd_109 : Rd Try.prog 109 T_laws_Delta W_T_laws_Delta := ⟨by kernel_rfl, fun H enc w base sp held fuel cs x h => by
 obtain ⟨xs, n, _, rfl, hl, hlen, hf⟩ := DataW.trod_struct Try.underlying109 h
 match xs, hlen, hf with
 | [z0, z1], _, hf =>
 obtain ⟨y0, h0, w0⟩ := (rd_104).2 H enc w base sp held n _ _ (hf 0 _ rfl)
 obtain ⟨y1, h1, w1⟩ := (rd_3).2 H enc w base sp held n _ _ (hf 1 _ rfl)
 refine ⟨⟨y0, y1⟩, ?_, w0, w1⟩
 have hc : cs.length = 2 := hl.trans (by kernel_rfl)
 have h0 : FrL w (fun _ => False) (Enc.cells y0) ((cs.drop 0).take (Try.prog.cellsOf 104)) := h0
 rw [rd_104.1] at h0
 have k0 : FrL w (fun _ => False) (Enc.cells y0) ((cs.drop 0).take 1) := h0
 have h1 : FrL w (fun _ => False) (Enc.cells y1) ((cs.drop 1).take (Try.prog.cellsOf 3)) := h1
 rw [rd_3.1] at h1
 have k1 : FrL w (fun _ => False) (Enc.cells y1) ((cs.drop 1).take 1) := h1
 rw [spl_109 cs hc]
 exact (FrL.append k0 k1)⟩
theorem rd_48 : Rd Try.prog 48 (List T_laws_Delta) (listW W_T_laws_Delta) := rd_slice Try.underlying48 (by kernel_rfl) rd_109
end Go.D
set_option linter.unusedVariables false
namespace Go.D
def Ok_Value (x : T_laws_Value) : Prop := x.fS.size ≤ 1048576
theorem sz_Value : SzP laws_szValue W_T_laws_Value Ok_Value := by
 have h := sz_one (z := laws_szValue) (W := W_T_laws_Value) (fun x => x.fS.size) (fun x h => h.2.2) (fun x n => by unfold laws_szValue; rfl)
 exact h
def c_Value (x : T_laws_Value) : T_impl_Value := ⟨x.fKind, x.fN, x.fS⟩
theorem to_Value (x : T_laws_Value) (h : Ok_Value x) : laws_toValue x = some (c_Value x) := rfl
def OkI_Value (x : T_impl_Value) : Prop := True
theorem eq_Value (x : T_impl_Value) (h : OkI_Value x) : laws_eqValue x x = some true := by
 unfold laws_eqValue
 simp only [beq_self_eq_true, Bool.not_true, cond_false]
theorem sz_ValueS : SzP laws_szValueS (listW W_T_laws_Value) (okL Ok_Value) := sz_loop sz_Value (fun _ _ => rfl) (fun _ _ _ _ => rfl)
theorem to_ValueS (xs : List T_laws_Value) (h : (okL Ok_Value) xs) : laws_toValueS xs = some (xs.map c_Value) := to_loop (S := laws_toValueS) (L := laws_toValueS_l0) to_Value (fun _ => rfl) (fun _ _ _ _ => rfl) xs h
theorem eq_ValueS (xs : List T_impl_Value) (h : (okL OkI_Value) xs) : laws_eqValueS xs xs = some true := eq_loop (S := laws_eqValueS) (L := laws_eqValueS_l0) eq_Value (fun _ _ => rfl) (fun _ _ _ _ => rfl) xs h
def Ok_Tally (x : T_laws_Tally) : Prop := (okL Ok_Value) x.fKey
theorem sz_Tally : SzP laws_szTally W_T_laws_Tally Ok_Tally := by
 intro x n hW h0 hn
 obtain ⟨w0, w1, w2, w3⟩ := hW
 unfold laws_szTally Ok_Tally
 obtain ⟨r0, e0, k0⟩ := sz_ValueS x.fKey n w0 (by omega) (by omega)
 rw [e0, Option.bind_some]
 rcases k0 with k0 | ⟨p0, q0, o0⟩
 ·exact ⟨-1, by rw [decide_eq_true k0, cond_true], .inl (by omega)⟩
 rw [decide_eq_false (show ¬ r0 < 0 by omega), cond_false]
 exact ⟨r0, rfl, .inr ⟨by omega, by omega, o0⟩⟩
def c_Tally (x : T_laws_Tally) : T_impl_Tally := ⟨(x.fKey.map c_Value), x.fRows, x.fMany, x.fSum⟩
theorem to_Tally (x : T_laws_Tally) (h : Ok_Tally x) : laws_toTally_D x = some (c_Tally x) := by
 unfold laws_toTally_D
 rw [to_ValueS x.fKey h, Option.bind_some]
 rfl
def OkI_Tally (x : T_impl_Tally) : Prop := (okL OkI_Value) x.fKey
theorem eq_Tally (x : T_impl_Tally) (h : OkI_Tally x) : laws_eqTally x x = some true := by
 unfold laws_eqTally
 simp only [beq_self_eq_true, Bool.not_true, cond_false, eq_ValueS x.fKey h, Option.bind_some]
theorem sz_TallyS : SzP laws_szTallyS (listW W_T_laws_Tally) (okL Ok_Tally) := sz_loop sz_Tally (fun _ _ => rfl) (fun _ _ _ _ => rfl)
theorem to_TallyS (xs : List T_laws_Tally) (h : (okL Ok_Tally) xs) : laws_toTallyS_D xs = some (xs.map c_Tally) := to_loop (S := laws_toTallyS_D) (L := laws_toTallyS_D_l0) to_Tally (fun _ => rfl) (fun _ _ _ _ => rfl) xs h
theorem eq_TallyS (xs : List T_impl_Tally) (h : (okL OkI_Tally) xs) : laws_eqTallyS xs xs = some true := eq_loop (S := laws_eqTallyS) (L := laws_eqTallyS_l0) eq_Tally (fun _ _ => rfl) (fun _ _ _ _ => rfl) xs h
def Ok_Delta (x : T_laws_Delta) : Prop := (okL Ok_Value) x.fRow
theorem sz_Delta : SzP laws_szDelta W_T_laws_Delta Ok_Delta := by
 intro x n hW h0 hn
 obtain ⟨w0, w1⟩ := hW
 unfold laws_szDelta Ok_Delta
 obtain ⟨r0, e0, k0⟩ := sz_ValueS x.fRow n w0 (by omega) (by omega)
 rw [e0, Option.bind_some]
 rcases k0 with k0 | ⟨p0, q0, o0⟩
 ·exact ⟨-1, by rw [decide_eq_true k0, cond_true], .inl (by omega)⟩
 rw [decide_eq_false (show ¬ r0 < 0 by omega), cond_false]
 exact ⟨r0, rfl, .inr ⟨by omega, by omega, o0⟩⟩
def c_Delta (x : T_laws_Delta) : T_impl_Delta := ⟨(x.fRow.map c_Value), x.fMany⟩
theorem to_Delta (x : T_laws_Delta) (h : Ok_Delta x) : laws_toDelta_D x = some (c_Delta x) := by
 unfold laws_toDelta_D
 rw [to_ValueS x.fRow h, Option.bind_some]
 rfl
def OkI_Delta (x : T_impl_Delta) : Prop := (okL OkI_Value) x.fRow
theorem eq_Delta (x : T_impl_Delta) (h : OkI_Delta x) : laws_eqDelta x x = some true := by
 unfold laws_eqDelta
 simp only [beq_self_eq_true, Bool.not_true, cond_false, eq_ValueS x.fRow h, Option.bind_some]
theorem sz_DeltaS : SzP laws_szDeltaS (listW W_T_laws_Delta) (okL Ok_Delta) := sz_loop sz_Delta (fun _ _ => rfl) (fun _ _ _ _ => rfl)
theorem to_DeltaS (xs : List T_laws_Delta) (h : (okL Ok_Delta) xs) : laws_toDeltaS_D xs = some (xs.map c_Delta) := to_loop (S := laws_toDeltaS_D) (L := laws_toDeltaS_D_l0) to_Delta (fun _ => rfl) (fun _ _ _ _ => rfl) xs h
theorem eq_DeltaS (xs : List T_impl_Delta) (h : (okL OkI_Delta) xs) : laws_eqDeltaS xs xs = some true := eq_loop (S := laws_eqDeltaS) (L := laws_eqDeltaS_l0) eq_Delta (fun _ _ => rfl) (fun _ _ _ _ => rfl) xs h
end Go.D
set_option linter.unusedVariables false
namespace Go.D
theorem sm_value {v : T_laws_Value} (h : Ok_Value v) : SmV (c_Value v) := Nat.le_trans h (by omega)
theorem okL_map {α β : Type} {ok : α → Prop} {ok' : β → Prop} {f : α → β} (hf : ∀ x, ok x → ok' (f x)) {xs : List α} (h : okL ok xs) : okL ok' (xs.map f) :=
 ⟨by rw [List.length_map]; exact h.1, fun y hy => by
  obtain ⟨x, hx, rfl⟩ := List.mem_map.1 hy
  exact hf x (h.2 x hx)⟩
theorem okL_sm {α : Type} {ok : α → Prop} {xs : List α} (h : okL ok xs) : Sm xs.length := Nat.le_trans h.1 (by omega)
theorem sm_row {r : List T_laws_Value} (h : okL Ok_Value r) : SmR (r.map c_Value) := ⟨okL_sm (okL_map (ok' := fun _ => True) (fun _ _ => trivial) h), (okL_map (ok' := SmV) (fun _ => sm_value) h).2⟩
end Go.D
set_option linter.unusedVariables false
namespace Go.D
theorem getI_setM {α : Type} {xs : List α} {i : Nat} {v : α} (h : i < xs.length) : getI (xs.set i v) (i : Int) = some v := by
 rw [getI_nat, List.getElem?_set_self h]
abbrev TOP : Int := 4611686018427387904
theorem w_succ {k : Int} (h0 : 0 ≤ k) (h1 : k < TOP) : w64 (k + 1) = k + 1 := w64_of (by omega) (by unfold TOP at h1; omega)
theorem mark_loop {α : Type} {M : Nat → Int → Int → List α → Option (Int × List α)} {H : List α → Nat → Int → Int → Option Int} {P : α → Prop} (c : Int) (hc : 0 ≤ c)
  (hm : ∀ (f : Nat) (k : Int) (i : Nat) (xs : List α) (x : α), xs[i]? = some x → xs.length ≤ 2097152 → P x → 0 ≤ k → k + c ≤ TOP → ∃ k' x', M (f + 1) k (i : Int) xs = M f k' ((i + 1 : Nat) : Int) (xs.set i x') ∧ k ≤ k' ∧ k' ≤ k + c ∧
   ∀ (ys : List α) (g : Nat), ys[i]? = some x' → ys.length ≤ 2097152 → H ys (g + 1) k (i : Int) = H ys g k' ((i + 1 : Nat) : Int))
  (he : ∀ (f : Nat) (k : Int) (xs : List α), M (f + 1) k (xs.length : Int) xs = some (k, xs))
  (hh : ∀ (g : Nat) (k : Int) (ys : List α), H ys (g + 1) k (ys.length : Int) = some k) :
  ∀ (m i : Nat) (xs : List α) (k : Int) (f : Nat), xs.length = i + m → xs.length ≤ 2097152 → m < f → (∀ (j : Nat) x, i ≤ j → xs[j]? = some x → P x) → 0 ≤ k → k + m * c ≤ TOP →
   ∃ k' ys, M f k (i : Int) xs = some (k', ys) ∧ ys.length = xs.length ∧ (∀ j, j < i → ys[j]? = xs[j]?) ∧ k ≤ k' ∧ k' ≤ k + m * c ∧ ∀ g, m < g → H ys g k (i : Int) = some k'
 | 0, i, xs, k, f, hl, hn, hf, hP, h0, hK => by
  obtain ⟨f, rfl⟩ : ∃ f', f = f' + 1 := ⟨f - 1, by omega⟩
  have e : (i : Int) = (xs.length : Int) := by rw [hl]; simp
  refine ⟨k, xs, by rw [e]; exact he f k xs, rfl, fun _ _ => rfl, by omega, by simp, fun g hg => ?_⟩
  obtain ⟨g, rfl⟩ : ∃ g', g = g' + 1 := ⟨g - 1, by omega⟩
  rw [e]
  exact hh g k xs
 | m + 1, i, xs, k, f, hl, hn, hf, hP, h0, hK => by
  obtain ⟨f, rfl⟩ : ∃ f', f = f' + 1 := ⟨f - 1, by omega⟩
  have hi : i < xs.length := by omega
  have hx : xs[i]? = some xs[i] := List.getElem?_eq_getElem hi
  have hmc : ((m + 1 : Nat) : Int) * c = m * c + c := by rw [Int.natCast_add, Int.add_mul]; simp
  have hmc0 : 0 ≤ (m : Int) * c := Int.mul_nonneg (by omega) hc
  rw [hmc] at hK
  obtain ⟨k1, x1, e1, p1, q1, r1⟩ := hm f k i xs xs[i] hx hn (hP i _ (Nat.le_refl _) hx) h0 (by omega)
  obtain ⟨k2, ys, e2, l2, s2, p2, q2, r2⟩ := mark_loop c hc hm he hh m (i + 1) (xs.set i x1) k1 f (by rw [List.length_set]; omega) (by rw [List.length_set]; exact hn) (by omega)
   (fun j x hj hxj => hP j x (by omega) (by rwa [List.getElem?_set_ne (by omega)] at hxj)) (by omega) (by omega)
  rw [List.length_set] at l2
  refine ⟨k2, ys, e1.trans e2, l2, fun j hj => ?_, by omega, by rw [hmc]; omega, fun g hg => ?_⟩
  ·rw [s2 j (by omega), List.getElem?_set_ne (by omega)]
  ·obtain ⟨g, rfl⟩ : ∃ g', g = g' + 1 := ⟨g - 1, by omega⟩
   rw [r1 ys g (by rw [s2 i (by omega), List.getElem?_set_self hi]) (by omega)]
   exact r2 g (by omega)
def MkP {α : Type} (M : α → Int → Option (Int × α)) (H : α → Int → Option Int) (P : α → Prop) (c : Int) : Prop :=
 ∀ x k, P x → 0 ≤ k → k + c ≤ TOP → ∃ k' x', M x k = some (k', x') ∧ k ≤ k' ∧ k' ≤ k + c ∧ H x' k = some k'
theorem mark_all {α : Type} {S : List α → Int → Option (Int × List α)} {T : List α → Int → Option Int} {M : Nat → Int → Int → List α → Option (Int × List α)} {H : List α → Nat → Int → Int → Option Int} {P : α → Prop} (c : Int) (hc : 0 ≤ c)
  (hS : ∀ xs k, S xs k = M FUEL k 0 xs) (hT : ∀ xs k, T xs k = H xs FUEL k 0)
  (hm : ∀ (f : Nat) (k : Int) (i : Nat) (xs : List α) (x : α), xs[i]? = some x → xs.length ≤ 2097152 → P x → 0 ≤ k → k + c ≤ TOP → ∃ k' x', M (f + 1) k (i : Int) xs = M f k' ((i + 1 : Nat) : Int) (xs.set i x') ∧ k ≤ k' ∧ k' ≤ k + c ∧
   ∀ (ys : List α) (g : Nat), ys[i]? = some x' → ys.length ≤ 2097152 → H ys (g + 1) k (i : Int) = H ys g k' ((i + 1 : Nat) : Int))
  (he : ∀ (f : Nat) (k : Int) (xs : List α), M (f + 1) k (xs.length : Int) xs = some (k, xs))
  (hh : ∀ (g : Nat) (k : Int) (ys : List α), H ys (g + 1) k (ys.length : Int) = some k) : MkP S T (okL P) (1048576 * c) := by
 intro xs k hP h0 hK
 have hn : (xs.length : Int) * c ≤ 1048576 * c := Int.mul_le_mul_of_nonneg_right (by have := hP.1; omega) hc
 have hF : xs.length < FUEL := by have := hP.1; unfold FUEL; omega
 obtain ⟨k', ys, e, l, _, p, q, r⟩ := mark_loop c hc hm he hh xs.length 0 xs k FUEL (by simp) (by have := hP.1; omega) hF (fun j x _ hx => hP.2 x (List.mem_of_getElem? hx)) h0 (by omega)
 exact ⟨k', ys, by rw [hS]; exact e, p, by omega, by rw [hT]; exact r FUEL hF⟩
def MkT {α : Type} (M : α → Int → Option (Int × α)) (P : α → Prop) (c : Int) : Prop :=
 ∀ x k, P x → 0 ≤ k → k + c ≤ TOP → ∃ k' x', M x k = some (k', x') ∧ k ≤ k' ∧ k' ≤ k + c
theorem mark_loopT {α : Type} {M : Nat → Int → Int → List α → Option (Int × List α)} {P : α → Prop} (c : Int) (hc : 0 ≤ c)
  (hm : ∀ (f : Nat) (k : Int) (i : Nat) (xs : List α) (x : α), xs[i]? = some x → xs.length ≤ 2097152 → P x → 0 ≤ k → k + c ≤ TOP → ∃ k' x', M (f + 1) k (i : Int) xs = M f k' ((i + 1 : Nat) : Int) (xs.set i x') ∧ k ≤ k' ∧ k' ≤ k + c)
  (he : ∀ (f : Nat) (k : Int) (xs : List α), M (f + 1) k (xs.length : Int) xs = some (k, xs)) :
  ∀ (m i : Nat) (xs : List α) (k : Int) (f : Nat), xs.length = i + m → xs.length ≤ 2097152 → m < f → (∀ (j : Nat) x, i ≤ j → xs[j]? = some x → P x) → 0 ≤ k → k + m * c ≤ TOP →
   ∃ k' ys, M f k (i : Int) xs = some (k', ys) ∧ k ≤ k' ∧ k' ≤ k + m * c
 | 0, i, xs, k, f, hl, hn, hf, hP, h0, hK => by
  obtain ⟨f, rfl⟩ : ∃ f', f = f' + 1 := ⟨f - 1, by omega⟩
  have e : (i : Int) = (xs.length : Int) := by rw [hl]; simp
  exact ⟨k, xs, by rw [e]; exact he f k xs, by omega, by simp⟩
 | m + 1, i, xs, k, f, hl, hn, hf, hP, h0, hK => by
  obtain ⟨f, rfl⟩ : ∃ f', f = f' + 1 := ⟨f - 1, by omega⟩
  have hi : i < xs.length := by omega
  have hx : xs[i]? = some xs[i] := List.getElem?_eq_getElem hi
  have hmc : ((m + 1 : Nat) : Int) * c = m * c + c := by rw [Int.natCast_add, Int.add_mul]; simp
  have hmc0 : 0 ≤ (m : Int) * c := Int.mul_nonneg (by omega) hc
  rw [hmc] at hK
  obtain ⟨k1, x1, e1, p1, q1⟩ := hm f k i xs xs[i] hx hn (hP i _ (Nat.le_refl _) hx) h0 (by omega)
  obtain ⟨k2, ys, e2, p2, q2⟩ := mark_loopT c hc hm he m (i + 1) (xs.set i x1) k1 f (by rw [List.length_set]; omega) (by rw [List.length_set]; exact hn) (by omega)
   (fun j x hj hxj => hP j x (by omega) (by rwa [List.getElem?_set_ne (by omega)] at hxj)) (by omega) (by omega)
  exact ⟨k2, ys, e1.trans e2, by omega, by rw [hmc]; omega⟩
theorem mark_allT {α : Type} {S : List α → Int → Option (Int × List α)} {M : Nat → Int → Int → List α → Option (Int × List α)} {P : α → Prop} (c : Int) (hc : 0 ≤ c)
  (hS : ∀ xs k, S xs k = M FUEL k 0 xs)
  (hm : ∀ (f : Nat) (k : Int) (i : Nat) (xs : List α) (x : α), xs[i]? = some x → xs.length ≤ 2097152 → P x → 0 ≤ k → k + c ≤ TOP → ∃ k' x', M (f + 1) k (i : Int) xs = M f k' ((i + 1 : Nat) : Int) (xs.set i x') ∧ k ≤ k' ∧ k' ≤ k + c)
  (he : ∀ (f : Nat) (k : Int) (xs : List α), M (f + 1) k (xs.length : Int) xs = some (k, xs)) : MkT S (okL P) (1048576 * c) := by
 intro xs k hP h0 hK
 have hn : (xs.length : Int) * c ≤ 1048576 * c := Int.mul_le_mul_of_nonneg_right (by have := hP.1; omega) hc
 have hF : xs.length < FUEL := by have := hP.1; unfold FUEL; omega
 obtain ⟨k', ys, e, p, q⟩ := mark_loopT c hc hm he xs.length 0 xs k FUEL (by simp) (by have := hP.1; omega) hF (fun j x _ hx => hP.2 x (List.mem_of_getElem? hx)) h0 (by omega)
 exact ⟨k', ys, by rw [hS]; exact e, p, by omega⟩
theorem addS_of {a b : ByteArray} (h : a.size + b.size ≤ 4611686018427387904) : addS a b = some (a ++ b) := if_pos h
end Go.D
set_option linter.unusedVariables false
set_option linter.unusedSimpArgs false
namespace Go.D
theorem markText_l0 : ∀ (d f : Nat) (x : Int) (s : ByteArray), 0 ≤ x → x < 10 ^ d → d < f → s.size + d ≤ 1000 → x ≤ 4611686018427387904 → ∃ t, laws_markText_l0 f x s = some t := by
 intro d
 induction d with
 | zero =>
  intro f x s h0 h1 hf hs hx
  obtain ⟨f, rfl⟩ : ∃ f', f = f' + 1 := ⟨f - 1, by omega⟩
  have e : x = 0 := by simp at h1; omega
  subst e
  rw [laws_markText_l0, decide_eq_false (by omega), cond_false, addS_of (by have : (ByteArray.mk #[109]).size = 1 := rfl; omega)]
  exact ⟨_, rfl⟩
 | succ d ih =>
  intro f x s h0 h1 hf hs hx
  obtain ⟨f, rfl⟩ : ∃ f', f = f' + 1 := ⟨f - 1, by omega⟩
  rw [laws_markText_l0]
  by_cases hp : x > 0
  ·rw [decide_eq_true hp, cond_true, addS_of (by have : ∀ b : UInt8, (ByteArray.mk (List.toArray ([b] : List UInt8))).size = 1 := fun _ => rfl; rw [this]; omega), Option.bind_some]
   have e : x.tdiv 10 = x / 10 := Int.tdiv_eq_ediv_of_nonneg h0
   have h2 : x < 10 * 10 ^ d := by rw [Int.pow_succ] at h1; omega
   have h3 : w64 (x.tdiv 10) = x / 10 := by rw [e]; exact w64_of (by omega) (by omega)
   rw [h3]
   refine ih f (x / 10) _ (by omega) ?_ (by omega) ?_ (by omega)
   ·generalize (10 : Int) ^ d = q at *
    omega
   ·rw [ByteArray.size_append]
    have : ∀ b : UInt8, (ByteArray.mk (List.toArray ([b] : List UInt8))).size = 1 := fun _ => rfl
    rw [this]; omega
  ·rw [decide_eq_false hp, cond_false, addS_of (by have : (ByteArray.mk #[109]).size = 1 := rfl; omega)]
   exact ⟨_, rfl⟩
theorem mark_text {k : Int} (h0 : 0 ≤ k) (h1 : k ≤ TOP) : ∃ t, laws_markText k = some t := by
 unfold laws_markText
 by_cases h : k ≤ 0
 ·rw [decide_eq_true h, cond_true]
  exact ⟨_, rfl⟩
 ·rw [decide_eq_false h, cond_false]
  exact markText_l0 19 FUEL k _ h0 (by unfold TOP at h1; omega) (by unfold FUEL; omega) (by decide) h1
theorem mk_ValueS : MkP laws_markValueS laws_heldValueS (okL (fun _ => True)) (1048576 * 3) :=
 mark_all (M := laws_markValueS_l0) (H := laws_heldValueS_l0) 3 (by omega) (fun _ _ => rfl) (fun _ _ => rfl) (by
  intro f k i xs x hx hn hP h0 hK
  have hi : i < xs.length := (List.getElem?_eq_some_iff.1 hx).1
  have hd : decide ((i : Int) < (xs.length : Int)) = true := decide_eq_true (by omega)
  have hs : w64 ((i : Int) + 1) = ((i + 1 : Nat) : Int) := succ_w hi (by omega)
  have hg0 : getI xs (i : Int) = some x := by rw [getI_nat]; exact hx
  have hg : ∀ v, getI (xs.set i v) (i : Int) = some v := fun v => getI_setM hi
  have w1 : w64 (k + 1) = k + 1 := w_succ (by omega) (by unfold TOP at *; omega)
  have w2 : w64 (k + 1 + 1) = k + 1 + 1 := w_succ (by omega) (by unfold TOP at *; omega)
  obtain ⟨t3, e3⟩ := mark_text (k := k + 1 + 1) (by omega) (by unfold TOP at *; omega)
  have w3 : w64 (k + 1 + 1 + 1) = k + 1 + 1 + 1 := w_succ (by omega) (by unfold TOP at *; omega)
  apply Exists.intro
  apply Exists.intro
  refine ⟨?_, ?_, ?_, fun ys g hy hl => ?_⟩
  ·rw [laws_markValueS_l0]
   simp only [hd, cond_true, hs, Int.toNat_natCast, hg0, hg, Option.bind_some, List.set_set, w1, w2, e3, w3]
   rfl
  ·omega
  ·omega
  ·have hi2 : i < ys.length := (List.getElem?_eq_some_iff.1 hy).1
   have hd2 : decide ((i : Int) < (ys.length : Int)) = true := decide_eq_true (by omega)
   have hy2 := hy
   rw [← getI_nat] at hy2
   rw [laws_heldValueS_l0]
   simp only [hd2, cond_true, hs, hy2, Option.bind_some, beq_self_eq_true, Bool.not_true, cond_false, w1, w2, e3, w3])
  (fun f k xs => by simp only [laws_markValueS_l0, Int.lt_irrefl, decide_false, cond_false])
  (fun g k ys => by simp only [laws_heldValueS_l0, Int.lt_irrefl, decide_false, cond_false])
theorem mk_TallyS : MkP laws_markTallyS laws_heldTallyS (okL OkI_Tally) (1048576 * 3145731) :=
 mark_all (M := laws_markTallyS_l0) (H := laws_heldTallyS_l0) 3145731 (by omega) (fun _ _ => rfl) (fun _ _ => rfl) (by
  intro f k i xs x hx hn hP h0 hK
  have hi : i < xs.length := (List.getElem?_eq_some_iff.1 hx).1
  have hd : decide ((i : Int) < (xs.length : Int)) = true := decide_eq_true (by omega)
  have hs : w64 ((i : Int) + 1) = ((i + 1 : Nat) : Int) := succ_w hi (by omega)
  have hg0 : getI xs (i : Int) = some x := by rw [getI_nat]; exact hx
  have hg : ∀ v, getI (xs.set i v) (i : Int) = some v := fun v => getI_setM hi
  obtain ⟨k1, y1, e1, p1, q1, h1⟩ := mk_ValueS x.fKey (k) hP (by omega) (by unfold TOP at *; omega)
  have n1 : decide (k1 < 0) = false := decide_eq_false (by omega)
  have w2 : w64 (k1 + 1) = k1 + 1 := w_succ (by omega) (by unfold TOP at *; omega)
  have w3 : w64 (k1 + 1 + 1) = k1 + 1 + 1 := w_succ (by omega) (by unfold TOP at *; omega)
  have w4 : w64 (k1 + 1 + 1 + 1) = k1 + 1 + 1 + 1 := w_succ (by omega) (by unfold TOP at *; omega)
  apply Exists.intro
  apply Exists.intro
  refine ⟨?_, ?_, ?_, fun ys g hy hl => ?_⟩
  ·rw [laws_markTallyS_l0]
   simp only [hd, cond_true, hs, Int.toNat_natCast, hg0, hg, Option.bind_some, List.set_set, e1, w2, w3, w4]
   rfl
  ·omega
  ·omega
  ·have hi2 : i < ys.length := (List.getElem?_eq_some_iff.1 hy).1
   have hd2 : decide ((i : Int) < (ys.length : Int)) = true := decide_eq_true (by omega)
   have hy2 := hy
   rw [← getI_nat] at hy2
   rw [laws_heldTallyS_l0]
   simp only [hd2, cond_true, hs, hy2, Option.bind_some, beq_self_eq_true, Bool.not_true, cond_false, h1, n1, w2, w3, w4])
  (fun f k xs => by simp only [laws_markTallyS_l0, Int.lt_irrefl, decide_false, cond_false])
  (fun g k ys => by simp only [laws_heldTallyS_l0, Int.lt_irrefl, decide_false, cond_false])
theorem mk_DeltaS : MkT laws_markDeltaS (okL OkI_Delta) (1048576 * 3145729) :=
 mark_allT (M := laws_markDeltaS_l0) 3145729 (by omega) (fun _ _ => rfl) (by
  intro f k i xs x hx hn hP h0 hK
  have hi : i < xs.length := (List.getElem?_eq_some_iff.1 hx).1
  have hd : decide ((i : Int) < (xs.length : Int)) = true := decide_eq_true (by omega)
  have hs : w64 ((i : Int) + 1) = ((i + 1 : Nat) : Int) := succ_w hi (by omega)
  have hg0 : getI xs (i : Int) = some x := by rw [getI_nat]; exact hx
  have hg : ∀ v, getI (xs.set i v) (i : Int) = some v := fun v => getI_setM hi
  obtain ⟨k1, y1, e1, p1, q1, h1⟩ := mk_ValueS x.fRow (k) hP (by omega) (by unfold TOP at *; omega)
  have n1 : decide (k1 < 0) = false := decide_eq_false (by omega)
  have w2 : w64 (k1 + 1) = k1 + 1 := w_succ (by omega) (by unfold TOP at *; omega)
  apply Exists.intro
  apply Exists.intro
  refine ⟨?_, ?_, ?_⟩
  ·rw [laws_markDeltaS_l0]
   simp only [hd, cond_true, hs, Int.toNat_natCast, hg0, hg, Option.bind_some, List.set_set, e1, w2]
   rfl
  ·omega
  ·omega)
  (fun f k xs => by simp only [laws_markDeltaS_l0, Int.lt_irrefl, decide_false, cond_false])
end Go.D
set_option linter.unusedVariables false
namespace Go.D
theorem clipTl_R {xs : List Tal} : slices_Clip_impl_Tally_impl_Tally_R xs = some xs := by
 unfold slices_Clip_impl_Tally_impl_Tally_R slI
 simp
theorem clipTl_D {xs : List Tal} : slices_Clip_impl_Tally_impl_Tally_D xs = some xs := by
 unfold slices_Clip_impl_Tally_impl_Tally_D slI
 simp
theorem clone_vR {a : List T_impl_Value} (ha : a.length ≤ 4194304) : impl_clone_impl_Value_R a = some a := by
 unfold impl_clone_impl_Value_R slices_Clip_impl_Value_impl_Value_R
 cases h : ((a.length : Int)) == 0
 ·rw [cond_false, app_lt (by simp; omega), Option.bind_some, List.nil_append, show slI a none (some (a.length : Int)) (some (a.length : Int)) = some a by unfold slI; simp]
  rfl
 ·have h0 : a.length = 0 := by
   have := beq_iff_eq.1 h
   omega
  rw [cond_true, List.eq_nil_of_length_eq_zero h0]
theorem impl_talsR {xs : List Tal} (h : SmTl xs) : impl_tallies_R xs = some xs := by
 have hl := h.1
 unfold impl_tallies_R
 have := loop_opt (xs := xs) (L := fun f i (s : List Tal) => impl_tallies_R_l0 xs f i s) (fun rest s => some (s ++ rest)) (fun i s => s.length = i) (by omega)
  (fun f i s v hi hv hw hI => by
   refine .inr ⟨s ++ [v], by simp; omega, ?_, by simp⟩
   rw [impl_tallies_R_l0, decide_eq_true (by omega), cond_true, getI_nat, hv, Option.bind_some, clone_v0 (by have := (h.2 v (List.mem_of_getElem? hv)).1; omega), Option.bind_some, app_lt (by simp; omega), Option.bind_some, hw])
  (fun f s hI => by
   rw [impl_tallies_R_l0, decide_eq_false (Int.lt_irrefl _), cond_false, clipTl_R]
   simp) (s := []) rfl
 exact this
theorem impl_talsD {xs : List Tal} (hl : xs.length ≤ 4194304) (h : ∀ t ∈ xs, SmR t.fKey) : impl_tallies_D xs = some xs := by
 unfold impl_tallies_D
 have := loop_opt (xs := xs) (L := fun f i (s : List Tal) => impl_tallies_D_l0 xs f i s) (fun rest s => some (s ++ rest)) (fun i s => s.length = i) (by omega)
  (fun f i s v hi hv hw hI => by
   refine .inr ⟨s ++ [v], by simp; omega, ?_, by simp⟩
   rw [impl_tallies_D_l0, decide_eq_true (by omega), cond_true, getI_nat, hv, Option.bind_some, clone_vR (by have := (h v (List.mem_of_getElem? hv)).1; omega), Option.bind_some, app_lt (by simp; omega), Option.bind_some, hw])
  (fun f s hI => by
   rw [impl_tallies_D_l0, decide_eq_false (Int.lt_irrefl _), cond_false, clipTl_D]
   simp) (s := []) rfl
 exact this
theorem spec_talsC {xs : List Tal} (h : SmTl xs) : spec_l32Copy xs = some xs := by
 have hl := h.1
 unfold spec_l32Copy
 have := loop_opt (xs := xs) (L := fun f i (s : List Tal) => spec_l32Copy_l0 xs f i s) (fun rest s => some (s ++ rest)) (fun i s => s.length = i) (by omega)
  (fun f i s v hi hv hw hI => by
   refine .inr ⟨s ++ [v], by simp; omega, ?_, by simp⟩
   rw [spec_l32Copy_l0, decide_eq_true (by omega), cond_true, getI_nat, hv, Option.bind_some, spec_ownR (h.2 v (List.mem_of_getElem? hv)).1, Option.bind_some, app_lt (by simp; omega), Option.bind_some, hw])
  (fun f s hI => by
   rw [spec_l32Copy_l0, decide_eq_false (Int.lt_irrefl _), cond_false]
   simp) (s := []) rfl
 exact this
def dT (d : T_impl_Delta) : Bool := cntG d.fRow && (!(d.fMany == 0) && inR d.fMany (-100) 100)
def turnsV : List T_impl_Delta → List Tal → List Tal × Bool
 | [], xs => (xs, true)
 | d :: ds, xs => bif dT d then (bif talsOk (turnV (tOf d.fRow d.fMany) xs) then turnsV ds (turnV (tOf d.fRow d.fMany) xs) else ([], false)) else ([], false)
def talTurn (xs : List Tal) (ds : List T_impl_Delta) : List Tal × Bool := bif talsOk xs then turnsV ds xs else ([], false)
structure Fine (xs : List Tal) (m : Nat) : Prop where
 len : xs.length ≤ m
 sm : ∀ x ∈ xs, SmR x.fKey
 ok : talsOk xs = true
theorem Fine.next {xs : List Tal} {m : Nat} (h : Fine xs m) {d : T_impl_Delta} (hd : dT d = true) (hr : SmR d.fRow) : (turnV (tOf d.fRow d.fMany) xs).length ≤ m + 1 ∧ ∀ x ∈ turnV (tOf d.fRow d.fMany) xs, SmR x.fKey := by
 unfold dT at hd
 simp only [Bool.and_eq_true] at hd
 obtain ⟨a, b, e, _⟩ := cntG_two hd.1
 rw [e] at hr ⊢
 exact ⟨Nat.le_trans (turnV_len _ _) (by have := h.len; omega), turnV_mem (smR_one hr) h.sm⟩
theorem talG_nz {x : Tal} (h : talG x = true) : zeroT x = false := by
 obtain ⟨_, _, h3, _⟩ := talG_row h
 unfold zeroT
 rw [beq_eq_false_iff_ne.2 (show x.fRows ≠ 0 by omega)]
 rfl
theorem spec_turns {ds : List T_impl_Delta} (hdl : ds.length ≤ 1048576) (hd : ∀ d ∈ ds, SmR d.fRow) {xs : List Tal} (h : Fine xs 1048576) : spec_TalliesTurned_l0 ds FUEL xs 0 = some (turnsV ds xs) := by
 have := loop_opt (xs := ds) (L := fun f i (s : List Tal) => spec_TalliesTurned_l0 ds f s i) (fun rest s => some (turnsV rest s)) (fun i s => Fine s (1048576 + i)) (by omega)
  (fun f i s v hi hv hw hI => by
   have hm := List.mem_of_getElem? hv
   have hsl := hI.len
   obtain ⟨t1, t2⟩ := (talsOk_iff s).1 hI.ok
   have st : spec_TalliesTurned_l0 ds (f + 1) s i = bif dT v then (bif talsOk (turnV (tOf v.fRow v.fMany) s) then spec_TalliesTurned_l0 ds f (turnV (tOf v.fRow v.fMany) s) ((i + 1 : Nat) : Int) else some ([], false)) else some ([], false) := by
    rw [spec_TalliesTurned_l0, decide_eq_true (by omega), cond_true, getI_nat, hv, Option.bind_some, spec_cntG (hd v hm), Option.bind_some]
    cases hdt : dT v with
    | false =>
     unfold dT at hdt
     cases hc : cntG v.fRow with
     | false => rfl
     | true =>
      rw [hc, Bool.true_and] at hdt
      rw [Bool.not_true, cond_false]
      cases h0 : v.fMany == 0 with
      | true => rfl
      | false =>
       rw [h0, Bool.not_false, Bool.true_and] at hdt
       rw [cond_false, spec_in, Option.bind_some, hdt]
       rfl
    | true =>
     have hdt' := hdt
     unfold dT at hdt'
     simp only [Bool.and_eq_true, Bool.not_eq_true'] at hdt'
     obtain ⟨a, b, e1, e2, e3⟩ := spec_turn (xs := s) ⟨by omega, hI.sm⟩ (fun x hx => (talG_row (t1 x hx)).1) t2 (fun x hx => talG_nz (t1 x hx)) (hd v hm) hdt'.1 v.fMany
     obtain ⟨n1, n2⟩ := hI.next hdt (hd v hm)
     rw [hdt'.1, Bool.not_true, cond_false, hdt'.2.1, cond_false, spec_in, Option.bind_some, hdt'.2.2, Bool.not_true]
     unfold spec_TalliesTurned_j1
     rw [cond_false, e1, Option.bind_some, e2, Option.bind_some, e3, Option.bind_some, spec_talsOk ⟨by omega, n2⟩, Option.bind_some, hw]
     cases talsOk (turnV (tOf v.fRow v.fMany) s) <;> rfl
   cases hdt : dT v with
   | false =>
    refine .inl ?_
    rw [st, hdt]
    simp only [turnsV, hdt, cond_false]
   | true =>
    cases hk : talsOk (turnV (tOf v.fRow v.fMany) s) with
    | false =>
     refine .inl ?_
     rw [st, hdt, hk]
     simp only [turnsV, hdt, hk, cond_false, cond_true]
    | true =>
     obtain ⟨n1, n2⟩ := hI.next hdt (hd v hm)
     refine .inr ⟨turnV (tOf v.fRow v.fMany) s, ⟨by omega, n2, hk⟩, by rw [st, hdt, hk]; rfl, ?_⟩
     simp only [turnsV, hdt, hk, cond_true])
  (fun f s hI => by
   rw [spec_TalliesTurned_l0, decide_eq_false (Int.lt_irrefl _), cond_false]
   rfl) (s := xs) h
 exact this
theorem impl_turns {ds : List T_impl_Delta} (hdl : ds.length ≤ 1048576) (hd : ∀ d ∈ ds, SmR d.fRow) {xs : List Tal} (h : Fine xs 1048576) : impl_TalliesTurned_D_l0 ds FUEL 0 xs = some (turnsV ds xs) := by
 have := loop_opt (xs := ds) (L := fun f i (s : List Tal) => impl_TalliesTurned_D_l0 ds f i s) (fun rest s => some (turnsV rest s)) (fun i s => Fine s (1048576 + i)) (by omega)
  (fun f i s v hi hv hw hI => by
   have hm := List.mem_of_getElem? hv
   have hsl := hI.len
   obtain ⟨t1, t2⟩ := (talsOk_iff s).1 hI.ok
   have st : impl_TalliesTurned_D_l0 ds (f + 1) i s = bif dT v then (bif talsOk (turnV (tOf v.fRow v.fMany) s) then impl_TalliesTurned_D_l0 ds f ((i + 1 : Nat) : Int) (turnV (tOf v.fRow v.fMany) s) else some ([], false)) else some ([], false) := by
    rw [impl_TalliesTurned_D_l0, decide_eq_true (by omega), cond_true, getI_nat, hv, Option.bind_some, impl_cntG (hd v hm), Option.bind_some]
    cases hdt : dT v with
    | false =>
     unfold dT at hdt
     cases hc : cntG v.fRow with
     | false => rfl
     | true =>
      rw [hc, Bool.true_and] at hdt
      rw [Bool.not_true, cond_false]
      cases h0 : v.fMany == 0 with
      | true => rfl
      | false =>
       rw [h0, Bool.not_false, Bool.true_and] at hdt
       rw [cond_false, impl_in, Option.bind_some, hdt]
       rfl
    | true =>
     have hdt' := hdt
     unfold dT at hdt'
     simp only [Bool.and_eq_true, Bool.not_eq_true'] at hdt'
     have hin := hdt'.2.2
     simp only [inR, Bool.and_eq_true, decide_eq_true_eq] at hin
     have e3 := impl_turn (xs := s) ⟨by omega, hI.sm⟩ t2 (fun x hx => by
      obtain ⟨_, _, r1, r2, r3⟩ := talG_row (t1 x hx)
      omega) (hd v hm) hdt'.1 (n := v.fMany) (by simpa using hdt'.2.1) hin.1 hin.2
     obtain ⟨n1, n2⟩ := hI.next hdt (hd v hm)
     rw [hdt'.1, Bool.not_true, cond_false, hdt'.2.1, cond_false, impl_in, Option.bind_some, hdt'.2.2, Bool.not_true]
     unfold impl_TalliesTurned_D_j1
     rw [cond_false, e3, Option.bind_some, impl_talsOk ⟨by omega, n2⟩, Option.bind_some, hw]
     cases talsOk (turnV (tOf v.fRow v.fMany) s) <;> rfl
   cases hdt : dT v with
   | false =>
    refine .inl ?_
    rw [st, hdt]
    simp only [turnsV, hdt, cond_false]
   | true =>
    cases hk : talsOk (turnV (tOf v.fRow v.fMany) s) with
    | false =>
     refine .inl ?_
     rw [st, hdt, hk]
     simp only [turnsV, hdt, hk, cond_false, cond_true]
    | true =>
     obtain ⟨n1, n2⟩ := hI.next hdt (hd v hm)
     refine .inr ⟨turnV (tOf v.fRow v.fMany) s, ⟨by omega, n2, hk⟩, by rw [st, hdt, hk]; rfl, ?_⟩
     simp only [turnsV, hdt, hk, cond_true])
  (fun f s hI => by
   have hsl := hI.len
   rw [impl_TalliesTurned_D_l0, decide_eq_false (Int.lt_irrefl _), cond_false, impl_talsD (by omega) hI.sm]
   rfl) (s := xs) h
 exact this
theorem spec_talTurn {xs : List Tal} (hl : xs.length ≤ 1048576) (h : ∀ x ∈ xs, SmR x.fKey) {ds : List T_impl_Delta} (hdl : ds.length ≤ 1048576) (hd : ∀ d ∈ ds, SmR d.fRow) : spec_TalliesTurned xs ds = some (talTurn xs ds) := by
 have hs : SmTl xs := ⟨by omega, h⟩
 unfold spec_TalliesTurned talTurn
 rw [spec_talsOk hs, Option.bind_some]
 cases hk : talsOk xs with
 | false => rfl
 | true => rw [Bool.not_true, cond_false, spec_talsC hs, Option.bind_some, spec_turns hdl hd ⟨hl, h, hk⟩]; rfl
theorem impl_talTurn {xs : List Tal} (hl : xs.length ≤ 1048576) (h : ∀ x ∈ xs, SmR x.fKey) {ds : List T_impl_Delta} (hdl : ds.length ≤ 1048576) (hd : ∀ d ∈ ds, SmR d.fRow) : impl_TalliesTurned_D xs ds = some (talTurn xs ds) := by
 have hs : SmTl xs := ⟨by omega, h⟩
 unfold impl_TalliesTurned_D talTurn
 rw [impl_talsOk hs, Option.bind_some]
 cases hk : talsOk xs with
 | false => rfl
 | true => rw [Bool.not_true, cond_false, impl_talsR hs, Option.bind_some, impl_turns hdl hd ⟨hl, h, hk⟩]; rfl
theorem turns_fine : ∀ (ds : List T_impl_Delta) (xs : List Tal) (m : Nat), (∀ d ∈ ds, SmR d.fRow) → Fine xs m → (turnsV ds xs).1.length ≤ m + ds.length ∧ talsOk (turnsV ds xs).1 = true
 | [], xs, m, _, h => ⟨h.len, h.ok⟩
 | d :: ds, xs, m, hd, h => by
  unfold turnsV
  cases hdt : dT d with
  | false => exact ⟨by simp, rfl⟩
  | true =>
   cases hk : talsOk (turnV (tOf d.fRow d.fMany) xs) with
   | false => exact ⟨by simp, rfl⟩
   | true =>
    obtain ⟨n1, n2⟩ := h.next hdt (hd d (by simp))
    obtain ⟨a, b⟩ := turns_fine ds _ (m + 1) (fun d' hd' => hd d' (by simp [hd'])) ⟨n1, n2, hk⟩
    exact ⟨by simp only [cond_true, List.length_cons]; omega, b⟩
theorem turn_okL {xs : List Tal} (h : ∀ x ∈ xs, SmR x.fKey) {ds : List T_impl_Delta} (hd : ∀ d ∈ ds, SmR d.fRow) (hl : xs.length + ds.length ≤ 1048576) : okL OkI_Tally (talTurn xs ds).1 := by
 unfold talTurn
 cases hk : talsOk xs with
 | false => exact ⟨by simp, fun x hx => by cases hx⟩
 | true =>
  obtain ⟨a, b⟩ := turns_fine ds xs xs.length hd ⟨Nat.le_refl _, h, hk⟩
  refine ⟨by rw [cond_true]; omega, fun x hx => ?_⟩
  have := (talG_row (((talsOk_iff _).1 b).1 x hx)).2.1
  exact ⟨by omega, fun _ _ => trivial⟩
theorem sz_low {a0 : List T_laws_Tally} (w0 : listW W_T_laws_Tally a0) (hl : a0.length ≤ 1048576) {r : Int} (h : laws_szTallyS a0 1048576 = some r) (h0 : 0 ≤ r) : r ≤ 1048576 - (a0.length : Int) := by
 have main : ∀ (k i f : Nat) (x : Int), i + k = a0.length → k < f → 0 ≤ x → x ≤ 1048576 → ∃ r, laws_szTallyS_l0 a0 f x (i : Int) = some r ∧ (r < 0 ∨ r ≤ x) := by
  intro k
  induction k with
  | zero =>
   intro i f x hi hf _ _
   obtain ⟨f, rfl⟩ : ∃ f', f = f' + 1 := ⟨f - 1, by omega⟩
   exact ⟨x, by rw [laws_szTallyS_l0, decide_eq_false (by omega), cond_false], .inr (Int.le_refl _)⟩
  | succ k ih =>
   intro i f x hi hf hx0 hx1
   obtain ⟨f, rfl⟩ : ∃ f', f = f' + 1 := ⟨f - 1, by omega⟩
   have hlt : i < a0.length := by omega
   obtain ⟨r1, e1, k1⟩ := sz_Tally a0[i] x (w0.2 _ (List.getElem_mem hlt)) hx0 hx1
   rw [laws_szTallyS_l0, decide_eq_true (by omega), cond_true, getI_nat, List.getElem?_eq_getElem hlt, Option.bind_some, e1, Option.bind_some]
   rcases k1 with k1 | ⟨k1, k2, _⟩
   ·rw [decide_eq_true k1, cond_true]
    exact ⟨-1, rfl, .inl (by decide)⟩
   ·rw [decide_eq_false (by omega), cond_false, succ_w hlt (by omega)]
    obtain ⟨r2, e2, k3⟩ := ih (i + 1) f r1 (by omega) (by omega) k1 (by omega)
    exact ⟨r2, e2, by omega⟩
 unfold laws_szTallyS at h
 have hw : w64 (1048576 - (a0.length : Int)) = 1048576 - (a0.length : Int) := by rw [w64_of] <;> omega
 rw [hw, decide_eq_false (by omega), cond_false] at h
 obtain ⟨r2, e2, k3⟩ := main a0.length 0 FUEL (1048576 - (a0.length : Int)) (by omega) (by unfold FUEL; omega) (by omega) (by omega)
 rw [show ((0 : Nat) : Int) = 0 from rfl] at e2
 rw [e2] at h
 cases h
 omega
theorem sz_lowD {a1 : List T_laws_Delta} (w0 : listW W_T_laws_Delta a1) (hl : a1.length ≤ 1048576) {n r : Int} (hn : n ≤ 1048576 ∧ 0 ≤ n) (h : laws_szDeltaS a1 n = some r) (h0 : 0 ≤ r) : r ≤ n - (a1.length : Int) := by
 have main : ∀ (k i f : Nat) (x : Int), i + k = a1.length → k < f → 0 ≤ x → x ≤ 1048576 → ∃ r, laws_szDeltaS_l0 a1 f x (i : Int) = some r ∧ (r < 0 ∨ r ≤ x) := by
  intro k
  induction k with
  | zero =>
   intro i f x hi hf _ _
   obtain ⟨f, rfl⟩ : ∃ f', f = f' + 1 := ⟨f - 1, by omega⟩
   exact ⟨x, by rw [laws_szDeltaS_l0, decide_eq_false (by omega), cond_false], .inr (Int.le_refl _)⟩
  | succ k ih =>
   intro i f x hi hf hx0 hx1
   obtain ⟨f, rfl⟩ : ∃ f', f = f' + 1 := ⟨f - 1, by omega⟩
   have hlt : i < a1.length := by omega
   obtain ⟨r1, e1, k1⟩ := sz_Delta a1[i] x (w0.2 _ (List.getElem_mem hlt)) hx0 hx1
   rw [laws_szDeltaS_l0, decide_eq_true (by omega), cond_true, getI_nat, List.getElem?_eq_getElem hlt, Option.bind_some, e1, Option.bind_some]
   rcases k1 with k1 | ⟨k1, k2, _⟩
   ·rw [decide_eq_true k1, cond_true]
    exact ⟨-1, rfl, .inl (by decide)⟩
   ·rw [decide_eq_false (by omega), cond_false, succ_w hlt (by omega)]
    obtain ⟨r2, e2, k3⟩ := ih (i + 1) f r1 (by omega) (by omega) k1 (by omega)
    exact ⟨r2, e2, by omega⟩
 unfold laws_szDeltaS at h
 have hw : w64 (n - (a1.length : Int)) = n - (a1.length : Int) := by rw [w64_of] <;> omega
 rw [hw] at h
 by_cases hneg : n - (a1.length : Int) < 0
 ·rw [decide_eq_true hneg, cond_true] at h
  cases h
  omega
 rw [decide_eq_false hneg, cond_false] at h
 obtain ⟨r2, e2, k3⟩ := main a1.length 0 FUEL (n - (a1.length : Int)) (by omega) (by unfold FUEL; omega) (by omega) (by omega)
 rw [show ((0 : Nat) : Int) = 0 from rfl] at e2
 rw [e2] at h
 cases h
 omega
theorem law_exTally {a0 : List T_laws_Tally} {a1 : List T_laws_Delta} (w0 : listW W_T_laws_Tally a0) (w1 : listW W_T_laws_Delta a1) : laws_FnExactTalliesTurned a0 a1 = some true := by
 unfold laws_FnExactTalliesTurned
 obtain ⟨r0, e0, k0⟩ := sz_TallyS a0 1048576 w0 (by omega) (by omega)
 rw [e0, Option.bind_some]
 rcases k0 with k0 | ⟨p0, q0, o0⟩
 ·rw [decide_eq_true k0, cond_true]
 rw [decide_eq_false (show ¬ r0 < 0 by omega), cond_false]
 obtain ⟨r1, e1, k1⟩ := sz_DeltaS a1 r0 w1 (by omega) (by omega)
 rw [e1, Option.bind_some]
 rcases k1 with k1 | ⟨p1, q1, o1⟩
 ·rw [decide_eq_true k1, cond_true]
 rw [decide_eq_false (show ¬ r1 < 0 by omega), cond_false]
 have m0 := okL_map (f := c_Tally) (ok' := OkI_Tally) (fun y hy => okL_map (f := c_Value) (ok' := OkI_Value) (fun _ _ => trivial) hy) o0
 have m1 := okL_map (f := c_Delta) (ok' := OkI_Delta) (fun y hy => okL_map (f := c_Value) (ok' := OkI_Value) (fun _ _ => trivial) hy) o1
 have hs : ∀ x ∈ a0.map c_Tally, SmR x.fKey := (okL_map (ok := Ok_Tally) (ok' := fun m => SmR m.fKey) (f := c_Tally) (fun x hx => sm_row hx) o0).2
 have hd : ∀ x ∈ a1.map c_Delta, SmR x.fRow := (okL_map (ok := Ok_Delta) (ok' := fun m => SmR m.fRow) (f := c_Delta) (fun x hx => sm_row hx) o1).2
 have ov : okL OkI_Tally (talTurn (a0.map c_Tally) (a1.map c_Delta)).1 := by
  have h1 := sz_low w0 o0.1 e0 p0
  have h2 := sz_lowD w1 o1.1 (by omega) e1 p1
  exact turn_okL hs hd (by rw [List.length_map, List.length_map]; omega)
 obtain ⟨k5, y5, g5, p5, q5, _⟩ := mk_TallyS _ 1 m0 (by omega) (by unfold TOP; omega)
 obtain ⟨k6, y6, g6, p6, q6⟩ := mk_DeltaS _ k5 m1 (by omega) (by unfold TOP; omega)
 obtain ⟨k10, y10, g10, p10, q10, h10⟩ := mk_TallyS _ 1 ov (by omega) (by unfold TOP; omega)
 have n6 : decide (k6 < 0) = false := decide_eq_false (by omega)
 have n10 : decide (k10 < 0) = false := decide_eq_false (by omega)
 simp only [to_TallyS a0 o0, to_DeltaS a1 o1, Option.bind_some, spec_talTurn m0.1 hs m1.1 hd, impl_talTurn m0.1 hs m1.1 hd, beq_self_eq_true, Bool.not_true, cond_false,
  eq_TallyS _ m0, eq_TallyS _ ov, eq_DeltaS _ m1, g5, g6, n6, laws_FnExactTalliesTurned_j0, laws_FnExactTalliesTurned_j1, laws_FnExactTalliesTurned_j2, g10, h10, n10]
end Go.D
set_option linter.unusedVariables false
namespace Go.D
open Go.ChangeShapes Go.RowKit
theorem trodAll_carry {H : Type} {enc : TypeId × Value → H} {P : Program} {w w' : World} {base : Nat} {sp : Nat → Bool} {held : Bool} : ∀ {ts : List TypeId} {vs : List Value} {ds : List (DataW H)} {ps : List MemPlace},
  DataW.TrodAll enc P w base sp held ts vs ds ps → (∀ p ∈ ps, w.sameAt w' p) → DataW.TrodAll enc P w' base sp held ts vs ds ps
 | [], [], [], _, h, _ => h
 | _ :: _, _ :: _, _ :: _, _, ⟨p, q, ⟨n, hn⟩, h2, e⟩, hs =>
  ⟨p, q, ⟨n, DataW.trod_carry n _ _ _ hn fun x hx => hs x (by rw [e]; exact List.mem_append_left _ hx)⟩, trodAll_carry h2 fun x hx => hs x (by rw [e]; exact List.mem_append_right _ hx), e⟩
theorem Kept.sameAt {w w' : World} (h : Grew w w') {p : MemPlace} (hp : p.block < w.heap.size) : w.sameAt w' p := by
 have hb := h.block p.block hp (fun h => h)
 cases p with
 | cell b off =>
  show w'.cell? ⟨b, off, none⟩ = w.cell? ⟨b, off, none⟩
  unfold World.cell?
  have hb : w'.heap[b]? = w.heap[b]? := hb
  simp only [hb]
 | map b => exact hb
theorem Kept.keptBut {w w' : World} (h : Grew w w') (may : MemPlace → Prop) : w.keptBut w' may := by
 refine ⟨h.os, h.output, fun i hi => ?_⟩
 rw [h.block i hi (fun h => h)]
 cases w.heap[i]? with
 | none => trivial
 | some o => cases o <;> simp
theorem contract_of {P : Program} {fid : FuncId} {fn : Func} {s : ChangeSpec} {tb : TypeId} {H : Type} {enc : TypeId × Value → H}
  (hK : Kids P (· < P.types.size)) (hfull : ∀ t e, t < P.types.size → P.underlying t = some (.slice e) → 0 < P.cellsOf e)
  (hp : ∀ t ∈ fn.params.toList, t < P.types.size) (hv : s.vars = []) (hr : fn.resultTypes = #[tb]) (hb : P.underlying tb = some .bool)
  {n : Nat} (hn : fn.params.toList.length = n) (hs : ∀ ds : List (DataW H), ds.length = n → s.fn H ds = { results := [.lit (.bool true)], args := ds })
  {W : World} {args : Array Value} {ds gs : List (DataW H)} {before : List MemPlace}
  (hlaw : ∀ p, DataW.TrodAll enc P W 0 (fun _ => true) true fn.params.toList args.toList ds p → ∃ ins, FrL W (fun _ => False) ins args.toList ∧ OK P fid ins (B true))
  (hW : DataW.Whole enc P fn.params.toList s.vars false W args.toList ds gs before) :
  Calls P fid args W fun e W' => ∃ v, e = .returned v ∧ s.post enc P fn false true false false W args v W' := by
 have hlt := hW.lt
 have hW' := hW
 obtain ⟨p, q, hA, hV, rfl, hfz, hnd⟩ := hW
 rw [hv] at hV
 obtain ⟨rfl, rfl⟩ := trodVars_none hV
 obtain ⟨ins, h1, h2⟩ := hlaw p hA
 have hlen : ∀ {ts : List TypeId} {vs : List Value} {ds : List (DataW H)} {ps : List MemPlace}, DataW.TrodAll enc P W 0 (fun _ => true) true ts vs ds ps → ds.length = ts.length := by
  intro ts
  induction ts with
  | nil => intro vs ds ps h; obtain ⟨_, rfl, _⟩ := trodAll_nil h; rfl
  | cons t ts ih =>
   intro vs ds ps h
   obtain ⟨_, _, _, _, _, _, rfl, rfl, rfl, _, h⟩ := trodAll_cons h
   simp [ih h]
 have hds : ds.length = n := (hlen hA).trans hn
 have hc := h2.2 W args.toList (fun _ => False) (fun b h => h.elim) h1
 have ha : args.toList.toArray = args := by simp
 rw [ha] at hc
 refine hc.mono fun e W' ⟨v, fp, he, hg, ho, _⟩ => ⟨v, he, ?_⟩
 simp only [B, Ow] at ho
 obtain ⟨rfl, rfl⟩ := ho
 have hsame : ∀ x ∈ p, W.sameAt W' x := fun x hx => Kept.sameAt hg (hlt x (by simpa using hx))
 refine ⟨ds, [], p ++ [], [], p, [], hW', ?_, ?_, ?_, Kept.keptBut hg _, fun h => by cases h⟩
 ·rw [List.append_nil, hs ds hds, hr]
  exact trodAll_mk1 (shut_bool hb true)
 ·rw [List.append_nil, hs ds hds]
  exact trodAll_carry (DataW.TrodAll.respare hK hfull hp hA fun x hx => by
   have := hlt x (by simpa using hx)
   simpa using this) hsame
 ·rw [hv, List.append_nil, hs ds hds]
  rfl
end Go.D
