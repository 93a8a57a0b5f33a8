import Derived.Test.YtpkclpjdpanekaaDXFC
import Derived.Test.YtpkclpjdpanekaaDShow
import Derived.ChangeArms
import Derived.ChangeShapes
import Derived.Deep.Slices
import Derived.Test.YtpkclpjdpanekaaDOwn3
import Derived.Test.YtpkclpjdpanekaaDNil
import Derived.Test.YtpkclpjdpanekaaDMin
import Derived.Test.YtpkclpjdpanekaaDXFC
import Derived.Test.YtpkclpjdpanekaaDXT
import Derived.OpenShut
import Derived.ReadAgain
import Derived.ProofKit
set_option linter.unusedVariables false
namespace Go.D
def Rd (P : Program) (t : TypeId) (α : Type) [Enc α] (W : α → Prop) : Prop :=
  P.cellsOf t = Enc.sz α ∧ ∀ (H : Type) (enc : TypeId × Value → H) (w : World) (base : Nat) (sp : Nat → Bool) (held : Bool) (fuel : Nat) (cs : List Value) (x : DataW H × List MemPlace), DataW.trod enc P w base sp held fuel t cs = some x →
    ∃ y : α, FrL w (fun _ => False) (Enc.cells y) cs ∧ W y
def intW (n : Int) : Prop := -9223372036854775808 ≤ n ∧ n ≤ 9223372036854775807
def boolW (_ : Bool) : Prop := True
def strW (s : ByteArray) : Prop := s.size ≤ 9223372036854775807
def listW {α : Type} (W : α → Prop) (l : List α) : Prop := l.length ≤ 9223372036854775807 ∧ ∀ x ∈ l, W x
section
variable {P : Program}
theorem rd_int {t : TypeId} (ht : P.underlying t = some (.int .i64)) (hc : P.cellsOf t = 1) : Rd P t Int intW := ⟨hc, fun H enc w base sp held fuel cs x h => by
  obtain ⟨n, rfl, _, hw⟩ := DataW.trod_int ht h
  refine ⟨n, ?_, by simpa [Lit.wf, IntKind.min, IntKind.max, IntKind.signed, IntKind.bits, intW] using hw⟩
  show FrL w _ [I n] _
  simp only [FrL]
  exact ⟨_, _, rfl, by simp only [Fr], rfl⟩⟩
theorem rd_bool {t : TypeId} (ht : P.underlying t = some .bool) (hc : P.cellsOf t = 1) : Rd P t Bool boolW := ⟨hc, fun H enc w base sp held fuel cs x h => by
  obtain ⟨b, rfl, _⟩ := DataW.trod_bool ht h
  refine ⟨b, ?_, trivial⟩
  show FrL w _ [B b] _
  simp only [FrL]
  exact ⟨_, _, rfl, by simp only [Fr], rfl⟩⟩
theorem rd_str {t : TypeId} (ht : P.underlying t = some .string) (hc : P.cellsOf t = 1) : Rd P t ByteArray strW := ⟨hc, fun H enc w base sp held fuel cs x h => by
  obtain ⟨s, rfl, _, hs⟩ := DataW.trod_string ht h
  refine ⟨s, ?_, by simpa [strW, maxLen] using hs⟩
  show FrL w _ [S s] _
  simp only [FrL]
  exact ⟨_, _, rfl, by simp only [Fr], rfl⟩⟩
theorem eL_flat {α : Type} [Enc α] {w : World} {M : Nat → Prop} : ∀ {ys : List α} {uss : List (List Value)}, ys.length = uss.length → (∀ (i : Nat) (y : α) (us : List Value), ys[i]? = some y → uss[i]? = some us → FrL w M (Enc.cells y) us) → FrL w M (eL ys) uss.flatten
  | [], [], _, _ => by simp [eL, FrL]
  | [], _ :: _, h, _ => by simp at h
  | _ :: _, [], h, _ => by simp at h
  | y :: ys, us :: uss, h, k => by
    simp only [eL, List.flatten_cons]
    exact FrL.append (k 0 y us rfl rfl) (eL_flat (by simpa using h) fun i y' us' h1 h2 => k (i + 1) y' us' (by simpa using h1) (by simpa using h2))
theorem flat_get {sz : Nat} (hsz : 0 < sz) : ∀ {uss : List (List Value)}, (∀ us ∈ uss, us.length = sz) → ∀ {j : Nat} {v : Value}, uss.flatten[j]? = some v → ∃ us, uss[j / sz]? = some us ∧ us[j % sz]? = some v
  | [], _, j, v, h => by simp at h
  | us :: uss, hl, j, v, h => by
    have h0 : us.length = sz := hl us (by simp)
    simp only [List.flatten_cons] at h
    rcases Nat.lt_or_ge j sz with hj | hj
    · rw [List.getElem?_append_left (by omega)] at h
      refine ⟨us, by rw [Nat.div_eq_of_lt hj]; rfl, by rw [Nat.mod_eq_of_lt hj]; exact h⟩
    · rw [List.getElem?_append_right (by omega), h0] at h
      obtain ⟨us', h1, h2⟩ := flat_get hsz (fun us' hu => hl us' (by simp [hu])) h
      refine ⟨us', ?_, ?_⟩
      · have : j / sz = (j - sz) / sz + 1 := by rw [Nat.div_eq_sub_div hsz hj]
        rw [this]
        simpa using h1
      · rw [Nat.mod_eq_sub_mod hj]; exact h2
theorem rd_slice {t e : TypeId} {α : Type} [Enc α] {W : α → Prop} (ht : P.underlying t = some (.slice e)) (hc : P.cellsOf t = 1) (he : Rd P e α W) : Rd P t (List α) (listW W) := ⟨hc, fun H enc w base sp held fuel cs x h => by
  obtain ⟨hce, he⟩ := he
  have hpos : 0 < Enc.sz α := Enc.pos
  have fin : ∀ (ys : List α) (v : Value), Fr w (fun _ => False) (A ys) v → listW W ys → ∃ y : List α, FrL w (fun _ => False) (Enc.cells y) [v] ∧ listW W y := fun ys v h1 h2 => ⟨ys, by
    show FrL w _ [A ys] _
    simp only [FrL]
    exact ⟨_, _, rfl, h1, rfl⟩, h2⟩
  rcases Go.Deep.open_slice ht h with ⟨rfl, _⟩ | ⟨a, len, cap, m, n, D, Pl, rfl, hb, hl, hm, hmm, _, hx⟩
  · exact fin [] _ (Fr.nil w _ _ hpos) ⟨by simp, by simp⟩
  · have hcapm : cap ≤ maxI := by simpa [maxLen, maxI] using hm
    by_cases h0 : len = 0
    · subst h0
      refine fin [] _ ?_ ⟨by simp, by simp⟩
      simp only [Fr]
      exact ⟨some a, cap, rfl, ⟨hpos, by simp [eL], by simp, hcapm, fun h => by cases h⟩, .inl rfl⟩
    · have hlm : len ≤ m := by rw [hmm]; split <;> omega
      have hel : ∀ i, i < len → ∃ p : List Value × α, w.cells? base (a.add (i * P.cellsOf e)) (P.cellsOf e) = some p.1 ∧ FrL w (fun _ => False) (Enc.cells p.2) p.1 ∧ W p.2 := by
        intro i hi
        obtain ⟨cs', h1, h2⟩ := hx i (by omega)
        obtain ⟨y, h3, h4⟩ := he H enc w base sp held n cs' _ h2
        exact ⟨(cs', y), h1, h3, h4⟩
      obtain ⟨p0, hp0⟩ := hel 0 (by omega)
      haveI : Inhabited (List Value × α) := ⟨p0⟩
      obtain ⟨F, hF⟩ := Go.Deep.choose_lt (α := List Value × α) (p := fun i p => w.cells? base (a.add (i * P.cellsOf e)) (P.cellsOf e) = some p.1 ∧ FrL w (fun _ => False) (Enc.cells p.2) p.1 ∧ W p.2) hel
      let ys : List α := (List.range len).map fun i => (F i).2
      let uss : List (List Value) := (List.range len).map fun i => (F i).1
      have hul : ∀ us ∈ uss, us.length = Enc.sz α := by
        intro us hu
        obtain ⟨i, hi, rfl⟩ := List.mem_map.1 hu
        have := (World.cells?_some (hF i (List.mem_range.1 hi)).1).2.1
        rw [this, hce]
      have hys : ys.length = len := by simp [ys]
      have hfl : FrL w (fun _ => False) (eL ys) uss.flatten := eL_flat (by simp [ys, uss]) fun i y us h1 h2 => by
        simp only [ys, uss, List.getElem?_map] at h1 h2
        have hi : i < len := by
          cases hr : (List.range len)[i]? with
          | none => rw [hr] at h1; cases h1
          | some k => have := (List.getElem?_eq_some_iff.1 hr).1; simpa using this
        rw [List.getElem?_range hi] at h1 h2
        simp only [Option.map_some, Option.some.injEq] at h1 h2
        rw [← h1, ← h2]
        exact (hF i hi).2.1
      have hul0 : ((F 0).1).length = Enc.sz α := hul _ (List.mem_map.2 ⟨0, by simp; omega, rfl⟩)
      have h00 : ∃ v, w.cell? a = some v := by
        have h1 := (World.cells?_some (hF 0 (by omega)).1).2.2 0 (by rw [hce]; exact hpos)
        rw [List.getElem?_eq_getElem (by omega)] at h1
        refine ⟨_, Eq.trans ?_ h1⟩
        simp [Addr.add]
      obtain ⟨v00, hv00⟩ := h00
      have hspot : a.spot = none := World.cell?_spot hv00
      obtain ⟨ab, ao, as_⟩ := a
      simp only at hspot
      subst hspot
      have hcell : ∀ i j, i < len → j < Enc.sz α → w.cell? ⟨ab, ao + (i * Enc.sz α + j), none⟩ = ((F i).1)[j]? := by
        intro i j hi hj
        have := (World.cells?_some (hF i hi).1).2.2 j (by rw [hce]; exact hj)
        rw [hce] at this
        rw [← this]
        congr 1
        unfold Addr.add
        split <;> split <;> simp_all <;> omega
      refine fin ys _ ?_ ⟨by rw [hys]; simp only [maxI] at hcapm; omega, fun y hy => by
        obtain ⟨i, hi, rfl⟩ := List.mem_map.1 hy
        exact (hF i (List.mem_range.1 hi)).2.2⟩
      simp only [Fr]
      refine ⟨some ⟨ab, ao, none⟩, cap, by rw [hys], ⟨hpos, by rw [eL_len], by rw [hys]; exact hl, hcapm, fun h => by cases h⟩, .inr ⟨ab, ao, uss.flatten, rfl, World.block_lt_of_cell? _ _ hv00, fun h => h, hfl, fun j hj => ?_⟩⟩
      obtain ⟨us, h1, h2⟩ := flat_get hpos hul (List.getElem?_eq_getElem hj)
      have hi : j / Enc.sz α < len := by
        have := (List.getElem?_eq_some_iff.1 h1).1
        simpa [uss] using this
      simp only [uss, List.getElem?_map, List.getElem?_range hi, Option.map_some, Option.some.injEq] at h1
      have := hcell (j / Enc.sz α) (j % Enc.sz α) hi (Nat.mod_lt _ hpos)
      rw [h1, h2] at this
      have e1 : j / Enc.sz α * Enc.sz α + j % Enc.sz α = j := by rw [Nat.mul_comm]; exact Nat.div_add_mod j _
      rw [e1] at this
      rw [List.getElem?_eq_getElem hj, ← this]⟩
end
end Go.D
set_option linter.unusedVariables false
namespace Go.D
theorem w64_of {n : Int} (h1 : -9223372036854775808 ≤ n) (h2 : n ≤ 9223372036854775807) : w64 n = n := by
  have hm : IntKind.i64.min = -9223372036854775808 := by decide
  have hM : IntKind.i64.max = 9223372036854775807 := by decide
  simp [w64, IntKind.wrap, IntKind.signed, IntKind.bits]
  omega
theorem getI_nat {α : Type} {xs : List α} {i : Nat} : getI xs (i : Int) = xs[i]? := by
  unfold getI
  rw [if_pos (by omega), Int.toNat_natCast]
theorem getI_lt {α : Type} {xs : List α} {i : Int} (h0 : 0 ≤ i) (h1 : i < xs.length) : ∃ x, getI xs i = some x ∧ xs[i.toNat]? = some x := by
  unfold getI
  rw [if_pos h0]
  have : i.toNat < xs.length := by omega
  exact ⟨xs[i.toNat], by rw [List.getElem?_eq_getElem this], by rw [List.getElem?_eq_getElem this]⟩
theorem app_lt {α : Type} {xs ys : List α} (h : xs.length + ys.length < 68719476736) : app xs ys = some (xs ++ ys) := if_pos h
theorem succ_w {i n : Nat} (h : i < n) (hn : n ≤ 70368744177663) : w64 ((i : Int) + 1) = ((i + 1 : Nat) : Int) := by
  rw [w64_of (by omega) (by omega)]
  omega
theorem loop_all {α : Type} {xs : List α} {L : Nat → Int → Option Bool} {p : α → Bool} {fin : Bool} (hlen : xs.length ≤ 70368744177662)
    (h : ∀ (f i : Nat) (v : α), i < xs.length → xs[i]? = some v → w64 ((i : Int) + 1) = ((i + 1 : Nat) : Int) → L (f + 1) i = bif p v then L f ((i + 1 : Nat) : Int) else some false)
    (he : ∀ f, L (f + 1) (xs.length : Int) = some fin) : L FUEL 0 = some (xs.all p && fin) := by
  have main : ∀ (k f i : Nat), i + k = xs.length → k < f → L f (i : Int) = some ((xs.drop i).all p && fin) := by
    intro k
    induction k with
    | zero =>
      intro f i hi hf
      obtain ⟨f, rfl⟩ : ∃ f', f = f' + 1 := ⟨f - 1, by omega⟩
      have : i = xs.length := by omega
      subst this
      rw [he, List.drop_length]
      simp
    | succ k ih =>
      intro f i hi hf
      obtain ⟨f, rfl⟩ : ∃ f', f = f' + 1 := ⟨f - 1, by omega⟩
      have hlt : i < xs.length := by omega
      rw [h f i xs[i] hlt (List.getElem?_eq_getElem hlt) (succ_w hlt (by omega)), ih f (i + 1) (by omega) (by omega), List.drop_eq_getElem_cons hlt, List.all_cons]
      cases p xs[i] <;> simp
  have := main xs.length FUEL 0 (by omega) (by unfold FUEL; omega)
  simpa using this
theorem loop_find {α : Type} {xs : List α} {L : Nat → Int → Option Int} {p : α → Bool} (hlen : xs.length ≤ 70368744177662)
    (h : ∀ (f i : Nat) (v : α), i < xs.length → xs[i]? = some v → w64 ((i : Int) + 1) = ((i + 1 : Nat) : Int) → L (f + 1) i = bif p v then some (i : Int) else L f ((i + 1 : Nat) : Int))
    (he : ∀ f, L (f + 1) (xs.length : Int) = some (-1)) : ∃ r, L FUEL 0 = some r ∧ decide (r ≥ 0) = xs.any p := by
  have main : ∀ (k f i : Nat), i + k = xs.length → k < f → ∃ r, L f (i : Int) = some r ∧ decide (r ≥ 0) = (xs.drop i).any p := by
    intro k
    induction k with
    | zero =>
      intro f i hi hf
      obtain ⟨f, rfl⟩ : ∃ f', f = f' + 1 := ⟨f - 1, by omega⟩
      have : i = xs.length := by omega
      subst this
      rw [he, List.drop_length]
      exact ⟨_, rfl, by simp⟩
    | succ k ih =>
      intro f i hi hf
      obtain ⟨f, rfl⟩ : ∃ f', f = f' + 1 := ⟨f - 1, by omega⟩
      have hlt : i < xs.length := by omega
      rw [h f i xs[i] hlt (List.getElem?_eq_getElem hlt) (succ_w hlt (by omega)), List.drop_eq_getElem_cons hlt, List.any_cons]
      cases hp : p xs[i] with
      | true => exact ⟨_, rfl, by simp⟩
      | false =>
        obtain ⟨r, h1, h2⟩ := ih f (i + 1) (by omega) (by omega)
        exact ⟨r, h1, by simp [h2]⟩
  have := main xs.length FUEL 0 (by omega) (by unfold FUEL; omega)
  simpa using this
theorem loop_rec {α σ β : Type} {xs : List α} {L : Nat → Int → σ → Option β} (R : List α → σ → β) (Inv : Nat → σ → Prop) (hlen : xs.length ≤ 70368744177662)
    (h : ∀ (f i : Nat) (s : σ) (v : α) (rest : List α), i < xs.length → xs[i]? = some v → w64 ((i : Int) + 1) = ((i + 1 : Nat) : Int) → Inv i s →
      L (f + 1) i s = some (R (v :: rest) s) ∨ ∃ s', Inv (i + 1) s' ∧ L (f + 1) i s = L f ((i + 1 : Nat) : Int) s' ∧ R (v :: rest) s = R rest s')
    (he : ∀ f s, Inv xs.length s → L (f + 1) (xs.length : Int) s = some (R [] s)) {s : σ} (h0 : Inv 0 s) : L FUEL 0 s = some (R xs s) := by
  have main : ∀ (k f i : Nat) (s : σ), i + k = xs.length → k < f → Inv i s → L f (i : Int) s = some (R (xs.drop i) s) := by
    intro k
    induction k with
    | zero =>
      intro f i s hi hf hI
      obtain ⟨f, rfl⟩ : ∃ f', f = f' + 1 := ⟨f - 1, by omega⟩
      have : i = xs.length := by omega
      subst this
      rw [he _ _ hI, List.drop_length]
    | succ k ih =>
      intro f i s hi hf hI
      obtain ⟨f, rfl⟩ : ∃ f', f = f' + 1 := ⟨f - 1, by omega⟩
      have hlt : i < xs.length := by omega
      rw [List.drop_eq_getElem_cons hlt]
      rcases h f i s xs[i] (xs.drop (i + 1)) hlt (List.getElem?_eq_getElem hlt) (succ_w hlt (by omega)) hI with h1 | ⟨s', h1, h2, h3⟩
      · exact h1
      · rw [h2, h3]
        exact ih f (i + 1) s' (by omega) (by omega) h1
  have := main xs.length FUEL 0 s (by omega) (by unfold FUEL; omega) h0
  simpa using this
theorem loop_q {α σ β : Type} {xs : List α} {L : Nat → Int → σ → Option β} (Q : List α → σ → β → Prop) (Inv : Nat → σ → Prop) (hlen : xs.length ≤ 70368744177662)
    (h : ∀ (f i : Nat) (s : σ) (v : α) (rest : List α), i + (rest.length + 1) = xs.length → i < xs.length → xs[i]? = some v → w64 ((i : Int) + 1) = ((i + 1 : Nat) : Int) → Inv i s →
      (∃ y, L (f + 1) i s = some y ∧ Q (v :: rest) s y) ∨ ∃ s', Inv (i + 1) s' ∧ L (f + 1) i s = L f ((i + 1 : Nat) : Int) s' ∧ ∀ y, Q rest s' y → Q (v :: rest) s y)
    (he : ∀ f s, Inv xs.length s → ∃ y, L (f + 1) (xs.length : Int) s = some y ∧ Q [] s y) {s : σ} (h0 : Inv 0 s) : ∃ y, L FUEL 0 s = some y ∧ Q xs s y := by
  have main : ∀ (k f i : Nat) (s : σ), i + k = xs.length → k < f → Inv i s → ∃ y, L f (i : Int) s = some y ∧ Q (xs.drop i) s y := by
    intro k
    induction k with
    | zero =>
      intro f i s hi hf hI
      obtain ⟨f, rfl⟩ : ∃ f', f = f' + 1 := ⟨f - 1, by omega⟩
      have : i = xs.length := by omega
      subst this
      rw [List.drop_length]
      exact he _ _ hI
    | succ k ih =>
      intro f i s hi hf hI
      obtain ⟨f, rfl⟩ : ∃ f', f = f' + 1 := ⟨f - 1, by omega⟩
      have hlt : i < xs.length := by omega
      rw [List.drop_eq_getElem_cons hlt]
      rcases h f i s xs[i] (xs.drop (i + 1)) (by rw [List.length_drop]; omega) hlt (List.getElem?_eq_getElem hlt) (succ_w hlt (by omega)) hI with h1 | ⟨s', h1, h2, h3⟩
      · exact h1
      · obtain ⟨y, h4, h5⟩ := ih f (i + 1) s' (by omega) (by omega) h1
        exact ⟨y, h2.trans h4, h3 y h5⟩
  have := main xs.length FUEL 0 s (by omega) (by unfold FUEL; omega) h0
  simpa using this
def okL {α : Type} (ok : α → Prop) (xs : List α) : Prop := xs.length ≤ 1048576 ∧ ∀ x ∈ xs, ok x
def SzP {α : Type} (z : α → Int → Option Int) (W ok : α → Prop) : Prop := ∀ x n, W x → 0 ≤ n → n ≤ 1048576 → ∃ r, z x n = some r ∧ (r < 0 ∨ (0 ≤ r ∧ r ≤ n ∧ ok x))
theorem sz_cut {k : Nat} {n : Int} (hk : k ≤ 9223372036854775807) (h0 : 0 ≤ n) (hn : n ≤ 1048576) : w64 (n - (k : Int)) = n - k := w64_of (by omega) (by omega)
theorem sz_one {α : Type} {z : α → Int → Option Int} {W : α → Prop} (k : α → Nat) (hk : ∀ x, W x → k x ≤ 9223372036854775807)
    (hz : ∀ x n, z x n = bif (decide (w64 (n - ((k x : Nat) : Int)) < 0)) then some (-1) else some (w64 (n - ((k x : Nat) : Int)))) : SzP z W (fun x => k x ≤ 1048576) := by
  intro x n hW h0 hn
  rw [hz, sz_cut (hk x hW) h0 hn]
  by_cases h : n - (k x : Int) < 0
  · exact ⟨-1, by rw [decide_eq_true h, cond_true], .inl (by omega)⟩
  · exact ⟨n - k x, by rw [decide_eq_false h, cond_false], .inr ⟨by omega, by omega, by simp only; omega⟩⟩
theorem sz_flat {α : Type} {S : List α → Int → Option Int} {W ok : α → Prop} (hok : ∀ x, ok x) (hb : ∀ xs, listW W xs → xs.length ≤ 9223372036854775807)
    (hz : ∀ x n, S x n = bif (decide (w64 (n - ((x.length : Nat) : Int)) < 0)) then some (-1) else some (w64 (n - ((x.length : Nat) : Int)))) : SzP S (listW W) (okL ok) := by
  intro x n hW h0 hn
  obtain ⟨r, h1, h2⟩ := sz_one (z := S) (W := listW W) (fun x => x.length) hb hz x n hW h0 hn
  exact ⟨r, h1, h2.imp id fun h => ⟨h.1, h.2.1, h.2.2, fun x _ => hok x⟩⟩
theorem sz_loop {α : Type} {z : α → Int → Option Int} {S : List α → Int → Option Int} {L : List α → Nat → Int → Int → Option Int} {W ok : α → Prop} (hz : SzP z W ok)
    (hS : ∀ a n, S a n = bif (decide (w64 (n - ((a.length : Nat) : Int)) < 0)) then some (-1) else L a FUEL (w64 (n - ((a.length : Nat) : Int))) 0)
    (hL : ∀ a f n i, L a (f + 1) n i = bif (decide (i < ((a.length : Nat) : Int))) then (getI a i).bind fun v => (z v n).bind fun r => bif (decide (r < 0)) then some (-1) else L a f r (w64 (i + 1)) else some n) :
    SzP S (listW W) (okL ok) := by
  intro x n hW h0 hn
  rw [hS, sz_cut hW.1 h0 hn]
  by_cases h : n - (x.length : Int) < 0
  · exact ⟨-1, by rw [decide_eq_true h, cond_true], .inl (by omega)⟩
  rw [decide_eq_false h, cond_false]
  have key := loop_q (xs := x) (L := fun f i (m : Int) => L x f m i) (fun rest m y => y < 0 ∨ (0 ≤ y ∧ y ≤ m ∧ ∀ v ∈ rest, ok v)) (fun i m => 0 ≤ m ∧ m ≤ n) (by omega)
    (fun f i m v rest hr hi hv hw hI => by
      have hlt : (i : Int) < x.length := by omega
      obtain ⟨r, h1, h2⟩ := hz v m (hW.2 v (List.mem_of_getElem? hv)) hI.1 (by omega)
      rcases h2 with h2 | ⟨h2, h3, h4⟩
      · refine .inl ⟨-1, ?_, .inl (by omega)⟩
        simp only [hL, hlt, decide_true, cond_true, getI_nat, hv, Option.bind_some, h1, h2]
      · refine .inr ⟨r, ⟨h2, by omega⟩, ?_, fun y hy => ?_⟩
        · have : ¬ r < 0 := by omega
          simp only [hL, hlt, decide_true, cond_true, getI_nat, hv, Option.bind_some, h1, this, decide_false, cond_false, hw]
        · rcases hy with hy | ⟨hy1, hy2, hy3⟩
          · exact .inl hy
          · refine .inr ⟨hy1, by omega, fun u hu => ?_⟩
            rcases List.mem_cons.1 hu with rfl | hu
            · exact h4
            · exact hy3 u hu)
    (fun f m hI => ⟨m, by simp only [hL, Int.lt_irrefl, decide_false, cond_false], .inr ⟨hI.1, Int.le_refl _, fun v hv => by cases hv⟩⟩) (s := n - (x.length : Int)) ⟨by omega, by omega⟩
  obtain ⟨y, h1, h2⟩ := key
  exact ⟨y, h1, h2.imp id fun h' => ⟨h'.1, by omega, by omega, h'.2.2⟩⟩
theorem to_loop {α β : Type} {c : α → β} {t : α → Option β} {S : List α → Option (List β)} {L : List α → Nat → Int → List β → Option (List β)} {d : β} {ok : α → Prop} (ht : ∀ x, ok x → t x = some (c x))
    (hS : ∀ a, S a = (mkI ((a.length : Nat) : Int) d).bind fun v => L a FUEL 0 v)
    (hL : ∀ a f i st, L a (f + 1) i st = bif (decide (i < ((a.length : Nat) : Int))) then (getI a i).bind fun v => (t v).bind fun y => (getI st i).bind fun _ => L a f (w64 (i + 1)) (st.set i.toNat y) else some st) :
    ∀ xs, okL ok xs → S xs = some (xs.map c) := by
  intro xs hx
  have hl := hx.1
  rw [hS, mkI, if_pos (by omega), Option.bind_some]
  have key := loop_q (xs := xs) (L := fun f i (st : List β) => L xs f i st) (fun rest st y => y = st.take (st.length - rest.length) ++ rest.map c) (fun i st => st.length = xs.length) (by omega)
    (fun f i st v rest hr hi hv hw hI => by
      have hlt : (i : Int) < xs.length := by omega
      obtain ⟨o, ho, _⟩ := getI_lt (xs := st) (i := (i : Int)) (by omega) (by omega)
      refine .inr ⟨st.set i (c v), by rw [List.length_set]; exact hI, ?_, fun y hy => ?_⟩
      · rw [hL, decide_eq_true hlt, cond_true, getI_nat, hv, Option.bind_some, ht v (hx.2 v (List.mem_of_getElem? hv)), Option.bind_some, ho, Option.bind_some, hw, Int.toNat_natCast]
      · have e1 : (st.set i (c v)).length - rest.length = i + 1 := by rw [List.length_set]; omega
        have e2 : st.length - (v :: rest).length = i := by simp only [List.length_cons]; omega
        rw [e1] at hy
        rw [e2, hy, List.take_add_one, List.take_set_of_le (Nat.le_refl i), List.getElem?_set_self (by omega)]
        simp)
    (fun f st hI => ⟨st, by simp only [hL, Int.lt_irrefl, decide_false, cond_false], by simp⟩) (s := List.replicate ((xs.length : Int)).toNat d) (by simp)
  obtain ⟨y, h1, h2⟩ := key
  rw [h1, h2]
  simp
theorem eq_loop {β : Type} {e : β → β → Option Bool} {S : List β → List β → Option Bool} {L : List β → List β → Nat → Int → Option Bool} {ok : β → Prop} (he : ∀ x, ok x → e x x = some true)
    (hS : ∀ a b, S a b = bif (!(((a.length : Nat) : Int) == ((b.length : Nat) : Int))) then some false else L a b FUEL 0)
    (hL : ∀ a b f i, L a b (f + 1) i = bif (decide (i < ((a.length : Nat) : Int))) then (getI a i).bind fun v => (getI b i).bind fun u => (e v u).bind fun r => bif (!r) then some false else L a b f (w64 (i + 1)) else some true) :
    ∀ xs, okL ok xs → S xs xs = some true := by
  intro xs hx
  have hl := hx.1
  rw [hS, beq_self_eq_true, Bool.not_true, cond_false]
  have := loop_all (xs := xs) (L := fun f i => L xs xs f i) (p := fun _ => true) (fin := true) (by omega) (fun f i v hi hv hw => by
    have hlt : (i : Int) < xs.length := by omega
    simp only [hL, hlt, decide_true, cond_true, getI_nat, hv, Option.bind_some, he v (hx.2 v (List.mem_of_getElem? hv)), Bool.not_true, cond_false, hw]) (fun f => by
    simp only [hL, Int.lt_irrefl, decide_false, cond_false])
  rw [this]
  simp
def Yes {γ : Type} (m : Option γ) (y : γ × Bool) : Prop := (m = none ∧ y.2 = false) ∨ ∃ c, m = some c ∧ y = (c, true)
end Go.D
set_option linter.unusedVariables false
namespace Go.D
abbrev Sm (n : Nat) : Prop := n ≤ 2097152
def inR (a b c : Int) : Bool := decide (b ≤ a) && decide (a ≤ c)
theorem spec_in (a b c : Int) : spec_l1In a b c = some (inR a b c) := by
  unfold spec_l1In inR
  by_cases h : b ≤ a <;> simp [h]
theorem impl_in (a b c : Int) : impl_between a b c = some (inR a b c) := by
  unfold impl_between inR
  by_cases h : b ≤ a <;> simp [h]
def colsOk (cs : List T_impl_Column) : Bool := cs.all (fun c => inR c.fKind 1 3) && decide (cs.length ≤ 4)
theorem spec_colsOk {cs : List T_impl_Column} (h : Sm cs.length) : spec_ColumnsOk cs = some (colsOk cs) := by
  unfold spec_ColumnsOk colsOk
  refine loop_all (by omega) (fun f i v hi hv hw => ?_) (fun f => ?_)
  · have : (i : Int) < cs.length := by omega
    simp only [spec_ColumnsOk_l0, this, decide_true, cond_true, getI_nat, hv, Option.bind_some, spec_in, hw]
    cases inR v.fKind 1 3 <;> rfl
  · simp only [spec_ColumnsOk_l0, Int.lt_irrefl, decide_false, cond_false]
    congr 1
    simp only [decide_eq_decide]
    omega
theorem impl_colsAny {cs : List T_impl_Column} (h : Sm cs.length) : slices_ContainsFunc_impl_Column_impl_Column cs impl_ColumnsOk_1 = some (cs.any fun c => !(inR c.fKind 1 3)) := by
  unfold slices_ContainsFunc_impl_Column_impl_Column slices_IndexFunc_impl_Column_impl_Column
  obtain ⟨r, h1, h2⟩ := loop_find (xs := cs) (L := slices_IndexFunc_impl_Column_impl_Column_l0 cs impl_ColumnsOk_1) (p := fun c => !(inR c.fKind 1 3)) (by omega) (fun f i v hi hv hw => by
    have : (i : Int) < cs.length := by omega
    simp only [slices_IndexFunc_impl_Column_impl_Column_l0, this, decide_true, cond_true, getI_nat, hv, Option.bind_some, impl_ColumnsOk_1, impl_in, hw]) (fun f => by
    simp only [slices_IndexFunc_impl_Column_impl_Column_l0, Int.lt_irrefl, decide_false, cond_false])
  rw [h1, Option.bind_some, h2]
theorem not_any_not {α : Type} (xs : List α) (p : α → Bool) : (!(xs.any fun x => !(p x))) = xs.all p := by
  induction xs with
  | nil => rfl
  | cons x xs ih => simp [← ih]
theorem impl_colsOk {cs : List T_impl_Column} (h : Sm cs.length) : impl_ColumnsOk cs = some (colsOk cs) := by
  unfold impl_ColumnsOk colsOk
  rw [impl_colsAny h, Option.bind_some, not_any_not]
  by_cases h4 : cs.length ≤ 4
  · have : (cs.length : Int) ≤ 4 := by omega
    simp [h4, this]
  · have : ¬ (cs.length : Int) ≤ 4 := by omega
    simp [h4, this]
theorem cast_le6 (n : Nat) : decide ((n : Int) ≤ 6) = decide (n ≤ 6) := by
  simp only [decide_eq_decide]
  omega
theorem getB_nat {s : ByteArray} {i : Nat} : getB s (i : Int) = s.data.toList[i]? := by
  unfold getB
  rw [if_pos (by omega), Int.toNat_natCast]
  by_cases h : i < s.size
  · rw [getElem?_pos s i h, List.getElem?_eq_getElem (by simpa using h)]
    simp only [Option.some.injEq]
    rfl
  · rw [getElem?_neg s i h, List.getElem?_eq_none (by simpa using h)]
def letter (b : UInt8) : Bool := decide (97 ≤ b.toNat) && decide (b.toNat ≤ 122)
def textOk (s : ByteArray) : Bool := s.data.toList.all letter && decide (s.size ≤ 6)
theorem size_list (s : ByteArray) : s.data.toList.length = s.size := Array.length_toList
theorem spec_text {s : ByteArray} (h : Sm s.size) : spec_l1Text s = some (textOk s) := by
  unfold spec_l1Text textOk
  have hl := size_list s
  refine loop_all (xs := s.data.toList) (by omega) (fun f i v hi hv hw => ?_) (fun f => ?_)
  · have : (i : Int) < s.size := by omega
    simp only [spec_l1Text_l0, this, decide_true, cond_true, getB_nat, hv, Option.bind_some, spec_l1Text_j1, hw]
    unfold letter
    by_cases h1 : (v.toNat : Int) < 97
    · have : ¬ 97 ≤ v.toNat := by omega
      simp [h1, this]
    · have h1' : 97 ≤ v.toNat := by omega
      by_cases h2 : (v.toNat : Int) > 122
      · have : ¬ v.toNat ≤ 122 := by omega
        simp [h1, h1', h2, this]
      · have : v.toNat ≤ 122 := by omega
        simp [h1, h1', h2, this]
  · rw [hl]
    unfold spec_l1Text_l0
    rw [show decide ((s.size : Int) < (s.size : Int)) = false from decide_eq_false (Int.lt_irrefl _), cond_false, cast_le6]
theorem impl_lettersOk {s : ByteArray} (h : Sm s.size) : impl_letters s = some (s.data.toList.all letter) := by
  have hl := size_list s
  unfold impl_letters bytesOf
  rw [if_pos (by omega), Option.bind_some, ← Bool.and_true (s.data.toList.all letter)]
  refine loop_all (xs := s.data.toList) (by omega) (fun f i v hi hv hw => ?_) (fun f => ?_)
  · have : (i : Int) < s.data.toList.length := by omega
    have hb : v.toNat < 256 := v.toNat_lt
    have h1 : w64 (v.toNat : Int) = v.toNat := w64_of (by omega) (by omega)
    simp only [impl_letters_l0, this, decide_true, cond_true, getI_nat, hv, Option.bind_some, impl_in, hw, h1]
    have : inR (v.toNat : Int) 97 122 = letter v := by
      unfold inR letter
      congr 1 <;> simp only [decide_eq_decide] <;> omega
    rw [this]
    cases letter v <;> rfl
  · simp only [impl_letters_l0, Int.lt_irrefl, decide_false, cond_false]
def valOk (v : T_impl_Value) : Bool := bif v.fKind == 0 then v.fN == 0 && v.fS.toList == (ByteArray.mk #[]).toList else bif v.fKind == 1 then inR v.fN (-9999) 9999 && v.fS.toList == (ByteArray.mk #[]).toList else
  bif v.fKind == 2 then v.fN == 0 && textOk v.fS else bif v.fKind == 3 then inR v.fN 0 1 && v.fS.toList == (ByteArray.mk #[]).toList else false
theorem spec_value {v : T_impl_Value} (h : Sm v.fS.size) : spec_ValueOk v = some (valOk v) := by
  unfold spec_ValueOk valOk
  simp only [spec_in, spec_text h, Option.bind_some]
  cases v.fKind == 0 <;> cases v.fKind == 1 <;> cases v.fKind == 2 <;> cases v.fKind == 3 <;> cases v.fN == 0 <;> cases inR v.fN (-9999) 9999 <;> cases inR v.fN 0 1 <;> rfl
theorem impl_value {v : T_impl_Value} (h : Sm v.fS.size) : impl_Value_ok v = some (valOk v) := by
  unfold impl_Value_ok valOk
  simp only [impl_in, impl_lettersOk h, Option.bind_some]
  have e : eq_T_impl_Value v ((T_impl_Value.mk 0 0 (ByteArray.mk #[]))) = (v.fKind == 0 && (v.fN == 0 && v.fS.toList == (ByteArray.mk #[]).toList)) := rfl
  have e2 : decide ((v.fS.size : Int) ≤ 6) = decide (v.fS.size ≤ 6) := by
    simp only [decide_eq_decide]
    omega
  have e3 : textOk v.fS = (v.fS.data.toList.all letter && decide (v.fS.size ≤ 6)) := rfl
  rw [e, e2, e3]
  cases v.fKind == 0 <;> cases v.fKind == 1 <;> cases v.fKind == 2 <;> cases v.fKind == 3 <;> cases v.fN == 0 <;> cases inR v.fN (-9999) 9999 <;> cases inR v.fN 0 1 <;> cases v.fS.toList == (ByteArray.mk #[]).toList <;>
    cases decide (v.fS.size ≤ 6) <;> cases v.fS.data.toList.all letter <;> rfl
def SmV (v : T_impl_Value) : Prop := Sm v.fS.size
def SmR (r : List T_impl_Value) : Prop := Sm r.length ∧ ∀ v ∈ r, SmV v
def rowOk (r : List T_impl_Value) : Bool := r.all valOk && decide (r.length ≤ 4)
theorem spec_rowOk {r : List T_impl_Value} (h : SmR r) : spec_RowOk r = some (rowOk r) := by
  unfold spec_RowOk rowOk
  have hl := h.1
  refine loop_all (by omega) (fun f i v hi hv hw => ?_) (fun f => ?_)
  · have : (i : Int) < r.length := by omega
    simp only [spec_RowOk_l0, this, decide_true, cond_true, getI_nat, hv, Option.bind_some, spec_value (h.2 v (List.mem_of_getElem? hv)), hw]
    cases valOk v <;> rfl
  · simp only [spec_RowOk_l0, Int.lt_irrefl, decide_false, cond_false]
    congr 1
    simp only [decide_eq_decide]
    omega
theorem impl_rowAny {r : List T_impl_Value} (h : SmR r) : slices_ContainsFunc_impl_Value_impl_Value r impl_RowOk_1 = some (r.any fun v => !(valOk v)) := by
  unfold slices_ContainsFunc_impl_Value_impl_Value slices_IndexFunc_impl_Value_impl_Value
  have hl := h.1
  obtain ⟨x, h1, h2⟩ := loop_find (xs := r) (L := slices_IndexFunc_impl_Value_impl_Value_l0 r impl_RowOk_1) (p := fun v => !(valOk v)) (by omega) (fun f i v hi hv hw => by
    have : (i : Int) < r.length := by omega
    simp only [slices_IndexFunc_impl_Value_impl_Value_l0, this, decide_true, cond_true, getI_nat, hv, Option.bind_some, impl_RowOk_1, impl_value (h.2 v (List.mem_of_getElem? hv)), hw]) (fun f => by
    simp only [slices_IndexFunc_impl_Value_impl_Value_l0, Int.lt_irrefl, decide_false, cond_false])
  rw [h1, Option.bind_some, h2]
theorem le4 {α : Type} (xs : List α) : decide ((xs.length : Int) ≤ 4) = decide (xs.length ≤ 4) := by
  simp only [decide_eq_decide]
  omega
theorem impl_rowOk {r : List T_impl_Value} (h : SmR r) : impl_RowOk r = some (rowOk r) := by
  unfold impl_RowOk rowOk
  rw [impl_rowAny h, Option.bind_some, not_any_not, le4]
  cases decide (r.length ≤ 4) <;> simp
def fits (c : T_impl_Column) (v : T_impl_Value) : Bool := v.fKind == c.fKind || (v.fKind == 0 && c.fEmpty)
def rowFits (cs : List T_impl_Column) (r : List T_impl_Value) : Bool := colsOk cs && (rowOk r && (r.length == cs.length && (r.zip cs).all fun p => fits p.2 p.1))
theorem zip_get {α β : Type} {xs : List α} {ys : List β} (h : xs.length = ys.length) {i : Nat} {p : α × β} (hp : (xs.zip ys)[i]? = some p) : xs[i]? = some p.1 ∧ ys[i]? = some p.2 := by
  rw [List.getElem?_zip_eq_some] at hp
  exact hp
theorem spec_rowFits {cs : List T_impl_Column} {r : List T_impl_Value} (hc : Sm cs.length) (h : SmR r) : spec_RowFits cs r = some (rowFits cs r) := by
  unfold spec_RowFits rowFits
  rw [spec_colsOk hc, Option.bind_some, spec_rowOk h, Option.bind_some]
  cases colsOk cs
  · rfl
  · cases rowOk r
    · rfl
    · by_cases he : r.length = cs.length
      · have e1 : ((r.length : Int) == (cs.length : Int)) = true := by simp [he]
        have e2 : (r.length == cs.length) = true := by simp [he]
        rw [e1, e2]
        simp only [Bool.not_true, cond_false, spec_RowFits_j0, Bool.true_and]
        have hl := h.1
        have hz : (r.zip cs).length = r.length := by simp [he]
        rw [show (r.zip cs).all (fun p => fits p.2 p.1) = ((r.zip cs).all (fun p => fits p.2 p.1) && true) by simp]
        refine loop_all (xs := r.zip cs) (by omega) (fun f i p hi hp hw => ?_) (fun f => ?_)
        · obtain ⟨p1, p2⟩ := zip_get he hp
          have : (i : Int) < r.length := by omega
          simp only [spec_RowFits_l1, this, decide_true, cond_true, getI_nat, p1, p2, Option.bind_some, spec_RowFits_j2, hw, fits]
          cases p.1.fKind == p.2.fKind <;> cases p.1.fKind == 0 <;> cases p.2.fEmpty <;> rfl
        · rw [hz]
          simp only [spec_RowFits_l1, Int.lt_irrefl, decide_false, cond_false]
      · have e1 : ((r.length : Int) == (cs.length : Int)) = false := by
          simp only [beq_eq_false_iff_ne, ne_eq]
          omega
        have e2 : (r.length == cs.length) = false := by simp [he]
        rw [e1, e2]
        rfl
theorem impl_rowFits {cs : List T_impl_Column} {r : List T_impl_Value} (hc : Sm cs.length) (h : SmR r) : impl_RowFits cs r = some (rowFits cs r) := by
  unfold impl_RowFits rowFits
  rw [impl_colsOk hc, Option.bind_some, impl_rowOk h, Option.bind_some]
  cases colsOk cs
  · rfl
  · cases rowOk r
    · rfl
    · by_cases he : r.length = cs.length
      · have e1 : ((r.length : Int) == (cs.length : Int)) = true := by simp [he]
        have e2 : (r.length == cs.length) = true := by simp [he]
        rw [e1, e2]
        simp only [Bool.not_true, cond_false, impl_RowFits_j0, Bool.true_and]
        have hl := h.1
        have hz : (r.zip cs).length = r.length := by simp [he]
        rw [show (r.zip cs).all (fun p => fits p.2 p.1) = ((r.zip cs).all (fun p => fits p.2 p.1) && true) by simp]
        refine loop_all (xs := r.zip cs) (by omega) (fun f i p hi hp hw => ?_) (fun f => ?_)
        · obtain ⟨p1, p2⟩ := zip_get he hp
          have : (i : Int) < r.length := by omega
          simp only [impl_RowFits_l1, this, decide_true, cond_true, getI_nat, p1, p2, Option.bind_some, impl_RowFits_j2, hw, fits]
          cases p.1.fKind == p.2.fKind <;> cases p.1.fKind == 0 <;> cases p.2.fEmpty <;> rfl
        · rw [hz]
          simp only [impl_RowFits_l1, Int.lt_irrefl, decide_false, cond_false]
      · have e1 : ((r.length : Int) == (cs.length : Int)) = false := by
          simp only [beq_eq_false_iff_ne, ne_eq]
          omega
        have e2 : (r.length == cs.length) = false := by simp [he]
        rw [e1, e2]
        rfl
def SmRs (rs : List (List T_impl_Value)) : Prop := Sm rs.length ∧ ∀ r ∈ rs, SmR r
def rowsOk (cs : List T_impl_Column) (rs : List (List T_impl_Value)) : Bool := colsOk cs && rs.all (rowFits cs)
theorem spec_rowsOk {cs : List T_impl_Column} {rs : List (List T_impl_Value)} (hc : Sm cs.length) (h : SmRs rs) : spec_RowsOk cs rs = some (rowsOk cs rs) := by
  unfold spec_RowsOk rowsOk
  have hl := h.1
  rw [Bool.and_comm]
  refine loop_all (by omega) (fun f i v hi hv hw => ?_) (fun f => ?_)
  · have : (i : Int) < rs.length := by omega
    simp only [spec_RowsOk_l0, this, decide_true, cond_true, getI_nat, hv, Option.bind_some, spec_rowFits hc (h.2 v (List.mem_of_getElem? hv)), hw]
    cases rowFits cs v <;> rfl
  · simp only [spec_RowsOk_l0, Int.lt_irrefl, decide_false, cond_false, spec_colsOk hc, Option.bind_some]
theorem impl_rowsAny {cs : List T_impl_Column} {rs : List (List T_impl_Value)} (hc : Sm cs.length) (h : SmRs rs) : slices_ContainsFunc_impl_Value_impl_Value_s3 rs (fun z0 => impl_RowsOk_1 z0 cs) = some (rs.any fun r => !(rowFits cs r)) := by
  unfold slices_ContainsFunc_impl_Value_impl_Value_s3 slices_IndexFunc_impl_Value_impl_Value_s3
  have hl := h.1
  obtain ⟨x, h1, h2⟩ := loop_find (xs := rs) (L := slices_IndexFunc_impl_Value_impl_Value_s3_l0 rs (fun z0 => impl_RowsOk_1 z0 cs)) (p := fun r => !(rowFits cs r)) (by omega) (fun f i v hi hv hw => by
    have : (i : Int) < rs.length := by omega
    simp only [slices_IndexFunc_impl_Value_impl_Value_s3_l0, this, decide_true, cond_true, getI_nat, hv, Option.bind_some, impl_RowsOk_1, impl_rowFits hc (h.2 v (List.mem_of_getElem? hv)), hw]) (fun f => by
    simp only [slices_IndexFunc_impl_Value_impl_Value_s3_l0, Int.lt_irrefl, decide_false, cond_false])
  rw [h1, Option.bind_some, h2]
theorem impl_rowsOk {cs : List T_impl_Column} {rs : List (List T_impl_Value)} (hc : Sm cs.length) (h : SmRs rs) : impl_RowsOk cs rs = some (rowsOk cs rs) := by
  unfold impl_RowsOk rowsOk
  rw [impl_colsOk hc, Option.bind_some, impl_rowsAny hc h, Option.bind_some, not_any_not]
  cases colsOk cs <;> rfl
def SmT (t : T_impl_Table) : Prop := Sm t.fColumns.length ∧ SmRs t.fRows
def SmTs (ts : List T_impl_Table) : Prop := Sm ts.length ∧ ∀ t ∈ ts, SmT t
def tabOk (t : T_impl_Table) : Bool := decide (t.fRows.length ≤ 6) && rowsOk t.fColumns t.fRows
def tabsOk (ts : List T_impl_Table) : Bool := ts.all tabOk && decide (ts.length ≤ 3)
theorem gt6 {α : Type} (xs : List α) : decide ((xs.length : Int) > 6) = !(decide (xs.length ≤ 6)) := by
  by_cases h : xs.length ≤ 6
  · have : ¬ (xs.length : Int) > 6 := by omega
    simp [h, this]
  · have : (xs.length : Int) > 6 := by omega
    simp [h, this]
theorem spec_tabsOk {ts : List T_impl_Table} (h : SmTs ts) : spec_TablesOk ts = some (tabsOk ts) := by
  unfold spec_TablesOk tabsOk
  have hl := h.1
  refine loop_all (by omega) (fun f i v hi hv hw => ?_) (fun f => ?_)
  · have : (i : Int) < ts.length := by omega
    have hv' := h.2 v (List.mem_of_getElem? hv)
    simp only [spec_TablesOk_l0, this, decide_true, cond_true, getI_nat, hv, Option.bind_some, spec_rowsOk hv'.1 hv'.2, spec_TablesOk_j1, hw, gt6, tabOk]
    cases decide (v.fRows.length ≤ 6) <;> cases rowsOk v.fColumns v.fRows <;> rfl
  · simp only [spec_TablesOk_l0, Int.lt_irrefl, decide_false, cond_false]
    congr 1
    simp only [decide_eq_decide]
    omega
theorem impl_tabsAny {ts : List T_impl_Table} (h : SmTs ts) : slices_ContainsFunc_impl_Table_impl_Table ts impl_TablesOk_1 = some (ts.any fun t => !(tabOk t)) := by
  unfold slices_ContainsFunc_impl_Table_impl_Table slices_IndexFunc_impl_Table_impl_Table
  have hl := h.1
  obtain ⟨x, h1, h2⟩ := loop_find (xs := ts) (L := slices_IndexFunc_impl_Table_impl_Table_l0 ts impl_TablesOk_1) (p := fun t => !(tabOk t)) (by omega) (fun f i v hi hv hw => by
    have : (i : Int) < ts.length := by omega
    have hv' := h.2 v (List.mem_of_getElem? hv)
    simp only [slices_IndexFunc_impl_Table_impl_Table_l0, this, decide_true, cond_true, getI_nat, hv, Option.bind_some, impl_TablesOk_1, impl_colsOk hv'.1, impl_rowsOk hv'.1 hv'.2, hw, gt6, tabOk, rowsOk]
    cases colsOk v.fColumns <;> cases decide (v.fRows.length ≤ 6) <;> simp) (fun f => by
    simp only [slices_IndexFunc_impl_Table_impl_Table_l0, Int.lt_irrefl, decide_false, cond_false])
  rw [h1, Option.bind_some, h2]
theorem impl_tabsOk {ts : List T_impl_Table} (h : SmTs ts) : impl_TablesOk ts = some (tabsOk ts) := by
  unfold impl_TablesOk tabsOk
  rw [impl_tabsAny h, Option.bind_some, not_any_not]
  have : decide ((ts.length : Int) ≤ 3) = decide (ts.length ≤ 3) := by
    simp only [decide_eq_decide]
    omega
  rw [this]
  cases decide (ts.length ≤ 3) <;> simp
end Go.D
set_option linter.unusedVariables false
namespace Go.D
theorem g2 {xs : List Int} (a b : Int) : getI (xs ++ [a, b]) (xs.length : Int) = some a := by
  rw [getI_nat]
  simp
theorem g3 {xs : List Int} (b : Int) : getI (xs ++ [b]) (xs.length : Int) = some b := by
  rw [getI_nat]
  simp
theorem wm1 : w64 (-1) = -1 := w64_of (by omega) (by omega)
section
variable {xs : List Int} (h : xs.length ≤ 2097152)
include h
theorem g1 (a b : Int) : getI (xs ++ [a, b]) (w64 (((xs ++ [a, b]).length : Int) - 1)) = some b := by
  have e : (((xs ++ [a, b]).length : Int) - 1) = ((xs.length + 1 : Nat) : Int) := by simp only [List.length_append, List.length_cons, List.length_nil]; omega
  rw [e, w64_of (by omega) (by omega), getI_nat]
  simp
theorem sl_pre {ys : List Int} {n : Int} (hn : n = (xs.length : Int)) : slI (xs ++ ys) none (some n) none = some xs := by
  subst hn
  unfold slI
  rw [if_pos]
  · simp
  · simp only [Option.getD_none, Option.getD_some, List.length_append]
    omega
theorem sl_post {ys : List Int} {n : Int} (hn : n = (xs.length : Int)) : slI (xs ++ ys) (some n) none none = some ys := by
  subst hn
  unfold slI
  rw [if_pos]
  · simp only [Option.getD_none, Option.getD_some, Int.toNat_natCast, List.drop_left, List.length_append]
    rw [List.take_of_length_le (by omega)]
  · simp only [Option.getD_none, Option.getD_some, List.length_append]
    omega
theorem max0 {n : Int} (hn : n = (xs.length : Int)) : maxL n [0] = (xs.length : Int) := by
  subst hn
  unfold maxL maxL
  rw [if_neg (by omega)]
theorem len2 (a b : Int) : w64 (((xs ++ [a, b]).length : Int) - 2) = (xs.length : Int) := by
  rw [w64_of] <;> simp <;> omega
theorem len1 (b : Int) : w64 (((xs ++ [b]).length : Int) - 1) = (xs.length : Int) := by
  rw [w64_of] <;> simp <;> omega
theorem len0 : w64 ((xs.length : Int) - 0) = (xs.length : Int) := by
  rw [w64_of] <;> omega
theorem ap_pre {ys : List Int} (k : Int) : appT (xs ++ ys) [k] xs.length = some (xs ++ [k]) := by
  unfold appT
  rw [if_pos (by simp; omega)]
  simp
theorem ap_all (k : Int) : app xs [k] = some (xs ++ [k]) := app_lt (by simp; omega)
end
def zeroV (v : T_impl_Value) : Bool := eq_T_impl_Value v ((T_impl_Value.mk 0 0 (ByteArray.mk #[])))
def exprStep (cs : List T_impl_Column) (rs : List Int) (p : T_impl_Part) : Option (List Int) :=
  if p.fKind = 1 then bif p.fN == 0 && (valOk p.fV && !(p.fV.fKind == 0)) then some (p.fV.fKind :: rs) else none
  else if p.fKind = 2 then bif zeroV p.fV && inR p.fN 0 ((cs.length : Int) - 1) then (getI cs p.fN).map fun c => c.fKind :: rs else none
  else if p.fKind = 3 then bif zeroV p.fV && p.fN == 0 then (match rs with
    | b :: a :: r => bif b == 1 && a == 1 then some (1 :: r) else none
    | _ => none) else none
  else if p.fKind = 4 then bif zeroV p.fV && inR p.fN 1 4 then (match rs with
    | b :: a :: r => bif b == a then some (3 :: r) else none
    | _ => none) else none
  else if p.fKind = 5 ∨ p.fKind = 6 then bif zeroV p.fV && p.fN == 0 then (match rs with
    | b :: a :: r => bif b == 3 && a == 3 then some (3 :: r) else none
    | _ => none) else none
  else if p.fKind = 7 then bif zeroV p.fV && p.fN == 0 then (match rs with
    | b :: r => bif b == 3 then some (3 :: r) else none
    | _ => none) else none
  else if p.fKind = 8 then bif zeroV p.fV && p.fN == 0 then (match rs with
    | b :: r => some (3 :: r)
    | _ => none) else none
  else none
def exprRun (cs : List T_impl_Column) : List T_impl_Part → List Int → Int
  | [], rs => match rs with
    | [k] => k
    | _ => -1
  | p :: ps, rs => match exprStep cs rs p with
    | none => -1
    | some rs' => exprRun cs ps rs'
def SmP (p : T_impl_Part) : Prop := SmV p.fV
theorem exprStep_len {cs : List T_impl_Column} {rs rs' : List Int} {p : T_impl_Part} (h : exprStep cs rs p = some rs') : rs'.length ≤ rs.length + 1 := by
  unfold exprStep at h
  have hb : ∀ {c : Bool} {a : Option (List Int)}, (bif c then a else none) = some rs' → a = some rs' := fun {c a} h => by cases c <;> simp_all
  split at h
  · have := hb h
    cases this
    simp
  split at h
  · have := hb h
    simp only [Option.map_eq_some_iff] at this
    obtain ⟨_, _, rfl⟩ := this
    simp
  split at h
  · have := hb h
    split at this
    · cases hb this
      simp <;> omega
    · cases this
  split at h
  · have := hb h
    split at this
    · cases hb this
      simp <;> omega
    · cases this
  split at h
  · have := hb h
    split at this
    · cases hb this
      simp <;> omega
    · cases this
  split at h
  · have := hb h
    split at this
    · cases hb this
      simp
    · cases this
  split at h
  · have := hb h
    split at this
    · cases this
      simp
    · cases this
  · cases h
theorem stack_cases (rs : List Int) : rs = [] ∨ (∃ b, rs = [b]) ∨ ∃ b a r, rs = b :: a :: r := by
  match rs with
  | [] => exact .inl rfl
  | [b] => exact .inr (.inl ⟨b, rfl⟩)
  | b :: a :: r => exact .inr (.inr ⟨b, a, r, rfl⟩)
theorem kind_cases (k : Int) : k = 1 ∨ k = 2 ∨ k = 3 ∨ k = 4 ∨ k = 5 ∨ k = 6 ∨ k = 7 ∨ k = 8 ∨ (k ≠ 1 ∧ k ≠ 2 ∧ k ≠ 3 ∧ k ≠ 4 ∧ k ≠ 5 ∧ k ≠ 6 ∧ k ≠ 7 ∧ k ≠ 8) := by omega
section
variable {xs : List Int}
theorem gt1 (a b : Int) : decide (((xs ++ [a, b]).length : Int) > 1) = true := by simp; omega
theorem gt0 (b : Int) : decide (((xs ++ [b]).length : Int) > 0) = true := by simp only [List.length_append, List.length_cons, List.length_nil, decide_eq_true_eq]; omega
theorem lt2 (a b : Int) : decide (((xs ++ [a, b]).length : Int) < 2) = false := by simp; omega
theorem lt1 (b : Int) : decide (((xs ++ [b]).length : Int) < 1) = false := by simp; omega
theorem lt0 : decide ((xs.length : Int) < 0) = false := by simp only [decide_eq_false_iff_not]; omega
theorem rev2 (a b : Int) (r : List Int) : (b :: a :: r).reverse = r.reverse ++ [a, b] := by simp
theorem rev1 (b : Int) (r : List Int) : (b :: r).reverse = r.reverse ++ [b] := by simp
end
theorem low2 {xs : List Int} (h : xs.length ≤ 1) : slI xs none (some (maxL (w64 ((xs.length : Int) - 2)) [0])) none = some [] := by
  rw [w64_of (by omega) (by omega)]
  unfold maxL maxL
  rw [if_pos (by omega)]
  unfold slI
  simp
theorem apt0 (xs : List Int) (k : Int) : appT xs [k] ([] : List Int).length = some [k] := by
  unfold appT
  simp
theorem j2_low {xs : List Int} (h : xs.length ≤ 1) (b : Bool) : spec_l4Step_j2 xs b = some ([1], b) := by
  unfold spec_l4Step_j2
  rw [low2 h, Option.bind_some, apt0, Option.bind_some]
theorem j3_low {xs : List Int} (h : xs.length ≤ 1) (b : Bool) : spec_l4Step_j3 xs b = some ([3], b) := by
  unfold spec_l4Step_j3
  rw [low2 h, Option.bind_some, apt0, Option.bind_some]
theorem j5_low {xs : List Int} (h : xs.length ≤ 1) (b : Bool) : spec_l4Step_j5 xs b = some ([3], b) := by
  unfold spec_l4Step_j5
  rw [low2 h, Option.bind_some, apt0, Option.bind_some]
def SpecStep (cs : List T_impl_Column) (rs : List Int) (p : T_impl_Part) : Prop := match exprStep cs rs p with
  | some rs' => spec_l4Step cs rs.reverse p = some (rs'.reverse, true)
  | none => ∃ s, spec_l4Step cs rs.reverse p = some (s, false)
theorem spec_step {cs : List T_impl_Column} {rs : List Int} {p : T_impl_Part} (hc : Sm cs.length) (hr : rs.length ≤ 2000000) (hp : SmP p) : SpecStep cs rs p := by
  obtain ⟨k, n, v⟩ := p
  have hv : spec_ValueOk v = some (valOk v) := spec_value hp
  have hz : eq_T_impl_Value v ((T_impl_Value.mk 0 0 (ByteArray.mk #[]))) = zeroV v := rfl
  have hw : w64 ((cs.length : Int) - 1) = (cs.length : Int) - 1 := w64_of (by omega) (by omega)
  unfold SpecStep
  rcases kind_cases k with rfl | rfl | rfl | rfl | rfl | rfl | rfl | rfl | hk
  · have ha : app rs.reverse [v.fKind] = some (rs.reverse ++ [v.fKind]) := ap_all (by simp; omega) _
    simp only [exprStep, spec_l4Step, spec_l4Step_j0, spec_l4Step_j1, hz, hv, hw, spec_in, Option.bind_some, ha]
    cases n == 0 <;> cases valOk v <;> cases v.fKind == 0 <;> simp
  · simp only [exprStep, spec_l4Step, spec_l4Step_j0, hz, hw, spec_in, Option.bind_some]
    cases zeroV v
    · simp
    · cases hi : inR n 0 ((cs.length : Int) - 1) with
      | false => simp
      | true =>
        unfold inR at hi
        simp only [Bool.and_eq_true, decide_eq_true_eq] at hi
        obtain ⟨c, h1, h2⟩ := getI_lt (xs := cs) hi.1 (by omega)
        have ha : app rs.reverse [c.fKind] = some (rs.reverse ++ [c.fKind]) := ap_all (by simp; omega) _
        simp [h1, ha]
  · rcases stack_cases rs with rfl | ⟨b, rfl⟩ | ⟨b, a, r, rfl⟩
    · simp [exprStep, spec_l4Step, spec_l4Step_j0, j2_low, hz, spec_in, Option.bind]
      cases n == 0 <;> cases zeroV v <;> simp
    · simp [exprStep, spec_l4Step, spec_l4Step_j0, j2_low, hz, spec_in, Option.bind]
      cases n == 0 <;> cases zeroV v <;> simp
    · have hx : r.reverse.length ≤ 2097152 := by simp at hr ⊢; omega
      simp only [exprStep, spec_l4Step, spec_l4Step_j0, spec_l4Step_j2, hz, spec_in, rev2, g1 hx, len2 hx, g2, gt1, max0 hx rfl, sl_pre hx rfl, ap_pre hx, Option.bind_some]
      cases n == 0 <;> cases zeroV v <;> cases b == 1 <;> cases a == 1 <;> simp
  · rcases stack_cases rs with rfl | ⟨b, rfl⟩ | ⟨b, a, r, rfl⟩
    · simp [exprStep, spec_l4Step, spec_l4Step_j0, j3_low, hz, spec_in, Option.bind]
      cases inR n 1 4 <;> cases zeroV v <;> simp
    · simp [exprStep, spec_l4Step, spec_l4Step_j0, j3_low, hz, spec_in, Option.bind]
      cases inR n 1 4 <;> cases zeroV v <;> simp
    · have hx : r.reverse.length ≤ 2097152 := by simp at hr ⊢; omega
      simp only [exprStep, spec_l4Step, spec_l4Step_j0, spec_l4Step_j3, hz, spec_in, rev2, g1 hx, len2 hx, g2, gt1, max0 hx rfl, sl_pre hx rfl, ap_pre hx, Option.bind_some]
      cases inR n 1 4 <;> cases zeroV v <;> cases b == a <;> simp
  · rcases stack_cases rs with rfl | ⟨b, rfl⟩ | ⟨b, a, r, rfl⟩
    · simp [exprStep, spec_l4Step, spec_l4Step_j0, spec_l4Step_j4, j5_low, hz, spec_in, Option.bind]
      cases n == 0 <;> cases zeroV v <;> simp
    · simp [exprStep, spec_l4Step, spec_l4Step_j0, spec_l4Step_j4, j5_low, hz, spec_in, Option.bind]
      cases n == 0 <;> cases zeroV v <;> simp
    · have hx : r.reverse.length ≤ 2097152 := by simp at hr ⊢; omega
      simp only [exprStep, spec_l4Step, spec_l4Step_j0, spec_l4Step_j4, spec_l4Step_j5, hz, spec_in, rev2, g1 hx, len2 hx, g2, gt1, max0 hx rfl, sl_pre hx rfl, ap_pre hx, Option.bind_some]
      cases n == 0 <;> cases zeroV v <;> cases b == 3 <;> cases a == 3 <;> simp
  · rcases stack_cases rs with rfl | ⟨b, rfl⟩ | ⟨b, a, r, rfl⟩
    · simp [exprStep, spec_l4Step, spec_l4Step_j0, spec_l4Step_j4, j5_low, hz, spec_in, Option.bind]
      cases n == 0 <;> cases zeroV v <;> simp
    · simp [exprStep, spec_l4Step, spec_l4Step_j0, spec_l4Step_j4, j5_low, hz, spec_in, Option.bind]
      cases n == 0 <;> cases zeroV v <;> simp
    · have hx : r.reverse.length ≤ 2097152 := by simp at hr ⊢; omega
      simp only [exprStep, spec_l4Step, spec_l4Step_j0, spec_l4Step_j4, spec_l4Step_j5, hz, spec_in, rev2, g1 hx, len2 hx, g2, gt1, max0 hx rfl, sl_pre hx rfl, ap_pre hx, Option.bind_some]
      cases n == 0 <;> cases zeroV v <;> cases b == 3 <;> cases a == 3 <;> simp
  · rcases rs with _ | ⟨b, r⟩
    · simp [exprStep, spec_l4Step, spec_l4Step_j0, spec_l4Step_j4, hz]
    · have hx : r.reverse.length ≤ 2097152 := by simp at hr ⊢; omega
      simp only [exprStep, spec_l4Step, spec_l4Step_j0, spec_l4Step_j4, hz, rev1, len1 hx, g3, gt0, max0 hx rfl, sl_pre hx rfl, ap_pre hx, Option.bind_some]
      cases n == 0 <;> cases zeroV v <;> cases hb : b == 3 <;> simp_all
  · rcases rs with _ | ⟨b, r⟩
    · simp [exprStep, spec_l4Step, spec_l4Step_j0, spec_l4Step_j4, hz, wm1, appT, maxL, slI]
      cases n == 0 <;> cases zeroV v <;> simp
    · have hx : r.reverse.length ≤ 2097152 := by simp at hr ⊢; omega
      simp only [exprStep, spec_l4Step, spec_l4Step_j0, spec_l4Step_j4, hz, rev1, len1 hx, g3, gt0, max0 hx rfl, sl_pre hx rfl, ap_pre hx, Option.bind_some]
      cases n == 0 <;> cases zeroV v <;> simp
  · obtain ⟨h1, h2, h3, h4, h5, h6, h7, h8⟩ := hk
    have b1 : (k == 1) = false := by simp [h1]
    have b2 : (k == 2) = false := by simp [h2]
    have b3 : (k == 3) = false := by simp [h3]
    have b4 : (k == 4) = false := by simp [h4]
    have b5 : (k == 5) = false := by simp [h5]
    have b6 : (k == 6) = false := by simp [h6]
    have b7 : (k == 7) = false := by simp [h7]
    have b8 : (k == 8) = false := by simp [h8]
    simp only [exprStep, h1, h2, h3, h4, h5, h6, h7, h8, if_false, or_self, spec_l4Step, spec_l4Step_j0, spec_l4Step_j4, b1, b2, b3, b4, b5, b6, b7, b8, hz]
    cases zeroV v <;> cases n == 0 <;> simp
end Go.D
set_option linter.unusedVariables false
namespace Go.D
def exprKind (cs : List T_impl_Column) (ps : List T_impl_Part) : Int := bif colsOk cs && decide (ps.length ≤ 12) then exprRun cs ps [] else -1
theorem gt12 {α : Type} (xs : List α) : decide ((xs.length : Int) > 12) = !(decide (xs.length ≤ 12)) := by
  by_cases h : xs.length ≤ 12
  · have : ¬ (xs.length : Int) > 12 := by omega
    simp [h, this]
  · have : (xs.length : Int) > 12 := by omega
    simp [h, this]
theorem fin_run (st : List Int) (cs : List T_impl_Column) : (bif !((st.length : Int) == 1) then some (-1) else (getI st 0).bind fun v => some v) = some (exprRun cs [] st.reverse) := by
  match st with
  | [] => rfl
  | [k] => rfl
  | a :: b :: r =>
    have e : (((a :: b :: r).length : Int) == 1) = false := by
      simp only [beq_eq_false_iff_ne, ne_eq, List.length_cons]
      omega
    rw [e]
    unfold exprRun
    split
    · next k hk =>
      have := congrArg List.length hk
      simp at this
    · rfl
theorem spec_exprKind {cs : List T_impl_Column} {ps : List T_impl_Part} (hc : Sm cs.length) (hl : ps.length ≤ 2097152) (hp : ∀ p ∈ ps, SmP p) : spec_ExprKind cs ps = some (exprKind cs ps) := by
  unfold spec_ExprKind exprKind
  rw [spec_colsOk hc, Option.bind_some, gt12]
  cases colsOk cs
  · rfl
  cases h12 : decide (ps.length ≤ 12)
  · rfl
  have h12 : ps.length ≤ 12 := of_decide_eq_true h12
  simp only [Bool.not_true, cond_false, Bool.true_and, cond_true, spec_ExprKind_j0]
  have := loop_rec (xs := ps) (L := fun f i (s : Bool × List Int) => spec_ExprKind_l1 cs ps f s.1 i s.2) (fun ps s => bif s.1 then exprRun cs ps s.2.reverse else -1) (fun i s => s.1 = true → s.2.length ≤ i) (by omega)
    (fun f i s v rest hi hv hw hI => by
      obtain ⟨ok, st⟩ := s
      have hlt : (i : Int) < ps.length := by omega
      cases ok with
      | false =>
        refine .inl ?_
        simp only [spec_ExprKind_l1, hlt, decide_true, cond_true, spec_ExprKind_j2, cond_false, Bool.not_false, spec_ExprKind_j3]
      | true =>
        have hst := hI rfl
        have hs : SpecStep cs st.reverse v := spec_step hc (by simp; simp only at hst; omega) (hp v (List.mem_of_getElem? hv))
        unfold SpecStep at hs
        simp only [List.reverse_reverse] at hs
        refine .inr ?_
        cases he : exprStep cs st.reverse v with
        | none =>
          rw [he] at hs
          obtain ⟨s', hs⟩ := hs
          refine ⟨(false, s'), (fun h => by cases h), ?_, ?_⟩
          · simp only [spec_ExprKind_l1, hlt, decide_true, cond_true, spec_ExprKind_j2, getI_nat, hv, Option.bind_some, hs, hw]
          · simp only [cond_true, cond_false, exprRun, he]
        | some rs' =>
          rw [he] at hs
          have hs : spec_l4Step cs st v = some (rs'.reverse, true) := hs
          refine ⟨(true, rs'.reverse), fun _ => ?_, ?_, ?_⟩
          · have := exprStep_len he
            simp only [List.length_reverse] at this ⊢
            simp only at hst
            omega
          · simp only [spec_ExprKind_l1, hlt, decide_true, cond_true, spec_ExprKind_j2, getI_nat, hv, Option.bind_some, hs, hw]
          · simp only [cond_true, exprRun, he, List.reverse_reverse])
    (fun f s hI => by
      obtain ⟨ok, st⟩ := s
      simp only [spec_ExprKind_l1, Int.lt_irrefl, decide_false, cond_false, spec_ExprKind_j2]
      cases ok with
      | false => rfl
      | true =>
        simp only [Bool.not_true, cond_false, spec_ExprKind_j3, cond_true]
        exact fin_run st cs) (s := (true, [])) (fun _ => by simp)
  exact this
theorem impl_allk (k : Int) {xs : List Int} (h : xs.length ≤ 2097152) : impl_Part_kind_1 k xs = some (xs.all (· == k)) := by
  unfold impl_Part_kind_1 slices_ContainsFunc_int_int slices_IndexFunc_int_int
  obtain ⟨r, h1, h2⟩ := loop_find (xs := xs) (L := slices_IndexFunc_int_int_l0 xs (fun z0 => impl_Part_kind_1_1 z0 k)) (p := fun z => !(z == k)) (by omega) (fun f i v hi hv hw => by
    have : (i : Int) < xs.length := by omega
    simp only [slices_IndexFunc_int_int_l0, this, decide_true, cond_true, getI_nat, hv, Option.bind_some, impl_Part_kind_1_1, hw]) (fun f => by
    simp only [slices_IndexFunc_int_int_l0, Int.lt_irrefl, decide_false, cond_false])
  rw [h1, Option.bind_some, Option.bind_some, h2, not_any_not]
def ImplStep (cs : List T_impl_Column) (rs : List Int) (p : T_impl_Part) (x4 : Int) (K : Int → List Int → Option Int) : Prop :=
  ((impl_Part_takes p).bind fun v11 => (impl_Part_tells p cs).bind fun v24 => bif (!v24) then impl_ExprKind_j2 cs x4 rs.reverse K p v11 true else impl_ExprKind_j2 cs x4 rs.reverse K p v11 ((decide (((rs.reverse.length : Int)) < v11)))) =
    match exprStep cs rs p with
    | none => some (-1)
    | some rs' => K (w64 (x4 + 1)) rs'.reverse
theorem pre_all {xs : List Int} (h : xs.length ≤ 2097152) : slI xs none (some (w64 ((xs.length : Int) - 0))) none = some xs := by
  rw [len0 h]
  have := sl_pre (ys := []) h rfl
  rwa [List.append_nil] at this
theorem post_all {xs : List Int} (h : xs.length ≤ 2097152) : slI xs (some (w64 ((xs.length : Int) - 0))) none none = some [] := by
  rw [len0 h]
  have := sl_post (ys := []) h rfl
  rwa [List.append_nil] at this
theorem ap_full {xs : List Int} (h : xs.length ≤ 2097152) (k : Int) : appT xs [k] xs.length = some (xs ++ [k]) := by
  have := ap_pre (ys := []) h k
  rwa [List.append_nil] at this
theorem get0 (a b : Int) : getI [a, b] 0 = some a := rfl
theorem get1 (a b : Int) : getI [a, b] 1 = some b := rfl
theorem eq_comm_b (a b : Int) : (a == b) = (b == a) := by
  rw [Bool.eq_iff_iff, beq_iff_eq, beq_iff_eq]
  exact eq_comm
theorem impl_step {cs : List T_impl_Column} {rs : List Int} {p : T_impl_Part} {x4 : Int} {K : Int → List Int → Option Int} (hc : Sm cs.length) (hr : rs.length ≤ 2000000) (hp : SmP p) : ImplStep cs rs p x4 K := by
  obtain ⟨k, n, v⟩ := p
  have hv : impl_Value_ok v = some (valOk v) := impl_value hp
  have hz : eq_T_impl_Value v ((T_impl_Value.mk 0 0 (ByteArray.mk #[]))) = zeroV v := rfl
  have hw : w64 ((cs.length : Int) - 1) = (cs.length : Int) - 1 := w64_of (by omega) (by omega)
  have hxr : rs.reverse.length ≤ 2097152 := by simp; omega
  unfold ImplStep
  rcases kind_cases k with rfl | rfl | rfl | rfl | rfl | rfl | rfl | rfl | hk
  · simp only [exprStep, impl_Part_takes, impl_Part_takes_j0, impl_Part_takes_j1, impl_Part_tells, impl_Part_tells_j0, impl_ExprKind_j2, hv, hz, hw, impl_in, impl_Part_kind, Option.bind_some]
    cases n == 0 <;> cases valOk v <;> cases v.fKind == 0 <;> simp [-List.length_reverse, -Int.sub_zero, -List.length_append, -List.length_cons, -List.length_nil, lt0, post_all hxr, pre_all hxr, ap_full hxr]
  · simp only [exprStep, impl_Part_takes, impl_Part_takes_j0, impl_Part_takes_j1, impl_Part_tells, impl_Part_tells_j0, impl_ExprKind_j2, hv, hz, hw, impl_in, impl_Part_kind, Option.bind_some]
    cases zeroV v
    · cases inR n 0 ((cs.length : Int) - 1) <;> simp [-List.length_reverse, -Int.sub_zero, -List.length_append, -List.length_cons, -List.length_nil, lt0, post_all hxr, pre_all hxr, ap_full hxr]
    · cases hi : inR n 0 ((cs.length : Int) - 1) with
      | false => simp [-List.length_reverse, -Int.sub_zero, -List.length_append, -List.length_cons, -List.length_nil, lt0, post_all hxr, pre_all hxr, ap_full hxr]
      | true =>
        unfold inR at hi
        simp only [Bool.and_eq_true, decide_eq_true_eq] at hi
        obtain ⟨c, h1, h2⟩ := getI_lt (xs := cs) hi.1 (by omega)
        simp [-List.length_reverse, -Int.sub_zero, -List.length_append, -List.length_cons, -List.length_nil, lt0, post_all hxr, pre_all hxr, ap_full hxr, h1]
  · rcases stack_cases rs with rfl | ⟨b, rfl⟩ | ⟨b, a, r, rfl⟩
    · simp only [exprStep, impl_Part_takes, impl_Part_takes_j0, impl_Part_takes_j1, impl_Part_tells, impl_Part_tells_j0, impl_ExprKind_j2, hv, hz, hw, impl_in, impl_Part_kind, Option.bind_some]
      cases n == 0 <;> cases zeroV v <;> simp
    · simp only [exprStep, impl_Part_takes, impl_Part_takes_j0, impl_Part_takes_j1, impl_Part_tells, impl_Part_tells_j0, impl_ExprKind_j2, hv, hz, hw, impl_in, impl_Part_kind, Option.bind_some]
      cases n == 0 <;> cases zeroV v <;> simp
    · have hx : r.reverse.length ≤ 2097152 := by simp at hr ⊢; omega
      have hab : ([a, b] : List Int).length ≤ 2097152 := by simp
      simp only [exprStep, impl_Part_takes, impl_Part_takes_j0, impl_Part_takes_j1, impl_Part_tells, impl_Part_tells_j0, impl_ExprKind_j2, hv, hz, hw, impl_in, impl_Part_kind, Option.bind_some, rev2]
      cases n == 0 <;> cases zeroV v <;> cases ha : a == 1 <;> cases hb : b == 1 <;> simp [*, -List.length_reverse, -Int.sub_zero, -List.length_append, -List.length_cons, -List.length_nil, lt2, len2 hx, sl_pre hx rfl, sl_post hx rfl, ap_pre hx, impl_allk 1 hab, impl_allk 3 hab, get0, get1]
  · rcases stack_cases rs with rfl | ⟨b, rfl⟩ | ⟨b, a, r, rfl⟩
    · simp only [exprStep, impl_Part_takes, impl_Part_takes_j0, impl_Part_takes_j1, impl_Part_tells, impl_Part_tells_j0, impl_ExprKind_j2, hv, hz, hw, impl_in, impl_Part_kind, Option.bind_some]
      cases inR n 1 4 <;> cases zeroV v <;> simp
    · simp only [exprStep, impl_Part_takes, impl_Part_takes_j0, impl_Part_takes_j1, impl_Part_tells, impl_Part_tells_j0, impl_ExprKind_j2, hv, hz, hw, impl_in, impl_Part_kind, Option.bind_some]
      cases inR n 1 4 <;> cases zeroV v <;> simp
    · have hx : r.reverse.length ≤ 2097152 := by simp at hr ⊢; omega
      have hab : ([a, b] : List Int).length ≤ 2097152 := by simp
      simp only [exprStep, impl_Part_takes, impl_Part_takes_j0, impl_Part_takes_j1, impl_Part_tells, impl_Part_tells_j0, impl_ExprKind_j2, hv, hz, hw, impl_in, impl_Part_kind, Option.bind_some, rev2]
      cases inR n 1 4 <;> cases zeroV v <;> cases hb : b == a <;> simp [*, -List.length_reverse, -Int.sub_zero, -List.length_append, -List.length_cons, -List.length_nil, lt2, len2 hx, sl_pre hx rfl, sl_post hx rfl, ap_pre hx, impl_allk 1 hab, impl_allk 3 hab, get0, get1, eq_comm_b a b]
  · rcases stack_cases rs with rfl | ⟨b, rfl⟩ | ⟨b, a, r, rfl⟩
    · simp only [exprStep, impl_Part_takes, impl_Part_takes_j0, impl_Part_takes_j1, impl_Part_tells, impl_Part_tells_j0, impl_ExprKind_j2, hv, hz, hw, impl_in, impl_Part_kind, Option.bind_some]
      cases n == 0 <;> cases zeroV v <;> simp
    · simp only [exprStep, impl_Part_takes, impl_Part_takes_j0, impl_Part_takes_j1, impl_Part_tells, impl_Part_tells_j0, impl_ExprKind_j2, hv, hz, hw, impl_in, impl_Part_kind, Option.bind_some]
      cases n == 0 <;> cases zeroV v <;> simp
    · have hx : r.reverse.length ≤ 2097152 := by simp at hr ⊢; omega
      have hab : ([a, b] : List Int).length ≤ 2097152 := by simp
      simp only [exprStep, impl_Part_takes, impl_Part_takes_j0, impl_Part_takes_j1, impl_Part_tells, impl_Part_tells_j0, impl_ExprKind_j2, hv, hz, hw, impl_in, impl_Part_kind, Option.bind_some, rev2]
      cases n == 0 <;> cases zeroV v <;> cases ha : a == 3 <;> cases hb : b == 3 <;> simp [*, -List.length_reverse, -Int.sub_zero, -List.length_append, -List.length_cons, -List.length_nil, lt2, len2 hx, sl_pre hx rfl, sl_post hx rfl, ap_pre hx, impl_allk 1 hab, impl_allk 3 hab, get0, get1]
  · rcases stack_cases rs with rfl | ⟨b, rfl⟩ | ⟨b, a, r, rfl⟩
    · simp only [exprStep, impl_Part_takes, impl_Part_takes_j0, impl_Part_takes_j1, impl_Part_tells, impl_Part_tells_j0, impl_ExprKind_j2, hv, hz, hw, impl_in, impl_Part_kind, Option.bind_some]
      cases n == 0 <;> cases zeroV v <;> simp
    · simp only [exprStep, impl_Part_takes, impl_Part_takes_j0, impl_Part_takes_j1, impl_Part_tells, impl_Part_tells_j0, impl_ExprKind_j2, hv, hz, hw, impl_in, impl_Part_kind, Option.bind_some]
      cases n == 0 <;> cases zeroV v <;> simp
    · have hx : r.reverse.length ≤ 2097152 := by simp at hr ⊢; omega
      have hab : ([a, b] : List Int).length ≤ 2097152 := by simp
      simp only [exprStep, impl_Part_takes, impl_Part_takes_j0, impl_Part_takes_j1, impl_Part_tells, impl_Part_tells_j0, impl_ExprKind_j2, hv, hz, hw, impl_in, impl_Part_kind, Option.bind_some, rev2]
      cases n == 0 <;> cases zeroV v <;> cases ha : a == 3 <;> cases hb : b == 3 <;> simp [*, -List.length_reverse, -Int.sub_zero, -List.length_append, -List.length_cons, -List.length_nil, lt2, len2 hx, sl_pre hx rfl, sl_post hx rfl, ap_pre hx, impl_allk 1 hab, impl_allk 3 hab, get0, get1]
  · rcases rs with _ | ⟨b, r⟩
    · simp only [exprStep, impl_Part_takes, impl_Part_takes_j0, impl_Part_takes_j1, impl_Part_tells, impl_Part_tells_j0, impl_ExprKind_j2, hv, hz, hw, impl_in, impl_Part_kind, Option.bind_some]
      cases n == 0 <;> cases zeroV v <;> simp
    · have hx : r.reverse.length ≤ 2097152 := by simp at hr ⊢; omega
      have hab : ([b] : List Int).length ≤ 2097152 := by simp
      simp only [exprStep, impl_Part_takes, impl_Part_takes_j0, impl_Part_takes_j1, impl_Part_tells, impl_Part_tells_j0, impl_ExprKind_j2, hv, hz, hw, impl_in, impl_Part_kind, Option.bind_some, rev1]
      cases n == 0 <;> cases zeroV v <;> cases hb : b == 3 <;> simp [*, -List.length_reverse, -Int.sub_zero, -List.length_append, -List.length_cons, -List.length_nil, lt1, len1 hx, sl_pre hx rfl, sl_post hx rfl, ap_pre hx, impl_allk 3 hab]
  · rcases rs with _ | ⟨b, r⟩
    · simp only [exprStep, impl_Part_takes, impl_Part_takes_j0, impl_Part_takes_j1, impl_Part_tells, impl_Part_tells_j0, impl_ExprKind_j2, hv, hz, hw, impl_in, impl_Part_kind, Option.bind_some]
      cases n == 0 <;> cases zeroV v <;> simp
    · have hx : r.reverse.length ≤ 2097152 := by simp at hr ⊢; omega
      have hab : ([b] : List Int).length ≤ 2097152 := by simp
      simp only [exprStep, impl_Part_takes, impl_Part_takes_j0, impl_Part_takes_j1, impl_Part_tells, impl_Part_tells_j0, impl_ExprKind_j2, hv, hz, hw, impl_in, impl_Part_kind, Option.bind_some, rev1]
      cases n == 0 <;> cases zeroV v <;> cases hb : b == 3 <;> simp [*, -List.length_reverse, -Int.sub_zero, -List.length_append, -List.length_cons, -List.length_nil, lt1, len1 hx, sl_pre hx rfl, sl_post hx rfl, ap_pre hx, impl_allk 3 hab]
  · obtain ⟨h1, h2, h3, h4, h5, h6, h7, h8⟩ := hk
    have b1 : (k == 1) = false := by simp [h1]
    have b2 : (k == 2) = false := by simp [h2]
    have b3 : (k == 3) = false := by simp [h3]
    have b4 : (k == 4) = false := by simp [h4]
    have b5 : (k == 5) = false := by simp [h5]
    have b6 : (k == 6) = false := by simp [h6]
    have b7 : (k == 7) = false := by simp [h7]
    have b8 : (k == 8) = false := by simp [h8]
    simp only [h1, h2, h3, h4, h5, h6, h7, h8, if_false, or_self, b1, b2, b3, b4, b5, b6, b7, b8, exprStep, impl_Part_takes, impl_Part_takes_j0, impl_Part_takes_j1, impl_Part_tells, impl_Part_tells_j0, impl_ExprKind_j2, hv, hz, hw, impl_in, impl_Part_kind, Option.bind_some]
    rfl
theorem impl_exprKind {cs : List T_impl_Column} {ps : List T_impl_Part} (hc : Sm cs.length) (hl : ps.length ≤ 2097152) (hp : ∀ p ∈ ps, SmP p) : impl_ExprKind cs ps = some (exprKind cs ps) := by
  unfold impl_ExprKind exprKind
  rw [impl_colsOk hc, Option.bind_some, gt12]
  cases colsOk cs
  · rfl
  cases h12 : decide (ps.length ≤ 12)
  · rfl
  have h12 : ps.length ≤ 12 := of_decide_eq_true h12
  simp only [Bool.not_true, cond_false, Bool.true_and, cond_true, impl_ExprKind_j0]
  have := loop_rec (xs := ps) (L := fun f i (s : List Int) => impl_ExprKind_l1 cs ps f i s) (fun ps s => exprRun cs ps s.reverse) (fun i s => s.length ≤ i) (by omega)
    (fun f i st v rest hi hv hw hI => by
      have hlt : (i : Int) < ps.length := by omega
      have hs : ImplStep cs st.reverse v i (impl_ExprKind_l1 cs ps f) := impl_step hc (by simp; omega) (hp v (List.mem_of_getElem? hv))
      unfold ImplStep at hs
      rw [List.reverse_reverse, hw] at hs
      have e : impl_ExprKind_l1 cs ps (f + 1) i st = match exprStep cs st.reverse v with
        | none => some (-1)
        | some rs' => impl_ExprKind_l1 cs ps f ((i + 1 : Nat) : Int) rs'.reverse := by
        rw [← hs]
        simp only [impl_ExprKind_l1, hlt, decide_true, cond_true, getI_nat, hv, Option.bind_some]
      cases he : exprStep cs st.reverse v with
      | none =>
        refine .inl ?_
        rw [he] at e
        simp only [exprRun, he]
        exact e
      | some rs' =>
        rw [he] at e
        refine .inr ⟨rs'.reverse, ?_, e, ?_⟩
        · have := exprStep_len he
          simp only [List.length_reverse] at this ⊢
          omega
        · simp only [exprRun, he, List.reverse_reverse])
    (fun f st hI => by
      simp only [impl_ExprKind_l1, Int.lt_irrefl, decide_false, cond_false]
      exact fin_run st cs) (s := []) (by simp)
  exact this
end Go.D
set_option linter.unusedVariables false
namespace Go.D
def fields (s : T_impl_Step) : Bool := (spec_l6Fields s).getD false
theorem spec_fields (s : T_impl_Step) : spec_l6Fields s = some (fields s) := by
  unfold fields spec_l6Fields spec_l6Fields_j0 spec_l6Fields_j1
  cases s.fKind == 4 <;> cases s.fKind == 5 <;> cases s.fKind == 2 <;> cases s.fKind == 1 <;> cases s.fKind == 3 <;> cases s.fN == 0 <;> cases s.fB == 0 <;> cases s.fA == 0 <;> cases (s.fE.length : Int) == 0 <;> rfl
theorem impl_fields (s : T_impl_Step) : impl_Step_plain s = some (fields s) := by
  rw [← spec_fields]
  rfl
def takeRun (a : List T_impl_Column) : List Int → List T_impl_Column → Option (List T_impl_Column)
  | [], acc => bif decide (acc.length ≤ 4) then some acc else none
  | n :: ns, acc => bif inR n 0 ((a.length : Int) - 1) then (match getI a n with
    | some c => takeRun a ns (acc ++ [c])
    | none => none) else none
theorem spec_take {a : List T_impl_Column} {s : T_impl_Step} (ha : Sm a.length) (hl : Sm s.fList.length) : ∃ y, spec_l6Columns_l1 s a FUEL 0 [] = some y ∧ Yes (takeRun a s.fList []) y := by
  refine loop_q (xs := s.fList) (L := fun f i (st : List T_impl_Column) => spec_l6Columns_l1 s a f i st) (fun ns st y => Yes (takeRun a ns st) y) (fun i st => st.length = i) (by omega) (fun f i st v rest hr hi hv hw hI => ?_) (fun f st hI => ?_) (s := ([] : List T_impl_Column)) rfl
  · have hlt : (i : Int) < s.fList.length := by omega
    have hw1 : w64 ((a.length : Int) - 1) = (a.length : Int) - 1 := w64_of (by omega) (by omega)
    cases hin : inR v 0 ((a.length : Int) - 1) with
    | false =>
      refine .inl ⟨([], false), ?_, .inl ⟨?_, rfl⟩⟩
      · simp only [spec_l6Columns_l1, hlt, decide_true, cond_true, getI_nat, hv, Option.bind_some, spec_in, hw1, hin, Bool.not_false]
      · simp only [takeRun, hin, cond_false]
    | true =>
      have hin' := hin
      unfold inR at hin'
      simp only [Bool.and_eq_true, decide_eq_true_eq] at hin'
      obtain ⟨c, h1, h2⟩ := getI_lt (xs := a) hin'.1 (by omega)
      refine .inr ⟨st ++ [c], by simp [hI], ?_, fun y hy => ?_⟩
      · simp only [spec_l6Columns_l1, hlt, decide_true, cond_true, getI_nat, hv, Option.bind_some, spec_in, hw1, hin, Bool.not_true, cond_false, h1, hw, app_lt (xs := st) (ys := [c]) (by simp; omega)]
      · simp only [takeRun, hin, cond_true, h1]
        exact hy
  · refine ⟨(st, decide (st.length ≤ 4)), ?_, ?_⟩
    · simp only [spec_l6Columns_l1, Int.lt_irrefl, decide_false, cond_false, le4]
    · unfold takeRun
      cases hd : decide (st.length ≤ 4)
      · exact .inl ⟨rfl, rfl⟩
      · exact .inr ⟨st, rfl, rfl⟩
theorem impl_take {m : T_impl_made} {s : T_impl_Step} (ha : Sm m.fColumns.length) (hl : Sm s.fList.length) : ∃ y, impl_Step_make_L2_l2 s m FUEL 0 [] = some y ∧ Yes ((takeRun m.fColumns s.fList []).map fun c => ⟨c, m.fMost⟩) y := by
  refine loop_q (xs := s.fList) (L := fun f i (st : List T_impl_Column) => impl_Step_make_L2_l2 s m f i st) (fun ns st y => Yes ((takeRun m.fColumns ns st).map fun c => ⟨c, m.fMost⟩) y) (fun i st => st.length = i) (by omega) (fun f i st v rest hr hi hv hw hI => ?_) (fun f st hI => ?_) (s := ([] : List T_impl_Column)) rfl
  · have hlt : (i : Int) < s.fList.length := by omega
    have hw1 : w64 ((m.fColumns.length : Int) - 1) = (m.fColumns.length : Int) - 1 := w64_of (by omega) (by omega)
    cases hin : inR v 0 ((m.fColumns.length : Int) - 1) with
    | false =>
      refine .inl ⟨(T_impl_made.mk [] 0, false), ?_, .inl ⟨?_, rfl⟩⟩
      · simp only [impl_Step_make_L2_l2, hlt, decide_true, cond_true, getI_nat, hv, Option.bind_some, impl_in, hw1, hin, Bool.not_false]
      · simp only [takeRun, hin, cond_false, Option.map_none]
    | true =>
      have hin' := hin
      unfold inR at hin'
      simp only [Bool.and_eq_true, decide_eq_true_eq] at hin'
      obtain ⟨c, h1, h2⟩ := getI_lt (xs := m.fColumns) hin'.1 (by omega)
      refine .inr ⟨st ++ [c], by simp [hI], ?_, fun y hy => ?_⟩
      · simp only [impl_Step_make_L2_l2, hlt, decide_true, cond_true, getI_nat, hv, Option.bind_some, impl_in, hw1, hin, Bool.not_true, cond_false, h1, hw, app_lt (xs := st) (ys := [c]) (by simp; omega)]
      · simp only [takeRun, hin, cond_true, h1]
        exact hy
  · refine ⟨(⟨st, m.fMost⟩, decide (st.length ≤ 4)), ?_, ?_⟩
    · simp only [impl_Step_make_L2_l2, Int.lt_irrefl, decide_false, cond_false, le4, hI]
    · unfold takeRun
      cases hd : decide (st.length ≤ 4)
      · exact .inl ⟨rfl, rfl⟩
      · exact .inr ⟨_, rfl, rfl⟩
def bothCols : List (T_impl_Column × T_impl_Column) → Option (List T_impl_Column)
  | [] => some []
  | (x, y) :: r => bif x.fKind == y.fKind then (bothCols r).map fun u => { x with fEmpty := x.fEmpty || y.fEmpty } :: u else none
theorem set_take {α : Type} {st : List α} {i : Nat} (h : i < st.length) (c : α) : (st.set i c).take (i + 1) = st.take i ++ [c] := by
  rw [List.take_add_one, List.take_set_of_le (Nat.le_refl i), List.getElem?_set_self h]
  rfl
theorem set_drop {α : Type} {st : List α} {i : Nat} (c : α) : (st.set i c).drop (i + 1) = st.drop (i + 1) := by
  rw [List.drop_set_of_lt (by omega)]
theorem both_step {x y : T_impl_Column} {rest : List (T_impl_Column × T_impl_Column)} {st : List T_impl_Column} {i : Nat} (hi : i < st.length) (hr : i + (rest.length + 1) = st.length) (hk : (x.fKind == y.fKind) = true) (c : T_impl_Column) (hc : c = { x with fEmpty := x.fEmpty || y.fEmpty }) :
    ((bothCols rest).map fun u => (st.set i c).take ((st.set i c).length - rest.length) ++ u) = ((bothCols ((x, y) :: rest)).map fun u => st.take (st.length - ((x, y) :: rest).length) ++ u) := by
  have e1 : (st.set i c).length - rest.length = i + 1 := by rw [List.length_set]; omega
  have e2 : st.length - ((x, y) :: rest).length = i := by simp only [List.length_cons]; omega
  rw [e1, e2, set_take hi]
  simp only [bothCols, hk, cond_true, Option.map_map, ← hc]
  congr 1
  funext u
  simp
theorem drop_get {α : Type} {st a : List α} {i : Nat} (h : st.drop i = a.drop i) (hl : st.length = a.length) (hi : i < a.length) : st[i]? = a[i]? := by
  have := congrArg (fun l : List α => l[0]?) h
  simpa using this
theorem spec_both {cols : List (List T_impl_Column)} {s : T_impl_Step} {a b : List T_impl_Column} (hb : getI cols s.fB = some b) (hl : a.length = b.length) (ha : Sm a.length) :
    ∃ y, spec_l6Columns_l2 cols s FUEL 0 a = some y ∧ Yes (bothCols (a.zip b)) y := by
  have hz : (a.zip b).length = a.length := by simp [hl]
  have key := loop_q (xs := a.zip b) (L := fun f i (st : List T_impl_Column) => spec_l6Columns_l2 cols s f i st) (fun ps st y => Yes ((bothCols ps).map fun u => st.take (st.length - ps.length) ++ u) y)
    (fun i st => st.drop i = a.drop i ∧ st.length = a.length) (by omega) (fun f i st v rest hr hi hv hw hI => ?_) (fun f st hI => ?_) (s := a) ⟨rfl, rfl⟩
  · obtain ⟨y, h1, h2⟩ := key
    refine ⟨y, h1, ?_⟩
    have e : ((bothCols (a.zip b)).map fun u => a.take (a.length - (a.zip b).length) ++ u) = bothCols (a.zip b) := by
      rw [hz, Nat.sub_self]
      simp
    rwa [e] at h2
  · obtain ⟨v1, v2⟩ := zip_get hl hv
    obtain ⟨x, y⟩ := v
    simp only at v1 v2
    have hst : st[i]? = some x := (drop_get hI.1 hI.2 (by omega)).trans v1
    have hlt : (i : Int) < st.length := by omega
    cases hk : x.fKind == y.fKind with
    | false =>
      refine .inl ⟨([], false), ?_, .inl ⟨?_, rfl⟩⟩
      · simp only [spec_l6Columns_l2, hlt, decide_true, cond_true, getI_nat, hst, hb, v2, Option.bind_some, hk, Bool.not_false]
      · simp only [bothCols, hk, cond_false, Option.map_none]
    | true =>
      refine .inr ⟨st.set i { x with fEmpty := x.fEmpty || y.fEmpty }, ⟨?_, ?_⟩, ?_, fun r hr' => ?_⟩
      · rw [set_drop, ← List.drop_drop, hI.1, List.drop_drop]
      · rw [List.length_set]; exact hI.2
      · simp only [spec_l6Columns_l2, hlt, decide_true, cond_true, getI_nat, hst, hb, v2, Option.bind_some, hk, Bool.not_true, cond_false, spec_l6Columns_j3, hw, Int.toNat_natCast]
        cases x.fEmpty <;> simp
      · rw [← both_step (i := i) (by omega) (by omega) hk _ rfl]
        exact hr'
  · refine ⟨(st, true), ?_, .inr ⟨st, ?_, rfl⟩⟩
    · rw [hz, ← hI.2]
      simp only [spec_l6Columns_l2, Int.lt_irrefl, decide_false, cond_false]
    · simp [bothCols]
theorem impl_both {m1 m2 : T_impl_made} (hl : m1.fColumns.length = m2.fColumns.length) (ha : Sm m1.fColumns.length) :
    ∃ y, impl_Step_make_L2_l3 m1 m2 FUEL 0 m1.fColumns = some y ∧ Yes ((bothCols (m1.fColumns.zip m2.fColumns)).map fun c => ⟨c, w64 (m1.fMost + m2.fMost)⟩) y := by
  obtain ⟨a, n1⟩ := m1
  obtain ⟨b, n2⟩ := m2
  simp only at hl ha ⊢
  have hz : (a.zip b).length = a.length := by simp [hl]
  have key := loop_q (xs := a.zip b) (L := fun f i (st : List T_impl_Column) => impl_Step_make_L2_l3 ⟨a, n1⟩ ⟨b, n2⟩ f i st) (fun ps st y => Yes (((bothCols ps).map fun u => st.take (st.length - ps.length) ++ u).map fun c => (⟨c, w64 (n1 + n2)⟩ : T_impl_made)) y)
    (fun i st => st.drop i = a.drop i ∧ st.length = a.length) (by omega) (fun f i st v rest hr hi hv hw hI => ?_) (fun f st hI => ?_) (s := a) ⟨rfl, rfl⟩
  · obtain ⟨y, h1, h2⟩ := key
    refine ⟨y, h1, ?_⟩
    have e : ((bothCols (a.zip b)).map fun u => a.take (a.length - (a.zip b).length) ++ u) = bothCols (a.zip b) := by
      rw [hz, Nat.sub_self]
      simp
    rwa [e] at h2
  · obtain ⟨v1, v2⟩ := zip_get hl hv
    obtain ⟨x, y⟩ := v
    simp only at v1 v2
    have hst : st[i]? = some x := (drop_get hI.1 hI.2 (by omega)).trans v1
    have hlt : (i : Int) < b.length := by omega
    cases hk : x.fKind == y.fKind with
    | false =>
      refine .inl ⟨(T_impl_made.mk [] 0, false), ?_, .inl ⟨?_, rfl⟩⟩
      · have hk' : (y.fKind == x.fKind) = false := by rw [eq_comm_b]; exact hk
        simp only [impl_Step_make_L2_l3, hlt, decide_true, cond_true, getI_nat, hst, v2, Option.bind_some, hk', Bool.not_false]
      · simp only [bothCols, hk, cond_false, Option.map_none]
    | true =>
      have hk' : (y.fKind == x.fKind) = true := by rw [eq_comm_b]; exact hk
      refine .inr ⟨st.set i { x with fEmpty := x.fEmpty || y.fEmpty }, ⟨?_, ?_⟩, ?_, fun r hr' => ?_⟩
      · rw [set_drop, ← List.drop_drop, hI.1, List.drop_drop]
      · rw [List.length_set]; exact hI.2
      · simp only [impl_Step_make_L2_l3, hlt, decide_true, cond_true, getI_nat, hst, v2, Option.bind_some, hk', Bool.not_true, cond_false, hw, Int.toNat_natCast]
        cases x.fEmpty <;> simp
      · rw [← both_step (i := i) (by omega) (by omega) hk _ rfl]
        exact hr'
  · refine ⟨(⟨st, w64 (n1 + n2)⟩, true), ?_, .inr ⟨_, ?_, rfl⟩⟩
    · rw [hz, hl]
      simp only [impl_Step_make_L2_l3, Int.lt_irrefl, decide_false, cond_false]
    · simp [bothCols]
theorem impl_clone_id {a : List T_impl_Column} (ha : Sm a.length) : impl_clone_impl_Column_R a = some a := by
  unfold impl_clone_impl_Column_R slices_Clip_impl_Column_impl_Column_R
  cases h : ((a.length : Int)) == 0
  · rw [app_lt (by simp; omega)]
    simp [slI]
  · have : a = [] := by
      have : (a.length : Int) = 0 := by simpa using h
      exact List.eq_nil_of_length_eq_zero (by omega)
    subst this
    rfl
theorem impl_grow {n : Nat} (hn : n ≤ 4194304) : slices_Grow_impl_Column_impl_Column_n0 (n : Int) = some [] := by
  unfold slices_Grow_impl_Column_impl_Column_n0
  have h0 : w64 (0 - 0) = 0 := w64_of (by omega) (by omega)
  have h1 : w64 ((n : Int) - 0) = n := by rw [w64_of] <;> omega
  have h2 : decide ((n : Int) < 0) = false := by simp
  rw [h2, h0, h1]
  simp only [cond_false]
  by_cases hp : (n : Int) > 0
  · have h3 : decide ((n : Int) > 0) = true := decide_eq_true hp
    rw [h3, cond_true]
    unfold apzI
    rw [if_pos (by omega)]
    simp [slI]
  · have h3 : decide ((n : Int) > 0) = false := decide_eq_false hp
    rw [h3, cond_false]
theorem fuel3 : ∃ F, FUEL = F + 1 + 1 + 1 := by
  have h : 3 ≤ FUEL := by unfold FUEL; omega
  exact ⟨FUEL - 3, by omega⟩
theorem concat_l1 (F : Nat) {a b : List T_impl_Column} (ha : Sm a.length) (hb : Sm b.length) : slices_Concat_impl_Column_impl_Column_l1 [a, b] (F + 1 + 1 + 1) 0 [] = some (a ++ b) := by
  have w3 : w64 (0 + 1) = 1 := w64_of (by omega) (by omega)
  have w4 : w64 (1 + 1) = 2 := w64_of (by omega) (by omega)
  have i0 : getI [a, b] 0 = some a := rfl
  have i1 : getI [a, b] 1 = some b := rfl
  have l0 : decide ((0 : Int) < (([a, b] : List (List T_impl_Column)).length : Int)) = true := rfl
  have l1 : decide ((1 : Int) < (([a, b] : List (List T_impl_Column)).length : Int)) = true := rfl
  have l2 : decide ((2 : Int) < (([a, b] : List (List T_impl_Column)).length : Int)) = false := rfl
  rw [slices_Concat_impl_Column_impl_Column_l1, l0, cond_true, i0, Option.bind_some, app_lt (xs := ([] : List T_impl_Column)) (ys := a) (by simp; omega), Option.bind_some, List.nil_append, w3]
  rw [slices_Concat_impl_Column_impl_Column_l1, l1, cond_true, i1, Option.bind_some, app_lt (xs := a) (ys := b) (by omega), Option.bind_some, w4]
  rw [slices_Concat_impl_Column_impl_Column_l1, l2, cond_false]
theorem concat_l0 (F : Nat) {a b : List T_impl_Column} (ha : Sm a.length) (hb : Sm b.length) : slices_Concat_impl_Column_impl_Column_l0 [a, b] (F + 1 + 1 + 1) 0 0 = slices_Concat_impl_Column_impl_Column_l1 [a, b] FUEL 0 [] := by
  have w1 : w64 (0 + (a.length : Int)) = a.length := by rw [w64_of] <;> omega
  have w2 : w64 ((a.length : Int) + b.length) = ((a.length + b.length : Nat) : Int) := by rw [w64_of] <;> omega
  have w3 : w64 (0 + 1) = 1 := w64_of (by omega) (by omega)
  have w4 : w64 (1 + 1) = 2 := w64_of (by omega) (by omega)
  have n1 : decide ((a.length : Int) < 0) = false := by simp
  have n2 : decide (((a.length + b.length : Nat) : Int) < 0) = false := by
    rw [decide_eq_false_iff_not]
    omega
  have i0 : getI [a, b] 0 = some a := rfl
  have i1 : getI [a, b] 1 = some b := rfl
  have l0 : decide ((0 : Int) < (([a, b] : List (List T_impl_Column)).length : Int)) = true := rfl
  have l1 : decide ((1 : Int) < (([a, b] : List (List T_impl_Column)).length : Int)) = true := rfl
  have l2 : decide ((2 : Int) < (([a, b] : List (List T_impl_Column)).length : Int)) = false := rfl
  rw [slices_Concat_impl_Column_impl_Column_l0, l0, cond_true, i0, Option.bind_some, w1, n1, cond_false, w3]
  rw [slices_Concat_impl_Column_impl_Column_l0, l1, cond_true, i1, Option.bind_some, w2, n2, cond_false, w4]
  rw [slices_Concat_impl_Column_impl_Column_l0, l2, cond_false, impl_grow (n := a.length + b.length) (by omega), Option.bind_some]
theorem impl_concat {a b : List T_impl_Column} (ha : Sm a.length) (hb : Sm b.length) : slices_Concat_impl_Column_impl_Column [a, b] = some (a ++ b) := by
  obtain ⟨F, hF⟩ := fuel3
  have h0 := concat_l0 F ha hb
  have h1 := concat_l1 F ha hb
  rw [← hF] at h0 h1
  exact h0.trans h1
end Go.D
set_option linter.unusedVariables false
namespace Go.D
def SmS (s : T_impl_Step) : Prop := Sm s.fE.length ∧ (∀ p ∈ s.fE, SmP p) ∧ Sm s.fList.length
def SmSs (ss : List T_impl_Step) : Prop := Sm ss.length ∧ ∀ s ∈ ss, SmS s
def stepOf (s : T_impl_Step) (a b : List T_impl_Column) : Option (List T_impl_Column) :=
  bif s.fKind == 2 then (bif exprKind a s.fE == 3 then some a else none)
  else bif s.fKind == 3 then takeRun a s.fList []
  else bif s.fKind == 4 then (bif decide ((a ++ b).length ≤ 4) && exprKind (a ++ b) s.fE == 3 then some (a ++ b) else none)
  else bif s.fKind == 5 then (bif a.length == b.length then bothCols (a.zip b) else none)
  else bif s.fKind == 6 then some a else none
def stepCols (ts : List T_impl_Table) (cols : List (List T_impl_Column)) (s : T_impl_Step) : Option (List T_impl_Column) :=
  bif fields s then
    (bif s.fKind == 1 then (bif inR s.fN 0 ((ts.length : Int) - 1) then (getI ts s.fN).map (·.fColumns) else none)
    else bif inR s.fA 0 ((cols.length : Int) - 1) && inR s.fB 0 ((cols.length : Int) - 1) then
      (getI cols s.fA).bind fun a => (getI cols s.fB).bind fun b => stepOf s a b
    else none)
  else none
theorem inR_get {α : Type} {xs : List α} {n : Int} (h : inR n 0 ((xs.length : Int) - 1) = true) : ∃ x, getI xs n = some x ∧ x ∈ xs := by
  unfold inR at h
  simp only [Bool.and_eq_true, decide_eq_true_eq] at h
  obtain ⟨x, h1, h2⟩ := getI_lt (xs := xs) h.1 (by omega)
  exact ⟨x, h1, List.mem_of_getElem? h2⟩
theorem app_nil_l {a : List T_impl_Column} (h : Sm a.length) : app [] a = some a := app_lt (by simp; omega)
theorem len_beq {α β : Type} (xs : List α) (ys : List β) : ((xs.length : Int) == (ys.length : Int)) = (xs.length == ys.length) := by
  rw [Bool.eq_iff_iff, beq_iff_eq, beq_iff_eq]
  omega
theorem spec_columns {ts : List T_impl_Table} {cols : List (List T_impl_Column)} {s : T_impl_Step} (hts : SmTs ts) (hl : Sm cols.length) (hc : ∀ c ∈ cols, Sm c.length) (hs : SmS s) :
    ∃ y, spec_l6Columns ts cols s = some y ∧ Yes (stepCols ts cols s) y := by
  have hw1 : w64 ((ts.length : Int) - 1) = (ts.length : Int) - 1 := w64_of (by omega) (by have := hts.1; omega)
  have hw2 : w64 ((cols.length : Int) - 1) = (cols.length : Int) - 1 := w64_of (by omega) (by omega)
  unfold spec_l6Columns stepCols
  simp only [spec_fields, Option.bind_some, spec_in, hw1, hw2]
  cases fields s
  · exact ⟨_, rfl, .inl ⟨rfl, rfl⟩⟩
  simp only [Bool.not_true, cond_false, cond_true]
  cases h1 : s.fKind == 1
  · simp only [cond_false]
    cases hA : inR s.fA 0 ((cols.length : Int) - 1)
    · exact ⟨_, rfl, .inl ⟨rfl, rfl⟩⟩
    cases hB : inR s.fB 0 ((cols.length : Int) - 1)
    · exact ⟨_, rfl, .inl ⟨rfl, rfl⟩⟩
    obtain ⟨a, a1, a2⟩ := inR_get hA
    obtain ⟨b, b1, b2⟩ := inR_get hB
    simp only [Bool.not_true, cond_false, cond_true, Bool.and_self, spec_l6Columns_j0, a1, b1, Option.bind_some, app_nil_l (hc a a2), stepOf]
    cases s.fKind == 2
    · simp only [cond_false]
      cases s.fKind == 3
      · simp only [cond_false]
        cases s.fKind == 4
        · simp only [cond_false]
          cases s.fKind == 5
          · simp only [cond_false]
            cases s.fKind == 6
            · exact ⟨_, rfl, .inl ⟨rfl, rfl⟩⟩
            · exact ⟨_, rfl, .inr ⟨_, rfl, rfl⟩⟩
          · simp only [cond_true, len_beq]
            cases he : a.length == b.length
            · exact ⟨_, rfl, .inl ⟨rfl, rfl⟩⟩
            · exact spec_both b1 (by simpa using he) (hc a a2)
        · have h1 := hc a a2
          have h2 := hc b b2
          simp only [cond_true, app_lt (xs := a) (ys := b) (by omega), Option.bind_some, le4]
          cases hd : decide ((a ++ b).length ≤ 4)
          · exact ⟨_, rfl, .inl ⟨rfl, rfl⟩⟩
          · have hd := of_decide_eq_true hd
            simp only [cond_true, spec_exprKind (cs := a ++ b) (by omega) hs.1 hs.2.1, Option.bind_some, Bool.true_and]
            cases exprKind (a ++ b) s.fE == 3
            · exact ⟨_, rfl, .inl ⟨rfl, rfl⟩⟩
            · exact ⟨_, rfl, .inr ⟨_, rfl, rfl⟩⟩
      · exact spec_take (hc a a2) hs.2.2
    · simp only [cond_true, spec_exprKind (hc a a2) hs.1 hs.2.1, Option.bind_some]
      cases exprKind a s.fE == 3
      · exact ⟨_, rfl, .inl ⟨rfl, rfl⟩⟩
      · exact ⟨_, rfl, .inr ⟨_, rfl, rfl⟩⟩
  · simp only [cond_true]
    cases hN : inR s.fN 0 ((ts.length : Int) - 1)
    · exact ⟨_, rfl, .inl ⟨rfl, rfl⟩⟩
    obtain ⟨t, t1, t2⟩ := inR_get hN
    simp only [Bool.not_true, cond_false, cond_true, t1, Option.bind_some, app_nil_l (hts.2 t t2).1, Option.map_some]
    exact ⟨_, rfl, .inr ⟨_, rfl, rfl⟩⟩
def mostOf (ahead : List T_impl_made) (s : T_impl_Step) : Int :=
  bif s.fKind == 1 then 6 else match getI ahead s.fA, getI ahead s.fB with
  | some a, some b => bif s.fKind == 4 then w64 (a.fMost * b.fMost) else bif s.fKind == 5 then w64 (a.fMost + b.fMost) else a.fMost
  | _, _ => 0
def stepMade (ts : List T_impl_Table) (ahead : List T_impl_made) (s : T_impl_Step) : Option T_impl_made := (stepCols ts (ahead.map (·.fColumns)) s).map fun c => ⟨c, mostOf ahead s⟩
theorem getI_map {α β : Type} (f : α → β) (xs : List α) (n : Int) : getI (xs.map f) n = (getI xs n).map f := by
  unfold getI
  split
  · rw [List.getElem?_map]
  · rfl
theorem impl_make {ts : List T_impl_Table} {ahead : List T_impl_made} {s : T_impl_Step} (hts : SmTs ts) (hl : Sm ahead.length) (hc : ∀ m ∈ ahead, Sm m.fColumns.length) (hs : SmS s) :
    ∃ y, impl_Step_make_L2 s ts ahead = some y ∧ Yes (stepMade ts ahead s) y := by
  have hw1 : w64 ((ts.length : Int) - 1) = (ts.length : Int) - 1 := w64_of (by omega) (by have := hts.1; omega)
  have hw2 : w64 ((ahead.length : Int) - 1) = (ahead.length : Int) - 1 := w64_of (by omega) (by omega)
  unfold impl_Step_make_L2 stepMade stepCols
  simp only [impl_fields, Option.bind_some, impl_in, List.length_map, getI_map]
  cases fields s
  · exact ⟨_, rfl, .inl ⟨rfl, rfl⟩⟩
  simp only [Bool.not_true, cond_false, cond_true]
  cases h16 : inR s.fKind 1 6
  · have hk : (s.fKind == 1) = false ∧ (s.fKind == 2) = false ∧ (s.fKind == 3) = false ∧ (s.fKind == 4) = false ∧ (s.fKind == 5) = false ∧ (s.fKind == 6) = false := by
      simp only [inR, Bool.and_eq_false_iff, decide_eq_false_iff_not] at h16
      simp only [beq_eq_false_iff_ne, ne_eq]
      omega
    obtain ⟨k1, k2, k3, k4, k5, k6⟩ := hk
    refine ⟨_, rfl, .inl ⟨?_, rfl⟩⟩
    simp only [k1, k2, k3, k4, k5, k6, cond_false, stepOf]
    cases (inR s.fA 0 ((ahead.length : Int) - 1) && inR s.fB 0 ((ahead.length : Int) - 1))
    · rfl
    · cases getI ahead s.fA <;> cases getI ahead s.fB <;> rfl
  simp only [Bool.not_true, impl_Step_make_L2_j0, cond_false, impl_in, hw1, hw2, Option.bind_some, mostOf]
  cases h1 : s.fKind == 1
  · simp only [cond_false]
    cases hA : inR s.fA 0 ((ahead.length : Int) - 1)
    · exact ⟨_, rfl, .inl ⟨rfl, rfl⟩⟩
    cases hB : inR s.fB 0 ((ahead.length : Int) - 1)
    · exact ⟨_, rfl, .inl ⟨rfl, rfl⟩⟩
    obtain ⟨a, a1, a2⟩ := inR_get hA
    obtain ⟨b, b1, b2⟩ := inR_get hB
    simp only [Bool.not_true, cond_false, cond_true, Bool.and_self, impl_Step_make_L2_j1, a1, b1, Option.bind_some, Option.map_some, stepOf]
    cases h2 : s.fKind == 2
    · simp only [cond_false]
      cases h3 : s.fKind == 3
      · simp only [cond_false]
        cases h4 : s.fKind == 4
        · simp only [cond_false]
          cases h5 : s.fKind == 5
          · simp only [cond_false]
            have h6 : (s.fKind == 6) = true := by
              simp only [inR, Bool.and_eq_true, decide_eq_true_eq] at h16
              simp only [beq_eq_false_iff_ne, ne_eq] at h1 h2 h3 h4 h5
              simp only [beq_iff_eq]
              omega
            rw [h6]
            exact ⟨_, rfl, .inr ⟨_, rfl, rfl⟩⟩
          · simp only [cond_true, len_beq, impl_clone_id (hc a a2), Option.bind_some]
            cases he : a.fColumns.length == b.fColumns.length
            · exact ⟨_, rfl, .inl ⟨rfl, rfl⟩⟩
            · exact impl_both (by simpa using he) (hc a a2)
        · have g1 := hc a a2
          have g2 := hc b b2
          simp only [cond_true, impl_concat g1 g2, Option.bind_some, le4]
          cases hd : decide ((a.fColumns ++ b.fColumns).length ≤ 4)
          · exact ⟨_, rfl, .inl ⟨rfl, rfl⟩⟩
          · have hd := of_decide_eq_true hd
            simp only [cond_true, impl_exprKind (cs := a.fColumns ++ b.fColumns) (by omega) hs.1 hs.2.1, Option.bind_some, Bool.true_and]
            cases exprKind (a.fColumns ++ b.fColumns) s.fE == 3
            · exact ⟨_, rfl, .inl ⟨rfl, rfl⟩⟩
            · exact ⟨_, rfl, .inr ⟨_, rfl, rfl⟩⟩
      · have h4 : (s.fKind == 4) = false := by
          simp only [beq_iff_eq] at h3
          simp [h3]
        have h5 : (s.fKind == 5) = false := by
          simp only [beq_iff_eq] at h3
          simp [h3]
        simp only [h4, h5, cond_false]
        exact impl_take (hc a a2) hs.2.2
    · have h4 : (s.fKind == 4) = false := by
        simp only [beq_iff_eq] at h2
        simp [h2]
      have h5 : (s.fKind == 5) = false := by
        simp only [beq_iff_eq] at h2
        simp [h2]
      simp only [cond_true, impl_exprKind (hc a a2) hs.1 hs.2.1, Option.bind_some, h4, h5, cond_false]
      cases exprKind a.fColumns s.fE == 3
      · exact ⟨_, rfl, .inl ⟨rfl, rfl⟩⟩
      · exact ⟨_, rfl, .inr ⟨_, rfl, rfl⟩⟩
  · simp only [cond_true]
    cases hN : inR s.fN 0 ((ts.length : Int) - 1)
    · exact ⟨_, rfl, .inl ⟨rfl, rfl⟩⟩
    obtain ⟨t, t1, t2⟩ := inR_get hN
    simp only [Bool.not_true, cond_false, cond_true, t1, Option.bind_some, Option.map_some]
    exact ⟨_, rfl, .inr ⟨_, rfl, rfl⟩⟩
end Go.D
set_option linter.unusedVariables false
namespace Go.D
def planRun (ts : List T_impl_Table) : List T_impl_Step → List T_impl_made → Option (List T_impl_made)
  | [], ahead => some ahead
  | s :: ss, ahead => match stepMade ts ahead s with
    | none => none
    | some m => bif decide (m.fMost > 300) then none else planRun ts ss (ahead ++ [m])
def planOk (ts : List T_impl_Table) (ss : List T_impl_Step) : Bool := (planRun ts ss []).isSome && (tabsOk ts && inR (ss.length : Int) 1 6)
theorem takeRun_len {a : List T_impl_Column} : ∀ {ns : List Int} {acc c : List T_impl_Column}, takeRun a ns acc = some c → c.length ≤ 4
  | [], acc, c, h => by
    unfold takeRun at h
    cases hd : decide (acc.length ≤ 4) with
    | false => rw [hd] at h; cases h
    | true => rw [hd] at h; cases h; exact of_decide_eq_true hd
  | n :: ns, acc, c, h => by
    unfold takeRun at h
    cases hin : inR n 0 ((a.length : Int) - 1) with
    | false => rw [hin] at h; cases h
    | true =>
      rw [hin, cond_true] at h
      split at h
      · exact takeRun_len h
      · cases h
theorem bothCols_len : ∀ {ps : List (T_impl_Column × T_impl_Column)} {c : List T_impl_Column}, bothCols ps = some c → c.length = ps.length
  | [], c, h => by cases h; rfl
  | (x, y) :: r, c, h => by
    unfold bothCols at h
    cases hk : x.fKind == y.fKind with
    | false => rw [hk] at h; cases h
    | true =>
      rw [hk, cond_true, Option.map_eq_some_iff] at h
      obtain ⟨u, h1, rfl⟩ := h
      simp [bothCols_len h1]
theorem bifN {α : Type} {c : Bool} {a : Option α} {y : α} (h : (bif c then a else none) = some y) : c = true ∧ a = some y := by
  cases c
  · cases h
  · exact ⟨rfl, h⟩
theorem stepOf_len {s : T_impl_Step} {a b c : List T_impl_Column} (ha : Sm a.length) (h : stepOf s a b = some c) : Sm c.length := by
  unfold stepOf at h
  cases h2 : s.fKind == 2
  · rw [h2, cond_false] at h
    cases h3 : s.fKind == 3
    · rw [h3, cond_false] at h
      cases h4 : s.fKind == 4
      · rw [h4, cond_false] at h
        cases h5 : s.fKind == 5
        · rw [h5, cond_false] at h
          cases (bifN h).2
          exact ha
        · rw [h5, cond_true] at h
          have := bothCols_len (bifN h).2
          rw [List.length_zip] at this
          omega
      · rw [h4, cond_true] at h
        obtain ⟨h6, h7⟩ := bifN h
        cases h7
        simp only [Bool.and_eq_true, decide_eq_true_eq] at h6
        omega
    · rw [h3, cond_true] at h
      have := takeRun_len h
      omega
  · rw [h2, cond_true] at h
    cases (bifN h).2
    exact ha
theorem getI_mem {α : Type} {xs : List α} {n : Int} {x : α} (h : getI xs n = some x) : x ∈ xs := List.mem_of_getElem? (getI_spec h).2.2
theorem stepCols_len {ts : List T_impl_Table} {cols : List (List T_impl_Column)} {s : T_impl_Step} {c : List T_impl_Column} (hts : SmTs ts) (hc : ∀ c ∈ cols, Sm c.length) (h : stepCols ts cols s = some c) : Sm c.length := by
  unfold stepCols at h
  obtain ⟨_, h⟩ := bifN h
  cases h1 : s.fKind == 1
  · rw [h1, cond_false] at h
    obtain ⟨_, h⟩ := bifN h
    obtain ⟨a, ha, h⟩ := bindS h
    obtain ⟨b, hb, h⟩ := bindS h
    exact stepOf_len (hc a (getI_mem ha)) h
  · rw [h1, cond_true] at h
    obtain ⟨_, h⟩ := bifN h
    rw [Option.map_eq_some_iff] at h
    obtain ⟨t, ht, rfl⟩ := h
    exact (hts.2 t (getI_mem ht)).1
theorem spec_made {ts : List T_impl_Table} {ahead : List T_impl_made} {s : T_impl_Step} {c : List T_impl_Column} (h : stepCols ts (ahead.map (·.fColumns)) s = some c) : spec_l6Made (ahead.map (·.fMost)) s = some (mostOf ahead s) := by
  unfold stepCols at h
  obtain ⟨_, h⟩ := bifN h
  unfold spec_l6Made mostOf
  cases h1 : s.fKind == 1
  · rw [h1, cond_false] at h
    obtain ⟨_, h⟩ := bifN h
    obtain ⟨a, ha, h⟩ := bindS h
    obtain ⟨b, hb, h⟩ := bindS h
    rw [getI_map, Option.map_eq_some_iff] at ha hb
    obtain ⟨x, hx, rfl⟩ := ha
    obtain ⟨y, hy, rfl⟩ := hb
    simp only [cond_false, getI_map, hx, hy, Option.map_some, Option.bind_some]
    cases s.fKind == 4 <;> cases s.fKind == 5 <;> rfl
  · rfl
theorem spec_all {ts : List T_impl_Table} {ss : List T_impl_Step} (hts : SmTs ts) (hss : SmSs ss) : ∃ y, spec_l6All ts ss = some y ∧ Yes ((planRun ts ss []).map fun l => l.map (·.fColumns)) y := by
  have hl := hss.1
  unfold spec_l6All
  refine loop_q (xs := ss) (L := fun f i (ahead : List T_impl_made) => spec_l6All_l0 ts ss f i (ahead.map (·.fColumns)) (ahead.map (·.fMost))) (fun ss ahead y => Yes ((planRun ts ss ahead).map fun l => l.map (·.fColumns)) y)
    (fun i ahead => ahead.length = i ∧ ∀ m ∈ ahead, Sm m.fColumns.length) (by omega) (fun f i ahead v rest hr hi hv hw hI => ?_) (fun f ahead hI => ?_) (s := ([] : List T_impl_made)) ⟨rfl, fun m hm => by cases hm⟩
  · have hlt : (i : Int) < ss.length := by omega
    have hcs : ∀ c ∈ ahead.map (·.fColumns), Sm c.length := fun c hc => by
      obtain ⟨m, hm, rfl⟩ := List.mem_map.1 hc
      exact hI.2 m hm
    obtain ⟨y, h1, h2⟩ := spec_columns (cols := ahead.map (·.fColumns)) (s := v) hts (by rw [List.length_map]; omega) hcs (hss.2 v (List.mem_of_getElem? hv))
    rcases h2 with ⟨h2, h3⟩ | ⟨c, h2, rfl⟩
    · refine .inl ⟨([], false), ?_, .inl ⟨?_, rfl⟩⟩
      · simp only [spec_l6All_l0, hlt, decide_true, cond_true, getI_nat, hv, Option.bind_some, h1, h3, Bool.not_false]
      · simp only [planRun, stepMade, h2, Option.map_none]
    · have hm := spec_made h2
      have hlen : (ahead.map (·.fMost)).length = i := by rw [List.length_map]; exact hI.1
      have a1 : app (ahead.map (·.fColumns)) [c] = some (ahead.map (·.fColumns) ++ [c]) := app_lt (by rw [List.length_map]; simp; omega)
      have a2 : app (ahead.map (·.fMost)) [mostOf ahead v] = some (ahead.map (·.fMost) ++ [mostOf ahead v]) := app_lt (by rw [List.length_map]; simp; omega)
      have g : (ahead.map (·.fMost) ++ [mostOf ahead v])[i]? = some (mostOf ahead v) := by
        rw [List.getElem?_append_right (by omega), hlen]
        simp
      cases hmost : decide (mostOf ahead v > 300) with
      | true =>
        refine .inl ⟨([], false), ?_, .inl ⟨?_, rfl⟩⟩
        · simp only [spec_l6All_l0, hlt, decide_true, cond_true, getI_nat, hv, Option.bind_some, h1, Bool.not_true, cond_false, a1, hm, a2, g, hmost]
        · simp only [planRun, stepMade, h2, Option.map_some, hmost, cond_true, Option.map_none]
      | false =>
        refine .inr ⟨ahead ++ [⟨c, mostOf ahead v⟩], ⟨by simp [hI.1], fun m hm => ?_⟩, ?_, fun y hy => ?_⟩
        · rcases List.mem_append.1 hm with hm | hm
          · exact hI.2 m hm
          · have : m = ⟨c, mostOf ahead v⟩ := by simpa using hm
            subst this
            exact stepCols_len hts hcs h2
        · simp only [spec_l6All_l0, hlt, decide_true, cond_true, getI_nat, hv, Option.bind_some, h1, Bool.not_true, cond_false, a1, hm, a2, g, hmost, hw, List.map_append, List.map_cons, List.map_nil]
        · simp only [planRun, stepMade, h2, Option.map_some, hmost, cond_false]
          exact hy
  · refine ⟨(ahead.map (·.fColumns), true), ?_, .inr ⟨_, rfl, rfl⟩⟩
    simp only [spec_l6All_l0, Int.lt_irrefl, decide_false, cond_false]
theorem impl_run {ts : List T_impl_Table} {ss : List T_impl_Step} (hts : SmTs ts) (hss : SmSs ss) : ∃ y, impl_makes_l1 ts ss FUEL 0 [] = some y ∧ Yes (planRun ts ss []) y := by
  have hl := hss.1
  refine loop_q (xs := ss) (L := fun f i (ahead : List T_impl_made) => impl_makes_l1 ts ss f i ahead) (fun ss ahead y => Yes (planRun ts ss ahead) y)
    (fun i ahead => ahead.length = i ∧ ∀ m ∈ ahead, Sm m.fColumns.length) (by omega) (fun f i ahead v rest hr hi hv hw hI => ?_) (fun f ahead hI => ?_) (s := ([] : List T_impl_made)) ⟨rfl, fun m hm => by cases hm⟩
  · have hlt : (i : Int) < ss.length := by omega
    have hcs : ∀ c ∈ ahead.map (·.fColumns), Sm c.length := fun c hc => by
      obtain ⟨m, hm, rfl⟩ := List.mem_map.1 hc
      exact hI.2 m hm
    obtain ⟨y, h1, h2⟩ := impl_make (ahead := ahead) (s := v) hts (by omega) hI.2 (hss.2 v (List.mem_of_getElem? hv))
    rcases h2 with ⟨h2, h3⟩ | ⟨m, h2, rfl⟩
    · refine .inl ⟨([], false), ?_, .inl ⟨?_, rfl⟩⟩
      · simp only [impl_makes_l1, hlt, decide_true, cond_true, getI_nat, hv, Option.bind_some, h1, h3, Bool.not_false, impl_makes_j2]
      · simp only [planRun, h2]
    · have a1 : app ahead [m] = some (ahead ++ [m]) := app_lt (by simp; omega)
      cases hmost : decide (m.fMost > 300) with
      | true =>
        refine .inl ⟨([], false), ?_, .inl ⟨?_, rfl⟩⟩
        · simp only [impl_makes_l1, hlt, decide_true, cond_true, getI_nat, hv, Option.bind_some, h1, Bool.not_true, cond_false, impl_makes_j2, hmost]
        · simp only [planRun, h2, hmost, cond_true]
      | false =>
        refine .inr ⟨ahead ++ [m], ⟨by simp [hI.1], fun m' hm => ?_⟩, ?_, fun y hy => ?_⟩
        · rcases List.mem_append.1 hm with hm | hm
          · exact hI.2 m' hm
          · have : m' = m := by simpa using hm
            subst this
            unfold stepMade at h2
            rw [Option.map_eq_some_iff] at h2
            obtain ⟨c, hc, rfl⟩ := h2
            exact stepCols_len hts hcs hc
        · simp only [impl_makes_l1, hlt, decide_true, cond_true, getI_nat, hv, Option.bind_some, h1, Bool.not_true, cond_false, impl_makes_j2, hmost, a1, hw]
        · simp only [planRun, h2, hmost, cond_false]
          exact hy
  · refine ⟨(ahead, true), ?_, .inr ⟨_, rfl, rfl⟩⟩
    simp only [impl_makes_l1, Int.lt_irrefl, decide_false, cond_false]
theorem Yes.two {γ : Type} {m : Option γ} {y : γ × Bool} (h : Yes m y) : y.2 = m.isSome := by
  rcases h with ⟨rfl, h⟩ | ⟨c, rfl, rfl⟩
  · exact h
  · rfl
theorem spec_planOk {ts : List T_impl_Table} {ss : List T_impl_Step} (hts : SmTs ts) (hss : SmSs ss) : spec_PlanOk ts ss = some (planOk ts ss) := by
  obtain ⟨y, h1, h2⟩ := spec_all hts hss
  have h3 := h2.two
  unfold spec_PlanOk planOk
  rw [h1, Option.bind_some, h3, Option.isSome_map]
  simp only [spec_tabsOk hts, Option.bind_some, spec_in]
  cases (planRun ts ss []).isSome <;> cases tabsOk ts <;> rfl
end Go.D
set_option linter.unusedVariables false
namespace Go.D
theorem planRun_len {ts : List T_impl_Table} : ∀ {ss : List T_impl_Step} {ahead l : List T_impl_made}, planRun ts ss ahead = some l → l.length = ahead.length + ss.length
  | [], ahead, l, h => by cases h; simp
  | s :: ss, ahead, l, h => by
    unfold planRun at h
    split at h
    · cases h
    · rename_i m hm
      cases hd : decide (m.fMost > 300) with
      | true => rw [hd] at h; cases h
      | false =>
        rw [hd, cond_false] at h
        have := planRun_len h
        simp at this ⊢
        omega
theorem stepOf_len4 {s : T_impl_Step} {a b c : List T_impl_Column} (ha : a.length ≤ 4) (h : stepOf s a b = some c) : c.length ≤ 4 := by
  unfold stepOf at h
  cases h2 : s.fKind == 2
  · rw [h2, cond_false] at h
    cases h3 : s.fKind == 3
    · rw [h3, cond_false] at h
      cases h4 : s.fKind == 4
      · rw [h4, cond_false] at h
        cases h5 : s.fKind == 5
        · rw [h5, cond_false] at h
          cases (bifN h).2
          exact ha
        · rw [h5, cond_true] at h
          have := bothCols_len (bifN h).2
          rw [List.length_zip] at this
          omega
      · rw [h4, cond_true] at h
        obtain ⟨h6, h7⟩ := bifN h
        cases h7
        simp only [Bool.and_eq_true, decide_eq_true_eq] at h6
        omega
    · rw [h3, cond_true] at h
      exact takeRun_len h
  · rw [h2, cond_true] at h
    cases (bifN h).2
    exact ha
theorem tab_len4 {ts : List T_impl_Table} (h : tabsOk ts = true) {t : T_impl_Table} (ht : t ∈ ts) : t.fColumns.length ≤ 4 := by
  unfold tabsOk at h
  simp only [Bool.and_eq_true] at h
  have := List.all_eq_true.1 h.1 t ht
  unfold tabOk rowsOk colsOk at this
  simp only [Bool.and_eq_true, decide_eq_true_eq] at this
  exact this.2.1.2
theorem stepCols_len4 {ts : List T_impl_Table} {cols : List (List T_impl_Column)} {s : T_impl_Step} {c : List T_impl_Column} (hts : tabsOk ts = true) (hc : ∀ c ∈ cols, c.length ≤ 4) (h : stepCols ts cols s = some c) : c.length ≤ 4 := by
  unfold stepCols at h
  obtain ⟨_, h⟩ := bifN h
  cases h1 : s.fKind == 1
  · rw [h1, cond_false] at h
    obtain ⟨_, h⟩ := bifN h
    obtain ⟨a, ha, h⟩ := bindS h
    obtain ⟨b, hb, h⟩ := bindS h
    exact stepOf_len4 (hc a (getI_mem ha)) h
  · rw [h1, cond_true] at h
    obtain ⟨_, h⟩ := bifN h
    rw [Option.map_eq_some_iff] at h
    obtain ⟨t, ht, rfl⟩ := h
    exact tab_len4 hts (getI_mem ht)
theorem planRun_len4 {ts : List T_impl_Table} (hts : tabsOk ts = true) : ∀ {ss : List T_impl_Step} {ahead l : List T_impl_made}, (∀ m ∈ ahead, m.fColumns.length ≤ 4) → planRun ts ss ahead = some l → ∀ m ∈ l, m.fColumns.length ≤ 4
  | [], ahead, l, ha, h => by cases h; exact ha
  | s :: ss, ahead, l, ha, h => by
    unfold planRun at h
    split at h
    · cases h
    · rename_i m hm
      cases hd : decide (m.fMost > 300) with
      | true => rw [hd] at h; cases h
      | false =>
        rw [hd, cond_false] at h
        refine planRun_len4 hts (fun m' hm' => ?_) h
        rcases List.mem_append.1 hm' with hm' | hm'
        · exact ha m' hm'
        · have : m' = m := by simpa using hm'
          subst this
          unfold stepMade at hm
          rw [Option.map_eq_some_iff] at hm
          obtain ⟨c, hc, rfl⟩ := hm
          refine stepCols_len4 hts (fun c' hc' => ?_) hc
          obtain ⟨m2, hm2, rfl⟩ := List.mem_map.1 hc'
          exact ha m2 hm2
def planCols (ts : List T_impl_Table) (ss : List T_impl_Step) : List T_impl_Column := bif planOk ts ss then (((planRun ts ss []).getD [])[ss.length - 1]?.map (·.fColumns)).getD [] else []
theorem planOk_run {ts : List T_impl_Table} {ss : List T_impl_Step} (h : planOk ts ss = true) : ∃ l m, planRun ts ss [] = some l ∧ l.length = ss.length ∧ l[ss.length - 1]? = some m ∧ planCols ts ss = m.fColumns ∧ m.fColumns.length ≤ 4 ∧ tabsOk ts = true ∧ inR (ss.length : Int) 1 6 = true := by
  have h0 := h
  unfold planOk at h
  simp only [Bool.and_eq_true] at h
  obtain ⟨h1, h2, h3⟩ := h
  obtain ⟨l, hl⟩ := Option.isSome_iff_exists.1 h1
  have hlen := planRun_len hl
  simp at hlen
  have hp : 1 ≤ ss.length := by
    unfold inR at h3
    simp only [Bool.and_eq_true, decide_eq_true_eq] at h3
    omega
  have hi : ss.length - 1 < l.length := by omega
  have hm : l[ss.length - 1]? = some l[ss.length - 1] := List.getElem?_eq_getElem hi
  refine ⟨l, l[ss.length - 1], hl, hlen, hm, ?_, planRun_len4 h2 (fun m hm => by cases hm) hl _ (List.getElem_mem hi), h2, h3⟩
  unfold planCols
  rw [h0, cond_true, hl, Option.getD_some, hm]
  rfl
theorem spec_planCols {ts : List T_impl_Table} {ss : List T_impl_Step} (hts : SmTs ts) (hss : SmSs ss) : spec_PlanColumns ts ss = some (planCols ts ss) := by
  unfold spec_PlanColumns
  rw [spec_planOk hts hss, Option.bind_some]
  cases hp : planOk ts ss with
  | false => simp only [Bool.not_false, cond_true, planCols, hp, cond_false]
  | true =>
    obtain ⟨l, m, h1, h2, h3, h4, h5, h6, h7⟩ := planOk_run hp
    obtain ⟨y, e1, e2⟩ := spec_all hts hss
    rw [h1, Option.map_some] at e2
    rcases e2 with ⟨e2, _⟩ | ⟨c, e2, rfl⟩
    · cases e2
    · cases e2
      have hp1 : 1 ≤ ss.length := by
        unfold inR at h7
        simp only [Bool.and_eq_true, decide_eq_true_eq] at h7
        omega
      have hw : w64 ((ss.length : Int) - 1) = ((ss.length - 1 : Nat) : Int) := by
        rw [w64_of (by omega) (by have := hss.1; omega)]
        omega
      simp only [Bool.not_true, cond_false, e1, Option.bind_some, hw, getI_nat, List.getElem?_map, h3, Option.map_some]
      rw [app_nil_l (by omega), Option.bind_some, h4]
theorem impl_planCols {ts : List T_impl_Table} {ss : List T_impl_Step} (hts : SmTs ts) (hss : SmSs ss) : impl_PlanColumns_R ts ss = some (planCols ts ss) := by
  obtain ⟨y, e1, e2⟩ := impl_run hts hss
  have hy := e2.two
  unfold impl_PlanColumns_R impl_makes
  simp only [impl_tabsOk hts, Option.bind_some, impl_in]
  cases ht : tabsOk ts with
  | false => simp [impl_makes_j0, planCols, planOk, ht]
  | true =>
    cases hl : inR (ss.length : Int) 1 6 with
    | false => simp [impl_makes_j0, planCols, planOk, hl]
    | true =>
      simp only [impl_makes_j0, Bool.not_true, cond_false, e1, Option.bind_some]
      cases hr : (planRun ts ss []).isSome with
      | false =>
        rw [hr] at hy
        simp [hy, planCols, planOk, hr]
      | true =>
        have hp : planOk ts ss = true := by simp [planOk, hr, ht, hl]
        obtain ⟨l, m, h1, h2, h3, h4, h5, h6, h7⟩ := planOk_run hp
        rw [h1] at e2
        rcases e2 with ⟨e2, _⟩ | ⟨c, e2, rfl⟩
        · cases e2
        · cases e2
          have hp1 : 1 ≤ ss.length := by
            unfold inR at h7
            simp only [Bool.and_eq_true, decide_eq_true_eq] at h7
            omega
          have hw : w64 ((l.length : Int) - 1) = ((ss.length - 1 : Nat) : Int) := by
            rw [w64_of (by omega) (by have := hss.1; omega)]
            omega
          simp only [Bool.not_true, cond_false, hw, getI_nat, h3, Option.bind_some]
          rw [impl_clone_id (by omega), Option.bind_some, h4]
theorem planCols_len {ts : List T_impl_Table} {ss : List T_impl_Step} : (planCols ts ss).length ≤ 4 := by
  cases hp : planOk ts ss with
  | false => simp [planCols, hp]
  | true =>
    obtain ⟨l, m, h1, h2, h3, h4, h5, h6, h7⟩ := planOk_run hp
    rw [h4]
    exact h5
end Go.D
set_option linter.unusedVariables false
namespace Go.D
open Go.Proofs
theorem rd_3 : Rd Try.prog 3 Int intW := rd_int Try.underlying3 (by kernel_rfl)
theorem rd_4 : Rd Try.prog 4 Bool boolW := rd_bool Try.underlying4 (by kernel_rfl)
def W_T_laws_Column (x : T_laws_Column) : Prop := intW x.fKind ∧ boolW x.fEmpty
theorem spl_171 (cs : List Value) (hc : cs.length = 2) : cs = (cs.drop 0).take 1 ++ ((cs.drop 1).take 1) := by
  match cs, hc with
  | [c0, c1], _ => rfl
theorem rd_171 : Rd Try.prog 171 T_laws_Column W_T_laws_Column := ⟨by kernel_rfl, fun H enc w base sp held fuel cs x h => by
  obtain ⟨xs, n, _, rfl, hl, hlen, hf⟩ := DataW.trod_struct Try.underlying171 h
  match xs, hlen, hf with
  | [z0, z1], _, hf =>
  obtain ⟨y0, h0, w0⟩ := (rd_3).2 H enc w base sp held n _ _ (hf 0 _ rfl)
  obtain ⟨y1, h1, w1⟩ := (rd_4).2 H enc w base sp held n _ _ (hf 1 _ rfl)
  refine ⟨⟨y0, y1⟩, ?_, w0, w1⟩
  have hc : cs.length = 2 := hl.trans (by kernel_rfl)
  have h0 : FrL w (fun _ => False) (Enc.cells y0) ((cs.drop 0).take (Try.prog.cellsOf 3)) := h0
  rw [rd_3.1] at h0
  have k0 : FrL w (fun _ => False) (Enc.cells y0) ((cs.drop 0).take 1) := h0
  have h1 : FrL w (fun _ => False) (Enc.cells y1) ((cs.drop 1).take (Try.prog.cellsOf 4)) := h1
  rw [rd_4.1] at h1
  have k1 : FrL w (fun _ => False) (Enc.cells y1) ((cs.drop 1).take 1) := h1
  rw [spl_171 cs hc]
  exact (FrL.append k0 k1)⟩
theorem rd_63 : Rd Try.prog 63 (List T_laws_Column) (listW W_T_laws_Column) := rd_slice Try.underlying63 (by kernel_rfl) rd_171
theorem rd_9 : Rd Try.prog 9 ByteArray strW := rd_str Try.underlying9 (by kernel_rfl)
def W_T_laws_Value (x : T_laws_Value) : Prop := intW x.fKind ∧ intW x.fN ∧ strW x.fS
theorem spl_165 (cs : List Value) (hc : cs.length = 3) : cs = (cs.drop 0).take 1 ++ ((cs.drop 1).take 1 ++ ((cs.drop 2).take 1)) := by
  match cs, hc with
  | [c0, c1, c2], _ => rfl
theorem rd_165 : Rd Try.prog 165 T_laws_Value W_T_laws_Value := ⟨by kernel_rfl, fun H enc w base sp held fuel cs x h => by
  obtain ⟨xs, n, _, rfl, hl, hlen, hf⟩ := DataW.trod_struct Try.underlying165 h
  match xs, hlen, hf with
  | [z0, z1, z2], _, hf =>
  obtain ⟨y0, h0, w0⟩ := (rd_3).2 H enc w base sp held n _ _ (hf 0 _ rfl)
  obtain ⟨y1, h1, w1⟩ := (rd_3).2 H enc w base sp held n _ _ (hf 1 _ rfl)
  obtain ⟨y2, h2, w2⟩ := (rd_9).2 H enc w base sp held n _ _ (hf 2 _ rfl)
  refine ⟨⟨y0, y1, y2⟩, ?_, w0, w1, w2⟩
  have hc : cs.length = 3 := hl.trans (by kernel_rfl)
  have h0 : FrL w (fun _ => False) (Enc.cells y0) ((cs.drop 0).take (Try.prog.cellsOf 3)) := h0
  rw [rd_3.1] at h0
  have k0 : FrL w (fun _ => False) (Enc.cells y0) ((cs.drop 0).take 1) := h0
  have h1 : FrL w (fun _ => False) (Enc.cells y1) ((cs.drop 1).take (Try.prog.cellsOf 3)) := h1
  rw [rd_3.1] at h1
  have k1 : FrL w (fun _ => False) (Enc.cells y1) ((cs.drop 1).take 1) := h1
  have h2 : FrL w (fun _ => False) (Enc.cells y2) ((cs.drop 2).take (Try.prog.cellsOf 9)) := h2
  rw [rd_9.1] at h2
  have k2 : FrL w (fun _ => False) (Enc.cells y2) ((cs.drop 2).take 1) := h2
  rw [spl_165 cs hc]
  exact (FrL.append k0 (FrL.append k1 k2))⟩
theorem rd_103 : Rd Try.prog 103 (List T_laws_Value) (listW W_T_laws_Value) := rd_slice Try.underlying103 (by kernel_rfl) rd_165
theorem rd_64 : Rd Try.prog 64 (List (List T_laws_Value)) (listW (listW W_T_laws_Value)) := rd_slice Try.underlying64 (by kernel_rfl) rd_103
def W_T_laws_Table (x : T_laws_Table) : Prop := (listW W_T_laws_Column) x.fColumns ∧ (listW (listW W_T_laws_Value)) x.fRows
theorem spl_66 (cs : List Value) (hc : cs.length = 2) : cs = (cs.drop 0).take 1 ++ ((cs.drop 1).take 1) := by
  match cs, hc with
  | [c0, c1], _ => rfl
theorem rd_66 : Rd Try.prog 66 T_laws_Table W_T_laws_Table := ⟨by kernel_rfl, fun H enc w base sp held fuel cs x h => by
  obtain ⟨xs, n, _, rfl, hl, hlen, hf⟩ := DataW.trod_struct Try.underlying66 h
  match xs, hlen, hf with
  | [z0, z1], _, hf =>
  obtain ⟨y0, h0, w0⟩ := (rd_63).2 H enc w base sp held n _ _ (hf 0 _ rfl)
  obtain ⟨y1, h1, w1⟩ := (rd_64).2 H enc w base sp held n _ _ (hf 1 _ rfl)
  refine ⟨⟨y0, y1⟩, ?_, w0, w1⟩
  have hc : cs.length = 2 := hl.trans (by kernel_rfl)
  have h0 : FrL w (fun _ => False) (Enc.cells y0) ((cs.drop 0).take (Try.prog.cellsOf 63)) := h0
  rw [rd_63.1] at h0
  have k0 : FrL w (fun _ => False) (Enc.cells y0) ((cs.drop 0).take 1) := h0
  have h1 : FrL w (fun _ => False) (Enc.cells y1) ((cs.drop 1).take (Try.prog.cellsOf 64)) := h1
  rw [rd_64.1] at h1
  have k1 : FrL w (fun _ => False) (Enc.cells y1) ((cs.drop 1).take 1) := h1
  rw [spl_66 cs hc]
  exact (FrL.append k0 k1)⟩
theorem rd_22 : Rd Try.prog 22 (List T_laws_Table) (listW W_T_laws_Table) := rd_slice Try.underlying22 (by kernel_rfl) rd_66
def W_T_laws_Part (x : T_laws_Part) : Prop := intW x.fKind ∧ intW x.fN ∧ W_T_laws_Value x.fV
theorem spl_167 (cs : List Value) (hc : cs.length = 5) : cs = (cs.drop 0).take 1 ++ ((cs.drop 1).take 1 ++ ((cs.drop 2).take 3)) := by
  match cs, hc with
  | [c0, c1, c2, c3, c4], _ => rfl
theorem rd_167 : Rd Try.prog 167 T_laws_Part W_T_laws_Part := ⟨by kernel_rfl, fun H enc w base sp held fuel cs x h => by
  obtain ⟨xs, n, _, rfl, hl, hlen, hf⟩ := DataW.trod_struct Try.underlying167 h
  match xs, hlen, hf with
  | [z0, z1, z2], _, hf =>
  obtain ⟨y0, h0, w0⟩ := (rd_3).2 H enc w base sp held n _ _ (hf 0 _ rfl)
  obtain ⟨y1, h1, w1⟩ := (rd_3).2 H enc w base sp held n _ _ (hf 1 _ rfl)
  obtain ⟨y2, h2, w2⟩ := (rd_165).2 H enc w base sp held n _ _ (hf 2 _ rfl)
  refine ⟨⟨y0, y1, y2⟩, ?_, w0, w1, w2⟩
  have hc : cs.length = 5 := hl.trans (by kernel_rfl)
  have h0 : FrL w (fun _ => False) (Enc.cells y0) ((cs.drop 0).take (Try.prog.cellsOf 3)) := h0
  rw [rd_3.1] at h0
  have k0 : FrL w (fun _ => False) (Enc.cells y0) ((cs.drop 0).take 1) := h0
  have h1 : FrL w (fun _ => False) (Enc.cells y1) ((cs.drop 1).take (Try.prog.cellsOf 3)) := h1
  rw [rd_3.1] at h1
  have k1 : FrL w (fun _ => False) (Enc.cells y1) ((cs.drop 1).take 1) := h1
  have h2 : FrL w (fun _ => False) (Enc.cells y2) ((cs.drop 2).take (Try.prog.cellsOf 165)) := h2
  rw [rd_165.1] at h2
  have k2 : FrL w (fun _ => False) (Enc.cells y2) ((cs.drop 2).take 3) := h2
  rw [spl_167 cs hc]
  exact (FrL.append k0 (FrL.append k1 k2))⟩
theorem rd_68 : Rd Try.prog 68 (List T_laws_Part) (listW W_T_laws_Part) := rd_slice Try.underlying68 (by kernel_rfl) rd_167
theorem rd_39 : Rd Try.prog 39 (List Int) (listW intW) := rd_slice Try.underlying39 (by kernel_rfl) rd_3
def W_T_laws_Step (x : T_laws_Step) : Prop := intW x.fKind ∧ intW x.fA ∧ intW x.fB ∧ intW x.fN ∧ (listW W_T_laws_Part) x.fE ∧ (listW intW) x.fList
theorem spl_70 (cs : List Value) (hc : cs.length = 6) : cs = (cs.drop 0).take 1 ++ ((cs.drop 1).take 1 ++ ((cs.drop 2).take 1 ++ ((cs.drop 3).take 1 ++ ((cs.drop 4).take 1 ++ ((cs.drop 5).take 1))))) := by
  match cs, hc with
  | [c0, c1, c2, c3, c4, c5], _ => rfl
theorem rd_70 : Rd Try.prog 70 T_laws_Step W_T_laws_Step := ⟨by kernel_rfl, fun H enc w base sp held fuel cs x h => by
  obtain ⟨xs, n, _, rfl, hl, hlen, hf⟩ := DataW.trod_struct Try.underlying70 h
  match xs, hlen, hf with
  | [z0, z1, z2, z3, z4, z5], _, hf =>
  obtain ⟨y0, h0, w0⟩ := (rd_3).2 H enc w base sp held n _ _ (hf 0 _ rfl)
  obtain ⟨y1, h1, w1⟩ := (rd_3).2 H enc w base sp held n _ _ (hf 1 _ rfl)
  obtain ⟨y2, h2, w2⟩ := (rd_3).2 H enc w base sp held n _ _ (hf 2 _ rfl)
  obtain ⟨y3, h3, w3⟩ := (rd_3).2 H enc w base sp held n _ _ (hf 3 _ rfl)
  obtain ⟨y4, h4, w4⟩ := (rd_68).2 H enc w base sp held n _ _ (hf 4 _ rfl)
  obtain ⟨y5, h5, w5⟩ := (rd_39).2 H enc w base sp held n _ _ (hf 5 _ rfl)
  refine ⟨⟨y0, y1, y2, y3, y4, y5⟩, ?_, w0, w1, w2, w3, w4, w5⟩
  have hc : cs.length = 6 := hl.trans (by kernel_rfl)
  have h0 : FrL w (fun _ => False) (Enc.cells y0) ((cs.drop 0).take (Try.prog.cellsOf 3)) := h0
  rw [rd_3.1] at h0
  have k0 : FrL w (fun _ => False) (Enc.cells y0) ((cs.drop 0).take 1) := h0
  have h1 : FrL w (fun _ => False) (Enc.cells y1) ((cs.drop 1).take (Try.prog.cellsOf 3)) := h1
  rw [rd_3.1] at h1
  have k1 : FrL w (fun _ => False) (Enc.cells y1) ((cs.drop 1).take 1) := h1
  have h2 : FrL w (fun _ => False) (Enc.cells y2) ((cs.drop 2).take (Try.prog.cellsOf 3)) := h2
  rw [rd_3.1] at h2
  have k2 : FrL w (fun _ => False) (Enc.cells y2) ((cs.drop 2).take 1) := h2
  have h3 : FrL w (fun _ => False) (Enc.cells y3) ((cs.drop 3).take (Try.prog.cellsOf 3)) := h3
  rw [rd_3.1] at h3
  have k3 : FrL w (fun _ => False) (Enc.cells y3) ((cs.drop 3).take 1) := h3
  have h4 : FrL w (fun _ => False) (Enc.cells y4) ((cs.drop 4).take (Try.prog.cellsOf 68)) := h4
  rw [rd_68.1] at h4
  have k4 : FrL w (fun _ => False) (Enc.cells y4) ((cs.drop 4).take 1) := h4
  have h5 : FrL w (fun _ => False) (Enc.cells y5) ((cs.drop 5).take (Try.prog.cellsOf 39)) := h5
  rw [rd_39.1] at h5
  have k5 : FrL w (fun _ => False) (Enc.cells y5) ((cs.drop 5).take 1) := h5
  rw [spl_70 cs hc]
  exact (FrL.append k0 (FrL.append k1 (FrL.append k2 (FrL.append k3 (FrL.append k4 k5)))))⟩
theorem rd_23 : Rd Try.prog 23 (List T_laws_Step) (listW W_T_laws_Step) := rd_slice Try.underlying23 (by kernel_rfl) rd_70
end Go.D
set_option linter.unusedVariables false
namespace Go.D
def Ok_Column (x : T_laws_Column) : Prop := True
def c_Column (x : T_laws_Column) : T_impl_Column := ⟨x.fKind, x.fEmpty⟩
theorem to_Column (x : T_laws_Column) (h : Ok_Column x) : laws_toColumn x = some (c_Column x) := rfl
def OkI_Column (x : T_impl_Column) : Prop := True
theorem eq_Column (x : T_impl_Column) (h : OkI_Column x) : laws_eqColumn x x = some true := by
  unfold laws_eqColumn
  simp only [beq_self_eq_true, Bool.not_true, cond_false]
theorem sz_ColumnS : SzP laws_szColumnS (listW W_T_laws_Column) (okL Ok_Column) := sz_flat (fun _ => trivial) (fun _ h => h.1) (fun _ _ => rfl)
theorem to_ColumnS (xs : List T_laws_Column) (h : (okL Ok_Column) xs) : laws_toColumnS xs = some (xs.map c_Column) := to_loop (S := laws_toColumnS) (L := laws_toColumnS_l0) to_Column (fun _ => rfl) (fun _ _ _ _ => rfl) xs h
theorem eq_ColumnS (xs : List T_impl_Column) (h : (okL OkI_Column) xs) : laws_eqColumnS xs xs = some true := eq_loop (S := laws_eqColumnS) (L := laws_eqColumnS_l0) eq_Column (fun _ _ => rfl) (fun _ _ _ _ => rfl) xs h
def Ok_Value (x : T_laws_Value) : Prop := x.fS.size ≤ 1048576
theorem sz_Value : SzP laws_szValue W_T_laws_Value Ok_Value := by
  have h := sz_one (z := laws_szValue) (W := W_T_laws_Value) (fun x => x.fS.size) (fun x h => h.2.2) (fun x n => by unfold laws_szValue; rfl)
  exact h
def c_Value (x : T_laws_Value) : T_impl_Value := ⟨x.fKind, x.fN, x.fS⟩
theorem to_Value (x : T_laws_Value) (h : Ok_Value x) : laws_toValue x = some (c_Value x) := rfl
def OkI_Value (x : T_impl_Value) : Prop := True
theorem eq_Value (x : T_impl_Value) (h : OkI_Value x) : laws_eqValue x x = some true := by
  unfold laws_eqValue
  simp only [beq_self_eq_true, Bool.not_true, cond_false]
theorem sz_ValueS : SzP laws_szValueS (listW W_T_laws_Value) (okL Ok_Value) := sz_loop sz_Value (fun _ _ => rfl) (fun _ _ _ _ => rfl)
theorem to_ValueS (xs : List T_laws_Value) (h : (okL Ok_Value) xs) : laws_toValueS xs = some (xs.map c_Value) := to_loop (S := laws_toValueS) (L := laws_toValueS_l0) to_Value (fun _ => rfl) (fun _ _ _ _ => rfl) xs h
theorem eq_ValueS (xs : List T_impl_Value) (h : (okL OkI_Value) xs) : laws_eqValueS xs xs = some true := eq_loop (S := laws_eqValueS) (L := laws_eqValueS_l0) eq_Value (fun _ _ => rfl) (fun _ _ _ _ => rfl) xs h
theorem sz_ValueSS : SzP laws_szValueSS (listW (listW W_T_laws_Value)) (okL (okL Ok_Value)) := sz_loop sz_ValueS (fun _ _ => rfl) (fun _ _ _ _ => rfl)
theorem to_ValueSS (xs : List (List T_laws_Value)) (h : (okL (okL Ok_Value)) xs) : laws_toValueSS_D xs = some (xs.map (List.map c_Value)) := to_loop (S := laws_toValueSS_D) (L := laws_toValueSS_D_l0) to_ValueS (fun _ => rfl) (fun _ _ _ _ => rfl) xs h
theorem eq_ValueSS (xs : List (List T_impl_Value)) (h : (okL (okL OkI_Value)) xs) : laws_eqValueSS xs xs = some true := eq_loop (S := laws_eqValueSS) (L := laws_eqValueSS_l0) eq_ValueS (fun _ _ => rfl) (fun _ _ _ _ => rfl) xs h
def Ok_Table (x : T_laws_Table) : Prop := (okL Ok_Column) x.fColumns ∧ (okL (okL Ok_Value)) x.fRows
theorem sz_Table : SzP laws_szTable W_T_laws_Table Ok_Table := by
  intro x n hW h0 hn
  obtain ⟨w0, w1⟩ := hW
  unfold laws_szTable Ok_Table
  obtain ⟨r0, e0, k0⟩ := sz_ColumnS x.fColumns n w0 (by omega) (by omega)
  rw [e0, Option.bind_some]
  rcases k0 with k0 | ⟨p0, q0, o0⟩
  · exact ⟨-1, by rw [decide_eq_true k0, cond_true], .inl (by omega)⟩
  rw [decide_eq_false (show ¬ r0 < 0 by omega), cond_false]
  obtain ⟨r1, e1, k1⟩ := sz_ValueSS x.fRows r0 w1 (by omega) (by omega)
  rw [e1, Option.bind_some]
  rcases k1 with k1 | ⟨p1, q1, o1⟩
  · exact ⟨-1, by rw [decide_eq_true k1, cond_true], .inl (by omega)⟩
  rw [decide_eq_false (show ¬ r1 < 0 by omega), cond_false]
  exact ⟨r1, rfl, .inr ⟨by omega, by omega, o0, o1⟩⟩
def c_Table (x : T_laws_Table) : T_impl_Table := ⟨(x.fColumns.map c_Column), (x.fRows.map (List.map c_Value))⟩
theorem to_Table (x : T_laws_Table) (h : Ok_Table x) : laws_toTable_D x = some (c_Table x) := by
  unfold laws_toTable_D
  rw [to_ColumnS x.fColumns h.1, Option.bind_some, to_ValueSS x.fRows h.2, Option.bind_some]
  rfl
def OkI_Table (x : T_impl_Table) : Prop := (okL OkI_Column) x.fColumns ∧ (okL (okL OkI_Value)) x.fRows
theorem eq_Table (x : T_impl_Table) (h : OkI_Table x) : laws_eqTable x x = some true := by
  unfold laws_eqTable
  simp only [beq_self_eq_true, Bool.not_true, cond_false, eq_ColumnS x.fColumns h.1, eq_ValueSS x.fRows h.2, Option.bind_some]
theorem sz_TableS : SzP laws_szTableS (listW W_T_laws_Table) (okL Ok_Table) := sz_loop sz_Table (fun _ _ => rfl) (fun _ _ _ _ => rfl)
theorem to_TableS (xs : List T_laws_Table) (h : (okL Ok_Table) xs) : laws_toTableS_D xs = some (xs.map c_Table) := to_loop (S := laws_toTableS_D) (L := laws_toTableS_D_l0) to_Table (fun _ => rfl) (fun _ _ _ _ => rfl) xs h
theorem eq_TableS (xs : List T_impl_Table) (h : (okL OkI_Table) xs) : laws_eqTableS xs xs = some true := eq_loop (S := laws_eqTableS) (L := laws_eqTableS_l0) eq_Table (fun _ _ => rfl) (fun _ _ _ _ => rfl) xs h
def Ok_Part (x : T_laws_Part) : Prop := Ok_Value x.fV
theorem sz_Part : SzP laws_szPart W_T_laws_Part Ok_Part := by
  intro x n hW h0 hn
  obtain ⟨w0, w1, w2⟩ := hW
  unfold laws_szPart Ok_Part
  obtain ⟨r0, e0, k0⟩ := sz_Value x.fV n w2 (by omega) (by omega)
  rw [e0, Option.bind_some]
  rcases k0 with k0 | ⟨p0, q0, o0⟩
  · exact ⟨-1, by rw [decide_eq_true k0, cond_true], .inl (by omega)⟩
  rw [decide_eq_false (show ¬ r0 < 0 by omega), cond_false]
  exact ⟨r0, rfl, .inr ⟨by omega, by omega, o0⟩⟩
def c_Part (x : T_laws_Part) : T_impl_Part := ⟨x.fKind, x.fN, (c_Value x.fV)⟩
theorem to_Part (x : T_laws_Part) (h : Ok_Part x) : laws_toPart x = some (c_Part x) := by
  unfold laws_toPart
  rw [to_Value x.fV h, Option.bind_some]
  rfl
def OkI_Part (x : T_impl_Part) : Prop := OkI_Value x.fV
theorem eq_Part (x : T_impl_Part) (h : OkI_Part x) : laws_eqPart x x = some true := by
  unfold laws_eqPart
  simp only [beq_self_eq_true, Bool.not_true, cond_false, eq_Value x.fV h, Option.bind_some]
theorem sz_PartS : SzP laws_szPartS (listW W_T_laws_Part) (okL Ok_Part) := sz_loop sz_Part (fun _ _ => rfl) (fun _ _ _ _ => rfl)
theorem to_PartS (xs : List T_laws_Part) (h : (okL Ok_Part) xs) : laws_toPartS xs = some (xs.map c_Part) := to_loop (S := laws_toPartS) (L := laws_toPartS_l0) to_Part (fun _ => rfl) (fun _ _ _ _ => rfl) xs h
theorem eq_PartS (xs : List T_impl_Part) (h : (okL OkI_Part) xs) : laws_eqPartS xs xs = some true := eq_loop (S := laws_eqPartS) (L := laws_eqPartS_l0) eq_Part (fun _ _ => rfl) (fun _ _ _ _ => rfl) xs h
theorem sz_IntS : SzP laws_szIntS (listW intW) (okL (fun _ => True)) := sz_flat (fun _ => trivial) (fun _ h => h.1) (fun _ _ => rfl)
theorem to_IntS (xs : List Int) (h : (okL (fun _ => True)) xs) : laws_toIntS xs = some xs := by
  have := to_loop (c := fun x => x) (t := some) (S := laws_toIntS) (L := laws_toIntS_l0) (fun _ _ => rfl) (fun _ => rfl) (fun _ _ _ _ => rfl) xs h
  rwa [show xs.map (fun x => x) = xs from List.map_id xs] at this
theorem eq_IntS (xs : List Int) (h : (okL (fun _ => True)) xs) : laws_eqIntS xs xs = some true := eq_loop (S := laws_eqIntS) (L := laws_eqIntS_l0) (e := fun x y => some (x == y)) (fun x _ => congrArg some (beq_self_eq_true x)) (fun _ _ => rfl) (fun _ _ _ _ => rfl) xs h
def Ok_Step (x : T_laws_Step) : Prop := (okL Ok_Part) x.fE ∧ (okL (fun _ => True)) x.fList
theorem sz_Step : SzP laws_szStep W_T_laws_Step Ok_Step := by
  intro x n hW h0 hn
  obtain ⟨w0, w1, w2, w3, w4, w5⟩ := hW
  unfold laws_szStep Ok_Step
  obtain ⟨r0, e0, k0⟩ := sz_PartS x.fE n w4 (by omega) (by omega)
  rw [e0, Option.bind_some]
  rcases k0 with k0 | ⟨p0, q0, o0⟩
  · exact ⟨-1, by rw [decide_eq_true k0, cond_true], .inl (by omega)⟩
  rw [decide_eq_false (show ¬ r0 < 0 by omega), cond_false]
  obtain ⟨r1, e1, k1⟩ := sz_IntS x.fList r0 w5 (by omega) (by omega)
  rw [e1, Option.bind_some]
  rcases k1 with k1 | ⟨p1, q1, o1⟩
  · exact ⟨-1, by rw [decide_eq_true k1, cond_true], .inl (by omega)⟩
  rw [decide_eq_false (show ¬ r1 < 0 by omega), cond_false]
  exact ⟨r1, rfl, .inr ⟨by omega, by omega, o0, o1⟩⟩
def c_Step (x : T_laws_Step) : T_impl_Step := ⟨x.fKind, x.fA, x.fB, x.fN, (x.fE.map c_Part), x.fList⟩
theorem to_Step (x : T_laws_Step) (h : Ok_Step x) : laws_toStep_D x = some (c_Step x) := by
  unfold laws_toStep_D
  rw [to_PartS x.fE h.1, Option.bind_some, to_IntS x.fList h.2, Option.bind_some]
  rfl
def OkI_Step (x : T_impl_Step) : Prop := (okL OkI_Part) x.fE ∧ (okL (fun _ => True)) x.fList
theorem eq_Step (x : T_impl_Step) (h : OkI_Step x) : laws_eqStep x x = some true := by
  unfold laws_eqStep
  simp only [beq_self_eq_true, Bool.not_true, cond_false, eq_PartS x.fE h.1, eq_IntS x.fList h.2, Option.bind_some]
theorem sz_StepS : SzP laws_szStepS (listW W_T_laws_Step) (okL Ok_Step) := sz_loop sz_Step (fun _ _ => rfl) (fun _ _ _ _ => rfl)
theorem to_StepS (xs : List T_laws_Step) (h : (okL Ok_Step) xs) : laws_toStepS_D xs = some (xs.map c_Step) := to_loop (S := laws_toStepS_D) (L := laws_toStepS_D_l0) to_Step (fun _ => rfl) (fun _ _ _ _ => rfl) xs h
theorem eq_StepS (xs : List T_impl_Step) (h : (okL OkI_Step) xs) : laws_eqStepS xs xs = some true := eq_loop (S := laws_eqStepS) (L := laws_eqStepS_l0) eq_Step (fun _ _ => rfl) (fun _ _ _ _ => rfl) xs h
end Go.D
set_option linter.unusedVariables false
namespace Go.D
theorem sm_value {v : T_laws_Value} (h : Ok_Value v) : SmV (c_Value v) := Nat.le_trans h (by omega)
theorem okL_map {α β : Type} {ok : α → Prop} {ok' : β → Prop} {f : α → β} (hf : ∀ x, ok x → ok' (f x)) {xs : List α} (h : okL ok xs) : okL ok' (xs.map f) :=
  ⟨by rw [List.length_map]; exact h.1, fun y hy => by
    obtain ⟨x, hx, rfl⟩ := List.mem_map.1 hy
    exact hf x (h.2 x hx)⟩
theorem okL_sm {α : Type} {ok : α → Prop} {xs : List α} (h : okL ok xs) : Sm xs.length := Nat.le_trans h.1 (by omega)
theorem sm_row {r : List T_laws_Value} (h : okL Ok_Value r) : SmR (r.map c_Value) := ⟨okL_sm (okL_map (ok' := fun _ => True) (fun _ _ => trivial) h), (okL_map (ok' := SmV) (fun _ => sm_value) h).2⟩
theorem sm_rows {r : List (List T_laws_Value)} (h : okL (okL Ok_Value) r) : SmRs (r.map (List.map c_Value)) := ⟨okL_sm (okL_map (ok' := fun _ => True) (fun _ _ => trivial) h), (okL_map (ok' := SmR) (fun _ => sm_row) h).2⟩
theorem sm_table {t : T_laws_Table} (h : Ok_Table t) : SmT (c_Table t) := ⟨okL_sm (okL_map (ok' := fun _ => True) (fun _ _ => trivial) h.1), sm_rows h.2⟩
theorem sm_tables {ts : List T_laws_Table} (h : okL Ok_Table ts) : SmTs (ts.map c_Table) := ⟨okL_sm (okL_map (ok' := fun _ => True) (fun _ _ => trivial) h), (okL_map (ok' := SmT) (fun _ => sm_table) h).2⟩
theorem sm_step {s : T_laws_Step} (h : Ok_Step s) : SmS (c_Step s) := ⟨okL_sm (okL_map (ok' := fun _ => True) (fun _ _ => trivial) h.1), (okL_map (ok := Ok_Part) (ok' := SmP) (f := c_Part) (fun x h => sm_value (v := x.fV) h) h.1).2, okL_sm h.2⟩
theorem sm_steps {ss : List T_laws_Step} (h : okL Ok_Step ss) : SmSs (ss.map c_Step) := ⟨okL_sm (okL_map (ok' := fun _ => True) (fun _ _ => trivial) h), (okL_map (ok' := SmS) (fun _ => sm_step) h).2⟩
theorem okI_table {t : T_laws_Table} (h : Ok_Table t) : OkI_Table (c_Table t) := ⟨okL_map (fun _ _ => trivial) h.1, okL_map (fun _ h => okL_map (fun _ _ => trivial) h) h.2⟩
theorem okI_step {t : T_laws_Step} (h : Ok_Step t) : OkI_Step (c_Step t) := ⟨okL_map (fun _ _ => trivial) h.1, h.2⟩
end Go.D
set_option linter.unusedVariables false
namespace Go.D
theorem getI_set {α : Type} {xs : List α} {i : Nat} {v : α} (h : i < xs.length) : getI (xs.set i v) (i : Int) = some v := by
  rw [getI_nat, List.getElem?_set_self h]
abbrev TOP : Int := 4611686018427387904
theorem w_succ {k : Int} (h0 : 0 ≤ k) (h1 : k < TOP) : w64 (k + 1) = k + 1 := w64_of (by omega) (by unfold TOP at h1; omega)
theorem mark_loop {α : Type} {M : Nat → Int → Int → List α → Option (Int × List α)} {H : List α → Nat → Int → Int → Option Int} {P : α → Prop} (c : Int) (hc : 0 ≤ c)
    (hm : ∀ (f : Nat) (k : Int) (i : Nat) (xs : List α) (x : α), xs[i]? = some x → xs.length ≤ 2097152 → P x → 0 ≤ k → k + c ≤ TOP → ∃ k' x', M (f + 1) k (i : Int) xs = M f k' ((i + 1 : Nat) : Int) (xs.set i x') ∧ k ≤ k' ∧ k' ≤ k + c ∧
      ∀ (ys : List α) (g : Nat), ys[i]? = some x' → ys.length ≤ 2097152 → H ys (g + 1) k (i : Int) = H ys g k' ((i + 1 : Nat) : Int))
    (he : ∀ (f : Nat) (k : Int) (xs : List α), M (f + 1) k (xs.length : Int) xs = some (k, xs))
    (hh : ∀ (g : Nat) (k : Int) (ys : List α), H ys (g + 1) k (ys.length : Int) = some k) :
    ∀ (m i : Nat) (xs : List α) (k : Int) (f : Nat), xs.length = i + m → xs.length ≤ 2097152 → m < f → (∀ (j : Nat) x, i ≤ j → xs[j]? = some x → P x) → 0 ≤ k → k + m * c ≤ TOP →
      ∃ k' ys, M f k (i : Int) xs = some (k', ys) ∧ ys.length = xs.length ∧ (∀ j, j < i → ys[j]? = xs[j]?) ∧ k ≤ k' ∧ k' ≤ k + m * c ∧ ∀ g, m < g → H ys g k (i : Int) = some k'
  | 0, i, xs, k, f, hl, hn, hf, hP, h0, hK => by
    obtain ⟨f, rfl⟩ : ∃ f', f = f' + 1 := ⟨f - 1, by omega⟩
    have e : (i : Int) = (xs.length : Int) := by rw [hl]; simp
    refine ⟨k, xs, by rw [e]; exact he f k xs, rfl, fun _ _ => rfl, by omega, by simp, fun g hg => ?_⟩
    obtain ⟨g, rfl⟩ : ∃ g', g = g' + 1 := ⟨g - 1, by omega⟩
    rw [e]
    exact hh g k xs
  | m + 1, i, xs, k, f, hl, hn, hf, hP, h0, hK => by
    obtain ⟨f, rfl⟩ : ∃ f', f = f' + 1 := ⟨f - 1, by omega⟩
    have hi : i < xs.length := by omega
    have hx : xs[i]? = some xs[i] := List.getElem?_eq_getElem hi
    have hmc : ((m + 1 : Nat) : Int) * c = m * c + c := by rw [Int.natCast_add, Int.add_mul]; simp
    have hmc0 : 0 ≤ (m : Int) * c := Int.mul_nonneg (by omega) hc
    rw [hmc] at hK
    obtain ⟨k1, x1, e1, p1, q1, r1⟩ := hm f k i xs xs[i] hx hn (hP i _ (Nat.le_refl _) hx) h0 (by omega)
    obtain ⟨k2, ys, e2, l2, s2, p2, q2, r2⟩ := mark_loop c hc hm he hh m (i + 1) (xs.set i x1) k1 f (by rw [List.length_set]; omega) (by rw [List.length_set]; exact hn) (by omega)
      (fun j x hj hxj => hP j x (by omega) (by rwa [List.getElem?_set_ne (by omega)] at hxj)) (by omega) (by omega)
    rw [List.length_set] at l2
    refine ⟨k2, ys, e1.trans e2, l2, fun j hj => ?_, by omega, by rw [hmc]; omega, fun g hg => ?_⟩
    · rw [s2 j (by omega), List.getElem?_set_ne (by omega)]
    · obtain ⟨g, rfl⟩ : ∃ g', g = g' + 1 := ⟨g - 1, by omega⟩
      rw [r1 ys g (by rw [s2 i (by omega), List.getElem?_set_self hi]) (by omega)]
      exact r2 g (by omega)
def MkP {α : Type} (M : α → Int → Option (Int × α)) (H : α → Int → Option Int) (P : α → Prop) (c : Int) : Prop :=
  ∀ x k, P x → 0 ≤ k → k + c ≤ TOP → ∃ k' x', M x k = some (k', x') ∧ k ≤ k' ∧ k' ≤ k + c ∧ H x' k = some k'
theorem mark_all {α : Type} {S : List α → Int → Option (Int × List α)} {T : List α → Int → Option Int} {M : Nat → Int → Int → List α → Option (Int × List α)} {H : List α → Nat → Int → Int → Option Int} {P : α → Prop} (c : Int) (hc : 0 ≤ c)
    (hS : ∀ xs k, S xs k = M FUEL k 0 xs) (hT : ∀ xs k, T xs k = H xs FUEL k 0)
    (hm : ∀ (f : Nat) (k : Int) (i : Nat) (xs : List α) (x : α), xs[i]? = some x → xs.length ≤ 2097152 → P x → 0 ≤ k → k + c ≤ TOP → ∃ k' x', M (f + 1) k (i : Int) xs = M f k' ((i + 1 : Nat) : Int) (xs.set i x') ∧ k ≤ k' ∧ k' ≤ k + c ∧
      ∀ (ys : List α) (g : Nat), ys[i]? = some x' → ys.length ≤ 2097152 → H ys (g + 1) k (i : Int) = H ys g k' ((i + 1 : Nat) : Int))
    (he : ∀ (f : Nat) (k : Int) (xs : List α), M (f + 1) k (xs.length : Int) xs = some (k, xs))
    (hh : ∀ (g : Nat) (k : Int) (ys : List α), H ys (g + 1) k (ys.length : Int) = some k) : MkP S T (okL P) (1048576 * c) := by
  intro xs k hP h0 hK
  have hn : (xs.length : Int) * c ≤ 1048576 * c := Int.mul_le_mul_of_nonneg_right (by have := hP.1; omega) hc
  have hF : xs.length < FUEL := by have := hP.1; unfold FUEL; omega
  obtain ⟨k', ys, e, l, _, p, q, r⟩ := mark_loop c hc hm he hh xs.length 0 xs k FUEL (by simp) (by have := hP.1; omega) hF (fun j x _ hx => hP.2 x (List.mem_of_getElem? hx)) h0 (by omega)
  exact ⟨k', ys, by rw [hS]; exact e, p, by omega, by rw [hT]; exact r FUEL hF⟩
def MkT {α : Type} (M : α → Int → Option (Int × α)) (P : α → Prop) (c : Int) : Prop :=
  ∀ x k, P x → 0 ≤ k → k + c ≤ TOP → ∃ k' x', M x k = some (k', x') ∧ k ≤ k' ∧ k' ≤ k + c
theorem mark_loopT {α : Type} {M : Nat → Int → Int → List α → Option (Int × List α)} {P : α → Prop} (c : Int) (hc : 0 ≤ c)
    (hm : ∀ (f : Nat) (k : Int) (i : Nat) (xs : List α) (x : α), xs[i]? = some x → xs.length ≤ 2097152 → P x → 0 ≤ k → k + c ≤ TOP → ∃ k' x', M (f + 1) k (i : Int) xs = M f k' ((i + 1 : Nat) : Int) (xs.set i x') ∧ k ≤ k' ∧ k' ≤ k + c)
    (he : ∀ (f : Nat) (k : Int) (xs : List α), M (f + 1) k (xs.length : Int) xs = some (k, xs)) :
    ∀ (m i : Nat) (xs : List α) (k : Int) (f : Nat), xs.length = i + m → xs.length ≤ 2097152 → m < f → (∀ (j : Nat) x, i ≤ j → xs[j]? = some x → P x) → 0 ≤ k → k + m * c ≤ TOP →
      ∃ k' ys, M f k (i : Int) xs = some (k', ys) ∧ k ≤ k' ∧ k' ≤ k + m * c
  | 0, i, xs, k, f, hl, hn, hf, hP, h0, hK => by
    obtain ⟨f, rfl⟩ : ∃ f', f = f' + 1 := ⟨f - 1, by omega⟩
    have e : (i : Int) = (xs.length : Int) := by rw [hl]; simp
    exact ⟨k, xs, by rw [e]; exact he f k xs, by omega, by simp⟩
  | m + 1, i, xs, k, f, hl, hn, hf, hP, h0, hK => by
    obtain ⟨f, rfl⟩ : ∃ f', f = f' + 1 := ⟨f - 1, by omega⟩
    have hi : i < xs.length := by omega
    have hx : xs[i]? = some xs[i] := List.getElem?_eq_getElem hi
    have hmc : ((m + 1 : Nat) : Int) * c = m * c + c := by rw [Int.natCast_add, Int.add_mul]; simp
    have hmc0 : 0 ≤ (m : Int) * c := Int.mul_nonneg (by omega) hc
    rw [hmc] at hK
    obtain ⟨k1, x1, e1, p1, q1⟩ := hm f k i xs xs[i] hx hn (hP i _ (Nat.le_refl _) hx) h0 (by omega)
    obtain ⟨k2, ys, e2, p2, q2⟩ := mark_loopT c hc hm he m (i + 1) (xs.set i x1) k1 f (by rw [List.length_set]; omega) (by rw [List.length_set]; exact hn) (by omega)
      (fun j x hj hxj => hP j x (by omega) (by rwa [List.getElem?_set_ne (by omega)] at hxj)) (by omega) (by omega)
    exact ⟨k2, ys, e1.trans e2, by omega, by rw [hmc]; omega⟩
theorem mark_allT {α : Type} {S : List α → Int → Option (Int × List α)} {M : Nat → Int → Int → List α → Option (Int × List α)} {P : α → Prop} (c : Int) (hc : 0 ≤ c)
    (hS : ∀ xs k, S xs k = M FUEL k 0 xs)
    (hm : ∀ (f : Nat) (k : Int) (i : Nat) (xs : List α) (x : α), xs[i]? = some x → xs.length ≤ 2097152 → P x → 0 ≤ k → k + c ≤ TOP → ∃ k' x', M (f + 1) k (i : Int) xs = M f k' ((i + 1 : Nat) : Int) (xs.set i x') ∧ k ≤ k' ∧ k' ≤ k + c)
    (he : ∀ (f : Nat) (k : Int) (xs : List α), M (f + 1) k (xs.length : Int) xs = some (k, xs)) : MkT S (okL P) (1048576 * c) := by
  intro xs k hP h0 hK
  have hn : (xs.length : Int) * c ≤ 1048576 * c := Int.mul_le_mul_of_nonneg_right (by have := hP.1; omega) hc
  have hF : xs.length < FUEL := by have := hP.1; unfold FUEL; omega
  obtain ⟨k', ys, e, p, q⟩ := mark_loopT c hc hm he xs.length 0 xs k FUEL (by simp) (by have := hP.1; omega) hF (fun j x _ hx => hP.2 x (List.mem_of_getElem? hx)) h0 (by omega)
  exact ⟨k', ys, by rw [hS]; exact e, p, by omega⟩
theorem addS_of {a b : ByteArray} (h : a.size + b.size ≤ 4611686018427387904) : addS a b = some (a ++ b) := if_pos h
end Go.D
set_option linter.unusedVariables false
set_option linter.unusedSimpArgs false
namespace Go.D
theorem markText_l0 : ∀ (d f : Nat) (x : Int) (s : ByteArray), 0 ≤ x → x < 10 ^ d → d < f → s.size + d ≤ 1000 → x ≤ 4611686018427387904 → ∃ t, laws_markText_l0 f x s = some t := by
  intro d
  induction d with
  | zero =>
    intro f x s h0 h1 hf hs hx
    obtain ⟨f, rfl⟩ : ∃ f', f = f' + 1 := ⟨f - 1, by omega⟩
    have e : x = 0 := by simp at h1; omega
    subst e
    rw [laws_markText_l0, decide_eq_false (by omega), cond_false, addS_of (by have : (ByteArray.mk #[109]).size = 1 := rfl; omega)]
    exact ⟨_, rfl⟩
  | succ d ih =>
    intro f x s h0 h1 hf hs hx
    obtain ⟨f, rfl⟩ : ∃ f', f = f' + 1 := ⟨f - 1, by omega⟩
    rw [laws_markText_l0]
    by_cases hp : x > 0
    · rw [decide_eq_true hp, cond_true, addS_of (by have : ∀ b : UInt8, (ByteArray.mk (List.toArray ([b] : List UInt8))).size = 1 := fun _ => rfl; rw [this]; omega), Option.bind_some]
      have e : x.tdiv 10 = x / 10 := Int.tdiv_eq_ediv_of_nonneg h0
      have h2 : x < 10 * 10 ^ d := by rw [Int.pow_succ] at h1; omega
      have h3 : w64 (x.tdiv 10) = x / 10 := by rw [e]; exact w64_of (by omega) (by omega)
      rw [h3]
      refine ih f (x / 10) _ (by omega) ?_ (by omega) ?_ (by omega)
      · generalize (10 : Int) ^ d = q at *
        omega
      · rw [ByteArray.size_append]
        have : ∀ b : UInt8, (ByteArray.mk (List.toArray ([b] : List UInt8))).size = 1 := fun _ => rfl
        rw [this]; omega
    · rw [decide_eq_false hp, cond_false, addS_of (by have : (ByteArray.mk #[109]).size = 1 := rfl; omega)]
      exact ⟨_, rfl⟩
theorem mark_text {k : Int} (h0 : 0 ≤ k) (h1 : k ≤ TOP) : ∃ t, laws_markText k = some t := by
  unfold laws_markText
  by_cases h : k ≤ 0
  · rw [decide_eq_true h, cond_true]
    exact ⟨_, rfl⟩
  · rw [decide_eq_false h, cond_false]
    exact markText_l0 19 FUEL k _ h0 (by unfold TOP at h1; omega) (by unfold FUEL; omega) (by decide) h1
theorem mk_ColumnS : MkP laws_markColumnS laws_heldColumnS (okL (fun _ => True)) (1048576 * 2) :=
  mark_all (M := laws_markColumnS_l0) (H := laws_heldColumnS_l0) 2 (by omega) (fun _ _ => rfl) (fun _ _ => rfl) (by
    intro f k i xs x hx hn hP h0 hK
    have hi : i < xs.length := (List.getElem?_eq_some_iff.1 hx).1
    have hd : decide ((i : Int) < (xs.length : Int)) = true := decide_eq_true (by omega)
    have hs : w64 ((i : Int) + 1) = ((i + 1 : Nat) : Int) := succ_w hi (by omega)
    have hg0 : getI xs (i : Int) = some x := by rw [getI_nat]; exact hx
    have hg : ∀ v, getI (xs.set i v) (i : Int) = some v := fun v => getI_set hi
    have w1 : w64 (k + 1) = k + 1 := w_succ (by omega) (by unfold TOP at *; omega)
    have w2 : w64 (k + 1 + 1) = k + 1 + 1 := w_succ (by omega) (by unfold TOP at *; omega)
    apply Exists.intro
    apply Exists.intro
    refine ⟨?_, ?_, ?_, fun ys g hy hl => ?_⟩
    · rw [laws_markColumnS_l0]
      simp only [hd, cond_true, hs, Int.toNat_natCast, hg0, hg, Option.bind_some, List.set_set, w1, w2]
      rfl
    · omega
    · omega
    · have hi2 : i < ys.length := (List.getElem?_eq_some_iff.1 hy).1
      have hd2 : decide ((i : Int) < (ys.length : Int)) = true := decide_eq_true (by omega)
      have hy2 := hy
      rw [← getI_nat] at hy2
      rw [laws_heldColumnS_l0]
      simp only [hd2, cond_true, hs, hy2, Option.bind_some, beq_self_eq_true, Bool.not_true, cond_false, w1, w2])
    (fun f k xs => by simp only [laws_markColumnS_l0, Int.lt_irrefl, decide_false, cond_false])
    (fun g k ys => by simp only [laws_heldColumnS_l0, Int.lt_irrefl, decide_false, cond_false])
theorem mk_IntS : MkT laws_markIntS (okL (fun _ => True)) (1048576 * 1) :=
  mark_allT (M := laws_markIntS_l0) 1 (by omega) (fun _ _ => rfl) (by
    intro f k i xs x hx hn hP h0 hK
    have hi : i < xs.length := (List.getElem?_eq_some_iff.1 hx).1
    have hd : decide ((i : Int) < (xs.length : Int)) = true := decide_eq_true (by omega)
    have hs : w64 ((i : Int) + 1) = ((i + 1 : Nat) : Int) := succ_w hi (by omega)
    have hg0 : getI xs (i : Int) = some x := by rw [getI_nat]; exact hx
    have hg : ∀ v, getI (xs.set i v) (i : Int) = some v := fun v => getI_set hi
    have w1 : w64 (k + 1) = k + 1 := w_succ (by omega) (by unfold TOP at *; omega)
    apply Exists.intro
    apply Exists.intro
    refine ⟨?_, ?_, ?_⟩
    · rw [laws_markIntS_l0]
      simp only [hd, cond_true, hs, Int.toNat_natCast, hg0, hg, Option.bind_some, List.set_set, w1]
      rfl
    · omega
    · omega)
    (fun f k xs => by simp only [laws_markIntS_l0, Int.lt_irrefl, decide_false, cond_false])
theorem mk_PartS : MkT laws_markPartS (okL (fun _ => True)) (1048576 * 5) :=
  mark_allT (M := laws_markPartS_l0) 5 (by omega) (fun _ _ => rfl) (by
    intro f k i xs x hx hn hP h0 hK
    have hi : i < xs.length := (List.getElem?_eq_some_iff.1 hx).1
    have hd : decide ((i : Int) < (xs.length : Int)) = true := decide_eq_true (by omega)
    have hs : w64 ((i : Int) + 1) = ((i + 1 : Nat) : Int) := succ_w hi (by omega)
    have hg0 : getI xs (i : Int) = some x := by rw [getI_nat]; exact hx
    have hg : ∀ v, getI (xs.set i v) (i : Int) = some v := fun v => getI_set hi
    have w1 : w64 (k + 1) = k + 1 := w_succ (by omega) (by unfold TOP at *; omega)
    have w2 : w64 (k + 1 + 1) = k + 1 + 1 := w_succ (by omega) (by unfold TOP at *; omega)
    have w3 : w64 (k + 1 + 1 + 1) = k + 1 + 1 + 1 := w_succ (by omega) (by unfold TOP at *; omega)
    have w4 : w64 (k + 1 + 1 + 1 + 1) = k + 1 + 1 + 1 + 1 := w_succ (by omega) (by unfold TOP at *; omega)
    obtain ⟨t5, e5⟩ := mark_text (k := k + 1 + 1 + 1 + 1) (by omega) (by unfold TOP at *; omega)
    have w5 : w64 (k + 1 + 1 + 1 + 1 + 1) = k + 1 + 1 + 1 + 1 + 1 := w_succ (by omega) (by unfold TOP at *; omega)
    apply Exists.intro
    apply Exists.intro
    refine ⟨?_, ?_, ?_⟩
    · rw [laws_markPartS_l0]
      simp only [hd, cond_true, hs, Int.toNat_natCast, hg0, hg, Option.bind_some, List.set_set, w1, w2, w3, w4, e5, w5]
      rfl
    · omega
    · omega)
    (fun f k xs => by simp only [laws_markPartS_l0, Int.lt_irrefl, decide_false, cond_false])
theorem mk_ValueS : MkT laws_markValueS (okL (fun _ => True)) (1048576 * 3) :=
  mark_allT (M := laws_markValueS_l0) 3 (by omega) (fun _ _ => rfl) (by
    intro f k i xs x hx hn hP h0 hK
    have hi : i < xs.length := (List.getElem?_eq_some_iff.1 hx).1
    have hd : decide ((i : Int) < (xs.length : Int)) = true := decide_eq_true (by omega)
    have hs : w64 ((i : Int) + 1) = ((i + 1 : Nat) : Int) := succ_w hi (by omega)
    have hg0 : getI xs (i : Int) = some x := by rw [getI_nat]; exact hx
    have hg : ∀ v, getI (xs.set i v) (i : Int) = some v := fun v => getI_set hi
    have w1 : w64 (k + 1) = k + 1 := w_succ (by omega) (by unfold TOP at *; omega)
    have w2 : w64 (k + 1 + 1) = k + 1 + 1 := w_succ (by omega) (by unfold TOP at *; omega)
    obtain ⟨t3, e3⟩ := mark_text (k := k + 1 + 1) (by omega) (by unfold TOP at *; omega)
    have w3 : w64 (k + 1 + 1 + 1) = k + 1 + 1 + 1 := w_succ (by omega) (by unfold TOP at *; omega)
    apply Exists.intro
    apply Exists.intro
    refine ⟨?_, ?_, ?_⟩
    · rw [laws_markValueS_l0]
      simp only [hd, cond_true, hs, Int.toNat_natCast, hg0, hg, Option.bind_some, List.set_set, w1, w2, e3, w3]
      rfl
    · omega
    · omega)
    (fun f k xs => by simp only [laws_markValueS_l0, Int.lt_irrefl, decide_false, cond_false])
theorem mk_StepS : MkT laws_markStepS (okL OkI_Step) (1048576 * 6291460) :=
  mark_allT (M := laws_markStepS_l0) 6291460 (by omega) (fun _ _ => rfl) (by
    intro f k i xs x hx hn hP h0 hK
    have hi : i < xs.length := (List.getElem?_eq_some_iff.1 hx).1
    have hd : decide ((i : Int) < (xs.length : Int)) = true := decide_eq_true (by omega)
    have hs : w64 ((i : Int) + 1) = ((i + 1 : Nat) : Int) := succ_w hi (by omega)
    have hg0 : getI xs (i : Int) = some x := by rw [getI_nat]; exact hx
    have hg : ∀ v, getI (xs.set i v) (i : Int) = some v := fun v => getI_set hi
    have w1 : w64 (k + 1) = k + 1 := w_succ (by omega) (by unfold TOP at *; omega)
    have w2 : w64 (k + 1 + 1) = k + 1 + 1 := w_succ (by omega) (by unfold TOP at *; omega)
    have w3 : w64 (k + 1 + 1 + 1) = k + 1 + 1 + 1 := w_succ (by omega) (by unfold TOP at *; omega)
    have w4 : w64 (k + 1 + 1 + 1 + 1) = k + 1 + 1 + 1 + 1 := w_succ (by omega) (by unfold TOP at *; omega)
    obtain ⟨k5, y5, e5, p5, q5⟩ := mk_PartS x.fE (k + 1 + 1 + 1 + 1) hP.1 (by omega) (by unfold TOP at *; omega)
    have n5 : decide (k5 < 0) = false := decide_eq_false (by omega)
    obtain ⟨k6, y6, e6, p6, q6⟩ := mk_IntS x.fList (k5) hP.2 (by omega) (by unfold TOP at *; omega)
    have n6 : decide (k6 < 0) = false := decide_eq_false (by omega)
    apply Exists.intro
    apply Exists.intro
    refine ⟨?_, ?_, ?_⟩
    · rw [laws_markStepS_l0]
      simp only [hd, cond_true, hs, Int.toNat_natCast, hg0, hg, Option.bind_some, List.set_set, w1, w2, w3, w4, e5, e6]
      rfl
    · omega
    · omega)
    (fun f k xs => by simp only [laws_markStepS_l0, Int.lt_irrefl, decide_false, cond_false])
theorem mk_ValueSS : MkT laws_markValueSS (okL (okL (fun _ => True))) (1048576 * 3145728) :=
  mark_allT (M := laws_markValueSS_l0) 3145728 (by omega) (fun _ _ => rfl) (by
    intro f k i xs x hx hn hP h0 hK
    have hi : i < xs.length := (List.getElem?_eq_some_iff.1 hx).1
    have hd : decide ((i : Int) < (xs.length : Int)) = true := decide_eq_true (by omega)
    have hs : w64 ((i : Int) + 1) = ((i + 1 : Nat) : Int) := succ_w hi (by omega)
    have hg0 : getI xs (i : Int) = some x := by rw [getI_nat]; exact hx
    have hg : ∀ v, getI (xs.set i v) (i : Int) = some v := fun v => getI_set hi
    obtain ⟨k1, y1, e1, p1, q1⟩ := mk_ValueS x (k) hP (by omega) (by unfold TOP at *; omega)
    have n1 : decide (k1 < 0) = false := decide_eq_false (by omega)
    apply Exists.intro
    apply Exists.intro
    refine ⟨?_, ?_, ?_⟩
    · rw [laws_markValueSS_l0]
      simp only [hd, cond_true, hs, Int.toNat_natCast, hg0, hg, Option.bind_some, List.set_set, e1]
      rfl
    · omega
    · omega)
    (fun f k xs => by simp only [laws_markValueSS_l0, Int.lt_irrefl, decide_false, cond_false])
theorem mk_TableS : MkT laws_markTableS (okL OkI_Table) (1048576 * 3298536980480) :=
  mark_allT (M := laws_markTableS_l0) 3298536980480 (by omega) (fun _ _ => rfl) (by
    intro f k i xs x hx hn hP h0 hK
    have hi : i < xs.length := (List.getElem?_eq_some_iff.1 hx).1
    have hd : decide ((i : Int) < (xs.length : Int)) = true := decide_eq_true (by omega)
    have hs : w64 ((i : Int) + 1) = ((i + 1 : Nat) : Int) := succ_w hi (by omega)
    have hg0 : getI xs (i : Int) = some x := by rw [getI_nat]; exact hx
    have hg : ∀ v, getI (xs.set i v) (i : Int) = some v := fun v => getI_set hi
    obtain ⟨k1, y1, e1, p1, q1, h1⟩ := mk_ColumnS x.fColumns (k) hP.1 (by omega) (by unfold TOP at *; omega)
    have n1 : decide (k1 < 0) = false := decide_eq_false (by omega)
    obtain ⟨k2, y2, e2, p2, q2⟩ := mk_ValueSS x.fRows (k1) hP.2 (by omega) (by unfold TOP at *; omega)
    have n2 : decide (k2 < 0) = false := decide_eq_false (by omega)
    apply Exists.intro
    apply Exists.intro
    refine ⟨?_, ?_, ?_⟩
    · rw [laws_markTableS_l0]
      simp only [hd, cond_true, hs, Int.toNat_natCast, hg0, hg, Option.bind_some, List.set_set, e1, e2]
      rfl
    · omega
    · omega)
    (fun f k xs => by simp only [laws_markTableS_l0, Int.lt_irrefl, decide_false, cond_false])
end Go.D
set_option linter.unusedVariables false
namespace Go.D
theorem law_planColumns {a0 : List T_laws_Table} {a1 : List T_laws_Step} (w0 : listW W_T_laws_Table a0) (w1 : listW W_T_laws_Step a1) : laws_FnExactPlanColumns a0 a1 = some true := by
  unfold laws_FnExactPlanColumns
  obtain ⟨r0, e0, k0⟩ := sz_TableS a0 1048576 w0 (by omega) (by omega)
  rw [e0, Option.bind_some]
  rcases k0 with k0 | ⟨p0, q0, o0⟩
  · rw [decide_eq_true k0, cond_true]
  rw [decide_eq_false (show ¬ r0 < 0 by omega), cond_false]
  obtain ⟨r1, e1, k1⟩ := sz_StepS a1 r0 w1 (by omega) (by omega)
  rw [e1, Option.bind_some]
  rcases k1 with k1 | ⟨p1, q1, o1⟩
  · rw [decide_eq_true k1, cond_true]
  rw [decide_eq_false (show ¬ r1 < 0 by omega), cond_false]
  have ot := okL_map (fun _ => okI_table) o0
  have os := okL_map (fun _ => okI_step) o1
  have oc : okL (fun _ => True) (planCols (a0.map c_Table) (a1.map c_Step)) := ⟨by have := planCols_len (ts := a0.map c_Table) (ss := a1.map c_Step); omega, fun _ _ => trivial⟩
  obtain ⟨k2, y2, m2, p2, q2⟩ := mk_TableS _ 1 ot (by omega) (by unfold TOP; omega)
  obtain ⟨k3, y3, m3, p3, q3⟩ := mk_StepS _ k2 os (by omega) (by unfold TOP; omega)
  obtain ⟨k4, y4, m4, p4, q4, h4⟩ := mk_ColumnS _ 1 oc (by omega) (by unfold TOP; omega)
  have n3 : decide (k3 < 0) = false := decide_eq_false (by omega)
  have n4 : decide (k4 < 0) = false := decide_eq_false (by omega)
  simp only [to_TableS a0 o0, to_StepS a1 o1, Option.bind_some, spec_planCols (sm_tables o0) (sm_steps o1), impl_planCols (sm_tables o0) (sm_steps o1), beq_self_eq_true, Bool.not_true, cond_false,
    eq_TableS _ ot, eq_StepS _ os, eq_ColumnS _ oc, m2, m3, n3, laws_FnExactPlanColumns_j0, m4, h4, n4]
end Go.D
set_option linter.unusedVariables false
namespace Go.D
open Go.ChangeShapes Go.RowKit
theorem trodAll_carry {H : Type} {enc : TypeId × Value → H} {P : Program} {w w' : World} {base : Nat} {sp : Nat → Bool} {held : Bool} : ∀ {ts : List TypeId} {vs : List Value} {ds : List (DataW H)} {ps : List MemPlace},
    DataW.TrodAll enc P w base sp held ts vs ds ps → (∀ p ∈ ps, w.sameAt w' p) → DataW.TrodAll enc P w' base sp held ts vs ds ps
  | [], [], [], _, h, _ => h
  | _ :: _, _ :: _, _ :: _, _, ⟨p, q, ⟨n, hn⟩, h2, e⟩, hs =>
    ⟨p, q, ⟨n, DataW.trod_carry n _ _ _ hn fun x hx => hs x (by rw [e]; exact List.mem_append_left _ hx)⟩, trodAll_carry h2 fun x hx => hs x (by rw [e]; exact List.mem_append_right _ hx), e⟩
theorem Kept.sameAt {w w' : World} (h : Grew w w') {p : MemPlace} (hp : p.block < w.heap.size) : w.sameAt w' p := by
  have hb := h.block p.block hp (fun h => h)
  cases p with
  | cell b off =>
    show w'.cell? ⟨b, off, none⟩ = w.cell? ⟨b, off, none⟩
    unfold World.cell?
    have hb : w'.heap[b]? = w.heap[b]? := hb
    simp only [hb]
  | map b => exact hb
theorem Kept.keptBut {w w' : World} (h : Grew w w') (may : MemPlace → Prop) : w.keptBut w' may := by
  refine ⟨h.os, h.output, fun i hi => ?_⟩
  rw [h.block i hi (fun h => h)]
  cases w.heap[i]? with
  | none => trivial
  | some o => cases o <;> simp
theorem contract_of {P : Program} {fid : FuncId} {fn : Func} {s : ChangeSpec} {tb : TypeId} {H : Type} {enc : TypeId × Value → H}
    (hK : Kids P (· < P.types.size)) (hfull : ∀ t e, t < P.types.size → P.underlying t = some (.slice e) → 0 < P.cellsOf e)
    (hp : ∀ t ∈ fn.params.toList, t < P.types.size) (hv : s.vars = []) (hr : fn.resultTypes = #[tb]) (hb : P.underlying tb = some .bool)
    {n : Nat} (hn : fn.params.toList.length = n) (hs : ∀ ds : List (DataW H), ds.length = n → s.fn H ds = { results := [.lit (.bool true)], args := ds })
    {W : World} {args : Array Value} {ds gs : List (DataW H)} {before : List MemPlace}
    (hlaw : ∀ p, DataW.TrodAll enc P W 0 (fun _ => true) true fn.params.toList args.toList ds p → ∃ ins, FrL W (fun _ => False) ins args.toList ∧ OK P fid ins (B true))
    (hW : DataW.Whole enc P fn.params.toList s.vars false W args.toList ds gs before) :
    Calls P fid args W fun e W' => ∃ v, e = .returned v ∧ s.post enc P fn false true false false W args v W' := by
  have hlt := hW.lt
  have hW' := hW
  obtain ⟨p, q, hA, hV, rfl, hfz, hnd⟩ := hW
  rw [hv] at hV
  obtain ⟨rfl, rfl⟩ := trodVars_none hV
  obtain ⟨ins, h1, h2⟩ := hlaw p hA
  have hlen : ∀ {ts : List TypeId} {vs : List Value} {ds : List (DataW H)} {ps : List MemPlace}, DataW.TrodAll enc P W 0 (fun _ => true) true ts vs ds ps → ds.length = ts.length := by
    intro ts
    induction ts with
    | nil => intro vs ds ps h; obtain ⟨_, rfl, _⟩ := trodAll_nil h; rfl
    | cons t ts ih =>
      intro vs ds ps h
      obtain ⟨_, _, _, _, _, _, rfl, rfl, rfl, _, h⟩ := trodAll_cons h
      simp [ih h]
  have hds : ds.length = n := (hlen hA).trans hn
  have hc := h2.2 W args.toList (fun _ => False) (fun b h => h.elim) h1
  have ha : args.toList.toArray = args := by simp
  rw [ha] at hc
  refine hc.mono fun e W' ⟨v, fp, he, hg, ho, _⟩ => ⟨v, he, ?_⟩
  simp only [B, Ow] at ho
  obtain ⟨rfl, rfl⟩ := ho
  have hsame : ∀ x ∈ p, W.sameAt W' x := fun x hx => Kept.sameAt hg (hlt x (by simpa using hx))
  refine ⟨ds, [], p ++ [], [], p, [], hW', ?_, ?_, ?_, Kept.keptBut hg _, fun h => by cases h⟩
  · rw [List.append_nil, hs ds hds, hr]
    exact trodAll_mk1 (shut_bool hb true)
  · rw [List.append_nil, hs ds hds]
    exact trodAll_carry (DataW.TrodAll.respare hK hfull hp hA fun x hx => by
      have := hlt x (by simpa using hx)
      simpa using this) hsame
  · rw [hv, List.append_nil, hs ds hds]
    rfl
end Go.D
