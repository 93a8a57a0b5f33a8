import Derived.Test.YtpkclpjdpanekaaGreatBatDXFC
import Derived.Test.YtpkclpjdpanekaaGreatBatDShow
import Derived.ChangeArms
import Derived.ChangeShapes
import Derived.Deep.Slices
import Derived.Test.YtpkclpjdpanekaaGreatBatDOwn3
import Derived.Test.YtpkclpjdpanekaaGreatBatDNil
import Derived.Test.YtpkclpjdpanekaaGreatBatDMin
import Derived.Test.YtpkclpjdpanekaaGreatBatDXFC
import Derived.Test.YtpkclpjdpanekaaGreatBatDXT
import Derived.OpenShut
import Derived.ReadAgain
import Derived.ProofKit
set_option linter.unusedVariables false
namespace Go.D
def Rd (P : Program) (t : TypeId) (α : Type) [Enc α] (W : α → Prop) : Prop :=
  P.cellsOf t = Enc.sz α ∧ ∀ (H : Type) (enc : TypeId × Value → H) (w : World) (base : Nat) (sp : Nat → Bool) (held : Bool) (fuel : Nat) (cs : List Value) (x : DataW H × List MemPlace), DataW.trod enc P w base sp held fuel t cs = some x →
    ∃ y : α, FrL w (fun _ => False) (Enc.cells y) cs ∧ W y
def intW (n : Int) : Prop := -9223372036854775808 ≤ n ∧ n ≤ 9223372036854775807
def boolW (_ : Bool) : Prop := True
def strW (s : ByteArray) : Prop := s.size ≤ 9223372036854775807
def listW {α : Type} (W : α → Prop) (l : List α) : Prop := l.length ≤ 9223372036854775807 ∧ ∀ x ∈ l, W x
section
variable {P : Program}
theorem rd_int {t : TypeId} (ht : P.underlying t = some (.int .i64)) (hc : P.cellsOf t = 1) : Rd P t Int intW := ⟨hc, fun H enc w base sp held fuel cs x h => by
  obtain ⟨n, rfl, _, hw⟩ := DataW.trod_int ht h
  refine ⟨n, ?_, by simpa [Lit.wf, IntKind.min, IntKind.max, IntKind.signed, IntKind.bits, intW] using hw⟩
  show FrL w _ [I n] _
  simp only [FrL]
  exact ⟨_, _, rfl, by simp only [Fr], rfl⟩⟩
theorem rd_bool {t : TypeId} (ht : P.underlying t = some .bool) (hc : P.cellsOf t = 1) : Rd P t Bool boolW := ⟨hc, fun H enc w base sp held fuel cs x h => by
  obtain ⟨b, rfl, _⟩ := DataW.trod_bool ht h
  refine ⟨b, ?_, trivial⟩
  show FrL w _ [B b] _
  simp only [FrL]
  exact ⟨_, _, rfl, by simp only [Fr], rfl⟩⟩
theorem rd_str {t : TypeId} (ht : P.underlying t = some .string) (hc : P.cellsOf t = 1) : Rd P t ByteArray strW := ⟨hc, fun H enc w base sp held fuel cs x h => by
  obtain ⟨s, rfl, _, hs⟩ := DataW.trod_string ht h
  refine ⟨s, ?_, by simpa [strW, maxLen] using hs⟩
  show FrL w _ [S s] _
  simp only [FrL]
  exact ⟨_, _, rfl, by simp only [Fr], rfl⟩⟩
theorem eL_flat {α : Type} [Enc α] {w : World} {M : Nat → Prop} : ∀ {ys : List α} {uss : List (List Value)}, ys.length = uss.length → (∀ (i : Nat) (y : α) (us : List Value), ys[i]? = some y → uss[i]? = some us → FrL w M (Enc.cells y) us) → FrL w M (eL ys) uss.flatten
  | [], [], _, _ => by simp [eL, FrL]
  | [], _ :: _, h, _ => by simp at h
  | _ :: _, [], h, _ => by simp at h
  | y :: ys, us :: uss, h, k => by
    simp only [eL, List.flatten_cons]
    exact FrL.append (k 0 y us rfl rfl) (eL_flat (by simpa using h) fun i y' us' h1 h2 => k (i + 1) y' us' (by simpa using h1) (by simpa using h2))
theorem flat_get {sz : Nat} (hsz : 0 < sz) : ∀ {uss : List (List Value)}, (∀ us ∈ uss, us.length = sz) → ∀ {j : Nat} {v : Value}, uss.flatten[j]? = some v → ∃ us, uss[j / sz]? = some us ∧ us[j % sz]? = some v
  | [], _, j, v, h => by simp at h
  | us :: uss, hl, j, v, h => by
    have h0 : us.length = sz := hl us (by simp)
    simp only [List.flatten_cons] at h
    rcases Nat.lt_or_ge j sz with hj | hj
    · rw [List.getElem?_append_left (by omega)] at h
      refine ⟨us, by rw [Nat.div_eq_of_lt hj]; rfl, by rw [Nat.mod_eq_of_lt hj]; exact h⟩
    · rw [List.getElem?_append_right (by omega), h0] at h
      obtain ⟨us', h1, h2⟩ := flat_get hsz (fun us' hu => hl us' (by simp [hu])) h
      refine ⟨us', ?_, ?_⟩
      · have : j / sz = (j - sz) / sz + 1 := by rw [Nat.div_eq_sub_div hsz hj]
        rw [this]
        simpa using h1
      · rw [Nat.mod_eq_sub_mod hj]; exact h2
theorem rd_slice {t e : TypeId} {α : Type} [Enc α] {W : α → Prop} (ht : P.underlying t = some (.slice e)) (hc : P.cellsOf t = 1) (he : Rd P e α W) : Rd P t (List α) (listW W) := ⟨hc, fun H enc w base sp held fuel cs x h => by
  obtain ⟨hce, he⟩ := he
  have hpos : 0 < Enc.sz α := Enc.pos
  have fin : ∀ (ys : List α) (v : Value), Fr w (fun _ => False) (A ys) v → listW W ys → ∃ y : List α, FrL w (fun _ => False) (Enc.cells y) [v] ∧ listW W y := fun ys v h1 h2 => ⟨ys, by
    show FrL w _ [A ys] _
    simp only [FrL]
    exact ⟨_, _, rfl, h1, rfl⟩, h2⟩
  rcases Go.Deep.open_slice ht h with ⟨rfl, _⟩ | ⟨a, len, cap, m, n, D, Pl, rfl, hb, hl, hm, hmm, _, hx⟩
  · exact fin [] _ (Fr.nil w _ _ hpos) ⟨by simp, by simp⟩
  · have hcapm : cap ≤ maxI := by simpa [maxLen, maxI] using hm
    by_cases h0 : len = 0
    · subst h0
      refine fin [] _ ?_ ⟨by simp, by simp⟩
      simp only [Fr]
      exact ⟨some a, cap, rfl, ⟨hpos, by simp [eL], by simp, hcapm, fun h => by cases h⟩, .inl rfl⟩
    · have hlm : len ≤ m := by rw [hmm]; split <;> omega
      have hel : ∀ i, i < len → ∃ p : List Value × α, w.cells? base (a.add (i * P.cellsOf e)) (P.cellsOf e) = some p.1 ∧ FrL w (fun _ => False) (Enc.cells p.2) p.1 ∧ W p.2 := by
        intro i hi
        obtain ⟨cs', h1, h2⟩ := hx i (by omega)
        obtain ⟨y, h3, h4⟩ := he H enc w base sp held n cs' _ h2
        exact ⟨(cs', y), h1, h3, h4⟩
      obtain ⟨p0, hp0⟩ := hel 0 (by omega)
      haveI : Inhabited (List Value × α) := ⟨p0⟩
      obtain ⟨F, hF⟩ := Go.Deep.choose_lt (α := List Value × α) (p := fun i p => w.cells? base (a.add (i * P.cellsOf e)) (P.cellsOf e) = some p.1 ∧ FrL w (fun _ => False) (Enc.cells p.2) p.1 ∧ W p.2) hel
      let ys : List α := (List.range len).map fun i => (F i).2
      let uss : List (List Value) := (List.range len).map fun i => (F i).1
      have hul : ∀ us ∈ uss, us.length = Enc.sz α := by
        intro us hu
        obtain ⟨i, hi, rfl⟩ := List.mem_map.1 hu
        have := (World.cells?_some (hF i (List.mem_range.1 hi)).1).2.1
        rw [this, hce]
      have hys : ys.length = len := by simp [ys]
      have hfl : FrL w (fun _ => False) (eL ys) uss.flatten := eL_flat (by simp [ys, uss]) fun i y us h1 h2 => by
        simp only [ys, uss, List.getElem?_map] at h1 h2
        have hi : i < len := by
          cases hr : (List.range len)[i]? with
          | none => rw [hr] at h1; cases h1
          | some k => have := (List.getElem?_eq_some_iff.1 hr).1; simpa using this
        rw [List.getElem?_range hi] at h1 h2
        simp only [Option.map_some, Option.some.injEq] at h1 h2
        rw [← h1, ← h2]
        exact (hF i hi).2.1
      have hul0 : ((F 0).1).length = Enc.sz α := hul _ (List.mem_map.2 ⟨0, by simp; omega, rfl⟩)
      have h00 : ∃ v, w.cell? a = some v := by
        have h1 := (World.cells?_some (hF 0 (by omega)).1).2.2 0 (by rw [hce]; exact hpos)
        rw [List.getElem?_eq_getElem (by omega)] at h1
        refine ⟨_, Eq.trans ?_ h1⟩
        simp [Addr.add]
      obtain ⟨v00, hv00⟩ := h00
      have hspot : a.spot = none := World.cell?_spot hv00
      obtain ⟨ab, ao, as_⟩ := a
      simp only at hspot
      subst hspot
      have hcell : ∀ i j, i < len → j < Enc.sz α → w.cell? ⟨ab, ao + (i * Enc.sz α + j), none⟩ = ((F i).1)[j]? := by
        intro i j hi hj
        have := (World.cells?_some (hF i hi).1).2.2 j (by rw [hce]; exact hj)
        rw [hce] at this
        rw [← this]
        congr 1
        unfold Addr.add
        split <;> split <;> simp_all <;> omega
      refine fin ys _ ?_ ⟨by rw [hys]; simp only [maxI] at hcapm; omega, fun y hy => by
        obtain ⟨i, hi, rfl⟩ := List.mem_map.1 hy
        exact (hF i (List.mem_range.1 hi)).2.2⟩
      simp only [Fr]
      refine ⟨some ⟨ab, ao, none⟩, cap, by rw [hys], ⟨hpos, by rw [eL_len], by rw [hys]; exact hl, hcapm, fun h => by cases h⟩, .inr ⟨ab, ao, uss.flatten, rfl, World.block_lt_of_cell? _ _ hv00, fun h => h, hfl, fun j hj => ?_⟩⟩
      obtain ⟨us, h1, h2⟩ := flat_get hpos hul (List.getElem?_eq_getElem hj)
      have hi : j / Enc.sz α < len := by
        have := (List.getElem?_eq_some_iff.1 h1).1
        simpa [uss] using this
      simp only [uss, List.getElem?_map, List.getElem?_range hi, Option.map_some, Option.some.injEq] at h1
      have := hcell (j / Enc.sz α) (j % Enc.sz α) hi (Nat.mod_lt _ hpos)
      rw [h1, h2] at this
      have e1 : j / Enc.sz α * Enc.sz α + j % Enc.sz α = j := by rw [Nat.mul_comm]; exact Nat.div_add_mod j _
      rw [e1] at this
      rw [List.getElem?_eq_getElem hj, ← this]⟩
end
end Go.D
set_option linter.unusedVariables false
namespace Go.D
theorem w64_of {n : Int} (h1 : -9223372036854775808 ≤ n) (h2 : n ≤ 9223372036854775807) : w64 n = n := by
  have hm : IntKind.i64.min = -9223372036854775808 := by decide
  have hM : IntKind.i64.max = 9223372036854775807 := by decide
  simp [w64, IntKind.wrap, IntKind.signed, IntKind.bits]
  omega
theorem getI_nat {α : Type} {xs : List α} {i : Nat} : getI xs (i : Int) = xs[i]? := by
  unfold getI
  rw [if_pos (by omega), Int.toNat_natCast]
theorem getI_lt {α : Type} {xs : List α} {i : Int} (h0 : 0 ≤ i) (h1 : i < xs.length) : ∃ x, getI xs i = some x ∧ xs[i.toNat]? = some x := by
  unfold getI
  rw [if_pos h0]
  have : i.toNat < xs.length := by omega
  exact ⟨xs[i.toNat], by rw [List.getElem?_eq_getElem this], by rw [List.getElem?_eq_getElem this]⟩
theorem app_lt {α : Type} {xs ys : List α} (h : xs.length + ys.length < 68719476736) : app xs ys = some (xs ++ ys) := if_pos h
theorem succ_w {i n : Nat} (h : i < n) (hn : n ≤ 70368744177663) : w64 ((i : Int) + 1) = ((i + 1 : Nat) : Int) := by
  rw [w64_of (by omega) (by omega)]
  omega
theorem loop_all {α : Type} {xs : List α} {L : Nat → Int → Option Bool} {p : α → Bool} {fin : Bool} (hlen : xs.length ≤ 70368744177662)
    (h : ∀ (f i : Nat) (v : α), i < xs.length → xs[i]? = some v → w64 ((i : Int) + 1) = ((i + 1 : Nat) : Int) → L (f + 1) i = bif p v then L f ((i + 1 : Nat) : Int) else some false)
    (he : ∀ f, L (f + 1) (xs.length : Int) = some fin) : L FUEL 0 = some (xs.all p && fin) := by
  have main : ∀ (k f i : Nat), i + k = xs.length → k < f → L f (i : Int) = some ((xs.drop i).all p && fin) := by
    intro k
    induction k with
    | zero =>
      intro f i hi hf
      obtain ⟨f, rfl⟩ : ∃ f', f = f' + 1 := ⟨f - 1, by omega⟩
      have : i = xs.length := by omega
      subst this
      rw [he, List.drop_length]
      simp
    | succ k ih =>
      intro f i hi hf
      obtain ⟨f, rfl⟩ : ∃ f', f = f' + 1 := ⟨f - 1, by omega⟩
      have hlt : i < xs.length := by omega
      rw [h f i xs[i] hlt (List.getElem?_eq_getElem hlt) (succ_w hlt (by omega)), ih f (i + 1) (by omega) (by omega), List.drop_eq_getElem_cons hlt, List.all_cons]
      cases p xs[i] <;> simp
  have := main xs.length FUEL 0 (by omega) (by unfold FUEL; omega)
  simpa using this
theorem loop_find {α : Type} {xs : List α} {L : Nat → Int → Option Int} {p : α → Bool} (hlen : xs.length ≤ 70368744177662)
    (h : ∀ (f i : Nat) (v : α), i < xs.length → xs[i]? = some v → w64 ((i : Int) + 1) = ((i + 1 : Nat) : Int) → L (f + 1) i = bif p v then some (i : Int) else L f ((i + 1 : Nat) : Int))
    (he : ∀ f, L (f + 1) (xs.length : Int) = some (-1)) : ∃ r, L FUEL 0 = some r ∧ decide (r ≥ 0) = xs.any p := by
  have main : ∀ (k f i : Nat), i + k = xs.length → k < f → ∃ r, L f (i : Int) = some r ∧ decide (r ≥ 0) = (xs.drop i).any p := by
    intro k
    induction k with
    | zero =>
      intro f i hi hf
      obtain ⟨f, rfl⟩ : ∃ f', f = f' + 1 := ⟨f - 1, by omega⟩
      have : i = xs.length := by omega
      subst this
      rw [he, List.drop_length]
      exact ⟨_, rfl, by simp⟩
    | succ k ih =>
      intro f i hi hf
      obtain ⟨f, rfl⟩ : ∃ f', f = f' + 1 := ⟨f - 1, by omega⟩
      have hlt : i < xs.length := by omega
      rw [h f i xs[i] hlt (List.getElem?_eq_getElem hlt) (succ_w hlt (by omega)), List.drop_eq_getElem_cons hlt, List.any_cons]
      cases hp : p xs[i] with
      | true => exact ⟨_, rfl, by simp⟩
      | false =>
        obtain ⟨r, h1, h2⟩ := ih f (i + 1) (by omega) (by omega)
        exact ⟨r, h1, by simp [h2]⟩
  have := main xs.length FUEL 0 (by omega) (by unfold FUEL; omega)
  simpa using this
theorem loop_rec {α σ β : Type} {xs : List α} {L : Nat → Int → σ → Option β} (R : List α → σ → β) (Inv : Nat → σ → Prop) (hlen : xs.length ≤ 70368744177662)
    (h : ∀ (f i : Nat) (s : σ) (v : α) (rest : List α), i < xs.length → xs[i]? = some v → w64 ((i : Int) + 1) = ((i + 1 : Nat) : Int) → Inv i s →
      L (f + 1) i s = some (R (v :: rest) s) ∨ ∃ s', Inv (i + 1) s' ∧ L (f + 1) i s = L f ((i + 1 : Nat) : Int) s' ∧ R (v :: rest) s = R rest s')
    (he : ∀ f s, Inv xs.length s → L (f + 1) (xs.length : Int) s = some (R [] s)) {s : σ} (h0 : Inv 0 s) : L FUEL 0 s = some (R xs s) := by
  have main : ∀ (k f i : Nat) (s : σ), i + k = xs.length → k < f → Inv i s → L f (i : Int) s = some (R (xs.drop i) s) := by
    intro k
    induction k with
    | zero =>
      intro f i s hi hf hI
      obtain ⟨f, rfl⟩ : ∃ f', f = f' + 1 := ⟨f - 1, by omega⟩
      have : i = xs.length := by omega
      subst this
      rw [he _ _ hI, List.drop_length]
    | succ k ih =>
      intro f i s hi hf hI
      obtain ⟨f, rfl⟩ : ∃ f', f = f' + 1 := ⟨f - 1, by omega⟩
      have hlt : i < xs.length := by omega
      rw [List.drop_eq_getElem_cons hlt]
      rcases h f i s xs[i] (xs.drop (i + 1)) hlt (List.getElem?_eq_getElem hlt) (succ_w hlt (by omega)) hI with h1 | ⟨s', h1, h2, h3⟩
      · exact h1
      · rw [h2, h3]
        exact ih f (i + 1) s' (by omega) (by omega) h1
  have := main xs.length FUEL 0 s (by omega) (by unfold FUEL; omega) h0
  simpa using this
theorem loop_q {α σ β : Type} {xs : List α} {L : Nat → Int → σ → Option β} (Q : List α → σ → β → Prop) (Inv : Nat → σ → Prop) (hlen : xs.length ≤ 70368744177662)
    (h : ∀ (f i : Nat) (s : σ) (v : α) (rest : List α), i + (rest.length + 1) = xs.length → i < xs.length → xs[i]? = some v → w64 ((i : Int) + 1) = ((i + 1 : Nat) : Int) → Inv i s →
      (∃ y, L (f + 1) i s = some y ∧ Q (v :: rest) s y) ∨ ∃ s', Inv (i + 1) s' ∧ L (f + 1) i s = L f ((i + 1 : Nat) : Int) s' ∧ ∀ y, Q rest s' y → Q (v :: rest) s y)
    (he : ∀ f s, Inv xs.length s → ∃ y, L (f + 1) (xs.length : Int) s = some y ∧ Q [] s y) {s : σ} (h0 : Inv 0 s) : ∃ y, L FUEL 0 s = some y ∧ Q xs s y := by
  have main : ∀ (k f i : Nat) (s : σ), i + k = xs.length → k < f → Inv i s → ∃ y, L f (i : Int) s = some y ∧ Q (xs.drop i) s y := by
    intro k
    induction k with
    | zero =>
      intro f i s hi hf hI
      obtain ⟨f, rfl⟩ : ∃ f', f = f' + 1 := ⟨f - 1, by omega⟩
      have : i = xs.length := by omega
      subst this
      rw [List.drop_length]
      exact he _ _ hI
    | succ k ih =>
      intro f i s hi hf hI
      obtain ⟨f, rfl⟩ : ∃ f', f = f' + 1 := ⟨f - 1, by omega⟩
      have hlt : i < xs.length := by omega
      rw [List.drop_eq_getElem_cons hlt]
      rcases h f i s xs[i] (xs.drop (i + 1)) (by rw [List.length_drop]; omega) hlt (List.getElem?_eq_getElem hlt) (succ_w hlt (by omega)) hI with h1 | ⟨s', h1, h2, h3⟩
      · exact h1
      · obtain ⟨y, h4, h5⟩ := ih f (i + 1) s' (by omega) (by omega) h1
        exact ⟨y, h2.trans h4, h3 y h5⟩
  have := main xs.length FUEL 0 s (by omega) (by unfold FUEL; omega) h0
  simpa using this
def okL {α : Type} (ok : α → Prop) (xs : List α) : Prop := xs.length ≤ 1048576 ∧ ∀ x ∈ xs, ok x
def SzP {α : Type} (z : α → Int → Option Int) (W ok : α → Prop) : Prop := ∀ x n, W x → 0 ≤ n → n ≤ 1048576 → ∃ r, z x n = some r ∧ (r < 0 ∨ (0 ≤ r ∧ r ≤ n ∧ ok x))
theorem sz_cut {k : Nat} {n : Int} (hk : k ≤ 9223372036854775807) (h0 : 0 ≤ n) (hn : n ≤ 1048576) : w64 (n - (k : Int)) = n - k := w64_of (by omega) (by omega)
theorem sz_one {α : Type} {z : α → Int → Option Int} {W : α → Prop} (k : α → Nat) (hk : ∀ x, W x → k x ≤ 9223372036854775807)
    (hz : ∀ x n, z x n = bif (decide (w64 (n - ((k x : Nat) : Int)) < 0)) then some (-1) else some (w64 (n - ((k x : Nat) : Int)))) : SzP z W (fun x => k x ≤ 1048576) := by
  intro x n hW h0 hn
  rw [hz, sz_cut (hk x hW) h0 hn]
  by_cases h : n - (k x : Int) < 0
  · exact ⟨-1, by rw [decide_eq_true h, cond_true], .inl (by omega)⟩
  · exact ⟨n - k x, by rw [decide_eq_false h, cond_false], .inr ⟨by omega, by omega, by simp only; omega⟩⟩
theorem sz_flat {α : Type} {S : List α → Int → Option Int} {W ok : α → Prop} (hok : ∀ x, ok x) (hb : ∀ xs, listW W xs → xs.length ≤ 9223372036854775807)
    (hz : ∀ x n, S x n = bif (decide (w64 (n - ((x.length : Nat) : Int)) < 0)) then some (-1) else some (w64 (n - ((x.length : Nat) : Int)))) : SzP S (listW W) (okL ok) := by
  intro x n hW h0 hn
  obtain ⟨r, h1, h2⟩ := sz_one (z := S) (W := listW W) (fun x => x.length) hb hz x n hW h0 hn
  exact ⟨r, h1, h2.imp id fun h => ⟨h.1, h.2.1, h.2.2, fun x _ => hok x⟩⟩
theorem sz_loop {α : Type} {z : α → Int → Option Int} {S : List α → Int → Option Int} {L : List α → Nat → Int → Int → Option Int} {W ok : α → Prop} (hz : SzP z W ok)
    (hS : ∀ a n, S a n = bif (decide (w64 (n - ((a.length : Nat) : Int)) < 0)) then some (-1) else L a FUEL (w64 (n - ((a.length : Nat) : Int))) 0)
    (hL : ∀ a f n i, L a (f + 1) n i = bif (decide (i < ((a.length : Nat) : Int))) then (getI a i).bind fun v => (z v n).bind fun r => bif (decide (r < 0)) then some (-1) else L a f r (w64 (i + 1)) else some n) :
    SzP S (listW W) (okL ok) := by
  intro x n hW h0 hn
  rw [hS, sz_cut hW.1 h0 hn]
  by_cases h : n - (x.length : Int) < 0
  · exact ⟨-1, by rw [decide_eq_true h, cond_true], .inl (by omega)⟩
  rw [decide_eq_false h, cond_false]
  have key := loop_q (xs := x) (L := fun f i (m : Int) => L x f m i) (fun rest m y => y < 0 ∨ (0 ≤ y ∧ y ≤ m ∧ ∀ v ∈ rest, ok v)) (fun i m => 0 ≤ m ∧ m ≤ n) (by omega)
    (fun f i m v rest hr hi hv hw hI => by
      have hlt : (i : Int) < x.length := by omega
      obtain ⟨r, h1, h2⟩ := hz v m (hW.2 v (List.mem_of_getElem? hv)) hI.1 (by omega)
      rcases h2 with h2 | ⟨h2, h3, h4⟩
      · refine .inl ⟨-1, ?_, .inl (by omega)⟩
        simp only [hL, hlt, decide_true, cond_true, getI_nat, hv, Option.bind_some, h1, h2]
      · refine .inr ⟨r, ⟨h2, by omega⟩, ?_, fun y hy => ?_⟩
        · have : ¬ r < 0 := by omega
          simp only [hL, hlt, decide_true, cond_true, getI_nat, hv, Option.bind_some, h1, this, decide_false, cond_false, hw]
        · rcases hy with hy | ⟨hy1, hy2, hy3⟩
          · exact .inl hy
          · refine .inr ⟨hy1, by omega, fun u hu => ?_⟩
            rcases List.mem_cons.1 hu with rfl | hu
            · exact h4
            · exact hy3 u hu)
    (fun f m hI => ⟨m, by simp only [hL, Int.lt_irrefl, decide_false, cond_false], .inr ⟨hI.1, Int.le_refl _, fun v hv => by cases hv⟩⟩) (s := n - (x.length : Int)) ⟨by omega, by omega⟩
  obtain ⟨y, h1, h2⟩ := key
  exact ⟨y, h1, h2.imp id fun h' => ⟨h'.1, by omega, by omega, h'.2.2⟩⟩
theorem to_loop {α β : Type} {c : α → β} {t : α → Option β} {S : List α → Option (List β)} {L : List α → Nat → Int → List β → Option (List β)} {d : β} {ok : α → Prop} (ht : ∀ x, ok x → t x = some (c x))
    (hS : ∀ a, S a = (mkI ((a.length : Nat) : Int) d).bind fun v => L a FUEL 0 v)
    (hL : ∀ a f i st, L a (f + 1) i st = bif (decide (i < ((a.length : Nat) : Int))) then (getI a i).bind fun v => (t v).bind fun y => (getI st i).bind fun _ => L a f (w64 (i + 1)) (st.set i.toNat y) else some st) :
    ∀ xs, okL ok xs → S xs = some (xs.map c) := by
  intro xs hx
  have hl := hx.1
  rw [hS, mkI, if_pos (by omega), Option.bind_some]
  have key := loop_q (xs := xs) (L := fun f i (st : List β) => L xs f i st) (fun rest st y => y = st.take (st.length - rest.length) ++ rest.map c) (fun i st => st.length = xs.length) (by omega)
    (fun f i st v rest hr hi hv hw hI => by
      have hlt : (i : Int) < xs.length := by omega
      obtain ⟨o, ho, _⟩ := getI_lt (xs := st) (i := (i : Int)) (by omega) (by omega)
      refine .inr ⟨st.set i (c v), by rw [List.length_set]; exact hI, ?_, fun y hy => ?_⟩
      · rw [hL, decide_eq_true hlt, cond_true, getI_nat, hv, Option.bind_some, ht v (hx.2 v (List.mem_of_getElem? hv)), Option.bind_some, ho, Option.bind_some, hw, Int.toNat_natCast]
      · have e1 : (st.set i (c v)).length - rest.length = i + 1 := by rw [List.length_set]; omega
        have e2 : st.length - (v :: rest).length = i := by simp only [List.length_cons]; omega
        rw [e1] at hy
        rw [e2, hy, List.take_add_one, List.take_set_of_le (Nat.le_refl i), List.getElem?_set_self (by omega)]
        simp)
    (fun f st hI => ⟨st, by simp only [hL, Int.lt_irrefl, decide_false, cond_false], by simp⟩) (s := List.replicate ((xs.length : Int)).toNat d) (by simp)
  obtain ⟨y, h1, h2⟩ := key
  rw [h1, h2]
  simp
theorem eq_loop {β : Type} {e : β → β → Option Bool} {S : List β → List β → Option Bool} {L : List β → List β → Nat → Int → Option Bool} {ok : β → Prop} (he : ∀ x, ok x → e x x = some true)
    (hS : ∀ a b, S a b = bif (!(((a.length : Nat) : Int) == ((b.length : Nat) : Int))) then some false else L a b FUEL 0)
    (hL : ∀ a b f i, L a b (f + 1) i = bif (decide (i < ((a.length : Nat) : Int))) then (getI a i).bind fun v => (getI b i).bind fun u => (e v u).bind fun r => bif (!r) then some false else L a b f (w64 (i + 1)) else some true) :
    ∀ xs, okL ok xs → S xs xs = some true := by
  intro xs hx
  have hl := hx.1
  rw [hS, beq_self_eq_true, Bool.not_true, cond_false]
  have := loop_all (xs := xs) (L := fun f i => L xs xs f i) (p := fun _ => true) (fin := true) (by omega) (fun f i v hi hv hw => by
    have hlt : (i : Int) < xs.length := by omega
    simp only [hL, hlt, decide_true, cond_true, getI_nat, hv, Option.bind_some, he v (hx.2 v (List.mem_of_getElem? hv)), Bool.not_true, cond_false, hw]) (fun f => by
    simp only [hL, Int.lt_irrefl, decide_false, cond_false])
  rw [this]
  simp
end Go.D
set_option linter.unusedVariables false
namespace Go.D
abbrev Sm (n : Nat) : Prop := n ≤ 2097152
def inR (a b c : Int) : Bool := decide (b ≤ a) && decide (a ≤ c)
theorem spec_in (a b c : Int) : spec_l1In a b c = some (inR a b c) := by
  unfold spec_l1In inR
  by_cases h : b ≤ a <;> simp [h]
theorem impl_in (a b c : Int) : impl_between a b c = some (inR a b c) := by
  unfold impl_between inR
  by_cases h : b ≤ a <;> simp [h]
def colsOk (cs : List T_impl_Column) : Bool := cs.all (fun c => inR c.fKind 1 3) && decide (cs.length ≤ 4)
theorem spec_colsOk {cs : List T_impl_Column} (h : Sm cs.length) : spec_ColumnsOk cs = some (colsOk cs) := by
  unfold spec_ColumnsOk colsOk
  refine loop_all (by omega) (fun f i v hi hv hw => ?_) (fun f => ?_)
  · have : (i : Int) < cs.length := by omega
    simp only [spec_ColumnsOk_l0, this, decide_true, cond_true, getI_nat, hv, Option.bind_some, spec_in, hw]
    cases inR v.fKind 1 3 <;> rfl
  · simp only [spec_ColumnsOk_l0, Int.lt_irrefl, decide_false, cond_false]
    congr 1
    simp only [decide_eq_decide]
    omega
theorem impl_colsAny {cs : List T_impl_Column} (h : Sm cs.length) : slices_ContainsFunc_impl_Column_impl_Column cs impl_ColumnsOk_1 = some (cs.any fun c => !(inR c.fKind 1 3)) := by
  unfold slices_ContainsFunc_impl_Column_impl_Column slices_IndexFunc_impl_Column_impl_Column
  obtain ⟨r, h1, h2⟩ := loop_find (xs := cs) (L := slices_IndexFunc_impl_Column_impl_Column_l0 cs impl_ColumnsOk_1) (p := fun c => !(inR c.fKind 1 3)) (by omega) (fun f i v hi hv hw => by
    have : (i : Int) < cs.length := by omega
    simp only [slices_IndexFunc_impl_Column_impl_Column_l0, this, decide_true, cond_true, getI_nat, hv, Option.bind_some, impl_ColumnsOk_1, impl_in, hw]) (fun f => by
    simp only [slices_IndexFunc_impl_Column_impl_Column_l0, Int.lt_irrefl, decide_false, cond_false])
  rw [h1, Option.bind_some, h2]
theorem not_any_not {α : Type} (xs : List α) (p : α → Bool) : (!(xs.any fun x => !(p x))) = xs.all p := by
  induction xs with
  | nil => rfl
  | cons x xs ih => simp [← ih]
theorem impl_colsOk {cs : List T_impl_Column} (h : Sm cs.length) : impl_ColumnsOk cs = some (colsOk cs) := by
  unfold impl_ColumnsOk colsOk
  rw [impl_colsAny h, Option.bind_some, not_any_not]
  by_cases h4 : cs.length ≤ 4
  · have : (cs.length : Int) ≤ 4 := by omega
    simp [h4, this]
  · have : ¬ (cs.length : Int) ≤ 4 := by omega
    simp [h4, this]
theorem cast_le6 (n : Nat) : decide ((n : Int) ≤ 6) = decide (n ≤ 6) := by
  simp only [decide_eq_decide]
  omega
theorem getB_nat {s : ByteArray} {i : Nat} : getB s (i : Int) = s.data.toList[i]? := by
  unfold getB
  rw [if_pos (by omega), Int.toNat_natCast]
  by_cases h : i < s.size
  · rw [getElem?_pos s i h, List.getElem?_eq_getElem (by simpa using h)]
    simp only [Option.some.injEq]
    rfl
  · rw [getElem?_neg s i h, List.getElem?_eq_none (by simpa using h)]
def letter (b : UInt8) : Bool := decide (97 ≤ b.toNat) && decide (b.toNat ≤ 122)
def textOk (s : ByteArray) : Bool := s.data.toList.all letter && decide (s.size ≤ 6)
theorem size_list (s : ByteArray) : s.data.toList.length = s.size := Array.length_toList
theorem spec_text {s : ByteArray} (h : Sm s.size) : spec_l1Text s = some (textOk s) := by
  unfold spec_l1Text textOk
  have hl := size_list s
  refine loop_all (xs := s.data.toList) (by omega) (fun f i v hi hv hw => ?_) (fun f => ?_)
  · have : (i : Int) < s.size := by omega
    simp only [spec_l1Text_l0, this, decide_true, cond_true, getB_nat, hv, Option.bind_some, spec_l1Text_j1, hw]
    unfold letter
    by_cases h1 : (v.toNat : Int) < 97
    · have : ¬ 97 ≤ v.toNat := by omega
      simp [h1, this]
    · have h1' : 97 ≤ v.toNat := by omega
      by_cases h2 : (v.toNat : Int) > 122
      · have : ¬ v.toNat ≤ 122 := by omega
        simp [h1, h1', h2, this]
      · have : v.toNat ≤ 122 := by omega
        simp [h1, h1', h2, this]
  · rw [hl]
    unfold spec_l1Text_l0
    rw [show decide ((s.size : Int) < (s.size : Int)) = false from decide_eq_false (Int.lt_irrefl _), cond_false, cast_le6]
theorem impl_lettersOk {s : ByteArray} (h : Sm s.size) : impl_letters s = some (s.data.toList.all letter) := by
  have hl := size_list s
  unfold impl_letters bytesOf
  rw [if_pos (by omega), Option.bind_some, ← Bool.and_true (s.data.toList.all letter)]
  refine loop_all (xs := s.data.toList) (by omega) (fun f i v hi hv hw => ?_) (fun f => ?_)
  · have : (i : Int) < s.data.toList.length := by omega
    have hb : v.toNat < 256 := v.toNat_lt
    have h1 : w64 (v.toNat : Int) = v.toNat := w64_of (by omega) (by omega)
    simp only [impl_letters_l0, this, decide_true, cond_true, getI_nat, hv, Option.bind_some, impl_in, hw, h1]
    have : inR (v.toNat : Int) 97 122 = letter v := by
      unfold inR letter
      congr 1 <;> simp only [decide_eq_decide] <;> omega
    rw [this]
    cases letter v <;> rfl
  · simp only [impl_letters_l0, Int.lt_irrefl, decide_false, cond_false]
def valOk (v : T_impl_Value) : Bool := bif v.fKind == 0 then v.fN == 0 && v.fS.toList == (ByteArray.mk #[]).toList else bif v.fKind == 1 then inR v.fN (-9999) 9999 && v.fS.toList == (ByteArray.mk #[]).toList else
  bif v.fKind == 2 then v.fN == 0 && textOk v.fS else bif v.fKind == 3 then inR v.fN 0 1 && v.fS.toList == (ByteArray.mk #[]).toList else false
theorem spec_value {v : T_impl_Value} (h : Sm v.fS.size) : spec_ValueOk v = some (valOk v) := by
  unfold spec_ValueOk valOk
  simp only [spec_in, spec_text h, Option.bind_some]
  cases v.fKind == 0 <;> cases v.fKind == 1 <;> cases v.fKind == 2 <;> cases v.fKind == 3 <;> cases v.fN == 0 <;> cases inR v.fN (-9999) 9999 <;> cases inR v.fN 0 1 <;> rfl
theorem impl_value {v : T_impl_Value} (h : Sm v.fS.size) : impl_Value_ok v = some (valOk v) := by
  unfold impl_Value_ok valOk
  simp only [impl_in, impl_lettersOk h, Option.bind_some]
  have e : eq_T_impl_Value v ((T_impl_Value.mk 0 0 (ByteArray.mk #[]))) = (v.fKind == 0 && (v.fN == 0 && v.fS.toList == (ByteArray.mk #[]).toList)) := rfl
  have e2 : decide ((v.fS.size : Int) ≤ 6) = decide (v.fS.size ≤ 6) := by
    simp only [decide_eq_decide]
    omega
  have e3 : textOk v.fS = (v.fS.data.toList.all letter && decide (v.fS.size ≤ 6)) := rfl
  rw [e, e2, e3]
  cases v.fKind == 0 <;> cases v.fKind == 1 <;> cases v.fKind == 2 <;> cases v.fKind == 3 <;> cases v.fN == 0 <;> cases inR v.fN (-9999) 9999 <;> cases inR v.fN 0 1 <;> cases v.fS.toList == (ByteArray.mk #[]).toList <;>
    cases decide (v.fS.size ≤ 6) <;> cases v.fS.data.toList.all letter <;> rfl
def SmV (v : T_impl_Value) : Prop := Sm v.fS.size
def SmR (r : List T_impl_Value) : Prop := Sm r.length ∧ ∀ v ∈ r, SmV v
def rowOk (r : List T_impl_Value) : Bool := r.all valOk && decide (r.length ≤ 4)
theorem spec_rowOk {r : List T_impl_Value} (h : SmR r) : spec_RowOk r = some (rowOk r) := by
  unfold spec_RowOk rowOk
  have hl := h.1
  refine loop_all (by omega) (fun f i v hi hv hw => ?_) (fun f => ?_)
  · have : (i : Int) < r.length := by omega
    simp only [spec_RowOk_l0, this, decide_true, cond_true, getI_nat, hv, Option.bind_some, spec_value (h.2 v (List.mem_of_getElem? hv)), hw]
    cases valOk v <;> rfl
  · simp only [spec_RowOk_l0, Int.lt_irrefl, decide_false, cond_false]
    congr 1
    simp only [decide_eq_decide]
    omega
theorem impl_rowAny {r : List T_impl_Value} (h : SmR r) : slices_ContainsFunc_impl_Value_impl_Value r impl_RowOk_1 = some (r.any fun v => !(valOk v)) := by
  unfold slices_ContainsFunc_impl_Value_impl_Value slices_IndexFunc_impl_Value_impl_Value
  have hl := h.1
  obtain ⟨x, h1, h2⟩ := loop_find (xs := r) (L := slices_IndexFunc_impl_Value_impl_Value_l0 r impl_RowOk_1) (p := fun v => !(valOk v)) (by omega) (fun f i v hi hv hw => by
    have : (i : Int) < r.length := by omega
    simp only [slices_IndexFunc_impl_Value_impl_Value_l0, this, decide_true, cond_true, getI_nat, hv, Option.bind_some, impl_RowOk_1, impl_value (h.2 v (List.mem_of_getElem? hv)), hw]) (fun f => by
    simp only [slices_IndexFunc_impl_Value_impl_Value_l0, Int.lt_irrefl, decide_false, cond_false])
  rw [h1, Option.bind_some, h2]
theorem le4 {α : Type} (xs : List α) : decide ((xs.length : Int) ≤ 4) = decide (xs.length ≤ 4) := by
  simp only [decide_eq_decide]
  omega
theorem impl_rowOk {r : List T_impl_Value} (h : SmR r) : impl_RowOk r = some (rowOk r) := by
  unfold impl_RowOk rowOk
  rw [impl_rowAny h, Option.bind_some, not_any_not, le4]
  cases decide (r.length ≤ 4) <;> simp
def fits (c : T_impl_Column) (v : T_impl_Value) : Bool := v.fKind == c.fKind || (v.fKind == 0 && c.fEmpty)
def rowFits (cs : List T_impl_Column) (r : List T_impl_Value) : Bool := colsOk cs && (rowOk r && (r.length == cs.length && (r.zip cs).all fun p => fits p.2 p.1))
theorem zip_get {α β : Type} {xs : List α} {ys : List β} (h : xs.length = ys.length) {i : Nat} {p : α × β} (hp : (xs.zip ys)[i]? = some p) : xs[i]? = some p.1 ∧ ys[i]? = some p.2 := by
  rw [List.getElem?_zip_eq_some] at hp
  exact hp
theorem spec_rowFits {cs : List T_impl_Column} {r : List T_impl_Value} (hc : Sm cs.length) (h : SmR r) : spec_RowFits cs r = some (rowFits cs r) := by
  unfold spec_RowFits rowFits
  rw [spec_colsOk hc, Option.bind_some, spec_rowOk h, Option.bind_some]
  cases colsOk cs
  · rfl
  · cases rowOk r
    · rfl
    · by_cases he : r.length = cs.length
      · have e1 : ((r.length : Int) == (cs.length : Int)) = true := by simp [he]
        have e2 : (r.length == cs.length) = true := by simp [he]
        rw [e1, e2]
        simp only [Bool.not_true, cond_false, spec_RowFits_j0, Bool.true_and]
        have hl := h.1
        have hz : (r.zip cs).length = r.length := by simp [he]
        rw [show (r.zip cs).all (fun p => fits p.2 p.1) = ((r.zip cs).all (fun p => fits p.2 p.1) && true) by simp]
        refine loop_all (xs := r.zip cs) (by omega) (fun f i p hi hp hw => ?_) (fun f => ?_)
        · obtain ⟨p1, p2⟩ := zip_get he hp
          have : (i : Int) < r.length := by omega
          simp only [spec_RowFits_l1, this, decide_true, cond_true, getI_nat, p1, p2, Option.bind_some, spec_RowFits_j2, hw, fits]
          cases p.1.fKind == p.2.fKind <;> cases p.1.fKind == 0 <;> cases p.2.fEmpty <;> rfl
        · rw [hz]
          simp only [spec_RowFits_l1, Int.lt_irrefl, decide_false, cond_false]
      · have e1 : ((r.length : Int) == (cs.length : Int)) = false := by
          simp only [beq_eq_false_iff_ne, ne_eq]
          omega
        have e2 : (r.length == cs.length) = false := by simp [he]
        rw [e1, e2]
        rfl
theorem impl_rowFits {cs : List T_impl_Column} {r : List T_impl_Value} (hc : Sm cs.length) (h : SmR r) : impl_RowFits cs r = some (rowFits cs r) := by
  unfold impl_RowFits rowFits
  rw [impl_colsOk hc, Option.bind_some, impl_rowOk h, Option.bind_some]
  cases colsOk cs
  · rfl
  · cases rowOk r
    · rfl
    · by_cases he : r.length = cs.length
      · have e1 : ((r.length : Int) == (cs.length : Int)) = true := by simp [he]
        have e2 : (r.length == cs.length) = true := by simp [he]
        rw [e1, e2]
        simp only [Bool.not_true, cond_false, impl_RowFits_j0, Bool.true_and]
        have hl := h.1
        have hz : (r.zip cs).length = r.length := by simp [he]
        rw [show (r.zip cs).all (fun p => fits p.2 p.1) = ((r.zip cs).all (fun p => fits p.2 p.1) && true) by simp]
        refine loop_all (xs := r.zip cs) (by omega) (fun f i p hi hp hw => ?_) (fun f => ?_)
        · obtain ⟨p1, p2⟩ := zip_get he hp
          have : (i : Int) < r.length := by omega
          simp only [impl_RowFits_l1, this, decide_true, cond_true, getI_nat, p1, p2, Option.bind_some, impl_RowFits_j2, hw, fits]
          cases p.1.fKind == p.2.fKind <;> cases p.1.fKind == 0 <;> cases p.2.fEmpty <;> rfl
        · rw [hz]
          simp only [impl_RowFits_l1, Int.lt_irrefl, decide_false, cond_false]
      · have e1 : ((r.length : Int) == (cs.length : Int)) = false := by
          simp only [beq_eq_false_iff_ne, ne_eq]
          omega
        have e2 : (r.length == cs.length) = false := by simp [he]
        rw [e1, e2]
        rfl
def SmRs (rs : List (List T_impl_Value)) : Prop := Sm rs.length ∧ ∀ r ∈ rs, SmR r
def rowsOk (cs : List T_impl_Column) (rs : List (List T_impl_Value)) : Bool := colsOk cs && rs.all (rowFits cs)
end Go.D
set_option linter.unusedVariables false
namespace Go.D
theorem g2 {α : Type} {xs : List α} (a b : α) : getI (xs ++ [a, b]) (xs.length : Int) = some a := by
  rw [getI_nat]
  simp
theorem g3 {α : Type} {xs : List α} (b : α) : getI (xs ++ [b]) (xs.length : Int) = some b := by
  rw [getI_nat]
  simp
theorem wm1 : w64 (-1) = -1 := w64_of (by omega) (by omega)
section
variable {α : Type} {xs : List α} (h : xs.length ≤ 2097152)
include h
theorem g1 (a b : α) : getI (xs ++ [a, b]) (w64 (((xs ++ [a, b]).length : Int) - 1)) = some b := by
  have e : (((xs ++ [a, b]).length : Int) - 1) = ((xs.length + 1 : Nat) : Int) := by simp only [List.length_append, List.length_cons, List.length_nil]; omega
  rw [e, w64_of (by omega) (by omega), getI_nat]
  simp
theorem sl_pre {ys : List α} {n : Int} (hn : n = (xs.length : Int)) : slI (xs ++ ys) none (some n) none = some xs := by
  subst hn
  unfold slI
  rw [if_pos]
  · simp
  · simp only [Option.getD_none, Option.getD_some, List.length_append]
    omega
theorem sl_post {ys : List α} {n : Int} (hn : n = (xs.length : Int)) : slI (xs ++ ys) (some n) none none = some ys := by
  subst hn
  unfold slI
  rw [if_pos]
  · simp only [Option.getD_none, Option.getD_some, Int.toNat_natCast, List.drop_left, List.length_append]
    rw [List.take_of_length_le (by omega)]
  · simp only [Option.getD_none, Option.getD_some, List.length_append]
    omega
theorem max0 {n : Int} (hn : n = (xs.length : Int)) : maxL n [0] = (xs.length : Int) := by
  subst hn
  unfold maxL maxL
  rw [if_neg (by omega)]
theorem len2 (a b : α) : w64 (((xs ++ [a, b]).length : Int) - 2) = (xs.length : Int) := by
  rw [w64_of] <;> simp <;> omega
theorem len1 (b : α) : w64 (((xs ++ [b]).length : Int) - 1) = (xs.length : Int) := by
  rw [w64_of] <;> simp <;> omega
theorem len0 : w64 ((xs.length : Int) - 0) = (xs.length : Int) := by
  rw [w64_of] <;> omega
theorem ap_pre {ys : List α} (k : α) : appT (xs ++ ys) [k] xs.length = some (xs ++ [k]) := by
  unfold appT
  rw [if_pos (by simp; omega)]
  simp
theorem ap_all (k : α) : app xs [k] = some (xs ++ [k]) := app_lt (by simp; omega)
end
def zeroV (v : T_impl_Value) : Bool := eq_T_impl_Value v ((T_impl_Value.mk 0 0 (ByteArray.mk #[])))
def exprStep (cs : List T_impl_Column) (rs : List Int) (p : T_impl_Part) : Option (List Int) :=
  if p.fKind = 1 then bif p.fN == 0 && (valOk p.fV && !(p.fV.fKind == 0)) then some (p.fV.fKind :: rs) else none
  else if p.fKind = 2 then bif zeroV p.fV && inR p.fN 0 ((cs.length : Int) - 1) then (getI cs p.fN).map fun c => c.fKind :: rs else none
  else if p.fKind = 3 then bif zeroV p.fV && p.fN == 0 then (match rs with
    | b :: a :: r => bif b == 1 && a == 1 then some (1 :: r) else none
    | _ => none) else none
  else if p.fKind = 4 then bif zeroV p.fV && inR p.fN 1 4 then (match rs with
    | b :: a :: r => bif b == a then some (3 :: r) else none
    | _ => none) else none
  else if p.fKind = 5 ∨ p.fKind = 6 then bif zeroV p.fV && p.fN == 0 then (match rs with
    | b :: a :: r => bif b == 3 && a == 3 then some (3 :: r) else none
    | _ => none) else none
  else if p.fKind = 7 then bif zeroV p.fV && p.fN == 0 then (match rs with
    | b :: r => bif b == 3 then some (3 :: r) else none
    | _ => none) else none
  else if p.fKind = 8 then bif zeroV p.fV && p.fN == 0 then (match rs with
    | b :: r => some (3 :: r)
    | _ => none) else none
  else none
def exprRun (cs : List T_impl_Column) : List T_impl_Part → List Int → Int
  | [], rs => match rs with
    | [k] => k
    | _ => -1
  | p :: ps, rs => match exprStep cs rs p with
    | none => -1
    | some rs' => exprRun cs ps rs'
def SmP (p : T_impl_Part) : Prop := SmV p.fV
theorem exprStep_len {cs : List T_impl_Column} {rs rs' : List Int} {p : T_impl_Part} (h : exprStep cs rs p = some rs') : rs'.length ≤ rs.length + 1 := by
  unfold exprStep at h
  have hb : ∀ {c : Bool} {a : Option (List Int)}, (bif c then a else none) = some rs' → a = some rs' := fun {c a} h => by cases c <;> simp_all
  split at h
  · have := hb h
    cases this
    simp
  split at h
  · have := hb h
    simp only [Option.map_eq_some_iff] at this
    obtain ⟨_, _, rfl⟩ := this
    simp
  split at h
  · have := hb h
    split at this
    · cases hb this
      simp <;> omega
    · cases this
  split at h
  · have := hb h
    split at this
    · cases hb this
      simp <;> omega
    · cases this
  split at h
  · have := hb h
    split at this
    · cases hb this
      simp <;> omega
    · cases this
  split at h
  · have := hb h
    split at this
    · cases hb this
      simp
    · cases this
  split at h
  · have := hb h
    split at this
    · cases this
      simp
    · cases this
  · cases h
theorem stack_cases {α : Type} (rs : List α) : rs = [] ∨ (∃ b, rs = [b]) ∨ ∃ b a r, rs = b :: a :: r := by
  match rs with
  | [] => exact .inl rfl
  | [b] => exact .inr (.inl ⟨b, rfl⟩)
  | b :: a :: r => exact .inr (.inr ⟨b, a, r, rfl⟩)
theorem kind_cases (k : Int) : k = 1 ∨ k = 2 ∨ k = 3 ∨ k = 4 ∨ k = 5 ∨ k = 6 ∨ k = 7 ∨ k = 8 ∨ (k ≠ 1 ∧ k ≠ 2 ∧ k ≠ 3 ∧ k ≠ 4 ∧ k ≠ 5 ∧ k ≠ 6 ∧ k ≠ 7 ∧ k ≠ 8) := by omega
section
variable {α : Type} {xs : List α}
theorem gt1 (a b : α) : decide (((xs ++ [a, b]).length : Int) > 1) = true := by simp; omega
theorem gt0 (b : α) : decide (((xs ++ [b]).length : Int) > 0) = true := by simp only [List.length_append, List.length_cons, List.length_nil, decide_eq_true_eq]; omega
theorem lt2 (a b : α) : decide (((xs ++ [a, b]).length : Int) < 2) = false := by simp; omega
theorem lt1 (b : α) : decide (((xs ++ [b]).length : Int) < 1) = false := by simp; omega
theorem lt0 : decide ((xs.length : Int) < 0) = false := by simp only [decide_eq_false_iff_not]; omega
theorem rev2 (a b : α) (r : List α) : (b :: a :: r).reverse = r.reverse ++ [a, b] := by simp
theorem rev1 (b : α) (r : List α) : (b :: r).reverse = r.reverse ++ [b] := by simp
end
theorem low2 {xs : List Int} (h : xs.length ≤ 1) : slI xs none (some (maxL (w64 ((xs.length : Int) - 2)) [0])) none = some [] := by
  rw [w64_of (by omega) (by omega)]
  unfold maxL maxL
  rw [if_pos (by omega)]
  unfold slI
  simp
theorem apt0 (xs : List Int) (k : Int) : appT xs [k] ([] : List Int).length = some [k] := by
  unfold appT
  simp
theorem j2_low {xs : List Int} (h : xs.length ≤ 1) (b : Bool) : spec_l4Step_j2 xs b = some ([1], b) := by
  unfold spec_l4Step_j2
  rw [low2 h, Option.bind_some, apt0, Option.bind_some]
theorem j3_low {xs : List Int} (h : xs.length ≤ 1) (b : Bool) : spec_l4Step_j3 xs b = some ([3], b) := by
  unfold spec_l4Step_j3
  rw [low2 h, Option.bind_some, apt0, Option.bind_some]
theorem j5_low {xs : List Int} (h : xs.length ≤ 1) (b : Bool) : spec_l4Step_j5 xs b = some ([3], b) := by
  unfold spec_l4Step_j5
  rw [low2 h, Option.bind_some, apt0, Option.bind_some]
def SpecStep (cs : List T_impl_Column) (rs : List Int) (p : T_impl_Part) : Prop := match exprStep cs rs p with
  | some rs' => spec_l4Step cs rs.reverse p = some (rs'.reverse, true)
  | none => ∃ s, spec_l4Step cs rs.reverse p = some (s, false)
theorem spec_step {cs : List T_impl_Column} {rs : List Int} {p : T_impl_Part} (hc : Sm cs.length) (hr : rs.length ≤ 2000000) (hp : SmP p) : SpecStep cs rs p := by
  obtain ⟨k, n, v⟩ := p
  have hv : spec_ValueOk v = some (valOk v) := spec_value hp
  have hz : eq_T_impl_Value v ((T_impl_Value.mk 0 0 (ByteArray.mk #[]))) = zeroV v := rfl
  have hw : w64 ((cs.length : Int) - 1) = (cs.length : Int) - 1 := w64_of (by omega) (by omega)
  unfold SpecStep
  rcases kind_cases k with rfl | rfl | rfl | rfl | rfl | rfl | rfl | rfl | hk
  · have ha : app rs.reverse [v.fKind] = some (rs.reverse ++ [v.fKind]) := ap_all (by simp; omega) _
    simp only [exprStep, spec_l4Step, spec_l4Step_j0, spec_l4Step_j1, hz, hv, hw, spec_in, Option.bind_some, ha]
    cases n == 0 <;> cases valOk v <;> cases v.fKind == 0 <;> simp
  · simp only [exprStep, spec_l4Step, spec_l4Step_j0, hz, hw, spec_in, Option.bind_some]
    cases zeroV v
    · simp
    · cases hi : inR n 0 ((cs.length : Int) - 1) with
      | false => simp
      | true =>
        unfold inR at hi
        simp only [Bool.and_eq_true, decide_eq_true_eq] at hi
        obtain ⟨c, h1, h2⟩ := getI_lt (xs := cs) hi.1 (by omega)
        have ha : app rs.reverse [c.fKind] = some (rs.reverse ++ [c.fKind]) := ap_all (by simp; omega) _
        simp [h1, ha]
  · rcases stack_cases rs with rfl | ⟨b, rfl⟩ | ⟨b, a, r, rfl⟩
    · simp [exprStep, spec_l4Step, spec_l4Step_j0, j2_low, hz, spec_in, Option.bind]
      cases n == 0 <;> cases zeroV v <;> simp
    · simp [exprStep, spec_l4Step, spec_l4Step_j0, j2_low, hz, spec_in, Option.bind]
      cases n == 0 <;> cases zeroV v <;> simp
    · have hx : r.reverse.length ≤ 2097152 := by simp at hr ⊢; omega
      simp only [exprStep, spec_l4Step, spec_l4Step_j0, spec_l4Step_j2, hz, spec_in, rev2, g1 hx, len2 hx, g2, gt1, max0 hx rfl, sl_pre hx rfl, ap_pre hx, Option.bind_some]
      cases n == 0 <;> cases zeroV v <;> cases b == 1 <;> cases a == 1 <;> simp
  · rcases stack_cases rs with rfl | ⟨b, rfl⟩ | ⟨b, a, r, rfl⟩
    · simp [exprStep, spec_l4Step, spec_l4Step_j0, j3_low, hz, spec_in, Option.bind]
      cases inR n 1 4 <;> cases zeroV v <;> simp
    · simp [exprStep, spec_l4Step, spec_l4Step_j0, j3_low, hz, spec_in, Option.bind]
      cases inR n 1 4 <;> cases zeroV v <;> simp
    · have hx : r.reverse.length ≤ 2097152 := by simp at hr ⊢; omega
      simp only [exprStep, spec_l4Step, spec_l4Step_j0, spec_l4Step_j3, hz, spec_in, rev2, g1 hx, len2 hx, g2, gt1, max0 hx rfl, sl_pre hx rfl, ap_pre hx, Option.bind_some]
      cases inR n 1 4 <;> cases zeroV v <;> cases b == a <;> simp
  · rcases stack_cases rs with rfl | ⟨b, rfl⟩ | ⟨b, a, r, rfl⟩
    · simp [exprStep, spec_l4Step, spec_l4Step_j0, spec_l4Step_j4, j5_low, hz, spec_in, Option.bind]
      cases n == 0 <;> cases zeroV v <;> simp
    · simp [exprStep, spec_l4Step, spec_l4Step_j0, spec_l4Step_j4, j5_low, hz, spec_in, Option.bind]
      cases n == 0 <;> cases zeroV v <;> simp
    · have hx : r.reverse.length ≤ 2097152 := by simp at hr ⊢; omega
      simp only [exprStep, spec_l4Step, spec_l4Step_j0, spec_l4Step_j4, spec_l4Step_j5, hz, spec_in, rev2, g1 hx, len2 hx, g2, gt1, max0 hx rfl, sl_pre hx rfl, ap_pre hx, Option.bind_some]
      cases n == 0 <;> cases zeroV v <;> cases b == 3 <;> cases a == 3 <;> simp
  · rcases stack_cases rs with rfl | ⟨b, rfl⟩ | ⟨b, a, r, rfl⟩
    · simp [exprStep, spec_l4Step, spec_l4Step_j0, spec_l4Step_j4, j5_low, hz, spec_in, Option.bind]
      cases n == 0 <;> cases zeroV v <;> simp
    · simp [exprStep, spec_l4Step, spec_l4Step_j0, spec_l4Step_j4, j5_low, hz, spec_in, Option.bind]
      cases n == 0 <;> cases zeroV v <;> simp
    · have hx : r.reverse.length ≤ 2097152 := by simp at hr ⊢; omega
      simp only [exprStep, spec_l4Step, spec_l4Step_j0, spec_l4Step_j4, spec_l4Step_j5, hz, spec_in, rev2, g1 hx, len2 hx, g2, gt1, max0 hx rfl, sl_pre hx rfl, ap_pre hx, Option.bind_some]
      cases n == 0 <;> cases zeroV v <;> cases b == 3 <;> cases a == 3 <;> simp
  · rcases rs with _ | ⟨b, r⟩
    · simp [exprStep, spec_l4Step, spec_l4Step_j0, spec_l4Step_j4, hz]
    · have hx : r.reverse.length ≤ 2097152 := by simp at hr ⊢; omega
      simp only [exprStep, spec_l4Step, spec_l4Step_j0, spec_l4Step_j4, hz, rev1, len1 hx, g3, gt0, max0 hx rfl, sl_pre hx rfl, ap_pre hx, Option.bind_some]
      cases n == 0 <;> cases zeroV v <;> cases hb : b == 3 <;> simp_all
  · rcases rs with _ | ⟨b, r⟩
    · simp [exprStep, spec_l4Step, spec_l4Step_j0, spec_l4Step_j4, hz, wm1, appT, maxL, slI]
      cases n == 0 <;> cases zeroV v <;> simp
    · have hx : r.reverse.length ≤ 2097152 := by simp at hr ⊢; omega
      simp only [exprStep, spec_l4Step, spec_l4Step_j0, spec_l4Step_j4, hz, rev1, len1 hx, g3, gt0, max0 hx rfl, sl_pre hx rfl, ap_pre hx, Option.bind_some]
      cases n == 0 <;> cases zeroV v <;> simp
  · obtain ⟨h1, h2, h3, h4, h5, h6, h7, h8⟩ := hk
    have b1 : (k == 1) = false := by simp [h1]
    have b2 : (k == 2) = false := by simp [h2]
    have b3 : (k == 3) = false := by simp [h3]
    have b4 : (k == 4) = false := by simp [h4]
    have b5 : (k == 5) = false := by simp [h5]
    have b6 : (k == 6) = false := by simp [h6]
    have b7 : (k == 7) = false := by simp [h7]
    have b8 : (k == 8) = false := by simp [h8]
    simp only [exprStep, h1, h2, h3, h4, h5, h6, h7, h8, if_false, or_self, spec_l4Step, spec_l4Step_j0, spec_l4Step_j4, b1, b2, b3, b4, b5, b6, b7, b8, hz]
    cases zeroV v <;> cases n == 0 <;> simp
end Go.D
set_option linter.unusedVariables false
namespace Go.D
def exprKind (cs : List T_impl_Column) (ps : List T_impl_Part) : Int := bif colsOk cs && decide (ps.length ≤ 12) then exprRun cs ps [] else -1
theorem gt12 {α : Type} (xs : List α) : decide ((xs.length : Int) > 12) = !(decide (xs.length ≤ 12)) := by
  by_cases h : xs.length ≤ 12
  · have : ¬ (xs.length : Int) > 12 := by omega
    simp [h, this]
  · have : (xs.length : Int) > 12 := by omega
    simp [h, this]
theorem fin_run (st : List Int) (cs : List T_impl_Column) : (bif !((st.length : Int) == 1) then some (-1) else (getI st 0).bind fun v => some v) = some (exprRun cs [] st.reverse) := by
  match st with
  | [] => rfl
  | [k] => rfl
  | a :: b :: r =>
    have e : (((a :: b :: r).length : Int) == 1) = false := by
      simp only [beq_eq_false_iff_ne, ne_eq, List.length_cons]
      omega
    rw [e]
    unfold exprRun
    split
    · next k hk =>
      have := congrArg List.length hk
      simp at this
    · rfl
theorem spec_exprKind {cs : List T_impl_Column} {ps : List T_impl_Part} (hc : Sm cs.length) (hl : ps.length ≤ 2097152) (hp : ∀ p ∈ ps, SmP p) : spec_ExprKind cs ps = some (exprKind cs ps) := by
  unfold spec_ExprKind exprKind
  rw [spec_colsOk hc, Option.bind_some, gt12]
  cases colsOk cs
  · rfl
  cases h12 : decide (ps.length ≤ 12)
  · rfl
  have h12 : ps.length ≤ 12 := of_decide_eq_true h12
  simp only [Bool.not_true, cond_false, Bool.true_and, cond_true, spec_ExprKind_j0]
  have := loop_rec (xs := ps) (L := fun f i (s : Bool × List Int) => spec_ExprKind_l1 cs ps f s.1 i s.2) (fun ps s => bif s.1 then exprRun cs ps s.2.reverse else -1) (fun i s => s.1 = true → s.2.length ≤ i) (by omega)
    (fun f i s v rest hi hv hw hI => by
      obtain ⟨ok, st⟩ := s
      have hlt : (i : Int) < ps.length := by omega
      cases ok with
      | false =>
        refine .inl ?_
        simp only [spec_ExprKind_l1, hlt, decide_true, cond_true, spec_ExprKind_j2, cond_false, Bool.not_false, spec_ExprKind_j3]
      | true =>
        have hst := hI rfl
        have hs : SpecStep cs st.reverse v := spec_step hc (by simp; simp only at hst; omega) (hp v (List.mem_of_getElem? hv))
        unfold SpecStep at hs
        simp only [List.reverse_reverse] at hs
        refine .inr ?_
        cases he : exprStep cs st.reverse v with
        | none =>
          rw [he] at hs
          obtain ⟨s', hs⟩ := hs
          refine ⟨(false, s'), (fun h => by cases h), ?_, ?_⟩
          · simp only [spec_ExprKind_l1, hlt, decide_true, cond_true, spec_ExprKind_j2, getI_nat, hv, Option.bind_some, hs, hw]
          · simp only [cond_true, cond_false, exprRun, he]
        | some rs' =>
          rw [he] at hs
          have hs : spec_l4Step cs st v = some (rs'.reverse, true) := hs
          refine ⟨(true, rs'.reverse), fun _ => ?_, ?_, ?_⟩
          · have := exprStep_len he
            simp only [List.length_reverse] at this ⊢
            simp only at hst
            omega
          · simp only [spec_ExprKind_l1, hlt, decide_true, cond_true, spec_ExprKind_j2, getI_nat, hv, Option.bind_some, hs, hw]
          · simp only [cond_true, exprRun, he, List.reverse_reverse])
    (fun f s hI => by
      obtain ⟨ok, st⟩ := s
      simp only [spec_ExprKind_l1, Int.lt_irrefl, decide_false, cond_false, spec_ExprKind_j2]
      cases ok with
      | false => rfl
      | true =>
        simp only [Bool.not_true, cond_false, spec_ExprKind_j3, cond_true]
        exact fin_run st cs) (s := (true, [])) (fun _ => by simp)
  exact this
theorem impl_allk (k : Int) {xs : List Int} (h : xs.length ≤ 2097152) : impl_Part_kind_1 k xs = some (xs.all (· == k)) := by
  unfold impl_Part_kind_1 slices_ContainsFunc_int_int slices_IndexFunc_int_int
  obtain ⟨r, h1, h2⟩ := loop_find (xs := xs) (L := slices_IndexFunc_int_int_l0 xs (fun z0 => impl_Part_kind_1_1 z0 k)) (p := fun z => !(z == k)) (by omega) (fun f i v hi hv hw => by
    have : (i : Int) < xs.length := by omega
    simp only [slices_IndexFunc_int_int_l0, this, decide_true, cond_true, getI_nat, hv, Option.bind_some, impl_Part_kind_1_1, hw]) (fun f => by
    simp only [slices_IndexFunc_int_int_l0, Int.lt_irrefl, decide_false, cond_false])
  rw [h1, Option.bind_some, Option.bind_some, h2, not_any_not]
def ImplStep (cs : List T_impl_Column) (rs : List Int) (p : T_impl_Part) (x4 : Int) (K : Int → List Int → Option Int) : Prop :=
  ((impl_Part_takes p).bind fun v11 => (impl_Part_tells p cs).bind fun v24 => bif (!v24) then impl_ExprKind_j2 cs x4 rs.reverse K p v11 true else impl_ExprKind_j2 cs x4 rs.reverse K p v11 ((decide (((rs.reverse.length : Int)) < v11)))) =
    match exprStep cs rs p with
    | none => some (-1)
    | some rs' => K (w64 (x4 + 1)) rs'.reverse
theorem pre_all {xs : List Int} (h : xs.length ≤ 2097152) : slI xs none (some (w64 ((xs.length : Int) - 0))) none = some xs := by
  rw [len0 h]
  have := sl_pre (ys := []) h rfl
  rwa [List.append_nil] at this
theorem post_all {xs : List Int} (h : xs.length ≤ 2097152) : slI xs (some (w64 ((xs.length : Int) - 0))) none none = some [] := by
  rw [len0 h]
  have := sl_post (ys := []) h rfl
  rwa [List.append_nil] at this
theorem ap_full {xs : List Int} (h : xs.length ≤ 2097152) (k : Int) : appT xs [k] xs.length = some (xs ++ [k]) := by
  have := ap_pre (ys := []) h k
  rwa [List.append_nil] at this
theorem get0 (a b : Int) : getI [a, b] 0 = some a := rfl
theorem get1 (a b : Int) : getI [a, b] 1 = some b := rfl
theorem eq_comm_b (a b : Int) : (a == b) = (b == a) := by
  rw [Bool.eq_iff_iff, beq_iff_eq, beq_iff_eq]
  exact eq_comm
theorem impl_step {cs : List T_impl_Column} {rs : List Int} {p : T_impl_Part} {x4 : Int} {K : Int → List Int → Option Int} (hc : Sm cs.length) (hr : rs.length ≤ 2000000) (hp : SmP p) : ImplStep cs rs p x4 K := by
  obtain ⟨k, n, v⟩ := p
  have hv : impl_Value_ok v = some (valOk v) := impl_value hp
  have hz : eq_T_impl_Value v ((T_impl_Value.mk 0 0 (ByteArray.mk #[]))) = zeroV v := rfl
  have hw : w64 ((cs.length : Int) - 1) = (cs.length : Int) - 1 := w64_of (by omega) (by omega)
  have hxr : rs.reverse.length ≤ 2097152 := by simp; omega
  unfold ImplStep
  rcases kind_cases k with rfl | rfl | rfl | rfl | rfl | rfl | rfl | rfl | hk
  · simp only [exprStep, impl_Part_takes, impl_Part_takes_j0, impl_Part_takes_j1, impl_Part_tells, impl_Part_tells_j0, impl_ExprKind_j2, hv, hz, hw, impl_in, impl_Part_kind, Option.bind_some]
    cases n == 0 <;> cases valOk v <;> cases v.fKind == 0 <;> simp [-List.length_reverse, -Int.sub_zero, -List.length_append, -List.length_cons, -List.length_nil, lt0, post_all hxr, pre_all hxr, ap_full hxr]
  · simp only [exprStep, impl_Part_takes, impl_Part_takes_j0, impl_Part_takes_j1, impl_Part_tells, impl_Part_tells_j0, impl_ExprKind_j2, hv, hz, hw, impl_in, impl_Part_kind, Option.bind_some]
    cases zeroV v
    · cases inR n 0 ((cs.length : Int) - 1) <;> simp [-List.length_reverse, -Int.sub_zero, -List.length_append, -List.length_cons, -List.length_nil, lt0, post_all hxr, pre_all hxr, ap_full hxr]
    · cases hi : inR n 0 ((cs.length : Int) - 1) with
      | false => simp [-List.length_reverse, -Int.sub_zero, -List.length_append, -List.length_cons, -List.length_nil, lt0, post_all hxr, pre_all hxr, ap_full hxr]
      | true =>
        unfold inR at hi
        simp only [Bool.and_eq_true, decide_eq_true_eq] at hi
        obtain ⟨c, h1, h2⟩ := getI_lt (xs := cs) hi.1 (by omega)
        simp [-List.length_reverse, -Int.sub_zero, -List.length_append, -List.length_cons, -List.length_nil, lt0, post_all hxr, pre_all hxr, ap_full hxr, h1]
  · rcases stack_cases rs with rfl | ⟨b, rfl⟩ | ⟨b, a, r, rfl⟩
    · simp only [exprStep, impl_Part_takes, impl_Part_takes_j0, impl_Part_takes_j1, impl_Part_tells, impl_Part_tells_j0, impl_ExprKind_j2, hv, hz, hw, impl_in, impl_Part_kind, Option.bind_some]
      cases n == 0 <;> cases zeroV v <;> simp
    · simp only [exprStep, impl_Part_takes, impl_Part_takes_j0, impl_Part_takes_j1, impl_Part_tells, impl_Part_tells_j0, impl_ExprKind_j2, hv, hz, hw, impl_in, impl_Part_kind, Option.bind_some]
      cases n == 0 <;> cases zeroV v <;> simp
    · have hx : r.reverse.length ≤ 2097152 := by simp at hr ⊢; omega
      have hab : ([a, b] : List Int).length ≤ 2097152 := by simp
      simp only [exprStep, impl_Part_takes, impl_Part_takes_j0, impl_Part_takes_j1, impl_Part_tells, impl_Part_tells_j0, impl_ExprKind_j2, hv, hz, hw, impl_in, impl_Part_kind, Option.bind_some, rev2]
      cases n == 0 <;> cases zeroV v <;> cases ha : a == 1 <;> cases hb : b == 1 <;> simp [*, -List.length_reverse, -Int.sub_zero, -List.length_append, -List.length_cons, -List.length_nil, lt2, len2 hx, sl_pre hx rfl, sl_post hx rfl, ap_pre hx, impl_allk 1 hab, impl_allk 3 hab, get0, get1]
  · rcases stack_cases rs with rfl | ⟨b, rfl⟩ | ⟨b, a, r, rfl⟩
    · simp only [exprStep, impl_Part_takes, impl_Part_takes_j0, impl_Part_takes_j1, impl_Part_tells, impl_Part_tells_j0, impl_ExprKind_j2, hv, hz, hw, impl_in, impl_Part_kind, Option.bind_some]
      cases inR n 1 4 <;> cases zeroV v <;> simp
    · simp only [exprStep, impl_Part_takes, impl_Part_takes_j0, impl_Part_takes_j1, impl_Part_tells, impl_Part_tells_j0, impl_ExprKind_j2, hv, hz, hw, impl_in, impl_Part_kind, Option.bind_some]
      cases inR n 1 4 <;> cases zeroV v <;> simp
    · have hx : r.reverse.length ≤ 2097152 := by simp at hr ⊢; omega
      have hab : ([a, b] : List Int).length ≤ 2097152 := by simp
      simp only [exprStep, impl_Part_takes, impl_Part_takes_j0, impl_Part_takes_j1, impl_Part_tells, impl_Part_tells_j0, impl_ExprKind_j2, hv, hz, hw, impl_in, impl_Part_kind, Option.bind_some, rev2]
      cases inR n 1 4 <;> cases zeroV v <;> cases hb : b == a <;> simp [*, -List.length_reverse, -Int.sub_zero, -List.length_append, -List.length_cons, -List.length_nil, lt2, len2 hx, sl_pre hx rfl, sl_post hx rfl, ap_pre hx, impl_allk 1 hab, impl_allk 3 hab, get0, get1, eq_comm_b a b]
  · rcases stack_cases rs with rfl | ⟨b, rfl⟩ | ⟨b, a, r, rfl⟩
    · simp only [exprStep, impl_Part_takes, impl_Part_takes_j0, impl_Part_takes_j1, impl_Part_tells, impl_Part_tells_j0, impl_ExprKind_j2, hv, hz, hw, impl_in, impl_Part_kind, Option.bind_some]
      cases n == 0 <;> cases zeroV v <;> simp
    · simp only [exprStep, impl_Part_takes, impl_Part_takes_j0, impl_Part_takes_j1, impl_Part_tells, impl_Part_tells_j0, impl_ExprKind_j2, hv, hz, hw, impl_in, impl_Part_kind, Option.bind_some]
      cases n == 0 <;> cases zeroV v <;> simp
    · have hx : r.reverse.length ≤ 2097152 := by simp at hr ⊢; omega
      have hab : ([a, b] : List Int).length ≤ 2097152 := by simp
      simp only [exprStep, impl_Part_takes, impl_Part_takes_j0, impl_Part_takes_j1, impl_Part_tells, impl_Part_tells_j0, impl_ExprKind_j2, hv, hz, hw, impl_in, impl_Part_kind, Option.bind_some, rev2]
      cases n == 0 <;> cases zeroV v <;> cases ha : a == 3 <;> cases hb : b == 3 <;> simp [*, -List.length_reverse, -Int.sub_zero, -List.length_append, -List.length_cons, -List.length_nil, lt2, len2 hx, sl_pre hx rfl, sl_post hx rfl, ap_pre hx, impl_allk 1 hab, impl_allk 3 hab, get0, get1]
  · rcases stack_cases rs with rfl | ⟨b, rfl⟩ | ⟨b, a, r, rfl⟩
    · simp only [exprStep, impl_Part_takes, impl_Part_takes_j0, impl_Part_takes_j1, impl_Part_tells, impl_Part_tells_j0, impl_ExprKind_j2, hv, hz, hw, impl_in, impl_Part_kind, Option.bind_some]
      cases n == 0 <;> cases zeroV v <;> simp
    · simp only [exprStep, impl_Part_takes, impl_Part_takes_j0, impl_Part_takes_j1, impl_Part_tells, impl_Part_tells_j0, impl_ExprKind_j2, hv, hz, hw, impl_in, impl_Part_kind, Option.bind_some]
      cases n == 0 <;> cases zeroV v <;> simp
    · have hx : r.reverse.length ≤ 2097152 := by simp at hr ⊢; omega
      have hab : ([a, b] : List Int).length ≤ 2097152 := by simp
      simp only [exprStep, impl_Part_takes, impl_Part_takes_j0, impl_Part_takes_j1, impl_Part_tells, impl_Part_tells_j0, impl_ExprKind_j2, hv, hz, hw, impl_in, impl_Part_kind, Option.bind_some, rev2]
      cases n == 0 <;> cases zeroV v <;> cases ha : a == 3 <;> cases hb : b == 3 <;> simp [*, -List.length_reverse, -Int.sub_zero, -List.length_append, -List.length_cons, -List.length_nil, lt2, len2 hx, sl_pre hx rfl, sl_post hx rfl, ap_pre hx, impl_allk 1 hab, impl_allk 3 hab, get0, get1]
  · rcases rs with _ | ⟨b, r⟩
    · simp only [exprStep, impl_Part_takes, impl_Part_takes_j0, impl_Part_takes_j1, impl_Part_tells, impl_Part_tells_j0, impl_ExprKind_j2, hv, hz, hw, impl_in, impl_Part_kind, Option.bind_some]
      cases n == 0 <;> cases zeroV v <;> simp
    · have hx : r.reverse.length ≤ 2097152 := by simp at hr ⊢; omega
      have hab : ([b] : List Int).length ≤ 2097152 := by simp
      simp only [exprStep, impl_Part_takes, impl_Part_takes_j0, impl_Part_takes_j1, impl_Part_tells, impl_Part_tells_j0, impl_ExprKind_j2, hv, hz, hw, impl_in, impl_Part_kind, Option.bind_some, rev1]
      cases n == 0 <;> cases zeroV v <;> cases hb : b == 3 <;> simp [*, -List.length_reverse, -Int.sub_zero, -List.length_append, -List.length_cons, -List.length_nil, lt1, len1 hx, sl_pre hx rfl, sl_post hx rfl, ap_pre hx, impl_allk 3 hab]
  · rcases rs with _ | ⟨b, r⟩
    · simp only [exprStep, impl_Part_takes, impl_Part_takes_j0, impl_Part_takes_j1, impl_Part_tells, impl_Part_tells_j0, impl_ExprKind_j2, hv, hz, hw, impl_in, impl_Part_kind, Option.bind_some]
      cases n == 0 <;> cases zeroV v <;> simp
    · have hx : r.reverse.length ≤ 2097152 := by simp at hr ⊢; omega
      have hab : ([b] : List Int).length ≤ 2097152 := by simp
      simp only [exprStep, impl_Part_takes, impl_Part_takes_j0, impl_Part_takes_j1, impl_Part_tells, impl_Part_tells_j0, impl_ExprKind_j2, hv, hz, hw, impl_in, impl_Part_kind, Option.bind_some, rev1]
      cases n == 0 <;> cases zeroV v <;> cases hb : b == 3 <;> simp [*, -List.length_reverse, -Int.sub_zero, -List.length_append, -List.length_cons, -List.length_nil, lt1, len1 hx, sl_pre hx rfl, sl_post hx rfl, ap_pre hx, impl_allk 3 hab]
  · obtain ⟨h1, h2, h3, h4, h5, h6, h7, h8⟩ := hk
    have b1 : (k == 1) = false := by simp [h1]
    have b2 : (k == 2) = false := by simp [h2]
    have b3 : (k == 3) = false := by simp [h3]
    have b4 : (k == 4) = false := by simp [h4]
    have b5 : (k == 5) = false := by simp [h5]
    have b6 : (k == 6) = false := by simp [h6]
    have b7 : (k == 7) = false := by simp [h7]
    have b8 : (k == 8) = false := by simp [h8]
    simp only [h1, h2, h3, h4, h5, h6, h7, h8, if_false, or_self, b1, b2, b3, b4, b5, b6, b7, b8, exprStep, impl_Part_takes, impl_Part_takes_j0, impl_Part_takes_j1, impl_Part_tells, impl_Part_tells_j0, impl_ExprKind_j2, hv, hz, hw, impl_in, impl_Part_kind, Option.bind_some]
    rfl
theorem impl_exprKind {cs : List T_impl_Column} {ps : List T_impl_Part} (hc : Sm cs.length) (hl : ps.length ≤ 2097152) (hp : ∀ p ∈ ps, SmP p) : impl_ExprKind cs ps = some (exprKind cs ps) := by
  unfold impl_ExprKind exprKind
  rw [impl_colsOk hc, Option.bind_some, gt12]
  cases colsOk cs
  · rfl
  cases h12 : decide (ps.length ≤ 12)
  · rfl
  have h12 : ps.length ≤ 12 := of_decide_eq_true h12
  simp only [Bool.not_true, cond_false, Bool.true_and, cond_true, impl_ExprKind_j0]
  have := loop_rec (xs := ps) (L := fun f i (s : List Int) => impl_ExprKind_l1 cs ps f i s) (fun ps s => exprRun cs ps s.reverse) (fun i s => s.length ≤ i) (by omega)
    (fun f i st v rest hi hv hw hI => by
      have hlt : (i : Int) < ps.length := by omega
      have hs : ImplStep cs st.reverse v i (impl_ExprKind_l1 cs ps f) := impl_step hc (by simp; omega) (hp v (List.mem_of_getElem? hv))
      unfold ImplStep at hs
      rw [List.reverse_reverse, hw] at hs
      have e : impl_ExprKind_l1 cs ps (f + 1) i st = match exprStep cs st.reverse v with
        | none => some (-1)
        | some rs' => impl_ExprKind_l1 cs ps f ((i + 1 : Nat) : Int) rs'.reverse := by
        rw [← hs]
        simp only [impl_ExprKind_l1, hlt, decide_true, cond_true, getI_nat, hv, Option.bind_some]
      cases he : exprStep cs st.reverse v with
      | none =>
        refine .inl ?_
        rw [he] at e
        simp only [exprRun, he]
        exact e
      | some rs' =>
        rw [he] at e
        refine .inr ⟨rs'.reverse, ?_, e, ?_⟩
        · have := exprStep_len he
          simp only [List.length_reverse] at this ⊢
          omega
        · simp only [exprRun, he, List.reverse_reverse])
    (fun f st hI => by
      simp only [impl_ExprKind_l1, Int.lt_irrefl, decide_false, cond_false]
      exact fin_run st cs) (s := []) (by simp)
  exact this
end Go.D
set_option linter.unusedVariables false
namespace Go.D
end Go.D
set_option linter.unusedVariables false
namespace Go.D
end Go.D
set_option linter.unusedVariables false
namespace Go.D
theorem bifSome {α : Type} {c : Bool} {a : Option α} {y : α} (h : (bif c then a else none) = some y) : c = true ∧ a = some y := by
  cases c with
  | false => cases h
  | true => exact ⟨rfl, h⟩
theorem loop_opt {α σ β : Type} {xs : List α} {L : Nat → Int → σ → Option β} (R : List α → σ → Option β) (Inv : Nat → σ → Prop) (hlen : xs.length ≤ 70368744177662)
    (h : ∀ (f i : Nat) (s : σ) (v : α), i < xs.length → xs[i]? = some v → w64 ((i : Int) + 1) = ((i + 1 : Nat) : Int) → Inv i s →
      L (f + 1) i s = R (v :: xs.drop (i + 1)) s ∨ ∃ s', Inv (i + 1) s' ∧ L (f + 1) i s = L f ((i + 1 : Nat) : Int) s' ∧ R (v :: xs.drop (i + 1)) s = R (xs.drop (i + 1)) s')
    (he : ∀ f s, Inv xs.length s → L (f + 1) (xs.length : Int) s = R [] s) {s : σ} (h0 : Inv 0 s) : L FUEL 0 s = R xs s := by
  have main : ∀ (k f i : Nat) (s : σ), i + k = xs.length → k < f → Inv i s → L f (i : Int) s = R (xs.drop i) s := by
    intro k
    induction k with
    | zero =>
      intro f i s hi hf hI
      obtain ⟨f, rfl⟩ : ∃ f', f = f' + 1 := ⟨f - 1, by omega⟩
      have : i = xs.length := by omega
      subst this
      rw [he _ _ hI, List.drop_length]
    | succ k ih =>
      intro f i s hi hf hI
      obtain ⟨f, rfl⟩ : ∃ f', f = f' + 1 := ⟨f - 1, by omega⟩
      have hlt : i < xs.length := by omega
      rw [List.drop_eq_getElem_cons hlt]
      rcases h f i s xs[i] hlt (List.getElem?_eq_getElem hlt) (succ_w hlt (by omega)) hI with h1 | ⟨s', h1, h2, h3⟩
      · exact h1
      · rw [h2, h3]
        exact ih f (i + 1) s' (by omega) (by omega) h1
  have := main xs.length FUEL 0 s (by omega) (by unfold FUEL; omega) h0
  simpa using this
end Go.D
set_option linter.unusedVariables false
namespace Go.D
open Go.Proofs
theorem rd_3 : Rd Tryz.prog 3 Int intW := rd_int Tryz.underlying3 (by kernel_rfl)
theorem rd_4 : Rd Tryz.prog 4 Bool boolW := rd_bool Tryz.underlying4 (by kernel_rfl)
def W_T_laws_Column (x : T_laws_Column) : Prop := intW x.fKind ∧ boolW x.fEmpty
theorem spl_115 (cs : List Value) (hc : cs.length = 2) : cs = (cs.drop 0).take 1 ++ ((cs.drop 1).take 1) := by
  match cs, hc with
  | [c0, c1], _ => rfl
theorem rd_115 : Rd Tryz.prog 115 T_laws_Column W_T_laws_Column := ⟨by kernel_rfl, fun H enc w base sp held fuel cs x h => by
  obtain ⟨xs, n, _, rfl, hl, hlen, hf⟩ := DataW.trod_struct Tryz.underlying115 h
  match xs, hlen, hf with
  | [z0, z1], _, hf =>
  obtain ⟨y0, h0, w0⟩ := (rd_3).2 H enc w base sp held n _ _ (hf 0 _ rfl)
  obtain ⟨y1, h1, w1⟩ := (rd_4).2 H enc w base sp held n _ _ (hf 1 _ rfl)
  refine ⟨⟨y0, y1⟩, ?_, w0, w1⟩
  have hc : cs.length = 2 := hl.trans (by kernel_rfl)
  have h0 : FrL w (fun _ => False) (Enc.cells y0) ((cs.drop 0).take (Tryz.prog.cellsOf 3)) := h0
  rw [rd_3.1] at h0
  have k0 : FrL w (fun _ => False) (Enc.cells y0) ((cs.drop 0).take 1) := h0
  have h1 : FrL w (fun _ => False) (Enc.cells y1) ((cs.drop 1).take (Tryz.prog.cellsOf 4)) := h1
  rw [rd_4.1] at h1
  have k1 : FrL w (fun _ => False) (Enc.cells y1) ((cs.drop 1).take 1) := h1
  rw [spl_115 cs hc]
  exact (FrL.append k0 k1)⟩
theorem rd_49 : Rd Tryz.prog 49 (List T_laws_Column) (listW W_T_laws_Column) := rd_slice Tryz.underlying49 (by kernel_rfl) rd_115
theorem rd_9 : Rd Tryz.prog 9 ByteArray strW := rd_str Tryz.underlying9 (by kernel_rfl)
def W_T_laws_Value (x : T_laws_Value) : Prop := intW x.fKind ∧ intW x.fN ∧ strW x.fS
theorem spl_106 (cs : List Value) (hc : cs.length = 3) : cs = (cs.drop 0).take 1 ++ ((cs.drop 1).take 1 ++ ((cs.drop 2).take 1)) := by
  match cs, hc with
  | [c0, c1, c2], _ => rfl
theorem rd_106 : Rd Tryz.prog 106 T_laws_Value W_T_laws_Value := ⟨by kernel_rfl, fun H enc w base sp held fuel cs x h => by
  obtain ⟨xs, n, _, rfl, hl, hlen, hf⟩ := DataW.trod_struct Tryz.underlying106 h
  match xs, hlen, hf with
  | [z0, z1, z2], _, hf =>
  obtain ⟨y0, h0, w0⟩ := (rd_3).2 H enc w base sp held n _ _ (hf 0 _ rfl)
  obtain ⟨y1, h1, w1⟩ := (rd_3).2 H enc w base sp held n _ _ (hf 1 _ rfl)
  obtain ⟨y2, h2, w2⟩ := (rd_9).2 H enc w base sp held n _ _ (hf 2 _ rfl)
  refine ⟨⟨y0, y1, y2⟩, ?_, w0, w1, w2⟩
  have hc : cs.length = 3 := hl.trans (by kernel_rfl)
  have h0 : FrL w (fun _ => False) (Enc.cells y0) ((cs.drop 0).take (Tryz.prog.cellsOf 3)) := h0
  rw [rd_3.1] at h0
  have k0 : FrL w (fun _ => False) (Enc.cells y0) ((cs.drop 0).take 1) := h0
  have h1 : FrL w (fun _ => False) (Enc.cells y1) ((cs.drop 1).take (Tryz.prog.cellsOf 3)) := h1
  rw [rd_3.1] at h1
  have k1 : FrL w (fun _ => False) (Enc.cells y1) ((cs.drop 1).take 1) := h1
  have h2 : FrL w (fun _ => False) (Enc.cells y2) ((cs.drop 2).take (Tryz.prog.cellsOf 9)) := h2
  rw [rd_9.1] at h2
  have k2 : FrL w (fun _ => False) (Enc.cells y2) ((cs.drop 2).take 1) := h2
  rw [spl_106 cs hc]
  exact (FrL.append k0 (FrL.append k1 k2))⟩
theorem rd_24 : Rd Tryz.prog 24 (List T_laws_Value) (listW W_T_laws_Value) := rd_slice Tryz.underlying24 (by kernel_rfl) rd_106
theorem rd_50 : Rd Tryz.prog 50 (List (List T_laws_Value)) (listW (listW W_T_laws_Value)) := rd_slice Tryz.underlying50 (by kernel_rfl) rd_24
theorem rd_51 : Rd Tryz.prog 51 (List Bool) (listW boolW) := rd_slice Tryz.underlying51 (by kernel_rfl) rd_4
def W_T_laws_Batch (x : T_laws_Batch) : Prop := (listW (listW W_T_laws_Value)) x.fColumns ∧ (listW boolW) x.fPicked
theorem spl_53 (cs : List Value) (hc : cs.length = 2) : cs = (cs.drop 0).take 1 ++ ((cs.drop 1).take 1) := by
  match cs, hc with
  | [c0, c1], _ => rfl
theorem rd_53 : Rd Tryz.prog 53 T_laws_Batch W_T_laws_Batch := ⟨by kernel_rfl, fun H enc w base sp held fuel cs x h => by
  obtain ⟨xs, n, _, rfl, hl, hlen, hf⟩ := DataW.trod_struct Tryz.underlying53 h
  match xs, hlen, hf with
  | [z0, z1], _, hf =>
  obtain ⟨y0, h0, w0⟩ := (rd_50).2 H enc w base sp held n _ _ (hf 0 _ rfl)
  obtain ⟨y1, h1, w1⟩ := (rd_51).2 H enc w base sp held n _ _ (hf 1 _ rfl)
  refine ⟨⟨y0, y1⟩, ?_, w0, w1⟩
  have hc : cs.length = 2 := hl.trans (by kernel_rfl)
  have h0 : FrL w (fun _ => False) (Enc.cells y0) ((cs.drop 0).take (Tryz.prog.cellsOf 50)) := h0
  rw [rd_50.1] at h0
  have k0 : FrL w (fun _ => False) (Enc.cells y0) ((cs.drop 0).take 1) := h0
  have h1 : FrL w (fun _ => False) (Enc.cells y1) ((cs.drop 1).take (Tryz.prog.cellsOf 51)) := h1
  rw [rd_51.1] at h1
  have k1 : FrL w (fun _ => False) (Enc.cells y1) ((cs.drop 1).take 1) := h1
  rw [spl_53 cs hc]
  exact (FrL.append k0 k1)⟩
def W_T_laws_Part (x : T_laws_Part) : Prop := intW x.fKind ∧ intW x.fN ∧ W_T_laws_Value x.fV
theorem spl_108 (cs : List Value) (hc : cs.length = 5) : cs = (cs.drop 0).take 1 ++ ((cs.drop 1).take 1 ++ ((cs.drop 2).take 3)) := by
  match cs, hc with
  | [c0, c1, c2, c3, c4], _ => rfl
theorem rd_108 : Rd Tryz.prog 108 T_laws_Part W_T_laws_Part := ⟨by kernel_rfl, fun H enc w base sp held fuel cs x h => by
  obtain ⟨xs, n, _, rfl, hl, hlen, hf⟩ := DataW.trod_struct Tryz.underlying108 h
  match xs, hlen, hf with
  | [z0, z1, z2], _, hf =>
  obtain ⟨y0, h0, w0⟩ := (rd_3).2 H enc w base sp held n _ _ (hf 0 _ rfl)
  obtain ⟨y1, h1, w1⟩ := (rd_3).2 H enc w base sp held n _ _ (hf 1 _ rfl)
  obtain ⟨y2, h2, w2⟩ := (rd_106).2 H enc w base sp held n _ _ (hf 2 _ rfl)
  refine ⟨⟨y0, y1, y2⟩, ?_, w0, w1, w2⟩
  have hc : cs.length = 5 := hl.trans (by kernel_rfl)
  have h0 : FrL w (fun _ => False) (Enc.cells y0) ((cs.drop 0).take (Tryz.prog.cellsOf 3)) := h0
  rw [rd_3.1] at h0
  have k0 : FrL w (fun _ => False) (Enc.cells y0) ((cs.drop 0).take 1) := h0
  have h1 : FrL w (fun _ => False) (Enc.cells y1) ((cs.drop 1).take (Tryz.prog.cellsOf 3)) := h1
  rw [rd_3.1] at h1
  have k1 : FrL w (fun _ => False) (Enc.cells y1) ((cs.drop 1).take 1) := h1
  have h2 : FrL w (fun _ => False) (Enc.cells y2) ((cs.drop 2).take (Tryz.prog.cellsOf 106)) := h2
  rw [rd_106.1] at h2
  have k2 : FrL w (fun _ => False) (Enc.cells y2) ((cs.drop 2).take 3) := h2
  rw [spl_108 cs hc]
  exact (FrL.append k0 (FrL.append k1 k2))⟩
theorem rd_54 : Rd Tryz.prog 54 (List T_laws_Part) (listW W_T_laws_Part) := rd_slice Tryz.underlying54 (by kernel_rfl) rd_108
end Go.D
set_option linter.unusedVariables false
namespace Go.D
def Ok_Column (x : T_laws_Column) : Prop := True
def c_Column (x : T_laws_Column) : T_impl_Column := ⟨x.fKind, x.fEmpty⟩
theorem to_Column (x : T_laws_Column) (h : Ok_Column x) : laws_toColumn x = some (c_Column x) := rfl
def OkI_Column (x : T_impl_Column) : Prop := True
theorem eq_Column (x : T_impl_Column) (h : OkI_Column x) : laws_eqColumn x x = some true := by
  unfold laws_eqColumn
  simp only [beq_self_eq_true, Bool.not_true, cond_false]
theorem sz_ColumnS : SzP laws_szColumnS (listW W_T_laws_Column) (okL Ok_Column) := sz_flat (fun _ => trivial) (fun _ h => h.1) (fun _ _ => rfl)
theorem to_ColumnS (xs : List T_laws_Column) (h : (okL Ok_Column) xs) : laws_toColumnS xs = some (xs.map c_Column) := to_loop (S := laws_toColumnS) (L := laws_toColumnS_l0) to_Column (fun _ => rfl) (fun _ _ _ _ => rfl) xs h
theorem eq_ColumnS (xs : List T_impl_Column) (h : (okL OkI_Column) xs) : laws_eqColumnS xs xs = some true := eq_loop (S := laws_eqColumnS) (L := laws_eqColumnS_l0) eq_Column (fun _ _ => rfl) (fun _ _ _ _ => rfl) xs h
def Ok_Value (x : T_laws_Value) : Prop := x.fS.size ≤ 1048576
theorem sz_Value : SzP laws_szValue W_T_laws_Value Ok_Value := by
  have h := sz_one (z := laws_szValue) (W := W_T_laws_Value) (fun x => x.fS.size) (fun x h => h.2.2) (fun x n => by unfold laws_szValue; rfl)
  exact h
def c_Value (x : T_laws_Value) : T_impl_Value := ⟨x.fKind, x.fN, x.fS⟩
theorem to_Value (x : T_laws_Value) (h : Ok_Value x) : laws_toValue x = some (c_Value x) := rfl
def OkI_Value (x : T_impl_Value) : Prop := True
theorem eq_Value (x : T_impl_Value) (h : OkI_Value x) : laws_eqValue x x = some true := by
  unfold laws_eqValue
  simp only [beq_self_eq_true, Bool.not_true, cond_false]
theorem sz_ValueS : SzP laws_szValueS (listW W_T_laws_Value) (okL Ok_Value) := sz_loop sz_Value (fun _ _ => rfl) (fun _ _ _ _ => rfl)
theorem to_ValueS (xs : List T_laws_Value) (h : (okL Ok_Value) xs) : laws_toValueS xs = some (xs.map c_Value) := to_loop (S := laws_toValueS) (L := laws_toValueS_l0) to_Value (fun _ => rfl) (fun _ _ _ _ => rfl) xs h
theorem eq_ValueS (xs : List T_impl_Value) (h : (okL OkI_Value) xs) : laws_eqValueS xs xs = some true := eq_loop (S := laws_eqValueS) (L := laws_eqValueS_l0) eq_Value (fun _ _ => rfl) (fun _ _ _ _ => rfl) xs h
theorem sz_ValueSS : SzP laws_szValueSS (listW (listW W_T_laws_Value)) (okL (okL Ok_Value)) := sz_loop sz_ValueS (fun _ _ => rfl) (fun _ _ _ _ => rfl)
theorem to_ValueSS (xs : List (List T_laws_Value)) (h : (okL (okL Ok_Value)) xs) : laws_toValueSS_D xs = some (xs.map (List.map c_Value)) := to_loop (S := laws_toValueSS_D) (L := laws_toValueSS_D_l0) to_ValueS (fun _ => rfl) (fun _ _ _ _ => rfl) xs h
theorem eq_ValueSS (xs : List (List T_impl_Value)) (h : (okL (okL OkI_Value)) xs) : laws_eqValueSS xs xs = some true := eq_loop (S := laws_eqValueSS) (L := laws_eqValueSS_l0) eq_ValueS (fun _ _ => rfl) (fun _ _ _ _ => rfl) xs h
theorem sz_BoolS : SzP laws_szBoolS (listW boolW) (okL (fun _ => True)) := sz_flat (fun _ => trivial) (fun _ h => h.1) (fun _ _ => rfl)
theorem to_BoolS (xs : List Bool) (h : (okL (fun _ => True)) xs) : laws_toBoolS xs = some xs := by
  have := to_loop (c := fun x => x) (t := some) (S := laws_toBoolS) (L := laws_toBoolS_l0) (fun _ _ => rfl) (fun _ => rfl) (fun _ _ _ _ => rfl) xs h
  rwa [show xs.map (fun x => x) = xs from List.map_id xs] at this
theorem eq_BoolS (xs : List Bool) (h : (okL (fun _ => True)) xs) : laws_eqBoolS xs xs = some true := eq_loop (S := laws_eqBoolS) (L := laws_eqBoolS_l0) (e := fun x y => some (x == y)) (fun x _ => congrArg some (beq_self_eq_true x)) (fun _ _ => rfl) (fun _ _ _ _ => rfl) xs h
def Ok_Batch (x : T_laws_Batch) : Prop := (okL (okL Ok_Value)) x.fColumns ∧ (okL (fun _ => True)) x.fPicked
theorem sz_Batch : SzP laws_szBatch W_T_laws_Batch Ok_Batch := by
  intro x n hW h0 hn
  obtain ⟨w0, w1⟩ := hW
  unfold laws_szBatch Ok_Batch
  obtain ⟨r0, e0, k0⟩ := sz_ValueSS x.fColumns n w0 (by omega) (by omega)
  rw [e0, Option.bind_some]
  rcases k0 with k0 | ⟨p0, q0, o0⟩
  · exact ⟨-1, by rw [decide_eq_true k0, cond_true], .inl (by omega)⟩
  rw [decide_eq_false (show ¬ r0 < 0 by omega), cond_false]
  obtain ⟨r1, e1, k1⟩ := sz_BoolS x.fPicked r0 w1 (by omega) (by omega)
  rw [e1, Option.bind_some]
  rcases k1 with k1 | ⟨p1, q1, o1⟩
  · exact ⟨-1, by rw [decide_eq_true k1, cond_true], .inl (by omega)⟩
  rw [decide_eq_false (show ¬ r1 < 0 by omega), cond_false]
  exact ⟨r1, rfl, .inr ⟨by omega, by omega, o0, o1⟩⟩
def c_Batch (x : T_laws_Batch) : T_impl_Batch := ⟨(x.fColumns.map (List.map c_Value)), x.fPicked⟩
theorem to_Batch (x : T_laws_Batch) (h : Ok_Batch x) : laws_toBatch_D x = some (c_Batch x) := by
  unfold laws_toBatch_D
  rw [to_ValueSS x.fColumns h.1, Option.bind_some, to_BoolS x.fPicked h.2, Option.bind_some]
  rfl
def OkI_Batch (x : T_impl_Batch) : Prop := (okL (okL OkI_Value)) x.fColumns ∧ (okL (fun _ => True)) x.fPicked
theorem eq_Batch (x : T_impl_Batch) (h : OkI_Batch x) : laws_eqBatch x x = some true := by
  unfold laws_eqBatch
  simp only [beq_self_eq_true, Bool.not_true, cond_false, eq_ValueSS x.fColumns h.1, eq_BoolS x.fPicked h.2, Option.bind_some]
def Ok_Part (x : T_laws_Part) : Prop := Ok_Value x.fV
theorem sz_Part : SzP laws_szPart W_T_laws_Part Ok_Part := by
  intro x n hW h0 hn
  obtain ⟨w0, w1, w2⟩ := hW
  unfold laws_szPart Ok_Part
  obtain ⟨r0, e0, k0⟩ := sz_Value x.fV n w2 (by omega) (by omega)
  rw [e0, Option.bind_some]
  rcases k0 with k0 | ⟨p0, q0, o0⟩
  · exact ⟨-1, by rw [decide_eq_true k0, cond_true], .inl (by omega)⟩
  rw [decide_eq_false (show ¬ r0 < 0 by omega), cond_false]
  exact ⟨r0, rfl, .inr ⟨by omega, by omega, o0⟩⟩
def c_Part (x : T_laws_Part) : T_impl_Part := ⟨x.fKind, x.fN, (c_Value x.fV)⟩
theorem to_Part (x : T_laws_Part) (h : Ok_Part x) : laws_toPart x = some (c_Part x) := by
  unfold laws_toPart
  rw [to_Value x.fV h, Option.bind_some]
  rfl
def OkI_Part (x : T_impl_Part) : Prop := OkI_Value x.fV
theorem eq_Part (x : T_impl_Part) (h : OkI_Part x) : laws_eqPart x x = some true := by
  unfold laws_eqPart
  simp only [beq_self_eq_true, Bool.not_true, cond_false, eq_Value x.fV h, Option.bind_some]
theorem sz_PartS : SzP laws_szPartS (listW W_T_laws_Part) (okL Ok_Part) := sz_loop sz_Part (fun _ _ => rfl) (fun _ _ _ _ => rfl)
theorem to_PartS (xs : List T_laws_Part) (h : (okL Ok_Part) xs) : laws_toPartS xs = some (xs.map c_Part) := to_loop (S := laws_toPartS) (L := laws_toPartS_l0) to_Part (fun _ => rfl) (fun _ _ _ _ => rfl) xs h
theorem eq_PartS (xs : List T_impl_Part) (h : (okL OkI_Part) xs) : laws_eqPartS xs xs = some true := eq_loop (S := laws_eqPartS) (L := laws_eqPartS_l0) eq_Part (fun _ _ => rfl) (fun _ _ _ _ => rfl) xs h
end Go.D
set_option linter.unusedVariables false
namespace Go.D
theorem sm_value {v : T_laws_Value} (h : Ok_Value v) : SmV (c_Value v) := Nat.le_trans h (by omega)
theorem okL_map {α β : Type} {ok : α → Prop} {ok' : β → Prop} {f : α → β} (hf : ∀ x, ok x → ok' (f x)) {xs : List α} (h : okL ok xs) : okL ok' (xs.map f) :=
  ⟨by rw [List.length_map]; exact h.1, fun y hy => by
    obtain ⟨x, hx, rfl⟩ := List.mem_map.1 hy
    exact hf x (h.2 x hx)⟩
theorem okL_sm {α : Type} {ok : α → Prop} {xs : List α} (h : okL ok xs) : Sm xs.length := Nat.le_trans h.1 (by omega)
theorem sm_row {r : List T_laws_Value} (h : okL Ok_Value r) : SmR (r.map c_Value) := ⟨okL_sm (okL_map (ok' := fun _ => True) (fun _ _ => trivial) h), (okL_map (ok' := SmV) (fun _ => sm_value) h).2⟩
theorem sm_rows {r : List (List T_laws_Value)} (h : okL (okL Ok_Value) r) : SmRs (r.map (List.map c_Value)) := ⟨okL_sm (okL_map (ok' := fun _ => True) (fun _ _ => trivial) h), (okL_map (ok' := SmR) (fun _ => sm_row) h).2⟩
end Go.D
set_option linter.unusedVariables false
namespace Go.D
def N0 : T_impl_Value := T_impl_Value.mk 0 0 (ByteArray.mk #[])
def sumV (a b : T_impl_Value) : T_impl_Value := bif a.fKind == 0 || (b.fKind == 0 || !(inR (w64 (a.fN + b.fN)) (-9999) 9999)) then N0 else ⟨1, w64 (a.fN + b.fN), ByteArray.mk #[]⟩
theorem spec_sum (a b : T_impl_Value) : spec_l4Sum a b = some (sumV a b) := by
  unfold spec_l4Sum sumV spec_l4Sum_j0 N0
  simp only [spec_in, Option.bind_some]
  cases a.fKind == 0 <;> cases b.fKind == 0 <;> cases inR (w64 (a.fN + b.fN)) (-9999) 9999 <;> rfl
def cmpI (a b : Int) : Int := if a < b then -1 else if a > b then 1 else 0
def cmpS (a b : ByteArray) : Int := bif Op.bytesLess a.toList b.toList then -1 else bif !Op.bytesLess a.toList b.toList && !(a.toList == b.toList) then 1 else 0
def ordV (a b : T_impl_Value) : Int := if cmpI a.fKind b.fKind ≠ 0 then cmpI a.fKind b.fKind else if cmpI a.fN b.fN ≠ 0 then cmpI a.fN b.fN else cmpS a.fS b.fS
theorem impl_cmpI (a b : Int) : cmp_Compare_int a b = some (cmpI a b) := by
  unfold cmp_Compare_int cmp_isNaN_int cmpI
  simp only [beq_self_eq_true, Bool.not_true, Option.bind_some, cond_false]
  by_cases h : a < b
  · simp [h]
  · by_cases h2 : a > b
    · simp [h, h2]
    · simp [h, h2]
theorem impl_cmpS (a b : ByteArray) : cmp_Compare_string a b = some (cmpS a b) := by
  unfold cmp_Compare_string cmp_isNaN_string cmpS
  simp only [beq_self_eq_true, Bool.not_true, Option.bind_some, cond_false]
  cases Op.bytesLess a.toList b.toList <;> cases a.toList == b.toList <;> rfl
theorem fuel4 : ∃ F, FUEL = F + 1 + 1 + 1 + 1 := by
  have h : 4 ≤ FUEL := by unfold FUEL; omega
  exact ⟨FUEL - 4, by omega⟩
theorem impl_or3 (a b c : Int) : cmp_Or_int [a, b, c] = some (if a ≠ 0 then a else if b ≠ 0 then b else c) := by
  obtain ⟨F, hF⟩ := fuel4
  unfold cmp_Or_int
  rw [hF]
  have w3 : w64 (0 + 1) = 1 := w64_of (by omega) (by omega)
  have w4 : w64 (1 + 1) = 2 := w64_of (by omega) (by omega)
  have w5 : w64 (2 + 1) = 3 := w64_of (by omega) (by omega)
  have i0 : getI [a, b, c] 0 = some a := rfl
  have i1 : getI [a, b, c] 1 = some b := rfl
  have i2 : getI [a, b, c] 2 = some c := rfl
  have l0 : decide ((0 : Int) < (([a, b, c] : List Int).length : Int)) = true := rfl
  have l1 : decide ((1 : Int) < (([a, b, c] : List Int).length : Int)) = true := rfl
  have l2 : decide ((2 : Int) < (([a, b, c] : List Int).length : Int)) = true := rfl
  have l3 : decide ((3 : Int) < (([a, b, c] : List Int).length : Int)) = false := rfl
  rw [cmp_Or_int_l0, l0, cond_true, i0, Option.bind_some, w3, cmp_Or_int_l0, l1, cond_true, i1, Option.bind_some, w4, cmp_Or_int_l0, l2, cond_true, i2, Option.bind_some, w5, cmp_Or_int_l0, l3, cond_false]
  have bf : ∀ {x : Int}, ¬ x = 0 → (x == 0) = false := fun h => by simp [h]
  by_cases ha : a = 0
  · subst ha
    by_cases hb : b = 0
    · subst hb
      by_cases hc : c = 0
      · subst hc
        rfl
      · rw [bf hc]
        simp
    · rw [bf hb]
      simp [hb]
  · rw [bf ha]
    simp [ha]
theorem impl_ord (a b : T_impl_Value) : impl_Value_order a b = some (ordV a b) := by
  unfold impl_Value_order
  simp only [impl_cmpI, impl_cmpS, impl_or3, Option.bind_some, ordV]
theorem spec_less (a b : Int) : (bif !(a == b) then (spec_l1Less b a).bind fun v => some (w64 (w64 (2 * v) - 1)) else none) = (if a = b then none else some (cmpI a b)) := by
  have w1 : w64 (w64 (2 * 1) - 1) = 1 := by rw [w64_of (n := 2 * 1) (by omega) (by omega), w64_of] <;> omega
  have w0 : w64 (w64 (2 * 0) - 1) = -1 := by rw [w64_of (n := 2 * 0) (by omega) (by omega), w64_of] <;> omega
  unfold spec_l1Less cmpI
  by_cases h : a = b
  · simp [h]
  · have e : (a == b) = false := by simp [h]
    rw [e, if_neg h, Bool.not_false, cond_true]
    by_cases h1 : b < a
    · have : ¬ a < b := by omega
      rw [decide_eq_true h1, cond_true, Option.bind_some, w1, if_neg this, if_pos h1]
    · have : a < b := by omega
      rw [decide_eq_false h1, cond_false, Option.bind_some, w0, if_pos this]
theorem cmpI_ne {a b : Int} (h : a ≠ b) : cmpI a b ≠ 0 := by
  unfold cmpI
  split
  · omega
  · split <;> omega
theorem cmpI_eq (a : Int) : cmpI a a = 0 := by simp [cmpI]
theorem spec_ord {a b : T_impl_Value} (sa : SmV a) (sb : SmV b) (ha : valOk a = true) (hb : valOk b = true) : spec_ValueOrder a b = some (ordV a b) := by
  unfold spec_ValueOrder
  rw [spec_value sa, Option.bind_some, spec_value sb, Option.bind_some, ha, hb]
  simp only [Bool.not_true, cond_false, spec_ValueOrder_j0]
  have hk := spec_less a.fKind b.fKind
  have hn := spec_less a.fN b.fN
  unfold ordV
  by_cases h1 : a.fKind = b.fKind
  · rw [if_neg (by rw [h1, cmpI_eq]; simp)]
    by_cases h2 : a.fN = b.fN
    · rw [if_neg (by rw [h2, cmpI_eq]; simp)]
      simp only [h1, h2, beq_self_eq_true, Bool.not_true, cond_false, spec_l1Cmp, cmpS]
      cases Op.bytesLess a.fS.toList b.fS.toList <;> cases a.fS.toList == b.fS.toList <;> rfl
    · rw [if_pos (cmpI_ne h2)]
      rw [if_neg h2] at hn
      have e : (a.fN == b.fN) = false := by simp [h2]
      rw [e] at hn ⊢
      simp only [h1, beq_self_eq_true, Bool.not_true, cond_false]
      exact hn
  · rw [if_pos (cmpI_ne h1)]
    rw [if_neg h1] at hk
    have e : (a.fKind == b.fKind) = false := by simp [h1]
    rw [e] at hk ⊢
    exact hk
def b2i (b : Bool) : Int := bif b then 1 else 0
theorem spec_b2i (b : Bool) : spec_l2Bool b = some (b2i b) := by cases b <;> rfl
theorem impl_b2i (b : Bool) : impl_truthIf b = some (b2i b) := by cases b <;> rfl
def cmpV (n : Int) (a b : T_impl_Value) : Int := bif inR n 1 4 && (valOk a && valOk b) then bif a.fKind == 0 || b.fKind == 0 then 2 else bif !(a.fKind == b.fKind) then -1 else
  bif n == 1 then b2i (ordV a b == 0) else bif n == 2 then b2i (!(ordV a b == 0)) else bif n == 3 then b2i (decide (ordV a b < 0)) else b2i (decide (ordV a b ≤ 0)) else -1
theorem spec_cmp {n : Int} {a b : T_impl_Value} (sa : SmV a) (sb : SmV b) : spec_Compare n a b = some (cmpV n a b) := by
  unfold spec_Compare cmpV
  rw [spec_in, Option.bind_some, spec_value sa, Option.bind_some, spec_value sb, Option.bind_some]
  cases inR n 1 4
  · rfl
  cases ha : valOk a
  · rfl
  cases hb : valOk b
  · rfl
  simp only [Bool.not_true, cond_false, Bool.and_self, cond_true, spec_Compare_j0, spec_Compare_j1, spec_ord sa sb ha hb, Option.bind_some, spec_b2i]
  cases a.fKind == 0 <;> cases b.fKind == 0 <;> cases a.fKind == b.fKind <;> cases n == 1 <;> cases n == 2 <;> cases n == 3 <;> rfl
theorem in14 {n : Int} (h : inR n 1 4 = true) : n = 1 ∨ n = 2 ∨ n = 3 ∨ n = 4 := by
  unfold inR at h
  simp only [Bool.and_eq_true, decide_eq_true_eq] at h
  omega
theorem impl_cmp {n : Int} {a b : T_impl_Value} (sa : SmV a) (sb : SmV b) : impl_Compare n a b = some (cmpV n a b) := by
  unfold impl_Compare cmpV
  rw [impl_in, Option.bind_some, impl_value sa, Option.bind_some, impl_value sb, Option.bind_some]
  cases hi : inR n 1 4
  · rfl
  cases ha : valOk a
  · rfl
  cases hb : valOk b
  · rfl
  simp only [Bool.not_true, cond_false, Bool.and_self, cond_true, impl_Compare_j0, impl_Compare_j1, impl_ord, Option.bind_some, impl_b2i]
  rcases in14 hi with rfl | rfl | rfl | rfl
  · cases a.fKind == 0 <;> cases b.fKind == 0 <;> cases a.fKind == b.fKind <;> cases ordV a b == 0 <;> rfl
  · cases a.fKind == 0 <;> cases b.fKind == 0 <;> cases a.fKind == b.fKind <;> cases ordV a b == 0 <;> rfl
  · cases a.fKind == 0 <;> cases b.fKind == 0 <;> cases a.fKind == b.fKind <;> cases decide (ordV a b < 0) <;> rfl
  · cases a.fKind == 0 <;> cases b.fKind == 0 <;> cases a.fKind == b.fKind <;> cases decide (ordV a b ≤ 0) <;> rfl
def ofV (n : Int) : T_impl_Value := bif inR n 0 1 then ⟨3, n, ByteArray.mk #[]⟩ else N0
theorem in01 (n : Int) : inR n 0 1 = (n == 0 || n == 1) := by
  rw [Bool.eq_iff_iff]
  unfold inR
  simp only [Bool.and_eq_true, decide_eq_true_eq, Bool.or_eq_true, beq_iff_eq]
  omega
theorem spec_of (n : Int) : spec_ValueOf n = some (ofV n) := by
  unfold spec_ValueOf spec_ValueOf_j0 ofV N0
  rw [in01]
  cases n == 0 <;> cases n == 1 <;> rfl
theorem impl_of (n : Int) : impl_ValueOf n = some (ofV n) := by
  unfold impl_ValueOf ofV N0
  rw [impl_in, Option.bind_some]
  cases inR n 0 1 <;> rfl
theorem ok_kinds {v : T_impl_Value} (h : valOk v = true) : v.fKind = 0 ∨ v.fKind = 1 ∨ v.fKind = 2 ∨ v.fKind = 3 := by
  unfold valOk at h
  cases h0 : v.fKind == 0
  · cases h1 : v.fKind == 1
    · cases h2 : v.fKind == 2
      · cases h3 : v.fKind == 3
        · rw [h0, h1, h2, h3] at h
          cases h
        · exact .inr (.inr (.inr (by simpa using h3)))
      · exact .inr (.inr (.inl (by simpa using h2)))
    · exact .inr (.inl (by simpa using h1))
  · exact .inl (by simpa using h0)
def truV (v : T_impl_Value) : Int := bif valOk v then bif v.fKind == 0 then 2 else bif v.fKind == 3 then v.fN else -1 else -1
theorem impl_tru {v : T_impl_Value} (h : SmV v) : impl_TruthOf v = some (truV v) := by
  unfold impl_TruthOf truV
  rw [impl_value h, Option.bind_some]
  cases valOk v <;> cases v.fKind == 0 <;> cases v.fKind == 3 <;> rfl
theorem spec_tru {v : T_impl_Value} (h : SmV v) : spec_TruthOf v = some (truV v) := by
  unfold spec_TruthOf truV
  rw [spec_value h, Option.bind_some]
  cases hv : valOk v
  · rfl
  obtain ⟨k, n, s⟩ := v
  rcases ok_kinds hv with h | h | h | h <;> simp only at h <;> subst h <;> rfl
theorem in02 {n : Int} (h : inR n 0 2 = true) : n = 0 ∨ n = 1 ∨ n = 2 := by
  unfold inR at h
  simp only [Bool.and_eq_true, decide_eq_true_eq] at h
  omega
def andV (a b : Int) : Int := (impl_AndOf a b).getD 0
def orV (a b : Int) : Int := (impl_OrOf a b).getD 0
def notV (a : Int) : Int := (impl_NotOf a).getD 0
theorem and_both (a b : Int) : spec_AndOf a b = some (andV a b) ∧ impl_AndOf a b = some (andV a b) := by
  unfold andV impl_AndOf spec_AndOf impl_fold spec_TruthOk impl_TruthOk
  simp only [spec_in, impl_in, Option.bind_some]
  cases ha : inR a 0 2
  · exact ⟨rfl, rfl⟩
  cases hb : inR b 0 2
  · exact ⟨rfl, rfl⟩
  rcases in02 ha with rfl | rfl | rfl <;> rcases in02 hb with rfl | rfl | rfl <;> exact ⟨by decide, by decide⟩
theorem or_both (a b : Int) : spec_OrOf a b = some (orV a b) ∧ impl_OrOf a b = some (orV a b) := by
  unfold orV impl_OrOf spec_OrOf impl_fold spec_TruthOk impl_TruthOk
  simp only [spec_in, impl_in, Option.bind_some]
  cases ha : inR a 0 2
  · exact ⟨rfl, rfl⟩
  cases hb : inR b 0 2
  · exact ⟨rfl, rfl⟩
  rcases in02 ha with rfl | rfl | rfl <;> rcases in02 hb with rfl | rfl | rfl <;> exact ⟨by decide, by decide⟩
theorem not_both (a : Int) : spec_NotOf a = some (notV a) ∧ impl_NotOf a = some (notV a) := by
  unfold notV spec_NotOf spec_TruthOk
  simp only [spec_in, Option.bind_some]
  cases ha : inR a 0 2
  · have h0 : (a == 0) = false := by
      cases h : a == 0 <;> simp_all [inR]
    have h1 : (a == 1) = false := by
      cases h : a == 1 <;> simp_all [inR]
    have h2 : (a == 2) = false := by
      cases h : a == 2 <;> simp_all [inR]
    unfold impl_NotOf
    rw [h0, h1, h2]
    exact ⟨rfl, rfl⟩
  rcases in02 ha with rfl | rfl | rfl <;> exact ⟨by decide, by decide⟩
end Go.D
set_option linter.unusedVariables false
namespace Go.D
def valStep (row st : List T_impl_Value) (p : T_impl_Part) : Option (List T_impl_Value) :=
  if p.fKind = 1 then some (p.fV :: st)
  else if p.fKind = 2 then (getI row p.fN).map fun v => v :: st
  else if p.fKind = 3 then (match st with | b :: a :: r => some (sumV a b :: r) | _ => none)
  else if p.fKind = 4 then (match st with | b :: a :: r => some (ofV (cmpV p.fN a b) :: r) | _ => none)
  else if p.fKind = 5 then (match st with | b :: a :: r => some (ofV (andV (truV a) (truV b)) :: r) | _ => none)
  else if p.fKind = 6 then (match st with | b :: a :: r => some (ofV (orV (truV a) (truV b)) :: r) | _ => none)
  else if p.fKind = 7 then (match st with | b :: r => some (ofV (notV (truV b)) :: r) | _ => none)
  else if p.fKind = 8 then (match st with | b :: r => some (ofV (b2i (b.fKind == 0)) :: r) | _ => none)
  else none
theorem sm_empty : Sm (ByteArray.mk #[]).size := by
  have : (ByteArray.mk #[]).size = 0 := rfl
  omega
theorem sm_sum (a b : T_impl_Value) : SmV (sumV a b) := by
  unfold sumV N0
  cases a.fKind == 0 || (b.fKind == 0 || !(inR (w64 (a.fN + b.fN)) (-9999) 9999)) <;> exact sm_empty
theorem sm_of (n : Int) : SmV (ofV n) := by
  unfold ofV N0
  cases inR n 0 1 <;> exact sm_empty
theorem v2 {rs : List Int} {st : List T_impl_Value} {b a : Int} {r : List Int} (h : rs.length = st.length) (hr : rs = b :: a :: r) : ∃ y x t, st = y :: x :: t ∧ r.length = t.length := by
  subst hr
  match st, h with
  | y :: x :: t, h => exact ⟨y, x, t, rfl, by simpa using h⟩
theorem v1 {rs : List Int} {st : List T_impl_Value} {b : Int} {r : List Int} (h : rs.length = st.length) (hr : rs = b :: r) : ∃ y t, st = y :: t ∧ r.length = t.length := by
  subst hr
  match st, h with
  | y :: t, h => exact ⟨y, t, rfl, by simpa using h⟩
structure Went (cs : List T_impl_Column) (row st : List T_impl_Value) (p : T_impl_Part) (ks' : List Int) : Prop where
  go : ∃ st', valStep row st p = some st' ∧ ks'.length = st'.length ∧ (∀ v ∈ st', SmV v) ∧ spec_l4Do row st.reverse p = some st'.reverse ∧
    ((impl_Part_takes p).bind fun v10 => (slI st.reverse (some ((w64 (((st.reverse.length : Int)) - v10)))) none none).bind fun v12 => (impl_Part_value p row v12).bind fun v14 => (slI st.reverse none (some ((w64 (((st.reverse.length : Int)) - v10)))) none).bind fun v16 => appT st.reverse (([v14] : List T_impl_Value)) v16.length) = some st'.reverse
theorem sm_cons {v : T_impl_Value} {st t : List T_impl_Value} (hv : SmV v) (h : ∀ v ∈ st, SmV v) (ht : ∀ v ∈ t, v ∈ st) : ∀ u ∈ v :: t, SmV u := by
  intro u hu
  rcases List.mem_cons.1 hu with rfl | hu
  · exact hv
  · exact h u (ht u hu)
section
variable {α : Type} {xs : List α} (h : xs.length ≤ 2097152)
include h
theorem preA : slI xs none (some (w64 ((xs.length : Int) - 0))) none = some xs := by
  rw [len0 h]
  have := sl_pre (ys := []) h rfl
  rwa [List.append_nil] at this
theorem postA : slI xs (some (w64 ((xs.length : Int) - 0))) none none = some [] := by
  rw [len0 h]
  have := sl_post (ys := []) h rfl
  rwa [List.append_nil] at this
theorem apA (k : α) : appT xs [k] xs.length = some (xs ++ [k]) := by
  have := ap_pre (ys := []) h k
  rwa [List.append_nil] at this
end
theorem ga {α : Type} (a b : α) : getI [a, b] 0 = some a := rfl
theorem gb {α : Type} (a b : α) : getI [a, b] 1 = some b := rfl
theorem gc {α : Type} (a : α) : getI [a] 0 = some a := rfl
theorem val_sum (a b : T_impl_Value) : (bif a.fKind == 0 then impl_Part_value_j0 a b true else bif b.fKind == 0 then impl_Part_value_j0 a b true else (impl_Value_ok ((T_impl_Value.mk 1 ((w64 (a.fN + b.fN))) (ByteArray.mk #[])))).bind fun v16 => impl_Part_value_j0 a b ((!v16))) = some (sumV a b) := by
  rw [impl_value (v := T_impl_Value.mk 1 ((w64 (a.fN + b.fN))) (ByteArray.mk #[])) sm_empty, Option.bind_some]
  have e : valOk (T_impl_Value.mk 1 ((w64 (a.fN + b.fN))) (ByteArray.mk #[])) = inR (w64 (a.fN + b.fN)) (-9999) 9999 := by
    unfold valOk
    have : ((1 : Int) == 0) = false := rfl
    simp only [this, beq_self_eq_true, cond_false, cond_true, Bool.and_true]
  rw [e]
  unfold sumV impl_Part_value_j0 N0
  cases a.fKind == 0 <;> cases b.fKind == 0 <;> cases inR (w64 (a.fN + b.fN)) (-9999) 9999 <;> rfl
theorem went {cs : List T_impl_Column} {row st : List T_impl_Value} {rs ks' : List Int} {p : T_impl_Part} (he : exprStep cs rs p = some ks') (hl : rs.length = st.length) (hs : st.length ≤ 2000000) (hc : row.length = cs.length)
    (hr : SmR row) (hst : ∀ v ∈ st, SmV v) (hp : SmP p) : Went cs row st p ks' := by
  obtain ⟨k, n, v⟩ := p
  have hx0 : st.reverse.length ≤ 2097152 := by rw [List.length_reverse]; omega
  rcases kind_cases k with rfl | rfl | rfl | rfl | rfl | rfl | rfl | rfl | hk
  · obtain ⟨_, h2⟩ := bifSome he
    have h2 := Option.some.inj h2
    subst h2
    refine ⟨v :: st, rfl, by simp [hl], sm_cons hp hst (fun _ h => h), ?_, ?_⟩
    · have ha : app st.reverse [v] = some (st.reverse ++ [v]) := app_lt (by rw [List.length_reverse]; simp; omega)
      simp only [spec_l4Do, ha, Option.bind_some, beq_self_eq_true, cond_true, List.reverse_cons]
    · simp [-List.length_reverse, -Int.sub_zero, impl_Part_takes, impl_Part_takes_j0, impl_Part_takes_j1, impl_Part_value, preA hx0, postA hx0, apA hx0]
  · obtain ⟨h1, h2⟩ := bifSome he
    simp only [Bool.and_eq_true] at h1
    have hi := h1.2
    unfold inR at hi
    simp only [Bool.and_eq_true, decide_eq_true_eq] at hi
    obtain ⟨c, hc1, hc2⟩ := getI_lt (xs := row) hi.1 (by omega)
    rw [Option.map_eq_some_iff] at h2
    obtain ⟨c', _, rfl⟩ := h2
    refine ⟨c :: st, ?_, by simp [hl], sm_cons (hr.2 c (List.mem_of_getElem? hc2)) hst (fun _ h => h), ?_, ?_⟩
    · simp [valStep, hc1]
    · have ha : app st.reverse [c] = some (st.reverse ++ [c]) := app_lt (by rw [List.length_reverse]; simp; omega)
      simp [spec_l4Do, hc1, ha]
    · simp [-List.length_reverse, -Int.sub_zero, impl_Part_takes, impl_Part_takes_j0, impl_Part_takes_j1, impl_Part_value, preA hx0, postA hx0, apA hx0, hc1]
  · obtain ⟨_, h2⟩ := bifSome he
    split at h2
    · next b' a' r' =>
      obtain ⟨_, h2⟩ := bifSome h2
      have h2 := Option.some.inj h2
      subst h2
      obtain ⟨b, a, t, rfl, ht⟩ := v2 hl rfl
      have hx : t.reverse.length ≤ 2097152 := by simp at hs ⊢; omega
      refine ⟨sumV a b :: t, rfl, by simp [ht], sm_cons (sm_sum a b) hst (fun u hu => by simp [hu]), ?_, ?_⟩
      · simp [-List.length_reverse, -Int.sub_zero, -List.length_append, -List.length_cons, -List.length_nil, spec_l4Do, rev2, g1 hx, len2 hx, g2, sl_pre hx rfl, ap_pre hx, spec_sum]
      · simp [-List.length_reverse, -Int.sub_zero, -List.length_append, -List.length_cons, -List.length_nil, impl_Part_takes, impl_Part_takes_j0, impl_Part_value, rev2, len2 hx, sl_pre hx rfl, sl_post hx rfl, ap_pre hx, ga, gb, val_sum]
    · cases h2
  · obtain ⟨_, h2⟩ := bifSome he
    split at h2
    · next b' a' r' =>
      obtain ⟨_, h2⟩ := bifSome h2
      have h2 := Option.some.inj h2
      subst h2
      obtain ⟨b, a, t, rfl, ht⟩ := v2 hl rfl
      have hx : t.reverse.length ≤ 2097152 := by simp at hs ⊢; omega
      have sa : SmV a := hst a (by simp)
      have sb : SmV b := hst b (by simp)
      refine ⟨ofV (cmpV n a b) :: t, rfl, by simp [ht], sm_cons (sm_of _) hst (fun u hu => by simp [hu]), ?_, ?_⟩
      · simp [-List.length_reverse, -Int.sub_zero, -List.length_append, -List.length_cons, -List.length_nil, spec_l4Do, rev2, g1 hx, len2 hx, g2, sl_pre hx rfl, ap_pre hx, spec_cmp sa sb, spec_of]
      · simp [-List.length_reverse, -Int.sub_zero, -List.length_append, -List.length_cons, -List.length_nil, impl_Part_takes, impl_Part_takes_j0, impl_Part_value, rev2, len2 hx, sl_pre hx rfl, sl_post hx rfl, ap_pre hx, ga, gb, impl_cmp sa sb, impl_of]
    · cases h2
  · obtain ⟨_, h2⟩ := bifSome he
    split at h2
    · next b' a' r' =>
      obtain ⟨_, h2⟩ := bifSome h2
      have h2 := Option.some.inj h2
      subst h2
      obtain ⟨b, a, t, rfl, ht⟩ := v2 hl rfl
      have hx : t.reverse.length ≤ 2097152 := by simp at hs ⊢; omega
      have sa : SmV a := hst a (by simp)
      have sb : SmV b := hst b (by simp)
      refine ⟨ofV (andV (truV a) (truV b)) :: t, rfl, by simp [ht], sm_cons (sm_of _) hst (fun u hu => by simp [hu]), ?_, ?_⟩
      · simp [-List.length_reverse, -Int.sub_zero, -List.length_append, -List.length_cons, -List.length_nil, spec_l4Do, rev2, g1 hx, len2 hx, g2, sl_pre hx rfl, ap_pre hx, spec_tru sa, spec_tru sb, (and_both _ _).1, spec_of]
      · simp [-List.length_reverse, -Int.sub_zero, -List.length_append, -List.length_cons, -List.length_nil, impl_Part_takes, impl_Part_takes_j0, impl_Part_value, rev2, len2 hx, sl_pre hx rfl, sl_post hx rfl, ap_pre hx, ga, gb, impl_tru sa, impl_tru sb, (and_both _ _).2, impl_of]
    · cases h2
  · obtain ⟨_, h2⟩ := bifSome he
    split at h2
    · next b' a' r' =>
      obtain ⟨_, h2⟩ := bifSome h2
      have h2 := Option.some.inj h2
      subst h2
      obtain ⟨b, a, t, rfl, ht⟩ := v2 hl rfl
      have hx : t.reverse.length ≤ 2097152 := by simp at hs ⊢; omega
      have sa : SmV a := hst a (by simp)
      have sb : SmV b := hst b (by simp)
      refine ⟨ofV (orV (truV a) (truV b)) :: t, rfl, by simp [ht], sm_cons (sm_of _) hst (fun u hu => by simp [hu]), ?_, ?_⟩
      · simp [-List.length_reverse, -Int.sub_zero, -List.length_append, -List.length_cons, -List.length_nil, spec_l4Do, rev2, g1 hx, len2 hx, g2, sl_pre hx rfl, ap_pre hx, spec_tru sa, spec_tru sb, (or_both _ _).1, spec_of]
      · simp [-List.length_reverse, -Int.sub_zero, -List.length_append, -List.length_cons, -List.length_nil, impl_Part_takes, impl_Part_takes_j0, impl_Part_value, rev2, len2 hx, sl_pre hx rfl, sl_post hx rfl, ap_pre hx, ga, gb, impl_tru sa, impl_tru sb, (or_both _ _).2, impl_of]
    · cases h2
  · obtain ⟨_, h2⟩ := bifSome he
    split at h2
    · next b' r' =>
      obtain ⟨_, h2⟩ := bifSome h2
      have h2 := Option.some.inj h2
      subst h2
      obtain ⟨b, t, rfl, ht⟩ := v1 hl rfl
      have hx : t.reverse.length ≤ 2097152 := by simp at hs ⊢; omega
      have sb : SmV b := hst b (by simp)
      refine ⟨ofV (notV (truV b)) :: t, rfl, by simp [ht], sm_cons (sm_of _) hst (fun u hu => by simp [hu]), ?_, ?_⟩
      · simp [-List.length_reverse, -Int.sub_zero, -List.length_append, -List.length_cons, -List.length_nil, spec_l4Do, rev1, len1 hx, g3, sl_pre hx rfl, ap_pre hx, spec_tru sb, (not_both _).1, spec_of]
      · simp [-List.length_reverse, -Int.sub_zero, -List.length_append, -List.length_cons, -List.length_nil, impl_Part_takes, impl_Part_takes_j0, impl_Part_takes_j1, impl_Part_value, rev1, len1 hx, sl_pre hx rfl, sl_post hx rfl, ap_pre hx, gc, impl_tru sb, (not_both _).2, impl_of]
    · cases h2
  · obtain ⟨_, h2⟩ := bifSome he
    split at h2
    · next b' r' =>
      have h2 := Option.some.inj h2
      subst h2
      obtain ⟨b, t, rfl, ht⟩ := v1 hl rfl
      have hx : t.reverse.length ≤ 2097152 := by simp at hs ⊢; omega
      refine ⟨ofV (b2i (b.fKind == 0)) :: t, rfl, by simp [ht], sm_cons (sm_of _) hst (fun u hu => by simp [hu]), ?_, ?_⟩
      · simp [-List.length_reverse, -Int.sub_zero, -List.length_append, -List.length_cons, -List.length_nil, spec_l4Do, rev1, len1 hx, g3, sl_pre hx rfl, ap_pre hx, spec_b2i, spec_of]
      · simp [-List.length_reverse, -Int.sub_zero, -List.length_append, -List.length_cons, -List.length_nil, impl_Part_takes, impl_Part_takes_j0, impl_Part_takes_j1, impl_Part_value, rev1, len1 hx, sl_pre hx rfl, sl_post hx rfl, ap_pre hx, gc, impl_b2i, impl_of]
    · cases h2
  · obtain ⟨h1, h2, h3, h4, h5, h6, h7, h8⟩ := hk
    simp only [exprStep, h1, h2, h3, h4, h5, h6, h7, h8, if_false, or_self] at he
    cases he
def valRun (row : List T_impl_Value) : List T_impl_Part → List T_impl_Value → Option T_impl_Value
  | [], st => getI st.reverse 0
  | p :: ps, st => (valStep row st p).bind fun st' => valRun row ps st'
structure Inv (cs : List T_impl_Column) (ps : List T_impl_Part) (i : Nat) (s : List T_impl_Value) : Prop where
  h : ∃ ks, exprRun cs (ps.drop i) ks = 3 ∧ ks.length = s.length ∧ s.length ≤ i ∧ ∀ v ∈ s, SmV v
theorem Inv.step {cs : List T_impl_Column} {ps : List T_impl_Part} {row : List T_impl_Value} {i : Nat} {s : List T_impl_Value} {p : T_impl_Part} (hI : Inv cs ps i s) (hi : i < ps.length) (hv : ps[i]? = some p) (hl : ps.length ≤ 2000000) (hc : row.length = cs.length) (hr : SmR row) (hp : SmP p) :
    ∃ ks', Went cs row s.reverse p ks' ∧ ∀ st', valStep row s.reverse p = some st' → ks'.length = st'.length → (∀ v ∈ st', SmV v) → Inv cs ps (i + 1) st'.reverse := by
  obtain ⟨ks, h1, h2, h3, h4⟩ := hI.h
  have e : ps.drop i = p :: ps.drop (i + 1) := by
    rw [List.drop_eq_getElem_cons hi]
    rw [List.getElem?_eq_getElem hi] at hv
    rw [Option.some.inj hv]
  rw [e] at h1
  unfold exprRun at h1
  cases he : exprStep cs ks p with
  | none => rw [he] at h1; cases h1
  | some ks' =>
    rw [he] at h1
    have h1 : exprRun cs (ps.drop (i + 1)) ks' = 3 := h1
    refine ⟨ks', went he (by rw [List.length_reverse]; exact h2) (by rw [List.length_reverse]; omega) hc hr (fun v hv => h4 v (List.mem_reverse.1 hv)) hp, fun st' _ hl' hs' => ⟨ks', h1, by rw [List.length_reverse]; exact hl', ?_, fun v hv => hs' v (List.mem_reverse.1 hv)⟩⟩
    have := exprStep_len he
    rw [List.length_reverse]
    omega
def exprVal (row : List T_impl_Value) (ps : List T_impl_Part) : T_impl_Value := (valRun row ps []).getD N0
theorem Inv.fin {cs : List T_impl_Column} {ps : List T_impl_Part} {s : List T_impl_Value} (hI : Inv cs ps ps.length s) : ∃ v, s = [v] := by
  obtain ⟨ks, h1, h2, h3, h4⟩ := hI.h
  rw [List.drop_length] at h1
  unfold exprRun at h1
  split at h1
  · match s, h2 with
    | [v], _ => exact ⟨v, rfl⟩
  · cases h1
def holds (row : List T_impl_Value) (ps : List T_impl_Part) : Bool := eq_T_impl_Value (exprVal row ps) (ofV 1)
end Go.D
set_option linter.unusedVariables false
namespace Go.D
def takesN (k : Int) : Nat := if k = 3 ∨ k = 4 ∨ k = 5 ∨ k = 6 then 2 else if k = 7 ∨ k = 8 then 1 else 0
theorem exprStep_local {cs : List T_impl_Column} {ks ks' : List Int} {p : T_impl_Part} (h : exprStep cs ks p = some ks') :
    takesN p.fKind ≤ ks.length ∧ ks'.length + takesN p.fKind = ks.length + 1 ∧ ∃ k, exprStep cs (ks.take (takesN p.fKind)) p = some [k] := by
  obtain ⟨k, n, v⟩ := p
  simp only
  rcases kind_cases k with rfl | rfl | rfl | rfl | rfl | rfl | rfl | rfl | hk
  · obtain ⟨h1, h2⟩ := bifSome h
    have h2 := Option.some.inj h2
    subst h2
    refine ⟨by simp [takesN], by simp [takesN], v.fKind, ?_⟩
    simp only [exprStep, takesN, if_true]
    rw [h1]
    rfl
  · obtain ⟨h1, h2⟩ := bifSome h
    rw [Option.map_eq_some_iff] at h2
    obtain ⟨c, hc, rfl⟩ := h2
    refine ⟨by simp [takesN], by simp [takesN], c.fKind, ?_⟩
    simp only [exprStep]
    rw [h1]
    simp [takesN, hc]
  · obtain ⟨h1, h2⟩ := bifSome h
    split at h2
    · next b a r =>
      obtain ⟨h3, h2⟩ := bifSome h2
      have h2 := Option.some.inj h2
      subst h2
      refine ⟨by simp [takesN], by simp [takesN], 1, ?_⟩
      simp only [exprStep]
      rw [h1]
      simp [takesN, h3]
    · cases h2
  · obtain ⟨h1, h2⟩ := bifSome h
    split at h2
    · next b a r =>
      obtain ⟨h3, h2⟩ := bifSome h2
      have h2 := Option.some.inj h2
      subst h2
      refine ⟨by simp [takesN], by simp [takesN], 3, ?_⟩
      simp only [exprStep]
      rw [h1]
      simp [takesN, h3]
    · cases h2
  · obtain ⟨h1, h2⟩ := bifSome h
    split at h2
    · next b a r =>
      obtain ⟨h3, h2⟩ := bifSome h2
      have h2 := Option.some.inj h2
      subst h2
      refine ⟨by simp [takesN], by simp [takesN], 3, ?_⟩
      simp only [exprStep]
      rw [h1]
      simp [takesN, h3]
    · cases h2
  · obtain ⟨h1, h2⟩ := bifSome h
    split at h2
    · next b a r =>
      obtain ⟨h3, h2⟩ := bifSome h2
      have h2 := Option.some.inj h2
      subst h2
      refine ⟨by simp [takesN], by simp [takesN], 3, ?_⟩
      simp only [exprStep]
      rw [h1]
      simp [takesN, h3]
    · cases h2
  · obtain ⟨h1, h2⟩ := bifSome h
    split at h2
    · next b r =>
      obtain ⟨h3, h2⟩ := bifSome h2
      have h2 := Option.some.inj h2
      subst h2
      refine ⟨by simp [takesN], by simp [takesN], 3, ?_⟩
      simp only [exprStep]
      rw [h1]
      simp [takesN, h3]
    · cases h2
  · obtain ⟨h1, h2⟩ := bifSome h
    split at h2
    · next b r =>
      have h2 := Option.some.inj h2
      subst h2
      refine ⟨by simp [takesN], by simp [takesN], 3, ?_⟩
      simp only [exprStep]
      rw [h1]
      simp [takesN]
    · cases h2
  · obtain ⟨h1, h2, h3, h4, h5, h6, h7, h8⟩ := hk
    simp only [exprStep, h1, h2, h3, h4, h5, h6, h7, h8, if_false, or_self] at h
    cases h
theorem beqK {a b : Int} (h : a ≠ b) : (a == b) = false := by simp [h]
theorem takes_eq (p : T_impl_Part) : impl_Part_takes p = some ((takesN p.fKind : Nat) : Int) := by
  obtain ⟨k, n, v⟩ := p
  simp only
  rcases kind_cases k with rfl | rfl | rfl | rfl | rfl | rfl | rfl | rfl | ⟨h1, h2, h3, h4, h5, h6, h7, h8⟩
  iterate 8 rfl
  simp only [impl_Part_takes, impl_Part_takes_j0, impl_Part_takes_j1, takesN, beqK h3, beqK h4, beqK h5, beqK h6, beqK h7, beqK h8, cond_false, h3, h4, h5, h6, h7, h8, or_self, if_false]
  rfl
structure Val (row : List T_impl_Value) (p : T_impl_Part) (small : List T_impl_Value) (v : T_impl_Value) : Prop where
  sm : SmV v
  spec : spec_l4Do row small p = some [v]
  impl : impl_Part_value p row small = some v
theorem val_local {cs : List T_impl_Column} {row small : List T_impl_Value} {ks ks' : List Int} {p : T_impl_Part} (h : exprStep cs ks p = some ks') (hl : small.length = takesN p.fKind) (hc : row.length = cs.length) (hr : SmR row) (hst : ∀ v ∈ small, SmV v) (hp : SmP p) :
    ∃ v, Val row p small v := by
  obtain ⟨h1, h2, k, h3⟩ := exprStep_local h
  have hs2 : small.length ≤ 2 := by
    rw [hl]
    unfold takesN
    split
    · omega
    · split <;> omega
  obtain ⟨st', e1, e2, e3, e4, e5⟩ := went (st := small.reverse) h3 (by rw [List.length_take, List.length_reverse, hl]; omega) (by rw [List.length_reverse]; omega) hc hr (fun v hv => hst v (List.mem_reverse.1 hv)) hp
  rw [List.reverse_reverse] at e4 e5
  match st', e2 with
  | [v], _ =>
    refine ⟨v, e3 v (by simp), e4, ?_⟩
    rw [takes_eq, Option.bind_some, hl] at e5
    have w : w64 (((takesN p.fKind : Nat) : Int) - ((takesN p.fKind : Nat) : Int)) = 0 := by rw [w64_of] <;> omega
    rw [w] at e5
    have s1 : slI small (some 0) none none = some small := by
      unfold slI
      rw [if_pos (by simp)]
      simp
    rw [s1, Option.bind_some] at e5
    obtain ⟨u, g1, e5⟩ := bindS e5
    obtain ⟨x, g2, e5⟩ := bindS e5
    have s2 : slI small none (some 0) none = some [] := by
      unfold slI
      rw [if_pos (by simp)]
      simp
    have : x = [] := by
      have := s2.symm.trans g2
      exact (Option.some.inj this).symm
    subst this
    have s3 : appT small [u] 0 = some [u] := by
      unfold appT
      rw [if_pos (by simp)]
      simp
    have e5 : appT small [u] 0 = some [v] := e5
    rw [s3] at e5
    have := Option.some.inj e5
    have : u = v := by simpa using this
    rw [← this]
    exact g1
theorem value_norow {p : T_impl_Part} (h : p.fKind ≠ 2) (row row' small : List T_impl_Value) : impl_Part_value p row small = impl_Part_value p row' small := by
  unfold impl_Part_value
  rw [beqK h]
  rfl
theorem loop_at {α σ β : Type} {xs : List α} {L : Nat → Int → σ → Option β} (R : List α → σ → Option β) (Inv : Nat → σ → Prop) (hlen : xs.length ≤ 70368744177662)
    (h : ∀ (f i : Nat) (s : σ) (v : α), i < xs.length → xs[i]? = some v → w64 ((i : Int) + 1) = ((i + 1 : Nat) : Int) → Inv i s →
      L (f + 1) i s = R (v :: xs.drop (i + 1)) s ∨ ∃ s', Inv (i + 1) s' ∧ L (f + 1) i s = L f ((i + 1 : Nat) : Int) s' ∧ R (v :: xs.drop (i + 1)) s = R (xs.drop (i + 1)) s')
    (he : ∀ f s, Inv xs.length s → L (f + 1) (xs.length : Int) s = R [] s) {i : Nat} (hi : i ≤ xs.length) {s : σ} (h0 : Inv i s) : L FUEL (i : Int) s = R (xs.drop i) s := by
  have main : ∀ (k f i : Nat) (s : σ), i + k = xs.length → k < f → Inv i s → L f (i : Int) s = R (xs.drop i) s := by
    intro k
    induction k with
    | zero =>
      intro f i s hi hf hI
      obtain ⟨f, rfl⟩ : ∃ f', f = f' + 1 := ⟨f - 1, by omega⟩
      have : i = xs.length := by omega
      subst this
      rw [he _ _ hI, List.drop_length]
    | succ k ih =>
      intro f i s hi hf hI
      obtain ⟨f, rfl⟩ : ∃ f', f = f' + 1 := ⟨f - 1, by omega⟩
      have hlt : i < xs.length := by omega
      rw [List.drop_eq_getElem_cons hlt]
      rcases h f i s xs[i] hlt (List.getElem?_eq_getElem hlt) (succ_w hlt (by omega)) hI with h1 | ⟨s', h1, h2, h3⟩
      · exact h1
      · rw [h2, h3]
        exact ih f (i + 1) s' (by omega) (by omega) h1
  exact main (xs.length - i) FUEL i s (by omega) (by unfold FUEL; omega) h0
end Go.D
set_option linter.unusedVariables false
namespace Go.D
theorem clip_id {α : Type} (a : List α) : slI a none (some (a.length : Int)) (some (a.length : Int)) = some a := by simp [slI]
theorem impl_cloneVR {a : List T_impl_Value} (ha : Sm a.length) : impl_clone_impl_Value_R a = some a := by
  unfold impl_clone_impl_Value_R slices_Clip_impl_Value_impl_Value_R
  cases h : ((a.length : Int)) == 0
  · rw [app_lt (by simp; omega), Option.bind_some, List.nil_append, clip_id]
    rfl
  · have : a = [] := by
      have : (a.length : Int) = 0 := by simpa using h
      exact List.eq_nil_of_length_eq_zero (by omega)
    subst this
    rfl
structure Sides (ca cb : List T_impl_Column) (ar br : List (List T_impl_Value)) (ps : List T_impl_Part) : Prop where
  sc : Sm ca.length
  sd : Sm cb.length
  sa : SmRs ar
  sb : SmRs br
  sl : Sm ps.length
  sp : ∀ p ∈ ps, SmP p
def ready (ca cb : List T_impl_Column) (ar br : List (List T_impl_Value)) (ps : List T_impl_Part) : Bool := rowsOk ca ar && (rowsOk cb br && (exprKind (ca ++ cb) ps == 3 && (decide (ar.length ≤ 30) && decide (br.length ≤ 30))))
section
variable {ca cb : List T_impl_Column} {ar br : List (List T_impl_Value)} {ps : List T_impl_Part} (h : Sides ca cb ar br ps) (hr : ready ca cb ar br ps = true)
include h hr
end
end Go.D
set_option linter.unusedVariables false
namespace Go.D
def cell (j : Nat) (c : List T_impl_Value) : T_impl_Value := (c[j]?).getD N0
def rowB (b : T_impl_Batch) (j : Nat) : List T_impl_Value := b.fColumns.map (cell j)
theorem cell_get {c : List T_impl_Value} {j : Nat} (h : j < c.length) : getI c (j : Int) = some (cell j c) := by
  rw [getI_nat]
  unfold cell
  rw [List.getElem?_eq_getElem h]
  rfl
structure SmBt (b : T_impl_Batch) : Prop where
  c : SmRs b.fColumns
  p : Sm b.fPicked.length
theorem spec_row {b : T_impl_Batch} {j : Nat} (hb : SmBt b) (hj : ∀ c ∈ b.fColumns, j < c.length) : spec_l9Row b (j : Int) = some (rowB b j) := by
  have hl := hb.c.1
  unfold spec_l9Row
  have := loop_opt (xs := b.fColumns) (L := fun f i (s : List T_impl_Value) => spec_l9Row_l0 b (j : Int) f i s) (fun rest s => some (s ++ rest.map (cell j))) (fun i s => s.length ≤ i) (by omega)
    (fun f i s c hi hc hw hI => by
      have hlt : (i : Int) < b.fColumns.length := by omega
      have hg := cell_get (hj c (List.mem_of_getElem? hc))
      refine .inr ⟨s ++ [cell j c], by simp; omega, ?_, by simp⟩
      simp only [spec_l9Row_l0, hlt, decide_true, cond_true, getI_nat (xs := b.fColumns), hc, Option.bind_some, hg, app_lt (xs := s) (ys := [cell j c]) (by simp; omega), hw])
    (fun f s hI => by simp only [spec_l9Row_l0, Int.lt_irrefl, decide_false, cond_false, List.map_nil, List.append_nil]) (s := []) (Nat.le_refl _)
  exact this
theorem impl_row {b : T_impl_Batch} {j : Nat} (hb : SmBt b) (hj : ∀ c ∈ b.fColumns, j < c.length) : impl_Batch_row b (j : Int) = some (rowB b j) := by
  have hl := hb.c.1
  unfold impl_Batch_row
  have := loop_opt (xs := b.fColumns) (L := fun f i (s : List T_impl_Value) => impl_Batch_row_l0 b (j : Int) f i s) (fun rest s => some (s ++ rest.map (cell j))) (fun i s => s.length ≤ i) (by omega)
    (fun f i s c hi hc hw hI => by
      have hlt : (i : Int) < b.fColumns.length := by omega
      have hg := cell_get (hj c (List.mem_of_getElem? hc))
      refine .inr ⟨s ++ [cell j c], by simp; omega, ?_, by simp⟩
      simp only [impl_Batch_row_l0, hlt, decide_true, cond_true, getI_nat (xs := b.fColumns), hc, Option.bind_some, hg, app_lt (xs := s) (ys := [cell j c]) (by simp; omega), hw])
    (fun f s hI => by simp only [impl_Batch_row_l0, Int.lt_irrefl, decide_false, cond_false, List.map_nil, List.append_nil]) (s := []) (Nat.le_refl _)
  exact this
structure Fit (cs : List T_impl_Column) (b : T_impl_Batch) : Prop where
  sm : SmBt b
  len : ∀ c ∈ b.fColumns, c.length = b.fPicked.length
  row : ∀ j, j < b.fPicked.length → (rowB b j).length = cs.length ∧ SmR (rowB b j)
def smallB (s : List (List T_impl_Value)) (t j : Nat) : List T_impl_Value := (s.drop (s.length - t)).map (cell j)
def valB (b : T_impl_Batch) (s : List (List T_impl_Value)) (p : T_impl_Part) (j : Nat) : T_impl_Value := (impl_Part_value p (rowB b j) (smallB s (takesN p.fKind) j)).getD N0
def newCol (b : T_impl_Batch) (s : List (List T_impl_Value)) (p : T_impl_Part) : List T_impl_Value := (List.range b.fPicked.length).map (valB b s p)
def newSt (b : T_impl_Batch) (s : List (List T_impl_Value)) (p : T_impl_Part) : List (List T_impl_Value) := s.take (s.length - takesN p.fKind) ++ [newCol b s p]
structure BInv (cs : List T_impl_Column) (ps : List T_impl_Part) (b : T_impl_Batch) (i : Nat) (s : List (List T_impl_Value)) : Prop where
  h : ∃ ks, 0 ≤ exprRun cs (ps.drop i) ks ∧ ks.length = s.length ∧ s.length ≤ i ∧ ∀ c ∈ s, c.length = b.fPicked.length ∧ ∀ v ∈ c, SmV v
structure BStep (b : T_impl_Batch) (s : List (List T_impl_Value)) (p : T_impl_Part) : Prop where
  le : takesN p.fKind ≤ s.length
  small : s.length ≤ 2000000
  len : ∀ c ∈ s, c.length = b.fPicked.length
  val : ∀ j, j < b.fPicked.length → Val (rowB b j) p (smallB s (takesN p.fKind) j) (valB b s p j)
theorem BInv.step {cs : List T_impl_Column} {ps : List T_impl_Part} {b : T_impl_Batch} {i : Nat} {s : List (List T_impl_Value)} {p : T_impl_Part} (hF : Fit cs b) (hI : BInv cs ps b i s) (hi : i < ps.length) (hv : ps[i]? = some p) (hl : ps.length ≤ 2000000) (hp : SmP p) :
    BStep b s p ∧ BInv cs ps b (i + 1) (newSt b s p) := by
  obtain ⟨ks, h1, h2, h3, h4⟩ := hI.h
  have e : ps.drop i = p :: ps.drop (i + 1) := by
    rw [List.drop_eq_getElem_cons hi]
    rw [List.getElem?_eq_getElem hi] at hv
    rw [Option.some.inj hv]
  rw [e] at h1
  unfold exprRun at h1
  cases he : exprStep cs ks p with
  | none =>
    rw [he] at h1
    have h1 : (0 : Int) ≤ -1 := h1
    omega
  | some ks' =>
    rw [he] at h1
    have h1 : 0 ≤ exprRun cs (ps.drop (i + 1)) ks' := h1
    obtain ⟨l1, l2, k, l3⟩ := exprStep_local he
    have hval : ∀ j, j < b.fPicked.length → Val (rowB b j) p (smallB s (takesN p.fKind) j) (valB b s p j) := by
      intro j hj
      have hlen : (smallB s (takesN p.fKind) j).length = takesN p.fKind := by
        unfold smallB
        rw [List.length_map, List.length_drop]
        omega
      obtain ⟨v, hV⟩ := val_local (row := rowB b j) (small := smallB s (takesN p.fKind) j) he hlen (hF.row j hj).1 (hF.row j hj).2 (fun v hv => by
        unfold smallB at hv
        obtain ⟨c, hc, rfl⟩ := List.mem_map.1 hv
        have hc' := h4 c (List.mem_of_mem_drop hc)
        unfold cell
        rw [List.getElem?_eq_getElem (by omega)]
        exact hc'.2 _ (List.getElem_mem _)) hp
      have : valB b s p j = v := by
        unfold valB
        rw [hV.impl]
        rfl
      rw [this]
      exact hV
    refine ⟨⟨by omega, by omega, fun c hc => (h4 c hc).1, hval⟩, ks', h1, ?_, ?_, ?_⟩
    · unfold newSt
      rw [List.length_append, List.length_take, List.length_singleton]
      omega
    · unfold newSt
      rw [List.length_append, List.length_take, List.length_singleton]
      omega
    · intro c hc
      unfold newSt at hc
      rcases List.mem_append.1 hc with hc | hc
      · exact h4 c (List.mem_of_mem_take hc)
      · have : c = newCol b s p := by simpa using hc
        subst this
        unfold newCol
        refine ⟨by simp, fun v hv => ?_⟩
        obtain ⟨j, hj, rfl⟩ := List.mem_map.1 hv
        exact (hval j (List.mem_range.1 hj)).sm
theorem drop_range {n j : Nat} (h : j < n) : (List.range n).drop j = j :: (List.range n).drop (j + 1) := by
  rw [List.drop_eq_getElem_cons (by simpa using h)]
  simp
theorem at_w {b : T_impl_Batch} {s : List (List T_impl_Value)} {p : T_impl_Part} (hS : BStep b s p) : w64 ((s.length : Int) - ((takesN p.fKind : Nat) : Int)) = ((s.length - takesN p.fKind : Nat) : Int) := by
  have h1 := hS.le
  have h2 := hS.small
  rw [w64_of (by omega) (by omega)]
  omega
theorem sl_take {s : List (List T_impl_Value)} {p : T_impl_Part} : slI s none (some ((s.length - takesN p.fKind : Nat) : Int)) none = some (s.take (s.length - takesN p.fKind)) := by
  unfold slI
  rw [if_pos (by simp only [Option.getD_none, Option.getD_some]; omega)]
  simp
theorem sl_drop {s : List (List T_impl_Value)} {p : T_impl_Part} : slI s (some ((s.length - takesN p.fKind : Nat) : Int)) none none = some (s.drop (s.length - takesN p.fKind)) := by
  unfold slI
  rw [if_pos (by simp only [Option.getD_none, Option.getD_some]; omega)]
  simp only [Option.getD_none, Option.getD_some, Int.toNat_natCast]
  rw [List.take_of_length_le (by rw [List.length_drop]; omega)]
theorem ap_take {b : T_impl_Batch} {s : List (List T_impl_Value)} {p : T_impl_Part} (hS : BStep b s p) (c : List T_impl_Value) : appT s [c] (s.take (s.length - takesN p.fKind)).length = some (s.take (s.length - takesN p.fKind) ++ [c]) := by
  have hsm := hS.small
  unfold appT
  rw [List.length_take, if_pos (by simp; omega), Nat.min_eq_left (by omega)]
section
variable {b : T_impl_Batch} {s : List (List T_impl_Value)} {p : T_impl_Part} (hb : SmBt b) (hlen : ∀ c ∈ b.fColumns, c.length = b.fPicked.length) (hS : BStep b s p)
include hb hlen hS
theorem spec_small {j : Nat} (hj : j < b.fPicked.length) (acc : List T_impl_Value) (ha : acc.length ≤ 2097152) (K : Int → List T_impl_Value → Option (List T_impl_Value)) :
    spec_l9Values_l3 b s p (j : Int) acc K FUEL (w64 ((s.length : Int) - ((takesN p.fKind : Nat) : Int))) [] = K ((j + 1 : Nat) : Int) (acc ++ [valB b s p j]) := by
  rw [at_w hS]
  have hle := hS.le
  have hsm := hS.small
  have hV := hS.val j hj
  have hp := hb.p
  have hw1 : w64 ((j : Int) + 1) = ((j + 1 : Nat) : Int) := succ_w hj (by omega)
  have hrow := spec_row (j := j) hb (fun c hc => by rw [hlen c hc]; exact hj)
  have := loop_at (xs := s) (L := fun f i (a : List T_impl_Value) => spec_l9Values_l3 b s p (j : Int) acc K f i a) (fun rest a => K ((j + 1 : Nat) : Int) (acc ++ [valB b s p j]))
    (fun i a => a ++ (s.drop i).map (cell j) = smallB s (takesN p.fKind) j ∧ a.length ≤ i) (by omega)
    (fun f i a c hi hc hw hI => by
      have hlt : (i : Int) < s.length := by omega
      have hg := cell_get (c := c) (j := j) (by rw [hS.len c (List.mem_of_getElem? hc)]; exact hj)
      refine .inr ⟨a ++ [cell j c], ⟨?_, by simp; omega⟩, ?_, rfl⟩
      · rw [← hI.1, List.drop_eq_getElem_cons hi]
        rw [List.getElem?_eq_getElem hi] at hc
        rw [Option.some.inj hc]
        simp
      · simp only [spec_l9Values_l3, hlt, decide_true, cond_true, getI_nat (xs := s), hc, Option.bind_some, hg, app_lt (xs := a) (ys := [cell j c]) (by simp; omega), hw])
    (fun f a hI => by
      have e : a = smallB s (takesN p.fKind) j := by
        have := hI.1
        rw [List.drop_length, List.map_nil, List.append_nil] at this
        exact this
      have hd := hV.spec
      rw [← e] at hd
      have hz : w64 ((([valB b s p j] : List T_impl_Value).length : Int) - 1) = 0 := w64_of (by simp) (by simp)
      have hg : getI ([valB b s p j] : List T_impl_Value) 0 = some (valB b s p j) := rfl
      simp only [spec_l9Values_l3, Int.lt_irrefl, decide_false, cond_false, hrow, Option.bind_some, hd, hz, hg, app_lt (xs := acc) (ys := [valB b s p j]) (by simp; omega), hw1])
    (i := s.length - takesN p.fKind) (by omega) (s := []) ⟨by rw [List.nil_append]; rfl, Nat.zero_le _⟩
  exact this
theorem spec_col {k : Nat} (hk : w64 ((k : Int) + 1) = ((k + 1 : Nat) : Int)) (K : Int → List (List T_impl_Value) → Option (List T_impl_Value)) :
    spec_l9Values_l2 b (k : Int) s K p ((takesN p.fKind : Nat) : Int) FUEL 0 [] = K ((k + 1 : Nat) : Int) (newSt b s p) := by
  have hp := hb.p
  have := loop_opt (xs := b.fPicked) (L := fun f i (a : List T_impl_Value) => spec_l9Values_l2 b (k : Int) s K p ((takesN p.fKind : Nat) : Int) f i a)
    (fun rest a => K ((k + 1 : Nat) : Int) (s.take (s.length - takesN p.fKind) ++ [a ++ ((List.range b.fPicked.length).drop (b.fPicked.length - rest.length)).map (valB b s p)])) (fun i a => a.length = i) (by omega)
    (fun f j a x hj hx hw hI => by
      have hlt : (j : Int) < b.fPicked.length := by omega
      have e1 : b.fPicked.length - (x :: b.fPicked.drop (j + 1)).length = j := by rw [List.length_cons, List.length_drop]; omega
      have e2 : b.fPicked.length - (b.fPicked.drop (j + 1)).length = j + 1 := by rw [List.length_drop]; omega
      refine .inr ⟨a ++ [valB b s p j], by simp [hI], ?_, ?_⟩
      · have h0 : spec_l9Values_l2 b (k : Int) s K p ((takesN p.fKind : Nat) : Int) (f + 1) (j : Int) a = spec_l9Values_l3 b s p (j : Int) a (spec_l9Values_l2 b (k : Int) s K p ((takesN p.fKind : Nat) : Int) f) FUEL (w64 ((s.length : Int) - ((takesN p.fKind : Nat) : Int))) [] := by
          rw [spec_l9Values_l2, decide_eq_true hlt, cond_true]
        exact h0.trans (spec_small hb hlen hS hj a (by omega) _)
      · rw [e1, e2, drop_range hj]
        simp)
    (fun f a hI => by
      have hd : (List.range b.fPicked.length).drop (b.fPicked.length - ([] : List Bool).length) = [] := by simp
      rw [hd, List.map_nil, List.append_nil, spec_l9Values_l2, decide_eq_false (Int.lt_irrefl _), cond_false, at_w hS, sl_take, Option.bind_some, ap_take hS, Option.bind_some, hk]) (s := []) rfl
  refine this.trans ?_
  rw [Nat.sub_self, List.drop_zero, List.nil_append]
  rfl
theorem impl_small {j : Nat} (hj : j < b.fPicked.length) (st : List T_impl_Value) (hst : st.length = b.fPicked.length) (K : Int → List T_impl_Value → Option (List T_impl_Value)) :
    impl_Batch_values_R_l2 b p (j : Int) st K (s.drop (s.length - takesN p.fKind)) FUEL 0 [] = K ((j + 1 : Nat) : Int) (st.set j (valB b s p j)) := by
  have hle := hS.le
  have hsm := hS.small
  have hV := hS.val j hj
  have hp := hb.p
  have hw1 : w64 ((j : Int) + 1) = ((j + 1 : Nat) : Int) := succ_w hj (by omega)
  have hrow := impl_row (j := j) hb (fun c hc => by rw [hlen c hc]; exact hj)
  obtain ⟨o, ho, _⟩ := getI_lt (xs := st) (i := (j : Int)) (by omega) (by omega)
  have := loop_opt (xs := s.drop (s.length - takesN p.fKind)) (L := fun f i (a : List T_impl_Value) => impl_Batch_values_R_l2 b p (j : Int) st K (s.drop (s.length - takesN p.fKind)) f i a) (fun rest a => K ((j + 1 : Nat) : Int) (st.set j (valB b s p j)))
    (fun i a => a ++ ((s.drop (s.length - takesN p.fKind)).drop i).map (cell j) = smallB s (takesN p.fKind) j ∧ a.length ≤ i) (by rw [List.length_drop]; omega)
    (fun f i a c hi hc hw hI => by
      have hlt : (i : Int) < ((s.drop (s.length - takesN p.fKind)).length : Int) := by omega
      have hi2 : i ≤ 2000000 := by rw [List.length_drop] at hi; omega
      have hg := cell_get (c := c) (j := j) (by rw [hS.len c (List.mem_of_mem_drop (List.mem_of_getElem? hc))]; exact hj)
      refine .inr ⟨a ++ [cell j c], ⟨?_, by simp; omega⟩, ?_, rfl⟩
      · rw [← hI.1, List.drop_eq_getElem_cons hi]
        rw [List.getElem?_eq_getElem hi] at hc
        rw [Option.some.inj hc]
        simp
      · rw [impl_Batch_values_R_l2, decide_eq_true hlt, cond_true, getI_nat (xs := s.drop (s.length - takesN p.fKind)), hc, Option.bind_some, hg, Option.bind_some, app_lt (xs := a) (ys := [cell j c]) (by rw [List.length_singleton]; omega), Option.bind_some, hw])
    (fun f a hI => by
      have e : a = smallB s (takesN p.fKind) j := by
        have := hI.1
        rw [List.drop_length, List.map_nil, List.append_nil] at this
        exact this
      have hd := hV.impl
      rw [← e] at hd
      rw [impl_Batch_values_R_l2, decide_eq_false (Int.lt_irrefl _), cond_false]
      by_cases h2 : p.fKind = 2
      · rw [h2]
        rw [show ((2 : Int) == 2) = true from rfl, cond_true, hrow, Option.bind_some]
        unfold impl_Batch_values_R_j3
        rw [hd, Option.bind_some, ho, Option.bind_some, hw1, Int.toNat_natCast]
      · rw [beqK h2, cond_false]
        unfold impl_Batch_values_R_j3
        rw [value_norow h2 [] (rowB b j) a, hd, Option.bind_some, ho, Option.bind_some, hw1, Int.toNat_natCast]) (s := []) ⟨by rw [List.nil_append, List.drop_zero]; rfl, Nat.zero_le _⟩
  exact this
theorem impl_col {k : Nat} (hk : w64 ((k : Int) + 1) = ((k + 1 : Nat) : Int)) (K : Int → List (List T_impl_Value) → Option (List T_impl_Value)) :
    impl_Batch_values_R_l1 b (k : Int) s K p ((takesN p.fKind : Nat) : Int) FUEL 0 (List.replicate b.fPicked.length N0) = K ((k + 1 : Nat) : Int) (newSt b s p) := by
  have hp := hb.p
  have := loop_opt (xs := b.fPicked) (L := fun f i (a : List T_impl_Value) => impl_Batch_values_R_l1 b (k : Int) s K p ((takesN p.fKind : Nat) : Int) f i a)
    (fun rest a => K ((k + 1 : Nat) : Int) (s.take (s.length - takesN p.fKind) ++ [a.take (b.fPicked.length - rest.length) ++ ((List.range b.fPicked.length).drop (b.fPicked.length - rest.length)).map (valB b s p)])) (fun i a => a.length = b.fPicked.length) (by omega)
    (fun f j a x hj hx hw hI => by
      have hlt : (j : Int) < b.fPicked.length := by omega
      have e1 : b.fPicked.length - (x :: b.fPicked.drop (j + 1)).length = j := by rw [List.length_cons, List.length_drop]; omega
      have e2 : b.fPicked.length - (b.fPicked.drop (j + 1)).length = j + 1 := by rw [List.length_drop]; omega
      refine .inr ⟨a.set j (valB b s p j), by rw [List.length_set]; exact hI, ?_, ?_⟩
      · have h0 : impl_Batch_values_R_l1 b (k : Int) s K p ((takesN p.fKind : Nat) : Int) (f + 1) (j : Int) a = impl_Batch_values_R_l2 b p (j : Int) a (impl_Batch_values_R_l1 b (k : Int) s K p ((takesN p.fKind : Nat) : Int) f) (s.drop (s.length - takesN p.fKind)) FUEL 0 [] := by
          rw [impl_Batch_values_R_l1, decide_eq_true hlt, cond_true, at_w hS, sl_drop, Option.bind_some]
        exact h0.trans (impl_small hb hlen hS hj a hI _)
      · rw [e1, e2, drop_range hj, List.take_add_one, List.take_set_of_le (Nat.le_refl j), List.getElem?_set_self (by omega)]
        simp)
    (fun f a hI => by
      have hd : (List.range b.fPicked.length).drop (b.fPicked.length - ([] : List Bool).length) = [] := by simp
      have ht : a.take (b.fPicked.length - ([] : List Bool).length) = a := by
        rw [List.length_nil, Nat.sub_zero, ← hI, List.take_length]
      rw [hd, ht, List.map_nil, List.append_nil, impl_Batch_values_R_l1, decide_eq_false (Int.lt_irrefl _), cond_false, at_w hS, sl_take, Option.bind_some, ap_take hS, Option.bind_some, hk]) (s := List.replicate b.fPicked.length N0) (by simp)
  refine this.trans ?_
  rw [Nat.sub_self, List.drop_zero, List.take_zero, List.nil_append]
  rfl
end
def runB (b : T_impl_Batch) : List T_impl_Part → List (List T_impl_Value) → Option (List T_impl_Value)
  | [], s => s[0]?
  | p :: ps, s => runB b ps (newSt b s p)
theorem BInv.fin {cs : List T_impl_Column} {ps : List T_impl_Part} {b : T_impl_Batch} {s : List (List T_impl_Value)} (hI : BInv cs ps b ps.length s) : ∃ c, s = [c] ∧ c.length = b.fPicked.length := by
  obtain ⟨ks, h1, h2, h3, h4⟩ := hI.h
  rw [List.drop_length] at h1
  unfold exprRun at h1
  split at h1
  · match s, h2, h4 with
    | [c], _, h4 => exact ⟨c, rfl, (h4 c (by simp)).1⟩
  · exact absurd h1 (by decide)
theorem spec_need (b : T_impl_Batch) (ps : List T_impl_Part) (f k : Nat) (s : List (List T_impl_Value)) {p : T_impl_Part} (hk : k < ps.length) (hv : ps[k]? = some p) :
    spec_l9Values_l0 b ps (f + 1) (k : Int) s = spec_l9Values_l2 b (k : Int) s (spec_l9Values_l0 b ps f) p ((takesN p.fKind : Nat) : Int) FUEL 0 [] := by
  have hlt : (k : Int) < ps.length := by omega
  rw [spec_l9Values_l0, decide_eq_true hlt, cond_true, getI_nat, hv, Option.bind_some]
  obtain ⟨q, n, v⟩ := p
  simp only
  rcases kind_cases q with rfl | rfl | rfl | rfl | rfl | rfl | rfl | rfl | ⟨h1, h2, h3, h4, h5, h6, h7, h8⟩
  iterate 8 simp [spec_l9Values_j4, spec_l9Values_j5, spec_l9Values_j1, takesN]
  simp [beqK h3, beqK h4, beqK h5, beqK h6, beqK h7, beqK h8, spec_l9Values_j4, spec_l9Values_j5, spec_l9Values_j1, takesN, h3, h4, h5, h6, h7, h8]
theorem both_vals {cs : List T_impl_Column} {b : T_impl_Batch} {ps : List T_impl_Part} (hF : Fit cs b) (h : 0 ≤ exprKind cs ps) (hp : ∀ p ∈ ps, SmP p) :
    ∃ v, spec_l9Values b ps = some v ∧ impl_Batch_values_R b ps = some v ∧ v.length = b.fPicked.length := by
  have hps : 0 ≤ exprRun cs ps [] ∧ ps.length ≤ 12 := by
    unfold exprKind at h
    cases hc : colsOk cs && decide (ps.length ≤ 12) with
    | false =>
      rw [hc] at h
      have h : (0 : Int) ≤ -1 := h
      omega
    | true =>
      rw [hc, cond_true] at h
      simp only [Bool.and_eq_true, decide_eq_true_eq] at hc
      exact ⟨h, hc.2⟩
  have h0 : BInv cs ps b 0 [] := ⟨[], hps.1, rfl, Nat.le_refl _, fun c hc => by cases hc⟩
  have hs : spec_l9Values b ps = runB b ps [] := by
    have := loop_opt (xs := ps) (L := fun f i (s : List (List T_impl_Value)) => spec_l9Values_l0 b ps f i s) (fun rest s => runB b rest s) (BInv cs ps b) (by omega)
      (fun f k s p hk hv hw hI => by
        obtain ⟨hS, hN⟩ := hI.step hF hk hv (by omega) (hp p (List.mem_of_getElem? hv))
        exact .inr ⟨newSt b s p, hN, (spec_need b ps f k s hk hv).trans (spec_col hF.sm hF.len hS hw _), rfl⟩)
      (fun f s hI => by
        obtain ⟨c, rfl, _⟩ := hI.fin
        rw [spec_l9Values_l0, decide_eq_false (Int.lt_irrefl _), cond_false]
        rfl) h0
    exact this
  have hi : impl_Batch_values_R b ps = runB b ps [] := by
    have := loop_opt (xs := ps) (L := fun f i (s : List (List T_impl_Value)) => impl_Batch_values_R_l0 b ps f i s) (fun rest s => runB b rest s) (BInv cs ps b) (by omega)
      (fun f k s p hk hv hw hI => by
        have hlt : (k : Int) < ps.length := by omega
        obtain ⟨hS, hN⟩ := hI.step hF hk hv (by omega) (hp p (List.mem_of_getElem? hv))
        have hpl := hF.sm.p
        have hmk : mkI (b.fPicked.length : Int) (T_impl_Value.mk 0 0 (ByteArray.mk #[])) = some (List.replicate b.fPicked.length N0) := by
          unfold mkI
          rw [if_pos (by omega), Int.toNat_natCast]
          rfl
        refine .inr ⟨newSt b s p, hN, ?_, rfl⟩
        have e0 : impl_Batch_values_R_l0 b ps (f + 1) (k : Int) s = impl_Batch_values_R_l1 b (k : Int) s (impl_Batch_values_R_l0 b ps f) p ((takesN p.fKind : Nat) : Int) FUEL 0 (List.replicate b.fPicked.length N0) := by
          rw [impl_Batch_values_R_l0, decide_eq_true hlt, cond_true, getI_nat, hv, Option.bind_some, takes_eq, Option.bind_some, hmk, Option.bind_some]
        exact e0.trans (impl_col hF.sm hF.len hS hw _))
      (fun f s hI => by
        obtain ⟨c, rfl, hc⟩ := hI.fin
        rw [impl_Batch_values_R_l0, decide_eq_false (Int.lt_irrefl _), cond_false]
        rw [show getI [c] 0 = some c from rfl, Option.bind_some, impl_cloneVR (by rw [hc]; exact hF.sm.p), Option.bind_some]
        rfl) h0
    exact this
  have key : ∀ (n i : Nat) (s : List (List T_impl_Value)), i + n = ps.length → BInv cs ps b i s → ∃ v, runB b (ps.drop i) s = some v ∧ v.length = b.fPicked.length := by
    intro n
    induction n with
    | zero =>
      intro i s hi hI
      have : i = ps.length := by omega
      subst this
      obtain ⟨v, rfl, hv⟩ := hI.fin
      rw [List.drop_length]
      exact ⟨v, rfl, hv⟩
    | succ n ih =>
      intro i s hi hI
      have hlt : i < ps.length := by omega
      obtain ⟨hS, hN⟩ := hI.step hF hlt (List.getElem?_eq_getElem hlt) (by omega) (hp _ (List.getElem_mem hlt))
      obtain ⟨v, hv, hl⟩ := ih (i + 1) _ (by omega) hN
      refine ⟨v, ?_, hl⟩
      rw [List.drop_eq_getElem_cons hlt, runB]
      exact hv
  obtain ⟨v, hv, hl⟩ := key ps.length 0 [] (by omega) h0
  have hv : runB b ps [] = some v := hv
  exact ⟨v, hs.trans hv, hi.trans hv, hl⟩
end Go.D
set_option linter.unusedVariables false
namespace Go.D
def colOk (n : Nat) (c : List T_impl_Value) : Bool := c.length == n && c.all valOk
def batchOk (b : T_impl_Batch) : Bool := b.fColumns.all (colOk b.fPicked.length) && (decide (b.fColumns.length ≤ 4) && decide (b.fPicked.length ≤ 4))
theorem len_beqB (m n : Nat) : (((m : Nat) : Int) == (n : Int)) = (m == n) := by
  rw [Bool.eq_iff_iff, beq_iff_eq, beq_iff_eq]
  omega
theorem spec_inner {b : T_impl_Batch} (hb : SmBt b) {k : Nat} {c : List T_impl_Value} (hc : getI b.fColumns (k : Int) = some c) (hs : SmR c) (hk : w64 ((k : Int) + 1) = ((k + 1 : Nat) : Int)) (K : Int → Option Bool) :
    spec_BatchOk_l1 b (k : Int) K FUEL 0 = bif c.all valOk then K ((k + 1 : Nat) : Int) else some false := by
  have hl := hs.1
  have := loop_opt (xs := c) (L := fun f i (_ : Unit) => spec_BatchOk_l1 b (k : Int) K f i) (fun rest _ => bif rest.all valOk then K ((k + 1 : Nat) : Int) else some false) (fun _ _ => True) (by omega)
    (fun f i _ v hi hv hw _ => by
      have hlt : (i : Int) < c.length := by omega
      have hx := spec_value (hs.2 v (List.mem_of_getElem? hv))
      cases hx2 : valOk v with
      | true =>
        refine .inr ⟨(), trivial, ?_, by simp [hx2]⟩
        rw [spec_BatchOk_l1, hc, Option.bind_some, decide_eq_true hlt, cond_true, Option.bind_some, getI_nat (xs := c), hv, Option.bind_some, hx, Option.bind_some, hx2, Bool.not_true, cond_false, hw]
      | false =>
        refine .inl ?_
        rw [spec_BatchOk_l1, hc, Option.bind_some, decide_eq_true hlt, cond_true, Option.bind_some, getI_nat (xs := c), hv, Option.bind_some, hx, Option.bind_some, hx2, Bool.not_false, cond_true]
        simp [hx2])
    (fun f _ _ => by
      rw [spec_BatchOk_l1, hc, Option.bind_some, decide_eq_false (Int.lt_irrefl _), cond_false, hk]
      rfl) (s := ()) trivial
  exact this
theorem le4n (n : Nat) : decide ((n : Int) ≤ 4) = decide (n ≤ 4) := by
  simp only [decide_eq_decide]
  omega
theorem spec_batchOk {b : T_impl_Batch} (hb : SmBt b) : spec_BatchOk b = some (batchOk b) := by
  have hl := hb.c.1
  unfold spec_BatchOk batchOk
  have := loop_opt (xs := b.fColumns) (L := fun f i (_ : Unit) => spec_BatchOk_l0 b f i) (fun rest _ => some (rest.all (colOk b.fPicked.length) && (decide (b.fColumns.length ≤ 4) && decide (b.fPicked.length ≤ 4)))) (fun _ _ => True) (by omega)
    (fun f i _ c hi hc hw _ => by
      have hlt : (i : Int) < b.fColumns.length := by omega
      have hg : getI b.fColumns (i : Int) = some c := by rw [getI_nat]; exact hc
      have hin := spec_inner hb hg (hb.c.2 c (List.mem_of_getElem? hc)) hw (spec_BatchOk_l0 b f)
      have e0 : spec_BatchOk_l0 b (f + 1) (i : Int) = bif (!(c.length == b.fPicked.length)) then some false else bif c.all valOk then spec_BatchOk_l0 b f ((i + 1 : Nat) : Int) else some false := by
        rw [spec_BatchOk_l0, decide_eq_true hlt, cond_true, hg, Option.bind_some, len_beqB, hin]
      cases h1 : colOk b.fPicked.length c with
      | true =>
        have h1' := h1
        unfold colOk at h1
        simp only [Bool.and_eq_true] at h1
        rw [h1.1, h1.2] at e0
        exact .inr ⟨(), trivial, e0, by simp [h1']⟩
      | false =>
        refine .inl (e0.trans ?_)
        have h1' := h1
        unfold colOk at h1
        cases h2 : c.length == b.fPicked.length with
        | false => simp [h1']
        | true =>
          rw [h2, Bool.true_and] at h1
          rw [h1]
          simp [h1'])
    (fun f _ _ => by
      rw [spec_BatchOk_l0, decide_eq_false (Int.lt_irrefl _), cond_false, le4n, le4n]
      cases decide (b.fColumns.length ≤ 4) <;> rfl) (s := ()) trivial
  exact this
theorem impl_valAny {r : List T_impl_Value} (h : SmR r) : slices_ContainsFunc_impl_Value_impl_Value r impl_BatchOk_1_1 = some (r.any fun v => !(valOk v)) := by
  unfold slices_ContainsFunc_impl_Value_impl_Value slices_IndexFunc_impl_Value_impl_Value
  have hl := h.1
  obtain ⟨x, h1, h2⟩ := loop_find (xs := r) (L := slices_IndexFunc_impl_Value_impl_Value_l0 r impl_BatchOk_1_1) (p := fun v => !(valOk v)) (by omega) (fun f i v hi hv hw => by
    have : (i : Int) < r.length := by omega
    simp only [slices_IndexFunc_impl_Value_impl_Value_l0, this, decide_true, cond_true, getI_nat, hv, Option.bind_some, impl_BatchOk_1_1, impl_value (h.2 v (List.mem_of_getElem? hv)), hw]) (fun f => by
    simp only [slices_IndexFunc_impl_Value_impl_Value_l0, Int.lt_irrefl, decide_false, cond_false])
  rw [h1, Option.bind_some, h2]
theorem impl_colOk {b : T_impl_Batch} {c : List T_impl_Value} (h : SmR c) : impl_BatchOk_1 c b = some (!(colOk b.fPicked.length c)) := by
  unfold impl_BatchOk_1 colOk
  rw [len_beqB, impl_valAny h, Option.bind_some, ← not_any_not]
  cases c.length == b.fPicked.length <;> simp
theorem impl_batchOk {b : T_impl_Batch} (hb : SmBt b) : impl_BatchOk b = some (batchOk b) := by
  have hl := hb.c.1
  unfold impl_BatchOk batchOk slices_ContainsFunc_impl_Value_impl_Value_s3 slices_IndexFunc_impl_Value_impl_Value_s3
  obtain ⟨x, h1, h2⟩ := loop_find (xs := b.fColumns) (L := slices_IndexFunc_impl_Value_impl_Value_s3_l0 b.fColumns (fun z0 => impl_BatchOk_1 z0 b)) (p := fun c => !(colOk b.fPicked.length c)) (by omega) (fun f i v hi hv hw => by
    have : (i : Int) < b.fColumns.length := by omega
    simp only [slices_IndexFunc_impl_Value_impl_Value_s3_l0, this, decide_true, cond_true, getI_nat, hv, Option.bind_some, impl_colOk (hb.c.2 v (List.mem_of_getElem? hv)), hw]) (fun f => by
    simp only [slices_IndexFunc_impl_Value_impl_Value_s3_l0, Int.lt_irrefl, decide_false, cond_false])
  rw [h1, Option.bind_some, Option.bind_some, h2, not_any_not, le4n, le4n]
  cases decide (b.fColumns.length ≤ 4) <;> cases decide (b.fPicked.length ≤ 4) <;> simp
def rowsFit (cs : List T_impl_Column) (b : T_impl_Batch) : Bool := (List.range b.fPicked.length).all fun j => rowFits cs (rowB b j)
theorem ok_len {b : T_impl_Batch} (h : batchOk b = true) : ∀ c ∈ b.fColumns, c.length = b.fPicked.length := by
  intro c hc
  unfold batchOk at h
  simp only [Bool.and_eq_true, List.all_eq_true] at h
  have := h.1 c hc
  unfold colOk at this
  simp only [Bool.and_eq_true, beq_iff_eq] at this
  exact this.1
theorem sm_rowB {b : T_impl_Batch} (hb : SmBt b) (h : batchOk b = true) {j : Nat} (hj : j < b.fPicked.length) : SmR (rowB b j) := by
  refine ⟨by unfold rowB; rw [List.length_map]; exact hb.c.1, fun v hv => ?_⟩
  obtain ⟨c, hc, rfl⟩ := List.mem_map.1 hv
  have hl := ok_len h c hc
  unfold cell
  rw [List.getElem?_eq_getElem (by omega)]
  exact (hb.c.2 c hc).2 _ (List.getElem_mem _)
theorem spec_fit {cs : List T_impl_Column} {b : T_impl_Batch} (hc : Sm cs.length) (hb : SmBt b) (h : batchOk b = true) : spec_l9Ready_l1 cs b FUEL 0 = some (rowsFit cs b) := by
  have hp := hb.p
  have := loop_opt (xs := b.fPicked) (L := fun f i (_ : Unit) => spec_l9Ready_l1 cs b f i) (fun rest _ => some (((List.range b.fPicked.length).drop (b.fPicked.length - rest.length)).all fun j => rowFits cs (rowB b j))) (fun _ _ => True) (by omega)
    (fun f j _ x hj hx hw _ => by
      have hlt : (j : Int) < b.fPicked.length := by omega
      have e1 : b.fPicked.length - (x :: b.fPicked.drop (j + 1)).length = j := by rw [List.length_cons, List.length_drop]; omega
      have e2 : b.fPicked.length - (b.fPicked.drop (j + 1)).length = j + 1 := by rw [List.length_drop]; omega
      have hrow := spec_row (j := j) hb (fun c hc => by rw [ok_len h c hc]; exact hj)
      have hf := spec_rowFits hc (sm_rowB hb h hj)
      rw [e1, e2, drop_range hj]
      cases hx2 : rowFits cs (rowB b j) with
      | true =>
        refine .inr ⟨(), trivial, ?_, by simp [hx2]⟩
        rw [spec_l9Ready_l1, decide_eq_true hlt, cond_true, hrow, Option.bind_some, hf, Option.bind_some, hx2, Bool.not_true, cond_false, hw]
      | false =>
        refine .inl ?_
        rw [spec_l9Ready_l1, decide_eq_true hlt, cond_true, hrow, Option.bind_some, hf, Option.bind_some, hx2, Bool.not_false, cond_true]
        simp [hx2])
    (fun f _ _ => by
      have hd : (List.range b.fPicked.length).drop (b.fPicked.length - ([] : List Bool).length) = [] := by
        rw [List.length_nil, Nat.sub_zero]
        exact List.drop_of_length_le (by simp)
      rw [spec_l9Ready_l1, decide_eq_false (Int.lt_irrefl _), cond_false, hd]
      rfl) (s := ()) trivial
  refine this.trans ?_
  rw [Nat.sub_self, List.drop_zero]
  rfl
theorem impl_fit {cs : List T_impl_Column} {b : T_impl_Batch} (hc : Sm cs.length) (hb : SmBt b) (h : batchOk b = true) : impl_Batch_fits_l1 b cs FUEL 0 = some (rowsFit cs b) := by
  have hp := hb.p
  have := loop_opt (xs := b.fPicked) (L := fun f i (_ : Unit) => impl_Batch_fits_l1 b cs f i) (fun rest _ => some (((List.range b.fPicked.length).drop (b.fPicked.length - rest.length)).all fun j => rowFits cs (rowB b j))) (fun _ _ => True) (by omega)
    (fun f j _ x hj hx hw _ => by
      have hlt : (j : Int) < b.fPicked.length := by omega
      have e1 : b.fPicked.length - (x :: b.fPicked.drop (j + 1)).length = j := by rw [List.length_cons, List.length_drop]; omega
      have e2 : b.fPicked.length - (b.fPicked.drop (j + 1)).length = j + 1 := by rw [List.length_drop]; omega
      have hrow := impl_row (j := j) hb (fun c hc => by rw [ok_len h c hc]; exact hj)
      have hf := impl_rowFits hc (sm_rowB hb h hj)
      rw [e1, e2, drop_range hj]
      cases hx2 : rowFits cs (rowB b j) with
      | true =>
        refine .inr ⟨(), trivial, ?_, by simp [hx2]⟩
        rw [impl_Batch_fits_l1, decide_eq_true hlt, cond_true, hrow, Option.bind_some, hf, Option.bind_some, hx2, Bool.not_true, cond_false, hw]
      | false =>
        refine .inl ?_
        rw [impl_Batch_fits_l1, decide_eq_true hlt, cond_true, hrow, Option.bind_some, hf, Option.bind_some, hx2, Bool.not_false, cond_true]
        simp [hx2])
    (fun f _ _ => by
      have hd : (List.range b.fPicked.length).drop (b.fPicked.length - ([] : List Bool).length) = [] := by
        rw [List.length_nil, Nat.sub_zero]
        exact List.drop_of_length_le (by simp)
      rw [impl_Batch_fits_l1, decide_eq_false (Int.lt_irrefl _), cond_false, hd]
      rfl) (s := ()) trivial
  refine this.trans ?_
  rw [Nat.sub_self, List.drop_zero]
  rfl
def fitsB (cs : List T_impl_Column) (b : T_impl_Batch) : Bool := batchOk b && (colsOk cs && rowsFit cs b)
theorem spec_readyB {cs : List T_impl_Column} {b : T_impl_Batch} (hc : Sm cs.length) (hb : SmBt b) : spec_l9Ready cs b = some (b.fColumns.length == cs.length && fitsB cs b) := by
  unfold spec_l9Ready fitsB
  rw [spec_batchOk hb, Option.bind_some, spec_colsOk hc, Option.bind_some, len_beqB]
  cases h : batchOk b with
  | false => simp [spec_l9Ready_j0]
  | true =>
    have := spec_fit hc hb h
    cases b.fColumns.length == cs.length <;> cases colsOk cs <;> simp [spec_l9Ready_j0, this]
theorem impl_fitsB {cs : List T_impl_Column} {b : T_impl_Batch} (hc : Sm cs.length) (hb : SmBt b) : impl_Batch_fits b cs = some (fitsB cs b) := by
  unfold impl_Batch_fits fitsB
  rw [impl_batchOk hb, Option.bind_some, impl_colsOk hc, Option.bind_some]
  cases h : batchOk b with
  | false => simp [impl_Batch_fits_j0]
  | true =>
    have := impl_fit hc hb h
    cases colsOk cs <;> simp [impl_Batch_fits_j0, this]
theorem fitsB_fit {cs : List T_impl_Column} {b : T_impl_Batch} (hb : SmBt b) (h : fitsB cs b = true) : Fit cs b := by
  unfold fitsB at h
  simp only [Bool.and_eq_true] at h
  obtain ⟨h1, _, h3⟩ := h
  refine ⟨hb, ok_len h1, fun j hj => ⟨?_, sm_rowB hb h1 hj⟩⟩
  unfold rowsFit at h3
  have := List.all_eq_true.1 h3 j (List.mem_range.2 hj)
  unfold rowFits at this
  simp only [Bool.and_eq_true, beq_iff_eq] at this
  exact this.2.2.1
theorem fitsB_len {cs : List T_impl_Column} {b : T_impl_Batch} (hb : SmBt b) (h : fitsB cs b = true) (hn : (b.fColumns.length == cs.length) = false) : b.fPicked.length = 0 := by
  have hF := fitsB_fit hb h
  rcases Nat.eq_zero_or_pos b.fPicked.length with h0 | h0
  · exact h0
  · have := (hF.row 0 h0).1
    unfold rowB at this
    rw [List.length_map] at this
    rw [this] at hn
    simp at hn
theorem both_values {cs : List T_impl_Column} {b : T_impl_Batch} {ps : List T_impl_Part} (hc : Sm cs.length) (hb : SmBt b) (hl : Sm ps.length) (hp : ∀ p ∈ ps, SmP p) :
    ∃ v, spec_BatchValues cs b ps = some v ∧ impl_BatchValues_R cs b ps = some v ∧ v.length ≤ b.fPicked.length := by
  unfold spec_BatchValues impl_BatchValues_R
  rw [spec_exprKind hc hl hp, Option.bind_some, spec_readyB hc hb, Option.bind_some, impl_exprKind hc hl hp, Option.bind_some, impl_fitsB hc hb, Option.bind_some]
  by_cases hk : exprKind cs ps < 0
  · rw [decide_eq_true hk]
    exact ⟨[], rfl, rfl, Nat.zero_le _⟩
  rw [decide_eq_false hk]
  cases hf : fitsB cs b with
  | false =>
    refine ⟨[], ?_, rfl, Nat.zero_le _⟩
    rw [Bool.and_false]
    rfl
  | true =>
    obtain ⟨v, h1, h2, h3⟩ := both_vals (fitsB_fit hb hf) (show 0 ≤ exprKind cs ps by omega) hp
    refine ⟨v, ?_, ?_, by omega⟩
    · cases hn : b.fColumns.length == cs.length with
      | true => simp only [Bool.true_and, Bool.not_true, cond_false, spec_BatchValues_j0, h1, Option.bind_some]
      | false =>
        have h0 := fitsB_len hb hf hn
        rw [h0] at h3
        rw [List.length_eq_zero_iff.1 h3]
        rfl
    · simp only [Bool.not_true, cond_false, impl_BatchValues_R_j0, h2, Option.bind_some]
end Go.D
set_option linter.unusedVariables false
namespace Go.D
theorem getI_set {α : Type} {xs : List α} {i : Nat} {v : α} (h : i < xs.length) : getI (xs.set i v) (i : Int) = some v := by
  rw [getI_nat, List.getElem?_set_self h]
abbrev TOP : Int := 4611686018427387904
theorem w_succ {k : Int} (h0 : 0 ≤ k) (h1 : k < TOP) : w64 (k + 1) = k + 1 := w64_of (by omega) (by unfold TOP at h1; omega)
theorem mark_loop {α : Type} {M : Nat → Int → Int → List α → Option (Int × List α)} {H : List α → Nat → Int → Int → Option Int} {P : α → Prop} (c : Int) (hc : 0 ≤ c)
    (hm : ∀ (f : Nat) (k : Int) (i : Nat) (xs : List α) (x : α), xs[i]? = some x → xs.length ≤ 2097152 → P x → 0 ≤ k → k + c ≤ TOP → ∃ k' x', M (f + 1) k (i : Int) xs = M f k' ((i + 1 : Nat) : Int) (xs.set i x') ∧ k ≤ k' ∧ k' ≤ k + c ∧
      ∀ (ys : List α) (g : Nat), ys[i]? = some x' → ys.length ≤ 2097152 → H ys (g + 1) k (i : Int) = H ys g k' ((i + 1 : Nat) : Int))
    (he : ∀ (f : Nat) (k : Int) (xs : List α), M (f + 1) k (xs.length : Int) xs = some (k, xs))
    (hh : ∀ (g : Nat) (k : Int) (ys : List α), H ys (g + 1) k (ys.length : Int) = some k) :
    ∀ (m i : Nat) (xs : List α) (k : Int) (f : Nat), xs.length = i + m → xs.length ≤ 2097152 → m < f → (∀ (j : Nat) x, i ≤ j → xs[j]? = some x → P x) → 0 ≤ k → k + m * c ≤ TOP →
      ∃ k' ys, M f k (i : Int) xs = some (k', ys) ∧ ys.length = xs.length ∧ (∀ j, j < i → ys[j]? = xs[j]?) ∧ k ≤ k' ∧ k' ≤ k + m * c ∧ ∀ g, m < g → H ys g k (i : Int) = some k'
  | 0, i, xs, k, f, hl, hn, hf, hP, h0, hK => by
    obtain ⟨f, rfl⟩ : ∃ f', f = f' + 1 := ⟨f - 1, by omega⟩
    have e : (i : Int) = (xs.length : Int) := by rw [hl]; simp
    refine ⟨k, xs, by rw [e]; exact he f k xs, rfl, fun _ _ => rfl, by omega, by simp, fun g hg => ?_⟩
    obtain ⟨g, rfl⟩ : ∃ g', g = g' + 1 := ⟨g - 1, by omega⟩
    rw [e]
    exact hh g k xs
  | m + 1, i, xs, k, f, hl, hn, hf, hP, h0, hK => by
    obtain ⟨f, rfl⟩ : ∃ f', f = f' + 1 := ⟨f - 1, by omega⟩
    have hi : i < xs.length := by omega
    have hx : xs[i]? = some xs[i] := List.getElem?_eq_getElem hi
    have hmc : ((m + 1 : Nat) : Int) * c = m * c + c := by rw [Int.natCast_add, Int.add_mul]; simp
    have hmc0 : 0 ≤ (m : Int) * c := Int.mul_nonneg (by omega) hc
    rw [hmc] at hK
    obtain ⟨k1, x1, e1, p1, q1, r1⟩ := hm f k i xs xs[i] hx hn (hP i _ (Nat.le_refl _) hx) h0 (by omega)
    obtain ⟨k2, ys, e2, l2, s2, p2, q2, r2⟩ := mark_loop c hc hm he hh m (i + 1) (xs.set i x1) k1 f (by rw [List.length_set]; omega) (by rw [List.length_set]; exact hn) (by omega)
      (fun j x hj hxj => hP j x (by omega) (by rwa [List.getElem?_set_ne (by omega)] at hxj)) (by omega) (by omega)
    rw [List.length_set] at l2
    refine ⟨k2, ys, e1.trans e2, l2, fun j hj => ?_, by omega, by rw [hmc]; omega, fun g hg => ?_⟩
    · rw [s2 j (by omega), List.getElem?_set_ne (by omega)]
    · obtain ⟨g, rfl⟩ : ∃ g', g = g' + 1 := ⟨g - 1, by omega⟩
      rw [r1 ys g (by rw [s2 i (by omega), List.getElem?_set_self hi]) (by omega)]
      exact r2 g (by omega)
def MkP {α : Type} (M : α → Int → Option (Int × α)) (H : α → Int → Option Int) (P : α → Prop) (c : Int) : Prop :=
  ∀ x k, P x → 0 ≤ k → k + c ≤ TOP → ∃ k' x', M x k = some (k', x') ∧ k ≤ k' ∧ k' ≤ k + c ∧ H x' k = some k'
theorem mark_all {α : Type} {S : List α → Int → Option (Int × List α)} {T : List α → Int → Option Int} {M : Nat → Int → Int → List α → Option (Int × List α)} {H : List α → Nat → Int → Int → Option Int} {P : α → Prop} (c : Int) (hc : 0 ≤ c)
    (hS : ∀ xs k, S xs k = M FUEL k 0 xs) (hT : ∀ xs k, T xs k = H xs FUEL k 0)
    (hm : ∀ (f : Nat) (k : Int) (i : Nat) (xs : List α) (x : α), xs[i]? = some x → xs.length ≤ 2097152 → P x → 0 ≤ k → k + c ≤ TOP → ∃ k' x', M (f + 1) k (i : Int) xs = M f k' ((i + 1 : Nat) : Int) (xs.set i x') ∧ k ≤ k' ∧ k' ≤ k + c ∧
      ∀ (ys : List α) (g : Nat), ys[i]? = some x' → ys.length ≤ 2097152 → H ys (g + 1) k (i : Int) = H ys g k' ((i + 1 : Nat) : Int))
    (he : ∀ (f : Nat) (k : Int) (xs : List α), M (f + 1) k (xs.length : Int) xs = some (k, xs))
    (hh : ∀ (g : Nat) (k : Int) (ys : List α), H ys (g + 1) k (ys.length : Int) = some k) : MkP S T (okL P) (1048576 * c) := by
  intro xs k hP h0 hK
  have hn : (xs.length : Int) * c ≤ 1048576 * c := Int.mul_le_mul_of_nonneg_right (by have := hP.1; omega) hc
  have hF : xs.length < FUEL := by have := hP.1; unfold FUEL; omega
  obtain ⟨k', ys, e, l, _, p, q, r⟩ := mark_loop c hc hm he hh xs.length 0 xs k FUEL (by simp) (by have := hP.1; omega) hF (fun j x _ hx => hP.2 x (List.mem_of_getElem? hx)) h0 (by omega)
  exact ⟨k', ys, by rw [hS]; exact e, p, by omega, by rw [hT]; exact r FUEL hF⟩
def MkT {α : Type} (M : α → Int → Option (Int × α)) (P : α → Prop) (c : Int) : Prop :=
  ∀ x k, P x → 0 ≤ k → k + c ≤ TOP → ∃ k' x', M x k = some (k', x') ∧ k ≤ k' ∧ k' ≤ k + c
theorem mark_loopT {α : Type} {M : Nat → Int → Int → List α → Option (Int × List α)} {P : α → Prop} (c : Int) (hc : 0 ≤ c)
    (hm : ∀ (f : Nat) (k : Int) (i : Nat) (xs : List α) (x : α), xs[i]? = some x → xs.length ≤ 2097152 → P x → 0 ≤ k → k + c ≤ TOP → ∃ k' x', M (f + 1) k (i : Int) xs = M f k' ((i + 1 : Nat) : Int) (xs.set i x') ∧ k ≤ k' ∧ k' ≤ k + c)
    (he : ∀ (f : Nat) (k : Int) (xs : List α), M (f + 1) k (xs.length : Int) xs = some (k, xs)) :
    ∀ (m i : Nat) (xs : List α) (k : Int) (f : Nat), xs.length = i + m → xs.length ≤ 2097152 → m < f → (∀ (j : Nat) x, i ≤ j → xs[j]? = some x → P x) → 0 ≤ k → k + m * c ≤ TOP →
      ∃ k' ys, M f k (i : Int) xs = some (k', ys) ∧ k ≤ k' ∧ k' ≤ k + m * c
  | 0, i, xs, k, f, hl, hn, hf, hP, h0, hK => by
    obtain ⟨f, rfl⟩ : ∃ f', f = f' + 1 := ⟨f - 1, by omega⟩
    have e : (i : Int) = (xs.length : Int) := by rw [hl]; simp
    exact ⟨k, xs, by rw [e]; exact he f k xs, by omega, by simp⟩
  | m + 1, i, xs, k, f, hl, hn, hf, hP, h0, hK => by
    obtain ⟨f, rfl⟩ : ∃ f', f = f' + 1 := ⟨f - 1, by omega⟩
    have hi : i < xs.length := by omega
    have hx : xs[i]? = some xs[i] := List.getElem?_eq_getElem hi
    have hmc : ((m + 1 : Nat) : Int) * c = m * c + c := by rw [Int.natCast_add, Int.add_mul]; simp
    have hmc0 : 0 ≤ (m : Int) * c := Int.mul_nonneg (by omega) hc
    rw [hmc] at hK
    obtain ⟨k1, x1, e1, p1, q1⟩ := hm f k i xs xs[i] hx hn (hP i _ (Nat.le_refl _) hx) h0 (by omega)
    obtain ⟨k2, ys, e2, p2, q2⟩ := mark_loopT c hc hm he m (i + 1) (xs.set i x1) k1 f (by rw [List.length_set]; omega) (by rw [List.length_set]; exact hn) (by omega)
      (fun j x hj hxj => hP j x (by omega) (by rwa [List.getElem?_set_ne (by omega)] at hxj)) (by omega) (by omega)
    exact ⟨k2, ys, e1.trans e2, by omega, by rw [hmc]; omega⟩
theorem mark_allT {α : Type} {S : List α → Int → Option (Int × List α)} {M : Nat → Int → Int → List α → Option (Int × List α)} {P : α → Prop} (c : Int) (hc : 0 ≤ c)
    (hS : ∀ xs k, S xs k = M FUEL k 0 xs)
    (hm : ∀ (f : Nat) (k : Int) (i : Nat) (xs : List α) (x : α), xs[i]? = some x → xs.length ≤ 2097152 → P x → 0 ≤ k → k + c ≤ TOP → ∃ k' x', M (f + 1) k (i : Int) xs = M f k' ((i + 1 : Nat) : Int) (xs.set i x') ∧ k ≤ k' ∧ k' ≤ k + c)
    (he : ∀ (f : Nat) (k : Int) (xs : List α), M (f + 1) k (xs.length : Int) xs = some (k, xs)) : MkT S (okL P) (1048576 * c) := by
  intro xs k hP h0 hK
  have hn : (xs.length : Int) * c ≤ 1048576 * c := Int.mul_le_mul_of_nonneg_right (by have := hP.1; omega) hc
  have hF : xs.length < FUEL := by have := hP.1; unfold FUEL; omega
  obtain ⟨k', ys, e, p, q⟩ := mark_loopT c hc hm he xs.length 0 xs k FUEL (by simp) (by have := hP.1; omega) hF (fun j x _ hx => hP.2 x (List.mem_of_getElem? hx)) h0 (by omega)
  exact ⟨k', ys, by rw [hS]; exact e, p, by omega⟩
theorem addS_of {a b : ByteArray} (h : a.size + b.size ≤ 4611686018427387904) : addS a b = some (a ++ b) := if_pos h
end Go.D
set_option linter.unusedVariables false
set_option linter.unusedSimpArgs false
namespace Go.D
theorem markText_l0 : ∀ (d f : Nat) (x : Int) (s : ByteArray), 0 ≤ x → x < 10 ^ d → d < f → s.size + d ≤ 1000 → x ≤ 4611686018427387904 → ∃ t, laws_markText_l0 f x s = some t := by
  intro d
  induction d with
  | zero =>
    intro f x s h0 h1 hf hs hx
    obtain ⟨f, rfl⟩ : ∃ f', f = f' + 1 := ⟨f - 1, by omega⟩
    have e : x = 0 := by simp at h1; omega
    subst e
    rw [laws_markText_l0, decide_eq_false (by omega), cond_false, addS_of (by have : (ByteArray.mk #[109]).size = 1 := rfl; omega)]
    exact ⟨_, rfl⟩
  | succ d ih =>
    intro f x s h0 h1 hf hs hx
    obtain ⟨f, rfl⟩ : ∃ f', f = f' + 1 := ⟨f - 1, by omega⟩
    rw [laws_markText_l0]
    by_cases hp : x > 0
    · rw [decide_eq_true hp, cond_true, addS_of (by have : ∀ b : UInt8, (ByteArray.mk (List.toArray ([b] : List UInt8))).size = 1 := fun _ => rfl; rw [this]; omega), Option.bind_some]
      have e : x.tdiv 10 = x / 10 := Int.tdiv_eq_ediv_of_nonneg h0
      have h2 : x < 10 * 10 ^ d := by rw [Int.pow_succ] at h1; omega
      have h3 : w64 (x.tdiv 10) = x / 10 := by rw [e]; exact w64_of (by omega) (by omega)
      rw [h3]
      refine ih f (x / 10) _ (by omega) ?_ (by omega) ?_ (by omega)
      · generalize (10 : Int) ^ d = q at *
        omega
      · rw [ByteArray.size_append]
        have : ∀ b : UInt8, (ByteArray.mk (List.toArray ([b] : List UInt8))).size = 1 := fun _ => rfl
        rw [this]; omega
    · rw [decide_eq_false hp, cond_false, addS_of (by have : (ByteArray.mk #[109]).size = 1 := rfl; omega)]
      exact ⟨_, rfl⟩
theorem mark_text {k : Int} (h0 : 0 ≤ k) (h1 : k ≤ TOP) : ∃ t, laws_markText k = some t := by
  unfold laws_markText
  by_cases h : k ≤ 0
  · rw [decide_eq_true h, cond_true]
    exact ⟨_, rfl⟩
  · rw [decide_eq_false h, cond_false]
    exact markText_l0 19 FUEL k _ h0 (by unfold TOP at h1; omega) (by unfold FUEL; omega) (by decide) h1
theorem mk_ColumnS : MkT laws_markColumnS (okL (fun _ => True)) (1048576 * 2) :=
  mark_allT (M := laws_markColumnS_l0) 2 (by omega) (fun _ _ => rfl) (by
    intro f k i xs x hx hn hP h0 hK
    have hi : i < xs.length := (List.getElem?_eq_some_iff.1 hx).1
    have hd : decide ((i : Int) < (xs.length : Int)) = true := decide_eq_true (by omega)
    have hs : w64 ((i : Int) + 1) = ((i + 1 : Nat) : Int) := succ_w hi (by omega)
    have hg0 : getI xs (i : Int) = some x := by rw [getI_nat]; exact hx
    have hg : ∀ v, getI (xs.set i v) (i : Int) = some v := fun v => getI_set hi
    have w1 : w64 (k + 1) = k + 1 := w_succ (by omega) (by unfold TOP at *; omega)
    have w2 : w64 (k + 1 + 1) = k + 1 + 1 := w_succ (by omega) (by unfold TOP at *; omega)
    apply Exists.intro
    apply Exists.intro
    refine ⟨?_, ?_, ?_⟩
    · rw [laws_markColumnS_l0]
      simp only [hd, cond_true, hs, Int.toNat_natCast, hg0, hg, Option.bind_some, List.set_set, w1, w2]
      rfl
    · omega
    · omega)
    (fun f k xs => by simp only [laws_markColumnS_l0, Int.lt_irrefl, decide_false, cond_false])
theorem mk_BoolS : MkT laws_markBoolS (okL (fun _ => True)) (1048576 * 1) :=
  mark_allT (M := laws_markBoolS_l0) 1 (by omega) (fun _ _ => rfl) (by
    intro f k i xs x hx hn hP h0 hK
    have hi : i < xs.length := (List.getElem?_eq_some_iff.1 hx).1
    have hd : decide ((i : Int) < (xs.length : Int)) = true := decide_eq_true (by omega)
    have hs : w64 ((i : Int) + 1) = ((i + 1 : Nat) : Int) := succ_w hi (by omega)
    have hg0 : getI xs (i : Int) = some x := by rw [getI_nat]; exact hx
    have hg : ∀ v, getI (xs.set i v) (i : Int) = some v := fun v => getI_set hi
    have w1 : w64 (k + 1) = k + 1 := w_succ (by omega) (by unfold TOP at *; omega)
    apply Exists.intro
    apply Exists.intro
    refine ⟨?_, ?_, ?_⟩
    · rw [laws_markBoolS_l0]
      simp only [hd, cond_true, hs, Int.toNat_natCast, hg0, hg, Option.bind_some, List.set_set, w1]
      rfl
    · omega
    · omega)
    (fun f k xs => by simp only [laws_markBoolS_l0, Int.lt_irrefl, decide_false, cond_false])
theorem mk_PartS : MkT laws_markPartS (okL (fun _ => True)) (1048576 * 5) :=
  mark_allT (M := laws_markPartS_l0) 5 (by omega) (fun _ _ => rfl) (by
    intro f k i xs x hx hn hP h0 hK
    have hi : i < xs.length := (List.getElem?_eq_some_iff.1 hx).1
    have hd : decide ((i : Int) < (xs.length : Int)) = true := decide_eq_true (by omega)
    have hs : w64 ((i : Int) + 1) = ((i + 1 : Nat) : Int) := succ_w hi (by omega)
    have hg0 : getI xs (i : Int) = some x := by rw [getI_nat]; exact hx
    have hg : ∀ v, getI (xs.set i v) (i : Int) = some v := fun v => getI_set hi
    have w1 : w64 (k + 1) = k + 1 := w_succ (by omega) (by unfold TOP at *; omega)
    have w2 : w64 (k + 1 + 1) = k + 1 + 1 := w_succ (by omega) (by unfold TOP at *; omega)
    have w3 : w64 (k + 1 + 1 + 1) = k + 1 + 1 + 1 := w_succ (by omega) (by unfold TOP at *; omega)
    have w4 : w64 (k + 1 + 1 + 1 + 1) = k + 1 + 1 + 1 + 1 := w_succ (by omega) (by unfold TOP at *; omega)
    obtain ⟨t5, e5⟩ := mark_text (k := k + 1 + 1 + 1 + 1) (by omega) (by unfold TOP at *; omega)
    have w5 : w64 (k + 1 + 1 + 1 + 1 + 1) = k + 1 + 1 + 1 + 1 + 1 := w_succ (by omega) (by unfold TOP at *; omega)
    apply Exists.intro
    apply Exists.intro
    refine ⟨?_, ?_, ?_⟩
    · rw [laws_markPartS_l0]
      simp only [hd, cond_true, hs, Int.toNat_natCast, hg0, hg, Option.bind_some, List.set_set, w1, w2, w3, w4, e5, w5]
      rfl
    · omega
    · omega)
    (fun f k xs => by simp only [laws_markPartS_l0, Int.lt_irrefl, decide_false, cond_false])
theorem mk_ValueS : MkP laws_markValueS laws_heldValueS (okL (fun _ => True)) (1048576 * 3) :=
  mark_all (M := laws_markValueS_l0) (H := laws_heldValueS_l0) 3 (by omega) (fun _ _ => rfl) (fun _ _ => rfl) (by
    intro f k i xs x hx hn hP h0 hK
    have hi : i < xs.length := (List.getElem?_eq_some_iff.1 hx).1
    have hd : decide ((i : Int) < (xs.length : Int)) = true := decide_eq_true (by omega)
    have hs : w64 ((i : Int) + 1) = ((i + 1 : Nat) : Int) := succ_w hi (by omega)
    have hg0 : getI xs (i : Int) = some x := by rw [getI_nat]; exact hx
    have hg : ∀ v, getI (xs.set i v) (i : Int) = some v := fun v => getI_set hi
    have w1 : w64 (k + 1) = k + 1 := w_succ (by omega) (by unfold TOP at *; omega)
    have w2 : w64 (k + 1 + 1) = k + 1 + 1 := w_succ (by omega) (by unfold TOP at *; omega)
    obtain ⟨t3, e3⟩ := mark_text (k := k + 1 + 1) (by omega) (by unfold TOP at *; omega)
    have w3 : w64 (k + 1 + 1 + 1) = k + 1 + 1 + 1 := w_succ (by omega) (by unfold TOP at *; omega)
    apply Exists.intro
    apply Exists.intro
    refine ⟨?_, ?_, ?_, fun ys g hy hl => ?_⟩
    · rw [laws_markValueS_l0]
      simp only [hd, cond_true, hs, Int.toNat_natCast, hg0, hg, Option.bind_some, List.set_set, w1, w2, e3, w3]
      rfl
    · omega
    · omega
    · have hi2 : i < ys.length := (List.getElem?_eq_some_iff.1 hy).1
      have hd2 : decide ((i : Int) < (ys.length : Int)) = true := decide_eq_true (by omega)
      have hy2 := hy
      rw [← getI_nat] at hy2
      rw [laws_heldValueS_l0]
      simp only [hd2, cond_true, hs, hy2, Option.bind_some, beq_self_eq_true, Bool.not_true, cond_false, w1, w2, e3, w3])
    (fun f k xs => by simp only [laws_markValueS_l0, Int.lt_irrefl, decide_false, cond_false])
    (fun g k ys => by simp only [laws_heldValueS_l0, Int.lt_irrefl, decide_false, cond_false])
theorem mk_ValueSS : MkT laws_markValueSS (okL (okL (fun _ => True))) (1048576 * 3145728) :=
  mark_allT (M := laws_markValueSS_l0) 3145728 (by omega) (fun _ _ => rfl) (by
    intro f k i xs x hx hn hP h0 hK
    have hi : i < xs.length := (List.getElem?_eq_some_iff.1 hx).1
    have hd : decide ((i : Int) < (xs.length : Int)) = true := decide_eq_true (by omega)
    have hs : w64 ((i : Int) + 1) = ((i + 1 : Nat) : Int) := succ_w hi (by omega)
    have hg0 : getI xs (i : Int) = some x := by rw [getI_nat]; exact hx
    have hg : ∀ v, getI (xs.set i v) (i : Int) = some v := fun v => getI_set hi
    obtain ⟨k1, y1, e1, p1, q1, h1⟩ := mk_ValueS x (k) hP (by omega) (by unfold TOP at *; omega)
    have n1 : decide (k1 < 0) = false := decide_eq_false (by omega)
    apply Exists.intro
    apply Exists.intro
    refine ⟨?_, ?_, ?_⟩
    · rw [laws_markValueSS_l0]
      simp only [hd, cond_true, hs, Int.toNat_natCast, hg0, hg, Option.bind_some, List.set_set, e1]
      rfl
    · omega
    · omega)
    (fun f k xs => by simp only [laws_markValueSS_l0, Int.lt_irrefl, decide_false, cond_false])
theorem mk_Batch (x : T_impl_Batch) (k : Int) (hP : OkI_Batch x) (h0 : 0 ≤ k) (hK : k + 3298535931904 ≤ TOP) : ∃ k', laws_markBatch x k = some k' ∧ k ≤ k' ∧ k' ≤ k + 3298535931904 := by
    obtain ⟨k1, y1, e1, p1, q1⟩ := mk_ValueSS x.fColumns (k) hP.1 (by omega) (by unfold TOP at *; omega)
    have n1 : decide (k1 < 0) = false := decide_eq_false (by omega)
    obtain ⟨k2, y2, e2, p2, q2⟩ := mk_BoolS x.fPicked (k1) hP.2 (by omega) (by unfold TOP at *; omega)
    have n2 : decide (k2 < 0) = false := decide_eq_false (by omega)
    apply Exists.intro
    refine ⟨?_, ?_, ?_⟩
    · unfold laws_markBatch
      simp only [Option.bind_some, e1, e2]
      rfl
    all_goals omega
end Go.D
set_option linter.unusedVariables false
namespace Go.D
theorem law_batchValues {a0 : List T_laws_Column} {a1 : T_laws_Batch} {a2 : List T_laws_Part} (w0 : listW W_T_laws_Column a0) (w1 : W_T_laws_Batch a1) (w2 : listW W_T_laws_Part a2) : laws_FnExactBatchValues a0 a1 a2 = some true := by
  unfold laws_FnExactBatchValues
  obtain ⟨r0, e0, k0⟩ := sz_ColumnS a0 1048576 w0 (by omega) (by omega)
  rw [e0, Option.bind_some]
  rcases k0 with k0 | ⟨p0, q0, o0⟩
  · rw [decide_eq_true k0, cond_true]
  rw [decide_eq_false (show ¬ r0 < 0 by omega), cond_false]
  obtain ⟨r1, e1, k1⟩ := sz_Batch a1 r0 w1 (by omega) (by omega)
  rw [e1, Option.bind_some]
  rcases k1 with k1 | ⟨p1, q1, o1⟩
  · rw [decide_eq_true k1, cond_true]
  rw [decide_eq_false (show ¬ r1 < 0 by omega), cond_false]
  obtain ⟨r2, e2, k2⟩ := sz_PartS a2 r1 w2 (by omega) (by omega)
  rw [e2, Option.bind_some]
  rcases k2 with k2 | ⟨p2, q2, o2⟩
  · rw [decide_eq_true k2, cond_true]
  rw [decide_eq_false (show ¬ r2 < 0 by omega), cond_false]
  have m0 := okL_map (f := c_Column) (ok' := fun _ => True) (fun _ _ => trivial) o0
  have m1 : OkI_Batch (c_Batch a1) := ⟨okL_map (fun _ h => okL_map (fun _ _ => trivial) h) o1.1, o1.2⟩
  have m2 := okL_map (f := c_Part) (ok' := fun _ => True) (fun _ _ => trivial) o2
  have hb : SmBt (c_Batch a1) := ⟨sm_rows o1.1, okL_sm o1.2⟩
  obtain ⟨v, s1, s2, s3⟩ := both_values (cs := a0.map c_Column) (b := c_Batch a1) (ps := a2.map c_Part) (okL_sm m0) hb (okL_sm m2) (okL_map (ok := Ok_Part) (ok' := SmP) (f := c_Part) (fun x h => sm_value (v := x.fV) h) o2).2
  have ov : okL (fun _ : T_impl_Value => True) v := ⟨Nat.le_trans s3 o1.2.1, fun _ _ => trivial⟩
  obtain ⟨k5, y5, g5, p5, q5⟩ := mk_ColumnS _ 1 m0 (by omega) (by unfold TOP; omega)
  obtain ⟨k6, g6, p6, q6⟩ := mk_Batch _ k5 m1 (by omega) (by unfold TOP; omega)
  obtain ⟨k7, y7, g7, p7, q7⟩ := mk_PartS _ k6 m2 (by omega) (by unfold TOP; omega)
  obtain ⟨k10, y10, g10, p10, q10, h10⟩ := mk_ValueS _ 1 ov (by omega) (by unfold TOP; omega)
  have n7 : decide (k7 < 0) = false := decide_eq_false (by omega)
  have n10 : decide (k10 < 0) = false := decide_eq_false (by omega)
  simp only [to_ColumnS a0 o0, to_Batch a1 o1, to_PartS a2 o2, Option.bind_some, s1, s2, beq_self_eq_true, Bool.not_true, cond_false,
    eq_ColumnS _ m0, eq_Batch _ m1, eq_PartS _ m2, eq_ValueS _ ov, g5, g6, g7, n7, laws_FnExactBatchValues_j0, g10, h10, n10]
end Go.D
set_option linter.unusedVariables false
namespace Go.D
open Go.ChangeShapes Go.RowKit
theorem trodAll_carry {H : Type} {enc : TypeId × Value → H} {P : Program} {w w' : World} {base : Nat} {sp : Nat → Bool} {held : Bool} : ∀ {ts : List TypeId} {vs : List Value} {ds : List (DataW H)} {ps : List MemPlace},
    DataW.TrodAll enc P w base sp held ts vs ds ps → (∀ p ∈ ps, w.sameAt w' p) → DataW.TrodAll enc P w' base sp held ts vs ds ps
  | [], [], [], _, h, _ => h
  | _ :: _, _ :: _, _ :: _, _, ⟨p, q, ⟨n, hn⟩, h2, e⟩, hs =>
    ⟨p, q, ⟨n, DataW.trod_carry n _ _ _ hn fun x hx => hs x (by rw [e]; exact List.mem_append_left _ hx)⟩, trodAll_carry h2 fun x hx => hs x (by rw [e]; exact List.mem_append_right _ hx), e⟩
theorem Kept.sameAt {w w' : World} (h : Grew w w') {p : MemPlace} (hp : p.block < w.heap.size) : w.sameAt w' p := by
  have hb := h.block p.block hp (fun h => h)
  cases p with
  | cell b off =>
    show w'.cell? ⟨b, off, none⟩ = w.cell? ⟨b, off, none⟩
    unfold World.cell?
    have hb : w'.heap[b]? = w.heap[b]? := hb
    simp only [hb]
  | map b => exact hb
theorem Kept.keptBut {w w' : World} (h : Grew w w') (may : MemPlace → Prop) : w.keptBut w' may := by
  refine ⟨h.os, h.output, fun i hi => ?_⟩
  rw [h.block i hi (fun h => h)]
  cases w.heap[i]? with
  | none => trivial
  | some o => cases o <;> simp
theorem contract_of {P : Program} {fid : FuncId} {fn : Func} {s : ChangeSpec} {tb : TypeId} {H : Type} {enc : TypeId × Value → H}
    (hK : Kids P (· < P.types.size)) (hfull : ∀ t e, t < P.types.size → P.underlying t = some (.slice e) → 0 < P.cellsOf e)
    (hp : ∀ t ∈ fn.params.toList, t < P.types.size) (hv : s.vars = []) (hr : fn.resultTypes = #[tb]) (hb : P.underlying tb = some .bool)
    {n : Nat} (hn : fn.params.toList.length = n) (hs : ∀ ds : List (DataW H), ds.length = n → s.fn H ds = { results := [.lit (.bool true)], args := ds })
    {W : World} {args : Array Value} {ds gs : List (DataW H)} {before : List MemPlace}
    (hlaw : ∀ p, DataW.TrodAll enc P W 0 (fun _ => true) true fn.params.toList args.toList ds p → ∃ ins, FrL W (fun _ => False) ins args.toList ∧ OK P fid ins (B true))
    (hW : DataW.Whole enc P fn.params.toList s.vars false W args.toList ds gs before) :
    Calls P fid args W fun e W' => ∃ v, e = .returned v ∧ s.post enc P fn false true false false W args v W' := by
  have hlt := hW.lt
  have hW' := hW
  obtain ⟨p, q, hA, hV, rfl, hfz, hnd⟩ := hW
  rw [hv] at hV
  obtain ⟨rfl, rfl⟩ := trodVars_none hV
  obtain ⟨ins, h1, h2⟩ := hlaw p hA
  have hlen : ∀ {ts : List TypeId} {vs : List Value} {ds : List (DataW H)} {ps : List MemPlace}, DataW.TrodAll enc P W 0 (fun _ => true) true ts vs ds ps → ds.length = ts.length := by
    intro ts
    induction ts with
    | nil => intro vs ds ps h; obtain ⟨_, rfl, _⟩ := trodAll_nil h; rfl
    | cons t ts ih =>
      intro vs ds ps h
      obtain ⟨_, _, _, _, _, _, rfl, rfl, rfl, _, h⟩ := trodAll_cons h
      simp [ih h]
  have hds : ds.length = n := (hlen hA).trans hn
  have hc := h2.2 W args.toList (fun _ => False) (fun b h => h.elim) h1
  have ha : args.toList.toArray = args := by simp
  rw [ha] at hc
  refine hc.mono fun e W' ⟨v, fp, he, hg, ho, _⟩ => ⟨v, he, ?_⟩
  simp only [B, Ow] at ho
  obtain ⟨rfl, rfl⟩ := ho
  have hsame : ∀ x ∈ p, W.sameAt W' x := fun x hx => Kept.sameAt hg (hlt x (by simpa using hx))
  refine ⟨ds, [], p ++ [], [], p, [], hW', ?_, ?_, ?_, Kept.keptBut hg _, fun h => by cases h⟩
  · rw [List.append_nil, hs ds hds, hr]
    exact trodAll_mk1 (shut_bool hb true)
  · rw [List.append_nil, hs ds hds]
    exact trodAll_carry (DataW.TrodAll.respare hK hfull hp hA fun x hx => by
      have := hlt x (by simpa using hx)
      simpa using this) hsame
  · rw [hv, List.append_nil, hs ds hds]
    rfl
end Go.D
