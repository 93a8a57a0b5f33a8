/- Plain Lean for the plain laws: reads, wraps and loops of the printed functions. -/
import Derived.Test.YtedeefgahbhofaaDOwn3
import Derived.Test.YtedeefgahbhofaaDNil
import Derived.Test.YtedeefgahbhofaaDMin
import Derived.Test.YtedeefgahbhofaaDRead
set_option linter.unusedVariables false
namespace Go.D

theorem w64_of {n : Int} (h1 : -9223372036854775808 ≤ n) (h2 : n ≤ 9223372036854775807) : w64 n = n := by
  have hm : IntKind.i64.min = -9223372036854775808 := by decide
  have hM : IntKind.i64.max = 9223372036854775807 := by decide
  simp [w64, IntKind.wrap, IntKind.signed, IntKind.bits]
  omega

theorem getI_nat {α : Type} {xs : List α} {i : Nat} : getI xs (i : Int) = xs[i]? := by
  unfold getI
  rw [if_pos (by omega), Int.toNat_natCast]

theorem getI_lt {α : Type} {xs : List α} {i : Int} (h0 : 0 ≤ i) (h1 : i < xs.length) : ∃ x, getI xs i = some x ∧ xs[i.toNat]? = some x := by
  unfold getI
  rw [if_pos h0]
  have : i.toNat < xs.length := by omega
  exact ⟨xs[i.toNat], by rw [List.getElem?_eq_getElem this], by rw [List.getElem?_eq_getElem this]⟩

theorem app_lt {α : Type} {xs ys : List α} (h : xs.length + ys.length < 68719476736) : app xs ys = some (xs ++ ys) := if_pos h

theorem succ_w {i n : Nat} (h : i < n) (hn : n ≤ 70368744177663) : w64 ((i : Int) + 1) = ((i + 1 : Nat) : Int) := by
  rw [w64_of (by omega) (by omega)]
  omega

/-- A loop that looks at each element: as long as 'p' it goes on. -/
theorem loop_all {α : Type} {xs : List α} {L : Nat → Int → Option Bool} {p : α → Bool} {fin : Bool} (hlen : xs.length ≤ 70368744177662)
    (h : ∀ (f i : Nat) (v : α), i < xs.length → xs[i]? = some v → w64 ((i : Int) + 1) = ((i + 1 : Nat) : Int) → L (f + 1) i = bif p v then L f ((i + 1 : Nat) : Int) else some false)
    (he : ∀ f, L (f + 1) (xs.length : Int) = some fin) : L FUEL 0 = some (xs.all p && fin) := by
  have main : ∀ (k f i : Nat), i + k = xs.length → k < f → L f (i : Int) = some ((xs.drop i).all p && fin) := by
    intro k
    induction k with
    | zero =>
      intro f i hi hf
      obtain ⟨f, rfl⟩ : ∃ f', f = f' + 1 := ⟨f - 1, by omega⟩
      have : i = xs.length := by omega
      subst this
      rw [he, List.drop_length]
      simp
    | succ k ih =>
      intro f i hi hf
      obtain ⟨f, rfl⟩ : ∃ f', f = f' + 1 := ⟨f - 1, by omega⟩
      have hlt : i < xs.length := by omega
      rw [h f i xs[i] hlt (List.getElem?_eq_getElem hlt) (succ_w hlt (by omega)), ih f (i + 1) (by omega) (by omega), List.drop_eq_getElem_cons hlt, List.all_cons]
      cases p xs[i] <;> simp
  have := main xs.length FUEL 0 (by omega) (by unfold FUEL; omega)
  simpa using this

/-- A loop that looks for the first element with 'p'. -/
theorem loop_find {α : Type} {xs : List α} {L : Nat → Int → Option Int} {p : α → Bool} (hlen : xs.length ≤ 70368744177662)
    (h : ∀ (f i : Nat) (v : α), i < xs.length → xs[i]? = some v → w64 ((i : Int) + 1) = ((i + 1 : Nat) : Int) → L (f + 1) i = bif p v then some (i : Int) else L f ((i + 1 : Nat) : Int))
    (he : ∀ f, L (f + 1) (xs.length : Int) = some (-1)) : ∃ r, L FUEL 0 = some r ∧ decide (r ≥ 0) = xs.any p := by
  have main : ∀ (k f i : Nat), i + k = xs.length → k < f → ∃ r, L f (i : Int) = some r ∧ decide (r ≥ 0) = (xs.drop i).any p := by
    intro k
    induction k with
    | zero =>
      intro f i hi hf
      obtain ⟨f, rfl⟩ : ∃ f', f = f' + 1 := ⟨f - 1, by omega⟩
      have : i = xs.length := by omega
      subst this
      rw [he, List.drop_length]
      exact ⟨_, rfl, by simp⟩
    | succ k ih =>
      intro f i hi hf
      obtain ⟨f, rfl⟩ : ∃ f', f = f' + 1 := ⟨f - 1, by omega⟩
      have hlt : i < xs.length := by omega
      rw [h f i xs[i] hlt (List.getElem?_eq_getElem hlt) (succ_w hlt (by omega)), List.drop_eq_getElem_cons hlt, List.any_cons]
      cases hp : p xs[i] with
      | true => exact ⟨_, rfl, by simp⟩
      | false =>
        obtain ⟨r, h1, h2⟩ := ih f (i + 1) (by omega) (by omega)
        exact ⟨r, h1, by simp [h2]⟩
  have := main xs.length FUEL 0 (by omega) (by unfold FUEL; omega)
  simpa using this

/-- A loop over a list with a state, against any function of the elements left and the state. -/
theorem loop_rec {α σ β : Type} {xs : List α} {L : Nat → Int → σ → Option β} (R : List α → σ → β) (Inv : Nat → σ → Prop) (hlen : xs.length ≤ 70368744177662)
    (h : ∀ (f i : Nat) (s : σ) (v : α) (rest : List α), i < xs.length → xs[i]? = some v → w64 ((i : Int) + 1) = ((i + 1 : Nat) : Int) → Inv i s →
      L (f + 1) i s = some (R (v :: rest) s) ∨ ∃ s', Inv (i + 1) s' ∧ L (f + 1) i s = L f ((i + 1 : Nat) : Int) s' ∧ R (v :: rest) s = R rest s')
    (he : ∀ f s, Inv xs.length s → L (f + 1) (xs.length : Int) s = some (R [] s)) {s : σ} (h0 : Inv 0 s) : L FUEL 0 s = some (R xs s) := by
  have main : ∀ (k f i : Nat) (s : σ), i + k = xs.length → k < f → Inv i s → L f (i : Int) s = some (R (xs.drop i) s) := by
    intro k
    induction k with
    | zero =>
      intro f i s hi hf hI
      obtain ⟨f, rfl⟩ : ∃ f', f = f' + 1 := ⟨f - 1, by omega⟩
      have : i = xs.length := by omega
      subst this
      rw [he _ _ hI, List.drop_length]
    | succ k ih =>
      intro f i s hi hf hI
      obtain ⟨f, rfl⟩ : ∃ f', f = f' + 1 := ⟨f - 1, by omega⟩
      have hlt : i < xs.length := by omega
      rw [List.drop_eq_getElem_cons hlt]
      rcases h f i s xs[i] (xs.drop (i + 1)) hlt (List.getElem?_eq_getElem hlt) (succ_w hlt (by omega)) hI with h1 | ⟨s', h1, h2, h3⟩
      · exact h1
      · rw [h2, h3]
        exact ih f (i + 1) s' (by omega) (by omega) h1
  have := main xs.length FUEL 0 s (by omega) (by unfold FUEL; omega) h0
  simpa using this

/-- The same, with a fact of the answer for the function. -/
theorem loop_q {α σ β : Type} {xs : List α} {L : Nat → Int → σ → Option β} (Q : List α → σ → β → Prop) (Inv : Nat → σ → Prop) (hlen : xs.length ≤ 70368744177662)
    (h : ∀ (f i : Nat) (s : σ) (v : α) (rest : List α), i + (rest.length + 1) = xs.length → i < xs.length → xs[i]? = some v → w64 ((i : Int) + 1) = ((i + 1 : Nat) : Int) → Inv i s →
      (∃ y, L (f + 1) i s = some y ∧ Q (v :: rest) s y) ∨ ∃ s', Inv (i + 1) s' ∧ L (f + 1) i s = L f ((i + 1 : Nat) : Int) s' ∧ ∀ y, Q rest s' y → Q (v :: rest) s y)
    (he : ∀ f s, Inv xs.length s → ∃ y, L (f + 1) (xs.length : Int) s = some y ∧ Q [] s y) {s : σ} (h0 : Inv 0 s) : ∃ y, L FUEL 0 s = some y ∧ Q xs s y := by
  have main : ∀ (k f i : Nat) (s : σ), i + k = xs.length → k < f → Inv i s → ∃ y, L f (i : Int) s = some y ∧ Q (xs.drop i) s y := by
    intro k
    induction k with
    | zero =>
      intro f i s hi hf hI
      obtain ⟨f, rfl⟩ : ∃ f', f = f' + 1 := ⟨f - 1, by omega⟩
      have : i = xs.length := by omega
      subst this
      rw [List.drop_length]
      exact he _ _ hI
    | succ k ih =>
      intro f i s hi hf hI
      obtain ⟨f, rfl⟩ : ∃ f', f = f' + 1 := ⟨f - 1, by omega⟩
      have hlt : i < xs.length := by omega
      rw [List.drop_eq_getElem_cons hlt]
      rcases h f i s xs[i] (xs.drop (i + 1)) (by rw [List.length_drop]; omega) hlt (List.getElem?_eq_getElem hlt) (succ_w hlt (by omega)) hI with h1 | ⟨s', h1, h2, h3⟩
      · exact h1
      · obtain ⟨y, h4, h5⟩ := ih f (i + 1) s' (by omega) (by omega) h1
        exact ⟨y, h2.trans h4, h3 y h5⟩
  have := main xs.length FUEL 0 s (by omega) (by unfold FUEL; omega) h0
  simpa using this

def okL {α : Type} (ok : α → Prop) (xs : List α) : Prop := xs.length ≤ 1048576 ∧ ∀ x ∈ xs, ok x

/-- A function that takes a size off what is left: negative: too large. -/
def SzP {α : Type} (z : α → Int → Option Int) (W ok : α → Prop) : Prop := ∀ x n, W x → 0 ≤ n → n ≤ 1048576 → ∃ r, z x n = some r ∧ (r < 0 ∨ (0 ≤ r ∧ r ≤ n ∧ ok x))

theorem sz_cut {k : Nat} {n : Int} (hk : k ≤ 9223372036854775807) (h0 : 0 ≤ n) (hn : n ≤ 1048576) : w64 (n - (k : Int)) = n - k := w64_of (by omega) (by omega)

theorem sz_one {α : Type} {z : α → Int → Option Int} {W : α → Prop} (k : α → Nat) (hk : ∀ x, W x → k x ≤ 9223372036854775807)
    (hz : ∀ x n, z x n = bif (decide (w64 (n - ((k x : Nat) : Int)) < 0)) then some (-1) else some (w64 (n - ((k x : Nat) : Int)))) : SzP z W (fun x => k x ≤ 1048576) := by
  intro x n hW h0 hn
  rw [hz, sz_cut (hk x hW) h0 hn]
  by_cases h : n - (k x : Int) < 0
  · exact ⟨-1, by rw [decide_eq_true h, cond_true], .inl (by omega)⟩
  · exact ⟨n - k x, by rw [decide_eq_false h, cond_false], .inr ⟨by omega, by omega, by simp only; omega⟩⟩

theorem sz_flat {α : Type} {S : List α → Int → Option Int} {W ok : α → Prop} (hok : ∀ x, ok x) (hb : ∀ xs, listW W xs → xs.length ≤ 9223372036854775807)
    (hz : ∀ x n, S x n = bif (decide (w64 (n - ((x.length : Nat) : Int)) < 0)) then some (-1) else some (w64 (n - ((x.length : Nat) : Int)))) : SzP S (listW W) (okL ok) := by
  intro x n hW h0 hn
  obtain ⟨r, h1, h2⟩ := sz_one (z := S) (W := listW W) (fun x => x.length) hb hz x n hW h0 hn
  exact ⟨r, h1, h2.imp id fun h => ⟨h.1, h.2.1, h.2.2, fun x _ => hok x⟩⟩

theorem sz_loop {α : Type} {z : α → Int → Option Int} {S : List α → Int → Option Int} {L : List α → Nat → Int → Int → Option Int} {W ok : α → Prop} (hz : SzP z W ok)
    (hS : ∀ a n, S a n = bif (decide (w64 (n - ((a.length : Nat) : Int)) < 0)) then some (-1) else L a FUEL (w64 (n - ((a.length : Nat) : Int))) 0)
    (hL : ∀ a f n i, L a (f + 1) n i = bif (decide (i < ((a.length : Nat) : Int))) then (getI a i).bind fun v => (z v n).bind fun r => bif (decide (r < 0)) then some (-1) else L a f r (w64 (i + 1)) else some n) :
    SzP S (listW W) (okL ok) := by
  intro x n hW h0 hn
  rw [hS, sz_cut hW.1 h0 hn]
  by_cases h : n - (x.length : Int) < 0
  · exact ⟨-1, by rw [decide_eq_true h, cond_true], .inl (by omega)⟩
  rw [decide_eq_false h, cond_false]
  have key := loop_q (xs := x) (L := fun f i (m : Int) => L x f m i) (fun rest m y => y < 0 ∨ (0 ≤ y ∧ y ≤ m ∧ ∀ v ∈ rest, ok v)) (fun i m => 0 ≤ m ∧ m ≤ n) (by omega)
    (fun f i m v rest hr hi hv hw hI => by
      have hlt : (i : Int) < x.length := by omega
      obtain ⟨r, h1, h2⟩ := hz v m (hW.2 v (List.mem_of_getElem? hv)) hI.1 (by omega)
      rcases h2 with h2 | ⟨h2, h3, h4⟩
      · refine .inl ⟨-1, ?_, .inl (by omega)⟩
        simp only [hL, hlt, decide_true, cond_true, getI_nat, hv, Option.bind_some, h1, h2]
      · refine .inr ⟨r, ⟨h2, by omega⟩, ?_, fun y hy => ?_⟩
        · have : ¬ r < 0 := by omega
          simp only [hL, hlt, decide_true, cond_true, getI_nat, hv, Option.bind_some, h1, this, decide_false, cond_false, hw]
        · rcases hy with hy | ⟨hy1, hy2, hy3⟩
          · exact .inl hy
          · refine .inr ⟨hy1, by omega, fun u hu => ?_⟩
            rcases List.mem_cons.1 hu with rfl | hu
            · exact h4
            · exact hy3 u hu)
    (fun f m hI => ⟨m, by simp only [hL, Int.lt_irrefl, decide_false, cond_false], .inr ⟨hI.1, Int.le_refl _, fun v hv => by cases hv⟩⟩) (s := n - (x.length : Int)) ⟨by omega, by omega⟩
  obtain ⟨y, h1, h2⟩ := key
  exact ⟨y, h1, h2.imp id fun h' => ⟨h'.1, by omega, by omega, h'.2.2⟩⟩

theorem to_loop {α β : Type} {c : α → β} {t : α → Option β} {S : List α → Option (List β)} {L : List α → Nat → Int → List β → Option (List β)} {d : β} {ok : α → Prop} (ht : ∀ x, ok x → t x = some (c x))
    (hS : ∀ a, S a = (mkI ((a.length : Nat) : Int) d).bind fun v => L a FUEL 0 v)
    (hL : ∀ a f i st, L a (f + 1) i st = bif (decide (i < ((a.length : Nat) : Int))) then (getI a i).bind fun v => (t v).bind fun y => (getI st i).bind fun _ => L a f (w64 (i + 1)) (st.set i.toNat y) else some st) :
    ∀ xs, okL ok xs → S xs = some (xs.map c) := by
  intro xs hx
  have hl := hx.1
  rw [hS, mkI, if_pos (by omega), Option.bind_some]
  have key := loop_q (xs := xs) (L := fun f i (st : List β) => L xs f i st) (fun rest st y => y = st.take (st.length - rest.length) ++ rest.map c) (fun i st => st.length = xs.length) (by omega)
    (fun f i st v rest hr hi hv hw hI => by
      have hlt : (i : Int) < xs.length := by omega
      obtain ⟨o, ho, _⟩ := getI_lt (xs := st) (i := (i : Int)) (by omega) (by omega)
      refine .inr ⟨st.set i (c v), by rw [List.length_set]; exact hI, ?_, fun y hy => ?_⟩
      · rw [hL, decide_eq_true hlt, cond_true, getI_nat, hv, Option.bind_some, ht v (hx.2 v (List.mem_of_getElem? hv)), Option.bind_some, ho, Option.bind_some, hw, Int.toNat_natCast]
      · have e1 : (st.set i (c v)).length - rest.length = i + 1 := by rw [List.length_set]; omega
        have e2 : st.length - (v :: rest).length = i := by simp only [List.length_cons]; omega
        rw [e1] at hy
        rw [e2, hy, List.take_add_one, List.take_set_of_le (Nat.le_refl i), List.getElem?_set_self (by omega)]
        simp)
    (fun f st hI => ⟨st, by simp only [hL, Int.lt_irrefl, decide_false, cond_false], by simp⟩) (s := List.replicate ((xs.length : Int)).toNat d) (by simp)
  obtain ⟨y, h1, h2⟩ := key
  rw [h1, h2]
  simp

theorem eq_loop {β : Type} {e : β → β → Option Bool} {S : List β → List β → Option Bool} {L : List β → List β → Nat → Int → Option Bool} {ok : β → Prop} (he : ∀ x, ok x → e x x = some true)
    (hS : ∀ a b, S a b = bif (!(((a.length : Nat) : Int) == ((b.length : Nat) : Int))) then some false else L a b FUEL 0)
    (hL : ∀ a b f i, L a b (f + 1) i = bif (decide (i < ((a.length : Nat) : Int))) then (getI a i).bind fun v => (getI b i).bind fun u => (e v u).bind fun r => bif (!r) then some false else L a b f (w64 (i + 1)) else some true) :
    ∀ xs, okL ok xs → S xs xs = some true := by
  intro xs hx
  have hl := hx.1
  rw [hS, beq_self_eq_true, Bool.not_true, cond_false]
  have := loop_all (xs := xs) (L := fun f i => L xs xs f i) (p := fun _ => true) (fin := true) (by omega) (fun f i v hi hv hw => by
    have hlt : (i : Int) < xs.length := by omega
    simp only [hL, hlt, decide_true, cond_true, getI_nat, hv, Option.bind_some, he v (hx.2 v (List.mem_of_getElem? hv)), Bool.not_true, cond_false, hw]) (fun f => by
    simp only [hL, Int.lt_irrefl, decide_false, cond_false])
  rw [this]
  simp

/-- A pair of an answer and whether it holds, against an answer that may be missing. -/
def Yes {γ : Type} (m : Option γ) (y : γ × Bool) : Prop := (m = none ∧ y.2 = false) ∨ ∃ c, m = some c ∧ y = (c, true)
end Go.D
