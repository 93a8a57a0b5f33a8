import Derived.Test.YtamegkbinbplaaatlbDEv
set_option linter.unusedVariables false
namespace Go.D
def isOne : Value → Bool
 | .agg _ => false
 | .tuple _ => false
 | _ => true
def valCells : V → Option (List V)
 | .agg cs => some cs
 | .lit v => bif isOne v then some [.lit v] else none
 | .tup _ => none
 | .own .. => none
 | .obox .. => none
 | .any => none
 | x => some [x]
def tyV (τ : Tau) (t : Nat) (x : V) : V :=
 match x with
 | .lit (.slice none 0 0) =>
  match τ t with
  | some i => match i.k with
   | .slice e => match τ e with
    | some j => bif Nat.blt 0 j.size then .arr j.size 0 [] true else x
    | none => x
   | _ => x
  | none => x
 | x => x
def setL (cells : List V) (off : Nat) (vs : List V) : List V := cells.take off ++ vs ++ cells.drop (off + vs.length)
def fillV (place : Nat → Option (Nat × Nat)) (cells : List V) : List (Nat × V) → Option (List V)
 | [] => some cells
 | (i, x) :: rest =>
  match place i, valCells x with
  | some (off, size), some vs => bif Nat.beq vs.length size && Nat.ble (off + size) cells.length then fillV place (setL cells off vs) rest else none
  | _, _ => none
def evalAll (st : St) : List Operand → Option (List V)
 | [] => some []
 | x :: r => match evalV st x, evalAll st r with
  | some v, some vs => some (v :: vs)
  | _, _ => none
def evalParts (st : St) : List (Nat × Operand) → Option (List (Nat × V))
 | [] => some []
 | (i, x) :: r => match evalV st x, evalParts st r with
  | some v, some vs => some ((i, v) :: vs)
  | _, _ => none
section
variable {w : World} {M : Nat → Prop} {H : Hp} {μ : Nat → Option Nat}
theorem valCells_sound {x : V} {u : Value} {cs : List V} (h : valCells x = some cs) (hs : Sl w M H μ x u) : ∃ us : List Value, u.cells = us.toArray ∧ SlL w M H μ cs us := by
 cases x with
 | agg ds =>
  simp only [valCells, Option.some.injEq] at h
  subst h
  simp only [Sl] at hs
  obtain ⟨us, rfl, hs⟩ := hs
  exact ⟨us, rfl, hs⟩
 | lit v =>
  simp only [Sl] at hs
  subst hs
  simp only [valCells] at h
  cases ho : isOne u with
  | false => rw [ho] at h; cases h
  | true =>
   rw [ho, cond_true, Option.some.injEq] at h
   subst h
   refine ⟨[u], ?_, ?_⟩
   ·cases u <;> first | rfl | cases ho
   ·simp only [SlL, Sl]; exact ⟨u, [], rfl, rfl, rfl⟩
 | arr s n cs' full =>
  simp only [valCells, Option.some.injEq] at h
  subst h
  refine ⟨[u], ?_, by simp only [SlL]; exact ⟨u, [], rfl, hs, rfl⟩⟩
  simp only [Sl, Fr] at hs
  obtain ⟨A, cap, rfl, _⟩ := hs
  rfl
 | fptr cs' off =>
  simp only [valCells, Option.some.injEq] at h
  subst h
  refine ⟨[u], ?_, by simp only [SlL]; exact ⟨u, [], rfl, hs, rfl⟩⟩
  simp only [Sl, Fr] at hs
  obtain ⟨b, o, us, rfl, _⟩ := hs
  rfl
 | fn f caps =>
  simp only [valCells, Option.some.injEq] at h
  subst h
  refine ⟨[u], ?_, by simp only [SlL]; exact ⟨u, [], rfl, hs, rfl⟩⟩
  simp only [Sl] at hs
  obtain ⟨us, rfl, _⟩ := hs
  rfl
 | ref k ver off s n full =>
  simp only [valCells, Option.some.injEq] at h
  subst h
  refine ⟨[u], ?_, by simp only [SlL]; exact ⟨u, [], rfl, hs, rfl⟩⟩
  simp only [Sl] at hs
  obtain ⟨_, ⟨A, m, c, rfl⟩, _⟩ := hs
  rfl
 | ptr k ver off =>
  simp only [valCells, Option.some.injEq] at h
  subst h
  refine ⟨[u], ?_, by simp only [SlL]; exact ⟨u, [], rfl, hs, rfl⟩⟩
  simp only [Sl] at hs
  obtain ⟨_, ⟨a, rfl⟩, _⟩ := hs
  rfl
 | tup vs => simp [valCells] at h
 | own s n cs' full => simp [valCells] at h
 | obox cs' off => simp [valCells] at h
 | any => simp [valCells] at h
theorem tyV_sound {τ : Tau} {t : Nat} {x : V} {u : Value} (hs : Sl w M H μ x u) : Sl w M H μ (tyV τ t x) u := by
 unfold tyV
 split
 ·split
  ·rename_i i hi
   split
   ·rename_i e hk
    split
    ·rename_i j hj
     cases hb : Nat.blt 0 j.size with
     | false => exact hs
     | true =>
      simp only [Sl] at hs
      subst hs
      simp only [cond_true, Sl, Fr]
      have : 0 < j.size := Nat.le_of_ble_eq_true hb
      exact ⟨none, 0, rfl, ⟨this, by simp, Nat.le_refl _, Nat.zero_le _, fun _ => rfl⟩, .inl trivial⟩
    ·exact hs
   ·exact hs
  ·exact hs
 ·exact hs
def soft : V → V
 | .arr s n cs _ => .arr s n cs false
 | x => x
theorem soft_sl {x : V} {v : Value} (h : Sl w M H μ x v) : Sl w M H μ (soft x) v := by
 cases x with
 | arr s n cs full =>
  simp only [soft, Sl, Fr] at h ⊢
  obtain ⟨A, cap, h1, ⟨h2, h3, h4, h5, _⟩, h6⟩ := h
  exact ⟨A, cap, h1, ⟨h2, h3, h4, h5, fun h => by cases h⟩, h6⟩
 | _ => exact h
theorem soft_slL : ∀ {xs : List V} {vs : List Value}, SlL w M H μ xs vs → SlL w M H μ (xs.map soft) vs
 | [], vs, h => h
 | c :: cs, vs, h => by
  simp only [SlL, List.map_cons] at h ⊢
  obtain ⟨u, us', rfl, h1, h2⟩ := h
  exact ⟨u, us', rfl, soft_sl h1, soft_slL h2⟩
def softParts (τ : Tau) (ty : Nat → Nat) : List (Nat × V) → List (Nat × V)
 | [] => []
 | (i, x) :: r => (i, soft (tyV τ (ty i) x)) :: softParts τ ty r
theorem softParts_sl {τ : Tau} {ty : Nat → Nat} : ∀ {vs : List (Nat × V)} {us : List Value}, SlL w M H μ (vs.map (·.2)) us → SlL w M H μ ((softParts τ ty vs).map (·.2)) us
 | [], us, h => h
 | (i, x) :: r, us, h => by
  simp only [SlL, List.map_cons, softParts] at h ⊢
  obtain ⟨u, us', rfl, h1, h2⟩ := h
  exact ⟨u, us', rfl, soft_sl (tyV_sound h1), softParts_sl h2⟩
theorem softParts_fst {τ : Tau} {ty : Nat → Nat} : ∀ {vs : List (Nat × V)}, (softParts τ ty vs).map (·.1) = vs.map (·.1)
 | [] => rfl
 | (i, x) :: r => by simp only [softParts, List.map_cons, softParts_fst (vs := r)]
theorem foldl_set (off : Nat) : ∀ (vs : List Value) (j : Nat) (cells : Array Value), off + j + vs.length ≤ cells.size →
  ((vs.zipIdx j).foldl (fun cs (c, j) => cs.setIfInBounds (off + j) c) cells).toList = cells.toList.take (off + j) ++ vs ++ cells.toList.drop (off + j + vs.length)
 | [], j, cells, h => by simp
 | v :: vs, j, cells, h => by
  simp only [List.length_cons] at h
  simp only [List.zipIdx_cons, List.foldl_cons]
  have := foldl_set off vs (j + 1) (cells.setIfInBounds (off + j) v) (by simp; omega)
  rw [this]
  have hlt : off + j < cells.toList.length := by simp; omega
  rw [Array.toList_setIfInBounds]
  have e1 : (cells.toList.set (off + j) v).take (off + (j + 1)) = cells.toList.take (off + j) ++ [v] := by
   rw [← Nat.add_assoc, List.take_succ_eq_append_getElem (by simpa using hlt), List.take_set_of_le (Nat.le_refl _)]
   simp
  have e2 : (cells.toList.set (off + j) v).drop (off + (j + 1) + vs.length) = cells.toList.drop (off + j + (v :: vs).length) := by
   rw [List.drop_set_of_lt (by omega)]
   congr 1
   simp only [List.length_cons]
   omega
  rw [e1, e2]
  simp
theorem setL_sound {cs vs : List V} {us xs : List Value} {off : Nat} (h : SlL w M H μ cs us) (k : SlL w M H μ vs xs) : SlL w M H μ (setL cs off vs) (us.take off ++ xs ++ us.drop (off + xs.length)) := by
 unfold setL
 rw [k.length]
 exact ((h.take off).append k).append (h.drop _)
theorem fillV_sound {place place' : Nat → Option (Nat × Nat)} (hp : ∀ i o s, place i = some (o, s) → place' i = some (o, s)) : ∀ (parts : List (Nat × V)) (vparts : List (Nat × Value)) (cells res : List V) (us : List Value),
  fillV place cells parts = some res → SlL w M H μ cells us → parts.map (·.1) = vparts.map (·.1) → SlL w M H μ (parts.map (·.2)) (vparts.map (·.2)) →
  ∃ rs : List Value, Instr.fill place' us.toArray vparts = some rs.toArray ∧ SlL w M H μ res rs
 | [], vparts, cells, res, us, h, hc, hi, hv => by
  have : vparts = [] := by simpa using hi.symm
  subst this
  simp only [fillV, Option.some.injEq] at h
  subst h
  exact ⟨us, rfl, hc⟩
 | (i, x) :: parts, vparts, cells, res, us, h, hc, hi, hv => by
  cases vparts with
  | nil => cases hi
  | cons p vparts =>
   obtain ⟨i', v⟩ := p
   simp only [List.map_cons, List.cons.injEq] at hi
   obtain ⟨rfl, hi⟩ := hi
   simp only [List.map_cons, SlL] at hv
   obtain ⟨v', vs', e, hx, hv⟩ := hv
   simp only [List.cons.injEq] at e
   obtain ⟨rfl, rfl⟩ := e
   simp only [fillV] at h
   cases hpl : place i with
   | none => simp only [hpl] at h; cases h
   | some os =>
    obtain ⟨off, size⟩ := os
    cases hvc : valCells x with
    | none => simp only [hpl, hvc] at h; cases h
    | some xs =>
     simp only [hpl, hvc] at h
     cases hb : (Nat.beq xs.length size && Nat.ble (off + size) cells.length) with
     | false => rw [hb] at h; cases h
     | true =>
      rw [hb, cond_true] at h
      simp only [Bool.and_eq_true] at hb
      have h1 := Nat.eq_of_beq_eq_true hb.1
      have h2 := Nat.le_of_ble_eq_true hb.2
      obtain ⟨ws, hw, hws⟩ := valCells_sound hvc hx
      have hl1 := hws.length
      have hl2 := hc.length
      have hset := setL_sound (off := off) hc hws
      obtain ⟨rs, hr, hrs⟩ := fillV_sound hp parts vparts (setL cells off xs) res _ h hset hi hv
      refine ⟨rs, ?_, hrs⟩
      have e0 : ¬ (v.cells.size ≠ size || decide (off + v.cells.size > us.toArray.size)) = true := by
       rw [hw]
       simp
       omega
      rw [Instr.fill, hp i off size hpl]
      simp only
      rw [if_neg e0]
      have e1 := foldl_set off ws 0 us.toArray (by simp; omega)
      have e2 : v.cells.zipIdx.foldl (fun cs (c, j) => cs.setIfInBounds (off + j) c) us.toArray = (us.take off ++ ws ++ us.drop (off + ws.length)).toArray := by
       apply Array.toList_inj.1
       rw [hw, ← Array.foldl_toList]
       simpa using e1
      rw [e2]
      exact hr
theorem evalAll_sound {st : St} {a : Act} (hT : Slots st a w M μ) :
  ∀ {ys : List Operand} {xs : List V}, evalAll st ys = some xs → SlL w M st.H μ xs (ys.map a.eval)
 | [], xs, h => by simp only [evalAll, Option.some.injEq] at h; subst h; simp [SlL]
 | y :: ys, xs, h => by
  simp only [evalAll] at h
  cases h1 : evalV st y with
  | none => simp only [h1] at h; cases h
  | some v =>
   cases h2 : evalAll st ys with
   | none => simp only [h1, h2] at h; cases h
   | some vs =>
    simp only [h1, h2, Option.some.injEq] at h
    subst h
    simp only [List.map_cons, SlL]
    exact ⟨_, _, rfl, evalV_sound hT h1, evalAll_sound hT h2⟩
theorem evalParts_sound {st : St} {a : Act} (hT : Slots st a w M μ) :
  ∀ {ys : List (Nat × Operand)} {xs : List (Nat × V)}, evalParts st ys = some xs →
   xs.map (·.1) = (ys.map fun (i, x) => (i, a.eval x)).map (·.1) ∧ SlL w M st.H μ (xs.map (·.2)) ((ys.map fun (i, x) => (i, a.eval x)).map (·.2))
 | [], xs, h => by simp only [evalParts, Option.some.injEq] at h; subst h; simp [SlL]
 | (i, y) :: ys, xs, h => by
  simp only [evalParts] at h
  cases h1 : evalV st y with
  | none => simp only [h1] at h; cases h
  | some v =>
   cases h2 : evalParts st ys with
   | none => simp only [h1, h2] at h; cases h
   | some vs =>
    simp only [h1, h2, Option.some.injEq] at h
    subst h
    obtain ⟨h3, h4⟩ := evalParts_sound hT h2
    simp only [List.map_cons, SlL]
    exact ⟨by rw [h3], _, _, rfl, evalV_sound hT h1, h4⟩
end
end Go.D
