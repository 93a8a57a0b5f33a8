import Derived.Test.YtgddjdemlelffaatlbDOwn2
import Derived.Laws.Concat
import Derived.Laws.BytesString
set_option linter.unusedVariables false
namespace Go.D
theorem FrL.get_of {w : World} {M : Nat → Prop} : ∀ {xs : List V} {us : List Value}, xs.length = us.length → (∀ (i : Nat) x u, xs[i]? = some x → us[i]? = some u → Fr w M x u) → FrL w M xs us
 | [], [], _, _ => by simp only [FrL]
 | [], u :: us, h, _ => by simp at h
 | x :: xs, [], h, _ => by simp at h
 | x :: xs, u :: us, h, k => by
  simp only [FrL]
  exact ⟨u, us, rfl, k 0 x u rfl rfl, FrL.get_of (by simpa using h) fun i y v h1 h2 => k (i + 1) y v (by simpa using h1) (by simpa using h2)⟩
section
variable {P : Program} {Γ : Ctx} {τ : Tau} {α : Type} [Enc α]
theorem eL_rep_get (n : Nat) (z : α) {q : Nat} (hq : q < n * Enc.sz α) : (eL (List.replicate n z))[q]? = (Enc.cells z)[q % Enc.sz α]? := by
 have hp : 0 < Enc.sz α := Enc.pos
 have h1 : q / Enc.sz α < n := Nat.div_lt_of_lt_mul (by rwa [Nat.mul_comm])
 have h2 : (List.replicate n z)[q / Enc.sz α]? = some z := by rw [List.getElem?_replicate, if_pos h1]
 have h3 := eL_nth h2 (Nat.mod_lt q hp)
 have h4 : q / Enc.sz α * Enc.sz α + q % Enc.sz α = q := by rw [Nat.mul_comm]; exact Nat.div_add_mod q _
 rw [h4] at h3
 exact h3
structure MkI where
 d : Nat
 s : Nat
 zero : List V
 n : Int
theorem CeL.refrz2 {w : World} {M : Nat → Prop} {H H' : Hp} {μ μ' : Nat → Option Nat} : ∀ {xs : List V} {vs : List Value} {fp : List Nat}, CeL w M H μ xs vs fp → xs.all frozenV = true → CeL w M H' μ' xs vs fp
 | [], vs, fp, h, _ => by simpa only [CeL] using h
 | c :: cs, vs, fp, h, hb => by
  simp only [List.all_cons, Bool.and_eq_true] at hb
  simp only [CeL] at h ⊢
  obtain ⟨u, us', f, f', rfl, rfl, h1, h2⟩ := h
  refine ⟨u, us', f, f', rfl, rfl, ?_, CeL.refrz2 h2 hb.2⟩
  rcases h1 with h1 | h1
  ·exact .inl h1
  ·refine .inr ⟨h1.1, ?_⟩
   have := h1.2
   cases c <;> simp_all [frozenV, Sl]
def mvV (k k' : Nat) : V → V
 | .ref j ver off s n f => bif Nat.beq j k then .ref k' ver off s n f else .ref j ver off s n f
 | .ptr j ver off => bif Nat.beq j k then .ptr k' ver off else .ptr j ver off
 | x => x
def mvOK (k' : Nat) : V → Bool
 | .ref j _ _ _ _ _ => !Nat.beq j k'
 | .ptr j _ _ => !Nat.beq j k'
 | .agg cs => cs.all frozenV
 | .tup cs => cs.all frozenV
 | .fn _ cs => frzL cs
 | .lit _ => true
 | .arr .. => true
 | .fptr .. => true
 | _ => false
def mvL (k k' : Nat) : List (Nat × V) → List (Nat × V)
 | [] => []
 | (s, x) :: r => (s, mvV k k' x) :: mvL k k' r
def mvLOK (k' : Nat) : List (Nat × V) → Bool
 | [] => true
 | (_, x) :: r => mvOK k' x && mvLOK k' r
theorem mem_mvL {k k' : Nat} : ∀ {l : List (Nat × V)} {s : Nat} {y : V}, mvLOK k' l = true → (s, y) ∈ mvL k k' l → ∃ x, (s, x) ∈ l ∧ y = mvV k k' x ∧ mvOK k' x = true
 | [], s, y, _, h => by cases h
 | (t, x) :: r, s, y, ho, h => by
  simp only [mvLOK, Bool.and_eq_true] at ho
  simp only [mvL, List.mem_cons, Prod.mk.injEq] at h
  rcases h with ⟨rfl, rfl⟩ | h
  ·exact ⟨x, by simp, rfl, ho.1⟩
  ·obtain ⟨z, h1, h2⟩ := mem_mvL ho.2 h
   exact ⟨z, List.mem_cons_of_mem _ h1, h2⟩
theorem Imp.mvKey {st : St} (k k' : Nat) (hpin : ∀ i b, Γ.L i b → k ≠ i ∧ k' ≠ i) {v : Nat} {cs : List V} (h : blkAt st.H k v = some ⟨v, cs⟩) (h' : st.H[k']? = some none) (hf : blkFrz st.H) (ho : mvLOK k' st.tmps = true) :
  Imp Γ st { st with tmps := mvL k k' st.tmps, H := (st.H.set k none).set k' (some ⟨v, cs⟩) } := by
 obtain ⟨b1, _⟩ := blkAt_spec h
 have hkl : k < st.H.length := (List.getElem?_eq_some_iff.1 b1).1
 have hkl' : k' < st.H.length := (List.getElem?_eq_some_iff.1 h').1
 have hne : k ≠ k' := fun e => by rw [e, h'] at b1; cases b1
 have hs : ((st.H.set k none).set k' (some ⟨v, cs⟩))[k']? = some (some ⟨v, cs⟩) := by rw [List.getElem?_set_self]; simpa using hkl'
 have hs2 : ((st.H.set k none).set k' (some ⟨v, cs⟩))[k]? = some none := by rw [List.getElem?_set_ne (fun e => hne e.symm), List.getElem?_set_self hkl]
 have hot : ∀ j, j ≠ k → j ≠ k' → ((st.H.set k none).set k' (some ⟨v, cs⟩))[j]? = st.H[j]? := fun j h1 h2 => by rw [List.getElem?_set_ne (fun e => h2 e.symm), List.getElem?_set_ne (fun e => h1 e.symm)]
 have hlen : ((st.H.set k none).set k' (some ⟨v, cs⟩)).length = st.H.length := by simp
 refine Imp.of_own rfl fun a w M μ fp G O hS => ⟨M, updN μ k' (μ k), updN fp k' (fp k), fun b => if G b = some k then some k' else if G b = some k' then none else G b, ⟨fun j blk hj => ?_, fun j blk hj => ?_, fun b hb => ?_, O.m0, O.lt, fun b hb => ?_, fun b hb => ?_, O.kept, fun i b hb => ?_⟩, fun s y hy => ?_⟩
 ·have key : ∀ (j0 : Nat) (blk' : Blk), st.H[j0]? = some (some blk') → BlkR w M ((st.H.set k none).set k' (some ⟨v, cs⟩)) (updN μ k' (μ k)) (μ j0) blk' (fp j0) := by
   intro j0 blk' hb'
   have h1 := O.blk j0 blk' hb'
   have h2 := blkFrz_get hf hb'
   cases hm : μ j0 with
   | none => rw [hm] at h1; exact h1
   | some b =>
    rw [hm] at h1
    obtain ⟨c, e, us, hh, hce, hlie⟩ := h1
    exact ⟨c, e, us, hh, hce.refrz2 h2, hlie⟩
  by_cases hjk : j = k'
  ·subst hjk
   rw [hs] at hj
   cases hj
   simp only [updN, if_true]
   exact key k _ b1
  ·by_cases hjk2 : j = k
   ·subst hjk2; rw [hs2] at hj; cases hj
   ·rw [hot j hjk2 hjk] at hj
    simp only [updN, if_neg hjk]
    exact key j _ hj
 ·by_cases hjk : j = k'
  ·subst hjk
   rw [hs] at hj
   cases hj
   obtain ⟨m1, m2, m3⟩ := O.mine k _ b1
   simp only [updN, if_true]
   exact ⟨fun b e => ⟨by rw [(m1 b e).1]; simp, (m1 b e).2⟩, fun b hb => by rw [m2 b hb]; simp, m3⟩
  ·by_cases hjk2 : j = k
   ·subst hjk2; rw [hs2] at hj; cases hj
   ·rw [hot j hjk2 hjk] at hj
    obtain ⟨m1, m2, m3⟩ := O.mine j _ hj
    simp only [updN, if_neg hjk]
    refine ⟨fun b e => ⟨?_, (m1 b e).2⟩, fun b hb => ?_, m3⟩
    ·rw [(m1 b e).1, if_neg (by simpa using hjk2), if_neg (by simpa using hjk)]
    ·rw [m2 b hb, if_neg (by simpa using hjk2), if_neg (by simpa using hjk)]
 ·refine O.sub b fun hg => ?_
  simp only [hg] at hb
  exact hb (by simp)
 ·refine O.new b fun hg => ?_
  simp only [hg] at hb
  exact hb (by simp)
 ·refine O.apart b fun hg => ?_
  simp only [hg] at hb
  exact hb (by simp)
 ·obtain ⟨p1, ⟨blk, p2⟩, p3⟩ := O.pin i b hb
  obtain ⟨q1, q2⟩ := hpin i b hb
  exact ⟨by simp only [updN, if_neg (show ¬ (i = k') from fun e => q2 e.symm)]; exact p1, ⟨blk, by rw [hot i (fun e => q1 e.symm) (fun e => q2 e.symm)]; exact p2⟩, p3⟩
 ·obtain ⟨x, hx, rfl, hok⟩ := mem_mvL ho hy
  obtain ⟨u, hu, hsl⟩ := hS s x hx
  refine ⟨u, hu, ?_⟩
  cases x with
  | ref j ver off sz n f =>
   simp only [mvOK, Bool.not_eq_true'] at hok
   have hj' : j ≠ k' := fun e => by rw [e, Nat.beq_refl] at hok; cases hok
   simp only [Sl] at hsl
   simp only [mvV]
   cases hb : Nat.beq j k with
   | true =>
    have := Nat.eq_of_beq_eq_true hb
    subst this
    rw [cond_true]
    simp only [Sl]
    refine ⟨by rw [hlen]; exact hkl', hsl.2.1, fun blk hbk => ?_⟩
    rw [hs] at hbk
    cases hbk
    simp only [updN, if_true]
    exact hsl.2.2 _ b1
   | false =>
    have hjk : j ≠ k := fun e => by rw [e, Nat.beq_refl] at hb; cases hb
    rw [cond_false]
    simp only [Sl]
    refine ⟨by rw [hlen]; exact hsl.1, hsl.2.1, fun blk hbk => ?_⟩
    rw [hot j hjk hj'] at hbk
    simp only [updN, if_neg hj']
    exact hsl.2.2 _ hbk
  | ptr j ver off =>
   simp only [mvOK, Bool.not_eq_true'] at hok
   have hj' : j ≠ k' := fun e => by rw [e, Nat.beq_refl] at hok; cases hok
   simp only [Sl] at hsl
   simp only [mvV]
   cases hb : Nat.beq j k with
   | true =>
    have := Nat.eq_of_beq_eq_true hb
    subst this
    rw [cond_true]
    simp only [Sl]
    refine ⟨by rw [hlen]; exact hkl', hsl.2.1, fun blk hbk => ?_⟩
    rw [hs] at hbk
    cases hbk
    simp only [updN, if_true]
    exact hsl.2.2 _ b1
   | false =>
    have hjk : j ≠ k := fun e => by rw [e, Nat.beq_refl] at hb; cases hb
    rw [cond_false]
    simp only [Sl]
    refine ⟨by rw [hlen]; exact hsl.1, hsl.2.1, fun blk hbk => ?_⟩
    rw [hot j hjk hj'] at hbk
    simp only [updN, if_neg hj']
    exact hsl.2.2 _ hbk
  | lit u => simpa only [mvV, Sl] using hsl
  | arr => simpa only [mvV, Sl] using hsl
  | fptr => simpa only [mvV, Sl] using hsl
  | agg cs =>
   simp only [mvOK] at hok
   exact (hsl.fr (by simp only [frz]; exact frzL_of_all hok)).sl
  | tup cs =>
   simp only [mvOK] at hok
   exact (hsl.fr (by simp only [frz]; exact frzL_of_all hok)).sl
  | fn f cs =>
   simp only [mvOK] at hok
   exact (hsl.fr (by simp only [frz]; exact hok)).sl
  | own => simp [mvOK] at hok
  | obox => simp [mvOK] at hok
  | any => simp [mvOK] at hok
end
end Go.D
