import Derived.Test.YtmcciakfjapjeaaEcDOwn2
import Derived.Laws.Concat
import Derived.Laws.BytesString
set_option linter.unusedVariables false
namespace Go.D
section
variable {P : Program} {Γ : Ctx} {τ : Tau} {α : Type} [Enc α]
structure MkI where
 d : Nat
 s : Nat
 zero : List V
 n : Int
def appT (xs ys : List α) (n : Nat) : Option (List α) := if n + ys.length < 68719476736 then some (xs.take n ++ ys) else none
theorem opsP_apt (hT : TOK P τ) {ops : Array Oper} {Q : Exit → St → Prop} {j : Nat} {st : St} (d k ver n : Nat) (hpin : ∀ i b, Γ.L i b → k ≠ i) {xs ys zs : List α} (hz : appT xs ys n = some zs) (hle : n ≤ xs.length)
  (h : appV τ ops j st = some ⟨d, k, ver, Enc.sz α, n, eL xs, ys.length, eL ys⟩)
  (hk : opsP P Γ ops Q (j + 1) ({ st with H := setH st.H k (some ⟨ver + 1, eL zs⟩) }.set d (.ref k (ver + 1) 0 (Enc.sz α) zs.length false))) : opsP P Γ ops Q j st := by
 unfold appT at hz
 split at hz
 ·rename_i hlen
  cases hz
  unfold appV at h
  split at h
  ·rename_i o ho
   split at h
   ·rename_i c d' hop hd
    split at h
    ·rename_i y x t tx hc ha hat
     split at h
     ·rename_i e ti e' ti' k' ver' s n f s' m ns f' ht htx hy hx
      split at h
      ·rename_i blk hb
       cases hcc : (Nat.beq e e' && Nat.beq ti.size s && Nat.beq s' s && Nat.beq ti'.size ti.size && Nat.beq ti.zero.length ti.size && Nat.ble ti.bytes 1024) with
       | false => rw [hcc] at h; cases h
       | true =>
        rw [hcc, cond_true] at h
        simp only [Option.some.injEq, AppI.mk.injEq] at h
        obtain ⟨rfl, rfl, rfl, rfl, rfl, hcs, rfl, rfl⟩ := h
        simp only [Bool.and_eq_true] at hcc
        obtain ⟨⟨⟨⟨⟨c1, c2⟩, c3⟩, c4⟩, c5⟩, c6⟩ := hcc
        have c1 := Nat.eq_of_beq_eq_true c1
        subst c1
        have c2 := Nat.eq_of_beq_eq_true c2
        have c3 := Nat.eq_of_beq_eq_true c3
        have c5 := Nat.eq_of_beq_eq_true c5
        subst c3
        have hti : ti = ti' := by
         have h1 := sliceOf_elem ht
         have h2 := sliceOf_elem htx
         rw [h1] at h2
         exact Option.some.inj h2
        subst hti
        have hd' := dstOf_spec hd
        have ho' := opAt_spec ho
        refine opsP_op ho'.op ho'.wanted (opP_append (cells' := eL (xs.take n ++ ys)) hT hpin hop hc ha hat ht htx c2 c5 c6 (fun a w M μ hS => evalV_sound hS hy) hb ?_ hx (eL_one ys) hlen ?_ hd'.1 (Nat.ble_eq_true_of_le hd'.2) ?_)
        ·rw [hcs, eL_len]; exact Nat.mul_le_mul_right _ hle
        ·rw [hcs, eL_take, ← eL_append]
        ·have : (xs.take n ++ ys).length = n + ys.length := by rw [List.length_append, List.length_take, Nat.min_eq_left hle]
         rw [this] at hk
         exact hk
      ·cases h
     ·cases h
    ·cases h
   ·cases h
  ·cases h
 ·cases hz
theorem CeL.refrz2 {w : World} {M : Nat → Prop} {H H' : Hp} {μ μ' : Nat → Option Nat} : ∀ {xs : List V} {vs : List Value} {fp : List Nat}, CeL w M H μ xs vs fp → xs.all frozenV = true → CeL w M H' μ' xs vs fp
 | [], vs, fp, h, _ => by simpa only [CeL] using h
 | c :: cs, vs, fp, h, hb => by
  simp only [List.all_cons, Bool.and_eq_true] at hb
  simp only [CeL] at h ⊢
  obtain ⟨u, us', f, f', rfl, rfl, h1, h2⟩ := h
  refine ⟨u, us', f, f', rfl, rfl, ?_, CeL.refrz2 h2 hb.2⟩
  rcases h1 with h1 | h1
  ·exact .inl h1
  ·refine .inr ⟨h1.1, ?_⟩
   have := h1.2
   cases c <;> simp_all [frozenV, Sl]
def mvV (k k' : Nat) : V → V
 | .ref j ver off s n f => bif Nat.beq j k then .ref k' ver off s n f else .ref j ver off s n f
 | .ptr j ver off => bif Nat.beq j k then .ptr k' ver off else .ptr j ver off
 | x => x
def mvOK (k' : Nat) : V → Bool
 | .ref j _ _ _ _ _ => !Nat.beq j k'
 | .ptr j _ _ => !Nat.beq j k'
 | .agg cs => cs.all frozenV
 | .tup cs => cs.all frozenV
 | .fn _ cs => frzL cs
 | .lit _ => true
 | .arr .. => true
 | .fptr .. => true
 | _ => false
def mvL (k k' : Nat) : List (Nat × V) → List (Nat × V)
 | [] => []
 | (s, x) :: r => (s, mvV k k' x) :: mvL k k' r
def mvLOK (k' : Nat) : List (Nat × V) → Bool
 | [] => true
 | (_, x) :: r => mvOK k' x && mvLOK k' r
theorem mem_mvL {k k' : Nat} : ∀ {l : List (Nat × V)} {s : Nat} {y : V}, mvLOK k' l = true → (s, y) ∈ mvL k k' l → ∃ x, (s, x) ∈ l ∧ y = mvV k k' x ∧ mvOK k' x = true
 | [], s, y, _, h => by cases h
 | (t, x) :: r, s, y, ho, h => by
  simp only [mvLOK, Bool.and_eq_true] at ho
  simp only [mvL, List.mem_cons, Prod.mk.injEq] at h
  rcases h with ⟨rfl, rfl⟩ | h
  ·exact ⟨x, by simp, rfl, ho.1⟩
  ·obtain ⟨z, h1, h2⟩ := mem_mvL ho.2 h
   exact ⟨z, List.mem_cons_of_mem _ h1, h2⟩
theorem Imp.mvKey {st : St} (k k' : Nat) (hpin : ∀ i b, Γ.L i b → k ≠ i ∧ k' ≠ i) {v : Nat} {cs : List V} (h : blkAt st.H k v = some ⟨v, cs⟩) (h' : st.H[k']? = some none) (hf : blkFrz st.H) (ho : mvLOK k' st.tmps = true) :
  Imp Γ st { st with tmps := mvL k k' st.tmps, H := (st.H.set k none).set k' (some ⟨v, cs⟩) } := by
 obtain ⟨b1, _⟩ := blkAt_spec h
 have hkl : k < st.H.length := (List.getElem?_eq_some_iff.1 b1).1
 have hkl' : k' < st.H.length := (List.getElem?_eq_some_iff.1 h').1
 have hne : k ≠ k' := fun e => by rw [e, h'] at b1; cases b1
 have hs : ((st.H.set k none).set k' (some ⟨v, cs⟩))[k']? = some (some ⟨v, cs⟩) := by rw [List.getElem?_set_self]; simpa using hkl'
 have hs2 : ((st.H.set k none).set k' (some ⟨v, cs⟩))[k]? = some none := by rw [List.getElem?_set_ne (fun e => hne e.symm), List.getElem?_set_self hkl]
 have hot : ∀ j, j ≠ k → j ≠ k' → ((st.H.set k none).set k' (some ⟨v, cs⟩))[j]? = st.H[j]? := fun j h1 h2 => by rw [List.getElem?_set_ne (fun e => h2 e.symm), List.getElem?_set_ne (fun e => h1 e.symm)]
 have hlen : ((st.H.set k none).set k' (some ⟨v, cs⟩)).length = st.H.length := by simp
 refine Imp.of_own rfl fun a w M μ fp G O hS => ⟨M, updN μ k' (μ k), updN fp k' (fp k), fun b => if G b = some k then some k' else if G b = some k' then none else G b, ⟨fun j blk hj => ?_, fun j blk hj => ?_, fun b hb => ?_, O.m0, O.lt, fun b hb => ?_, fun b hb => ?_, O.kept, fun i b hb => ?_⟩, fun s y hy => ?_⟩
 ·have key : ∀ (j0 : Nat) (blk' : Blk), st.H[j0]? = some (some blk') → BlkR w M ((st.H.set k none).set k' (some ⟨v, cs⟩)) (updN μ k' (μ k)) (μ j0) blk' (fp j0) := by
   intro j0 blk' hb'
   have h1 := O.blk j0 blk' hb'
   have h2 := blkFrz_get hf hb'
   cases hm : μ j0 with
   | none => rw [hm] at h1; exact h1
   | some b =>
    rw [hm] at h1
    obtain ⟨c, e, us, hh, hce, hlie⟩ := h1
    exact ⟨c, e, us, hh, hce.refrz2 h2, hlie⟩
  by_cases hjk : j = k'
  ·subst hjk
   rw [hs] at hj
   cases hj
   simp only [updN, if_true]
   exact key k _ b1
  ·by_cases hjk2 : j = k
   ·subst hjk2; rw [hs2] at hj; cases hj
   ·rw [hot j hjk2 hjk] at hj
    simp only [updN, if_neg hjk]
    exact key j _ hj
 ·by_cases hjk : j = k'
  ·subst hjk
   rw [hs] at hj
   cases hj
   obtain ⟨m1, m2, m3⟩ := O.mine k _ b1
   simp only [updN, if_true]
   exact ⟨fun b e => ⟨by rw [(m1 b e).1]; simp, (m1 b e).2⟩, fun b hb => by rw [m2 b hb]; simp, m3⟩
  ·by_cases hjk2 : j = k
   ·subst hjk2; rw [hs2] at hj; cases hj
   ·rw [hot j hjk2 hjk] at hj
    obtain ⟨m1, m2, m3⟩ := O.mine j _ hj
    simp only [updN, if_neg hjk]
    refine ⟨fun b e => ⟨?_, (m1 b e).2⟩, fun b hb => ?_, m3⟩
    ·rw [(m1 b e).1, if_neg (by simpa using hjk2), if_neg (by simpa using hjk)]
    ·rw [m2 b hb, if_neg (by simpa using hjk2), if_neg (by simpa using hjk)]
 ·refine O.sub b fun hg => ?_
  simp only [hg] at hb
  exact hb (by simp)
 ·refine O.new b fun hg => ?_
  simp only [hg] at hb
  exact hb (by simp)
 ·refine O.apart b fun hg => ?_
  simp only [hg] at hb
  exact hb (by simp)
 ·obtain ⟨p1, ⟨blk, p2⟩, p3⟩ := O.pin i b hb
  obtain ⟨q1, q2⟩ := hpin i b hb
  exact ⟨by simp only [updN, if_neg (show ¬ (i = k') from fun e => q2 e.symm)]; exact p1, ⟨blk, by rw [hot i (fun e => q1 e.symm) (fun e => q2 e.symm)]; exact p2⟩, p3⟩
 ·obtain ⟨x, hx, rfl, hok⟩ := mem_mvL ho hy
  obtain ⟨u, hu, hsl⟩ := hS s x hx
  refine ⟨u, hu, ?_⟩
  cases x with
  | ref j ver off sz n f =>
   simp only [mvOK, Bool.not_eq_true'] at hok
   have hj' : j ≠ k' := fun e => by rw [e, Nat.beq_refl] at hok; cases hok
   simp only [Sl] at hsl
   simp only [mvV]
   cases hb : Nat.beq j k with
   | true =>
    have := Nat.eq_of_beq_eq_true hb
    subst this
    rw [cond_true]
    simp only [Sl]
    refine ⟨by rw [hlen]; exact hkl', hsl.2.1, fun blk hbk => ?_⟩
    rw [hs] at hbk
    cases hbk
    simp only [updN, if_true]
    exact hsl.2.2 _ b1
   | false =>
    have hjk : j ≠ k := fun e => by rw [e, Nat.beq_refl] at hb; cases hb
    rw [cond_false]
    simp only [Sl]
    refine ⟨by rw [hlen]; exact hsl.1, hsl.2.1, fun blk hbk => ?_⟩
    rw [hot j hjk hj'] at hbk
    simp only [updN, if_neg hj']
    exact hsl.2.2 _ hbk
  | ptr j ver off =>
   simp only [mvOK, Bool.not_eq_true'] at hok
   have hj' : j ≠ k' := fun e => by rw [e, Nat.beq_refl] at hok; cases hok
   simp only [Sl] at hsl
   simp only [mvV]
   cases hb : Nat.beq j k with
   | true =>
    have := Nat.eq_of_beq_eq_true hb
    subst this
    rw [cond_true]
    simp only [Sl]
    refine ⟨by rw [hlen]; exact hkl', hsl.2.1, fun blk hbk => ?_⟩
    rw [hs] at hbk
    cases hbk
    simp only [updN, if_true]
    exact hsl.2.2 _ b1
   | false =>
    have hjk : j ≠ k := fun e => by rw [e, Nat.beq_refl] at hb; cases hb
    rw [cond_false]
    simp only [Sl]
    refine ⟨by rw [hlen]; exact hsl.1, hsl.2.1, fun blk hbk => ?_⟩
    rw [hot j hjk hj'] at hbk
    simp only [updN, if_neg hj']
    exact hsl.2.2 _ hbk
  | lit u => simpa only [mvV, Sl] using hsl
  | arr => simpa only [mvV, Sl] using hsl
  | fptr => simpa only [mvV, Sl] using hsl
  | agg cs =>
   simp only [mvOK] at hok
   exact (hsl.fr (by simp only [frz]; exact frzL_of_all hok)).sl
  | tup cs =>
   simp only [mvOK] at hok
   exact (hsl.fr (by simp only [frz]; exact frzL_of_all hok)).sl
  | fn f cs =>
   simp only [mvOK] at hok
   exact (hsl.fr (by simp only [frz]; exact hok)).sl
  | own => simp [mvOK] at hok
  | obox => simp [mvOK] at hok
  | any => simp [mvOK] at hok
end
end Go.D
