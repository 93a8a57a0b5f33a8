import Derived.Test.YtamegkbinbplaaatlbDText
set_option linter.unusedVariables false
namespace Go.D
section
variable {P : Program} {Γ : Ctx} {τ : Tau}
def okIn (ks : List Nat) : V → Bool
 | .ref k _ _ _ _ _ => hasN ks k
 | .ptr k _ _ => hasN ks k
 | .own .. => true
 | .obox .. => true
 | x => frozenV x
def hpIn (ks : List Nat) : Hp → Prop
 | [] => True
 | none :: r => hpIn ks r
 | some b :: r => (b.cells.all frozenV = true ∨ b.cells.all (okIn ks) = true) ∧ hpIn ks r
theorem hpIn_get {ks : List Nat} : ∀ {H : Hp} {k : Nat} {blk : Blk}, hpIn ks H → H[k]? = some (some blk) → blk.cells.all frozenV = true ∨ blk.cells.all (okIn ks) = true
 | [], k, blk, _, h => by simp at h
 | none :: r, 0, blk, _, h => by simp at h
 | some b :: r, 0, blk, hb, h => by simp at h; subst h; exact hb.1
 | none :: r, k + 1, blk, hb, h => by simp only [hpIn] at hb; simp at h; exact hpIn_get hb h
 | some b :: r, k + 1, blk, hb, h => by simp only [hpIn] at hb; simp at h; exact hpIn_get hb.2 h
theorem Sl.okIn {w : World} {M : Nat → Prop} {H H' : Hp} {μ μ' : Nat → Option Nat} {ks : List Nat} (hl : H.length ≤ H'.length) (hk : ∀ k, hasN ks k = true → H'[k]? = H[k]? ∧ μ' k = μ k) {x : V} {v : Value} (h : Sl w M H μ x v) (ho : okIn ks x = true) : Sl w M H' μ' x v := by
 cases x with
 | ref k ver off s n full =>
  simp only [D.okIn] at ho
  obtain ⟨e1, e2⟩ := hk k ho
  simp only [Sl] at h ⊢
  rw [e1, e2]
  exact ⟨Nat.lt_of_lt_of_le h.1 hl, h.2⟩
 | ptr k ver off =>
  simp only [D.okIn] at ho
  obtain ⟨e1, e2⟩ := hk k ho
  simp only [Sl] at h ⊢
  rw [e1, e2]
  exact ⟨Nat.lt_of_lt_of_le h.1 hl, h.2⟩
 | own => simp only [Sl] at h
 | obox => simp only [Sl] at h
 | _ => first | (simp [D.okIn, frozenV] at ho; done) | simpa only [Sl] using h
theorem CeL.okIn {w : World} {M : Nat → Prop} {H H' : Hp} {μ μ' : Nat → Option Nat} {ks : List Nat} (hl : H.length ≤ H'.length) (hk : ∀ k, hasN ks k = true → H'[k]? = H[k]? ∧ μ' k = μ k) :
  ∀ {xs : List V} {vs : List Value} {fp : List Nat}, CeL w M H μ xs vs fp → xs.all (okIn ks) = true → CeL w M H' μ' xs vs fp
 | [], vs, fp, h, _ => by simpa only [CeL] using h
 | c :: cs, vs, fp, h, hb => by
  simp only [List.all_cons, Bool.and_eq_true] at hb
  simp only [CeL] at h ⊢
  obtain ⟨u, us', f, f', rfl, rfl, h1, h2⟩ := h
  refine ⟨u, us', f, f', rfl, rfl, ?_, CeL.okIn hl hk h2 hb.2⟩
  rcases h1 with h1 | ⟨e, h1⟩
  ·exact .inl h1
  ·exact .inr ⟨e, h1.okIn hl hk hb.1⟩
def okA (ks : List Nat) : V → Bool
 | .agg cs => cs.all fun c => okIn ks c || frz c
 | .tup cs => cs.all fun c => okIn ks c || frz c
 | x => okIn ks x
theorem SlL.okA {w : World} {M : Nat → Prop} {H H' : Hp} {μ μ' : Nat → Option Nat} {ks : List Nat} (hl : H.length ≤ H'.length) (hk : ∀ k, hasN ks k = true → H'[k]? = H[k]? ∧ μ' k = μ k) :
  ∀ {xs : List V} {vs : List Value}, SlL w M H μ xs vs → (xs.all fun c => D.okIn ks c || frz c) = true → SlL w M H' μ' xs vs
 | [], vs, h, _ => by simpa only [SlL] using h
 | c :: cs, vs, h, hb => by
  simp only [List.all_cons, Bool.and_eq_true, Bool.or_eq_true] at hb
  simp only [SlL] at h ⊢
  obtain ⟨u, us', rfl, h1, h2⟩ := h
  refine ⟨u, us', rfl, ?_, SlL.okA hl hk h2 (by simpa using hb.2)⟩
  rcases hb.1 with hb | hb
  ·exact h1.okIn hl hk hb
  ·exact (h1.fr hb).sl
theorem Sl.okA {w : World} {M : Nat → Prop} {H H' : Hp} {μ μ' : Nat → Option Nat} {ks : List Nat} (hl : H.length ≤ H'.length) (hk : ∀ k, hasN ks k = true → H'[k]? = H[k]? ∧ μ' k = μ k) {x : V} {v : Value} (h : Sl w M H μ x v) (ho : D.okA ks x = true) : Sl w M H' μ' x v := by
 cases x with
 | agg cs => simp only [D.okA] at ho; simp only [Sl] at h ⊢; obtain ⟨us, h1, h2⟩ := h; exact ⟨us, h1, SlL.okA hl hk h2 ho⟩
 | tup cs => simp only [D.okA] at ho; simp only [Sl] at h ⊢; obtain ⟨us, h1, h2⟩ := h; exact ⟨us, h1, SlL.okA hl hk h2 ho⟩
 | _ => exact h.okIn hl hk ho
theorem frame {M : Nat → Prop} {H Hm Hm' H' : Hp} {w : World} {μ : Nat → Option Nat} {fp : Nat → List Nat} {G : Nat → Option Nat} {ks : List Nat} (O : Own Γ M H w μ fp G)
  (hl : Hm.length = H.length) (hs : ∀ k, hasN ks k = true → Hm[k]? = H[k]?) (hn : ∀ k, hasN ks k = false → ∀ blk, Hm[k]? ≠ some (some blk))
  (hl' : Hm'.length = H.length) (hs' : ∀ k, hasN ks k = true → Hm'[k]? = H'[k]?) (hn' : ∀ k, hasN ks k = false → ∀ blk, Hm'[k]? ≠ some (some blk)) (hl2 : H'.length = H.length) (ho : ∀ k, hasN ks k = false → H'[k]? = H[k]?)
  (hin' : hpIn ks Hm') :
  ∃ (Γ' : Ctx) (G' : Nat → Option Nat), (∀ i b, Γ'.L i b → Γ.L i b) ∧ Own Γ' M Hm w μ fp G' ∧ Carry w M H μ w M Hm μ ∧
   ∀ w' M' μ' fp' G2, Own Γ' M' Hm' w' μ' fp' G2 → Carry w M Hm μ w' M' Hm' μ' →
    ∃ μ2 fp2 G3, Own Γ M' H' w' μ2 fp2 G3 ∧ Carry w M H μ w' M' H' μ2 ∧ ∀ x v, (okA ks x = true ∨ frz x = true) → Sl w' M' Hm' μ' x v → Sl w' M' H' μ2 x v := by
 classical
 let seen : Nat → Prop := fun b => ∃ k blk, G b = some k ∧ Hm[k]? = some (some blk)
 have hks : ∀ k blk, Hm[k]? = some (some blk) → hasN ks k = true ∧ H[k]? = some (some blk) := by
  intro k blk h
  cases hb : hasN ks k with
  | true => exact ⟨rfl, by rw [← hs k hb]; exact h⟩
  | false => exact absurd h (hn k hb blk)
 let Γ' : Ctx := ⟨w, fun b => M b ∧ ¬ seen b, seen, fun i b => Γ.L i b ∧ ∃ blk, Hm[i]? = some (some blk)⟩
 let G' : Nat → Option Nat := fun b => if seen b then G b else none
 have hG' : ∀ b, G' b ≠ none → seen b := fun b h => by
  simp only [G'] at h
  split at h
  ·assumption
  ·exact absurd rfl h
 have C0 : Carry w M H μ w M Hm μ := ⟨Same.refl w M, fun b h => .inl h, by omega, fun k blk' hk h => ⟨blk', (hks k blk' h).2, Nat.le_refl _, fun _ => ⟨rfl, fun b _ => .of_eq rfl⟩⟩⟩
 have hMs : ∀ b, seen b → M b := fun b ⟨k, blk, h1, h2⟩ => O.sub b (by rw [h1]; simp)
 have O' : Own Γ' M Hm w μ fp G' := by
  refine ⟨fun k blk h => ?_, fun k blk h => ?_, fun b h => hMs b (hG' b h), fun b h => h.1, O.lt, fun b h => .inl (hG' b h), fun b h h0 => h0.2 (hG' b h), Kept.refl _ w, fun i b hb => ?_⟩
  ·exact (O.blk k blk (hks k blk h).2).carry C0 (fun b _ => rfl) (fun b _ => rfl)
  ·obtain ⟨m1, m2, m3⟩ := O.mine k blk (hks k blk h).2
   have key : ∀ b, G b = some k → G' b = some k := fun b hg => by simp only [G']; rw [if_pos ⟨k, blk, hg, h⟩]; exact hg
   exact ⟨fun b e => ⟨key b (m1 b e).1, (m1 b e).2⟩, fun b e => key b (m2 b e), m3⟩
  ·obtain ⟨p1, _, _⟩ := O.pin i b hb.1
   exact ⟨p1, hb.2, .of_eq rfl⟩
 refine ⟨Γ', G', fun i b h => h.1, O', C0, fun w' M' μ' fp' G2 O2 C2 => ?_⟩
 let μ2 : Nat → Option Nat := fun k => if hasN ks k = true then μ' k else μ k
 let fp2 : Nat → List Nat := fun k => if hasN ks k = true then fp' k else fp k
 let live : Nat → Prop := fun b => ∃ k blk, G2 b = some k ∧ Hm'[k]? = some (some blk)
 let G3 : Nat → Option Nat := fun b => if live b then G2 b else if seen b then none else if b < w.heap.size then G b else none
 have hks' : ∀ k blk, Hm'[k]? = some (some blk) → hasN ks k = true ∧ H'[k]? = some (some blk) := by
  intro k blk h
  cases hb : hasN ks k with
  | true => exact ⟨rfl, by rw [← hs' k hb]; exact h⟩
  | false => exact absurd h (hn' k hb blk)
 have hun : ∀ b, b < w.heap.size → ¬ seen b → w'.heap[b]? = w.heap[b]? := fun b hb hns => O2.kept.block b hb hns
 -- a block of a hidden key
 have hhid : ∀ b k blk, G b = some k → H[k]? = some (some blk) → hasN ks k = false → ¬ seen b := by
  rintro b k blk h1 h2 h3 ⟨k', blk', h4, h5⟩
  rw [h1] at h4
  cases h4
  exact hn k h3 blk' h5
 have hlive : ∀ b, live b → seen b ∨ w.heap.size ≤ b := fun b ⟨k, blk, h1, h2⟩ => O2.new b (by rw [h1]; simp)
 have hG3 : ∀ b, G3 b ≠ none → live b ∨ (¬ seen b ∧ b < w.heap.size ∧ G b ≠ none) := by
  intro b h
  simp only [G3] at h
  split at h
  ·exact .inl (by assumption)
  ·split at h
   ·exact absurd rfl h
   ·split at h
    ·exact .inr ⟨by assumption, by assumption, h⟩
    ·exact absurd rfl h
 have C : Carry w M H μ w' M' H' μ2 := by
  refine ⟨C2.same, C2.mem, by omega, fun k blk' hk h => ?_⟩
  cases hb : hasN ks k with
  | true =>
   have h1 : Hm'[k]? = some (some blk') := by rw [hs' k hb]; exact h
   obtain ⟨blk, h2, h3, h4⟩ := C2.keys k blk' (by omega) h1
   refine ⟨blk, by rw [← hs k hb]; exact h2, h3, fun e => ?_⟩
   obtain ⟨h5, h6⟩ := h4 e
   exact ⟨by simp only [μ2, hb, if_true]; exact h5, h6⟩
  | false =>
   rw [ho k hb] at h
   refine ⟨blk', h, Nat.le_refl _, fun _ => ⟨by simp only [μ2, hb, Bool.false_eq_true, if_false], fun b hbm => .of_eq ?_⟩⟩
   exact hun b (O.born_lt k blk' h b hbm) (hhid b k blk' ((O.mine k blk' h).1 b hbm).1 h hb)
 have hslots : ∀ k, hasN ks k = true → H'[k]? = Hm'[k]? ∧ μ2 k = μ' k := fun k hk => ⟨(hs' k hk).symm, by simp only [μ2, hk, if_true]⟩
 refine ⟨μ2, fp2, G3, ⟨fun k blk h => ?_, fun k blk h => ?_, fun b h => ?_, fun b h => ?_, O2.lt, fun b h => ?_, fun b h => ?_, ?_, fun i b hb => ?_⟩, C, fun x v hx hsl => ?_⟩
 ·cases hb : hasN ks k with
  | true =>
   have h1 : Hm'[k]? = some (some blk) := by rw [hs' k hb]; exact h
   have h2 := O2.blk k blk h1
   simp only [μ2, fp2, hb, if_true]
   cases hm : μ' k with
   | none => rw [hm] at h2; exact h2
   | some b =>
    rw [hm] at h2
    obtain ⟨c, e, us, hh, hce, hlie⟩ := h2
    refine ⟨c, e, us, hh, ?_, hlie⟩
    rcases hpIn_get hin' h1 with hf | hf
    ·exact hce.refrz2 hf
    ·exact hce.okIn (by omega) hslots hf
  | false =>
   rw [ho k hb] at h
   simp only [μ2, fp2, hb, Bool.false_eq_true, if_false]
   obtain ⟨m1, m2, m3⟩ := O.mine k blk h
   exact (O.blk k blk h).carry C (fun b e => hun b (O.born_lt k blk h b e) (hhid b k blk (m1 b e).1 h hb)) (fun b e => hun b (O.fp_lt k blk h b e) (hhid b k blk (m2 b e) h hb))
 ·cases hb : hasN ks k with
  | true =>
   have h1 : Hm'[k]? = some (some blk) := by rw [hs' k hb]; exact h
   obtain ⟨m1, m2, m3⟩ := O2.mine k blk h1
   have key : ∀ b, G2 b = some k → G3 b = some k := fun b hg => by simp only [G3]; rw [if_pos ⟨k, blk, hg, h1⟩]; exact hg
   simp only [μ2, fp2, hb, if_true]
   exact ⟨fun b e => ⟨key b (m1 b e).1, (m1 b e).2⟩, fun b e => key b (m2 b e), m3⟩
  | false =>
   rw [ho k hb] at h
   obtain ⟨m1, m2, m3⟩ := O.mine k blk h
   have key : ∀ b, b < w.heap.size → G b = some k → G3 b = some k := fun b hlt hg => by
    have hns := hhid b k blk hg h hb
    have hnl : ¬ live b := fun hlv => by
     rcases hlive b hlv with h1 | h1
     ·exact hns h1
     ·omega
    simp only [G3]
    rw [if_neg hnl, if_neg hns, if_pos hlt]
    exact hg
   simp only [μ2, fp2, hb, Bool.false_eq_true, if_false]
   exact ⟨fun b e => ⟨key b (O.born_lt k blk h b e) (m1 b e).1, (m1 b e).2⟩, fun b e => key b (O.fp_lt k blk h b e) (m2 b e), m3⟩
 ·rcases hG3 b h with ⟨k, blk, h1, h2⟩ | ⟨h1, h2, h3⟩
  ·exact O2.sub b (by rw [h1]; simp)
  ·exact O2.m0 b ⟨O.sub b h3, h1⟩
 ·exact O2.m0 b ⟨O.m0 b h, fun ⟨k, blk, h1, h2⟩ => O.apart b (by rw [h1]; simp) h⟩
 ·rcases hG3 b h with h1 | ⟨h1, h2, h3⟩
  ·rcases hlive b h1 with ⟨k, blk, h2, h3⟩ | h2
   ·exact O.new b (by rw [h2]; simp)
   ·have := O.kept.size; exact .inr (by omega)
  ·exact O.new b h3
 ·rcases hG3 b h with h1 | ⟨h1, h2, h3⟩
  ·rcases hlive b h1 with ⟨k, blk, h2, h3⟩ | h2
   ·exact O.apart b (by rw [h2]; simp)
   ·exact fun h0 => by have := O.lt b (O.m0 b h0); omega
  ·exact O.apart b h3
 ·exact O.kept.trans O2.kept fun b ⟨k, blk, h1, h2⟩ => O.new b (by rw [h1]; simp)
 ·obtain ⟨p1, ⟨blk, p2⟩, p3⟩ := O.pin i b hb
  cases hb0 : hasN ks i with
  | true =>
   have h1 : Hm[i]? = some (some blk) := by rw [hs i hb0]; exact p2
   obtain ⟨q1, ⟨blk', q2⟩, q3⟩ := O2.pin i b ⟨hb, blk, h1⟩
   exact ⟨by simp only [μ2, hb0, if_true]; exact q1, ⟨blk', by rw [← hs' i hb0]; exact q2⟩, p3.trans q3⟩
  | false =>
   refine ⟨by simp only [μ2, hb0, Bool.false_eq_true, if_false]; exact p1, ⟨blk, by rw [ho i hb0]; exact p2⟩, p3.trans (.of_eq ?_)⟩
   exact hun b (O.born_lt i blk p2 b p1) (hhid b i blk ((O.mine i blk p2).1 b p1).1 p2 hb0)
 ·rcases hx with hx | hx
  ·exact hsl.okA (by omega) hslots hx
  ·exact (hsl.fr hx).sl
def lk (l : List (List Nat)) (j : Nat) : List Nat := l.getD j []
def meets (a b : List Nat) : Bool := a.any fun k => hasN b k
def ordB (ops : Array Oper) : Nat → Nat → Nat → Bool
 | 0, j, i => Region.waitsFor .any ops j i
 | f + 1, j, i => Region.waitsFor .any ops j i || (List.range j).any fun k => Nat.blt i k && Region.waitsFor .any ops j k && ordB ops f k i
def anyB (ops : Array Oper) (vis mod : List (List Nat)) : Bool :=
  (List.range ops.size).all fun j => match ops[j]? with
    | some o =>
      (match o.dst with
       | some d => (writes ops ops.size d).all fun i => Nat.beq i j
       | none => true) &&
      ((o.looksAt ops).all fun s => (writes ops ops.size s).all fun i => Nat.beq i j || (Nat.blt i j && Region.waitsFor .any ops j i) || (Nat.blt j i && Region.waitsFor .any ops i j)) &&
      (o.after.all fun e => !Region.binds .any e || Nat.blt e.on j) &&
      ((lk mod j).all fun k => hasN (lk vis j) k) &&
      ((List.range j).all fun i => !(meets (lk mod i) (lk vis j) || meets (lk mod j) (lk vis i)) || ordB ops 6 j i)
    | none => false
structure AnyOK (ops : Array Oper) (vis mod : List (List Nat)) (j : Nat) (o : Oper) : Prop where
 one : ∀ d, o.dst = some d → ∀ i o', ops[i]? = some o' → o'.dst = some d → i = j
 look : ∀ s ∈ o.looksAt ops, ∀ i o', ops[i]? = some o' → o'.dst = some s → i = j ∨ (i < j ∧ Region.waitsFor .any ops j i = true) ∨ (j < i ∧ Region.waitsFor .any ops i j = true)
 back : ∀ e ∈ o.after, Region.binds .any e = true → e.on < j
 sub : ∀ k, hasN (lk mod j) k = true → hasN (lk vis j) k = true
 ord : ∀ i, i < j → (∃ k, hasN (lk mod i) k = true ∧ hasN (lk vis j) k = true ∨ hasN (lk mod j) k = true ∧ hasN (lk vis i) k = true) → ordB ops 6 j i = true
theorem anyB_spec {ops : Array Oper} {vis mod : List (List Nat)} (h : anyB ops vis mod = true) {j : Nat} {o : Oper} (ho : ops[j]? = some o) : AnyOK ops vis mod j o := by
 have hj : j < ops.size := (Array.getElem?_eq_some_iff.1 ho).1
 have h1 := List.all_eq_true.1 h j (List.mem_range.2 hj)
 simp only [ho, Bool.and_eq_true] at h1
 obtain ⟨⟨⟨⟨h1, h2⟩, h3⟩, h4⟩, h5⟩ := h1
 refine ⟨fun d hd i o' ho' hd' => ?_, fun s hs i o' ho' hd' => ?_, fun e he hb => ?_, fun k hk => ?_, fun i hi hk => ?_⟩
 ·rw [hd] at h1
  have hi : i < ops.size := (Array.getElem?_eq_some_iff.1 ho').1
  exact Nat.eq_of_beq_eq_true (List.all_eq_true.1 h1 i (mem_writes hi ho' hd' rfl))
 ·have hi : i < ops.size := (Array.getElem?_eq_some_iff.1 ho').1
  have := List.all_eq_true.1 (List.all_eq_true.1 h2 s hs) i (mem_writes hi ho' hd' rfl)
  simp only [Bool.or_eq_true, Bool.and_eq_true] at this
  rcases this with (h | h) | h
  ·exact .inl (Nat.eq_of_beq_eq_true h)
  ·exact .inr (.inl ⟨Nat.le_of_ble_eq_true h.1, h.2⟩)
  ·exact .inr (.inr ⟨Nat.le_of_ble_eq_true h.1, h.2⟩)
 ·have := (Array.all_eq_true_iff_forall_mem.1 h3) e he
  simp only [Bool.or_eq_true, Bool.not_eq_true', hb] at this
  rcases this with h | h
  ·cases h
  ·exact Nat.le_of_ble_eq_true h
 ·exact List.all_eq_true.1 h4 k (hasN_mem hk)
 ·have := List.all_eq_true.1 h5 i (List.mem_range.2 hi)
  simp only [Bool.or_eq_true, Bool.not_eq_true', Bool.or_eq_false_iff] at this
  rcases this with h | h
  ·obtain ⟨k, ⟨h6, h7⟩ | ⟨h6, h7⟩⟩ := hk
   ·have : meets (lk mod i) (lk vis j) = true := List.any_eq_true.2 ⟨k, hasN_mem h6, h7⟩
    rw [h.1] at this; cases this
   ·have : meets (lk mod j) (lk vis i) = true := List.any_eq_true.2 ⟨k, hasN_mem h6, h7⟩
    rw [h.2] at this; cases this
  ·exact h
def Closed (ops : Array Oper) (L : Nat → Bool) : Prop := ∀ j o, ops[j]? = some o → L j = true → ∀ e ∈ o.after, Region.binds .any e = true → L e.on = true
theorem waits_closed {ops : Array Oper} {L : Nat → Bool} {j i : Nat} (h : Region.waitsFor .any ops j i = true) (hj : ∀ o, ops[j]? = some o → ∀ e ∈ o.after, Region.binds .any e = true → L e.on = true) : L i = true := by
 obtain ⟨o, ho, e, he, hb, hon⟩ := Region.waitsFor_spec h
 rw [← hon]
 exact hj o ho e he hb
theorem ordB_closed {ops : Array Oper} {L : Nat → Bool} (hcl : Closed ops L) : ∀ (f j i : Nat), ordB ops f j i = true → (∀ o, ops[j]? = some o → ∀ e ∈ o.after, Region.binds .any e = true → L e.on = true) → L i = true
 | 0, j, i, h, hj => waits_closed h hj
 | f + 1, j, i, h, hj => by
  simp only [ordB, Bool.or_eq_true] at h
  rcases h with h | h
  ·exact waits_closed h hj
  ·obtain ⟨k, _, hk⟩ := List.any_eq_true.1 h
   simp only [Bool.and_eq_true] at hk
   have hLk := waits_closed hk.1.2 hj
   exact ordB_closed hcl f k i hk.2 fun o ho => hcl k o ho hLk
def maskH (ks : List Nat) : Nat → Hp → Hp
 | _, [] => []
 | n, b :: r => (bif hasN ks n then b else none) :: maskH ks (n + 1) r
theorem maskH_len (ks : List Nat) : ∀ (n : Nat) (H : Hp), (maskH ks n H).length = H.length
 | _, [] => rfl
 | n, b :: r => by simp [maskH, maskH_len ks (n + 1) r]
theorem maskH_get (ks : List Nat) : ∀ (n : Nat) (H : Hp) (k : Nat), (maskH ks n H)[k]? = if hasN ks (n + k) = true then H[k]? else (H[k]?).map fun _ => none
 | _, [], k => by simp [maskH]
 | n, b :: r, 0 => by
  simp only [maskH, Nat.add_zero, List.getElem?_cons_zero, Option.map_some]
  cases hasN ks n <;> simp
 | n, b :: r, k + 1 => by
  simp only [maskH, List.getElem?_cons_succ]
  rw [maskH_get ks (n + 1) r k, show n + 1 + k = n + (k + 1) by omega]
def fillH (ks : List Nat) : Nat → Hp → Hp → Hp
 | n, b :: r, b' :: r' => (bif hasN ks n then b' else b) :: fillH ks (n + 1) r r'
 | _, H, _ => H
theorem fillH_len (ks : List Nat) : ∀ (n : Nat) (H H' : Hp), (fillH ks n H H').length = H.length
 | n, [], H' => by cases H' <;> rfl
 | n, b :: r, [] => rfl
 | n, b :: r, b' :: r' => by simp [fillH, fillH_len ks (n + 1) r r']
theorem fillH_get (ks : List Nat) : ∀ (n : Nat) (H H' : Hp), H'.length = H.length → ∀ k, (fillH ks n H H')[k]? = if hasN ks (n + k) = true then H'[k]? else H[k]?
 | n, [], H', hl, k => by
  have : H' = [] := List.length_eq_zero_iff.1 (by simpa using hl)
  subst this
  simp [fillH]
 | n, b :: r, [], hl, k => by simp at hl
 | n, b :: r, b' :: r', hl, 0 => by
  simp only [fillH, Nat.add_zero, List.getElem?_cons_zero]
  cases hasN ks n <;> simp
 | n, b :: r, b' :: r', hl, k + 1 => by
  simp only [fillH, List.getElem?_cons_succ]
  rw [fillH_get ks (n + 1) r r' (by simpa using hl) k, show n + 1 + k = n + (k + 1) by omega]
def stA (ops : Array Oper) (vis : List (List Nat)) (j : Nat) (st : St) : St := ⟨st.nt, (stq ops j st).tmps, maskH (lk vis j) 0 st.H⟩
def AS (P : Program) (Γ : Ctx) (ops : Array Oper) (j : Nat) (st : St) (o : Oper) (Hm' : Hp) (x : V) : Prop :=
 (wantedV ops st o = some true ∧ ∀ Γ' : Ctx, (∀ i b, Γ'.L i b → Γ.L i b) → YldE P Γ' o st Hm' x) ∨ (wantedV ops st o = some false ∧ x = .lit undef ∧ Hm' = st.H)
def CopyA (ops : Array Oper) (vis mod : List (List Nat)) (j : Nat) (st : St) (o : Oper) (x : V) : Prop :=
 lk mod j = [] ∧ wantedV ops (stA ops vis j st) o = some true ∧ ∃ s, (o.op = .move (.tmp s) ∨ o.op = .assign (.tmp s)) ∧ (s, x) ∈ (stq ops j st).tmps
def qA (P : Program) (Γ : Ctx) (ops : Array Oper) (vis mod : List (List Nat)) (T : St → Prop) : Nat → Nat → St → Prop
 | 0, _, st => T st
 | n + 1, j, st => ∃ o x Hm', ops[j]? = some o ∧ (∀ d, o.dst = some d → d < st.nt) ∧ Hm'.length = st.H.length ∧ (∀ k, hasN (lk mod j) k = false → Hm'[k]? = (maskH (lk vis j) 0 st.H)[k]?) ∧ hpIn (lk vis j) Hm' ∧ ((o.dst = none ∨ okA (lk vis j) x = true ∨ frz x = true) ∨ CopyA ops vis mod j st o x) ∧
   AS P Γ ops j (stA ops vis j st) o Hm' x ∧ qA P Γ ops vis mod T n (j + 1) ((st.inH (fillH (lk mod j) 0 st.H Hm')).put o.dst x)
structure HeadA (P : Program) (Γ : Ctx) (ops : Array Oper) (vis mod : List (List Nat)) (p : Nat) (st : St) (xs : Nat → V) (sts : Nat → St) : Prop where
 zero : sts 0 = st
 step : ∀ j, j < p → ∃ o Hm', ops[j]? = some o ∧ (∀ d, o.dst = some d → d < (sts j).nt) ∧ Hm'.length = (sts j).H.length ∧ (∀ k, hasN (lk mod j) k = false → Hm'[k]? = (maskH (lk vis j) 0 (sts j).H)[k]?) ∧ hpIn (lk vis j) Hm' ∧ ((o.dst = none ∨ okA (lk vis j) (xs j) = true ∨ frz (xs j) = true) ∨ CopyA ops vis mod j (sts j) o (xs j)) ∧
   AS P Γ ops j (stA ops vis j (sts j)) o Hm' (xs j) ∧ sts (j + 1) = ((sts j).inH (fillH (lk mod j) 0 (sts j).H Hm')).put o.dst (xs j)
theorem qA_head {ops : Array Oper} {vis mod : List (List Nat)} {T : St → Prop} : ∀ (n j : Nat) (st : St), qA P Γ ops vis mod T n j st → ∃ (xs : Nat → V) (sts : Nat → St), sts j = st ∧ T (sts (j + n)) ∧
  ∀ i, j ≤ i → i < j + n → ∃ o Hm', ops[i]? = some o ∧ (∀ d, o.dst = some d → d < (sts i).nt) ∧ Hm'.length = (sts i).H.length ∧ (∀ k, hasN (lk mod i) k = false → Hm'[k]? = (maskH (lk vis i) 0 (sts i).H)[k]?) ∧ hpIn (lk vis i) Hm' ∧ ((o.dst = none ∨ okA (lk vis i) (xs i) = true ∨ frz (xs i) = true) ∨ CopyA ops vis mod i (sts i) o (xs i)) ∧
   AS P Γ ops i (stA ops vis i (sts i)) o Hm' (xs i) ∧ sts (i + 1) = ((sts i).inH (fillH (lk mod i) 0 (sts i).H Hm')).put o.dst (xs i)
 | 0, j, st, h => ⟨fun _ => .any, fun _ => st, rfl, h, fun i h1 h2 => by omega⟩
 | n + 1, j, st, h => by
  obtain ⟨o, x, Hm', a1, a2, a3, a4, a5, a6, a7, hk⟩ := h
  obtain ⟨xs, sts, h1, h2, h3⟩ := qA_head n (j + 1) _ hk
  refine ⟨fun i => if i = j then x else xs i, fun i => if i = j then st else sts i, by simp, ?_, fun i hi1 hi2 => ?_⟩
  ·simp only [if_neg (show ¬ (j + (n + 1) = j) by omega)]
   rw [show j + (n + 1) = j + 1 + n by omega]
   exact h2
  ·by_cases hij : i = j
   ·subst hij
    refine ⟨o, Hm', ?_⟩
    simp only [if_neg (show ¬ (i + 1 = i) by omega), if_true]
    exact ⟨a1, a2, a3, a4, a5, a6, a7, h1⟩
   ·obtain ⟨o', H2, hh⟩ := h3 i (by omega) (by omega)
    refine ⟨o', H2, ?_⟩
    simp only [if_neg hij, if_neg (show ¬ (i + 1 = j) by omega)]
    exact hh
section head
variable {ops : Array Oper} {vis mod : List (List Nat)} {p : Nat} {st : St} {xs : Nat → V} {sts : Nat → St}
theorem put_nt (s : St) (d : Option Nat) (x : V) : (s.put d x).nt = s.nt := by cases d <;> rfl
theorem put_H (s : St) (d : Option Nat) (x : V) : (s.put d x).H = s.H := by cases d <;> rfl
theorem HeadA.nt (h : HeadA P Γ ops vis mod p st xs sts) : ∀ j, j ≤ p → (sts j).nt = st.nt ∧ (sts j).H.length = st.H.length
 | 0, _ => by rw [h.zero]; exact ⟨rfl, rfl⟩
 | j + 1, hj => by
  obtain ⟨o, Hm', _, _, a3, _, _, _, _, e⟩ := h.step j (by omega)
  obtain ⟨h1, h2⟩ := h.nt j (by omega)
  rw [e]
  exact ⟨by rw [put_nt]; exact h1, by rw [put_H]; simp only [St.inH]; rw [fillH_len]; exact h2⟩
theorem HeadA.key (h : HeadA P Γ ops vis mod p st xs sts) {j : Nat} (hj : j < p) {k : Nat} (hk : hasN (lk mod j) k = false) : (sts (j + 1)).H[k]? = (sts j).H[k]? := by
 obtain ⟨o, Hm', _, _, a3, _, _, _, _, e⟩ := h.step j hj
 rw [e, put_H]
 simp only [St.inH]
 rw [fillH_get _ _ _ _ a3, Nat.zero_add, hk]
 simp
theorem HeadA.mem (h : HeadA P Γ ops vis mod p st xs sts) : ∀ j, j ≤ p → ∀ s v, (s, v) ∈ (sts j).tmps →
  (∃ k o, k < j ∧ ops[k]? = some o ∧ o.dst = some s ∧ v = xs k) ∨ ((s, v) ∈ st.tmps ∧ ∀ k o, k < j → ops[k]? = some o → o.dst ≠ some s)
 | 0, _, s, v, hm => .inr ⟨by rw [h.zero] at hm; exact hm, fun k o hk => by omega⟩
 | j + 1, hj, s, v, hm => by
  obtain ⟨o, Hm', ho, _, _, _, _, _, _, e⟩ := h.step j (by omega)
  rw [e] at hm
  have old : o.dst ≠ some s → (s, v) ∈ (sts j).tmps → (∃ k o, k < j + 1 ∧ ops[k]? = some o ∧ o.dst = some s ∧ v = xs k) ∨ ((s, v) ∈ st.tmps ∧ ∀ k o, k < j + 1 → ops[k]? = some o → o.dst ≠ some s) := by
   intro hne hm
   rcases h.mem j (by omega) s v hm with ⟨k, o', hk, ho', hd', hv⟩ | ⟨h1, h2⟩
   ·exact .inl ⟨k, o', by omega, ho', hd', hv⟩
   ·refine .inr ⟨h1, fun k o' hk ho' hd' => ?_⟩
    by_cases hkj : k = j
    ·subst hkj
     rw [ho] at ho'
     cases ho'
     exact hne hd'
    ·exact h2 k o' (by omega) ho' hd'
  cases hd : o.dst with
  | none => rw [hd] at hm; exact old (by rw [hd]; simp) hm
  | some d =>
   rw [hd] at hm
   simp only [St.put, St.set, St.inH, List.mem_cons, Prod.mk.injEq] at hm
   rcases hm with ⟨rfl, rfl⟩ | hm
   ·exact .inl ⟨j, o, by omega, ho, hd, rfl⟩
   ·obtain ⟨hne, hm⟩ := mem_drop1 hm
    exact old (by rw [hd]; simpa using fun e => hne e.symm) hm
def midA (ops : Array Oper) (p : Nat) (st : St) (xs : Nat → V) (L : Nat → Bool) (s : Nat) (v : V) : Prop :=
 (∃ k o, k < p ∧ L k = true ∧ ops[k]? = some o ∧ o.dst = some s ∧ v = xs k) ∨ ((s, v) ∈ st.tmps ∧ ∀ k o, k < p → ops[k]? = some o → o.dst = some s → L k = false)
def hv (mod : List (List Nat)) (sts : Nat → St) (L : Nat → Bool) (k : Nat) : Nat → Option (Option Blk)
 | 0 => (sts 0).H[k]?
 | n + 1 => if (L n && hasN (lk mod n) k) = true then (sts (n + 1)).H[k]? else hv mod sts L k n
def RA (Γ : Ctx) (ops : Array Oper) (mod : List (List Nat)) (p : Nat) (st : St) (xs : Nat → V) (sts : Nat → St) (L : Nat → Bool) (a : Act) (w : World) : Prop :=
 a.defers = [] ∧ a.tmps.size = st.nt ∧ ∃ H M μ fp G, H.length = st.H.length ∧ (∀ k, H[k]? = hv mod sts L k p) ∧ Own Γ M H w μ fp G ∧ ∀ s v, midA ops p st xs L s v → ∃ u, a.tmps[s]? = some u ∧ Sl w M H μ v u
theorem hv_none {k : Nat} : ∀ n, hv mod sts (fun _ => false) k n = (sts 0).H[k]?
 | 0 => rfl
 | n + 1 => by simp only [hv, Bool.false_and, Bool.false_eq_true, if_false]; exact hv_none n
theorem hv_all (h : HeadA P Γ ops vis mod p st xs sts) {L : Nat → Bool} {k : Nat} : ∀ n, n ≤ p → (∀ i, i < n → hasN (lk mod i) k = true → L i = true) → hv mod sts L k n = (sts n).H[k]?
 | 0, _, _ => rfl
 | n + 1, hn, hL => by
  simp only [hv]
  cases hb : hasN (lk mod n) k with
  | true => rw [hL n (by omega) hb]; simp
  | false =>
   simp only [Bool.and_false, Bool.false_eq_true, if_false]
   rw [hv_all h n (by omega) fun i hi => hL i (by omega), h.key (by omega) hb]
theorem hv_above {L : Nat → Bool} {k j : Nat} : ∀ n, j ≤ n → (∀ i, j ≤ i → i < n → hasN (lk mod i) k = true → L i = false) → hv mod sts L k n = hv mod sts L k j
  | 0, hj, _ => by have : j = 0 := by omega
                   subst this; rfl
  | n + 1, hj, hL => by
    by_cases hjn : j = n + 1
    · rw [hjn]
    · simp only [hv]
      have h1 : (L n && hasN (lk mod n) k) = false := by
        cases hb : hasN (lk mod n) k with
        | true => rw [hL n (by omega) (by omega) hb]; rfl
        | false => simp
      rw [h1]
      simp only [Bool.false_eq_true, if_false]
      exact hv_above n (by omega) fun i hi hin => hL i hi (by omega)
theorem hv_congr {L L' : Nat → Bool} {k : Nat} : ∀ n, (∀ i, i < n → hasN (lk mod i) k = true → L i = L' i) → hv mod sts L k n = hv mod sts L' k n
 | 0, _ => rfl
 | n + 1, h => by
  simp only [hv, hv_congr n fun i hi => h i (by omega)]
  cases hb : hasN (lk mod n) k with
  | true => rw [h n (by omega) hb]
  | false => simp
theorem RA.next (h : HeadA P Γ ops vis mod ops.size st xs sts) (hB : anyB ops vis mod = true) {j : Nat} (hj : j < ops.size) {L : Nat → Bool} (hLj : L j = false) (hcl : Closed ops L)
  (hL : ∀ o, ops[j]? = some o → ∀ e ∈ o.after, Region.binds .any e = true → L e.on = true) {Q' : Exit → Act → World → Prop} {K : Act → World → Prop} {a : Act} {w : World}
  (r : RA Γ ops mod ops.size st xs sts L a w) (hK : ∀ a' w', RA Γ ops mod ops.size st xs sts (fun k => bif Nat.beq k j then true else L k) a' w' → K a' w') : wpOp P ops Q' j K a w := by
 obtain ⟨o, Hm', ho, hlt, a3, a4, a5, a6, hq, hst⟩ := h.step j hj
 have hok := anyB_spec hB ho
 obtain ⟨hnt, hlen⟩ := h.nt j (by omega)
 obtain ⟨h1, h2, H, M, μ, fp, G, hHl, hH, O, hT⟩ := r
 have hup : ∀ i, j < i → i < ops.size → ordB ops 6 i j = true → L i = false := by
  intro i hji hi ho'
  cases hLi : L i with
  | false => rfl
  | true =>
   have := ordB_closed hcl 6 i j ho' fun o ho => hcl i o ho hLi
   rw [hLj] at this; cases this
 -- the keys that it sees are as in the order of the text
 have hA : ∀ k, hasN (lk vis j) k = true → H[k]? = (sts j).H[k]? := by
  intro k hk
  rw [hH k, hv_above (mod := mod) (sts := sts) (L := L) (k := k) (j := j) ops.size (by omega) ?_]
  ·refine hv_all h j (by omega) fun i hi hm => ?_
   exact ordB_closed hcl 6 j i (hok.ord i hi ⟨k, .inl ⟨hm, hk⟩⟩) hL
  ·intro i hji hi hm
   by_cases hij : i = j
   ·rw [hij]; exact hLj
   ·have hi' : ops[i]? = some ops[i] := Array.getElem?_eq_getElem hi
    exact hup i (by omega) hi ((anyB_spec hB hi').ord j (by omega) ⟨k, .inr ⟨hm, hk⟩⟩)
 let ks := lk vis j
 let L' : Nat → Bool := fun k => bif Nat.beq k j then true else L k
 have hL'j : L' j = true := by simp only [L', Nat.beq_refl, cond_true]
 have hL'o : ∀ i, i ≠ j → L' i = L i := fun i hne => by
  have : Nat.beq i j = false := by
   cases hb : Nat.beq i j with
   | true => exact absurd (Nat.eq_of_beq_eq_true hb) hne
   | false => rfl
  simp only [L', this, cond_false]
 let H' : Hp := fillH (lk mod j) 0 H Hm'
 have hH'l : H'.length = H.length := fillH_len _ _ _ _
 have hHm'l : Hm'.length = H.length := by rw [a3, hlen, hHl]
 have hH'g : ∀ k, H'[k]? = if hasN (lk mod j) k = true then Hm'[k]? else H[k]? := fun k => by rw [fillH_get _ _ _ _ hHm'l, Nat.zero_add]
 -- the heap behind it
 have hB' : ∀ k, H'[k]? = hv mod sts L' k ops.size := by
  intro k
  rw [hH'g]
  cases hm : hasN (lk mod j) k with
  | true =>
   rw [if_pos rfl, hv_above (j := j + 1) ops.size (by omega) ?_]
   ·simp only [hv, hL'j, hm, Bool.and_self, if_true]
    rw [hst, put_H]
    simp only [St.inH]
    rw [fillH_get _ _ _ _ a3, Nat.zero_add, hm, if_pos rfl]
   ·intro i hji hi hmi
    rw [hL'o i (by omega)]
    have hi' : ops[i]? = some ops[i] := Array.getElem?_eq_getElem hi
    exact hup i (by omega) hi ((anyB_spec hB hi').ord j (by omega) ⟨k, .inr ⟨hmi, hok.sub k hm⟩⟩)
  | false =>
   rw [if_neg (by simp), hH k]
   refine hv_congr ops.size fun i hi hmi => ?_
   by_cases hij : i = j
   ·rw [hij, hm] at hmi; cases hmi
   ·rw [hL'o i hij]
 -- what is seen
 have hmask : ∀ k, (maskH ks 0 (sts j).H)[k]? = if hasN ks k = true then H[k]? else (H[k]?).map fun _ => none := by
  intro k
  rw [maskH_get, Nat.zero_add]
  cases hk : hasN ks k with
  | true => simp only [if_true]; exact (hA k hk).symm
  | false =>
   simp only [Bool.false_eq_true, if_false]
   rcases Nat.lt_or_ge k H.length with hkl | hkl
   ·rw [List.getElem?_eq_getElem hkl, List.getElem?_eq_getElem (show k < (sts j).H.length by omega)]; rfl
   ·rw [List.getElem?_eq_none hkl, List.getElem?_eq_none (by omega)]
 have nomask : ∀ k, hasN ks k = false → ∀ blk, (maskH ks 0 (sts j).H)[k]? ≠ some (some blk) := by
  intro k hk blk he
  rw [hmask, hk] at he
  simp only [Bool.false_eq_true, if_false] at he
  cases hx : H[k]? with
  | none => rw [hx] at he; cases he
  | some y => rw [hx] at he; cases he
 have hmodvis : ∀ k, hasN ks k = false → hasN (lk mod j) k = false := fun k hk => by
  cases hb : hasN (lk mod j) k with
  | false => rfl
  | true => have := hok.sub k hb; rw [hk] at this; cases this
 obtain ⟨Γ', G', hΓ, O1, C1, hback⟩ := frame (ks := ks) (Hm := maskH ks 0 (sts j).H) (Hm' := Hm') (H' := H') O (by rw [maskH_len]; omega)
  (fun k hk => by rw [hmask, hk]; simp) nomask hHm'l
  (fun k hk => by
   rw [hH'g]
   cases hm : hasN (lk mod j) k with
   | true => simp
   | false => rw [a4 k hm, hmask, hk]; simp)
  (fun k hk blk => by rw [a4 k (hmodvis k hk)]; exact nomask k hk blk)
  hH'l (fun k hk => by rw [hH'g, hmodvis k hk]; simp) a5
 have hmem : ∀ s v, (s, v) ∈ (stA ops vis j (sts j)).tmps → midA ops ops.size st xs L s v := by
  intro s v hv
  have e : stq ops j (sts j) = (sts j).only (o.looksAt ops) := by unfold stq; rw [ho]
  simp only [stA, e, St.only] at hv
  rw [List.mem_filter] at hv
  have hs := hasN_mem hv.2
  rcases h.mem j (by omega) s v hv.1 with ⟨k, ok, hk, hok', hdk, hvk⟩ | ⟨hm, hno⟩
  ·rcases hok.look s hs k ok hok' hdk with hkj | ⟨_, hw⟩ | ⟨hjk, _⟩
   ·omega
   ·exact .inl ⟨k, ok, by omega, waits_closed hw hL, hok', hdk, hvk⟩
   ·omega
  ·refine .inr ⟨hm, fun k ok hk hok' hdk => ?_⟩
   rcases hok.look s hs k ok hok' hdk with hkj | ⟨hkj, _⟩ | ⟨hjk, hw⟩
   ·rw [hkj]; exact hLj
   ·exact absurd hdk (hno k ok hkj hok')
   ·cases hLk : L k with
    | false => rfl
    | true =>
     have := waits_closed hw fun o ho => hcl k o ho hLk
     rw [hLj] at this; cases this
 have hS : Slots (stA ops vis j (sts j)) a w M μ := fun s v hv => by
  obtain ⟨u, hu, hsl⟩ := hT s v (hmem s v hv)
  exact ⟨u, hu, hsl.carry C1⟩
 have hR : R Γ' (stA ops vis j (sts j)) a w := ⟨h1, by simp only [stA]; rw [hnt]; exact h2, M, μ, fp, G', O1, hS⟩
 -- a move
 rcases a6 with a6 | ⟨hmo, hw, s0, hop, hs0⟩
 rotate_left
 ·have hwant := wantedV_sound hw a w hR
  obtain ⟨u0, hu0, hsl0⟩ := hT s0 (xs j) (hmem s0 (xs j) hs0)
  have hev : Sl w M H μ (xs j) (a.eval (.tmp s0)) := by
   have e : a.eval (.tmp s0) = u0 := by
    simp only [Act.eval]
    rw [Array.getD_eq_getD_getElem?, hu0]
    rfl
   rw [e]; exact hsl0
  have hx : (execOp a.eval o).run P w = .ok (.value (a.eval (.tmp s0))) w := by
   rcases hop with hop | hop <;> simp only [execOp, hop, Sem.run_pure]
  have hLr : RA Γ ops mod ops.size st xs sts L' (a.put o.dst (a.eval (.tmp s0))) w := by
   refine ⟨put_defers.trans h1, put_size.trans h2, H, M, μ, fp, G, hHl, fun k => (hH k).trans (hv_congr ops.size fun i hi hmi => ?_), O, fun s v hv => ?_⟩
   ·by_cases hij : i = j
    ·rw [hij, hmo] at hmi; simp [hasN] at hmi
    ·rw [hL'o i hij]
   ·have old : (∀ d, o.dst = some d → s ≠ d) → midA ops ops.size st xs L s v → ∃ u', (a.put o.dst (a.eval (.tmp s0))).tmps[s]? = some u' ∧ Sl w M H μ v u' := by
     intro hne hm
     obtain ⟨u', h3, h4⟩ := hT s v hm
     refine ⟨u', ?_, h4⟩
     cases hd : o.dst with
     | none => exact h3
     | some d => exact put_get (hne d hd) h3
    rcases hv with ⟨k, ok, hk, hLk, hok', hdk, hvk⟩ | ⟨hm, hno⟩
    ·by_cases hkj : k = j
     ·subst hkj
      rw [ho] at hok'
      cases hok'
      subst hvk
      refine ⟨_, ?_, hev⟩
      rw [hdk]
      exact put_same (by rw [h2, ← hnt]; exact hlt s hdk)
     ·rw [hL'o k hkj] at hLk
      exact old (fun d hd e => hkj (hok.one d hd k ok hok' (by rw [hdk, e]))) (.inl ⟨k, ok, hk, hLk, hok', hdk, hvk⟩)
    ·refine old (fun d hd e => ?_) (.inr ⟨hm, fun k ok hk hok' hdk => ?_⟩)
     ·have := hno j o hj ho (by rw [hd, e])
      rw [hL'j] at this; cases this
     ·have := hno k ok hk hok' hdk
      by_cases hkj : k = j
      ·rw [hkj]; exact hLj
      ·rwa [hL'o k hkj] at this
  unfold wpOp
  simp only [ho, hwant, if_true]
  refine .inl ?_
  simp only [Oper.wp, hx, Oper.upon]
  exact hK _ _ hLr
 have fin : ∀ u w' M' μ' fp' G2, Own Γ' M' Hm' w' μ' fp' G2 → Carry w M (maskH ks 0 (sts j).H) μ w' M' Hm' μ' → (o.dst = none ∨ Sl w' M' Hm' μ' (xs j) u) → RA Γ ops mod ops.size st xs sts L' (a.put o.dst u) w' := by
  intro u w' M' μ' fp' G2 O2 C2 hs
  obtain ⟨μ2, fp2, G3, O3, C3, hsl⟩ := hback w' M' μ' fp' G2 O2 C2
  refine ⟨put_defers.trans h1, put_size.trans h2, H', M', μ2, fp2, G3, by rw [hH'l, hHl], hB', O3, fun s v hv => ?_⟩
  have old : (∀ d, o.dst = some d → s ≠ d) → midA ops ops.size st xs L s v → ∃ u', (a.put o.dst u).tmps[s]? = some u' ∧ Sl w' M' H' μ2 v u' := by
   intro hne hm
   obtain ⟨u', h3, h4⟩ := hT s v hm
   refine ⟨u', ?_, h4.carry C3⟩
   cases hd : o.dst with
   | none => exact h3
   | some d => exact put_get (hne d hd) h3
  rcases hv with ⟨k, ok, hk, hLk, hok', hdk, hvk⟩ | ⟨hm, hno⟩
  ·by_cases hkj : k = j
   ·subst hkj
    rw [ho] at hok'
    cases hok'
    subst hvk
    refine ⟨u, ?_, ?_⟩
    ·rw [hdk]
     exact put_same (by rw [h2, ← hnt]; exact hlt s hdk)
    ·rcases hs with hs | hs
     ·rw [hdk] at hs; cases hs
     ·rcases a6 with h6 | h6
      ·rw [hdk] at h6; cases h6
      ·exact hsl _ _ h6 hs
   ·rw [hL'o k hkj] at hLk
    exact old (fun d hd e => hkj (hok.one d hd k ok hok' (by rw [hdk, e]))) (.inl ⟨k, ok, hk, hLk, hok', hdk, hvk⟩)
  ·refine old (fun d hd e => ?_) (.inr ⟨hm, fun k ok hk hok' hdk => ?_⟩)
   ·have := hno j o hj ho (by rw [hd, e])
    rw [hL'j] at this; cases this
   ·have := hno k ok hk hok' hdk
    by_cases hkj : k = j
    ·rw [hkj]; exact hLj
    ·rwa [hL'o k hkj] at this
 unfold wpOp
 simp only [ho]
 rcases hq with ⟨hw, hy⟩ | ⟨hw, hx, hm⟩
 ·have := wantedV_sound hw a w hR
  simp only [this, if_true]
  exact .inl (hy Γ' hΓ a w M μ fp G' O1 hS _ _ fun u w' M' μ' fp' G2 O2 C2 hs => hK _ _ (fin u w' M' μ' fp' G2 O2 C2 (.inr hs)))
 ·have := wantedV_sound hw a w hR
  simp only [this, Bool.false_eq_true, if_false]
  have hg : Grew w w := by constructor <;> intros <;> first | rfl | exact Nat.le_refl _ | exact Nat.le_succ _
  simp only [stA] at hm
  refine hK _ _ (fin _ _ M μ fp G' (by rw [hm]; exact O1) (by rw [hm]; exact hg.carry _ _ _ fun k blk hb => O1.born_lt k blk hb) (.inr ?_))
  rw [hx]
  simp only [Sl]
theorem RA.drawn {L : Nat → Bool} {a : Act} {w : World} (r : RA Γ ops mod p st xs sts L a w) : RA Γ ops mod p st xs sts L a { w with drawn := w.drawn + 1 } := by
 obtain ⟨h1, h2, H, M, μ, fp, G, hl, hH, O, hT⟩ := r
 have hg : Grew w { w with drawn := w.drawn + 1 } := by
  constructor <;> intros <;> first | rfl | exact Nat.le_refl _ | exact Nat.le_succ _
 refine ⟨h1, h2, H, M, μ, fp, G, hl, hH, O.grew hg, fun s v hv => ?_⟩
 obtain ⟨u, h3, h4⟩ := hT s v hv
 exact ⟨u, h3, h4.carry (hg.carry _ _ _ fun k blk hb => O.born_lt k blk hb)⟩
theorem any_all (h : HeadA P Γ ops vis mod ops.size st xs sts) (hB : anyB ops vis mod = true) {Q' : Exit → Act → World → Prop} (hk : ∀ a w, R Γ (sts ops.size) a w → Q' .normal a w) :
  ∀ (f : Nat) (listed : Array Bool) (a : Act) (w : World), HeadInv .any ops ops.size listed → cnt (fun k => listed.getD k false) ops.size = f → RA Γ ops mod ops.size st xs sts (fun k => listed.getD k false) a w → wpAny P .any ops Q' f listed a w
 | 0, listed, a, w, inv, hc, r => by
  have hall := cnt_zero ops.size hc
  refine ⟨?_, hk a w ?_⟩
  ·refine List.eq_nil_iff_forall_not_mem.2 fun j hj => ?_
   obtain ⟨hun, oj, hoj, _⟩ := mem_ready.1 hj
   have hjs := (Array.getElem?_eq_some_iff.1 hoj).1
   have := hall j hjs
   rw [getD_both hun] at this
   cases this
  ·obtain ⟨h1, h2, H, M, μ, fp, G, hl, hH, O, hT⟩ := r
   obtain ⟨e1, e2⟩ := h.nt ops.size (Nat.le_refl _)
   have hHe : H = (sts ops.size).H := by
    refine List.ext_getElem? fun k => ?_
    rw [hH k]
    exact hv_all h ops.size (Nat.le_refl _) fun i hi _ => hall i hi
   subst hHe
   refine ⟨h1, by rw [e1]; exact h2, M, μ, fp, G, O, fun s v hv => hT s v ?_⟩
   rcases h.mem ops.size (Nat.le_refl _) s v hv with ⟨k, o, hk, ho, hd, hv⟩ | ⟨hm, hno⟩
   ·exact .inl ⟨k, o, hk, hall k hk, ho, hd, hv⟩
   ·exact .inr ⟨hm, fun k o hk ho hd => absurd hd (hno k o hk ho)⟩
 | f + 1, listed, a, w, inv, hc, r => by
  obtain ⟨k, hkp, hkl, hkm⟩ := cnt_pos ops.size (by rw [hc]; omega)
  have hks : k < listed.size := by rw [inv.size]; omega
  have hok' : ops[k]? = some ops[k] := Array.getElem?_eq_getElem hkp
  have hkr : k ∈ Region.ready .any ops listed := mem_ready.2 ⟨getD_in hks hkl, _, hok', fun e he hb => hkm e.on ((anyB_spec hB hok').back e he hb)⟩
  refine ⟨fun h0 => (by rw [h0] at hkr; cases hkr), fun j hj => ?_⟩
  obtain ⟨hun, oj, hoj, hall⟩ := mem_ready.1 hj
  have hjp := (Array.getElem?_eq_some_iff.1 hoj).1
  have hset : ∀ i, (listed.setIfInBounds j true).getD i false = (bif Nat.beq i j then true else listed.getD i false) := by
   intro i
   cases hb : Nat.beq i j with
   | true =>
    have := Nat.eq_of_beq_eq_true hb
    subst this
    have hjs : i < listed.size := by rw [inv.size]; omega
    simp [hjs]
   | false =>
    have hne : j ≠ i := fun e => by subst e; rw [Nat.beq_refl] at hb; cases hb
    rw [getD_set_ne false hne, cond_false]
  refine RA.next h hB hjp (getD_both hun) (fun i o ho hl => inv.closed i o ho hl) (fun o ho e he hb => ?_) r fun a' w' r' => any_all h hB hk f _ a' w' (inv.set hj hjp) ?_ ?_
  ·rw [hoj] at ho
   cases ho
   exact hall e he hb
  ·have := cnt_next (L := fun k => listed.getD k false) (L' := fun k => (listed.setIfInBounds j true).getD k false) (i := j) ops.size hjp (getD_both hun) (by rw [hset, Nat.beq_refl, cond_true]) (fun k hne => by
    have : Nat.beq k j = false := by
     cases hb : Nat.beq k j with
     | true => exact absurd (Nat.eq_of_beq_eq_true hb) hne
     | false => rfl
    simp only [hset, this, cond_false])
   omega
  ·have : (fun k => (listed.setIfInBounds j true).getD k false) = fun k => bif Nat.beq k j then true else listed.getD k false := funext hset
   rw [this]
   exact r'
theorem pwp_any {id : Nat} {Q : Exit → St → Prop} (vis mod : List (List Nat)) (hm : P.follows .mixedOrders = true) (hB : anyB ops vis mod = true)
  (h : qA P Γ ops vis mod (fun st' => opsP P Γ ops Q ops.size st') ops.size 0 st) : pwp P Γ (.region id ops true) Q st := by
 intro a w r
 obtain ⟨xs, sts, e0, hq, hs⟩ := qA_head ops.size 0 st h
 rw [Nat.zero_add] at hq
 have H : HeadA P Γ ops vis mod ops.size st xs sts := ⟨e0, fun j hj => hs j (Nat.zero_le _) (by omega)⟩
 refine wp_region_any hm ?_
 have inv0 : HeadInv .any ops ops.size (Array.replicate ops.size false) :=
  ⟨by simp, fun j oj _ hl => (by rw [getD_replicate_false] at hl; cases hl), fun t _ ht => getD_in (by simpa using ht) (getD_replicate_false _ _)⟩
 have hcnt : ∀ q, cnt (fun k => (Array.replicate ops.size false).getD k false) q = q := by
  intro q
  induction q with
  | zero => rfl
  | succ q ih => simp only [cnt, getD_replicate_false, cond_false] at ih ⊢; rw [ih]
 refine any_all (Q' := lift Γ Q) H hB (fun a w r => by simpa [wpOps] using hq a w r) ops.size (Array.replicate ops.size false) a { w with drawn := w.drawn + 1 } inv0 (hcnt _) ?_
 have : (fun k => (Array.replicate ops.size false).getD k false) = fun _ => false := funext fun k => getD_replicate_false _ _
 rw [this]
 obtain ⟨h1, h2, M, μ, fp, G, O, hT⟩ := r
 refine RA.drawn ⟨h1, h2, st.H, M, μ, fp, G, rfl, fun k => by rw [hv_none, e0], O, fun s v hv => ?_⟩
 rcases hv with ⟨k, o, _, hf, _⟩ | ⟨hm, _⟩
 ·cases hf
 ·exact hT s v hm
end head
end
end Go.D
