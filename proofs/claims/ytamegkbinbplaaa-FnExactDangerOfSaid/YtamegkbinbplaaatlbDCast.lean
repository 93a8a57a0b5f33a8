import Derived.Test.YtamegkbinbplaaatlbDEff2
set_option linter.unusedVariables false
namespace Go.D
def quV : V → Bool
 | .lit _ => true
 | .arr .. => true
 | .fptr .. => true
 | .own .. => true
 | .obox .. => true
 | _ => false
theorem qu_of_frz {x : V} (h : frozenV x = true) : quV x = true := by cases x <;> simp_all [frozenV, quV]
theorem qu_of_frzL : ∀ {xs : List V}, xs.all frozenV = true → xs.all quV = true
 | [], _ => rfl
 | x :: xs, h => by
  simp only [List.all_cons, Bool.and_eq_true] at h ⊢
  exact ⟨qu_of_frz h.1, qu_of_frzL h.2⟩
theorem Enc.qu {α : Type} [Enc α] (x : α) : (Enc.cells x).all quV = true := qu_of_frzL (Enc.frz x)
theorem CeL.qu {w : World} {M M' : Nat → Prop} {H H' : Hp} {μ μ' : Nat → Option Nat} (hM : ∀ b, M' b → M b) : ∀ {xs : List V} {vs : List Value} {fp : List Nat}, CeL w M H μ xs vs fp → xs.all quV = true → CeL w M' H' μ' xs vs fp
 | [], vs, fp, h, _ => by simpa only [CeL] using h
 | c :: cs, vs, fp, h, hb => by
  simp only [List.all_cons, Bool.and_eq_true] at hb
  simp only [CeL] at h ⊢
  obtain ⟨u, us', f, f', rfl, rfl, h1, h2⟩ := h
  refine ⟨u, us', f, f', rfl, rfl, ?_, CeL.qu hM h2 hb.2⟩
  rcases h1 with h1 | ⟨e, h1⟩
  ·exact .inl (h1.less hM)
  ·refine .inr ⟨e, ?_⟩
   have hb1 := hb.1
   cases c with
   | lit u => exact (((h1.fr (x := .lit u) rfl).same (Same.refl w M) (fun b hb => .inl (hM b hb))).sl)
   | arr s n xs f => exact (((h1.fr (x := .arr s n xs f) rfl).same (Same.refl w M) (fun b hb => .inl (hM b hb))).sl)
   | fptr xs o => exact (((h1.fr (x := .fptr xs o) rfl).same (Same.refl w M) (fun b hb => .inl (hM b hb))).sl)
   | own => simp only [Sl] at h1
   | obox => simp only [Sl] at h1
   | _ => simp [quV] at hb1
def CellRel (ρ : V → V → Prop) : List V → List V → Prop
 | [], ys => ys = []
 | x :: xs, ys => ∃ y ys', ys = y :: ys' ∧ ρ x y ∧ CellRel ρ xs ys'
theorem CellRel.nil {ρ : V → V → Prop} : CellRel ρ [] [] := rfl
theorem CellRel.cons {ρ : V → V → Prop} {x y : V} {xs ys : List V} (h : ρ x y) (k : CellRel ρ xs ys) : CellRel ρ (x :: xs) (y :: ys) := ⟨y, ys, rfl, h, k⟩
def HpRel (ρ : V → V → Prop) (k : Nat) (x0 : Option Blk) : Nat → Hp → Hp → Prop
 | _, [], H' => H' = []
 | n, b :: r, H' => ∃ b' r', H' = b' :: r' ∧ HpRel ρ k x0 (n + 1) r r' ∧
   if n = k then b' = x0 else b' = none ∨ ∃ c c', b = some c ∧ b' = some c' ∧ c'.ver = c.ver ∧ (c.cells.all quV = true ∧ c'.cells = c.cells ∨ CellRel ρ c.cells c'.cells)
section
variable {ρ : V → V → Prop} {k : Nat} {x0 : Option Blk} {n : Nat} {r r' : Hp}
theorem HpRel.nil : HpRel ρ k x0 n [] [] := rfl
theorem HpRel.none {b : Option Blk} (hk : Nat.beq n k = false) (h : HpRel ρ k x0 (n + 1) r r') : HpRel ρ k x0 n (b :: r) (none :: r') :=
 ⟨_, _, rfl, h, by rw [if_neg (fun e => by rw [e, Nat.beq_refl] at hk; cases hk)]; exact .inl rfl⟩
theorem HpRel.frz {v : Nat} {cs : List V} (hk : Nat.beq n k = false) (hf : cs.all frozenV = true) (h : HpRel ρ k x0 (n + 1) r r') : HpRel ρ k x0 n (some ⟨v, cs⟩ :: r) (some ⟨v, cs⟩ :: r') :=
 ⟨_, _, rfl, h, by rw [if_neg (fun e => by rw [e, Nat.beq_refl] at hk; cases hk)]; exact .inr ⟨_, _, rfl, rfl, rfl, .inl ⟨qu_of_frzL hf, rfl⟩⟩⟩
theorem HpRel.qu {v : Nat} {cs : List V} (hk : Nat.beq n k = false) (hf : cs.all quV = true) (h : HpRel ρ k x0 (n + 1) r r') : HpRel ρ k x0 n (some ⟨v, cs⟩ :: r) (some ⟨v, cs⟩ :: r') :=
 ⟨_, _, rfl, h, by rw [if_neg (fun e => by rw [e, Nat.beq_refl] at hk; cases hk)]; exact .inr ⟨_, _, rfl, rfl, rfl, .inl ⟨hf, rfl⟩⟩⟩
theorem HpRel.key {b : Option Blk} (h : HpRel ρ n x0 (n + 1) r r') : HpRel ρ n x0 n (b :: r) (x0 :: r') := ⟨_, _, rfl, h, by rw [if_pos rfl]⟩
theorem HpRel.len : ∀ {n : Nat} {H H' : Hp}, HpRel ρ k x0 n H H' → H'.length = H.length
 | _, [], H', h => by simp only [HpRel] at h; rw [h]
 | n, b :: r, H', h => by
  obtain ⟨b', r', rfl, h1, _⟩ := h
  simp [HpRel.len h1]
theorem HpRel.get : ∀ {n : Nat} {H H' : Hp}, HpRel ρ k x0 n H H' → ∀ {j : Nat} {b' : Option Blk}, H'[j]? = some b' → (n + j = k ∧ b' = x0 ∧ j < H.length) ∨ (n + j ≠ k ∧ (b' = Option.none ∨ ∃ c c', H[j]? = some (some c) ∧ b' = some c' ∧ c'.ver = c.ver ∧ (c.cells.all quV = true ∧ c'.cells = c.cells ∨ CellRel ρ c.cells c'.cells)))
 | _, [], H', h, j, b', hj => by simp only [HpRel] at h; subst h; simp at hj
 | n, b :: r, H', h, 0, b', hj => by
  obtain ⟨b2, r', rfl, h1, h2⟩ := h
  simp at hj
  subst hj
  by_cases hk : n = k
  ·rw [if_pos hk] at h2
   exact .inl ⟨by omega, h2, by simp⟩
  ·rw [if_neg hk] at h2
   refine .inr ⟨by omega, ?_⟩
   rcases h2 with h2 | ⟨c, c', h3, h4, h5⟩
   ·exact .inl h2
   ·exact .inr ⟨c, c', by simp [h3], h4, h5⟩
 | n, b :: r, H', h, j + 1, b', hj => by
  obtain ⟨b2, r', rfl, h1, h2⟩ := h
  simp at hj
  rcases HpRel.get h1 hj with ⟨e, h3, h4⟩ | ⟨e, h3⟩
  ·exact .inl ⟨by omega, h3, by simpa using h4⟩
  ·exact .inr ⟨by omega, by simpa using h3⟩
end
section
variable {P : Program} {Γ : Ctx} {τ : Tau}
theorem CeL.rel {w : World} {M M' : Nat → Prop} {H H' : Hp} {μ μ' : Nat → Option Nat} {ρ : V → V → Prop} (hM : ∀ b, M' b → M b) (hρ : ∀ x y v, ρ x y → Sl w M H μ x v → Sl w M' H' μ' y v) (ho : ∀ x y v fp, ρ x y → Ow w M x v fp → Ow w M' y v fp) :
  ∀ {xs ys : List V} {vs : List Value} {fp : List Nat}, CeL w M H μ xs vs fp → CellRel ρ xs ys → CeL w M' H' μ' ys vs fp
 | [], ys, vs, fp, h, k => by simp only [CellRel] at k; subst k; simpa only [CeL] using h
 | x :: xs, ys, vs, fp, h, k => by
  obtain ⟨y, ys', rfl, k1, k2⟩ := k
  simp only [CeL] at h ⊢
  obtain ⟨u, us', f, f', rfl, rfl, h1, h2⟩ := h
  refine ⟨u, us', f, f', rfl, rfl, ?_, CeL.rel hM hρ ho h2 k2⟩
  rcases h1 with h1 | ⟨e, h1⟩
  ·exact .inl (ho _ _ _ _ k1 h1)
  ·exact .inr ⟨e, hρ _ _ _ k1 h1⟩
def plainC : V → Bool
 | .ref .. => true
 | .ptr .. => true
 | .lit _ => true
 | .arr .. => true
 | .fptr .. => true
 | _ => false
def FrzR (k ver : Nat) (cs : List V) (x y : V) : Prop := frzKey k ver cs x = y ∧ wholeOf k ver cs.length x ∧ plainC x = true
theorem Imp.freezeB {st st' : St} (k ver : Nat) (hpin : ∀ i b, Γ.L i b → k ≠ i) {v : Nat} {cs : List V} (hb : blkAt st.H k ver = some ⟨v, cs⟩) (hf : cs.all frozenV = true) (hw : wholeSlots k ver cs.length st.tmps)
  (hH : HpRel (FrzR k ver cs) k none 0 st.H st'.H) (ht : frzSlots k ver cs st.tmps = st'.tmps) (hn : st.nt = st'.nt) (h0 : ∀ i b, Γ.L i b → ∃ blk, st'.H[i]? = some (some blk)) : Imp Γ st st' := by
 intro a w r
 obtain ⟨h1, h2, M, μ, fp, G, O, hS⟩ := r
 obtain ⟨b1, b2⟩ := blkAt_spec hb
 have hkl : k < st.H.length := (List.getElem?_eq_some_iff.1 b1).1
 obtain ⟨m1, m2, m3⟩ := O.mine k _ b1
 have hbl := O.blk k _ b1
 have hlen := hH.len
 have hfr : ∀ b, μ k = some b → ∃ us, FrL w (fun b => M b ∧ G b ≠ some k) cs us ∧ Lies w b 0 us ∧ b < w.heap.size := by
  intro b hm
  rw [hm] at hbl
  obtain ⟨c, e, us, hh, hce, hlie⟩ := hbl
  exact ⟨us, (hce.frL hf).1.same (Same.refl w M) (fun b h => .inl h.1), hlie, (Array.getElem?_eq_some_iff.1 hh).1⟩
 have hget : ∀ j blk', st'.H[j]? = some (some blk') → j ≠ k ∧ ∃ c, st.H[j]? = some (some c) ∧ blk'.ver = c.ver ∧ (c.cells.all quV = true ∧ blk'.cells = c.cells ∨ CellRel (FrzR k ver cs) c.cells blk'.cells) := by
  intro j blk' hj
  rcases hH.get hj with ⟨e, h3, _⟩ | ⟨e, h3⟩
  ·cases h3
  ·rcases h3 with h3 | ⟨c, c', h4, h5, h6, h7⟩
   ·cases h3
   ·cases h5
    exact ⟨by omega, c, h4, h6, h7⟩
 let M' : Nat → Prop := fun b => M b ∧ G b ≠ some k
 let G' : Nat → Option Nat := fun b => if G b = some k then none else G b
 have hG' : ∀ b, G' b ≠ none → G b ≠ none ∧ G b ≠ some k := fun b h => by
  simp only [G'] at h
  split at h
  ·exact absurd rfl h
  ·exact ⟨h, by assumption⟩
 have C : Carry w M st.H μ w M' st'.H μ := ⟨Same.refl w M, fun b h => .inl h.1, by omega, fun j blk' hj hb' => by
  obtain ⟨_, c, h3, h4, _⟩ := hget j blk' hb'
  exact ⟨c, h3, by omega, fun _ => ⟨rfl, fun b _ => .of_eq rfl⟩⟩⟩
 have hp : ∀ off u, Sl w M st.H μ (.ptr k ver off) u → Fr w M' (.fptr cs off) u := by
  intro off u hv
  simp only [Sl] at hv
  obtain ⟨b, hm, rfl⟩ := (hv.2.2 _ b1).2 b2
  obtain ⟨us, h3, h4, h5⟩ := hfr b hm
  simp only [Fr]
  exact ⟨b, 0, us, by simp, h5, fun h => h.2 (m1 b hm).1, h3, h4⟩
 have hr : ∀ s n full u, Sl w M st.H μ (.ref k ver 0 s n full) u → n * s = cs.length → Fr w M' (.arr s n cs full) u := by
  intro s n full u hv hn
  simp only [Sl] at hv
  have hr := (hv.2.2 _ b1).2 b2
  simp only [Fr]
  rcases hr with ⟨A, rfl, rfl, hs0⟩ | ⟨b, cap, c, e, hm, rfl, hs0, hle, hmax, hfu, hh, hfit⟩
  ·refine ⟨A, 0, rfl, ⟨hs0, hn, Nat.le_refl _, Nat.zero_le _, fun _ => rfl⟩, .inl ?_⟩
   rw [Nat.zero_mul] at hn
   exact List.length_eq_zero_iff.1 hn.symm
  ·obtain ⟨us, h3, h4, h5⟩ := hfr b hm
   exact ⟨_, cap, rfl, ⟨hs0, hn, hle, hmax, hfu⟩, .inr ⟨b, 0, us, rfl, h5, fun h => h.2 (m1 b hm).1, h3, h4⟩⟩
 have hOw : ∀ x u f, Ow w M x u f → Ow w M' x u f := fun x u f h => h.less fun b hb => hb.1
 refine ⟨h1, by rw [← hn]; exact h2, M', μ, fp, G', ⟨fun j blk' hj => ?_, fun j blk' hj => ?_, fun b h => ⟨O.sub b (hG' b h).1, (hG' b h).2⟩, fun b h => ⟨O.m0 b h, fun hg => O.apart b (by rw [hg]; simp) h⟩, fun b h => O.lt b h.1, fun b h => O.new b (hG' b h).1, fun b h => O.apart b (hG' b h).1, O.kept, fun i b hb => ?_⟩, fun s x hx => ?_⟩
 ·obtain ⟨hjk, c, h3, h4, h5⟩ := hget j blk' hj
  have h6 := O.blk j c h3
  cases hm : μ j with
  | none =>
   rw [hm] at h6
   simp only [BlkR] at h6 ⊢
   rcases h5 with ⟨_, h5⟩ | h5
   ·rw [h5]; exact h6
   ·rw [h6] at h5; exact h5
  | some b =>
   rw [hm] at h6
   obtain ⟨cc, e, us, hh, hce, hlie⟩ := h6
   refine ⟨cc, e, us, hh, ?_, hlie⟩
   rcases h5 with ⟨h7, h5⟩ | h5
   ·rw [h5]; exact hce.qu (fun b h => h.1) h7
   ·refine hce.rel (fun b h => h.1) (fun x y u hxy hsl => ?_) (fun x y u f hxy how => ?_) h5
    ·obtain ⟨rfl, hwo, _⟩ := hxy
     exact Sl.frzKey C hp hr hsl hwo
    ·obtain ⟨rfl, hwo, hpl⟩ := hxy
     cases x <;> first | (simp [plainC] at hpl; done) | (simp only [Ow] at how; done) | (simp only [frzKey]; exact hOw _ _ _ how)
 ·obtain ⟨hjk, c, h3, h4, h5⟩ := hget j blk' hj
  obtain ⟨n1, n2, n3⟩ := O.mine j c h3
  refine ⟨fun b e => ⟨?_, (n1 b e).2⟩, fun b hb => ?_, n3⟩
  ·simp only [G', (n1 b e).1]
   rw [if_neg (by simpa using hjk)]
  ·simp only [G', n2 b hb]
   rw [if_neg (by simpa using hjk)]
 ·obtain ⟨p1, ⟨blk, p2⟩, p3⟩ := O.pin i b hb
  exact ⟨p1, h0 i b hb, p3⟩
 ·rw [← ht] at hx
  obtain ⟨y, hy, rfl⟩ := mem_frzSlots hx
  obtain ⟨u, hu, hs⟩ := hS s y hy
  exact ⟨u, hu, Sl.frzKey C hp hr hs (whole_of_mem hw hy)⟩
end
end Go.D
