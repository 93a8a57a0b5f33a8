import Derived.Test.YtpkclpjdpanekaaGreatLefDShow
set_option linter.unusedVariables false
namespace Go.D
section
variable {P : Program} {Γ : Ctx} {τ : Tau}
theorem after_keep {M : Nat → Prop} {H : Hp} {w w' : World} {μ : Nat → Option Nat} {fp : Nat → List Nat} {G : Nat → Option Nat} (O' : Own Γ M H w μ fp G) (hg : Grew w w') {s n : Nat} {cs : List V} {full : Bool} {v : Value} {fpn : List Nat}
    (how : Ow w' (fun b => M b ∨ b ∈ fpn) (.own s n cs full) v fpn) (hn : fpn.Nodup) (hb : ∀ b ∈ fpn, w.heap.size ≤ b ∧ b < w'.heap.size) (k ver : Nat) (hkl : k ≤ H.length) (hpin : ∀ b, Γ.L b → k ≠ 0)
    (hver : k < H.length → ∃ blk, H[k]? = some (some blk) ∧ blk.ver < ver) :
    ∃ μ' fp' G', Own Γ (fun b => M b ∨ b ∈ fpn) (setH H k (some ⟨ver, cs⟩)) w' μ' fp' G' ∧ Carry w M H μ w' (fun b => M b ∨ b ∈ fpn) (setH H k (some ⟨ver, cs⟩)) μ' ∧ (∀ j, j ≠ k → μ' j = μ j) ∧
      Sl w' (fun b => M b ∨ b ∈ fpn) (setH H k (some ⟨ver, cs⟩)) μ' (.ref k ver 0 s n full) v := by
  simp only [Ow] at how
  obtain ⟨A, cap, rfl, hd, how⟩ := how
  obtain ⟨hs0, hm, hle, hmax, hf⟩ := hd
  have hlen : k < (setH H k (some ⟨ver, cs⟩)).length := by
    have := setH_same (H := H) (x := some ⟨ver, cs⟩) hkl
    exact (List.getElem?_eq_some_iff.1 this).1
  rcases how with ⟨rfl, rfl⟩ | ⟨b, cc, e, us, fp', rfl, rfl, hh, hcap, hl, hlie⟩
  · have hn0 : n = 0 := Nat.le_zero.1 hle
    subst hn0
    have := O'.turn (M' := fun b => M b ∨ b ∈ fpn) (w' := w') k hkl (some ⟨ver, []⟩) none [] hg.os hg.tape hg.output hg.size (fun i hi _ => hg.block i hi fun h => h) (fun b h => h.imp id fun h => (hb b h).1) (fun b h _ => .inl h) (fun _ b hb => by simp at hb)
      (fun b h => h.elim (fun h => Nat.lt_of_lt_of_le (O'.lt b h) hg.size) fun h => (hb b h).2)
      (fun _ b hb => by simp at hb) (fun _ => by simp) (fun blk' hb' hk' => by
        cases hb'
        obtain ⟨blk, b1, b2⟩ := hver hk'
        exact ⟨blk, b1, by simp only []; omega, fun e => by simp only [] at e; omega⟩) (fun blk' hb' C => by cases hb'; rfl) (fun b hb hk => absurd hk (hpin b hb))
    obtain ⟨fp2, G2, O2, C2, _⟩ := this
    refine ⟨_, fp2, G2, O2, C2, fun j hj => by simp [updN, hj], ?_⟩
    simp only [Sl]
    refine ⟨hlen, ⟨_, _, _, rfl⟩, fun blk' hb' => ?_⟩
    rw [setH_same hkl] at hb'
    cases hb'
    exact ⟨Nat.le_refl _, fun _ => .inl ⟨A, rfl, rfl, hs0⟩⟩
  · have := O'.turn (M' := fun x => M x ∨ x ∈ (b :: fp')) (w' := w') k hkl (some ⟨ver, cs⟩) (some b) fp' hg.os hg.tape hg.output hg.size (fun i hi _ => hg.block i hi fun h => h) (fun x h => h.imp id fun h => (hb x h).1) (fun b h _ => .inl h) (fun _ x hx => .inr (by simpa using hx))
      (fun x h => by
        rcases h with h | h
        · exact Nat.lt_of_lt_of_le (O'.lt x h) hg.size
        · exact (hb x h).2)
      (fun _ x hx => .inr (hb x (by simpa using hx)).1) (fun _ => by simpa using hn) (fun blk' hb' hk' => by
        cases hb'
        obtain ⟨blk, b1, b2⟩ := hver hk'
        exact ⟨blk, b1, by simp only []; omega, fun e => by simp only [] at e; omega⟩)
      (fun blk' hb' C => by cases hb'; exact ⟨cc, e, us, hh, hl.ceL, hlie⟩) (fun b hb hk => absurd hk (hpin b hb))
    obtain ⟨fp2, G2, O2, C2, _⟩ := this
    refine ⟨_, fp2, G2, O2, C2, fun j hj => by simp [updN, hj], ?_⟩
    simp only [Sl]
    refine ⟨hlen, ⟨_, _, _, rfl⟩, fun blk' hb' => ?_⟩
    rw [setH_same hkl] at hb'
    cases hb'
    refine ⟨Nat.le_refl _, fun _ => ?_⟩
    simp only [updN, if_true]
    exact .inr ⟨b, cap, cc, e, rfl, rfl, hs0, hle, hmax, hf, hh, by omega⟩
theorem FrL.owL {w : World} {M : Nat → Prop} : ∀ {cs : List V} {us : List Value}, FrL w M cs us → cs.all frozenV = true → OwL w M cs us []
  | [], us, h, _ => by simp only [FrL] at h; simp only [OwL]; simp [h]
  | c :: cs, us, h, hb => by
    simp only [List.all_cons, Bool.and_eq_true] at hb
    simp only [FrL] at h
    obtain ⟨u, us', rfl, h1, h2⟩ := h
    simp only [OwL]
    refine ⟨u, us', [], [], rfl, rfl, ?_, FrL.owL h2 hb.2⟩
    cases c <;> simp_all [frozenV, Ow, Fr]
def MvR (k k' : Nat) (x y : V) : Prop := mvV k k' x = y ∧ mvOK k' x = true ∧ plainC x = true
theorem mv_sl {w : World} {M : Nat → Prop} {H H' : Hp} {μ : Nat → Option Nat} {k k' v : Nat} {cs : List V} (hl : H'.length = H.length) (hk : H[k]? = some (some ⟨v, cs⟩)) (hk' : H'[k']? = some (some ⟨v, cs⟩))
    (ho : ∀ j blk', j ≠ k → j ≠ k' → H'[j]? = some (some blk') → ∃ c, H[j]? = some (some c) ∧ blk'.ver = c.ver) {x : V} {u : Value} (hok : mvOK k' x = true) (hsl : Sl w M H μ x u) : Sl w M H' (updN μ k' (μ k)) (mvV k k' x) u := by
  have hkl' : k' < H.length := by rw [← hl]; exact (List.getElem?_eq_some_iff.1 hk').1
  have hfz : ∀ {z : V}, Sl w M H μ z u → frz z = true → Sl w M H' (updN μ k' (μ k)) z u := fun h1 h2 => (h1.fr h2).sl
  cases x with
  | ref j ver off sz n f =>
    simp only [mvOK, Bool.not_eq_true'] at hok
    have hj' : j ≠ k' := fun e => by rw [e, Nat.beq_refl] at hok; cases hok
    simp only [Sl] at hsl
    simp only [mvV]
    cases hb : Nat.beq j k with
    | true =>
      have := Nat.eq_of_beq_eq_true hb
      subst this
      rw [cond_true]
      simp only [Sl]
      refine ⟨by rw [hl]; exact hkl', hsl.2.1, fun blk hbk => ?_⟩
      rw [hk'] at hbk
      cases hbk
      simp only [updN, if_true]
      exact hsl.2.2 _ hk
    | false =>
      have hjk : j ≠ k := fun e => by rw [e, Nat.beq_refl] at hb; cases hb
      rw [cond_false]
      simp only [Sl]
      refine ⟨by rw [hl]; exact hsl.1, hsl.2.1, fun blk hbk => ?_⟩
      obtain ⟨c, h1, h2⟩ := ho j blk hjk hj' hbk
      simp only [updN, if_neg hj']
      rw [h2]
      exact hsl.2.2 _ h1
  | ptr j ver off =>
    simp only [mvOK, Bool.not_eq_true'] at hok
    have hj' : j ≠ k' := fun e => by rw [e, Nat.beq_refl] at hok; cases hok
    simp only [Sl] at hsl
    simp only [mvV]
    cases hb : Nat.beq j k with
    | true =>
      have := Nat.eq_of_beq_eq_true hb
      subst this
      rw [cond_true]
      simp only [Sl]
      refine ⟨by rw [hl]; exact hkl', hsl.2.1, fun blk hbk => ?_⟩
      rw [hk'] at hbk
      cases hbk
      simp only [updN, if_true]
      exact hsl.2.2 _ hk
    | false =>
      have hjk : j ≠ k := fun e => by rw [e, Nat.beq_refl] at hb; cases hb
      rw [cond_false]
      simp only [Sl]
      refine ⟨by rw [hl]; exact hsl.1, hsl.2.1, fun blk hbk => ?_⟩
      obtain ⟨c, h1, h2⟩ := ho j blk hjk hj' hbk
      simp only [updN, if_neg hj']
      rw [h2]
      exact hsl.2.2 _ h1
  | lit w' => exact hfz hsl rfl
  | arr => exact hfz hsl rfl
  | fptr => exact hfz hsl rfl
  | agg vs => exact hfz (z := .agg vs) hsl (by simp only [mvOK] at hok; simp only [frz]; exact frzL_of_all hok)
  | tup vs => exact hfz (z := .tup vs) hsl (by simp only [mvOK] at hok; simp only [frz]; exact frzL_of_all hok)
  | fn g vs => exact hfz (z := .fn g vs) hsl (by simp only [mvOK] at hok; simp only [frz]; exact hok)
  | own => simp [mvOK] at hok
  | obox => simp [mvOK] at hok
  | any => simp [mvOK] at hok
theorem Imp.mvB {st st' : St} (k k' v : Nat) {cs : List V} (hpin : ∀ b, Γ.L b → k ≠ 0 ∧ k' ≠ 0) (hb : blkAt st.H k v = some ⟨v, cs⟩) (hf : cs.all quV = true) (h' : st.H[k']? = some none) (hk' : st'.H[k']? = some (some ⟨v, cs⟩)) (hkn : st'.H[k]? = some none)
    (hH : HpRel (MvR k k') k none 0 st.H (st'.H.set k' none)) (ht : mvL k k' st.tmps = st'.tmps) (ho : mvLOK k' st.tmps = true) (hn : st.nt = st'.nt) (h0 : ∀ b, Γ.L b → ∃ blk, st'.H[0]? = some (some blk)) : Imp Γ st st' := by
  obtain ⟨b1, _⟩ := blkAt_spec hb
  have hlen : st'.H.length = st.H.length := by have := hH.len; rwa [List.length_set] at this
  have hne : k ≠ k' := fun e => by rw [e, h'] at b1; cases b1
  have hget : ∀ j blk', j ≠ k → j ≠ k' → st'.H[j]? = some (some blk') → ∃ c, st.H[j]? = some (some c) ∧ blk'.ver = c.ver ∧ (c.cells.all quV = true ∧ blk'.cells = c.cells ∨ CellRel (MvR k k') c.cells blk'.cells) := by
    intro j blk' hjk hjk' hj
    have hj2 : (st'.H.set k' none)[j]? = some (some blk') := by rw [List.getElem?_set_ne (fun e => hjk' e.symm)]; exact hj
    rcases hH.get hj2 with ⟨e, _, _⟩ | ⟨e, h3⟩
    · omega
    · rcases h3 with h3 | ⟨c, c', h4, h5, h6, h7⟩
      · cases h3
      · cases h5
        exact ⟨c, h4, h6, h7⟩
  intro a w r
  obtain ⟨h1, h2, M, μ, fp, G, O, hS⟩ := r
  have hsl : ∀ x u, mvOK k' x = true → Sl w M st.H μ x u → Sl w M st'.H (updN μ k' (μ k)) (mvV k k' x) u := fun x u h hs => mv_sl hlen b1 hk' (fun j blk' hjk hjk' hj => by obtain ⟨c, h3, h4, _⟩ := hget j blk' hjk hjk' hj; exact ⟨c, h3, h4⟩) h hs
  refine ⟨h1, by rw [← hn]; exact h2, M, updN μ k' (μ k), updN fp k' (fp k), fun b => if G b = some k then some k' else if G b = some k' then none else G b, ⟨fun j blk hj => ?_, fun j blk hj => ?_, fun b hb => ?_, O.m0, O.lt, fun b hb => ?_, fun b hb => ?_, O.kept, fun b hb => ?_⟩, fun s y hy => ?_⟩
  · by_cases hjk : j = k'
    · subst hjk
      rw [hk'] at hj
      cases hj
      simp only [updN, if_true]
      have h6 := O.blk k _ b1
      cases hm : μ k with
      | none => rw [hm] at h6; exact h6
      | some b =>
        rw [hm] at h6
        obtain ⟨cc, e, us, hh, hce, hlie⟩ := h6
        exact ⟨cc, e, us, hh, hce.qu (fun b h => h) hf, hlie⟩
    · by_cases hjk2 : j = k
      · subst hjk2; rw [hkn] at hj; cases hj
      · obtain ⟨c, h3, h4, h5⟩ := hget j blk hjk2 hjk hj
        simp only [updN, if_neg hjk]
        have h6 := O.blk j c h3
        cases hm : μ j with
        | none =>
          rw [hm] at h6
          simp only [BlkR] at h6 ⊢
          rcases h5 with ⟨_, h5⟩ | h5
          · rw [h5]; exact h6
          · rw [h6] at h5; exact h5
        | some b =>
          rw [hm] at h6
          obtain ⟨cc, e, us, hh, hce, hlie⟩ := h6
          refine ⟨cc, e, us, hh, ?_, hlie⟩
          rcases h5 with ⟨h7, h5⟩ | h5
          · rw [h5]; exact hce.qu (fun b h => h) h7
          · refine hce.rel (fun b h => h) (fun x y u hxy hs => by rw [← hxy.1]; exact hsl x u hxy.2.1 hs) (fun x y u f hxy how => ?_) h5
            obtain ⟨hxy, _, hpl⟩ := hxy
            cases x <;> first | (simp [plainC] at hpl; done) | (simp only [Ow] at how; done) | (simp only [mvV] at hxy; subst hxy; exact how)
  · by_cases hjk : j = k'
    · subst hjk
      obtain ⟨m1, m2, m3⟩ := O.mine k _ b1
      simp only [updN, if_true]
      exact ⟨fun b e => ⟨by rw [(m1 b e).1]; simp, (m1 b e).2⟩, fun b hb => by rw [m2 b hb]; simp, m3⟩
    · by_cases hjk2 : j = k
      · subst hjk2; rw [hkn] at hj; cases hj
      · obtain ⟨c, h3, _, _⟩ := hget j blk hjk2 hjk hj
        obtain ⟨m1, m2, m3⟩ := O.mine j c h3
        simp only [updN, if_neg hjk]
        refine ⟨fun b e => ⟨?_, (m1 b e).2⟩, fun b hb => ?_, m3⟩
        · rw [(m1 b e).1, if_neg (by simpa using hjk2), if_neg (by simpa using hjk)]
        · rw [m2 b hb, if_neg (by simpa using hjk2), if_neg (by simpa using hjk)]
  · refine O.sub b fun hg => ?_
    simp only [hg] at hb
    exact hb (by simp)
  · refine O.new b fun hg => ?_
    simp only [hg] at hb
    exact hb (by simp)
  · refine O.apart b fun hg => ?_
    simp only [hg] at hb
    exact hb (by simp)
  · obtain ⟨p1, _, p3⟩ := O.pin b hb
    obtain ⟨q1, q2⟩ := hpin b hb
    exact ⟨by simp only [updN, if_neg (show ¬ (0 = k') from fun e => q2 e.symm)]; exact p1, h0 b hb, p3⟩
  · rw [← ht] at hy
    obtain ⟨x, hx, rfl, hok⟩ := mem_mvL ho hy
    obtain ⟨u, hu, hs⟩ := hS s x hx
    exact ⟨u, hu, hsl x u hok hs⟩
structure BslI where
  d : Nat
  s : Nat
  n : Nat
  cells : List V
end
end Go.D
