import Derived.Test.YtlcjmombcnkfcaaGreatBdDDeep4
set_option linter.unusedVariables false
namespace Go.D
section
variable {P : Program} {Γ : Ctx} {τ : Tau}
def RvS (k v : Nat) : List (Nat × V) → List (Nat × V) → Prop
 | [], l => l = []
 | (s, x) :: r, l => ∃ y r', l = (s, y) :: r' ∧ (rvV k v x = some y ∨ x = y ∧ frz x = true) ∧ RvS k v r r'
theorem RvS.nil {k v : Nat} : RvS k v [] [] := rfl
theorem RvS.c {k v s : Nat} {x y : V} {r r' : List (Nat × V)} (h : rvV k v x = some y) (t : RvS k v r r') : RvS k v ((s, x) :: r) ((s, y) :: r') := ⟨y, r', rfl, .inl h, t⟩
theorem RvS.f {k v s : Nat} {x : V} {r r' : List (Nat × V)} (h : frz x = true) (t : RvS k v r r') : RvS k v ((s, x) :: r) ((s, x) :: r') := ⟨x, r', rfl, .inr ⟨rfl, h⟩, t⟩
theorem RvS.mem {k v : Nat} : ∀ {l l' : List (Nat × V)} {s : Nat} {y : V}, RvS k v l l' → (s, y) ∈ l' → ∃ x, (s, x) ∈ l ∧ (rvV k v x = some y ∨ x = y ∧ frz x = true)
 | [], l', s, y, h, hm => by simp only [RvS] at h; subst h; cases hm
 | (t, x) :: r, l', s, y, h, hm => by
  obtain ⟨z, r', rfl, h1, h2⟩ := h
  rcases List.mem_cons.1 hm with hm | hm
  ·cases hm; exact ⟨x, by simp, h1⟩
  ·obtain ⟨w, h3, h4⟩ := RvS.mem h2 hm
   exact ⟨w, List.mem_cons_of_mem _ h3, h4⟩
theorem Imp.reverF {st st' : St} (k v : Nat) {cs : List V} (hb : blkAt st.H k v = some ⟨v, cs⟩) (hf : cs.all quV = true) (hH : HpRel (RvR k v) k (some ⟨0, cs⟩) 0 st.H st'.H) (ht : RvS k v st.tmps st'.tmps) (hn : st.nt = st'.nt)
  (h0 : ∀ i b, Γ.L i b → ∃ blk, st'.H[i]? = some (some blk)) : Imp Γ st st' := by
 intro a w r
 obtain ⟨h1, h2, M, μ, fp, G, O, hS⟩ := r
 -- without slots, as ever
 have hR0 : R Γ { st with tmps := [] } a w := ⟨h1, h2, M, μ, fp, G, O, fun s x hx => by cases hx⟩
 obtain ⟨b1, _⟩ := blkAt_spec hb
 have hkl : k < st.H.length := (List.getElem?_eq_some_iff.1 b1).1
 have hlen := hH.len
 have hk' : st'.H[k]? = some (some ⟨0, cs⟩) := by
  have hlt : k < st'.H.length := by omega
  have hg := hH.get (List.getElem?_eq_getElem hlt)
  rcases hg with ⟨_, h3, _⟩ | ⟨e, _⟩
  ·rw [List.getElem?_eq_getElem hlt, h3]
  ·omega
 have hget : ∀ j blk', j ≠ k → st'.H[j]? = some (some blk') → ∃ c, st.H[j]? = some (some c) ∧ blk'.ver = c.ver ∧ (c.cells.all quV = true ∧ blk'.cells = c.cells ∨ CellRel (RvR k v) c.cells blk'.cells) := by
  intro j blk' hjk hj
  rcases hH.get hj with ⟨e, _, _⟩ | ⟨e, h3⟩
  ·omega
  ·rcases h3 with h3 | ⟨c, c', h4, h5, h6, h7⟩
   ·cases h3
   ·cases h5
    exact ⟨c, h4, h6, h7⟩
 have hsl : ∀ x y u, rvV k v x = some y → Sl w M st.H μ x u → Sl w M st'.H μ y u := fun x y u h hs => rv_sl hlen b1 hk' (fun j blk' hjk hj => by obtain ⟨c, h3, h4, _⟩ := hget j blk' hjk hj; exact ⟨c, h3, h4⟩) h hs
 refine ⟨h1, by rw [← hn]; exact h2, M, μ, fp, G, ⟨fun j blk' hj => ?_, fun j blk' hj => ?_, O.sub, O.m0, O.lt, O.new, O.apart, O.kept, fun i b hb => ?_⟩, fun s y hy => ?_⟩
 ·by_cases hjk : j = k
  ·subst hjk
   rw [hk'] at hj
   cases hj
   have h6 := O.blk j _ b1
   cases hm : μ j with
   | none => rw [hm] at h6; exact h6
   | some b =>
    rw [hm] at h6
    obtain ⟨cc, e, us, hh, hce, hlie⟩ := h6
    exact ⟨cc, e, us, hh, hce.qu (fun b h => h) hf, hlie⟩
  ·obtain ⟨c, h3, h4, h5⟩ := hget j blk' hjk hj
   have h6 := O.blk j c h3
   cases hm : μ j with
   | none =>
    rw [hm] at h6
    simp only [BlkR] at h6 ⊢
    rcases h5 with ⟨_, h5⟩ | h5
    ·rw [h5]; exact h6
    ·rw [h6] at h5; exact h5
   | some b =>
    rw [hm] at h6
    obtain ⟨cc, e, us, hh, hce, hlie⟩ := h6
    refine ⟨cc, e, us, hh, ?_, hlie⟩
    rcases h5 with ⟨h7, h5⟩ | h5
    ·rw [h5]; exact hce.qu (fun b h => h) h7
    ·refine hce.rel (fun b h => h) (fun x y u hxy hs => hsl x y u hxy.1 hs) (fun x y u f hxy how => ?_) h5
     obtain ⟨hxy, hpl⟩ := hxy
     cases x <;> first | (simp [plainC] at hpl; done) | (simp only [Ow] at how; done) | (simp only [rvV, Option.some.injEq] at hxy; subst hxy; exact how)
 ·by_cases hjk : j = k
  ·subst hjk; exact O.mine j _ b1
  ·obtain ⟨c, h3, _, _⟩ := hget j blk' hjk hj
   exact O.mine j c h3
 ·obtain ⟨p1, _, p3⟩ := O.pin i b hb
  exact ⟨p1, h0 i b hb, p3⟩
 ·obtain ⟨x, hx, hxy⟩ := ht.mem hy
  obtain ⟨u, hu, hs⟩ := hS s x hx
  rcases hxy with hxy | ⟨rfl, hz⟩
  ·exact ⟨u, hu, hsl x y u hxy hs⟩
  ·exact ⟨u, hu, (hs.fr hz).sl⟩
end
end Go.D
