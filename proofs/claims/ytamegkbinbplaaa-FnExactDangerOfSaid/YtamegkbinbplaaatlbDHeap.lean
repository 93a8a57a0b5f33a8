import Derived.Test.YtamegkbinbplaaatlbDRet
set_option linter.unusedVariables false
namespace Go.D
section
variable {P : Program} {Γ : Ctx} {τ : Tau}
theorem Imp.of_eq {st st' : St} (h : st = st') : Imp Γ st st' := h ▸ Imp.refl st
def keepL : List Nat → List (Nat × V) → List (Nat × V)
 | [], _ => []
 | s :: r, l => match look l s with
  | some v => (s, v) :: keepL r l
  | none => keepL r l
theorem mem_keepL : ∀ {ks : List Nat} {l : List (Nat × V)} {s : Nat} {v : V}, (s, v) ∈ keepL ks l → (s, v) ∈ l
 | [], l, s, v, h => by cases h
 | k :: r, l, s, v, h => by
  simp only [keepL] at h
  split at h
  ·rename_i x hx
   rcases List.mem_cons.1 h with h | h
   ·cases h; exact look_mem hx
   ·exact mem_keepL h
  ·exact mem_keepL h
theorem Imp.keep (ks : List Nat) {st : St} : Imp Γ st { st with tmps := keepL ks st.tmps } := fun a w r => r.weaken fun s x h => mem_keepL h
def St.keep (st : St) (ks : List Nat) : St := { st with tmps := keepL ks st.tmps }
theorem Imp.of_own {st st' : St} (hn : st.nt = st'.nt)
  (h : ∀ (a : Act) (w : World) (M : Nat → Prop) (μ : Nat → Option Nat) (fp : Nat → List Nat) (G : Nat → Option Nat), Own Γ M st.H w μ fp G → Slots st a w M μ →
   ∃ M' μ' fp' G', Own Γ M' st'.H w μ' fp' G' ∧ Slots st' a w M' μ') : Imp Γ st st' := by
 intro a w r
 obtain ⟨h1, h2, M, μ, fp, G, O, hS⟩ := r
 obtain ⟨M', μ', fp', G', O', hS'⟩ := h a w M μ fp G O hS
 exact ⟨h1, h2.trans hn, M', μ', fp', G', O', hS'⟩
def setH (H : Hp) (k : Nat) (x : Option Blk) : Hp := bif Nat.blt k H.length then H.set k x else H ++ [x]
theorem setH_len (H : Hp) (k : Nat) (x : Option Blk) : H.length ≤ (setH H k x).length := by
 unfold setH
 cases h : Nat.blt k H.length <;> simp
theorem setH_same {H : Hp} {k : Nat} {x : Option Blk} (hk : k ≤ H.length) : (setH H k x)[k]? = some x := by
 unfold setH
 cases h : Nat.blt k H.length with
 | true =>
  have : k < H.length := Nat.le_of_ble_eq_true h
  simp [this]
 | false =>
  have : ¬ k < H.length := fun hh => by
   have : Nat.blt k H.length = true := Nat.ble_eq_true_of_le hh
   rw [h] at this; cases this
  have : k = H.length := by omega
  subst this
  simp
theorem setH_other {H : Hp} {k j : Nat} {x : Option Blk} (hk : k ≤ H.length) (hj : j ≠ k) : (setH H k x)[j]? = H[j]? := by
 unfold setH
 cases h : Nat.blt k H.length with
 | true => simp [Ne.symm hj]
 | false =>
  have : ¬ k < H.length := fun hh => by
   have : Nat.blt k H.length = true := Nat.ble_eq_true_of_le hh
   rw [h] at this; cases this
  have : k = H.length := by omega
  subst this
  simp only [cond_false]
  rcases Nat.lt_or_ge j H.length with h1 | h1
  ·rw [List.getElem?_append_left h1]
  ·rw [List.getElem?_append_right h1, List.getElem?_eq_none h1, List.getElem?_eq_none]
   simp
   omega
def updN {α : Type} (f : Nat → α) (k : Nat) (x : α) : Nat → α := fun j => if j = k then x else f j
theorem Own.turn {M M' : Nat → Prop} {H : Hp} {w w' : World} {μ : Nat → Option Nat} {fp : Nat → List Nat} {G : Nat → Option Nat} (O : Own Γ M H w μ fp G) (k : Nat) (hk : k ≤ H.length) (x : Option Blk) (m : Option Nat) (f : List Nat)
  (hos : w'.os = w.os) (htape : w'.tape = w.tape) (hout : w'.output = w.output) (hsize : w.heap.size ≤ w'.heap.size) (hdr : w.drawn ≤ w'.drawn)
  (hw : ∀ i, i < w.heap.size → G i ≠ some k → w'.heap[i]? = w.heap[i]?)
  (hM1 : ∀ b, M' b → M b ∨ w.heap.size ≤ b) (hM2 : ∀ b, M b → G b ≠ some k → M' b) (hM3 : x ≠ none → ∀ b ∈ m.toList ++ f, M' b) (hM4 : ∀ b, M' b → b < w'.heap.size)
  (hnew : x ≠ none → ∀ b ∈ m.toList ++ f, G b = some k ∨ w.heap.size ≤ b) (hnd : x ≠ none → (m.toList ++ f).Nodup)
  (hver : ∀ blk', x = some blk' → k < H.length → ∃ blk, H[k]? = some (some blk) ∧ blk.ver ≤ blk'.ver ∧ (blk.ver = blk'.ver → m = μ k ∧ ∀ b, μ k = some b → Shape w w' b))
  (hblk : ∀ blk', x = some blk' → Carry w M H μ w' M' (setH H k x) (updN μ k m) → BlkR w' M' (setH H k x) (updN μ k m) m blk' f)
  (hpin : ∀ i b, Γ.L i b → k = i → m = μ i ∧ x ≠ none ∧ Shape w w' b) :
  ∃ fp' G', Own Γ M' (setH H k x) w' (updN μ k m) fp' G' ∧ Carry w M H μ w' M' (setH H k x) (updN μ k m) ∧ (∀ b, G' b ≠ none → G b ≠ none ∨ w.heap.size ≤ b) := by
 classical
 let fp' : Nat → List Nat := updN fp k f
 let G' : Nat → Option Nat := fun b => if x ≠ none ∧ b ∈ m.toList ++ f then some k else if G b = some k then none else G b
 have hkM : ∀ b, G b = some k → M b := fun b h => O.sub b (by rw [h]; simp)
 have C : Carry w M H μ w' M' (setH H k x) (updN μ k m) := by
  refine ⟨⟨fun b o u hb hc => ?_, hsize⟩, hM1, setH_len _ _ _, fun j blk' hj h => ?_⟩
  ·have hlt : b < w.heap.size := World.block_lt_of_cell? _ _ hc
   have : w'.cell? ⟨b, o, none⟩ = w.cell? ⟨b, o, none⟩ := World.cell?_of_block (w := w) (a := ⟨b, o, none⟩) (hw b hlt fun h => hb (hkM b h))
   rw [this]; exact hc
  ·by_cases hjk : j = k
   ·subst hjk
    rw [setH_same hk] at h
    simp only [Option.some.injEq] at h
    obtain ⟨blk, h1, h2, h3⟩ := hver blk' h hj
    exact ⟨blk, h1, h2, fun e => by simp only [updN, if_true]; exact h3 e⟩
   ·rw [setH_other hk hjk] at h
    refine ⟨blk', h, Nat.le_refl _, fun _ => ⟨by simp only [updN, if_neg hjk], fun b hb => .of_eq (hw b (O.born_lt j blk' h b hb) ?_)⟩⟩
    rw [((O.mine j blk' h).1 b hb).1]
    simpa using hjk
 refine ⟨fp', G', ?_, C, fun b hb => ?_⟩
 ·refine ⟨fun j blk h => ?_, fun j blk h => ?_, fun b h => ?_, fun b h => ?_, hM4, fun b h => ?_, fun b h => ?_, ?_, fun i b hb => ?_⟩
  ·by_cases hjk : j = k
   ·subst hjk
    rw [setH_same hk] at h
    simp only [Option.some.injEq] at h
    simp only [fp', updN, if_true]
    exact hblk blk h C
   ·rw [setH_other hk hjk] at h
    have h1 := O.blk j blk h
    simp only [fp', updN, if_neg hjk]
    refine h1.carry C (fun b e => hw b (O.born_lt j blk h b e) ?_) fun b hb => hw b (O.fp_lt j blk h b hb) ?_
    ·rw [((O.mine j blk h).1 b e).1]; simpa using hjk
    ·rw [(O.mine j blk h).2.1 b hb]; simpa using hjk
  ·by_cases hjk : j = k
   ·subst hjk
    rw [setH_same hk] at h
    simp only [Option.some.injEq] at h
    have hx : x ≠ none := by rw [h]; simp
    have hn := hnd hx
    simp only [fp', updN, if_true]
    refine ⟨fun b e => ⟨?_, ?_⟩, fun b hb => ?_, (List.nodup_append.1 hn).2.1⟩
    ·simp only [G']
     rw [if_pos ⟨hx, by simp [e]⟩]
    ·rw [e] at hn
     simp only [Option.toList_some, List.singleton_append, List.nodup_cons] at hn
     exact hn.1
    ·simp only [G']
     rw [if_pos ⟨hx, by simp [hb]⟩]
   ·rw [setH_other hk hjk] at h
    obtain ⟨m1, m2, m3⟩ := O.mine j blk h
    have key : ∀ b, b < w.heap.size → G b = some j → G' b = some j := by
     intro b hlt hg
     have h1 : ¬ (x ≠ none ∧ b ∈ m.toList ++ f) := by
      rintro ⟨hx, hb⟩
      rcases hnew hx b hb with h2 | h2
      ·rw [hg] at h2; exact hjk (by simpa using h2)
      ·omega
     simp only [G']
     rw [if_neg h1, if_neg (by rw [hg]; simpa using hjk), hg]
    simp only [fp', updN, if_neg hjk]
    exact ⟨fun b e => ⟨key b (O.born_lt j blk h b e) (m1 b e).1, (m1 b e).2⟩, fun b hb => key b (O.fp_lt j blk h b hb) (m2 b hb), m3⟩
  ·simp only [G'] at h
   split at h
   ·rename_i hh; exact hM3 hh.1 b hh.2
   ·split at h
    ·exact absurd rfl h
    ·rename_i hg; exact hM2 b (O.sub b h) hg
  ·exact hM2 b (O.m0 b h) fun hg => O.apart b (by rw [hg]; simp) h
  ·simp only [G'] at h
   split at h
   ·rename_i hh
    rcases hnew hh.1 b hh.2 with h2 | h2
    ·exact O.new b (by rw [h2]; simp)
    ·have := O.kept.size; exact .inr (by omega)
   ·split at h
    ·exact absurd rfl h
    ·exact O.new b h
  ·simp only [G'] at h
   split at h
   ·rename_i hh
    rcases hnew hh.1 b hh.2 with h2 | h2
    ·exact O.apart b (by rw [h2]; simp)
    ·exact fun h0 => by have := O.lt b (O.m0 b h0); omega
   ·split at h
    ·exact absurd rfl h
    ·exact O.apart b h
  ·refine ⟨hos.trans O.kept.os, htape.trans O.kept.tape, hout.trans O.kept.output, Nat.le_trans O.kept.size hsize, fun i hi hX => ?_, Nat.le_trans O.kept.drawn hdr⟩
   have := O.kept.size
   rw [hw i (by omega) ?_]
   ·exact O.kept.block i hi hX
   ·intro hg
    rcases O.new i (by rw [hg]; simp) with h | h
    ·exact hX h
    ·omega
  ·obtain ⟨p1, ⟨blk, p2⟩, p3⟩ := O.pin i b hb
   by_cases hk0 : k = i
   ·subst hk0
    obtain ⟨q1, q2, q3⟩ := hpin k b hb rfl
    refine ⟨?_, ?_, p3.trans q3⟩
    ·simp only [updN, if_true]
     rw [q1]
     exact p1
    ·rw [setH_same hk]
     cases x with
     | none => exact absurd rfl q2
     | some y => exact ⟨y, rfl⟩
   ·refine ⟨?_, ?_, p3.trans (.of_eq (hw b (O.born_lt i blk p2 b p1) ?_))⟩
    ·simp only [updN, if_neg (show ¬ (i = k) from fun e => hk0 e.symm)]
     exact p1
    ·rw [setH_other hk (fun e => hk0 e.symm)]
     exact ⟨blk, p2⟩
    ·rw [((O.mine i blk p2).1 b p1).1]
     intro e
     exact hk0 (Option.some.inj e).symm
 ·simp only [G'] at hb
  split at hb
  ·rename_i hh
   rcases hnew hh.1 b hh.2 with h2 | h2
   ·exact .inl (by rw [h2]; simp)
   ·exact .inr h2
  ·split at hb
   ·exact absurd rfl hb
   ·exact .inl hb
end
end Go.D
