import Derived.WalkKit
import Derived.Orders
namespace Go.D
def maxI : Nat := 9223372036854775807
inductive V where
 | lit (v : Value)
 | agg (cs : List V)
 | tup (vs : List V)
 | arr (s n : Nat) (cs : List V) (full : Bool)
 | fptr (cs : List V) (off : Nat)
 | fn (f : FuncId) (caps : List V)
 | own (s n : Nat) (cs : List V) (full : Bool)
 | obox (cs : List V) (off : Nat)
 | ref (k ver off s n : Nat) (full : Bool)
 | ptr (k ver off : Nat)
 | any
def Lies (w : World) (b o : Nat) (us : List Value) : Prop := ∀ j, j < us.length → w.cell? ⟨b, o + j, none⟩ = us[j]?
def Hdr (n cap s len : Nat) (full : Bool) : Prop := 0 < s ∧ n * s = len ∧ n ≤ cap ∧ cap ≤ maxI ∧ (full = true → cap = n)
mutual
def Fr (w : World) (M : Nat → Prop) : V → Value → Prop
 | .lit u, v => v = u
 | .agg cs, v => ∃ us : List Value, v = .agg us.toArray ∧ FrL w M cs us
 | .tup cs, v => ∃ us : List Value, v = .tuple us.toArray ∧ FrL w M cs us
 | .arr s n cs full, v => ∃ A cap, v = .slice A n cap ∧ Hdr n cap s cs.length full ∧
   (cs = [] ∨ ∃ b o us, A = some ⟨b, o, none⟩ ∧ b < w.heap.size ∧ ¬ M b ∧ FrL w M cs us ∧ Lies w b o us)
 | .fptr cs off, v => ∃ b o us, v = .pointer (some ⟨b, o + off, none⟩) ∧ b < w.heap.size ∧ ¬ M b ∧ FrL w M cs us ∧ Lies w b o us
 | .fn f caps, v => ∃ us : List Value, v = .func (.func f) #[] us.toArray ∧ FrL w M caps us
 | .own .., _ => False
 | .obox .., _ => False
 | .ref .., _ => False
 | .ptr .., _ => False
 | .any, _ => True
def FrL (w : World) (M : Nat → Prop) : List V → List Value → Prop
 | [], us => us = []
 | c :: cs, us => ∃ u us', us = u :: us' ∧ Fr w M c u ∧ FrL w M cs us'
end
structure Same (w w' : World) (M : Nat → Prop) : Prop where
 cell : ∀ b o u, ¬ M b → w.cell? ⟨b, o, none⟩ = some u → w'.cell? ⟨b, o, none⟩ = some u
 size : w.heap.size ≤ w'.heap.size
theorem Same.refl (w : World) (M : Nat → Prop) : Same w w M := ⟨fun _ _ _ _ h => h, Nat.le_refl _⟩
theorem Lies.same {w w' : World} {M : Nat → Prop} {b o : Nat} {us : List Value} (h : Lies w b o us) (hM : ¬ M b) (hs : Same w w' M) : Lies w' b o us := by
 intro j hj
 have h1 := h j hj
 rw [List.getElem?_eq_getElem hj] at h1 ⊢
 exact hs.cell _ _ _ hM h1
theorem FrL.length {w : World} {M : Nat → Prop} : ∀ {cs : List V} {us : List Value}, FrL w M cs us → us.length = cs.length
 | [], us, h => by simp only [FrL] at h; subst h; rfl
 | c :: cs, us, h => by
  simp only [FrL] at h
  obtain ⟨u, us', rfl, _, h⟩ := h
  simp [FrL.length h]
mutual
theorem Fr.same {w w' : World} {M M' : Nat → Prop} (hs : Same w w' M) (hM : ∀ b, M' b → M b ∨ w.heap.size ≤ b) : ∀ {x : V} {v : Value}, Fr w M x v → Fr w' M' x v
 | .lit u, v, h => by simpa only [Fr] using h
 | .agg cs, v, h => by
  simp only [Fr] at h ⊢
  obtain ⟨us, rfl, h⟩ := h
  exact ⟨us, rfl, FrL.same hs hM h⟩
 | .tup cs, v, h => by
  simp only [Fr] at h ⊢
  obtain ⟨us, rfl, h⟩ := h
  exact ⟨us, rfl, FrL.same hs hM h⟩
 | .arr s n cs full, v, h => by
  simp only [Fr] at h ⊢
  obtain ⟨A, cap, rfl, hd, h⟩ := h
  refine ⟨A, cap, rfl, hd, ?_⟩
  rcases h with h | ⟨b, o, us, rfl, hlt, hb, hl, hc⟩
  ·exact .inl h
  ·refine .inr ⟨b, o, us, rfl, Nat.lt_of_lt_of_le hlt hs.size, ?_, FrL.same hs hM hl, hc.same hb hs⟩
   intro hm
   rcases hM b hm with hm | hm
   ·exact hb hm
   ·omega
 | .fptr cs off, v, h => by
  simp only [Fr] at h ⊢
  obtain ⟨b, o, us, rfl, hlt, hb, hl, hc⟩ := h
  refine ⟨b, o, us, rfl, Nat.lt_of_lt_of_le hlt hs.size, ?_, FrL.same hs hM hl, hc.same hb hs⟩
  intro hm
  rcases hM b hm with hm | hm
  ·exact hb hm
  ·omega
 | .fn f caps, v, h => by
  simp only [Fr] at h ⊢
  obtain ⟨us, rfl, h⟩ := h
  exact ⟨us, rfl, FrL.same hs hM h⟩
 | .own .., v, h => by simp only [Fr] at h
 | .obox .., v, h => by simp only [Fr] at h
 | .ref .., v, h => by simp only [Fr] at h
 | .ptr .., v, h => by simp only [Fr] at h
 | .any, v, h => by simp only [Fr]
theorem FrL.same {w w' : World} {M M' : Nat → Prop} (hs : Same w w' M) (hM : ∀ b, M' b → M b ∨ w.heap.size ≤ b) : ∀ {xs : List V} {us : List Value}, FrL w M xs us → FrL w' M' xs us
 | [], us, h => by simpa only [FrL] using h
 | c :: cs, us, h => by
  simp only [FrL] at h ⊢
  obtain ⟨u, us', rfl, h1, h2⟩ := h
  exact ⟨u, us', rfl, Fr.same hs hM h1, FrL.same hs hM h2⟩
end
mutual
def Ow (w : World) (M : Nat → Prop) : V → Value → List Nat → Prop
 | .own s n cs full, v, fp => ∃ A cap, v = .slice A n cap ∧ Hdr n cap s cs.length full ∧
   ((cs = [] ∧ cap = 0) ∨ ∃ b c e us fp', A = some ⟨b, 0, none⟩ ∧ fp = b :: fp' ∧ w.heap[b]? = some (.cells c e (0, 0)) ∧ cap * s ≤ c.size ∧
    OwL w M cs us fp' ∧ Lies w b 0 us)
 | .agg cs, v, fp => ∃ us : List Value, v = .agg us.toArray ∧ OwL w M cs us fp
 | .tup cs, v, fp => ∃ us : List Value, v = .tuple us.toArray ∧ OwL w M cs us fp
 | .obox cs off, v, fp => ∃ b c e us fp', v = .pointer (some ⟨b, off, none⟩) ∧ fp = b :: fp' ∧ w.heap[b]? = some (.cells c e (0, 0)) ∧ OwL w M cs us fp' ∧ Lies w b 0 us
 | .lit u, v, fp => fp = [] ∧ v = u
 | .arr s n cs full, v, fp => fp = [] ∧ Fr w M (.arr s n cs full) v
 | .fptr cs off, v, fp => fp = [] ∧ Fr w M (.fptr cs off) v
 | .fn f caps, v, fp => fp = [] ∧ Fr w M (.fn f caps) v
 | .ref .., _, _ => False
 | .ptr .., _, _ => False
 | .any, _, fp => fp = []
def OwL (w : World) (M : Nat → Prop) : List V → List Value → List Nat → Prop
 | [], us, fp => us = [] ∧ fp = []
 | c :: cs, us, fp => ∃ u us' f f', us = u :: us' ∧ fp = f ++ f' ∧ Ow w M c u f ∧ OwL w M cs us' f'
end
def Hold (w w' : World) (fp : List Nat) : Prop := ∀ b, b ∈ fp → w'.heap[b]? = w.heap[b]?
theorem Lies.hold {w w' : World} {b o : Nat} {us : List Value} (h : Lies w b o us) (hb : w'.heap[b]? = w.heap[b]?) : Lies w' b o us := by
 intro j hj
 have : w'.cell? ⟨b, o + j, none⟩ = w.cell? ⟨b, o + j, none⟩ := World.cell?_of_block (w := w) (a := ⟨b, o + j, none⟩) hb
 rw [this]
 exact h j hj
theorem OwL.length {w : World} {M : Nat → Prop} : ∀ {cs : List V} {us : List Value} {fp : List Nat}, OwL w M cs us fp → us.length = cs.length
 | [], us, fp, h => by simp only [OwL] at h; obtain ⟨rfl, _⟩ := h; rfl
 | c :: cs, us, fp, h => by
  simp only [OwL] at h
  obtain ⟨u, us', f, f', rfl, _, _, h⟩ := h
  simp [OwL.length h]
mutual
theorem Ow.same {w w' : World} {M M' : Nat → Prop} (hs : Same w w' M) (hM : ∀ b, M' b → M b ∨ w.heap.size ≤ b) : ∀ {x : V} {v : Value} {fp : List Nat}, Hold w w' fp → Ow w M x v fp → Ow w' M' x v fp
 | .lit u, v, fp, hh, h => by simpa only [Ow] using h
 | .agg cs, v, fp, hh, h => by
  simp only [Ow] at h ⊢
  obtain ⟨us, rfl, h⟩ := h
  exact ⟨us, rfl, OwL.same hs hM hh h⟩
 | .tup cs, v, fp, hh, h => by
  simp only [Ow] at h ⊢
  obtain ⟨us, rfl, h⟩ := h
  exact ⟨us, rfl, OwL.same hs hM hh h⟩
 | .own s n cs full, v, fp, hh, h => by
  simp only [Ow] at h ⊢
  obtain ⟨A, cap, rfl, hd, h⟩ := h
  refine ⟨A, cap, rfl, hd, ?_⟩
  rcases h with h | ⟨b, c, e, us, fp', rfl, rfl, hb, hcap, hl, hc⟩
  ·exact .inl h
  ·have hb' := hh b (by simp)
   exact .inr ⟨b, c, e, us, fp', rfl, rfl, hb'.trans hb, hcap, OwL.same hs hM (fun x hx => hh x (by simp [hx])) hl, hc.hold hb'⟩
 | .obox cs off, v, fp, hh, h => by
  simp only [Ow] at h ⊢
  obtain ⟨b, c, e, us, fp', rfl, rfl, hb, hl, hc⟩ := h
  have hb' := hh b (by simp)
  exact ⟨b, c, e, us, fp', rfl, rfl, hb'.trans hb, OwL.same hs hM (fun x hx => hh x (by simp [hx])) hl, hc.hold hb'⟩
 | .arr s n cs full, v, fp, hh, h => by
  simp only [Ow] at h ⊢
  exact ⟨h.1, Fr.same hs hM h.2⟩
 | .fptr cs off, v, fp, hh, h => by
  simp only [Ow] at h ⊢
  exact ⟨h.1, Fr.same hs hM h.2⟩
 | .fn f caps, v, fp, hh, h => by
  simp only [Ow] at h ⊢
  exact ⟨h.1, Fr.same hs hM h.2⟩
 | .ref .., v, fp, hh, h => by simp only [Ow] at h
 | .ptr .., v, fp, hh, h => by simp only [Ow] at h
 | .any, v, fp, hh, h => by simpa only [Ow] using h
theorem OwL.same {w w' : World} {M M' : Nat → Prop} (hs : Same w w' M) (hM : ∀ b, M' b → M b ∨ w.heap.size ≤ b) : ∀ {xs : List V} {us : List Value} {fp : List Nat}, Hold w w' fp → OwL w M xs us fp → OwL w' M' xs us fp
 | [], us, fp, hh, h => by simpa only [OwL] using h
 | c :: cs, us, fp, hh, h => by
  simp only [OwL] at h ⊢
  obtain ⟨u, us', f, f', rfl, rfl, h1, h2⟩ := h
  exact ⟨u, us', f, f', rfl, rfl, Ow.same hs hM (fun x hx => hh x (by simp [hx])) h1, OwL.same hs hM (fun x hx => hh x (by simp [hx])) h2⟩
end
structure Blk where
 ver : Nat
 cells : List V
abbrev Hp := List (Option Blk)
def RefR (w : World) (m : Option Nat) (off s n : Nat) (full : Bool) (v : Value) : Prop :=
 (∃ A, v = .slice A 0 0 ∧ n = 0 ∧ 0 < s) ∨
 (∃ b cap c e, m = some b ∧ v = .slice (some ⟨b, off, none⟩) n cap ∧ 0 < s ∧ n ≤ cap ∧ cap ≤ maxI ∧ (full = true → cap = n) ∧ w.heap[b]? = some (.cells c e (0, 0)) ∧ off + cap * s ≤ c.size)
mutual
def Sl (w : World) (M : Nat → Prop) (H : Hp) (μ : Nat → Option Nat) : V → Value → Prop
 | .lit u, v => v = u
 | .agg cs, v => ∃ us : List Value, v = .agg us.toArray ∧ SlL w M H μ cs us
 | .tup cs, v => ∃ us : List Value, v = .tuple us.toArray ∧ SlL w M H μ cs us
 | .arr s n cs full, v => Fr w M (.arr s n cs full) v
 | .fptr cs off, v => Fr w M (.fptr cs off) v
 | .fn f caps, v => ∃ us : List Value, v = .func (.func f) #[] us.toArray ∧ SlL w M H μ caps us
 | .own .., _ => False
 | .obox .., _ => False
 | .ref k ver off s n full, v => k < H.length ∧ (∃ A m c, v = .slice A m c) ∧ ∀ blk, H[k]? = some (some blk) → ver ≤ blk.ver ∧ (blk.ver = ver → RefR w (μ k) off s n full v)
 | .ptr k ver off, v => k < H.length ∧ (∃ a, v = .pointer a) ∧ ∀ blk, H[k]? = some (some blk) → ver ≤ blk.ver ∧ (blk.ver = ver → ∃ b, μ k = some b ∧ v = .pointer (some ⟨b, off, none⟩))
 | .any, _ => True
def SlL (w : World) (M : Nat → Prop) (H : Hp) (μ : Nat → Option Nat) : List V → List Value → Prop
 | [], us => us = []
 | c :: cs, us => ∃ u us', us = u :: us' ∧ Sl w M H μ c u ∧ SlL w M H μ cs us'
end
def Ce (w : World) (M : Nat → Prop) (H : Hp) (μ : Nat → Option Nat) (x : V) (v : Value) (fp : List Nat) : Prop :=
 Ow w M x v fp ∨ (fp = [] ∧ Sl w M H μ x v)
def CeL (w : World) (M : Nat → Prop) (H : Hp) (μ : Nat → Option Nat) : List V → List Value → List Nat → Prop
 | [], us, fp => us = [] ∧ fp = []
 | c :: cs, us, fp => ∃ u us' f f', us = u :: us' ∧ fp = f ++ f' ∧ Ce w M H μ c u f ∧ CeL w M H μ cs us' f'
def BlkR (w : World) (M : Nat → Prop) (H : Hp) (μ : Nat → Option Nat) (m : Option Nat) (blk : Blk) (fp : List Nat) : Prop :=
 match m with
 | some b => ∃ c e us, w.heap[b]? = some (.cells c e (0, 0)) ∧ CeL w M H μ blk.cells us fp ∧ Lies w b 0 us
 | none => blk.cells = []
structure Kept (X : Nat → Prop) (w w' : World) : Prop where
 os : w'.os = w.os
 tape : w'.tape = w.tape
 output : w'.output = w.output
 size : w.heap.size ≤ w'.heap.size
 block : ∀ i, i < w.heap.size → ¬ X i → w'.heap[i]? = w.heap[i]?
 drawn : w.drawn ≤ w'.drawn
theorem Kept.refl (X : Nat → Prop) (w : World) : Kept X w w := ⟨rfl, rfl, rfl, Nat.le_refl _, fun _ _ _ => rfl, Nat.le_refl _⟩
theorem Kept.trans {X Y : Nat → Prop} {a b c : World} (h : Kept X a b) (k : Kept Y b c) (hY : ∀ i, Y i → X i ∨ a.heap.size ≤ i) : Kept X a c :=
 ⟨k.os.trans h.os, k.tape.trans h.tape, k.output.trans h.output, Nat.le_trans h.size k.size, fun i hi hx => by
  rw [k.block i (Nat.lt_of_lt_of_le hi h.size) ?_]
  ·exact h.block i hi hx
  ·intro hy
   rcases hY i hy with h | h
   ·exact hx h
   ·omega, Nat.le_trans h.drawn k.drawn⟩
def Shape (w w' : World) (b : Nat) : Prop := ∀ c e, w.heap[b]? = some (.cells c e (0, 0)) → ∃ c' e', w'.heap[b]? = some (.cells c' e' (0, 0)) ∧ c'.size = c.size
theorem Shape.of_eq {w w' : World} {b : Nat} (h : w'.heap[b]? = w.heap[b]?) : Shape w w' b := fun c e hb => ⟨c, e, h.trans hb, rfl⟩
theorem Shape.trans {a b c : World} {i : Nat} (h : Shape a b i) (k : Shape b c i) : Shape a c i := fun x e hx => by
 obtain ⟨x', e', h1, h2⟩ := h x e hx
 obtain ⟨x2, e2, h3, h4⟩ := k x' e' h1
 exact ⟨x2, e2, h3, h4.trans h2⟩
structure Ctx where
 w0 : World
 M0 : Nat → Prop
 X : Nat → Prop
 L : Nat → Nat → Prop
structure St where
 nt : Nat
 tmps : List (Nat × V)
 H : Hp
structure Own (Γ : Ctx) (M : Nat → Prop) (H : Hp) (w : World) (μ : Nat → Option Nat) (fp : Nat → List Nat) (G : Nat → Option Nat) : Prop where
 blk : ∀ k blk, H[k]? = some (some blk) → BlkR w M H μ (μ k) blk (fp k)
 mine : ∀ k blk, H[k]? = some (some blk) → (∀ b, μ k = some b → G b = some k ∧ b ∉ fp k) ∧ (∀ b, b ∈ fp k → G b = some k) ∧ (fp k).Nodup
 sub : ∀ b, G b ≠ none → M b
 m0 : ∀ b, Γ.M0 b → M b
 lt : ∀ b, M b → b < w.heap.size
 new : ∀ b, G b ≠ none → Γ.X b ∨ Γ.w0.heap.size ≤ b
 apart : ∀ b, G b ≠ none → ¬ Γ.M0 b
 kept : Kept Γ.X Γ.w0 w
 pin : ∀ i b, Γ.L i b → μ i = some b ∧ (∃ blk, H[i]? = some (some blk)) ∧ Shape Γ.w0 w b
def Slots (st : St) (a : Act) (w : World) (M : Nat → Prop) (μ : Nat → Option Nat) : Prop :=
 ∀ s x, (s, x) ∈ st.tmps → ∃ u, a.tmps[s]? = some u ∧ Sl w M st.H μ x u
def R (Γ : Ctx) (st : St) (a : Act) (w : World) : Prop :=
 a.defers = [] ∧ a.tmps.size = st.nt ∧ ∃ M μ fp G, Own Γ M st.H w μ fp G ∧ Slots st a w M μ
end Go.D
