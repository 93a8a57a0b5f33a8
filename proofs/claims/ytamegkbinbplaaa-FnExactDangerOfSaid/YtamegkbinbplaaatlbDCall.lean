import Derived.Test.YtamegkbinbplaaatlbDOps
set_option linter.unusedVariables false
namespace Go.D
def Callable (P : Program) (f : FuncId) : Prop := ∃ fn, P.funcs[f]? = some fn ∧ (fn.name == "runtime.NumGoroutine") = false ∧ fn.body.isNone = false
def OK (P : Program) (f : FuncId) (ins : List V) (out : V) : Prop :=
 Callable P f ∧ ∀ (w : World) (vs : List Value) (M : Nat → Prop), (∀ b, M b → b < w.heap.size) → FrL w M ins vs →
  Calls P f vs.toArray w fun e w' => ∃ v fp, e = .returned v ∧ Grew w w' ∧ Ow w' (fun b => M b ∨ b ∈ fp) out v fp ∧ fp.Nodup ∧ ∀ b ∈ fp, w.heap.size ≤ b ∧ b < w'.heap.size
mutual
def frz : V → Bool
 | .lit _ => true
 | .arr .. => true
 | .fptr .. => true
 | .agg cs => frzL cs
 | .tup cs => frzL cs
 | .fn _ cs => frzL cs
 | _ => false
def frzL : List V → Bool
 | [] => true
 | c :: cs => frz c && frzL cs
end
mutual
theorem Sl.fr {w : World} {M : Nat → Prop} {H : Hp} {μ : Nat → Option Nat} : ∀ {x : V} {v : Value}, Sl w M H μ x v → frz x = true → Fr w M x v
 | .lit u, v, h, _ => by simpa only [Sl, Fr] using h
 | .agg cs, v, h, hz => by
  simp only [Sl, Fr] at h ⊢
  simp only [frz] at hz
  obtain ⟨us, rfl, h⟩ := h
  exact ⟨us, rfl, SlL.fr h hz⟩
 | .tup cs, v, h, hz => by
  simp only [Sl, Fr] at h ⊢
  simp only [frz] at hz
  obtain ⟨us, rfl, h⟩ := h
  exact ⟨us, rfl, SlL.fr h hz⟩
 | .arr s n cs full, v, h, _ => by simpa only [Sl] using h
 | .fptr cs off, v, h, _ => by simpa only [Sl] using h
 | .fn f caps, v, h, hz => by
  simp only [Sl, Fr] at h ⊢
  simp only [frz] at hz
  obtain ⟨us, rfl, h⟩ := h
  exact ⟨us, rfl, SlL.fr h hz⟩
 | .own .., v, h, hz => by simp [frz] at hz
 | .obox .., v, h, hz => by simp [frz] at hz
 | .ref .., v, h, hz => by simp [frz] at hz
 | .ptr .., v, h, hz => by simp [frz] at hz
 | .any, v, h, hz => by simp [frz] at hz
theorem SlL.fr {w : World} {M : Nat → Prop} {H : Hp} {μ : Nat → Option Nat} : ∀ {xs : List V} {us : List Value}, SlL w M H μ xs us → frzL xs = true → FrL w M xs us
 | [], us, h, _ => by simpa only [SlL, FrL] using h
 | c :: cs, us, h, hz => by
  simp only [SlL, FrL] at h ⊢
  simp only [frzL, Bool.and_eq_true] at hz
  obtain ⟨u, us', rfl, h1, h2⟩ := h
  exact ⟨u, us', rfl, Sl.fr h1 hz.1, SlL.fr h2 hz.2⟩
end
def FzTo (out x : V) : Prop := ∀ (w : World) (M M' : Nat → Prop) (v : Value) (fp : List Nat), Ow w M' out v fp → (∀ b, M b → M' b) → (∀ b ∈ fp, ¬ M b) → Fr w M x v
def FzToL (out x : List V) : Prop := ∀ (w : World) (M M' : Nat → Prop) (v : List Value) (fp : List Nat), OwL w M' out v fp → (∀ b, M b → M' b) → (∀ b ∈ fp, ¬ M b) → FrL w M x v
theorem FzTo.lit (u : Value) : FzTo (.lit u) (.lit u) := fun w M M' v fp h _ _ => by simp only [Ow] at h; simp only [Fr]; exact h.2
theorem FzTo.arr (s n : Nat) (cs : List V) (full : Bool) : FzTo (.arr s n cs full) (.arr s n cs full) := fun w M M' v fp h hM _ => by
 simp only [Ow] at h
 exact Fr.same (Same.refl w M') (fun b hb => .inl (hM b hb)) h.2
theorem FzTo.fptr (cs : List V) (off : Nat) : FzTo (.fptr cs off) (.fptr cs off) := fun w M M' v fp h hM _ => by
 simp only [Ow] at h
 exact Fr.same (Same.refl w M') (fun b hb => .inl (hM b hb)) h.2
theorem FzTo.fn (f : FuncId) (cs : List V) : FzTo (.fn f cs) (.fn f cs) := fun w M M' v fp h hM _ => by
 simp only [Ow] at h
 exact Fr.same (Same.refl w M') (fun b hb => .inl (hM b hb)) h.2
theorem FzToL.nil : FzToL [] [] := fun w M M' v fp h _ _ => by simp only [OwL] at h; simp only [FrL]; exact h.1
theorem FzToL.cons {o x : V} {os xs : List V} (h : FzTo o x) (hs : FzToL os xs) : FzToL (o :: os) (x :: xs) := fun w M M' v fp hh hM hf => by
 simp only [OwL] at hh
 obtain ⟨u, us', f, f', rfl, rfl, h1, h2⟩ := hh
 simp only [FrL]
 exact ⟨u, us', rfl, h w M M' u f h1 hM (fun b hb => hf b (by simp [hb])), hs w M M' us' f' h2 hM (fun b hb => hf b (by simp [hb]))⟩
theorem FzToL.append {o x os xs : List V} (h : FzToL o x) (hs : FzToL os xs) : FzToL (o ++ os) (x ++ xs) := by
 intro w M M' v fp hh hM hf
 have key : ∀ (o : List V) (v : List Value) (fp : List Nat), OwL w M' (o ++ os) v fp → ∃ v1 v2 f1 f2, v = v1 ++ v2 ∧ fp = f1 ++ f2 ∧ OwL w M' o v1 f1 ∧ OwL w M' os v2 f2 := by
  intro o
  induction o with
  | nil => exact fun v fp h => ⟨[], v, [], fp, rfl, rfl, by simp [OwL], h⟩
  | cons c o ih =>
   intro v fp h
   simp only [List.cons_append, OwL] at h
   obtain ⟨u, us', f, f', rfl, rfl, h1, h2⟩ := h
   obtain ⟨v1, v2, f1, f2, rfl, rfl, h3, h4⟩ := ih _ _ h2
   exact ⟨u :: v1, v2, f ++ f1, f2, rfl, by simp, by simp only [OwL]; exact ⟨u, v1, f, f1, rfl, rfl, h1, h3⟩, h4⟩
 obtain ⟨v1, v2, f1, f2, rfl, rfl, h1, h2⟩ := key o v fp hh
 exact (h w M M' v1 f1 h1 hM (fun b hb => hf b (by simp [hb]))).append (hs w M M' v2 f2 h2 hM (fun b hb => hf b (by simp [hb])))
theorem FzTo.agg {os xs : List V} (h : FzToL os xs) : FzTo (.agg os) (.agg xs) := fun w M M' v fp hh hM hf => by
 simp only [Ow] at hh
 obtain ⟨us, rfl, hh⟩ := hh
 simp only [Fr]
 exact ⟨us, rfl, h w M M' us fp hh hM hf⟩
theorem FzTo.tup {os xs : List V} (h : FzToL os xs) : FzTo (.tup os) (.tup xs) := fun w M M' v fp hh hM hf => by
 simp only [Ow] at hh
 obtain ⟨us, rfl, hh⟩ := hh
 simp only [Fr]
 exact ⟨us, rfl, h w M M' us fp hh hM hf⟩
theorem FzTo.own {s n : Nat} {cs xs : List V} {full : Bool} (hl : xs.length = cs.length) (h : FzToL cs xs) : FzTo (.own s n cs full) (.arr s n xs full) := fun w M M' v fp hh hM hf => by
 simp only [Ow] at hh
 obtain ⟨A, cap, rfl, hd, hh⟩ := hh
 simp only [Fr]
 refine ⟨A, cap, rfl, by rw [hl]; exact hd, ?_⟩
 rcases hh with ⟨rfl, _⟩ | ⟨b, c, e, us, fp', rfl, rfl, hb, hcap, hl', hc⟩
 ·have : xs = [] := List.length_eq_zero_iff.1 hl
  exact .inl this
 ·refine .inr ⟨b, 0, us, rfl, (Array.getElem?_eq_some_iff.1 hb).1, hf b (by simp), h w M M' us fp' hl' hM (fun x hx => hf x (by simp [hx])), hc⟩
mutual
def thaw (n : Nat) : V → V × List Blk
 | .own s m cs full => (.ref n 0 0 s m full, [⟨0, cs⟩])
 | .agg cs => (.agg (thawL n cs).1, (thawL n cs).2)
 | .tup cs => (.tup (thawL n cs).1, (thawL n cs).2)
 | .obox cs off => (.ptr n 0 off, [⟨0, cs⟩])
 | .any => (.any, [])
 | .lit u => (.lit u, [])
 | .arr s m cs full => (.arr s m cs full, [])
 | .fptr cs off => (.fptr cs off, [])
 | .fn f cs => (.fn f cs, [])
 | .ref k ver off s m full => (.ref k ver off s m full, [])
 | .ptr k ver off => (.ptr k ver off, [])
def thawL (n : Nat) : List V → List V × List Blk
 | [] => ([], [])
 | c :: cs => ((thaw n c).1 :: (thawL (n + (thaw n c).2.length) cs).1, (thaw n c).2 ++ (thawL (n + (thaw n c).2.length) cs).2)
end
def BlkO (w : World) (M : Nat → Prop) (m : Option Nat) (blk : Blk) (fp : List Nat) : Prop :=
 blk.ver = 0 ∧ match m with
 | some b => ∃ c e us, w.heap[b]? = some (.cells c e (0, 0)) ∧ OwL w M blk.cells us fp ∧ Lies w b 0 us
 | none => blk.cells = []
abbrev Piece := Option Nat × List Nat
def Piece.all (p : Piece) : List Nat := p.1.toList ++ p.2
def Holds (H : Hp) (μ : Nat → Option Nat) (n : Nat) (bs : List Blk) (ps : List Piece) : Prop :=
 n + bs.length ≤ H.length ∧ ∀ (i : Nat) (blk : Blk) (p : Piece), bs[i]? = some blk → ps[i]? = some p → H[n + i]? = some (some blk) ∧ μ (n + i) = p.1
structure Parts (w : World) (M : Nat → Prop) (bs : List Blk) (ps : List Piece) (fp : List Nat) : Prop where
 len : ps.length = bs.length
 all : fp = ps.flatMap Piece.all
 ok : ∀ (i : Nat) (blk : Blk) (p : Piece), bs[i]? = some blk → ps[i]? = some p → BlkO w M p.1 blk p.2
theorem Parts.nil (w : World) (M : Nat → Prop) : Parts w M [] [] [] := ⟨rfl, rfl, fun i blk p h => by simp at h⟩
theorem Parts.one {w : World} {M : Nat → Prop} {blk : Blk} {p : Piece} (h : BlkO w M p.1 blk p.2) : Parts w M [blk] [p] p.all :=
 ⟨rfl, by simp, fun i b q hb hq => by
  cases i with
  | zero => simp at hb hq; subst hb hq; exact h
  | succ i => simp at hb⟩
theorem Parts.append {w : World} {M : Nat → Prop} {bs bs' : List Blk} {ps ps' : List Piece} {fp fp' : List Nat} (h : Parts w M bs ps fp) (k : Parts w M bs' ps' fp') : Parts w M (bs ++ bs') (ps ++ ps') (fp ++ fp') :=
 ⟨by simp [h.len, k.len], by simp [h.all, k.all], fun i b q hb hq => by
  rcases Nat.lt_or_ge i bs.length with hi | hi
  ·rw [List.getElem?_append_left hi] at hb
   rw [List.getElem?_append_left (by rw [h.len]; exact hi)] at hq
   exact h.ok i b q hb hq
  ·rw [List.getElem?_append_right hi] at hb
   rw [List.getElem?_append_right (by rw [h.len]; exact hi), h.len] at hq
   exact k.ok _ b q hb hq⟩
theorem Holds.left {H : Hp} {μ : Nat → Option Nat} {n : Nat} {bs bs' : List Blk} {ps ps' : List Piece} (hl : ps.length = bs.length) (h : Holds H μ n (bs ++ bs') (ps ++ ps')) : Holds H μ n bs ps :=
 ⟨by have := h.1; simp at this; omega, fun i blk p hb hp => h.2 i blk p (by rw [List.getElem?_append_left (List.getElem?_eq_some_iff.1 hb).1]; exact hb)
  (by rw [List.getElem?_append_left (List.getElem?_eq_some_iff.1 hp).1]; exact hp)⟩
theorem Holds.right {H : Hp} {μ : Nat → Option Nat} {n : Nat} {bs bs' : List Blk} {ps ps' : List Piece} (hl : ps.length = bs.length) (h : Holds H μ n (bs ++ bs') (ps ++ ps')) : Holds H μ (n + bs.length) bs' ps' :=
 ⟨by have := h.1; simp at this; omega, fun i blk p hb hp => by
  have := h.2 (bs.length + i) blk p (by rw [List.getElem?_append_right (by omega)]; simpa using hb) (by rw [List.getElem?_append_right (by omega), hl]; simpa using hp)
  rwa [← Nat.add_assoc] at this⟩
mutual
theorem thaw_sound {w : World} {M : Nat → Prop} : ∀ {x : V} {v : Value} {fp : List Nat}, Ow w M x v fp → ∀ n, ∃ ps, Parts w M (thaw n x).2 ps fp ∧
  ∀ H μ, Holds H μ n (thaw n x).2 ps → Sl w M H μ (thaw n x).1 v
 | .lit u, v, fp, h, n => by
  simp only [Ow] at h
  obtain ⟨rfl, rfl⟩ := h
  exact ⟨[], .nil _ _, fun H μ _ => by simp only [thaw, Sl]⟩
 | .arr s m cs full, v, fp, h, n => by
  simp only [Ow] at h
  obtain ⟨rfl, h⟩ := h
  exact ⟨[], .nil _ _, fun H μ _ => by simp only [thaw, Sl]; exact h⟩
 | .fptr cs off, v, fp, h, n => by
  simp only [Ow] at h
  obtain ⟨rfl, h⟩ := h
  exact ⟨[], .nil _ _, fun H μ _ => by simp only [thaw, Sl]; exact h⟩
 | .fn f cs, v, fp, h, n => by
  simp only [Ow] at h
  obtain ⟨rfl, h⟩ := h
  exact ⟨[], .nil _ _, fun H μ _ => by simp only [thaw]; exact h.sl⟩
 | .ref .., v, fp, h, n => by simp only [Ow] at h
 | .ptr .., v, fp, h, n => by simp only [Ow] at h
 | .any, v, fp, h, n => by
  simp only [Ow] at h
  subst h
  exact ⟨[], .nil _ _, fun H μ _ => by simp only [thaw, Sl]⟩
 | .agg cs, v, fp, h, n => by
  simp only [Ow] at h
  obtain ⟨us, rfl, h⟩ := h
  obtain ⟨ps, h1, h2⟩ := thawL_sound h n
  exact ⟨ps, by simpa only [thaw] using h1, fun H μ hh => by simp only [thaw, Sl] at hh ⊢; exact ⟨us, rfl, h2 H μ hh⟩⟩
 | .tup cs, v, fp, h, n => by
  simp only [Ow] at h
  obtain ⟨us, rfl, h⟩ := h
  obtain ⟨ps, h1, h2⟩ := thawL_sound h n
  exact ⟨ps, by simpa only [thaw] using h1, fun H μ hh => by simp only [thaw, Sl] at hh ⊢; exact ⟨us, rfl, h2 H μ hh⟩⟩
 | .own s m cs full, v, fp, h, n => by
  simp only [Ow] at h
  obtain ⟨A, cap, rfl, hd, h⟩ := h
  rcases h with ⟨rfl, rfl⟩ | ⟨b, c, e, us, fp', rfl, rfl, hb, hcap, hl, hc⟩
  ·refine ⟨[(none, fp)], ?_, fun H μ hh => ?_⟩
   ·simp only [thaw]
    exact Parts.one (p := (none, fp)) ⟨rfl, rfl⟩
   ·simp only [thaw] at hh ⊢
    have h1 := hh.2 0 _ _ rfl rfl
    have hlen := hh.1
    simp only [List.length_singleton] at hlen
    simp only [Sl]
    refine ⟨by omega, ⟨_, _, _, rfl⟩, fun blk hb => ?_⟩
    rw [Nat.add_zero] at h1
    rw [h1.1] at hb
    cases hb
    refine ⟨Nat.le_refl _, fun _ => ?_⟩
    obtain ⟨hs, hm, hle, _, _⟩ := hd
    have h0 : m = 0 := Nat.le_zero.1 hle
    subst h0
    exact .inl ⟨A, rfl, rfl, hs⟩
  ·refine ⟨[(some b, fp')], ?_, fun H μ hh => ?_⟩
   ·simp only [thaw]
    exact Parts.one (p := (some b, fp')) ⟨rfl, c, e, us, hb, hl, hc⟩
   ·simp only [thaw] at hh ⊢
    have h1 := hh.2 0 _ _ rfl rfl
    have hlen := hh.1
    simp only [List.length_singleton] at hlen
    simp only [Sl]
    refine ⟨by omega, ⟨_, _, _, rfl⟩, fun blk hbk => ?_⟩
    rw [Nat.add_zero] at h1
    rw [h1.1] at hbk
    cases hbk
    refine ⟨Nat.le_refl _, fun _ => ?_⟩
    rw [h1.2]
    obtain ⟨hs, hm, hle, hmax, hf⟩ := hd
    exact .inr ⟨b, cap, c, e, rfl, rfl, hs, hle, hmax, hf, hb, by omega⟩
 | .obox cs off, v, fp, h, n => by
  simp only [Ow] at h
  obtain ⟨b, c, e, us, fp', rfl, rfl, hb, hl, hc⟩ := h
  refine ⟨[(some b, fp')], ?_, fun H μ hh => ?_⟩
  ·simp only [thaw]
   exact Parts.one (p := (some b, fp')) ⟨rfl, c, e, us, hb, hl, hc⟩
  ·simp only [thaw] at hh ⊢
   have h1 := hh.2 0 _ _ rfl rfl
   have hlen := hh.1
   simp only [List.length_singleton] at hlen
   simp only [Sl]
   refine ⟨by omega, ⟨_, rfl⟩, fun blk hbk => ?_⟩
   rw [Nat.add_zero] at h1
   rw [h1.1] at hbk
   cases hbk
   refine ⟨Nat.le_refl _, fun _ => ⟨b, h1.2, rfl⟩⟩
theorem thawL_sound {w : World} {M : Nat → Prop} : ∀ {xs : List V} {vs : List Value} {fp : List Nat}, OwL w M xs vs fp → ∀ n, ∃ ps, Parts w M (thawL n xs).2 ps fp ∧
  ∀ H μ, Holds H μ n (thawL n xs).2 ps → SlL w M H μ (thawL n xs).1 vs
 | [], vs, fp, h, n => by
  simp only [OwL] at h
  obtain ⟨rfl, rfl⟩ := h
  exact ⟨[], .nil _ _, fun H μ _ => by simp only [thawL, SlL]⟩
 | c :: cs, vs, fp, h, n => by
  simp only [OwL] at h
  obtain ⟨u, us', f, f', rfl, rfl, h1, h2⟩ := h
  obtain ⟨ps, hp, hq⟩ := thaw_sound h1 n
  obtain ⟨ps', hp', hq'⟩ := thawL_sound h2 (n + (thaw n c).2.length)
  refine ⟨ps ++ ps', by simpa only [thawL] using hp.append hp', fun H μ hh => ?_⟩
  simp only [thawL] at hh ⊢
  simp only [SlL]
  exact ⟨u, us', rfl, hq H μ (hh.left hp.len), hq' H μ (hh.right hp.len)⟩
end
end Go.D
