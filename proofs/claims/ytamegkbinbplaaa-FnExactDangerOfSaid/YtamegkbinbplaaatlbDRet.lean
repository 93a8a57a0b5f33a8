import Derived.Test.YtamegkbinbplaaatlbDCall2
set_option linter.unusedVariables false
namespace Go.D
def ownC : V → Bool
 | .lit _ => true
 | .arr .. => true
 | .fptr .. => true
 | .own .. => true
 | _ => false
theorem Ce.ow {w : World} {M : Nat → Prop} {H : Hp} {μ : Nat → Option Nat} {x : V} {v : Value} {fp : List Nat} (h : Ce w M H μ x v fp) (hc : ownC x = true) : Ow w M x v fp := by
 rcases h with h | ⟨rfl, h⟩
 ·exact h
 ·cases x <;> simp only [ownC, Bool.false_eq_true] at hc <;> simp only [Sl] at h <;> simp only [Ow]
  ·exact ⟨trivial, h⟩
  ·exact ⟨trivial, h⟩
  ·exact ⟨trivial, h⟩
theorem CeL.owL {w : World} {M : Nat → Prop} {H : Hp} {μ : Nat → Option Nat} : ∀ {xs : List V} {us : List Value} {fp : List Nat}, CeL w M H μ xs us fp → xs.all ownC = true → OwL w M xs us fp
 | [], us, fp, h, _ => by simpa only [OwL, CeL] using h
 | c :: cs, us, fp, h, hc => by
  simp only [CeL] at h
  obtain ⟨u, us', f, f', rfl, rfl, h1, h2⟩ := h
  simp only [List.all_cons, Bool.and_eq_true] at hc
  simp only [OwL]
  exact ⟨u, us', f, f', rfl, rfl, h1.ow hc.1, CeL.owL h2 hc.2⟩
mutual
theorem Fr.ow {w : World} {M : Nat → Prop} : ∀ {x : V} {v : Value}, Fr w M x v → frz x = true → Ow w M x v []
 | .lit u, v, h, _ => by simp only [Fr] at h; simp only [Ow]; exact ⟨trivial, h⟩
 | .agg cs, v, h, hz => by
  simp only [Fr] at h
  simp only [frz] at hz
  obtain ⟨us, rfl, h⟩ := h
  simp only [Ow]
  exact ⟨us, rfl, FrL.ow h hz⟩
 | .tup cs, v, h, hz => by
  simp only [Fr] at h
  simp only [frz] at hz
  obtain ⟨us, rfl, h⟩ := h
  simp only [Ow]
  exact ⟨us, rfl, FrL.ow h hz⟩
 | .arr s n cs full, v, h, _ => by simp only [Ow]; exact ⟨trivial, h⟩
 | .fptr cs off, v, h, _ => by simp only [Ow]; exact ⟨trivial, h⟩
 | .fn f caps, v, h, _ => by simp only [Ow]; exact ⟨trivial, h⟩
 | .own .., v, h, hz => by simp [frz] at hz
 | .obox .., v, h, hz => by simp [frz] at hz
 | .ref .., v, h, hz => by simp [frz] at hz
 | .ptr .., v, h, hz => by simp [frz] at hz
 | .any, v, h, hz => by simp [frz] at hz
theorem FrL.ow {w : World} {M : Nat → Prop} : ∀ {xs : List V} {us : List Value}, FrL w M xs us → frzL xs = true → OwL w M xs us []
 | [], us, h, _ => by simp only [FrL] at h; simp only [OwL]; exact ⟨h, trivial⟩
 | c :: cs, us, h, hz => by
  simp only [FrL] at h
  simp only [frzL, Bool.and_eq_true] at hz
  obtain ⟨u, us', rfl, h1, h2⟩ := h
  simp only [OwL]
  exact ⟨u, us', [], [], rfl, rfl, Fr.ow h1 hz.1, FrL.ow h2 hz.2⟩
end
mutual
def OutP (H : Hp) : V → V → List Nat → Prop
 | .ref k ver off s n full, y, ks => ∃ blk, blkAt H k ver = some blk ∧ off = 0 ∧ n * s = blk.cells.length ∧ blk.cells.all ownC = true ∧ y = .own s n blk.cells full ∧ ks = [k]
 | .agg cs, y, ks => ∃ ys, y = .agg ys ∧ OutL H cs ys ks
 | .tup cs, y, ks => ∃ ys, y = .tup ys ∧ OutL H cs ys ks
 | .lit u, y, ks => y = .lit u ∧ ks = []
 | .arr s n cs full, y, ks => y = .arr s n cs full ∧ ks = []
 | .fptr cs off, y, ks => y = .fptr cs off ∧ ks = []
 | .fn f cs, y, ks => frzL cs = true ∧ y = .fn f cs ∧ ks = []
 | .own .., _, _ => False
 | .obox .., _, _ => False
 | .ptr k ver off, y, ks => ∃ blk, blkAt H k ver = some blk ∧ blk.cells.all ownC = true ∧ y = .obox blk.cells off ∧ ks = [k]
 | .any, _, _ => False
def OutL (H : Hp) : List V → List V → List Nat → Prop
 | [], ys, ks => ys = [] ∧ ks = []
 | c :: cs, ys, ks => ∃ y ys' k k', ys = y :: ys' ∧ ks = k ++ k' ∧ OutP H c y k ∧ OutL H cs ys' k'
end
section
variable {P : Program} {Γ : Ctx} {τ : Tau}
theorem Ow.less {w : World} {M M' : Nat → Prop} {x : V} {v : Value} {fp : List Nat} (h : Ow w M x v fp) (hM : ∀ b, M' b → M b) : Ow w M' x v fp :=
 Ow.same (Same.refl w M) (fun b hb => .inl (hM b hb)) (fun _ _ => rfl) h
mutual
theorem OutP.sound {M : Nat → Prop} {H : Hp} {w : World} {μ : Nat → Option Nat} {fp : Nat → List Nat} {G : Nat → Option Nat} (O : Own Γ M H w μ fp G) : ∀ {x y : V} {ks : List Nat} {v : Value},
  OutP H x y ks → Sl w M H μ x v → Ow w M y v (ks.flatMap fun k => (μ k).toList ++ fp k)
 | .lit u, y, ks, v, h, hs => by
  simp only [OutP] at h
  obtain ⟨rfl, rfl⟩ := h
  simp only [Sl] at hs
  simp only [Ow, List.flatMap_nil]
  exact ⟨trivial, hs⟩
 | .arr s n cs full, y, ks, v, h, hs => by
  simp only [OutP] at h
  obtain ⟨rfl, rfl⟩ := h
  simp only [Sl] at hs
  simp only [Ow, List.flatMap_nil]
  exact ⟨trivial, hs⟩
 | .fptr cs off, y, ks, v, h, hs => by
  simp only [OutP] at h
  obtain ⟨rfl, rfl⟩ := h
  simp only [Sl] at hs
  simp only [Ow, List.flatMap_nil]
  exact ⟨trivial, hs⟩
 | .fn f cs, y, ks, v, h, hs => by
  simp only [OutP] at h
  obtain ⟨hz, rfl, rfl⟩ := h
  simp only [Ow, List.flatMap_nil]
  exact ⟨trivial, hs.fr (by simp only [frz]; exact hz)⟩
 | .agg cs, y, ks, v, h, hs => by
  simp only [OutP] at h
  obtain ⟨ys, rfl, h⟩ := h
  simp only [Sl] at hs
  obtain ⟨us, rfl, hs⟩ := hs
  simp only [Ow]
  exact ⟨us, rfl, OutL.sound O h hs⟩
 | .tup cs, y, ks, v, h, hs => by
  simp only [OutP] at h
  obtain ⟨ys, rfl, h⟩ := h
  simp only [Sl] at hs
  obtain ⟨us, rfl, hs⟩ := hs
  simp only [Ow]
  exact ⟨us, rfl, OutL.sound O h hs⟩
 | .own .., y, ks, v, h, hs => by simp only [OutP] at h
 | .obox .., y, ks, v, h, hs => by simp only [OutP] at h
 | .ptr k ver off, y, ks, v, h, hs => by
  simp only [OutP] at h
  obtain ⟨blk, hb, hc, rfl, rfl⟩ := h
  obtain ⟨h1, h2⟩ := blkAt_spec hb
  obtain ⟨b, hm, rfl⟩ := hs.ptr_at hb
  have hbl := O.blk k blk h1
  rw [hm] at hbl
  obtain ⟨c', e', us, hh', hcl, hlie⟩ := hbl
  simp only [List.flatMap_cons, List.flatMap_nil, List.append_nil, Ow, hm]
  exact ⟨b, c', e', us, fp k, rfl, rfl, hh', hcl.owL hc, hlie⟩
 | .any, y, ks, v, h, hs => by simp only [OutP] at h
 | .ref k ver off s n full, y, ks, v, h, hs => by
  simp only [OutP] at h
  obtain ⟨blk, hb, rfl, hn, hc, rfl, rfl⟩ := h
  obtain ⟨h1, h2⟩ := blkAt_spec hb
  simp only [Sl] at hs
  have hr := (hs.2.2 blk h1).2 h2
  have hbl := O.blk k blk h1
  simp only [List.flatMap_cons, List.flatMap_nil, List.append_nil, Ow]
  rcases hr with ⟨A, rfl, rfl, hs0⟩ | ⟨b, cap, c, e, hm, rfl, hs0, hle, hmax, hf, hh, hcs⟩
  ·refine ⟨A, 0, rfl, ⟨hs0, hn, Nat.le_refl _, Nat.zero_le _, fun _ => rfl⟩, .inl ⟨?_, rfl⟩⟩
   rw [Nat.zero_mul] at hn
   exact List.length_eq_zero_iff.1 hn.symm
  ·rw [hm] at hbl
   obtain ⟨c', e', us, hh', hcl, hlie⟩ := hbl
   rw [hh] at hh'
   cases hh'
   rw [hm]
   exact ⟨_, cap, rfl, ⟨hs0, hn, hle, hmax, hf⟩, .inr ⟨b, c, e, us, fp k, rfl, rfl, hh, by omega, hcl.owL hc, hlie⟩⟩
theorem OutL.sound {M : Nat → Prop} {H : Hp} {w : World} {μ : Nat → Option Nat} {fp : Nat → List Nat} {G : Nat → Option Nat} (O : Own Γ M H w μ fp G) : ∀ {xs ys : List V} {ks : List Nat} {vs : List Value},
  OutL H xs ys ks → SlL w M H μ xs vs → OwL w M ys vs (ks.flatMap fun k => (μ k).toList ++ fp k)
 | [], ys, ks, vs, h, hs => by
  simp only [OutL] at h
  obtain ⟨rfl, rfl⟩ := h
  simp only [SlL] at hs
  simp only [OwL, List.flatMap_nil]
  exact ⟨hs, trivial⟩
 | c :: cs, ys, ks, vs, h, hs => by
  simp only [OutL] at h
  obtain ⟨y, ys', k, k', rfl, rfl, h1, h2⟩ := h
  simp only [SlL] at hs
  obtain ⟨u, us', rfl, h3, h4⟩ := hs
  simp only [OwL]
  exact ⟨u, us', _, _, rfl, by rw [List.flatMap_append], OutP.sound O h1 h3, OutL.sound O h2 h4⟩
end
theorem OutL.live {H : Hp} : ∀ {xs ys : List V} {ks : List Nat}, (∀ x ∈ xs, ∀ y ks, OutP H x y ks → ∀ k ∈ ks, ∃ blk, H[k]? = some (some blk)) → OutL H xs ys ks → ∀ k ∈ ks, ∃ blk, H[k]? = some (some blk)
 | [], ys, ks, _, h, k, hk => by simp only [OutL] at h; rw [h.2] at hk; cases hk
 | c :: cs, ys, ks, hx, h, k, hk => by
  simp only [OutL] at h
  obtain ⟨y, ys', k1, k2, rfl, rfl, h1, h2⟩ := h
  rcases List.mem_append.1 hk with hk | hk
  ·exact hx c (by simp) y k1 h1 k hk
  ·exact OutL.live (fun x hm => hx x (by simp [hm])) h2 k hk
mutual
theorem OutP.live {H : Hp} : ∀ {x y : V} {ks : List Nat}, OutP H x y ks → ∀ k ∈ ks, ∃ blk, H[k]? = some (some blk)
 | .lit u, y, ks, h, k, hk => by simp only [OutP] at h; rw [h.2] at hk; cases hk
 | .arr .., y, ks, h, k, hk => by simp only [OutP] at h; rw [h.2] at hk; cases hk
 | .fptr .., y, ks, h, k, hk => by simp only [OutP] at h; rw [h.2] at hk; cases hk
 | .fn .., y, ks, h, k, hk => by simp only [OutP] at h; rw [h.2.2] at hk; cases hk
 | .agg cs, y, ks, h, k, hk => by simp only [OutP] at h; obtain ⟨ys, _, h⟩ := h; exact OutL.live2 h k hk
 | .tup cs, y, ks, h, k, hk => by simp only [OutP] at h; obtain ⟨ys, _, h⟩ := h; exact OutL.live2 h k hk
 | .own .., y, ks, h, k, hk => by simp only [OutP] at h
 | .obox .., y, ks, h, k, hk => by simp only [OutP] at h
 | .ptr kk ver off, y, ks, h, k, hk => by
  simp only [OutP] at h
  obtain ⟨blk, hb, _, _, rfl⟩ := h
  simp only [List.mem_singleton] at hk
  subst hk
  exact ⟨blk, (blkAt_spec hb).1⟩
 | .any, y, ks, h, k, hk => by simp only [OutP] at h
 | .ref kk ver off s n full, y, ks, h, k, hk => by
  simp only [OutP] at h
  obtain ⟨blk, hb, _, _, _, _, rfl⟩ := h
  simp only [List.mem_singleton] at hk
  subst hk
  exact ⟨blk, (blkAt_spec hb).1⟩
theorem OutL.live2 {H : Hp} : ∀ {xs ys : List V} {ks : List Nat}, OutL H xs ys ks → ∀ k ∈ ks, ∃ blk, H[k]? = some (some blk)
 | [], ys, ks, h, k, hk => by simp only [OutL] at h; rw [h.2] at hk; cases hk
 | c :: cs, ys, ks, h, k, hk => by
  simp only [OutL] at h
  obtain ⟨y, ys', k1, k2, rfl, rfl, h1, h2⟩ := h
  rcases List.mem_append.1 hk with hk | hk
  ·exact OutP.live h1 k hk
  ·exact OutL.live2 h2 k hk
end
theorem Own.keys_nodup {M : Nat → Prop} {H : Hp} {w : World} {μ : Nat → Option Nat} {fp : Nat → List Nat} {G : Nat → Option Nat} (O : Own Γ M H w μ fp G) : ∀ (ks : List Nat), ks.Nodup → (∀ k ∈ ks, ∃ blk, H[k]? = some (some blk)) →
  (ks.flatMap fun k => (μ k).toList ++ fp k).Nodup ∧ ∀ b ∈ (ks.flatMap fun k => (μ k).toList ++ fp k), ∃ k ∈ ks, G b = some k
 | [], _, _ => by simp
 | k :: ks, hn, hl => by
  obtain ⟨ih1, ih2⟩ := Own.keys_nodup O ks (List.nodup_cons.1 hn).2 (fun k hk => hl k (by simp [hk]))
  obtain ⟨blk, hb⟩ := hl k (by simp)
  obtain ⟨m1, m2, m3⟩ := O.mine k blk hb
  have hk1 : ∀ b ∈ (μ k).toList ++ fp k, G b = some k := by
   intro b hb
   rcases List.mem_append.1 hb with hb | hb
   ·exact (m1 b (by simpa using hb)).1
   ·exact m2 b hb
  have hk2 : ((μ k).toList ++ fp k).Nodup := by
   cases hm : μ k with
   | none => simpa using m3
   | some b => simpa using ⟨(m1 b hm).2, m3⟩
  rw [List.flatMap_cons]
  refine ⟨List.nodup_append.2 ⟨hk2, ih1, fun a ha b hb e => ?_⟩, fun b hb => ?_⟩
  ·subst e
   obtain ⟨k', hk', hg⟩ := ih2 a hb
   rw [hk1 a ha] at hg
   cases hg
   exact (List.nodup_cons.1 hn).1 hk'
  ·rcases List.mem_append.1 hb with hb | hb
   ·exact ⟨k, by simp, hk1 b hb⟩
   ·obtain ⟨k', hk', hg⟩ := ih2 b hb
    exact ⟨k', by simp [hk'], hg⟩
def resV1 (τ : Tau) (st : St) : ResultVar → Option V
 | .tmp t => look st.tmps t
 | .cell a t =>
  match look st.tmps a with
  | some (.fptr cs off) => partV τ t cs off
  | some (.ptr k ver off) => match blkAt st.H k ver with
   | some blk => partH τ t blk.cells off
   | none => none
  | _ => none
def resVL (τ : Tau) (st : St) : List ResultVar → Option (List V)
 | [] => some []
 | r :: rs => match resV1 τ st r, resVL τ st rs with
  | some x, some xs => some (x :: xs)
  | _, _ => none
def resV (τ : Tau) (st : St) (rs : List ResultVar) : Option V :=
 match resVL τ st rs with
 | some [x] => some x
 | some xs => some (.tup xs)
 | none => none
def resS (tmps : Array Value) : ResultVar → Sem Value
 | .tmp t => pure (tmps.getD t undef)
 | .cell x t => do loadVar t (← asAddr (tmps.getD x undef))
theorem results_eq (fn : Func) (tmps : Array Value) : results fn tmps = (do
  let vs ← fn.results.mapM (resS tmps)
  pure (if h : vs.size = 1 then vs[0] else .tuple vs)) := by
 unfold results
 congr 2
theorem resVL_sound (hT : TOK P τ) {st : St} {a : Act} {w : World} {M : Nat → Prop} {μ : Nat → Option Nat} {fp : Nat → List Nat} {G : Nat → Option Nat} (O : Own Γ M st.H w μ fp G) (hS : Slots st a w M μ) :
  ∀ {rs : List ResultVar} {xs : List V}, resVL τ st rs = some xs → ∃ vs : List Value, SlL w M st.H μ xs vs ∧
   (rs.mapM (resS a.tmps)).run P w = .ok vs w
 | [], xs, h => by simp only [resVL, Option.some.injEq] at h; subst h; exact ⟨[], by simp [SlL], by simp⟩
 | r :: rs, xs, h => by
  simp only [resVL] at h
  cases h1 : resV1 τ st r with
  | none => simp only [h1] at h; cases h
  | some x =>
   cases h2 : resVL τ st rs with
   | none => simp only [h1, h2] at h; cases h
   | some ys =>
    simp only [h1, h2, Option.some.injEq] at h
    subst h
    obtain ⟨vs, h3, h4⟩ := resVL_sound hT O hS h2
    have key : ∃ u, Sl w M st.H μ x u ∧ (resS a.tmps r).run P w = .ok u w := by
     cases r with
     | tmp t =>
      simp only [resV1] at h1
      obtain ⟨u, hu, hs⟩ := hS t x (look_mem h1)
      exact ⟨u, hs, by simp [resS, Array.getD_eq_getD_getElem?, hu]⟩
     | cell ad t =>
      simp only [resV1] at h1
      split at h1
      ·rename_i cs off hl
       obtain ⟨u, hu, hs⟩ := hS ad _ (look_mem hl)
       simp only [Sl, Fr] at hs
       obtain ⟨b, o', us, rfl, h5, h6, h7, h8⟩ := hs
       obtain ⟨z, hz1, hz2⟩ := run_partV (P := P) (H := st.H) (μ := μ) hT w h8 h7.sl h1
       refine ⟨z, hz2, ?_⟩
       simp only [resS, Array.getD_eq_getD_getElem?, hu, Option.getD_some, asAddr, Sem.run_bind, Sem.run_pure, Result.andThen_ok]
       simpa only [Instr.loadAt, Instr.sureAddr, Sem.run_bind, Sem.run_pure, Result.andThen_ok] using hz1
      ·rename_i k ver off hl
       split at h1
       ·rename_i blk hb
        obtain ⟨u, hu, hs⟩ := hS ad _ (look_mem hl)
        obtain ⟨b, hbb, rfl⟩ := hs.ptr_at hb
        obtain ⟨c, e, us, h5, h6, h7⟩ := O.at_ hb hbb
        obtain ⟨z, hz1, hz2⟩ := run_partH (P := P) hT w h7 h6 h1
        refine ⟨z, hz2, ?_⟩
        simp only [resS, Array.getD_eq_getD_getElem?, hu, Option.getD_some, asAddr, Sem.run_bind, Sem.run_pure, Result.andThen_ok]
        simpa only [Instr.loadAt, Instr.sureAddr, Sem.run_bind, Sem.run_pure, Result.andThen_ok] using hz1
       ·cases h1
      ·cases h1
    obtain ⟨u, hu, hr⟩ := key
    refine ⟨u :: vs, by simp only [SlL]; exact ⟨u, vs, rfl, hu, h3⟩, ?_⟩
    rw [List.mapM_cons]
    simp only [Sem.run_bind, hr, Result.andThen_ok, h4, Sem.run_pure]
theorem resV_sound (hT : TOK P τ) {st : St} {a : Act} {w : World} {M : Nat → Prop} {μ : Nat → Option Nat} {fp : Nat → List Nat} {G : Nat → Option Nat} (O : Own Γ M st.H w μ fp G) (hS : Slots st a w M μ) {fn : Func} {x : V}
  (h : resV τ st fn.results.toList = some x) : ∃ v, (results fn a.tmps).run P w = .ok v w ∧ Sl w M st.H μ x v := by
 unfold resV at h
 have hrun : ∀ xs, resVL τ st fn.results.toList = some xs → ∃ vs : List Value, SlL w M st.H μ xs vs ∧ (results fn a.tmps).run P w = .ok (if h : vs.toArray.size = 1 then vs.toArray[0] else .tuple vs.toArray) w := by
  intro xs hxs
  obtain ⟨vs, h1, h2⟩ := resVL_sound (P := P) hT O hS hxs
  refine ⟨vs, h1, ?_⟩
  have h3 : (fn.results.mapM (resS a.tmps)).run P w = .ok vs.toArray w := by
   rw [Array.mapM_eq_mapM_toList, Sem.run_map, h2]
   rfl
  rw [results_eq, Sem.run_bind, h3]
  rfl
 split at h
 ·rename_i y hy
  cases h
  obtain ⟨vs, h1, h2⟩ := hrun _ hy
  simp only [SlL] at h1
  obtain ⟨u, us', rfl, h3, rfl⟩ := h1
  exact ⟨u, by rw [h2]; rfl, h3⟩
 ·rename_i xs hne hy
  cases h
  obtain ⟨vs, h1, h2⟩ := hrun _ hy
  refine ⟨.tuple vs.toArray, ?_, by simp only [Sl]; exact ⟨vs, rfl, h1⟩⟩
  rw [h2]
  have hl := h1.length
  have : ¬ vs.toArray.size = 1 := by
   intro hs
   simp only [List.size_toArray] at hs
   have : xs.length = 1 := by omega
   obtain ⟨y, rfl⟩ := List.length_eq_one_iff.1 this
   exact hne y rfl
  rw [dif_neg this]
 ·cases h
def Qret (τ : Tau) (fn : Func) (out : V) : Exit → St → Prop := fun e st =>
 (e = .normal ∨ e = .ret) ∧ ∃ x ks, resV τ st fn.results.toList = some x ∧ OutP st.H x out ks ∧ ks.Nodup
def numbered : Nat → List V → List (Nat × V)
 | _, [] => []
 | n, x :: xs => (n, x) :: numbered (n + 1) xs
theorem numbered_sound {w : World} {M : Nat → Prop} {H : Hp} {μ : Nat → Option Nat} : ∀ {xs : List V} {vs : List Value}, SlL w M H μ xs vs → ∀ (pre suf : List Value), ∀ s x, (s, x) ∈ numbered pre.length xs →
  ∃ u, (pre ++ vs ++ suf)[s]? = some u ∧ Sl w M H μ x u
 | [], vs, h, pre, suf, s, x, hm => by cases hm
 | c :: cs, vs, h, pre, suf, s, x, hm => by
  simp only [SlL] at h
  obtain ⟨u, us', rfl, h1, h2⟩ := h
  simp only [numbered, List.mem_cons, Prod.mk.injEq] at hm
  rcases hm with ⟨rfl, rfl⟩ | hm
  ·exact ⟨u, by simp, h1⟩
  ·have := numbered_sound h2 (pre ++ [u]) suf s x (by simpa using hm)
   simpa using this
theorem OK_of_pwp (hT : TOK P τ) {f : FuncId} {fn : Func} {c : Code} {ins : List V} {out : V} (hf : P.funcs[f]? = some fn) (hb : fn.body = some c) (hnm : (fn.name == "runtime.NumGoroutine") = false)
  (hn : Nat.ble ins.length fn.ntmps = true) (h : ∀ Γ, (∀ i b, ¬ Γ.L i b) → pwp P Γ c (Qret τ fn out) ⟨fn.ntmps, numbered 0 ins, []⟩) : OK P f ins out := by
 refine ⟨⟨fn, hf, hnm, by rw [hb]; rfl⟩, fun w vs M hM hv => ?_⟩
 let Γ : Ctx := ⟨w, M, fun _ => False, fun _ _ => False⟩
 have hlen := hv.length
 have hle := Nat.le_of_ble_eq_true hn
 refine calls_of_wp hf hb ?_
 have hR : R Γ ⟨fn.ntmps, numbered 0 ins, []⟩ { tmps := vs.toArray ++ Array.replicate (fn.ntmps - vs.toArray.size) undef, defers := [] } w := by
  refine ⟨rfl, by simp; omega, M, fun _ => none, fun _ => [], fun _ => none, ?_, ?_⟩
  ·exact ⟨fun k blk h => by simp at h, fun k blk h => by simp at h, fun b h => absurd rfl h, fun b h => h, hM, fun b h => absurd rfl h, fun b h => absurd rfl h, Kept.refl _ w, fun _ b h => h.elim⟩
  ·intro s x hx
   have := numbered_sound (H := []) (μ := fun _ => none) hv.sl [] (List.replicate (fn.ntmps - vs.toArray.size) undef) s x hx
   obtain ⟨u, hu, hs⟩ := this
   refine ⟨u, ?_, hs⟩
   rw [← Array.getElem?_toList]
   simpa using hu
 refine wp_mono (h Γ (fun _ b hb => hb) _ _ hR) fun e a' w' q => ?_
 obtain ⟨st', ⟨he, x, ks, hx, ho, hk⟩, hd, hsz, M', μ, fp, G, O, hS⟩ := q
 obtain ⟨v, hv1, hv2⟩ := resV_sound (P := P) hT O hS hx
 have how := OutP.sound O ho hv2
 obtain ⟨hnd, hg⟩ := O.keys_nodup ks hk ho.live
 have key : ∃ v', (results fn a'.tmps).run P w' = .ok v' w' ∧ ∃ v fp', Ending.returned v' = .returned v ∧ Grew w w' ∧ Ow w' (fun b => M b ∨ b ∈ fp') out v fp' ∧ fp'.Nodup ∧ ∀ b ∈ fp', w.heap.size ≤ b ∧ b < w'.heap.size := by
  refine ⟨v, hv1, v, _, rfl, O.kept, how.less fun b hb => ?_, hnd, fun b hb => ?_⟩
  ·rcases hb with hb | hb
   ·exact O.m0 b hb
   ·obtain ⟨k, _, hgk⟩ := hg b hb
    exact O.sub b (by rw [hgk]; simp)
  ·obtain ⟨k, _, hgk⟩ := hg b hb
   have hne : G b ≠ none := by rw [hgk]; simp
   exact ⟨(O.new b hne).resolve_left (fun h => h), O.lt b (O.sub b hne)⟩
 rcases he with rfl | rfl
 ·exact ⟨hd, key⟩
 ·exact ⟨hd, key⟩
end
end Go.D
