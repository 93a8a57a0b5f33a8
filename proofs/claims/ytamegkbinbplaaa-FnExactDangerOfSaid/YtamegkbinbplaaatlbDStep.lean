import Derived.Test.YtamegkbinbplaaatlbDTy
set_option linter.unusedVariables false
namespace Go.D
section
variable {P : Program} {Γ : Ctx} {τ : Tau}
def heapS (τ : Tau) (mu : List Nat) (st : St) (o : Oper) : Option St :=
 match o.op with
 | .alloc t =>
  match dstOf st o, τ t with
  | some d, some i => some ({ st with H := setH st.H st.H.length (some ⟨0, i.zero⟩) }.set d (.ptr st.H.length 0 0))
  | _, _ => none
 | .box t x =>
  match dstOf st o, evalV st x with
  | some d, some v =>
   match valCells v with
   | some cs => bif hasN mu d then some ({ st with H := setH st.H st.H.length (some ⟨0, cs⟩) }.set d (.ptr st.H.length 0 0)) else none
   | none => none
  | _, _ => none
 | .store t y x =>
  match o.dst, τ t, evalV st y, evalV st x with
  | none, some i, some (.ptr k ver off), some v =>
   match blkAt st.H k ver, valCells (soft (tyV τ t v)) with
   | some blk, some xs => bif xs.all cellV && Nat.beq xs.length i.size && Nat.ble (off + xs.length) blk.cells.length then some { st with H := setH st.H k (some ⟨ver, setL blk.cells off xs⟩) } else none
   | _, _ => none
  | _, _, _, _ => none
 | _ => none
theorem heapS_sound (hT : TOK P τ) {mu : List Nat} {st st' : St} {o : Oper} {K : St → Prop} (h : heapS τ mu st o = some st') (hk : K st') : opP P Γ o K st := by
 unfold heapS at h
 split at h
 ·rename_i t hop
  split at h
  ·rename_i d i hd hi
   cases h
   have hd' := dstOf_spec hd
   exact opP_alloc hT hop hi hd'.1 (Nat.ble_eq_true_of_le hd'.2) hk
  ·cases h
 ·rename_i t x hop
  split at h
  ·rename_i d v hd hv
   split at h
   ·rename_i cs hc
    cases hm : hasN mu d with
    | false => rw [hm] at h; cases h
    | true =>
     rw [hm, cond_true] at h
     cases h
     have hd' := dstOf_spec hd
     exact opP_box hop hv hc hd'.1 (Nat.ble_eq_true_of_le hd'.2) hk
   ·cases h
  ·cases h
 ·rename_i t y x hop
  split at h
  ·rename_i i k ver off v hd hi hy hx
   split at h
   ·rename_i blk xs hb hv
    cases hc : (xs.all cellV && Nat.beq xs.length i.size && Nat.ble (off + xs.length) blk.cells.length) with
    | false => rw [hc] at h; cases h
    | true =>
     rw [hc, cond_true] at h
     cases h
     simp only [Bool.and_eq_true] at hc
     exact opP_store hT hop hd hi hy hb hx hv hc.1.1 (Nat.eq_of_beq_eq_true hc.1.2) (Nat.le_of_ble_eq_true hc.2) rfl hk
   ·cases h
  ·cases h
 ·cases h
def evS (τ : Tau) (mu : List Nat) (ops : Array Oper) : Nat → Nat → St → Option St
 | 0, _, st => some st
 | n + 1, j, st =>
  match ops[j]? with
  | none => none
  | some o =>
   match wantedV ops st o with
   | some true =>
    match evOpF τ mu st o with
    | some x =>
     match o.dst with
     | some d => bif Nat.blt d st.nt then evS τ mu ops n (j + 1) (st.set d x) else none
     | none => evS τ mu ops n (j + 1) st
    | none =>
     match heapS τ mu st o with
     | some st' => evS τ mu ops n (j + 1) st'
     | none => none
   | some false =>
    match o.dst with
    | some d => bif Nat.blt d st.nt then evS τ mu ops n (j + 1) (st.set d (.lit undef)) else none
    | none => evS τ mu ops n (j + 1) st
   | none => none
theorem opsP_evs (hT : TOK P τ) (mu : List Nat) {ops : Array Oper} {Q : Exit → St → Prop} : ∀ (n : Nat) {j : Nat} {st st' : St}, evS τ mu ops n j st = some st' → opsP P Γ ops Q (j + n) st' → opsP P Γ ops Q j st
 | 0, j, st, st', h, hk => by
  simp only [evS, Option.some.injEq] at h
  subst h
  exact hk
 | n + 1, j, st, st', h, hk => by
  have hk' : opsP P Γ ops Q ((j + 1) + n) st' := by
   have e : (j + 1) + n = j + (n + 1) := by omega
   rw [e]; exact hk
  simp only [evS] at h
  split at h
  ·cases h
  ·rename_i o ho
   split at h
   ·rename_i hw
    split at h
    ·rename_i x hx
     split at h
     ·rename_i d hd
      cases hlt : Nat.blt d st.nt with
      | false => rw [hlt] at h; cases h
      | true =>
       rw [hlt, cond_true] at h
       refine opsP_op ho hw (opP_yld (evOpF_sound hT hx) (fun d' hd' => ?_) ?_)
       ·rw [hd] at hd'
        cases hd'
        exact Nat.le_of_ble_eq_true hlt
       ·rw [hd]
        exact opsP_evs hT mu n h hk'
     ·rename_i hd
      refine opsP_op ho hw (opP_yld (evOpF_sound hT hx) (fun d' hd' => ?_) ?_)
      ·rw [hd] at hd'; cases hd'
      ·rw [hd]
       exact opsP_evs hT mu n h hk'
    ·split at h
     ·rename_i st1 h1
      exact opsP_op ho hw (heapS_sound hT h1 (opsP_evs hT mu n h hk'))
     ·cases h
   ·rename_i hw
    split at h
    ·rename_i d hd
     cases hlt : Nat.blt d st.nt with
     | false => rw [hlt] at h; cases h
     | true =>
      rw [hlt, cond_true] at h
      refine opsP_not ho hw (fun d' hd' => ?_) ?_
      ·rw [hd] at hd'
       cases hd'
       exact Nat.le_of_ble_eq_true hlt
      ·rw [hd]
       exact opsP_evs hT mu n h hk'
    ·rename_i hd
     refine opsP_not ho hw (fun d' hd' => ?_) ?_
     ·rw [hd] at hd'; cases hd'
     ·rw [hd]
      exact opsP_evs hT mu n h hk'
   ·cases h
theorem opsP_evk' (hT : TOK P τ) (mu : List Nat) {ops : Array Oper} {Q : Exit → St → Prop} (n : Nat) (ks : List Nat) {j : Nat} {st st' : St}
  (h : (evS τ mu ops n j st).map (fun s => s.keep ks) = some st') (hk : opsP P Γ ops Q (j + n) st') : opsP P Γ ops Q j st := by
 cases he : evS τ mu ops n j st with
 | none => rw [he] at h; cases h
 | some s =>
  rw [he, Option.map_some, Option.some.injEq] at h
  subst h
  exact opsP_evs hT mu n he (opsP_imp (Imp.keep ks) hk)
section lists
variable {α : Type} [Enc α]
def app (xs ys : List α) : Option (List α) := if xs.length + ys.length < 68719476736 then some (xs ++ ys) else none
theorem sliceOf_elem {t e : Nat} {i : TI} (h : sliceOf τ t = some (e, i)) : τ e = some i := by
 unfold sliceOf at h
 split at h
 ·split at h
  ·cases he : τ (by assumption : Nat) with
   | none => simp_all
   | some j => simp_all
  ·cases h
 ·cases h
structure AppI where
 d : Nat
 k : Nat
 ver : Nat
 s : Nat
 n : Nat
 cs : List V
 m : Nat
 ns : List V
def appV (τ : Tau) (ops : Array Oper) (j : Nat) (st : St) : Option AppI :=
 match opAt ops st j with
 | some o => match o.op, dstOf st o with
  | .call c, some d => match c.callee, c.args.toList, c.argTypes.toList with
   | .builtin .append, [y, x], [t, tx] => match sliceOf τ t, sliceOf τ tx, evalV st y, evalV st x with
    | some (e, ti), some (e', ti'), some (.ref k ver 0 s n _), some (.arr s' m ns _) =>
     match blkAt st.H k ver with
     | some blk => bif Nat.beq e e' && Nat.beq ti.size s && Nat.beq s' s && Nat.beq ti'.size ti.size && Nat.beq ti.zero.length ti.size && Nat.ble ti.bytes 1024 then some ⟨d, k, ver, s, n, blk.cells, m, ns⟩ else none
     | none => none
    | _, _, _, _ => none
   | _, _, _ => none
  | _, _ => none
 | none => none
theorem opsP_app (hT : TOK P τ) {ops : Array Oper} {Q : Exit → St → Prop} {j : Nat} {st : St} (d k ver : Nat) (hpin : ∀ i b, Γ.L i b → k ≠ i) {xs ys zs : List α} (hz : app xs ys = some zs)
  (h : appV τ ops j st = some ⟨d, k, ver, Enc.sz α, xs.length, eL xs, ys.length, eL ys⟩)
  (hk : opsP P Γ ops Q (j + 1) ({ st with H := setH st.H k (some ⟨ver + 1, eL zs⟩) }.set d (.ref k (ver + 1) 0 (Enc.sz α) zs.length false))) : opsP P Γ ops Q j st := by
 unfold app at hz
 split at hz
 ·rename_i hlen
  cases hz
  unfold appV at h
  split at h
  ·rename_i o ho
   split at h
   ·rename_i c d' hop hd
    split at h
    ·rename_i y x t tx hc ha hat
     split at h
     ·rename_i e ti e' ti' k' ver' s n f s' m ns f' ht htx hy hx
      split at h
      ·rename_i blk hb
       cases hcc : (Nat.beq e e' && Nat.beq ti.size s && Nat.beq s' s && Nat.beq ti'.size ti.size && Nat.beq ti.zero.length ti.size && Nat.ble ti.bytes 1024) with
       | false => rw [hcc] at h; cases h
       | true =>
        rw [hcc, cond_true] at h
        simp only [Option.some.injEq, AppI.mk.injEq] at h
        obtain ⟨rfl, rfl, rfl, rfl, rfl, hcs, rfl, rfl⟩ := h
        simp only [Bool.and_eq_true] at hcc
        obtain ⟨⟨⟨⟨⟨c1, c2⟩, c3⟩, c4⟩, c5⟩, c6⟩ := hcc
        have c1 := Nat.eq_of_beq_eq_true c1
        subst c1
        have c2 := Nat.eq_of_beq_eq_true c2
        have c3 := Nat.eq_of_beq_eq_true c3
        have c5 := Nat.eq_of_beq_eq_true c5
        subst c3
        have hti : ti = ti' := by
         have h1 := sliceOf_elem ht
         have h2 := sliceOf_elem htx
         rw [h1] at h2
         exact Option.some.inj h2
        subst hti
        have hd' := dstOf_spec hd
        have ho' := opAt_spec ho
        refine opsP_op ho'.op ho'.wanted (opP_append (cells' := eL (xs ++ ys)) hT hpin hop hc ha hat ht htx c2 c5 c6 (fun a w M μ hS => evalV_sound hS hy) hb ?_ hx (eL_one ys) hlen ?_ hd'.1 (Nat.ble_eq_true_of_le hd'.2) ?_)
        ·rw [hcs, eL_len]; exact Nat.le_refl _
        ·rw [hcs, ← eL_len xs, List.take_length, ← eL_append]
        ·simpa only [List.length_append] using hk
      ·cases h
     ·cases h
    ·cases h
   ·cases h
  ·cases h
 ·cases hz
def rvV (k v : Nat) : V → Option V
 | .ref k' v' off s n f => bif Nat.beq k' k then (bif Nat.beq v' v then some (.ref k' 0 off s n f) else none) else some (.ref k' v' off s n f)
 | .ptr k' v' off => bif Nat.beq k' k then (bif Nat.beq v' v then some (.ptr k' 0 off) else none) else some (.ptr k' v' off)
 | .lit u => some (.lit u)
 | .arr s n cs f => some (.arr s n cs f)
 | .fptr cs off => some (.fptr cs off)
 | .agg cs => bif cs.all frozenV then some (.agg cs) else none
 | .tup cs => bif cs.all frozenV then some (.tup cs) else none
 | .fn f cs => bif frzL cs then some (.fn f cs) else none
 | _ => none
def rvL (k v : Nat) : List (Nat × V) → List (Nat × V)
 | [] => []
 | (s, x) :: r => match rvV k v x with
  | some y => (s, y) :: rvL k v r
  | none => rvL k v r
theorem mem_rvL {k v : Nat} : ∀ {l : List (Nat × V)} {s : Nat} {y : V}, (s, y) ∈ rvL k v l → ∃ x, (s, x) ∈ l ∧ rvV k v x = some y
 | [], s, y, h => by cases h
 | (t, x) :: r, s, y, h => by
  simp only [rvL] at h
  split at h
  ·rename_i y' hy
   rcases List.mem_cons.1 h with h | h
   ·cases h; exact ⟨x, by simp, hy⟩
   ·obtain ⟨z, h1, h2⟩ := mem_rvL h
    exact ⟨z, List.mem_cons_of_mem _ h1, h2⟩
  ·obtain ⟨z, h1, h2⟩ := mem_rvL h
   exact ⟨z, List.mem_cons_of_mem _ h1, h2⟩
def blkFrz : Hp → Prop
 | [] => True
 | none :: r => blkFrz r
 | some blk :: r => blk.cells.all frozenV = true ∧ blkFrz r
theorem blkFrz_get : ∀ {H : Hp} {k : Nat} {blk : Blk}, blkFrz H → H[k]? = some (some blk) → blk.cells.all frozenV = true
 | [], k, blk, _, h => by simp at h
 | none :: r, 0, blk, _, h => by simp at h
 | some b :: r, 0, blk, hb, h => by simp at h; subst h; exact hb.1
 | none :: r, k + 1, blk, hb, h => by simp only [blkFrz] at hb; simp at h; exact blkFrz_get hb h
 | some b :: r, k + 1, blk, hb, h => by simp only [blkFrz] at hb; simp at h; exact blkFrz_get hb.2 h
theorem CeL.refrz {w : World} {M : Nat → Prop} {H H' : Hp} {μ : Nat → Option Nat} : ∀ {xs : List V} {vs : List Value} {fp : List Nat}, CeL w M H μ xs vs fp → xs.all frozenV = true → CeL w M H' μ xs vs fp
 | [], vs, fp, h, _ => by simpa only [CeL] using h
 | c :: cs, vs, fp, h, hb => by
  simp only [List.all_cons, Bool.and_eq_true] at hb
  simp only [CeL] at h ⊢
  obtain ⟨u, us', f, f', rfl, rfl, h1, h2⟩ := h
  refine ⟨u, us', f, f', rfl, rfl, ?_, CeL.refrz h2 hb.2⟩
  rcases h1 with h1 | h1
  ·exact .inl h1
  ·refine .inr ⟨h1.1, ?_⟩
   have := h1.2
   cases c <;> simp_all [frozenV, Sl]
theorem Imp.rever {st : St} (k : Nat) {v : Nat} {cs : List V} (h : blkAt st.H k v = some ⟨v, cs⟩) (hf : blkFrz st.H) : Imp Γ st { st with tmps := rvL k v st.tmps, H := setH st.H k (some ⟨0, cs⟩) } := by
 obtain ⟨b1, _⟩ := blkAt_spec h
 have hkl : k < st.H.length := (List.getElem?_eq_some_iff.1 b1).1
 have hlen : (setH st.H k (some ⟨0, cs⟩)).length = st.H.length := by
  unfold setH
  have : Nat.blt k st.H.length = true := Nat.ble_eq_true_of_le hkl
  rw [this, cond_true, List.length_set]
 have hs := setH_same (H := st.H) (x := some ⟨0, cs⟩) (Nat.le_of_lt hkl)
 have ho : ∀ j, j ≠ k → (setH st.H k (some ⟨0, cs⟩))[j]? = st.H[j]? := fun j hj => setH_other (Nat.le_of_lt hkl) hj
 refine Imp.of_own rfl fun a w M μ fp G O hS => ⟨M, μ, fp, G, ⟨fun j blk hj => ?_, fun j blk hj => ?_, O.sub, O.m0, O.lt, O.new, O.apart, O.kept, fun i b hb => ⟨(O.pin i b hb).1, by
  by_cases hk0 : k = i
  ·subst hk0; rw [hs]; exact ⟨_, rfl⟩
  ·rw [ho i (fun e => hk0 e.symm)]; exact (O.pin i b hb).2.1, (O.pin i b hb).2.2⟩⟩, fun s y hy => ?_⟩
 ·have key : ∀ blk' : Blk, st.H[j]? = some (some blk') → blk'.cells = blk.cells → BlkR w M (setH st.H k (some ⟨0, cs⟩)) μ (μ j) blk (fp j) := by
   intro blk' hb' hc
   have h1 := O.blk j blk' hb'
   have h2 := blkFrz_get hf hb'
   cases hm : μ j with
   | none => rw [hm] at h1; simp only [BlkR] at h1 ⊢; rw [← hc]; exact h1
   | some b =>
    rw [hm] at h1
    obtain ⟨c, e, us, hh, hce, hlie⟩ := h1
    exact ⟨c, e, us, hh, by rw [← hc]; exact hce.refrz h2, hlie⟩
  by_cases hjk : j = k
  ·subst hjk
   rw [hs] at hj
   cases hj
   exact key _ b1 rfl
  ·rw [ho j hjk] at hj
   exact key _ hj rfl
 ·by_cases hjk : j = k
  ·subst hjk; exact O.mine j _ b1
  ·rw [ho j hjk] at hj; exact O.mine j blk hj
 ·obtain ⟨x, hx, hv⟩ := mem_rvL hy
  obtain ⟨u, hu, hsl⟩ := hS s x hx
  refine ⟨u, hu, ?_⟩
  have hfz : ∀ {cs : List V} {us : List Value} {H' : Hp}, SlL w M st.H μ cs us → frzL cs = true → SlL w M H' μ cs us := fun h1 h2 => (h1.fr h2).sl
  cases x with
  | ref k' v' off sz n f =>
   simp only [rvV] at hv
   simp only [Sl] at hsl
   cases hb : Nat.beq k' k with
   | true =>
    have := Nat.eq_of_beq_eq_true hb
    subst this
    rw [hb, cond_true] at hv
    cases hb2 : Nat.beq v' v with
    | true =>
     have := Nat.eq_of_beq_eq_true hb2
     subst this
     rw [hb2, cond_true] at hv
     cases hv
     simp only [Sl]
     refine ⟨by rw [hlen]; exact hkl, hsl.2.1, fun blk hblk => ?_⟩
     rw [hs] at hblk
     cases hblk
     exact ⟨Nat.le_refl _, fun _ => (hsl.2.2 _ b1).2 rfl⟩
    | false => rw [hb2] at hv; cases hv
   | false =>
    rw [hb, cond_false] at hv
    cases hv
    have hne : k' ≠ k := fun e => by subst e; rw [Nat.beq_refl] at hb; cases hb
    simp only [Sl]
    exact ⟨by rw [hlen]; exact hsl.1, hsl.2.1, fun blk hblk => hsl.2.2 blk (by rwa [ho _ hne] at hblk)⟩
  | ptr k' v' off =>
   simp only [rvV] at hv
   simp only [Sl] at hsl
   cases hb : Nat.beq k' k with
   | true =>
    have := Nat.eq_of_beq_eq_true hb
    subst this
    rw [hb, cond_true] at hv
    cases hb2 : Nat.beq v' v with
    | true =>
     have := Nat.eq_of_beq_eq_true hb2
     subst this
     rw [hb2, cond_true] at hv
     cases hv
     simp only [Sl]
     refine ⟨by rw [hlen]; exact hkl, hsl.2.1, fun blk hblk => ?_⟩
     rw [hs] at hblk
     cases hblk
     exact ⟨Nat.le_refl _, fun _ => (hsl.2.2 _ b1).2 rfl⟩
    | false => rw [hb2] at hv; cases hv
   | false =>
    rw [hb, cond_false] at hv
    cases hv
    have hne : k' ≠ k := fun e => by subst e; rw [Nat.beq_refl] at hb; cases hb
    simp only [Sl]
    exact ⟨by rw [hlen]; exact hsl.1, hsl.2.1, fun blk hblk => hsl.2.2 blk (by rwa [ho _ hne] at hblk)⟩
  | lit u' => cases hv; simpa only [Sl] using hsl
  | arr s n cs f => cases hv; simpa only [Sl] using hsl
  | fptr cs off => cases hv; simpa only [Sl] using hsl
  | agg vs =>
   simp only [rvV] at hv
   cases hb : vs.all frozenV with
   | false => rw [hb] at hv; cases hv
   | true =>
    rw [hb, cond_true] at hv
    cases hv
    simp only [Sl] at hsl ⊢
    obtain ⟨us, rfl, hsl⟩ := hsl
    exact ⟨us, rfl, hfz hsl (frzL_of_all hb)⟩
  | tup vs =>
   simp only [rvV] at hv
   cases hb : vs.all frozenV with
   | false => rw [hb] at hv; cases hv
   | true =>
    rw [hb, cond_true] at hv
    cases hv
    simp only [Sl] at hsl ⊢
    obtain ⟨us, rfl, hsl⟩ := hsl
    exact ⟨us, rfl, hfz hsl (frzL_of_all hb)⟩
  | fn f vs =>
   simp only [rvV] at hv
   cases hb : frzL vs with
   | false => rw [hb] at hv; cases hv
   | true =>
    rw [hb, cond_true] at hv
    cases hv
    simp only [Sl] at hsl ⊢
    obtain ⟨us, rfl, hsl⟩ := hsl
    exact ⟨us, rfl, hfz hsl hb⟩
  | _ => cases hv
end lists
def noRef : V → Bool
 | .lit _ => true
 | .arr .. => true
 | .fptr .. => true
 | .ptr .. => true
 | .agg cs => frzL cs
 | .tup cs => frzL cs
 | .fn _ cs => frzL cs
 | _ => false
mutual
theorem whole_frz {k ver len : Nat} : ∀ {x : V}, frz x = true → wholeOf k ver len x
 | .lit _, _ => by simp only [wholeOf]
 | .arr .., _ => by simp only [wholeOf]
 | .fptr .., _ => by simp only [wholeOf]
 | .agg cs, h => by simp only [wholeOf]; exact wholeL_frz (by simpa only [frz] using h)
 | .tup cs, h => by simp only [wholeOf]; exact wholeL_frz (by simpa only [frz] using h)
 | .fn _ cs, h => by simp only [wholeOf]; exact wholeL_frz (by simpa only [frz] using h)
 | .own .., h => by simp [frz] at h
 | .obox .., h => by simp [frz] at h
 | .ref .., h => by simp [frz] at h
 | .ptr .., h => by simp [frz] at h
 | .any, h => by simp [frz] at h
theorem wholeL_frz {k ver len : Nat} : ∀ {xs : List V}, frzL xs = true → wholeOfL k ver len xs
 | [], _ => by simp only [wholeOfL]
 | c :: cs, h => by
  simp only [frzL, Bool.and_eq_true] at h
  simp only [wholeOfL]
  exact ⟨whole_frz h.1, wholeL_frz h.2⟩
end
theorem whole_noRef {k ver len : Nat} {x : V} (h : noRef x = true) : wholeOf k ver len x := by
 cases x with
 | agg cs => simp only [wholeOf]; exact wholeL_frz (by simpa only [noRef] using h)
 | tup cs => simp only [wholeOf]; exact wholeL_frz (by simpa only [noRef] using h)
 | fn f cs => simp only [wholeOf]; exact wholeL_frz (by simpa only [noRef] using h)
 | lit _ => simp only [wholeOf]
 | arr => simp only [wholeOf]
 | fptr => simp only [wholeOf]
 | ptr => simp only [wholeOf]
 | _ => simp [noRef] at h
theorem frz_below {n : Nat} {cs : List V} (h : cs.all frozenV = true) : cs.all (below n) = true := by
 rw [List.all_eq_true] at h ⊢
 intro x hx
 have := h x hx
 cases x <;> simp_all [frozenV, below]
def thawS (st : St) (s : Nat) : Option St :=
 match look st.tmps s with
 | some (.arr sz 0 [] true) => some ({ st with H := setH st.H st.H.length (some ⟨0, []⟩) }.set s (.ref st.H.length 0 0 sz 0 false))
 | _ => none
theorem Imp.thawS {st st' : St} (s : Nat) (ks : List Nat) (h : (D.thawS st s).map (fun x => x.keep ks) = some st') : Imp Γ st st' := by
 unfold D.thawS at h
 split at h
 ·rename_i sz hl
  rw [Option.map_some, Option.some.injEq] at h
  subst h
  exact (Imp.thawNil s hl).trans (Imp.keep ks)
 ·cases h
def unfS (st : St) (s : Nat) : Option St :=
 match look st.tmps s with
 | some (.arr sz n cs true) => some (st.set s (.arr sz n cs false))
 | _ => none
theorem Imp.unfS {st st' : St} (s : Nat) (ks : List Nat) (h : (D.unfS st s).map (fun x => x.keep ks) = some st') : Imp Γ st st' := by
 unfold D.unfS at h
 split at h
 ·rename_i sz n cs hl
  rw [Option.map_some, Option.some.injEq] at h
  subst h
  exact (Imp.unfull s hl).trans (Imp.keep ks)
 ·cases h
theorem Imp.truncS {st st' : St} (n : Nat) (hpin : ∀ i b, Γ.L i b → i < n) (hn : Nat.ble n st.H.length = true) (hs : ∀ s x, (s, x) ∈ st.tmps → below n x = true) (hb : blkBelow n (st.H.take n)) (h : { st with H := st.H.take n } = st') : Imp Γ st st' := by
 subst h
 refine Imp.trunc n hpin hn ?_ hb
 have : ∀ l : List (Nat × V), (∀ s x, (s, x) ∈ l → below n x = true) → belowSlots n l = true := by
  intro l
  induction l with
  | nil => intro _; rfl
  | cons p r ih =>
   intro h
   obtain ⟨s, x⟩ := p
   simp only [belowSlots, Bool.and_eq_true]
   exact ⟨h s x (by simp), ih fun s' x' h' => h s' x' (List.mem_cons_of_mem _ h')⟩
 exact this _ hs
def allBelow (n : Nat) : List (Nat × V) → Prop
 | [] => True
 | (_, x) :: r => below n x = true ∧ allBelow n r
theorem allBelow_mem {n : Nat} : ∀ {l : List (Nat × V)}, allBelow n l → ∀ s x, (s, x) ∈ l → below n x = true
 | [], _, s, x, h => by cases h
 | (t, y) :: r, ⟨h1, h2⟩, s, x, h => by
  rcases List.mem_cons.1 h with h | h
  ·cases h; exact h1
  ·exact allBelow_mem h2 s x h
theorem Imp.reverS {st st' : St} (k v : Nat) (cs : List V) (ks : List Nat) (h : blkAt st.H k v = some ⟨v, cs⟩) (hf : blkFrz st.H) (he : St.keep { st with tmps := rvL k v st.tmps, H := setH st.H k (some ⟨0, cs⟩) } ks = st') : Imp Γ st st' := by
 subst he
 exact (Imp.rever k h hf).trans (Imp.keep ks)
theorem OutP.box {α : Type} [Enc α] {H : Hp} {k ver v off : Nat} {x : α} (h : blkAt H k ver = some ⟨v, Enc.cells x⟩) : OutP H (.ptr k ver off) (.obox (Enc.cells x) off) [k] := by
 unfold OutP
 refine ⟨_, h, ?_, rfl, rfl⟩
 have := Enc.frz x
 rw [List.all_eq_true] at this ⊢
 intro y hy
 have := this y hy
 cases y <;> simp_all [frozenV, ownC]
theorem OutL.nil (H : Hp) : OutL H [] [] [] := ⟨rfl, rfl⟩
theorem OutL.cons {H : Hp} {x y : V} {xs ys : List V} {k k' : List Nat} (h : OutP H x y k) (h' : OutL H xs ys k') : OutL H (x :: xs) (y :: ys) (k ++ k') := by
 unfold OutL
 exact ⟨y, ys, k, k', rfl, rfl, h, h'⟩
theorem OutP.tup {H : Hp} {xs ys : List V} {k : List Nat} (h : OutL H xs ys k) : OutP H (.tup xs) (.tup ys) k := by
 unfold OutP
 exact ⟨ys, rfl, h⟩
mutual
theorem OutP.frz {H : Hp} : ∀ {x : V}, D.frz x = true → OutP H x x []
 | .lit _, _ => by simp only [OutP, and_self]
 | .arr .., _ => by simp only [OutP, and_self]
 | .fptr .., _ => by simp only [OutP, and_self]
 | .agg cs, h => by
  unfold OutP
  exact ⟨cs, rfl, OutL.frz (by simpa only [D.frz] using h)⟩
 | .tup cs, h => by
  unfold OutP
  exact ⟨cs, rfl, OutL.frz (by simpa only [D.frz] using h)⟩
 | .fn _ cs, h => by simp only [OutP, and_self, and_true]; simpa only [D.frz] using h
 | .own .., h => by simp [D.frz] at h
 | .obox .., h => by simp [D.frz] at h
 | .ref .., h => by simp [D.frz] at h
 | .ptr .., h => by simp [D.frz] at h
 | .any, h => by simp [D.frz] at h
theorem OutL.frz {H : Hp} : ∀ {xs : List V}, frzL xs = true → OutL H xs xs []
 | [], _ => OutL.nil H
 | c :: cs, h => by
  simp only [frzL, Bool.and_eq_true] at h
  exact OutL.cons (OutP.frz h.1) (OutL.frz h.2)
end
theorem bifT {α : Type} {c : Bool} {a b x : α} (hc : c = true) (h : (bif c then a else b) = x) : a = x := by rw [hc] at h; exact h
theorem bifF {α : Type} {c : Bool} {a b x : α} (hc : c = false) (h : (bif c then a else b) = x) : b = x := by rw [hc] at h; exact h
end
end Go.D
