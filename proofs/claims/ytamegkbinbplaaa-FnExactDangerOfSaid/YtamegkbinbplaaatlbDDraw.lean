import Derived.Test.YtamegkbinbplaaatlbDCall2
import Derived.StillTail
set_option linter.unusedVariables false
namespace Go.D
section
variable {P : Program} {Γ : Ctx} {τ : Tau}
def YldG (P : Program) (Γ : Ctx) (o : Oper) (st : St) (x : V) : Prop :=
 ∀ (a : Act) (w : World) (M : Nat → Prop) (μ : Nat → Option Nat) (fp : Nat → List Nat) (G : Nat → Option Nat), Own Γ M st.H w μ fp G → Slots st a w M μ →
  ∀ (K : Act → World → Prop) (Qc : Exit → Act → World → Prop), (∀ u w', Grew w w' → Sl w' M st.H μ x u → K (a.put o.dst u) w') → o.wp P a w K Qc
theorem Yld.g {o : Oper} {st : St} {x : V} (h : Yld P Γ o st x) : YldG P Γ o st x := by
 intro a w M μ fp G O hT K Qc hK
 obtain ⟨u, w', hrun, hg, hs⟩ := h a w M μ fp G O hT
 simp only [Oper.wp, hrun, Oper.upon]
 exact hK u w' hg hs
theorem YldG.opP {o : Oper} {K : St → Prop} {st : St} {x : V} (h : YldG P Γ o st x) (hd : ∀ d, o.dst = some d → d < st.nt) (hk : K (st.put o.dst x)) : opP P Γ o K st := by
 intro a w r Qc
 obtain ⟨h1, h2, M, μ, fp, G, O, hT⟩ := r
 refine h a w M μ fp G O hT _ Qc fun u w' hg hs => ⟨_, hk, ?_⟩
 exact R.step (H' := st.H) h1 h2 hT (hg.carry _ _ _ fun k blk hb => O.born_lt k blk hb) (O.grew hg) hd fun _ => hs
def St.only (st : St) (l : List Tmp) : St := ⟨st.nt, st.tmps.filter fun p => hasN l p.1, st.H⟩
theorem hasN_mem : ∀ {l : List Nat} {n : Nat}, hasN l n = true → n ∈ l
 | [], n, h => by simp [hasN] at h
 | x :: l, n, h => by
  simp only [hasN] at h
  cases hb : Nat.beq x n with
  | true => rw [Nat.eq_of_beq_eq_true hb]; simp
  | false => rw [hb] at h; exact List.mem_cons_of_mem _ (hasN_mem (by simpa using h))
def QS (P : Program) (Γ : Ctx) (ops : Array Oper) (st : St) (o : Oper) (x : V) : Prop :=
 (wantedV ops st o = some true ∧ YldG P Γ o st x) ∨ (wantedV ops st o = some false ∧ x = .lit undef)
def writes (ops : Array Oper) (p : Nat) (s : Nat) : List Nat := (List.range p).filter fun i => match ops[i]? with
 | some o => match o.dst with
  | some d => Nat.beq d s
  | none => false
 | none => false
def headB (ops : Array Oper) (p : Nat) : Bool :=
  (List.range p).all fun j => match ops[j]? with
    | some o =>
      (match o.dst with
       | some d => (writes ops p d).all fun i => Nat.beq i j
       | none => false) &&
      ((o.looksAt ops).all fun s => (writes ops p s).all fun i => Nat.blt i j && Region.waitsFor .any ops j i) &&
      (o.after.all fun e => !Region.binds .any e || Nat.blt e.on j)
    | none => false
theorem mem_writes {ops : Array Oper} {p s i : Nat} {o : Oper} {d : Nat} (hi : i < p) (ho : ops[i]? = some o) (hd : o.dst = some d) (he : d = s) : i ∈ writes ops p s := by
 unfold writes
 refine List.mem_filter.2 ⟨List.mem_range.2 hi, ?_⟩
 rw [ho]
 simp only [hd]
 rw [he]
 exact Nat.beq_refl s
structure HeadOK (ops : Array Oper) (p j : Nat) (o : Oper) (d : Nat) : Prop where
 one : ∀ i o', i < p → ops[i]? = some o' → o'.dst = some d → i = j
 look : ∀ s ∈ o.looksAt ops, ∀ i o', i < p → ops[i]? = some o' → o'.dst = some s → i < j ∧ ∃ e ∈ o.after, Region.binds .any e = true ∧ e.on = i
 back : ∀ e ∈ o.after, Region.binds .any e = true → e.on < j
theorem headB_spec {ops : Array Oper} {p : Nat} (h : headB ops p = true) {j : Nat} (hj : j < p) : ∃ o d, ops[j]? = some o ∧ o.dst = some d ∧ HeadOK ops p j o d := by
 have h1 := List.all_eq_true.1 h j (List.mem_range.2 hj)
 split at h1
 ·rename_i o ho
  simp only [Bool.and_eq_true] at h1
  obtain ⟨⟨h1, h2⟩, h3⟩ := h1
  split at h1
  ·rename_i d hd
   refine ⟨o, d, ho, hd, fun i o' hi ho' hd' => ?_, fun s hs i o' hi ho' hd' => ?_, fun e he hb => ?_⟩
   ·exact Nat.eq_of_beq_eq_true (List.all_eq_true.1 h1 i (mem_writes hi ho' hd' rfl))
   ·have := List.all_eq_true.1 (List.all_eq_true.1 h2 s hs) i (mem_writes hi ho' hd' rfl)
    simp only [Bool.and_eq_true] at this
    refine ⟨Nat.le_of_ble_eq_true this.1, ?_⟩
    obtain ⟨oj, hoj, e, he, hb, hon⟩ := Region.waitsFor_spec this.2
    rw [ho] at hoj
    cases hoj
    exact ⟨e, he, hb, hon⟩
   ·have := (Array.all_eq_true_iff_forall_mem.1 h3) e he
    simp only [Bool.or_eq_true, Bool.not_eq_true', hb] at this
    rcases this with h | h
    ·cases h
    ·exact Nat.le_of_ble_eq_true h
  ·cases h1
 ·cases h1
structure Head (P : Program) (Γ : Ctx) (ops : Array Oper) (p : Nat) (st : St) (xs : Nat → V) (sts : Nat → St) : Prop where
 zero : sts 0 = st
 step : ∀ j, j < p → ∃ o d, ops[j]? = some o ∧ o.dst = some d ∧ d < st.nt ∧ QS P Γ ops ((sts j).only (o.looksAt ops)) o (xs j) ∧ sts (j + 1) = (sts j).set d (xs j)
section head
variable {ops : Array Oper} {p : Nat} {st : St} {xs : Nat → V} {sts : Nat → St}
theorem Head.nt (h : Head P Γ ops p st xs sts) : ∀ j, j ≤ p → (sts j).nt = st.nt ∧ (sts j).H = st.H
 | 0, _ => by rw [h.zero]; exact ⟨rfl, rfl⟩
 | j + 1, hj => by
  obtain ⟨o, d, _, _, _, _, e⟩ := h.step j (by omega)
  obtain ⟨h1, h2⟩ := h.nt j (by omega)
  rw [e]
  exact ⟨h1, h2⟩
theorem Head.mem (h : Head P Γ ops p st xs sts) : ∀ j, j ≤ p → ∀ s v, (s, v) ∈ (sts j).tmps →
  (∃ k o, k < j ∧ ops[k]? = some o ∧ o.dst = some s ∧ v = xs k) ∨ ((s, v) ∈ st.tmps ∧ ∀ k o, k < j → ops[k]? = some o → o.dst ≠ some s)
 | 0, _, s, v, hm => .inr ⟨by rw [h.zero] at hm; exact hm, fun k o hk => by omega⟩
 | j + 1, hj, s, v, hm => by
  obtain ⟨o, d, ho, hd, _, _, e⟩ := h.step j (by omega)
  rw [e] at hm
  simp only [St.set, List.mem_cons, Prod.mk.injEq] at hm
  rcases hm with ⟨rfl, rfl⟩ | hm
  ·exact .inl ⟨j, o, by omega, ho, hd, rfl⟩
  ·obtain ⟨hne, hm⟩ := mem_drop1 hm
   rcases h.mem j (by omega) s v hm with ⟨k, o', hk, ho', hd', hv⟩ | ⟨h1, h2⟩
   ·exact .inl ⟨k, o', by omega, ho', hd', hv⟩
   ·refine .inr ⟨h1, fun k o' hk ho' hd' => ?_⟩
    by_cases hkj : k = j
    ·subst hkj
     rw [ho] at ho'
     cases ho'
     rw [hd] at hd'
     cases hd'
     exact hne rfl
    ·exact h2 k o' (by omega) ho' hd'
def midL (ops : Array Oper) (p : Nat) (st : St) (xs : Nat → V) (L : Nat → Bool) (s : Nat) (v : V) : Prop :=
 (∃ k o, k < p ∧ L k = true ∧ ops[k]? = some o ∧ o.dst = some s ∧ v = xs k) ∨ ((s, v) ∈ st.tmps ∧ ∀ k o, k < p → ops[k]? = some o → o.dst ≠ some s)
def RL (Γ : Ctx) (ops : Array Oper) (p : Nat) (st : St) (xs : Nat → V) (L : Nat → Bool) (a : Act) (w : World) : Prop :=
 a.defers = [] ∧ a.tmps.size = st.nt ∧ ∃ M μ fp G, Own Γ M st.H w μ fp G ∧ ∀ s v, midL ops p st xs L s v → ∃ u, a.tmps[s]? = some u ∧ Sl w M st.H μ v u
theorem RL.first {a : Act} {w : World} (h : R Γ st a w) : RL Γ ops p st xs (fun _ => false) a w := by
 obtain ⟨h1, h2, M, μ, fp, G, O, hT⟩ := h
 refine ⟨h1, h2, M, μ, fp, G, O, fun s v hv => ?_⟩
 rcases hv with ⟨k, o, _, hf, _⟩ | ⟨hm, _⟩
 ·cases hf
 ·exact hT s v hm
theorem RL.drawn {L : Nat → Bool} {a : Act} {w : World} (r : RL Γ ops p st xs L a w) : RL Γ ops p st xs L a { w with drawn := w.drawn + 1 } := by
 obtain ⟨h1, h2, M, μ, fp, G, O, hT⟩ := r
 have hg : Grew w { w with drawn := w.drawn + 1 } := by
  constructor <;> intros <;> first | rfl | exact Nat.le_refl _ | exact Nat.le_succ _
 refine ⟨h1, h2, M, μ, fp, G, O.grew hg, fun s v hv => ?_⟩
 obtain ⟨u, h3, h4⟩ := hT s v hv
 exact ⟨u, h3, h4.carry (hg.carry _ _ _ fun k blk hb => O.born_lt k blk hb)⟩
theorem RL.next (h : Head P Γ ops p st xs sts) (hB : headB ops p = true) {i : Nat} (hi : i < p) {L : Nat → Bool}
  (hL : ∀ o, ops[i]? = some o → ∀ e ∈ o.after, Region.binds .any e = true → L e.on = true) {Q' : Exit → Act → World → Prop} {K : Act → World → Prop} {a : Act} {w : World}
  (r : RL Γ ops p st xs L a w) (hK : ∀ a' w', RL Γ ops p st xs (fun k => bif Nat.beq k i then true else L k) a' w' → K a' w') : wpOp P ops Q' i K a w := by
 obtain ⟨o, d, ho, hd, hlt, hq, _⟩ := h.step i hi
 obtain ⟨o', d', ho', hd', hok⟩ := headB_spec hB hi
 rw [ho] at ho'
 cases ho'
 rw [hd] at hd'
 cases hd'
 obtain ⟨h1, h2, M, μ, fp, G, O, hT⟩ := r
 have hS : Slots ((sts i).only (o.looksAt ops)) a w M μ := by
  intro s v hv
  simp only [St.only] at hv ⊢
  rw [(h.nt i (by omega)).2]
  rw [List.mem_filter] at hv
  have hs := hasN_mem hv.2
  refine hT s v ?_
  rcases h.mem i (by omega) s v hv.1 with ⟨k, ok, hk, hok', hdk, hvk⟩ | ⟨hm, hno⟩
  ·obtain ⟨_, e, he, hb, hon⟩ := hok.look s hs k ok (by omega) hok' hdk
   exact .inl ⟨k, ok, by omega, by rw [← hon]; exact hL o ho e he hb, hok', hdk, hvk⟩
  ·refine .inr ⟨hm, fun k ok hk hok' hdk => ?_⟩
   obtain ⟨hki, _⟩ := hok.look s hs k ok hk hok' hdk
   exact hno k ok hki hok' hdk
 have O' : Own Γ M ((sts i).only (o.looksAt ops)).H w μ fp G := by
  simp only [St.only]
  rw [(h.nt i (by omega)).2]
  exact O
 have hR : R Γ ((sts i).only (o.looksAt ops)) a w := ⟨h1, by simp only [St.only]; rw [(h.nt i (by omega)).1]; exact h2, M, μ, fp, G, O', hS⟩
 have fin : ∀ u w', Grew w w' → Sl w' M st.H μ (xs i) u → RL Γ ops p st xs (fun k => bif Nat.beq k i then true else L k) (a.put o.dst u) w' := by
  intro u w' hg hs
  refine ⟨put_defers.trans h1, put_size.trans h2, M, μ, fp, G, O.grew hg, fun s v hv => ?_⟩
  rw [hd]
  rcases hv with ⟨k, ok, hk, hLk, hok', hdk, hvk⟩ | ⟨hm, hno⟩
  ·by_cases hki : k = i
   ·subst hki
    rw [ho] at hok'
    cases hok'
    rw [hd] at hdk
    cases hdk
    subst hvk
    exact ⟨u, put_same (by rw [h2]; exact hlt), hs⟩
   ·have hsd : s ≠ d := fun e => by subst e; exact hki (hok.one k ok hk hok' hdk)
    have hLk' : L k = true := by
     cases hb : Nat.beq k i with
     | true => exact absurd (Nat.eq_of_beq_eq_true hb) hki
     | false => simpa only [hb, cond_false] using hLk
    obtain ⟨u', h3, h4⟩ := hT s v (.inl ⟨k, ok, hk, hLk', hok', hdk, hvk⟩)
    exact ⟨u', put_get hsd h3, h4.carry (hg.carry _ _ _ fun k blk hb => O.born_lt k blk hb)⟩
  ·have hsd : s ≠ d := fun e => by subst e; exact hno i o hi ho hd
   obtain ⟨u', h3, h4⟩ := hT s v (.inr ⟨hm, hno⟩)
   exact ⟨u', put_get hsd h3, h4.carry (hg.carry _ _ _ fun k blk hb => O.born_lt k blk hb)⟩
 unfold wpOp
 simp only [ho]
 rcases hq with ⟨hw, hy⟩ | ⟨hw, hx⟩
 ·have := wantedV_sound hw a w hR
  simp only [this, if_true]
  refine .inl (hy a w M μ fp G O' hS _ _ fun u w' hg hs => hK _ _ (fin u w' hg ?_))
  simp only [St.only] at hs
  rw [(h.nt i (by omega)).2] at hs
  exact hs
 ·have := wantedV_sound hw a w hR
  simp only [this, Bool.false_eq_true, if_false]
  refine hK _ _ (fin _ _ (by constructor <;> intros <;> first | rfl | exact Nat.le_refl _ | exact Nat.le_succ _) ?_)
  rw [hx]
  simp only [Sl]
def cnt (L : Nat → Bool) : Nat → Nat
 | 0 => 0
 | p + 1 => cnt L p + (bif L p then 0 else 1)
theorem cnt_same {L L' : Nat → Bool} : ∀ (p : Nat), (∀ k, k < p → L' k = L k) → cnt L' p = cnt L p
 | 0, _ => rfl
 | p + 1, h => by simp only [cnt]; rw [cnt_same p fun k hk => h k (by omega), h p (by omega)]
theorem cnt_next {L L' : Nat → Bool} {i : Nat} : ∀ (p : Nat), i < p → L i = false → L' i = true → (∀ k, k ≠ i → L' k = L k) → cnt L' p + 1 = cnt L p
 | 0, h, _, _, _ => by omega
 | p + 1, h, h1, h2, h3 => by
  simp only [cnt]
  by_cases hi : i = p
  ·subst hi
   rw [cnt_same i fun k hk => h3 k (by omega), h1, h2]
   simp
  ·rw [h3 p (fun e => hi e.symm)]
   have := cnt_next p (by omega) h1 h2 h3
   omega
theorem cnt_zero {L : Nat → Bool} : ∀ (p : Nat), cnt L p = 0 → ∀ k, k < p → L k = true
 | 0, _, k, hk => by omega
 | p + 1, h, k, hk => by
  simp only [cnt] at h
  cases hb : L p with
  | false => rw [hb] at h; simp at h
  | true =>
   rw [hb] at h
   by_cases hkp : k = p
   ·subst hkp; exact hb
   ·exact cnt_zero p (by simpa using h) k (by omega)
theorem cnt_pos {L : Nat → Bool} : ∀ (p : Nat), 0 < cnt L p → ∃ k, k < p ∧ L k = false ∧ ∀ i, i < k → L i = true
 | 0, h => by simp [cnt] at h
 | p + 1, h => by
  by_cases h0 : cnt L p = 0
  ·simp only [cnt, h0] at h
   cases hb : L p with
   | false => exact ⟨p, by omega, hb, cnt_zero p h0⟩
   | true => rw [hb] at h; simp at h
  ·obtain ⟨k, h1, h2, h3⟩ := cnt_pos p (Nat.pos_of_ne_zero h0)
   exact ⟨k, by omega, h2, h3⟩
end head
end
end Go.D
