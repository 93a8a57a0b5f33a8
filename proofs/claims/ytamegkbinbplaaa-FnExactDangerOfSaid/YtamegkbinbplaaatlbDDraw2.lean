import Derived.Test.YtamegkbinbplaaatlbDLend
set_option linter.unusedVariables false
namespace Go.D
section
variable {P : Program} {Γ : Ctx} {τ : Tau}
def St.inH (st : St) (H : Hp) : St := { st with H := H }
def nEff (effs : List Nat) (L : Nat → Bool) : Nat → Nat
 | 0 => 0
 | n + 1 => nEff effs L n + (bif hasN effs n && L n then 1 else 0)
inductive Step (P : Program) (Γ : Ctx) (ops : Array Oper) (Hs : List Hp) (eff : Bool) (c : Nat) (st : St) (o : Oper) (x : V) : Hp → Prop
 | quiet (h : eff = false) (hq : ∀ H ∈ Hs, QS P Γ ops ((st.only (o.looksAt ops)).inH H) o x) : Step P Γ ops Hs eff c st o x st.H
 | turn (H' : Hp) (h : eff = true) (h1 : Hs[c]? = some st.H) (h2 : Hs[c + 1]? = some H') (hw : wantedV ops (st.only (o.looksAt ops)) o = some true) (hy : YldE P Γ o (st.only (o.looksAt ops)) H' x) : Step P Γ ops Hs eff c st o x H'
def effB (ops : Array Oper) (effs : List Nat) (p : Nat) : Bool :=
 (List.range p).all fun j => !hasN effs j || (List.range j).all fun i => !hasN effs i || Region.waitsFor .any ops j i || (List.range j).any fun k => hasN effs k && Nat.blt i k && Region.waitsFor .any ops j k
structure HeadE (P : Program) (Γ : Ctx) (ops : Array Oper) (effs : List Nat) (Hs : List Hp) (p : Nat) (st : St) (xs : Nat → V) (sts : Nat → St) : Prop where
 zero : sts 0 = st
 step : ∀ j, j < p → ∃ o d H', ops[j]? = some o ∧ o.dst = some d ∧ d < st.nt ∧ Step P Γ ops Hs (hasN effs j) (nEff effs (fun _ => true) j) (sts j) o (xs j) H' ∧ sts (j + 1) = ((sts j).inH H').set d (xs j)
section head
variable {ops : Array Oper} {effs : List Nat} {Hs : List Hp} {p : Nat} {st : St} {xs : Nat → V} {sts : Nat → St}
theorem HeadE.nt (h : HeadE P Γ ops effs Hs p st xs sts) (h0 : Hs[0]? = some st.H) : ∀ j, j ≤ p → (sts j).nt = st.nt ∧ Hs[nEff effs (fun _ => true) j]? = some (sts j).H
 | 0, _ => by rw [h.zero]; exact ⟨rfl, h0⟩
 | j + 1, hj => by
  obtain ⟨o, d, H', _, _, _, hs, e⟩ := h.step j (by omega)
  obtain ⟨h1, h2⟩ := h.nt h0 j (by omega)
  rw [e]
  refine ⟨h1, ?_⟩
  simp only [nEff, Bool.and_true]
  cases hs with
  | quiet he hq => rw [he, cond_false, Nat.add_zero]; exact h2
  | turn H' he g1 g2 hw hy => rw [he, cond_true]; exact g2
theorem HeadE.mem (h : HeadE P Γ ops effs Hs p st xs sts) : ∀ j, j ≤ p → ∀ s v, (s, v) ∈ (sts j).tmps →
  (∃ k o, k < j ∧ ops[k]? = some o ∧ o.dst = some s ∧ v = xs k) ∨ ((s, v) ∈ st.tmps ∧ ∀ k o, k < j → ops[k]? = some o → o.dst ≠ some s)
 | 0, _, s, v, hm => .inr ⟨by rw [h.zero] at hm; exact hm, fun k o hk => by omega⟩
 | j + 1, hj, s, v, hm => by
  obtain ⟨o, d, H', ho, hd, _, _, e⟩ := h.step j (by omega)
  rw [e] at hm
  simp only [St.set, St.inH, List.mem_cons, Prod.mk.injEq] at hm
  rcases hm with ⟨rfl, rfl⟩ | hm
  ·exact .inl ⟨j, o, by omega, ho, hd, rfl⟩
  ·obtain ⟨hne, hm⟩ := mem_drop1 hm
   rcases h.mem j (by omega) s v hm with ⟨k, o', hk, ho', hd', hv⟩ | ⟨h1, h2⟩
   ·exact .inl ⟨k, o', by omega, ho', hd', hv⟩
   ·refine .inr ⟨h1, fun k o' hk ho' hd' => ?_⟩
    by_cases hkj : k = j
    ·subst hkj
     rw [ho] at ho'
     cases ho'
     rw [hd] at hd'
     cases hd'
     exact hne rfl
    ·exact h2 k o' (by omega) ho' hd'
def RE (Γ : Ctx) (ops : Array Oper) (effs : List Nat) (Hs : List Hp) (p : Nat) (st : St) (xs : Nat → V) (L : Nat → Bool) (a : Act) (w : World) : Prop :=
 a.defers = [] ∧ a.tmps.size = st.nt ∧ ∃ H M μ fp G, Hs[nEff effs L p]? = some H ∧ Own Γ M H w μ fp G ∧ ∀ s v, midL ops p st xs L s v → ∃ u, a.tmps[s]? = some u ∧ Sl w M H μ v u
theorem nEff_none : ∀ n, nEff effs (fun _ => false) n = 0
 | 0 => rfl
 | n + 1 => by simp only [nEff, nEff_none n, Bool.and_false, cond_false]
theorem nEff_congr {L L' : Nat → Bool} : ∀ n, (∀ k, k < n → hasN effs k = true → L k = L' k) → nEff effs L n = nEff effs L' n
 | 0, _ => rfl
 | n + 1, h => by
  simp only [nEff, nEff_congr n fun k hk he => h k (by omega) he]
  cases he : hasN effs n with
  | false => rfl
  | true => rw [h n (by omega) he]
theorem nEff_put {L : Nat → Bool} {i : Nat} (hl : L i = false) : ∀ n, nEff effs (fun k => bif Nat.beq k i then true else L k) n = nEff effs L n + bif Nat.blt i n && hasN effs i then 1 else 0
 | 0 => rfl
 | n + 1 => by
  simp only [nEff, nEff_put hl n]
  by_cases hni : n = i
  ·subst hni
   have h1 : Nat.blt n n = false := by cases hb : Nat.blt n n with | false => rfl | true => have := Nat.le_of_ble_eq_true hb; omega
   have h2 : Nat.blt n (n + 1) = true := Nat.ble_eq_true_of_le (Nat.le_refl _)
   rw [h1, h2, hl, Nat.beq_refl]
   cases hasN effs n <;> simp
  ·have hb : Nat.beq n i = false := by cases hb : Nat.beq n i with | false => rfl | true => exact absurd (Nat.eq_of_beq_eq_true hb) hni
   have h3 : Nat.blt i (n + 1) = Nat.blt i n := by
    cases h4 : Nat.blt i n with
    | true => exact Nat.ble_eq_true_of_le (by have := Nat.le_of_ble_eq_true h4; omega)
    | false =>
     cases h5 : Nat.blt i (n + 1) with
     | false => rfl
     | true =>
      have := Nat.le_of_ble_eq_true h5
      have h6 : Nat.blt i n = true := Nat.ble_eq_true_of_le (by omega)
      rw [h4] at h6; cases h6
   rw [hb, h3, cond_false]
   omega
theorem RE.first {a : Act} {w : World} (h0 : Hs[0]? = some st.H) (h : R Γ st a w) : RE Γ ops effs Hs p st xs (fun _ => false) a w := by
 obtain ⟨h1, h2, M, μ, fp, G, O, hT⟩ := h
 refine ⟨h1, h2, st.H, M, μ, fp, G, by rw [nEff_none]; exact h0, O, fun s v hv => ?_⟩
 rcases hv with ⟨k, o, _, hf, _⟩ | ⟨hm, _⟩
 ·cases hf
 ·exact hT s v hm
theorem RE.drawn {L : Nat → Bool} {a : Act} {w : World} (r : RE Γ ops effs Hs p st xs L a w) : RE Γ ops effs Hs p st xs L a { w with drawn := w.drawn + 1 } := by
 obtain ⟨h1, h2, H, M, μ, fp, G, hH, O, hT⟩ := r
 have hg : Grew w { w with drawn := w.drawn + 1 } := by
  constructor <;> intros <;> first | rfl | exact Nat.le_refl _ | exact Nat.le_succ _
 refine ⟨h1, h2, H, M, μ, fp, G, hH, O.grew hg, fun s v hv => ?_⟩
 obtain ⟨u, h3, h4⟩ := hT s v hv
 exact ⟨u, h3, h4.carry (hg.carry _ _ _ fun k blk hb => O.born_lt k blk hb)⟩
theorem effs_closed (hE : effB ops effs p = true) {L : Nat → Bool} (hcl : ∀ j o, ops[j]? = some o → L j = true → ∀ e ∈ o.after, Region.binds .any e = true → L e.on = true) {j : Nat} (hj : j < p) (hej : hasN effs j = true)
  (hL : ∀ o, ops[j]? = some o → ∀ e ∈ o.after, Region.binds .any e = true → L e.on = true) : ∀ i, i < j → hasN effs i = true → L i = true := by
 have hwait : ∀ k i, Region.waitsFor .any ops k i = true → (∀ o, ops[k]? = some o → ∀ e ∈ o.after, Region.binds .any e = true → L e.on = true) → L i = true := by
  intro k i hw hk
  obtain ⟨o, ho, e, he, hb, hon⟩ := Region.waitsFor_spec hw
  rw [← hon]
  exact hk o ho e he hb
 have main : ∀ (m j : Nat), j < p → hasN effs j = true → (∀ o, ops[j]? = some o → ∀ e ∈ o.after, Region.binds .any e = true → L e.on = true) → ∀ i, i < j → hasN effs i = true → j - i ≤ m → L i = true := by
  intro m
  induction m with
  | zero => intro j _ _ _ i hi _ hm; omega
  | succ m ih =>
   intro j hj hej hLj i hi hei hm
   have h1 := List.all_eq_true.1 hE j (List.mem_range.2 hj)
   simp only [hej, Bool.not_true, Bool.false_or] at h1
   have h2 := List.all_eq_true.1 h1 i (List.mem_range.2 hi)
   simp only [hei, Bool.not_true, Bool.false_or, Bool.or_eq_true] at h2
   rcases h2 with h2 | h2
   ·exact hwait j i h2 hLj
   ·obtain ⟨k, hk, hk2⟩ := List.any_eq_true.1 h2
    simp only [Bool.and_eq_true] at hk2
    have hkj := List.mem_range.1 hk
    have hik := Nat.le_of_ble_eq_true hk2.1.2
    have hLk := hwait j k hk2.2 hLj
    exact ih k (by omega) hk2.1.1 (fun o ho => hcl k o ho hLk) i hik hei (by omega)
 exact fun i hi hei => main (j - i) j hj hej hL i hi hei (Nat.le_refl _)
theorem RE.next (h0 : Hs[0]? = some st.H) (h : HeadE P Γ ops effs Hs p st xs sts) (hB : headB ops p = true) (hE : effB ops effs p = true) {i : Nat} (hi : i < p) {L : Nat → Bool} (hLi : L i = false)
  (hcl : ∀ j o, ops[j]? = some o → L j = true → ∀ e ∈ o.after, Region.binds .any e = true → L e.on = true)
  (hL : ∀ o, ops[i]? = some o → ∀ e ∈ o.after, Region.binds .any e = true → L e.on = true) {Q' : Exit → Act → World → Prop} {K : Act → World → Prop} {a : Act} {w : World}
  (r : RE Γ ops effs Hs p st xs L a w) (hK : ∀ a' w', RE Γ ops effs Hs p st xs (fun k => bif Nat.beq k i then true else L k) a' w' → K a' w') : wpOp P ops Q' i K a w := by
 obtain ⟨o, d, Hn, ho, hd, hlt, hq, _⟩ := h.step i hi
 obtain ⟨o', d', ho', hd', hok⟩ := headB_spec hB hi
 rw [ho] at ho'
 cases ho'
 rw [hd] at hd'
 cases hd'
 obtain ⟨h1, h2, H, M, μ, fp, G, hH, O, hT⟩ := r
 have hmem : ∀ s v, (s, v) ∈ ((sts i).only (o.looksAt ops)).tmps → midL ops p st xs L s v := by
  intro s v hv
  simp only [St.only] at hv
  rw [List.mem_filter] at hv
  have hs := hasN_mem hv.2
  rcases h.mem i (by omega) s v hv.1 with ⟨k, ok, hk, hok', hdk, hvk⟩ | ⟨hm, hno⟩
  ·obtain ⟨_, e, he, hb, hon⟩ := hok.look s hs k ok (by omega) hok' hdk
   exact .inl ⟨k, ok, by omega, by rw [← hon]; exact hL o ho e he hb, hok', hdk, hvk⟩
  ·refine .inr ⟨hm, fun k ok hk hok' hdk => ?_⟩
   obtain ⟨hki, _⟩ := hok.look s hs k ok hk hok' hdk
   exact hno k ok hki hok' hdk
 have hS : Slots (((sts i).only (o.looksAt ops)).inH H) a w M μ := fun s v hv => hT s v (hmem s v hv)
 have hR : R Γ (((sts i).only (o.looksAt ops)).inH H) a w := ⟨h1, by simp only [St.only, St.inH]; rw [(h.nt h0 i (by omega)).1]; exact h2, M, μ, fp, G, O, hS⟩
 have fin : ∀ u w' H' M' μ' fp' G', Hs[nEff effs (fun k => bif Nat.beq k i then true else L k) p]? = some H' → Own Γ M' H' w' μ' fp' G' → Carry w M H μ w' M' H' μ' → Sl w' M' H' μ' (xs i) u →
   RE Γ ops effs Hs p st xs (fun k => bif Nat.beq k i then true else L k) (a.put o.dst u) w' := by
  intro u w' H' M' μ' fp' G' hH' O' C hs
  refine ⟨put_defers.trans h1, put_size.trans h2, H', M', μ', fp', G', hH', O', fun s v hv => ?_⟩
  rw [hd]
  rcases hv with ⟨k, ok, hk, hLk, hok', hdk, hvk⟩ | ⟨hm, hno⟩
  ·by_cases hki : k = i
   ·subst hki
    rw [ho] at hok'
    cases hok'
    rw [hd] at hdk
    cases hdk
    subst hvk
    exact ⟨u, put_same (by rw [h2]; exact hlt), hs⟩
   ·have hsd : s ≠ d := fun e => by subst e; exact hki (hok.one k ok hk hok' hdk)
    have hLk' : L k = true := by
     cases hb : Nat.beq k i with
     | true => exact absurd (Nat.eq_of_beq_eq_true hb) hki
     | false => simpa only [hb, cond_false] using hLk
    obtain ⟨u', h3, h4⟩ := hT s v (.inl ⟨k, ok, hk, hLk', hok', hdk, hvk⟩)
    exact ⟨u', put_get hsd h3, h4.carry C⟩
  ·have hsd : s ≠ d := fun e => by subst e; exact hno i o hi ho hd
   obtain ⟨u', h3, h4⟩ := hT s v (.inr ⟨hm, hno⟩)
   exact ⟨u', put_get hsd h3, h4.carry C⟩
 have hput := nEff_put (effs := effs) hLi p
 have hip : Nat.blt i p = true := Nat.ble_eq_true_of_le hi
 rw [hip, Bool.true_and] at hput
 unfold wpOp
 simp only [ho]
 cases hq with
 | quiet he hq =>
  rw [he, cond_false, Nat.add_zero] at hput
  have hmemH : H ∈ Hs := List.mem_of_getElem? hH
  have hgr : ∀ w', Grew w w' → Carry w M H μ w' M H μ := fun w' hg => hg.carry _ _ _ fun k blk hb => O.born_lt k blk hb
  rcases hq H hmemH with ⟨hw, hy⟩ | ⟨hw, hx⟩
  ·have := wantedV_sound hw a w hR
   simp only [this, if_true]
   exact .inl (hy a w M μ fp G O hS _ _ fun u w' hg hs => hK _ _ (fin u w' H M μ fp G (by rw [hput]; exact hH) (O.grew hg) (hgr w' hg) hs))
  ·have := wantedV_sound hw a w hR
   simp only [this, Bool.false_eq_true, if_false]
   have hg : Grew w w := by constructor <;> intros <;> first | rfl | exact Nat.le_refl _ | exact Nat.le_succ _
   refine hK _ _ (fin _ _ H M μ fp G (by rw [hput]; exact hH) O (hgr w hg) ?_)
   rw [hx]
   simp only [Sl]
 | turn H' he g1 g2 hw hy =>
  rw [he, cond_true] at hput
  have hbelow : nEff effs L p = nEff effs (fun _ => true) i := by
   have hlow := effs_closed hE hcl hi he hL
   have hhigh : ∀ k, k < p → hasN effs k = true → i ≤ k → L k = false := by
    intro k hk hek hik
    cases hLk : L k with
    | false => rfl
    | true =>
     by_cases hki : k = i
     ·rw [hki, hLi] at hLk; cases hLk
     ·have := effs_closed hE hcl hk hek (fun o ho => hcl k o ho hLk) i (by omega) he
      rw [hLi] at this; cases this
   have key : ∀ n, i ≤ n → n ≤ p → nEff effs L n = nEff effs (fun _ => true) i := by
    intro n hin hnp
    induction n with
    | zero =>
     have : i = 0 := by omega
     subst this
     rfl
    | succ n ih =>
     by_cases hn : i ≤ n
     ·simp only [nEff, ih hn (by omega)]
      cases hen : hasN effs n with
      | false => rfl
      | true => rw [hhigh n (by omega) hen hn]; rfl
     ·have hin' : i = n + 1 := by omega
      rw [hin']
      exact nEff_congr (n + 1) fun k hk hek => hlow k (by omega) hek
   exact key p (by omega) (Nat.le_refl _)
  have hHi := (h.nt h0 i (by omega)).2
  rw [hbelow, hHi, Option.some.injEq] at hH
  subst hH
  have hS' : Slots ((sts i).only (o.looksAt ops)) a w M μ := hS
  have := wantedV_sound hw a w hR
  simp only [this, if_true]
  exact .inl (hy a w M μ fp G O hS' _ _ fun u w' M' μ' fp' G' O' C hs => hK _ _ (fin u w' _ M' μ' fp' G' (by rw [hput, hbelow]; exact g2) O' C hs))
end head
end
end Go.D
