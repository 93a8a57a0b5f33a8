import Derived.Test.YtamegkbinbplaaatlbDMove
set_option linter.unusedVariables false
namespace Go.D
section
variable {P : Program} {Γ : Ctx}
def lift (Γ : Ctx) (Q : Exit → St → Prop) : Exit → Act → World → Prop := fun e a w => ∃ st, Q e st ∧ R Γ st a w
def lift1 (Γ : Ctx) (K : St → Prop) : Act → World → Prop := fun a w => ∃ st, K st ∧ R Γ st a w
def pwp (P : Program) (Γ : Ctx) (c : Code) (Q : Exit → St → Prop) (st : St) : Prop := ∀ a w, R Γ st a w → c.wp P (lift Γ Q) a w
def Imp (Γ : Ctx) (st st' : St) : Prop := ∀ a w, R Γ st a w → R Γ st' a w
theorem Imp.refl (st : St) : Imp Γ st st := fun _ _ h => h
theorem Imp.trans {a b c : St} (h : Imp Γ a b) (k : Imp Γ b c) : Imp Γ a c := fun _ _ r => k _ _ (h _ _ r)
theorem pwp_imp {c : Code} {Q : Exit → St → Prop} {st st' : St} (hi : Imp Γ st st') (h : pwp P Γ c Q st') : pwp P Γ c Q st := fun a w r => h a w (hi a w r)
def Dthen (K : St → Prop) (Q : Exit → St → Prop) : Exit → St → Prop
 | .normal, st => K st
 | e, st => Q e st
def Dblock (id : Nat) (Q : Exit → St → Prop) : Exit → St → Prop
 | .exit id', st => bif Nat.beq id' id then Q .normal st else Q (.exit id') st
 | e, st => Q e st
theorem pwp_seq {x y : Code} {Q : Exit → St → Prop} {st : St} (h : pwp P Γ x (Dthen (fun st' => pwp P Γ y Q st') Q) st) : pwp P Γ (.seq x y) Q st :=
 fun a w r => wp_seq (wp_mono (h a w r) fun e a w q => by
  obtain ⟨st', q, r'⟩ := q
  cases e with
  | normal => exact q a w r'
  | _ => exact ⟨st', q, r'⟩)
theorem pwp_skip {Q : Exit → St → Prop} {st : St} (h : Q .normal st) : pwp P Γ .skip Q st := fun _ _ r => wp_skip ⟨st, h, r⟩
theorem pwp_exit {id : Nat} {Q : Exit → St → Prop} {st : St} (h : Q (.exit id) st) : pwp P Γ (.exit id) Q st := fun _ _ r => wp_exit ⟨st, h, r⟩
theorem pwp_ret {Q : Exit → St → Prop} {st : St} (h : Q .ret st) : pwp P Γ .ret Q st := fun _ _ r => wp_ret ⟨st, h, r⟩
theorem pwp_block {id : Nat} {c : Code} {Q : Exit → St → Prop} {st : St} (h : pwp P Γ c (Dblock id Q) st) : pwp P Γ (.block id c) Q st :=
 fun a w r => wp_block (wp_mono (h a w r) fun e a w q => by
  obtain ⟨st', q, r'⟩ := q
  cases e with
  | exit id' =>
   simp only [Dblock] at q
   simp only [Exit.inBlock]
   split
   ·rename_i hh; subst hh; simp only [Nat.beq_refl, cond_true] at q; exact ⟨st', q, r'⟩
   ·rename_i hh
    have : Nat.beq id' id = false := by
     cases hb : Nat.beq id' id with
     | false => rfl
     | true => exact absurd (Nat.eq_of_beq_eq_true hb) hh
    simp only [this, cond_false] at q; exact ⟨st', q, r'⟩
  | _ => exact ⟨st', q, r'⟩)
theorem evalV_R {st : St} {a : Act} {w : World} (r : R Γ st a w) {y : Operand} {u : Value} (h : evalV st y = some (.lit u)) : a.eval y = u := by
 obtain ⟨_, _, M, μ, fp, G, O, hT⟩ := r
 have := evalV_sound hT h
 simpa only [Sl] using this
theorem pwp_cond {c : Operand} {x y : Code} {Q : Exit → St → Prop} {st : St} (b : Bool) (hc : evalV st c = some (.lit (.bool b)))
  (ht : b = true → pwp P Γ x Q st) (hf : b = false → pwp P Γ y Q st) : pwp P Γ (.cond c x y) Q st :=
 fun a w r => wp_cond_split (evalV_R r hc) (fun h => ht h a w r) (fun h => hf h a w r)
def LoopAt (P : Program) (c : Code) (Q : Exit → Act → World → Prop) (a : Act) (w : World) : Prop :=
 ∀ (b : Frame) (k : List Item) (cs : List Frame), ∃ e a' w', Q e a' w' ∧ Arrives P (lone (b.at a (.code c :: .inLoop c :: k)) cs w) b k cs e a' w'
theorem wp_loop_at {c : Code} {Q : Exit → Act → World → Prop} {a : Act} {w : World} (h : LoopAt P c Q a w) : (Code.loop c).wp P Q a w :=
 fun b k cs => let ⟨e, a', w', q, r⟩ := h b k cs; ⟨e, a', w', q, .of_steps (.one step_loop) r⟩
theorem loopAt_unfold {c : Code} {Q : Exit → Act → World → Prop} {a : Act} {w : World} (h : c.wp P (Exit.then (LoopAt P c Q) Q) a w) : LoopAt P c Q a w := by
 intro b k cs
 obtain ⟨e, a₁, w₁, hq, harr⟩ := h b (.inLoop c :: k) cs
 cases e with
 | normal =>
  obtain ⟨e₂, a₂, w₂, hq₂, harr₂⟩ := hq b k cs
  exact ⟨e₂, a₂, w₂, hq₂, .of_steps (Steps.trans harr (.one step_inLoop)) harr₂⟩
 | exit id => exact ⟨_, a₁, w₁, hq, .pass (x := .inLoop c) rfl (fun _ _ => .inl (by simp)) harr⟩
 | goto l => exact ⟨_, a₁, w₁, hq, .pass (x := .inLoop c) rfl (fun _ _ => .inl (by simp)) harr⟩
 | ret => exact ⟨_, a₁, w₁, hq, .pass (x := .inLoop c) rfl (fun _ _ => .inl (by simp)) harr⟩
 | panic ch => exact ⟨_, a₁, w₁, hq, .pass (x := .inLoop c) rfl (fun _ _ => .inl (by simp)) harr⟩
 | outgrown => exact ⟨_, a₁, w₁, hq, .pass (x := .inLoop c) rfl (fun _ _ => .inl (by simp)) harr⟩
def Dround {ι : Type} (Γ : Ctx) (S : ι → St) (J : ι → Prop) (m : ι → Nat) (i : ι) (Q : Exit → St → Prop) : Exit → St → Prop :=
 Dthen (fun st' => ∃ j, J j ∧ m j < m i ∧ Imp Γ st' (S j)) Q
theorem pwp_loop {ι : Type} {c : Code} {Q : Exit → St → Prop} {st : St} (S : ι → St) (J : ι → Prop) (m : ι → Nat) (i₀ : ι) (h₀ : J i₀) (hi : Imp Γ st (S i₀))
  (round : ∀ i, J i → pwp P Γ c (Dround Γ S J m i Q) (S i)) : pwp P Γ (.loop c) Q st := by
 have key : ∀ n i, m i = n → J i → ∀ a w, R Γ (S i) a w → LoopAt P c (lift Γ Q) a w := by
  intro n
  induction n using Nat.strongRecOn with
  | _ n ih =>
   intro i hn hJ a w r
   refine loopAt_unfold (wp_mono (round i hJ a w r) fun e a' w' q => ?_)
   obtain ⟨st', q, r'⟩ := q
   cases e with
   | normal =>
    obtain ⟨j, hj, hlt, hi⟩ := q
    exact ih (m j) (hn ▸ hlt) j rfl hj a' w' (hi a' w' r')
   | _ => exact ⟨st', q, r'⟩
 exact fun a w r => wp_loop_at (key _ i₀ rfl h₀ a w (hi a w r))
def opsP (P : Program) (Γ : Ctx) (ops : Array Oper) (Q : Exit → St → Prop) (j : Nat) (st : St) : Prop :=
 ∀ a w, R Γ st a w → wpOps P ops (lift Γ Q) (List.range' j (ops.size - j)) a w
def opP (P : Program) (Γ : Ctx) (o : Oper) (K : St → Prop) (st : St) : Prop :=
 ∀ a w, R Γ st a w → ∀ Qc : Exit → Act → World → Prop, o.wp P a w (lift1 Γ K) Qc
theorem pwp_region {id : Nat} {ops : Array Oper} {Q : Exit → St → Prop} {st : St} (h : opsP P Γ ops Q 0 st) : pwp P Γ (.region id ops false) Q st := by
 intro a w r
 refine wp_region ?_
 have := h a w r
 rw [Nat.sub_zero, ← List.range_eq_range'] at this
 exact this
theorem opsP_end {ops : Array Oper} {Q : Exit → St → Prop} {j : Nat} {st : St} (hj : ops.size = j) (h : Q .normal st) : opsP P Γ ops Q j st := by
 intro a w r
 rw [hj, Nat.sub_self]
 simp only [List.range'_zero, wpOps]
 exact ⟨st, h, r⟩
theorem opsP_imp {ops : Array Oper} {Q : Exit → St → Prop} {j : Nat} {st st' : St} (hi : Imp Γ st st') (h : opsP P Γ ops Q j st') : opsP P Γ ops Q j st :=
 fun a w r => h a w (hi a w r)
theorem range_step {ops : Array Oper} {j : Nat} {o : Oper} (ho : ops[j]? = some o) : List.range' j (ops.size - j) = j :: List.range' (j + 1) (ops.size - (j + 1)) := by
 have hlt : j < ops.size := (Array.getElem?_eq_some_iff.1 ho).1
 have : ops.size - j = (ops.size - (j + 1)) + 1 := by omega
 rw [this, List.range'_succ]
theorem opsP_step {ops : Array Oper} {Q : Exit → St → Prop} {j : Nat} {st : St} {o : Oper} (ho : ops[j]? = some o)
  (hw : ∀ a w, R Γ st a w → Region.wanted o (yielded ops a.tmps) = true) (h : opP P Γ o (fun st' => opsP P Γ ops Q (j + 1) st') st) : opsP P Γ ops Q j st := by
 intro a w r
 rw [range_step ho, wpOps_cons, wpOp, ho]
 simp only [hw a w r, if_true]
 refine .inl (Oper.wp_mono (fun a w hl => ?_) (h a w r _))
 obtain ⟨st', q, r'⟩ := hl
 exact q a w r'
theorem opsP_pass {ops : Array Oper} {Q : Exit → St → Prop} {j : Nat} {st : St} {o : Oper} (ho : ops[j]? = some o)
  (hw : ∀ a w, R Γ st a w → Region.wanted o (yielded ops a.tmps) = false) (hd : ∀ d, o.dst = some d → d < st.nt) (h : opsP P Γ ops Q (j + 1) (st.put o.dst (.lit undef))) : opsP P Γ ops Q j st := by
 intro a w r
 rw [range_step ho, wpOps_cons, wpOp, ho]
 simp only [hw a w r, Bool.false_eq_true, if_false]
 exact h _ _ (r.undef _ hd)
def wantedV (ops : Array Oper) (st : St) (o : Oper) : Option Bool :=
 match o.guard with
 | none => some true
 | some (j, want) =>
  match ops[j]? with
  | some oj => match oj.dst with
   | some d => match look st.tmps d with
    | some (.lit (.bool b)) => some (b == want)
    | some (.lit (.tuple _)) => some false
    | _ => none
   | none => none
  | none => none
theorem wantedV_sound {ops : Array Oper} {st : St} {o : Oper} {b : Bool} (h : wantedV ops st o = some b) (a : Act) (w : World) (r : R Γ st a w) : Region.wanted o (yielded ops a.tmps) = b := by
 unfold wantedV at h
 unfold Region.wanted
 split at h
 ·rename_i hg
  rw [hg]
  simpa using h
 ·rename_i j want hg
  rw [hg]
  split at h
  ·rename_i oj hj
   split at h
   ·rename_i d hd
    split at h
    ·rename_i c hl
     simp only [Option.some.injEq] at h
     obtain ⟨_, _, M, μ, fp, G, O, hT⟩ := r
     obtain ⟨u, hu, hs⟩ := hT d _ (look_mem hl)
     simp only [Sl] at hs
     subst hs
     simp only [yielded, hj, Option.bind_some, hd, hu]
     rw [← h]
     cases c <;> cases want <;> rfl
    ·rename_i vs hl
     simp only [Option.some.injEq] at h
     obtain ⟨_, _, M, μ, fp, G, O, hT⟩ := r
     obtain ⟨u, hu, hs⟩ := hT d _ (look_mem hl)
     simp only [Sl] at hs
     subst hs
     simp only [yielded, hj, Option.bind_some, hd, hu]
     rw [← h]
     rfl
    ·cases h
   ·cases h
  ·cases h
theorem opsP_op {ops : Array Oper} {Q : Exit → St → Prop} {j : Nat} {st : St} {o : Oper} (ho : ops[j]? = some o) (hw : wantedV ops st o = some true)
  (h : opP P Γ o (fun st' => opsP P Γ ops Q (j + 1) st') st) : opsP P Γ ops Q j st :=
 opsP_step ho (fun a w r => wantedV_sound hw a w r) h
theorem opsP_not {ops : Array Oper} {Q : Exit → St → Prop} {j : Nat} {st : St} {o : Oper} (ho : ops[j]? = some o) (hw : wantedV ops st o = some false) (hd : ∀ d, o.dst = some d → d < st.nt)
  (h : opsP P Γ ops Q (j + 1) (st.put o.dst (.lit undef))) : opsP P Γ ops Q j st :=
 opsP_pass ho (fun a w r => wantedV_sound hw a w r) hd h
def Yld (P : Program) (Γ : Ctx) (o : Oper) (st : St) (x : V) : Prop :=
 ∀ (a : Act) (w : World) (M : Nat → Prop) (μ : Nat → Option Nat) (fp : Nat → List Nat) (G : Nat → Option Nat), Own Γ M st.H w μ fp G → Slots st a w M μ →
  ∃ u w', (execOp a.eval o).run P w = .ok (.value u) w' ∧ Grew w w' ∧ Sl w' M st.H μ x u
theorem opP_yld {o : Oper} {K : St → Prop} {st : St} {x : V} (h : Yld P Γ o st x) (hd : ∀ d, o.dst = some d → d < st.nt) (hk : K (st.put o.dst x)) : opP P Γ o K st := by
 intro a w r Qc
 obtain ⟨h1, h2, M, μ, fp, G, O, hT⟩ := r
 obtain ⟨u, w', hrun, hg, hs⟩ := h a w M μ fp G O hT
 simp only [Oper.wp, hrun, Oper.upon]
 refine ⟨_, hk, ?_⟩
 exact R.step (H' := st.H) h1 h2 hT (hg.carry _ _ _ fun k blk hb => O.born_lt k blk hb) (O.grew hg) hd fun _ => hs
end
end Go.D
