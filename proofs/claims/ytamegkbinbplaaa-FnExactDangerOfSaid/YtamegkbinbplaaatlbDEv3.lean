import Derived.Test.YtamegkbinbplaaatlbDEv2
set_option linter.unusedVariables false
namespace Go.D
def blkAt (H : Hp) (k ver : Nat) : Option Blk :=
 match H[k]? with
 | some (some blk) => bif Nat.beq blk.ver ver then some blk else none
 | _ => none
def noOwn : V → Bool
 | .own .. => false
 | .obox .. => false
 | .agg _ => false
 | .tup _ => false
 | .any => false
 | _ => true
def partH (τ : Tau) (t : Nat) (cs : List V) (off : Nat) : Option V :=
 match τ t with
 | none => none
 | some i =>
  bif isAggK i.k then (bif Nat.ble (off + i.size) cs.length && ((cs.drop off).take i.size).all noOwn then some (.agg ((cs.drop off).take i.size)) else none)
  else match nthV cs off with
   | some x => bif noOwn x then some x else none
   | none => none
def nFields : TK → Nat
 | .struct fs => fs.length
 | _ => 0
def u64 (x : Int) : Int := IntKind.wrap .u64 x
def intBin (op : BinOp) (k : IntKind) (a b : Int) : Option Value :=
 match op with
 | .add => some (.int k (k.wrap (a + b)))
 | .sub => some (.int k (k.wrap (a - b)))
 | .mul => some (.int k (k.wrap (a * b)))
 | .lss => some (.bool (decide (a < b)))
 | .leq => some (.bool (decide (a ≤ b)))
 | .gtr => some (.bool (decide (a > b)))
 | .geq => some (.bool (decide (a ≥ b)))
 | .quo => bif decide (b = 0) then none else some (.int k (k.wrap (a.tdiv b)))
 | .rem => bif decide (b = 0) then none else some (.int k (a.tmod b))
 | .xor => some (.int k (k.wrap (BitVec.ofInt k.bits a ^^^ BitVec.ofInt k.bits b).toNat))
 | _ => none
def strBin (op : BinOp) (a b : ByteArray) : Option Value :=
 match op with
 | .lss => some (.bool (Op.bytesLess a.toList b.toList))
 | .leq => some (.bool (Op.bytesLess a.toList b.toList || a.toList == b.toList))
 | .gtr => some (.bool (!Op.bytesLess a.toList b.toList && !(a.toList == b.toList)))
 | .geq => some (.bool (!Op.bytesLess a.toList b.toList))
 | _ => none
def evBin (τ : Tau) (op : BinOp) (t : Nat) (x y : V) : Option V :=
 match op with
 | .eql => (eqV τ 20 t x y).map fun b => .lit (.bool b)
 | .neq => (eqV τ 20 t x y).map fun b => .lit (.bool (!b))
 | .shr => match x, y with
  | .lit (.int k a), .lit (.int _ b) => bif decide (b < 0) then none else some (.lit (.int k (a.fdiv (2 ^ min b.toNat k.bits))))
  | _, _ => none
 | _ =>
  match x, y with
  | .lit (.int k a), .lit (.int k' b) => if k = k' then (intBin op k a b).map .lit else none
  | .lit (.string a), .lit (.string b) => (strBin op a b).map .lit
  | _, _ => none
def evUn (op : UnOp) (x : V) : Option V :=
 match op, x with
 | .not, .lit (.bool b) => some (.lit (.bool (!b)))
 | .neg, .lit (.int k n) => some (.lit (.int k (k.wrap (-n))))
 | _, _ => none
def fieldOff (τ : Tau) (t f : Nat) : Option (Nat × Nat) :=
 match τ t with
 | some i => match i.k with
  | .struct fs => fs[f]?
  | _ => none
 | none => none
def plcOf (τ : Tau) (p : Nat × Nat) : Option (Nat × Nat) := (τ p.1).map fun j => (p.2, j.size)
def structPlaces (τ : Tau) (t : Nat) : Option (List (Nat × Nat)) :=
 match τ t with
 | some i => match i.k with
  | .struct fs => some (fs.filterMap (plcOf τ))
  | _ => none
 | none => none
def fieldTy : TK → Nat → Nat
 | .struct fs, j => match fs[j]? with
  | some p => p.1
  | none => 0
 | _, _ => 0
def evOp (τ : Tau) (st : St) (o : Oper) : Option V :=
 match o.op with
 | .move x | .assign x => (evalV st x).map (tyV τ o.type)
 | .pick c a b =>
  match evalV st c with
  | some (.lit (.bool true)) => evalV st a
  | some (.lit (.bool false)) => evalV st b
  | _ => none
 | .binOp op t x y _ =>
  match evalV st x, evalV st y with
  | some x, some y => evBin τ op t x y
  | _, _ => none
 | .unOp op _ x =>
  match evalV st x with
  | some x => evUn op x
  | none => none
 | .load t a =>
  match evalV st a with
  | some (.fptr cs off) => partV τ t cs off
  | some (.ptr k ver off) =>
   match blkAt st.H k ver with
   | some blk => partH τ t blk.cells off
   | none => none
  | _ => none
 | .fieldAddr t x f =>
  match evalV st x, fieldOff τ t f with
  | some (.fptr cs off), some (ft, fo) =>
   match τ ft with
   | some i => bif Nat.blt 0 i.size then some (.fptr cs (off + fo)) else none
   | none => none
  | some (.ptr k ver off), some (ft, fo) =>
   match τ ft, blkAt st.H k ver with
   | some i, some _ => bif Nat.blt 0 i.size then some (.ptr k ver (off + fo)) else none
   | _, _ => none
  | _, _ => none
 | .nilCheck x =>
  match evalV st x with
  | some (.fptr cs off) => some (.fptr cs off)
  | some (.ptr k ver off) => match blkAt st.H k ver with
   | some _ => some (.ptr k ver off)
   | none => none
  | _ => none
 | .extract x i =>
  match evalV st x with
  | some (.tup vs) => nthV vs i
  | _ => none
 | .field t x f =>
  match evalV st x, fieldOff τ t f with
  | some (.agg cs), some (ft, fo) => partV τ ft cs fo
  | _, _ => none
 | .build t parts =>
  match τ t, structPlaces τ t, evalParts st parts.toList with
  | some i, some ps, some vs => bif Nat.beq ps.length (nFields i.k) then (fillV (fun j => ps[j]?) i.zero (softParts τ (fieldTy i.k) vs)).map .agg else none
  | _, _, _ => none
 | .makeFunc (.func f) first caps =>
  match first.toList, evalAll st caps.toList with
  | [], some vs => some (.fn f vs)
  | _, _ => none
 | .call { callee := .builtin .len, args, argTypes } =>
  match args.toList, argTypes.toList with
  | [x], [t] =>
   match evalV st x, τ t with
   | some (.arr _ n _ _), some i => match i.k with | .slice _ => some (.lit (.int .i64 n)) | _ => none
   | some (.ref k ver _ _ n _), some i => match i.k, blkAt st.H k ver with | .slice _, some _ => some (.lit (.int .i64 n)) | _, _ => none
   | some (.lit (.string s)), some i => match i.k with | .str => some (.lit (.int .i64 s.size)) | _ => none
   | _, _ => none
  | _, _ => none
 | _ => none
section
variable {P : Program} {Γ : Ctx} {τ : Tau}
theorem evBin_sound (hT : TOK P τ) {w : World} {M : Nat → Prop} {H : Hp} {μ : Nat → Option Nat} {op : BinOp} {t : Nat} {x y r : V} {u v : Value} (xo yo : Operand)
  (h : evBin τ op t x y = some r) (hx : Sl w M H μ x u) (hy : Sl w M H μ y v) :
  ∃ z, (do eqGuard op t xo yo u v; binOp op t u v : Sem Value).run P w = .ok z w ∧ Sl w M H μ r z := by
 have heq : ∀ b, eqV τ 20 t x y = some b → (do eqGuard .eql t xo yo u v; binOp .eql t u v : Sem Value).run P w = .ok (.bool b) w ∧
   (do eqGuard .neq t xo yo u v; binOp .neq t u v : Sem Value).run P w = .ok (.bool (!b)) w := by
  intro b hb
  have he := eqV_sound (P := P) hT 20 10000 t x y u v b (by omega) hb hx hy
  have hb' := hb
  simp only [eqV] at hb'
  split at hb'
  ·cases hb'
  rename_i i hi
  split at hb'
  ·rename_i k0 k a k' b' hk
   simp only [Sl] at hx hy
   subst hx hy
   split at hb'
   ·rename_i e
    subst e
    cases hb'
    refine ⟨by simp [eqGuard_at_int, binOp_eql], by simp [eqGuard_at_int, binOp_neq, bne]⟩
   ·cases hb'
  ·simp only [Sl] at hx hy
   subst hx hy
   simp only [eqGuard_at_bool, binOp]
   simp [Op.equal, Op.maxDepth, he]
  ·rename_i a b' hk
   simp only [Sl] at hx hy
   subst hx hy
   cases hb'
   simp [eqGuard_at_string, binOp, Op.stringOp]
  ·rename_i fs cs ds hk
   cases hie : i.eq with
   | false => rw [hie] at hb'; cases hb'
   | true =>
    obtain ⟨inf, dd, z, h1, h2, h3, h4, h5, h6, h7, h8, h9⟩ := hT t i hi
    obtain ⟨g1, g2, g3⟩ := h9 hie
    simp only [Sl] at hx hy
    obtain ⟨us, rfl, hx⟩ := hx
    obtain ⟨vs, rfl, hy⟩ := hy
    have hg1 := run_eqGuard_agg (P := P) w .eql t xo yo us.toArray vs.toArray g2
    have hg2 := run_eqGuard_agg (P := P) w .neq t xo yo us.toArray vs.toArray g2
    refine ⟨?_, ?_⟩
    ·simp only [Sem.run_bind, hg1, Result.andThen_ok]
     rw [run_eql_struct, he]
     rfl
    ·simp only [Sem.run_bind, hg2, Result.andThen_ok]
     rw [run_neq_struct, he]
     rfl
  ·cases hb'
 unfold evBin at h
 split at h
 ·cases hb : eqV τ 20 t x y with
  | none => rw [hb] at h; cases h
  | some b =>
   rw [hb, Option.map_some, Option.some.injEq] at h
   subst h
   exact ⟨_, (heq b hb).1, by simp only [Sl]⟩
 ·cases hb : eqV τ 20 t x y with
  | none => rw [hb] at h; cases h
  | some b =>
   rw [hb, Option.map_some, Option.some.injEq] at h
   subst h
   exact ⟨_, (heq b hb).2, by simp only [Sl]⟩
 ·split at h
  ·rename_i k a k' b
   simp only [Sl] at hx hy
   subst hx hy
   cases hb : decide (b < 0) with
   | true => rw [hb] at h; cases h
   | false =>
    rw [hb] at h
    simp only [cond_false, Option.some.injEq] at h
    subst h
    have hb' : ¬ b < 0 := of_decide_eq_false hb
    exact ⟨_, by simp [eqGuard_shr, binOp, Op.shift, hb']; rfl, by simp only [Sl]⟩
  ·cases h
 ·split at h
  ·rename_i k a k' b
   simp only [Sl] at hx hy
   subst hx hy
   split at h
   ·rename_i e
    subst e
    cases op <;> simp only [intBin, Option.map_some, Option.map_none, Option.some.injEq, reduceCtorEq] at h
    case quo =>
     cases hz : decide (b = 0) with
     | true => rw [hz] at h; cases h
     | false =>
      rw [hz] at h
      simp only [cond_false, Option.map_some, Option.some.injEq] at h
      subst h
      have hz' : ¬ b = 0 := of_decide_eq_false hz
      refine ⟨_, by simp [eqGuard_quo, binOp_quo, Op.intDiv, hz']; rfl, by simp only [Sl]⟩
    case rem =>
     cases hz : decide (b = 0) with
     | true => rw [hz] at h; cases h
     | false =>
      rw [hz] at h
      simp only [cond_false, Option.map_some, Option.some.injEq] at h
      subst h
      have hz' : ¬ b = 0 := of_decide_eq_false hz
      refine ⟨_, by simp [eqGuard_rem, binOp_rem, Op.intDiv, hz']; rfl, by simp only [Sl]⟩
    case xor =>
     subst h
     refine ⟨_, by simp only [eqGuard_at_int, binOp, ne_eq, not_true_eq_false, if_false, Op.intBits, Sem.run_bind, Sem.run_pure, Result.andThen_ok]; rfl, by simp only [Sl]⟩
    all_goals subst h; refine ⟨_, by simp [eqGuard_at_int, binOp, Op.intArith, Op.intCmp]; rfl, by simp only [Sl]⟩
   ·cases h
  ·rename_i a b
   simp only [Sl] at hx hy
   subst hx hy
   cases op <;> simp only [strBin, Option.map_some, Option.map_none, Option.some.injEq, reduceCtorEq] at h
   all_goals subst h; refine ⟨_, by simp [eqGuard_at_string, binOp, Op.stringOp]; rfl, by simp only [Sl]⟩
  ·cases h
theorem evUn_sound {w : World} {M : Nat → Prop} {H : Hp} {μ : Nat → Option Nat} {op : UnOp} {x r : V} {u : Value}
  (h : evUn op x = some r) (hx : Sl w M H μ x u) : ∃ z, (Op.unary op u).run P w = .ok z w ∧ Sl w M H μ r z := by
 unfold evUn at h
 split at h
 ·simp only [Sl] at hx
  subst hx
  cases h
  exact ⟨_, by simp [Op.unary]; rfl, by simp only [Sl]⟩
 ·simp only [Sl] at hx
  subst hx
  cases h
  exact ⟨_, by simp [Op.unary, Op.intArith]; rfl, by simp only [Sl]⟩
 ·cases h
theorem blkAt_spec {H : Hp} {k ver : Nat} {blk : Blk} (h : blkAt H k ver = some blk) : H[k]? = some (some blk) ∧ blk.ver = ver := by
 unfold blkAt at h
 split at h
 ·rename_i blk' hb
  cases hc : (Nat.beq blk'.ver ver) with
  | false => rw [hc] at h; cases h
  | true =>
   rw [hc, cond_true, Option.some.injEq] at h
   subst h
   exact ⟨hb, Nat.eq_of_beq_eq_true hc⟩
 ·cases h
theorem fieldOff_spec {t f ft fo : Nat} (hT : TOK P τ) (h : fieldOff τ t f = some (ft, fo)) : ∃ fields : Array Field, ∃ fd : Field, P.underlying t = some (.struct fields) ∧ fields[f]? = some fd ∧ fd.type = ft ∧ fd.offset = fo := by
 unfold fieldOff at h
 split at h
 ·rename_i i hi
  split at h
  ·rename_i fs hk
   obtain ⟨inf, d, z, h1, h2, h3, h4, h5, h6, h7, h8, h9⟩ := hT t i hi
   rw [hk] at h8
   simp only [TKok] at h8
   obtain ⟨fields, rfl, hf⟩ := h8
   rw [← hf, List.getElem?_map] at h
   cases hg : fields.toList[f]? with
   | none => rw [hg] at h; cases h
   | some fd =>
    rw [hg, Option.map_some, Option.some.injEq, Prod.mk.injEq] at h
    exact ⟨fields, fd, h2, by simpa using hg, h.1, h.2⟩
  ·cases h
 ·cases h
theorem Ce.sl {w : World} {M : Nat → Prop} {H : Hp} {μ : Nat → Option Nat} {x : V} {v : Value} {fp : List Nat} (h : Ce w M H μ x v fp) (hn : noOwn x = true) : Sl w M H μ x v := by
 rcases h with h | h
 ·cases x <;> simp only [noOwn, Bool.false_eq_true] at hn <;> simp only [Ow] at h <;> simp only [Sl]
  ·exact h.2
  ·exact h.2
  ·exact h.2
  ·have := Fr.sl (H := H) (μ := μ) h.2
   simpa only [Sl] using this
 ·exact h.2
theorem CeL.slL {w : World} {M : Nat → Prop} {H : Hp} {μ : Nat → Option Nat} : ∀ {xs : List V} {us : List Value} {fp : List Nat}, CeL w M H μ xs us fp → xs.all noOwn = true → SlL w M H μ xs us
 | [], us, fp, h, _ => by simp only [CeL] at h; simp only [SlL]; exact h.1
 | c :: cs, us, fp, h, ha => by
  simp only [CeL] at h
  obtain ⟨u, us', f, f', rfl, rfl, h1, h2⟩ := h
  simp only [List.all_cons, Bool.and_eq_true] at ha
  simp only [SlL]
  exact ⟨u, us', rfl, h1.sl ha.1, CeL.slL h2 ha.2⟩
theorem CeL.get {w : World} {M : Nat → Prop} {H : Hp} {μ : Nat → Option Nat} : ∀ {xs : List V} {us : List Value} {fp : List Nat}, CeL w M H μ xs us fp → ∀ {i : Nat} {x : V}, xs[i]? = some x → noOwn x = true →
  ∃ u, us[i]? = some u ∧ Sl w M H μ x u
 | [], us, fp, h, i, x, hx, _ => by simp at hx
 | c :: cs, us, fp, h, i, x, hx, hn => by
  simp only [CeL] at h
  obtain ⟨u, us', f, f', rfl, rfl, h1, h2⟩ := h
  cases i with
  | zero =>
   simp at hx
   subst hx
   exact ⟨u, by simp, h1.sl hn⟩
  | succ i => simp at hx; simpa using CeL.get h2 hx hn
theorem CeL.drop {w : World} {M : Nat → Prop} {H : Hp} {μ : Nat → Option Nat} : ∀ (n : Nat) {xs : List V} {us : List Value} {fp : List Nat}, CeL w M H μ xs us fp → ∃ fp', CeL w M H μ (xs.drop n) (us.drop n) fp'
 | 0, _, _, fp, h => ⟨fp, by simpa using h⟩
 | n + 1, [], us, fp, h => by simp only [CeL] at h; obtain ⟨rfl, _⟩ := h; exact ⟨[], by simp [CeL]⟩
 | n + 1, c :: cs, us, fp, h => by
  simp only [CeL] at h
  obtain ⟨u, us', f, f', rfl, rfl, h1, h2⟩ := h
  simpa using CeL.drop n h2
theorem CeL.take {w : World} {M : Nat → Prop} {H : Hp} {μ : Nat → Option Nat} : ∀ (n : Nat) {xs : List V} {us : List Value} {fp : List Nat}, CeL w M H μ xs us fp → ∃ fp', CeL w M H μ (xs.take n) (us.take n) fp'
 | 0, _, _, fp, h => ⟨[], by simp [CeL]⟩
 | n + 1, [], us, fp, h => by simp only [CeL] at h; obtain ⟨rfl, _⟩ := h; exact ⟨[], by simp [CeL]⟩
 | n + 1, c :: cs, us, fp, h => by
  simp only [CeL] at h
  obtain ⟨u, us', f, f', rfl, rfl, h1, h2⟩ := h
  obtain ⟨fp', h3⟩ := CeL.take n h2
  exact ⟨f ++ fp', by simp only [List.take_succ_cons, CeL]; exact ⟨u, _, f, fp', rfl, rfl, h1, h3⟩⟩
theorem run_partH {t : TypeId} (hT : TOK P τ) (w : World) {M : Nat → Prop} {H : Hp} {μ : Nat → Option Nat} {cs : List V} {us : List Value} {fp : List Nat} {b off : Nat} {x : V}
  (hl : Lies w b 0 us) (hs : CeL w M H μ cs us fp) (h : partH τ t cs off = some x) :
  ∃ u, (Instr.loadAt t (.pointer (some ⟨b, off, none⟩))).run P w = .ok u w ∧ Sl w M H μ x u := by
 unfold partH at h
 split at h
 ·cases h
 ·rename_i i hi
  have hok := hT t i hi
  cases ha : isAggK i.k with
  | true =>
   rw [ha, cond_true] at h
   cases hle : (Nat.ble (off + i.size) cs.length && ((cs.drop off).take i.size).all noOwn) with
   | false => rw [hle] at h; cases h
   | true =>
    rw [hle, cond_true, Option.some.injEq] at h
    subst h
    simp only [Bool.and_eq_true] at hle
    have hle' := Nat.le_of_ble_eq_true hle.1
    have := (run_loadAt hok w b 0 off us hl (v := undef)).1 ha (by rw [hs.length]; exact hle')
    rw [Nat.zero_add] at this
    refine ⟨_, this, ?_⟩
    simp only [Sl]
    obtain ⟨fp', h1⟩ := hs.drop off
    obtain ⟨fp'', h2⟩ := h1.take i.size
    exact ⟨_, rfl, h2.slL hle.2⟩
  | false =>
   rw [ha, cond_false, nthV_eq] at h
   split at h
   ·rename_i y hy
    cases hno : noOwn y with
    | false => rw [hno] at h; cases h
    | true =>
     rw [hno, cond_true, Option.some.injEq] at h
     subst h
     obtain ⟨u, hu, hsl⟩ := hs.get hy hno
     have := (run_loadAt hok w b 0 off us hl (v := u)).2 ha hu
     rw [Nat.zero_add] at this
     exact ⟨u, this, hsl⟩
   ·cases h
end
end Go.D
