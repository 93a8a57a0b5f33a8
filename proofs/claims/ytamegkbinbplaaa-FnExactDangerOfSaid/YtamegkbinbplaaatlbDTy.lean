import Derived.Test.YtamegkbinbplaaatlbDDraw
import Derived.Test.YtamegkbinbplaaatlbDGhost
import Derived.Test.YtamegkbinbplaaatlbDRet
import Derived.Test.YtamegkbinbplaaatlbDApp
set_option linter.unusedVariables false
namespace Go.D
class Enc (α : Type) where
 sz : Nat
 cells : α → List V
 agg : Bool
 len : ∀ x, (cells x).length = sz
 pos : 0 < sz
 frz : ∀ x, (cells x).all frozenV = true
 one : ∀ x, (cells x).all cellV = true
def E {α : Type} [Enc α] (x : α) : V := bif Enc.agg α then .agg (Enc.cells x) else (Enc.cells x).headD .any
def eL {α : Type} [Enc α] : List α → List V
 | [] => []
 | x :: xs => Enc.cells x ++ eL xs
abbrev I (n : Int) : V := .lit (.int .i64 n)
abbrev B (b : Bool) : V := .lit (.bool b)
abbrev S (s : ByteArray) : V := .lit (.string s)
abbrev A {α : Type} [Enc α] (xs : List α) : V := .arr (Enc.sz α) xs.length (eL xs) false
abbrev O {α : Type} [Enc α] (xs : List α) : V := .own (Enc.sz α) xs.length (eL xs) false
instance : Enc Int := ⟨1, fun n => [I n], false, fun _ => rfl, by decide, fun _ => rfl, fun _ => rfl⟩
instance : Enc Bool := ⟨1, fun n => [B n], false, fun _ => rfl, by decide, fun _ => rfl, fun _ => rfl⟩
instance : Enc ByteArray := ⟨1, fun n => [S n], false, fun _ => rfl, by decide, fun _ => rfl, fun _ => rfl⟩
instance : Enc UInt8 := ⟨1, fun n => [.lit (.int .u8 n.toNat)], false, fun _ => rfl, by decide, fun _ => rfl, fun _ => rfl⟩
instance {α : Type} [Enc α] : Enc (List α) := ⟨1, fun n => [A n], false, fun _ => rfl, by decide, fun _ => rfl, fun _ => rfl⟩
section
variable {α : Type} [Enc α]
theorem eL_len : ∀ (xs : List α), (eL xs).length = xs.length * Enc.sz α
 | [] => by simp [eL]
 | x :: xs => by simp only [eL, List.length_append, Enc.len, eL_len xs, List.length_cons, Nat.add_mul, Nat.one_mul]; omega
theorem eL_frz : ∀ (xs : List α), (eL xs).all frozenV = true
 | [] => rfl
 | x :: xs => by simp only [eL, List.all_append, Enc.frz, eL_frz xs, Bool.and_self]
theorem eL_one : ∀ (xs : List α), (eL xs).all cellV = true
 | [] => rfl
 | x :: xs => by simp only [eL, List.all_append, Enc.one, eL_one xs, Bool.and_self]
theorem eL_append : ∀ (xs ys : List α), eL (xs ++ ys) = eL xs ++ eL ys
 | [], ys => rfl
 | x :: xs, ys => by simp only [List.cons_append, eL, eL_append xs ys, List.append_assoc]
theorem eL_drop : ∀ (xs : List α) (i : Nat), (eL xs).drop (i * Enc.sz α) = eL (xs.drop i)
 | xs, 0 => by simp
 | [], i + 1 => by simp [eL]
 | x :: xs, i + 1 => by
  simp only [eL, List.drop_succ_cons]
  rw [List.drop_append, Enc.len, ← eL_drop xs i]
  have : (Enc.cells x).drop ((i + 1) * Enc.sz α) = [] := List.drop_eq_nil_of_le (by rw [Enc.len, Nat.add_mul]; omega)
  rw [this, List.nil_append]
  congr 1
  rw [Nat.add_mul]; omega
theorem eL_take : ∀ (xs : List α) (i : Nat), (eL xs).take (i * Enc.sz α) = eL (xs.take i)
 | xs, 0 => by simp [eL]
 | [], i + 1 => by simp [eL]
 | x :: xs, i + 1 => by
  simp only [eL, List.take_succ_cons]
  rw [List.take_append, Enc.len, ← eL_take xs i]
  have : (Enc.cells x).take ((i + 1) * Enc.sz α) = Enc.cells x := List.take_of_length_le (by rw [Enc.len, Nat.add_mul]; omega)
  rw [this]
  congr 2
  rw [Nat.add_mul]; omega
theorem eL_at {xs : List α} {i : Nat} {x : α} (h : xs[i]? = some x) : ((eL xs).drop (i * Enc.sz α)).take (Enc.sz α) = Enc.cells x := by
 rw [eL_drop]
 obtain ⟨hi, rfl⟩ := List.getElem?_eq_some_iff.1 h
 rw [List.drop_eq_getElem_cons hi]
 simp only [eL]
 rw [List.take_append, Enc.len, Nat.sub_self, List.take_zero, List.append_nil]
 exact List.take_of_length_le (by rw [Enc.len]; exact Nat.le_refl _)
theorem eL_set {xs : List α} {i : Nat} {x y : α} {o : Nat} {vs : List V} (h : xs[i]? = some x) (hy : setL (Enc.cells x) o vs = Enc.cells y) (ho : o + vs.length ≤ Enc.sz α) :
  setL (eL xs) (i * Enc.sz α + o) vs = eL (xs.set i y) := by
 obtain ⟨hi, rfl⟩ := List.getElem?_eq_some_iff.1 h
 have e : xs = xs.take i ++ xs[i] :: xs.drop (i + 1) := by rw [← List.drop_eq_getElem_cons hi, List.take_append_drop]
 have hl : (eL (xs.take i)).length = i * Enc.sz α := by rw [eL_len, List.length_take, Nat.min_eq_left (by omega)]
 have es : xs.set i y = xs.take i ++ y :: xs.drop (i + 1) := by rw [List.set_eq_take_append_cons_drop, if_pos hi]
 rw [es]
 conv => lhs; rw [e]
 rw [eL_append, eL_append]
 simp only [eL]
 rw [← hy]
 unfold setL
 have hc : (Enc.cells xs[i]).length = Enc.sz α := Enc.len _
 rw [← hl]
 simp only [List.take_append, List.drop_append, List.append_assoc, Nat.add_sub_cancel_left, List.take_of_length_le (Nat.le_add_right _ _)]
 have h1 : (eL (xs.take i)).length + o + vs.length - (eL (xs.take i)).length = o + vs.length := by omega
 have h2 : List.drop ((eL (xs.take i)).length + o + vs.length) (eL (xs.take i)) = [] := List.drop_eq_nil_of_le (by omega)
 have h3 : o - (Enc.cells xs[i]).length = 0 := by omega
 have h4 : o + vs.length - (Enc.cells xs[i]).length = 0 := by omega
 rw [h1, h2, h3, h4]
 simp
end
def getI {α : Type} (xs : List α) (i : Int) : Option α := if 0 ≤ i then xs[i.toNat]? else none
theorem getI_spec {α : Type} {xs : List α} {i : Int} {x : α} (h : getI xs i = some x) : 0 ≤ i ∧ i < xs.length ∧ xs[i.toNat]? = some x := by
 unfold getI at h
 split at h
 ·have := (List.getElem?_eq_some_iff.1 h).1
  exact ⟨by assumption, by omega, h⟩
 ·cases h
mutual
theorem FzTo.frz : ∀ {x : V}, Go.D.frz x = true → FzTo x x
 | .lit u, _ => FzTo.lit u
 | .arr s n cs full, _ => FzTo.arr s n cs full
 | .fptr cs off, _ => FzTo.fptr cs off
 | .fn f cs, _ => FzTo.fn f cs
 | .agg cs, h => FzTo.agg (FzToL.frz (by simpa only [Go.D.frz] using h))
 | .tup cs, h => FzTo.tup (FzToL.frz (by simpa only [Go.D.frz] using h))
 | .own .., h => by simp [Go.D.frz] at h
 | .obox .., h => by simp [Go.D.frz] at h
 | .ref .., h => by simp [Go.D.frz] at h
 | .ptr .., h => by simp [Go.D.frz] at h
 | .any, h => by simp [Go.D.frz] at h
theorem FzToL.frz : ∀ {xs : List V}, frzL xs = true → FzToL xs xs
 | [], _ => FzToL.nil
 | c :: cs, h => by
  simp only [frzL, Bool.and_eq_true] at h
  exact FzToL.cons (FzTo.frz h.1) (FzToL.frz h.2)
end
theorem frzL_of_all : ∀ {xs : List V}, xs.all frozenV = true → frzL xs = true
 | [], _ => rfl
 | c :: cs, h => by
  simp only [List.all_cons, Bool.and_eq_true] at h
  simp only [frzL, Bool.and_eq_true]
  refine ⟨?_, frzL_of_all h.2⟩
  cases c <;> simp_all [frozenV, frz]
theorem FzTo.O {α : Type} [Enc α] (xs : List α) : FzTo (Go.D.O xs) (A xs) := FzTo.own rfl (FzToL.frz (frzL_of_all (eL_frz xs)))
section
variable {P : Program} {Γ : Ctx} {τ : Tau} {α : Type} [Enc α]
def dstOf (st : St) (o : Oper) : Option Nat :=
 match o.dst with
 | some d => bif Nat.blt d st.nt then some d else none
 | none => none
structure AtOp (ops : Array Oper) (st : St) (j : Nat) (o : Oper) : Prop where
 op : ops[j]? = some o
 wanted : wantedV ops st o = some true
def opAt (ops : Array Oper) (st : St) (j : Nat) : Option Oper :=
 match ops[j]? with
 | some o => match wantedV ops st o with
  | some true => some o
  | _ => none
 | none => none
theorem opAt_spec {ops : Array Oper} {st : St} {j : Nat} {o : Oper} (h : opAt ops st j = some o) : AtOp ops st j o := by
 unfold opAt at h
 split at h
 ·split at h
  ·cases h; exact ⟨by assumption, by assumption⟩
  ·cases h
 ·cases h
structure IdxI where
 d : Nat
 s : Nat
 n : Nat
 cs : List V
 i : Int
def idxV (τ : Tau) (ops : Array Oper) (j : Nat) (st : St) : Option IdxI :=
 match opAt ops st j with
 | some o => match o.op, dstOf st o with
  | .indexAddr t x ix, some d => match sliceOf τ t, evalV st x, evalV st ix with
   | some (_, ti), some (.arr s n cs _), some (.lit (.int _ i)) => bif Nat.beq ti.size s then some ⟨d, s, n, cs, i⟩ else none
   | _, _, _ => none
  | _, _ => none
 | none => none
theorem dstOf_spec {st : St} {o : Oper} {d : Nat} (h : dstOf st o = some d) : o.dst = some d ∧ d < st.nt := by
 unfold dstOf at h
 split at h
 ·rename_i d' hd
  cases hb : Nat.blt d' st.nt with
  | true => rw [hb, cond_true] at h; cases h; exact ⟨hd, Nat.le_of_ble_eq_true hb⟩
  | false => rw [hb] at h; cases h
 ·cases h
theorem idxV_sound (hT : TOK P τ) {ops : Array Oper} {j : Nat} {st : St} {d : Nat} {xs : List α} {i : Int} {x : α} (h : idxV τ ops j st = some ⟨d, Enc.sz α, xs.length, eL xs, i⟩) (hx : getI xs i = some x) :
  ∃ o, AtOp ops st j o ∧ o.dst = some d ∧ d < st.nt ∧ Yld P Γ o st (.fptr (Enc.cells x) 0) := by
 unfold idxV at h
 split at h
 ·rename_i o ho
  split at h
  ·rename_i t y ix d' hop hd
   split at h
   ·rename_i e ti s n cs full k i' hs hy hi
    cases hb : Nat.beq ti.size s with
    | false => rw [hb] at h; cases h
    | true =>
     rw [hb, cond_true] at h
     simp only [Option.some.injEq, IdxI.mk.injEq] at h
     obtain ⟨rfl, rfl, rfl, rfl, rfl⟩ := h
     obtain ⟨h0, h1, h2⟩ := getI_spec hx
     have hd' := dstOf_spec hd
     exact ⟨o, opAt_spec ho, hd'.1, hd'.2, yld_index hT hop hs hy (Nat.eq_of_beq_eq_true hb) hi h0 h1 (eL_at h2)⟩
   ·cases h
  ·cases h
 ·cases h
theorem opsP_yld {ops : Array Oper} {Q : Exit → St → Prop} {j : Nat} {st : St} {d : Nat} {x : V} (h : ∃ o, AtOp ops st j o ∧ o.dst = some d ∧ d < st.nt ∧ YldG P Γ o st x)
  (hk : opsP P Γ ops Q (j + 1) (st.set d x)) : opsP P Γ ops Q j st := by
 obtain ⟨o, h1, h2, h3, h4⟩ := h
 refine opsP_op h1.op h1.wanted (h4.opP (fun d' hd' => by rw [h2] at hd'; cases hd'; exact h3) ?_)
 rw [h2]; exact hk
def stq (ops : Array Oper) (j : Nat) (st : St) : St :=
 match ops[j]? with
 | some o => st.only (o.looksAt ops)
 | none => st
theorem yldG_of {ops : Array Oper} {j : Nat} {st : St} {d : Nat} {x : V} (h : ∃ o, AtOp ops st j o ∧ o.dst = some d ∧ d < st.nt ∧ Yld P Γ o st x) : ∃ o, AtOp ops st j o ∧ o.dst = some d ∧ d < st.nt ∧ YldG P Γ o st x := by
 obtain ⟨o, h1, h2, h3, h4⟩ := h
 exact ⟨o, h1, h2, h3, h4.g⟩
theorem opsP_idx (hT : TOK P τ) {ops : Array Oper} {Q : Exit → St → Prop} {j : Nat} {st : St} (d : Nat) {xs : List α} {i : Int} {x : α} (hx : getI xs i = some x) (h : idxV τ ops j st = some ⟨d, Enc.sz α, xs.length, eL xs, i⟩)
  (hk : opsP P Γ ops Q (j + 1) (st.set d (.fptr (Enc.cells x) 0))) : opsP P Γ ops Q j st := opsP_yld (yldG_of (idxV_sound hT h hx)) hk
def callV (τ : Tau) (ops : Array Oper) (j : Nat) (st : St) : Option (Nat × FuncId × List V) :=
 match opAt ops st j with
 | some o => match o.op, dstOf st o with
  | .call c, some d => match c.callee with
   | .value y => match evalV st y, evalArgs τ st c.args.toList c.argTypes.toList with
    | some (.fn g caps), some xs => some (d, g, xs.map soft ++ caps)
    | _, _ => none
   | _ => none
  | _, _ => none
 | none => none
structure CallAt (τ : Tau) (ops : Array Oper) (j : Nat) (st : St) (d : Nat) (g : FuncId) (zs : List V) (o : Oper) (c : Call) (y : Operand) (xs caps : List V) : Prop where
 at_ : AtOp ops st j o
 op : o.op = .call c
 callee : c.callee = .value y
 dst : o.dst = some d
 lt : d < st.nt
 fn : evalV st y = some (.fn g caps)
 args : evalArgs τ st c.args.toList c.argTypes.toList = some xs
 all : zs = xs.map soft ++ caps
theorem callV_spec {ops : Array Oper} {j : Nat} {st : St} {d : Nat} {g : FuncId} {zs : List V} (h : callV τ ops j st = some (d, g, zs)) : ∃ o c y xs caps, CallAt τ ops j st d g zs o c y xs caps := by
 unfold callV at h
 split at h
 ·rename_i o ho
  split at h
  ·rename_i c d' hop hd
   split at h
   ·rename_i y hc
    split at h
    ·rename_i g' caps as hy ha
     simp only [Option.some.injEq, Prod.mk.injEq] at h
     obtain ⟨rfl, rfl, rfl⟩ := h
     have hd' := dstOf_spec hd
     exact ⟨o, c, y, as, caps, opAt_spec ho, hop, hc, hd'.1, hd'.2, hy, ha, rfl⟩
    ·cases h
   ·cases h
  ·cases h
 ·cases h
theorem CallAt.run {ops : Array Oper} {j : Nat} {st : St} {d : Nat} {g : FuncId} {zs : List V} {o : Oper} {c : Call} {y : Operand} {xs caps : List V} (h : CallAt τ ops j st d g zs o c y xs caps) (hz : frzL zs = true) {out : V} (hok : OK P g zs out)
  {a : Act} {w : World} {M : Nat → Prop} {μ : Nat → Option Nat} {fp : Nat → List Nat} {G : Nat → Option Nat} (Ow' : Own Γ M st.H w μ fp G) (hS : Slots st a w M μ) (K : Act → World → Prop) (Qc : Exit → Act → World → Prop)
  (hK : ∀ v w' fpn, Grew w w' → Ow w' (fun b => M b ∨ b ∈ fpn) out v fpn → fpn.Nodup → (∀ b ∈ fpn, w.heap.size ≤ b ∧ b < w'.heap.size) → K (a.put o.dst v) w') : o.wp P a w K Qc := by
 obtain ⟨us, hu, hus⟩ := fn_value hS h.fn
 have ha := soft_slL (evalArgs_sound hS h.args)
 have hfr := (ha.append hus).fr (by rw [← h.all]; exact hz)
 rw [← h.all] at hfr
 refine wp_call h.op h.callee hu hok.1 (Calls.mono ?_ fun e w' he => he)
 have := hok.2 w _ M Ow'.lt hfr
 have e1 : c.args.map a.eval ++ us.toArray = (c.args.toList.map a.eval ++ us).toArray := by apply Array.toList_inj.1; simp
 rw [e1]
 refine Calls.mono this fun e w' he => ?_
 obtain ⟨v, fpn, rfl, hg, how, hn, hb⟩ := he
 exact ⟨v, rfl, hK v w' fpn hg how hn hb⟩
theorem callV_sound {ops : Array Oper} {j : Nat} {st : St} {d : Nat} {g : FuncId} {xs : List V} {out x : V} (h : callV τ ops j st = some (d, g, xs)) (hz : frzL xs = true) (hok : OK P g xs out) (hf : FzTo out x) :
  ∃ o, AtOp ops st j o ∧ o.dst = some d ∧ d < st.nt ∧ YldG P Γ o st x := by
 obtain ⟨o, c, y, as, caps, hc⟩ := callV_spec h
 refine ⟨o, hc.at_, hc.dst, hc.lt, fun a w M μ fp G O' hS K Qc hK => ?_⟩
 refine hc.run hz hok O' hS K Qc fun v w' fpn hg how hn hb => ?_
 have hMf : ∀ b ∈ fpn, ¬ M b := fun b hbf hM => by have := O'.lt b hM; have := (hb b hbf).1; omega
 exact hK v w' hg (hf w' M _ v fpn how (fun b h => .inl h) hMf).sl
theorem opsP_callF (τ : Tau) {ops : Array Oper} {Q : Exit → St → Prop} {j : Nat} {st : St} (d : Nat) {g : FuncId} {xs : List V} {out x : V} (hok : OK P g xs out) (hf : FzTo out x) (hz : frzL xs = true) (h : callV τ ops j st = some (d, g, xs))
  (hk : opsP P Γ ops Q (j + 1) (st.set d x)) : opsP P Γ ops Q j st := opsP_yld (callV_sound h hz hok hf) hk
theorem opsP_callO (τ : Tau) {ops : Array Oper} {Q : Exit → St → Prop} {j : Nat} {st : St} (d : Nat) {g : FuncId} {xs : List V} {out : V} (hok : OK P g xs out) (hz : frzL xs = true) (h : callV τ ops j st = some (d, g, xs))
  (hk : opsP P Γ ops Q (j + 1) ({ st with H := st.H ++ (thaw st.H.length out).2.map some }.set d (thaw st.H.length out).1)) : opsP P Γ ops Q j st := by
 obtain ⟨o, c, y, as, caps, hc⟩ := callV_spec h
 refine opsP_op hc.at_.op hc.at_.wanted fun a w r Qc => ?_
 obtain ⟨h1, h2, M, μ, fp, G, O', hS⟩ := r
 refine hc.run hz hok O' hS _ Qc fun v w' fpn hg how hn hb => ?_
 obtain ⟨μ', fp', G', O'', C, hsl⟩ := after_thaw O' hg how hn hb
 refine ⟨_, hk, ?_⟩
 have hst : ∀ st' : St, st'.put o.dst (thaw st.H.length out).1 = st'.set d (thaw st.H.length out).1 := fun st' => by rw [hc.dst]; rfl
 rw [← hst]
 exact R.step h1 h2 hS C O'' (fun d' hd' => by rw [hc.dst] at hd'; cases hd'; exact hc.lt) fun _ => hsl
theorem frz_app {xs ys : List V} (h : frzL xs = true) (k : frzL ys = true) : frzL (xs ++ ys) = true := by
 induction xs with
 | nil => exact k
 | cons x xs ih =>
  simp only [List.cons_append, frzL, Bool.and_eq_true] at h ⊢
  exact ⟨h.1, ih h.2⟩
def Djoin {σ : Type} (Γ : Ctx) (S : σ → St) (J : σ → Prop) (Q : Exit → St → Prop) : Exit → St → Prop
 | .normal, st => ∃ s, J s ∧ Imp Γ st (S s)
 | e, st => Q e st
theorem pwp_join {σ : Type} {c : Code} {Q : Exit → St → Prop} {st : St} (S : σ → St) (J : σ → Prop) (h1 : pwp P Γ c (Djoin Γ S J Q) st) (h2 : ∀ s, J s → Q .normal (S s)) : pwp P Γ c Q st := by
 intro a w r
 refine wp_mono (h1 a w r) fun e a' w' q => ?_
 obtain ⟨st', q, r'⟩ := q
 cases e with
 | normal =>
  obtain ⟨s, hj, hi⟩ := q
  exact ⟨S s, h2 s hj, hi a' w' r'⟩
 | _ => exact ⟨st', q, r'⟩
theorem Imp.to (ks : List Nat) {st st' : St} (h : st.keep ks = st') : Imp Γ st st' := h ▸ Imp.keep ks
theorem bindS {α β : Type} {x : Option α} {f : α → Option β} {y : β} (h : x.bind f = some y) : ∃ a, x = some a ∧ f a = some y := by
 cases x with
 | none => cases h
 | some a => exact ⟨a, rfl, h⟩
def w64 (n : Int) : Int := IntKind.i64.wrap n
def FUEL : Nat := 70368744177664
theorem info_of {t : TypeId} {i : TypeInfo} (h : P.types[t]? = some i) : P.info? t = some i := by
 have := (Array.getElem?_eq_some_iff.1 h).1
 unfold Tables.info?
 rw [if_pos this, h]
theorem tiok {t : TypeId} {i : TI} {ti : TypeInfo} {d : TypeDesc} {z : Value} (h : P.types[t]? = some ti) (hu : P.underlying t = some d) (e1 : ti.size = i.size) (e2 : ti.bytes = i.bytes)
  (e3 : ti.zero = some z) (hz : ∀ w M, FrL w M i.zero z.cells.toList) (hs : ∀ fs, i.k = .struct fs → ∃ c, z = .agg c) (hk : TKok i.k d)
  (he : i.eq = true → P.stoodInHeld t = false ∧ P.eqGuardType P.depth t = false ∧ ∀ f ∈ (P.fieldsOf t).toList, f.name ≠ "_") : TIok P t i :=
 ⟨ti, d, z, info_of h, hu, e1, e2, e3, hz, hs, hk, he⟩
def tabOf : List (Nat × TI) → Tau
 | [], _ => none
 | (k, i) :: r, t => bif Nat.beq k t then some i else tabOf r t
def AllOK (P : Program) : List (Nat × TI) → Prop
 | [] => True
 | p :: r => TIok P p.1 p.2 ∧ AllOK P r
theorem tabOf_ok : ∀ (l : List (Nat × TI)), AllOK P l → TOK P (tabOf l)
 | [], _, t, i, h => by simp [tabOf] at h
 | (k, j) :: r, ⟨h1, h2⟩, t, i, h => by
  simp only [tabOf] at h
  cases hb : Nat.beq k t with
  | true =>
   rw [hb, cond_true] at h
   cases h
   rw [← Nat.eq_of_beq_eq_true hb]
   exact h1
  | false => rw [hb, cond_false] at h; exact tabOf_ok r h2 t i h
theorem Fr.nil (w : World) (M : Nat → Prop) (s : Nat) (h : 0 < s) : Fr w M (.arr s 0 [] false) (.slice none 0 0) := by
 simp only [Fr]
 exact ⟨none, 0, rfl, ⟨h, by simp, by omega, by unfold maxI; omega, fun h => rfl⟩, .inl trivial⟩
theorem Fr.lit' (w : World) (M : Nat → Prop) (v : Value) : Fr w M (.lit v) v := by simp only [Fr]
theorem FrL.nil' (w : World) (M : Nat → Prop) : FrL w M [] [] := by simp only [FrL]
theorem FrL.cons' {w : World} {M : Nat → Prop} {x : V} {xs : List V} {v : Value} {vs : List Value} (h : Fr w M x v) (k : FrL w M xs vs) : FrL w M (x :: xs) (v :: vs) := by
 simp only [FrL]; exact ⟨v, vs, rfl, h, k⟩
theorem OutP.list {H : Hp} {k ver v : Nat} {xs : List α} (h : blkAt H k ver = some ⟨v, eL xs⟩) : OutP H (.ref k ver 0 (Enc.sz α) xs.length false) (O xs) [k] := by
 unfold OutP
 refine ⟨_, h, rfl, (eL_len xs).symm, ?_, rfl, rfl⟩
 have := eL_frz xs
 rw [List.all_eq_true] at this ⊢
 intro x hx
 have := this x hx
 cases x <;> simp_all [frozenV, ownC]
end
end Go.D
