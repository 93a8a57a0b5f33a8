import Derived.Test.YtamegkbinbplaaatlbDEv4
set_option linter.unusedVariables false
namespace Go.D
section
variable {P : Program} {Γ : Ctx} {τ : Tau}
def sliceOf (τ : Tau) (t : Nat) : Option (Nat × TI) :=
 match τ t with
 | some i => match i.k with
  | .slice e => (τ e).map fun j => (e, j)
  | _ => none
 | none => none
theorem sliceOf_spec (hT : TOK P τ) {t e : Nat} {j : TI} (h : sliceOf τ t = some (e, j)) : P.underlying t = some (.slice e) ∧ TIok P e j := by
 unfold sliceOf at h
 split at h
 ·rename_i i hi
  split at h
  ·rename_i e' hk
   cases hj : τ e' with
   | none => rw [hj] at h; cases h
   | some j' =>
    rw [hj, Option.map_some, Option.some.injEq, Prod.mk.injEq] at h
    obtain ⟨rfl, rfl⟩ := h
    obtain ⟨inf, d, z, h1, h2, h3, h4, h5, h6, h7, h8, h9⟩ := hT t i hi
    rw [hk] at h8
    simp only [TKok] at h8
    subst h8
    exact ⟨h2, hT _ _ hj⟩
  ·cases h
 ·cases h
theorem Lies.sub {w : World} {b o : Nat} {us : List Value} (h : Lies w b o us) (d n : Nat) : Lies w b (o + d) ((us.drop d).take n) := by
 intro j hj
 simp only [List.length_take, List.length_drop] at hj
 rw [List.getElem?_take, if_pos (by omega), List.getElem?_drop, Nat.add_assoc]
 exact h (d + j) (by omega)
theorem run_indexAt {t e : TypeId} {j : TI} (hu : P.underlying t = some (.slice e)) (hj : TIok P e j) (w : World) (a : Addr) (n cap : Nat) (k : IntKind) (i : Int) (h0 : 0 ≤ i) (h1 : i < n) :
  (Instr.indexAt t (.slice (some a) n cap) (.int k i)).run P w = .ok (.pointer (some (a.add (i.toNat * j.size)))) w := by
 have he : P.elem t = e := by simp [Program.elem, hu]
 rw [run_indexAt_slice (P := P) w t a n cap k i (by rw [he]; exact hu), if_pos ⟨h0, h1⟩, he, run_sizeOf' hj w]
 rfl
theorem yld_index (hT : TOK P τ) {st : St} {o : Oper} {t e : Nat} {x ix : Operand} {ti : TI} {s n : Nat} {cs r : List V} {full : Bool} {k : IntKind} {i : Int}
  (ho : o.op = .indexAddr t x ix) (ht : sliceOf τ t = some (e, ti)) (hx : evalV st x = some (.arr s n cs full)) (hs : ti.size = s) (hi : evalV st ix = some (.lit (.int k i)))
  (h0 : 0 ≤ i) (h1 : i < n) (hr : (cs.drop (i.toNat * s)).take s = r) : Yld P Γ o st (.fptr r 0) := by
 intro a w M μ fp G O hS
 obtain ⟨hu, hj⟩ := sliceOf_spec hT ht
 have hv := evalV_sound hS hx
 have hiv := evalV_sound hS hi
 simp only [Sl] at hiv
 simp only [Sl, Fr] at hv
 obtain ⟨A, cap, hv, hd, hc⟩ := hv
 rcases hc with rfl | ⟨b, o', us, rfl, hb, hM, hl, hlie⟩
 ·have := hd.2.1
  have hs0 := hd.1
  simp only [List.length_nil, Nat.mul_eq_zero] at this
  omega
 ·refine ⟨.pointer (some ⟨b, o' + i.toNat * s, none⟩), w, ?_, Kept.refl _ w, ?_⟩
  ·simp only [execOp, ho, hv, hiv]
   rw [Sem.run_bind, run_indexAt hu hj w _ n cap k i h0 h1, hs, Addr.add_mid]
   rfl
  ·simp only [Sl, Fr]
   refine ⟨b, o' + i.toNat * s, (us.drop (i.toNat * s)).take s, rfl, hb, hM, ?_, hlie.sub _ _⟩
   rw [← hr]
   exact (hl.drop _).take _
theorem yld_index_ref (hT : TOK P τ) {st : St} {o : Oper} {t e : Nat} {x ix : Operand} {ti : TI} {kk ver off s n : Nat} {full : Bool} {k : IntKind} {i : Int} {blk : Blk}
  (ho : o.op = .indexAddr t x ix) (ht : sliceOf τ t = some (e, ti)) (hx : evalV st x = some (.ref kk ver off s n full)) (hb : blkAt st.H kk ver = some blk) (hs : ti.size = s)
  (hi : evalV st ix = some (.lit (.int k i))) (h0 : 0 ≤ i) (h1 : i < n) : Yld P Γ o st (.ptr kk ver (off + i.toNat * s)) := by
 intro a w M μ fp G O hS
 obtain ⟨hu, hj⟩ := sliceOf_spec hT ht
 have hv := evalV_sound hS hx
 have hiv := evalV_sound hS hi
 simp only [Sl] at hiv hv
 obtain ⟨b1, b2⟩ := blkAt_spec hb
 have h4 := (hv.2.2 blk b1).2 b2
 rcases h4 with ⟨A, _, h5, _⟩ | ⟨b, cap, c, e', hm, h4, h5, h6, h7, h8, h9, h10⟩
 ·omega
 ·refine ⟨.pointer (some ⟨b, off + i.toNat * s, none⟩), w, ?_, Kept.refl _ w, ?_⟩
  ·simp only [execOp, ho, h4, hiv]
   rw [Sem.run_bind, run_indexAt hu hj w _ n cap k i h0 h1, hs, Addr.add_mid]
   rfl
  ·simp only [Sl]
   exact ⟨hv.1, ⟨_, rfl⟩, fun blk' hb' => ⟨(hv.2.2 blk' hb').1, fun _ => ⟨b, hm, rfl⟩⟩⟩
theorem opP_of_yld {o : Oper} {K : St → Prop} {st : St} {x : V} (h : Yld P Γ o st x) {d : Nat} (hd : o.dst = some d) (hlt : Nat.blt d st.nt = true) (hk : K (st.set d x)) : opP P Γ o K st :=
 opP_yld h (fun d' hd' => by rw [hd] at hd'; cases hd'; exact Nat.le_of_ble_eq_true hlt) (by rw [hd]; exact hk)
theorem alloc_grew (w : World) (o : Obj) : Grew w (w.alloc o) :=
 ⟨rfl, rfl, rfl, by simp, fun i hi _ => by
  show (w.heap.push o)[i]? = _
  rw [Array.getElem?_push, if_neg (by omega)], Nat.le_refl _⟩
theorem Lies.alloc (w : World) (c : Array Value) (t : TypeId) : Lies (w.alloc (.cells c t)) w.heap.size 0 c.toList := by
 intro j hj
 rw [Nat.zero_add, World.cell?_alloc_new]
 simp
def frozenV : V → Bool
 | .lit _ => true
 | .arr .. => true
 | .fptr .. => true
 | _ => false
theorem SlL.frL {w : World} {M : Nat → Prop} {H : Hp} {μ : Nat → Option Nat} : ∀ {xs : List V} {us : List Value}, SlL w M H μ xs us → xs.all frozenV = true → FrL w M xs us
 | [], us, h, _ => by simp only [SlL] at h; simp only [FrL]; exact h
 | c :: cs, us, h, ha => by
  simp only [SlL] at h
  obtain ⟨u, us', rfl, h1, h2⟩ := h
  simp only [List.all_cons, Bool.and_eq_true] at ha
  simp only [FrL]
  refine ⟨u, us', rfl, ?_, SlL.frL h2 ha.2⟩
  cases c with
  | lit v => simp only [Fr]; simpa only [Sl] using h1
  | arr s n cs full => simpa only [Sl] using h1
  | fptr cs off => simpa only [Sl] using h1
  | _ => exact absurd ha.1 (by simp [frozenV])
theorem yld_box {st : St} {o : Oper} {t : Nat} {x : Operand} {v : V} {cs : List V}
  (ho : o.op = .box t x) (hx : evalV st x = some v) (hc : valCells v = some cs) (hf : cs.all frozenV = true) : Yld P Γ o st (.fptr cs 0) := by
 intro a w M μ fp G O hS
 have hv := evalV_sound hS hx
 obtain ⟨us, hus, hsl⟩ := valCells_sound hc hv
 have hg := alloc_grew w (.cells (a.eval x).cells t)
 refine ⟨.pointer (some ⟨w.heap.size, 0, none⟩), w.alloc (.cells (a.eval x).cells t), ?_, hg, ?_⟩
 ·simp only [execOp, ho, Instr.box, newVar, newRow, newObj, Sem.run_bind, Sem.run, Result.andThen_ok, Sem.run_pure, World.alloc_eq]
 ·simp only [Sl, Fr]
  have hnew : ¬ M w.heap.size := fun h => by have := O.lt _ h; omega
  refine ⟨w.heap.size, 0, us, by simp, by simp, hnew, ?_, ?_⟩
  ·exact (hsl.frL hf).same (hg.same fun _ h => h.elim) (fun _ h => .inl h)
  ·have := Lies.alloc w (a.eval x).cells t
   rw [hus] at this
   rw [hus]
   simpa using this
def hasN : List Nat → Nat → Bool
 | [], _ => false
 | x :: r, n => Nat.beq x n || hasN r n
def zerosV (zero : List V) (n : Nat) : List V := (List.range n).map fun j => (nthV zero (j % zero.length)).getD .any
def evMore (τ : Tau) (mu : List Nat) (st : St) (o : Oper) : Option V :=
 match o.op with
 | .box _ x =>
  match o.dst, evalV st x with
  | some d, some v => bif hasN mu d then none else
   match valCells v with
   | some cs => bif cs.all frozenV then some (.fptr cs 0) else none
   | none => none
  | _, _ => none
 | .buildSlice t len parts =>
  match o.dst, sliceOf τ t, evalParts st parts.toList with
  | some d, some (e, i), some vs =>
   bif hasN mu d || !(Nat.ble (len * i.size) 16777216) || !(Nat.ble len 16777216) || !(Nat.blt 0 i.size) || !(Nat.beq i.zero.length i.size) then none else
   match fillV (fun j => some (j * i.size, i.size)) (zerosV i.zero (len * i.size)) (softParts τ (fun _ => e) vs) with
   | some cells => bif Nat.beq cells.length (len * i.size) && cells.all frozenV then some (.arr i.size len cells true) else none
   | none => none
  | _, _, _ => none
 | .convert src dst x =>
  match τ src, τ dst, evalV st x with
  | some _, some j, some (.lit (.int _ n)) => match j.k with
   | .int k => some (.lit (.int k (k.wrap n)))
   | _ => none
  | _, _, _ => none
 | _ => none
def evOpF (τ : Tau) (mu : List Nat) (st : St) (o : Oper) : Option V :=
 match evOp τ st o with
 | some x => some x
 | none => evMore τ mu st o
theorem SlL.of_map {α : Type} {w : World} {M : Nat → Prop} {H : Hp} {μ : Nat → Option Nat} (f : α → V) (g : α → Value) : ∀ (l : List α), (∀ a ∈ l, Sl w M H μ (f a) (g a)) → SlL w M H μ (l.map f) (l.map g)
 | [], _ => by simp [SlL]
 | a :: l, h => by
  simp only [List.map_cons, SlL]
  exact ⟨_, _, rfl, h a (by simp), SlL.of_map f g l fun b hb => h b (by simp [hb])⟩
theorem evOpF_sound (hT : TOK P τ) {mu : List Nat} {st : St} {o : Oper} {x : V} (h : evOpF τ mu st o = some x) : Yld P Γ o st x := by
 unfold evOpF at h
 split at h
 ·rename_i y hy
  cases h
  exact evOp_sound hT hy
 ·unfold evMore at h
  split at h
  ·rename_i t y ho
   split at h
   ·rename_i d v hd hv
    cases hm : hasN mu d with
    | true => rw [hm] at h; cases h
    | false =>
     rw [hm, cond_false] at h
     split at h
     ·rename_i cs hc
      cases hf : cs.all frozenV with
      | false => rw [hf] at h; cases h
      | true =>
       rw [hf, cond_true, Option.some.injEq] at h
       subst h
       exact yld_box ho hv hc hf
     ·cases h
   ·cases h
  ·rename_i t len parts ho
   split at h
   ·rename_i d e i vs hd hsl hvs
    cases hm : (hasN mu d || !(Nat.ble (len * i.size) 16777216) || !(Nat.ble len 16777216) || !(Nat.blt 0 i.size) || !(Nat.beq i.zero.length i.size)) with
    | true => rw [hm] at h; cases h
    | false =>
     rw [hm, cond_false] at h
     simp only [Bool.or_eq_false_iff, Bool.not_eq_false'] at hm
     obtain ⟨⟨⟨⟨_, hm1⟩, hm2⟩, hm3⟩, hm4⟩ := hm
     have hm1 := Nat.le_of_ble_eq_true hm1
     have hm2 := Nat.le_of_ble_eq_true hm2
     have hm3 : 0 < i.size := Nat.le_of_ble_eq_true hm3
     have hm4 := Nat.eq_of_beq_eq_true hm4
     split at h
     ·rename_i cells hf
      cases hc : (Nat.beq cells.length (len * i.size) && cells.all frozenV) with
      | false => rw [hc] at h; cases h
      | true =>
       rw [hc, cond_true, Option.some.injEq] at h
       subst h
       simp only [Bool.and_eq_true] at hc
       have hcl := Nat.eq_of_beq_eq_true hc.1
       intro a w M μ fp G O hS
       obtain ⟨hu, inf, dd, z, h1, h2, h3, h4, h5, h6, h7, h8, h9⟩ := sliceOf_spec hT hsl
       have hzl := (h6 w M).length
       simp only [Array.length_toList] at hzl
       have hz : SlL w M st.H μ (zerosV i.zero (len * i.size)) ((List.range (len * i.size)).map fun j => z.cells[j % z.cells.size]!) := by
        refine SlL.of_map _ _ _ fun j hj => ?_
        have hlt : j % i.zero.length < i.zero.length := Nat.mod_lt _ (by omega)
        rw [nthV_eq, List.getElem?_eq_getElem hlt]
        obtain ⟨u, hu1, hu2⟩ := (h6 w M).get (List.getElem?_eq_getElem hlt)
        rw [hzl]
        have : z.cells[j % i.zero.length]! = u := by
         rw [Array.getElem?_toList] at hu1
         rw [getElem!_def, hu1]
        rw [this]
        exact hu2.sl
       have hev := evalParts_sound hS hvs
       obtain ⟨rs, hr, hrs⟩ := fillV_sound (place' := fun j => some (j * i.size, i.size)) (fun _ _ _ hh => hh) _ _ _ _ _ hf hz (softParts_fst.trans hev.1) (softParts_sl hev.2)
       have hpl : ((parts.map fun (i, x) => (i, a.eval x)).toList) = parts.toList.map fun (i, x) => (i, a.eval x) := by simp
       have harr : ((List.range (len * i.size)).map fun j => z.cells[j % z.cells.size]!).toArray = (Array.range (len * i.size)).map (z.cells[· % z.cells.size]!) := by
        apply Array.toList_inj.1; simp
       rw [harr] at hr
       have hzv : (zeroValue e).run P w = .ok z w := by simp [zeroValue, typeInfo, h1, h5]
       have hsz : (sizeOf e).run P w = .ok i.size w := by simp [sizeOf, typeInfo, h1, h3]
       have hg := alloc_grew w (.cells rs.toArray e)
       have h24 : ¬ (len * i.size > 2 ^ 24) := by omega
       refine ⟨.slice (some ⟨w.heap.size, 0, none⟩) len len, w.alloc (.cells rs.toArray e), ?_, hg, ?_⟩
       ·simp only [execOp, ho, Instr.buildSlice, Sem.run_bind, run_underlying hu, Result.andThen_ok, hsz, h24, if_false, Sem.run_pure]
        by_cases h0 : len * i.size = 0
        ·have e0 : Array.range (len * i.size) = #[] := by rw [h0]; rfl
         rw [e0, Array.map_empty] at hr
         rw [if_pos h0]
         simp only [Sem.run_pure, Result.andThen_ok, hpl, e0, Array.map_empty, hr]
         simp only [newRow, newObj, Sem.run_bind, Sem.run, Result.andThen_ok, Sem.run_pure, World.alloc_eq]
        ·simp only [h0, if_false, Sem.run_bind, hzv, Result.andThen_ok, Sem.run_pure, hpl, hr]
         simp only [newRow, newObj, Sem.run_bind, Sem.run, Result.andThen_ok, Sem.run_pure, World.alloc_eq]
       ·simp only [Sl, Fr]
        refine ⟨_, len, rfl, ⟨hm3, hcl.symm, Nat.le_refl _, by unfold maxI; omega, fun _ => rfl⟩, .inr ⟨w.heap.size, 0, rs, rfl, by simp, fun hMm => by have := O.lt _ hMm; omega, ?_, ?_⟩⟩
        ·exact (hrs.frL hc.2).same (hg.same fun _ h => h.elim) (fun _ h => .inl h)
        ·have := Lies.alloc w rs.toArray e
         simpa using this
     ·cases h
   ·cases h
  ·rename_i src dst y ho
   split at h
   ·rename_i i j k n hi hj hv
    split at h
    ·rename_i k' hk
     cases h
     intro a w M μ fp G O hS
     obtain ⟨inf, dd, z, h1, h2, h3, h4, h5, h6, h7, h8, h9⟩ := hT dst j hj
     rw [hk] at h8
     simp only [TKok] at h8
     subst h8
     obtain ⟨inf', dd', z', g1, g2, _⟩ := hT src i hi
     have hv' := evalV_sound hS hv
     simp only [Sl] at hv'
     refine ⟨.int k' (k'.wrap n), w, ?_, Kept.refl _ w, by simp only [Sl]⟩
     simp only [execOp, ho, hv', convert, Sem.run_bind, run_underlying g2, run_underlying h2, Result.andThen_ok, Conv.intToInt, Sem.run_pure]
    ·cases h
   ·cases h
  ·cases h
end
end Go.D
