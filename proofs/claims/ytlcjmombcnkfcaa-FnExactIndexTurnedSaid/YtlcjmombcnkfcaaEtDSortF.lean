import Derived.Test.YtlcjmombcnkfcaaEtDSortI
import Derived.Shelf.SlSortCmp.WholeK
import Derived.Shelf.SlSortCmp.NoneTotal
set_option linter.unusedVariables false
namespace Go.D
open Go.Sort Go.Shelf Go.Proofs Go.Lib
def valV : V → Value
 | .lit u => u
 | _ => .int .i64 0
def encV {α : Type} [Enc α] (x : α) : List Value := (Enc.cells x).map valV
def sortL {α : Type} [Inhabited α] (cf : α → α → Int) (zs : List α) : List α := (pdq (ltOf cf) zs.toArray 0 zs.length (Lib.bitLen zs.length) true true).toList
theorem lits_fr {w : World} {M : Nat → Prop} : ∀ {cs : List V} {us : List Value}, cs.all litV = true → (FrL w M cs us ↔ us = cs.map valV)
 | [], us, _ => by simp [FrL]
 | c :: cs, us, h => by
  rw [List.all_cons, Bool.and_eq_true] at h
  cases c with
  | lit u =>
   simp only [FrL, Fr, List.map_cons, valV]
   constructor
   ·rintro ⟨v, vs, rfl, rfl, h'⟩
    rw [(lits_fr h.2).1 h']
   ·rintro rfl
    exact ⟨_, _, rfl, rfl, (lits_fr h.2).2 rfl⟩
  | _ => cases h.1
section
variable {α : Type} [Enc α] [DFlat α]
omit [DFlat α] in
theorem encV_len (x : α) : (encV x).length = Enc.sz α := by
 unfold encV
 rw [List.length_map, Enc.len]
theorem encV_one (x : α) : ∀ v ∈ encV x, v.oneCell' = true := by
 intro v hv
 unfold encV at hv
 obtain ⟨c, hc, rfl⟩ := List.mem_map.1 hv
 have h1 := List.all_eq_true.1 (DFlat.lit x) c hc
 have h2 := List.all_eq_true.1 (eL_one [x]) c (by simpa [eL] using hc)
 cases c with
 | lit u => cases u <;> first | rfl | cases h2
 | _ => cases h1
omit [DFlat α] in
theorem eL_val [Inhabited α] : ∀ (xs : List α) (t : Nat), t < xs.length * Enc.sz α → ((eL xs).map valV)[t]? = some ((encV xs.toArray[t / Enc.sz α]!)[t % Enc.sz α]!)
 | [], t, h => by simp at h
 | x :: xs, t, h => by
  have hk : 0 < Enc.sz α := Enc.pos
  have hl : (encV x).length = Enc.sz α := by unfold encV; rw [List.length_map, Enc.len]
  have e : (eL (x :: xs)).map valV = encV x ++ (eL xs).map valV := by
   unfold encV
   rw [← List.map_append]
   rfl
  rw [e]
  by_cases ht : t < Enc.sz α
  ·rw [List.getElem?_append_left (by omega), Nat.div_eq_of_lt ht, Nat.mod_eq_of_lt ht, List.getElem?_eq_getElem (by omega)]
   have : (x :: xs).toArray[0]! = x := by simp
   rw [this, getElem!_pos (encV x) t (by omega)]
  ·have h' : t - Enc.sz α < xs.length * Enc.sz α := by
    rw [List.length_cons, Nat.add_mul, Nat.one_mul] at h
    omega
   rw [List.getElem?_append_right (by omega), hl, eL_val xs _ h']
   have e1 : t / Enc.sz α = (t - Enc.sz α) / Enc.sz α + 1 := Nat.div_eq_sub_div hk (by omega)
   have e2 : t % Enc.sz α = (t - Enc.sz α) % Enc.sz α := Nat.mod_eq_sub_mod (by omega)
   have e3 : ∀ j, (x :: xs).toArray[j + 1]! = xs.toArray[j]! := fun j => by simp
   rw [e1, e2, e3]
omit [DFlat α] in
theorem holdsK_of [Inhabited α] {w : World} {b : Nat} {c : Array Value} {e : TypeId} {zs : List α} (h : w.heap[b]? = some (.cells c e (0, 0))) (hl : Lies w b 0 ((eL zs).map valV)) : HoldsK encV (Enc.sz α) w b 0 zs.toArray := by
 intro j hj
 have hj' : j < zs.length * Enc.sz α := by simpa using hj
 have hlen : ((eL zs).map valV).length = zs.length * Enc.sz α := by rw [List.length_map, eL_len]
 refine ⟨?_, frozen_of_heap h _⟩
 rw [hl j (by rw [hlen]; exact hj'), eL_val zs j hj', get_flatK _ _ _ _ (by simpa using hj')]
 rfl
end
theorem put_rowG {β : Type} [Inhabited β] (enc : β → Value) {w : World} {b q : Nat} {c : Array Value} {e : TypeId} (h : w.heap[b]? = some (.cells c e (0, 0))) (d : Array β) (os : Array Obj) : Put w (grow (putRow enc (Sort.ahead w q) b 0 d) os) b c (putCells enc 0 d c) e := by
 have hb : b < w.heap.size := (Array.getElem?_eq_some_iff.1 h).1
 have hs : (putRow enc (Sort.ahead w q) b 0 d).heap.size = w.heap.size := by rw [Go.Sort.size_putRow]; rfl
 refine ⟨rfl, rfl, rfl, ?_, fun i hi hne => ?_, ?_, by simp [putCells], Nat.le_add_right _ _⟩
 ·rw [size_grow, hs]; omega
 ·rw [heap_grow_old _ _ (by rw [hs]; exact hi)]
  show (w.heap.modify b _)[i]? = _
  rw [Array.getElem?_modify, if_neg (fun e => hne e.symm)]
 ·rw [heap_grow_old _ _ (by rw [hs]; exact hb)]
  show (w.heap.modify b _)[b]? = _
  rw [Array.getElem?_modify, if_pos rfl, h]
  rfl
theorem put_cellsG {β : Type} [Inhabited β] (enc : β → Value) {c : Array Value} {d : Array β} (h : d.size ≤ c.size) {j : Nat} (hj : j < d.size) : (putCells enc 0 d c)[j]? = some (enc d[j]!) := by
 unfold putCells
 rw [Array.getElem?_mapIdx, Array.getElem?_eq_getElem (by omega)]
 simp only [Option.map_some, Nat.zero_le, true_and, Nat.zero_add, Nat.sub_zero]
 rw [if_pos hj]
theorem Kept.grown {w w' : World} (h : Kept (fun _ => False) w w') : ∃ q os, w' = grow (w.drewN q) os := by
 obtain ⟨hp, tp, dr, o, ou⟩ := w
 obtain ⟨hp', tp', dr', o', ou'⟩ := w'
 obtain ⟨h1, h2, h3, h4, h5, h6⟩ := h
 simp only at h1 h2 h3 h4 h5 h6
 subst h1 h2 h3
 refine ⟨dr' - dr, hp'.extract hp.size hp'.size, ?_⟩
 have e1 : hp' = hp ++ hp'.extract hp.size hp'.size := by
  apply Array.ext_getElem?
  intro i
  rw [Array.getElem?_append]
  split
  ·next hi => exact h5 i hi (fun h => h)
  ·next hi =>
   rw [Array.getElem?_extract]
   split
   ·next hi2 => rw [show hp.size + (i - hp.size) = i by omega]
   ·next hi2 => exact Array.getElem?_eq_none (by omega)
 have e2 : dr' = dr + (dr' - dr) := by omega
 show (⟨hp', tp', dr', o', ou'⟩ : World) = ⟨hp ++ hp'.extract hp.size hp'.size, tp', dr + (dr' - dr), o', ou'⟩
 rw [← e1, ← e2]
theorem Callable.enters {P : Program} {g : FuncId} (h : Callable P g) : ∀ args w, (callFunc g args).run P w = .ok (.enter g args) w := by
 obtain ⟨fn, h1, h2, h3⟩ := h
 intro args w
 simp only [Sem.run_bind, Result.andThen_ok, callFunc, run_program, h1]
 simp [h2, h3]
theorem okSortF {P : Program} {ρ : Ren} (L : SlLaysF0.n6 P ρ) {α : Type} [Inhabited α] [Enc α] [DFlat α] (hag : Enc.agg α = true) (aE : ∀ w, (isAgg (ρ.t 24)).run P w = .ok true w) (zE : ∀ w, (Go.sizeOf (ρ.t 24)).run P w = .ok (Enc.sz α) w)
  {f : FuncId} (hf : ρ.f 6 = f) (hc : Callable P f) {g : FuncId} {c1 : List V} (hz : frzL c1 = true) {F : α → α → Option Int} (hp : ∀ x0 x1 y, F x0 x1 = some y → OK P g ([E x0, E x1] ++ c1) (I y))
  {cf : α → α → Int} (hF : ∀ x y, F x y = some (cf x y)) (hO : SWO (ltOf cf)) {zs : List α} (hlen : zs.length < 4611686018427387904) : OKs P f [] (Enc.sz α) zs.length (eL zs) [.fn g c1] (.tup []) (eL (sortL cf zs)) := by
 subst hf
 refine ⟨hc, eL_frz _, eL_frz _, fun w vs1 vs2 v0 M m hM hr hl h1 h2 => ?_⟩
 simp only [FrL, Fr] at h1 h2
 subst h1
 obtain ⟨v, vs, rfl, ⟨cb, rfl, hcb⟩, rfl⟩ := h2
 have hps := pdq_sorts (ltOf cf) hO zs.toArray 0 zs.length (Lib.bitLen zs.length) true true (Nat.zero_le _) (by simp) (Or.inl rfl)
 have hsl : (sortL cf zs).length = zs.length := by
  unfold sortL
  rw [Array.length_toList, hps.1.1]
  simp
 have eg := (hp default default _ (hF _ _)).1.enters
 rcases hr with ⟨A, rfl, hn, _⟩ | ⟨b, cap, c, e, hm, rfl, _, hcap, hmax, _, hh, hfit⟩
 ·have hz0 : zs = [] := List.length_eq_zero_iff.1 hn
  subst hz0
  refine (AnyF.slices_SortFunc_none L A 0 _ w).mono fun ee w' he => ?_
  obtain ⟨rfl, rfl⟩ := he
  have es : sortL cf [] = [] := List.length_eq_zero_iff.1 (by rw [hsl]; rfl)
  rw [es]
  exact ⟨.tuple #[], [], rfl, Kept.refl _ _, fun b _ => .of_eq rfl, by simp only [Ow]; exact ⟨[], rfl, by simp only [OwL]; exact ⟨trivial, trivial⟩⟩, List.nodup_nil, (fun x hx => by cases hx), hl.nil⟩
 ·subst hm
  obtain ⟨hMb, c0, e0, us, hh0, hfr, hlie⟩ := hl
  rw [hh] at hh0
  cases hh0
  have hlit : ∀ xs : List α, (eL xs).all litV = true := eL_lit DFlat.lit
  have hus := (lits_fr (hlit zs)).1 hfr
  subst hus
  have hb : b < w.heap.size := (Array.getElem?_eq_some_iff.1 hh).1
  have hfit' : zs.length * Enc.sz α ≤ c.size := by
   rw [Nat.zero_add] at hfit
   exact Nat.le_trans (Nat.mul_le_mul_right _ hcap) hfit
  have hcmp : CmpLays P g cb.toArray encV (Enc.sz α) cf b 0 zs.toArray.size w := by
   intro m os dk hdk x y
   have hputW : Put w (sortWorldK encV (Enc.sz α) w b 0 m dk os) b c _ e := put_rowG (q := m) id hh (flatK encV (Enc.sz α) dk) os
   have hkW : Kept (fun i => i = b) w (sortWorldK encV (Enc.sz α) w b 0 m dk os) := ⟨hputW.os, hputW.tape, hputW.output, hputW.size, fun i hi hx => hputW.other i hi hx, hputW.drawn⟩
   have hcbW : FrL (sortWorldK encV (Enc.sz α) w b 0 m dk os) M c1 cb := hcb.same (hkW.same fun i hi => by rw [hi]; exact hMb) (fun _ h => .inl h)
   have hE : ∀ z : α, Fr (sortWorldK encV (Enc.sz α) w b 0 m dk os) M (E z) (.agg (encV z).toArray) := fun z => by
    unfold E
    rw [hag, cond_true]
    simp only [Fr]
    exact ⟨_, rfl, (lits_fr (DFlat.lit z)).2 rfl⟩
   have hin : FrL (sortWorldK encV (Enc.sz α) w b 0 m dk os) M ([E x, E y] ++ c1) (.agg (encV x).toArray :: .agg (encV y).toArray :: cb) := by
    simp only [List.cons_append, List.nil_append, FrL]
    exact ⟨_, _, rfl, hE x, _, _, rfl, hE y, hcbW⟩
   have := (hp x y _ (hF x y)).2 _ _ M (fun i hi => Nat.lt_of_lt_of_le (hM i hi) hputW.size) hin
   have ea : (#[.agg (encV x).toArray, .agg (encV y).toArray] ++ cb.toArray : Array Value) = (.agg (encV x).toArray :: .agg (encV y).toArray :: cb : List Value).toArray := by simp
   rw [ea]
   refine this.mono fun ee w' he => ?_
   obtain ⟨v, fp, rfl, hg, how, _⟩ := he
   simp only [Ow] at how
   refine ⟨by rw [how.2], hg.grown⟩
  have hsz : zs.toArray.size = zs.length := by simp
  have hcall := AnyQ.slices_SortFunc_eq L (Enc.sz α) aE zE encV encV_len encV_one cf hO g cb.toArray b 0 cap zs.toArray w eg hcmp (holdsK_of hh hlie) hb (by rw [hsz]; exact hlen)
  rw [hsz] at hcall
  refine hcall.mono fun ee w' he => ?_
  obtain ⟨rfl, n, os, rfl⟩ := he
  have harr : pdq (ltOf cf) zs.toArray 0 zs.length (Lib.bitLen zs.length) true true = (sortL cf zs).toArray := by
   unfold sortL
   rw [Array.toArray_toList]
  rw [harr]
  have hp' : Put w (sortWorldK encV (Enc.sz α) w b 0 n (sortL cf zs).toArray os) b c _ e := put_rowG (q := n) id hh (flatK encV (Enc.sz α) (sortL cf zs).toArray) os
  refine ⟨.tuple #[], [], rfl, ⟨hp'.os, hp'.tape, hp'.output, hp'.size, fun i hi hx => hp'.other i hi fun e => hx (by rw [e]), hp'.drawn⟩, fun b' hb' => ?_, by simp only [Ow]; exact ⟨[], rfl, by simp only [OwL]; exact ⟨trivial, trivial⟩⟩, List.nodup_nil, (fun x hx => by cases hx), ?_⟩
  ·cases hb'
   intro c1 e1 h1
   rw [hh] at h1
   cases h1
   exact ⟨_, _, hp'.block, hp'.same⟩
  ·have hlen2 : ((eL (sortL cf zs)).map valV).length = zs.length * Enc.sz α := by rw [List.length_map, eL_len, hsl]
   refine LentR.nil ⟨hMb, _, _, (eL (sortL cf zs)).map valV, hp'.block, (lits_fr (hlit _)).2 rfl, Lies.of_heap hp'.block fun j hj => ?_⟩
   rw [hlen2] at hj
   have hj2 : j < (sortL cf zs).toArray.size * Enc.sz α := by simpa [hsl] using hj
   rw [put_cellsG id (by simpa [hsl] using hfit') (by simpa using hj2), eL_val _ j (by rw [hsl]; exact hj), get_flatK _ _ _ _ hj2]
   rfl
end Go.D
