import Derived.Test.YtmcciakfjapjeaaExDFz
import Derived.Shelf.Sort.Plain
import Derived.Shelf.Slices.CompactI
import Derived.Shelf.Slices.In.SortNone
set_option linter.unusedVariables false
namespace Go.D
open Go.Sort Go.Shelf Go.Proofs
theorem ints_cells {w : World} {M : Nat → Prop} : ∀ {zs : List Int} {us : List Value}, FrL w M (eL zs) us ↔ us = zs.map (Value.int .i64)
 | [], us => by simp [eL, FrL]
 | z :: zs, us => by
  have e : eL (z :: zs) = I z :: eL zs := rfl
  rw [e]
  simp only [FrL, Fr, List.map_cons]
  constructor
  ·rintro ⟨u, us', rfl, rfl, h⟩
   rw [ints_cells.1 h]
  ·rintro rfl
   exact ⟨_, _, rfl, rfl, ints_cells.2 rfl⟩
theorem ints_own {w : World} {M : Nat → Prop} : ∀ {zs : List Int} {us : List Value} {fp : List Nat}, OwL w M (eL zs) us fp ↔ us = zs.map (Value.int .i64) ∧ fp = []
 | [], us, fp => by simp [eL, OwL]
 | z :: zs, us, fp => by
  have e : eL (z :: zs) = I z :: eL zs := rfl
  rw [e]
  simp only [OwL, Ow, List.map_cons]
  constructor
  ·rintro ⟨u, us', f, f', rfl, rfl, ⟨rfl, rfl⟩, h⟩
   obtain ⟨rfl, rfl⟩ := ints_own.1 h
   exact ⟨rfl, rfl⟩
  ·rintro ⟨rfl, rfl⟩
   exact ⟨_, _, [], [], rfl, rfl, ⟨rfl, rfl⟩, ints_own.2 ⟨rfl, rfl⟩⟩
theorem ints_hold {w : World} {b : Nat} {c : Array Value} {e : TypeId} {zs : List Int} (h : w.heap[b]? = some (.cells c e (0, 0))) (hl : Lies w b 0 (zs.map (Value.int .i64))) : Go.Sort.Holds (Value.int .i64) w b 0 zs.toArray := by
 intro j hj
 have hj' : j < zs.length := by simpa using hj
 refine ⟨?_, frozen_of_heap h _⟩
 rw [hl j (by simpa using hj'), List.getElem?_map, List.getElem?_eq_getElem hj', getElem!_pos _ j hj]
 rfl
structure Put (w w' : World) (b : Nat) (c c' : Array Value) (e : TypeId) : Prop where
 os : w'.os = w.os
 tape : w'.tape = w.tape
 output : w'.output = w.output
 size : w.heap.size ≤ w'.heap.size
 other : ∀ i, i < w.heap.size → i ≠ b → w'.heap[i]? = w.heap[i]?
 block : w'.heap[b]? = some (.cells c' e (0, 0))
 same : c'.size = c.size
theorem put_row {w : World} {b q : Nat} {c : Array Value} {e : TypeId} (h : w.heap[b]? = some (.cells c e (0, 0))) (d : Array Int) (os : Array Obj) : Put w (grow (putRow (Value.int .i64) (Sort.ahead w q) b 0 d) os) b c (putCells (Value.int .i64) 0 d c) e := by
 have hb : b < w.heap.size := (Array.getElem?_eq_some_iff.1 h).1
 have hs : (putRow (Value.int .i64) (Sort.ahead w q) b 0 d).heap.size = w.heap.size := by rw [size_putRow]; rfl
 refine ⟨rfl, rfl, rfl, ?_, fun i hi hne => ?_, ?_, by simp [putCells]⟩
 ·rw [size_grow, hs]; omega
 ·rw [heap_grow_old _ _ (by rw [hs]; exact hi)]
  show (w.heap.modify b _)[i]? = _
  rw [Array.getElem?_modify, if_neg (fun e => hne e.symm)]
 ·rw [heap_grow_old _ _ (by rw [hs]; exact hb)]
  show (w.heap.modify b _)[b]? = _
  rw [Array.getElem?_modify, if_pos rfl, h]
  rfl
theorem put_cells {c : Array Value} {d : List Int} (h : d.length ≤ c.size) {j : Nat} (hj : j < d.length) : (putCells (Value.int .i64) 0 d.toArray c)[j]? = some (.int .i64 d[j]) := by
 unfold putCells
 rw [Array.getElem?_mapIdx, Array.getElem?_eq_getElem (by omega)]
 simp only [Option.map_some, Nat.zero_le, true_and, Nat.zero_add, Nat.sub_zero]
 rw [if_pos (by simpa using hj), getElem!_pos _ j (by simpa using hj)]
 rfl
theorem okSortI {P : Program} {ρ : Ren} (L : Lays.n189 P ρ) {f : FuncId} (hf : ρ.f 189 = f) (hc : Callable P f) {zs : List Int} (hlen : zs.length < 4611686018427387904) :
  OKs P f [] 1 zs.length (eL zs) [] (.tup []) (eL (zs.mergeSort fun x y => decide (x ≤ y))) := by
 subst hf
 refine ⟨hc, eL_frz _, eL_frz _, fun w vs1 vs2 v0 M m hM hr hl h1 h2 => ?_⟩
 simp only [FrL] at h1 h2
 subst h1
 subst h2
 have hsl : (zs.mergeSort fun x y => decide (x ≤ y)).length = zs.length := List.length_mergeSort _
 rcases hr with ⟨A, rfl, hn, _⟩ | ⟨b, cap, c, e, hm, rfl, _, hcap, hmax, _, hh, hfit⟩
 ·have hz : zs = [] := List.length_eq_zero_iff.1 hn
  subst hz
  refine (Any.slices_Sort_int_none L A 0 w).mono fun ee w' he => ?_
  obtain ⟨rfl, rfl⟩ := he
  exact ⟨.tuple #[], [], rfl, Kept.refl _ _, fun b _ => .of_eq rfl, by simp only [Ow]; exact ⟨[], rfl, by simp only [OwL]; exact ⟨trivial, trivial⟩⟩, List.nodup_nil, (fun x hx => by cases hx), by simpa using hl⟩
 ·subst hm
  obtain ⟨hMb, c0, e0, us, hh0, hfr, hlie⟩ := hl
  rw [hh] at hh0
  cases hh0
  have hus := ints_cells.1 hfr
  subst hus
  have hb : b < w.heap.size := (Array.getElem?_eq_some_iff.1 hh).1
  refine (Any.slices_Sort_int L b 0 cap zs w (ints_hold hh hlie) hb hlen).mono fun ee w' he => ?_
  obtain ⟨rfl, n, os, rfl⟩ := he
  have hp := put_row (q := n) hh (zs.mergeSort fun x y => decide (x ≤ y)).toArray os
  have hfit' : zs.length ≤ c.size := by simp only [Nat.zero_add, Nat.mul_one] at hfit; omega
  refine ⟨.tuple #[], [], rfl, ⟨hp.os, hp.tape, hp.output, hp.size, fun i hi hx => hp.other i hi fun e => hx (by rw [e])⟩, fun b' hb' => ?_, by simp only [Ow]; exact ⟨[], rfl, by simp only [OwL]; exact ⟨trivial, trivial⟩⟩, List.nodup_nil, (fun x hx => by cases hx), ?_⟩
  ·cases hb'
   intro c1 e1 h1
   rw [hh] at h1
   cases h1
   exact ⟨_, _, hp.block, hp.same⟩
  ·refine ⟨hMb, _, _, _, hp.block, ints_cells.2 rfl, Lies.of_heap hp.block fun j hj => ?_⟩
   have hj' : j < (zs.mergeSort fun x y => decide (x ≤ y)).length := by simpa using hj
   rw [put_cells (by rw [hsl]; exact hfit') hj', List.getElem?_map, List.getElem?_eq_getElem hj']
   rfl
theorem okCompactI {P : Program} {ρ : Ren} (L : Lays2.n20 P ρ) {f : FuncId} (hf : ρ.f 20 = f) (hc : Callable P f) {zs : List Int} : OKm P f [O zs] (O (Lib.compact zs)) := by
 subst hf
 refine ⟨hc, fun w vs M fpi hM hv hnd hfi => ?_⟩
 simp only [OwL, Ow] at hv
 obtain ⟨u, us', f1, f2, rfl, rfl, ⟨A, cap, rfl, hd, hcase⟩, rfl, rfl⟩ := hv
 have hcl : (Lib.compact zs).length ≤ zs.length := by
  unfold Lib.compact Lib.compactUpTo
  rw [List.length_map]
  refine Nat.le_trans (List.length_filter_le _ _) ?_
  simp
 rcases hcase with ⟨h0, rfl⟩ | ⟨b, c, e, us, fp', rfl, rfl, hh, hfit, how, hlie⟩
 ·have hz : zs = [] := by
   cases zs with
   | nil => rfl
   | cons z zs => cases h0
  subst hz
  refine (Any.slices_Compact_int_empty L A 0 w).mono fun ee w' he => ?_
  obtain ⟨rfl, rfl⟩ := he
  refine ⟨_, f1 ++ [], rfl, Kept.refl _ _, ?_, hnd, fun x hx => ⟨.inl hx, hM x (hfi x hx)⟩⟩
  simp only [Ow]
  exact ⟨A, 0, rfl, ⟨by decide, rfl, Nat.le_refl _, Nat.zero_le _, fun h => by cases h⟩, .inl ⟨rfl, rfl⟩⟩
 ·obtain ⟨rfl, rfl⟩ := ints_own.1 how
  have hle : zs.length ≤ cap := hd.2.2.1
  have hmax : cap ≤ 9223372036854775807 := hd.2.2.2.1
  have hfit' : cap ≤ c.size := by
   have : cap * 1 ≤ c.size := hfit
   omega
  refine (Any.slices_Compact_int L b 0 cap zs w (ints_hold hh hlie) (by omega) hle).mono fun ee w' he => ?_
  obtain ⟨rfl, q, rfl⟩ := he
  have hp := put_row (q := q) hh (Lib.compact zs ++ List.replicate (zs.length - (Lib.compact zs).length) 0).toArray #[]
  rw [grow_empty] at hp
  refine ⟨_, [b], rfl, ⟨hp.os, hp.tape, hp.output, hp.size, fun i hi hx => hp.other i hi fun e => hx (by simp [e])⟩, ?_, by simp, fun x hx => ?_⟩
  ·simp only [Ow]
   refine ⟨_, cap, rfl, ⟨by decide, by rw [eL_len], by omega, hmax, fun h => by cases h⟩, .inr ⟨b, _, _, _, [], rfl, rfl, hp.block, by rw [hp.same]; exact hfit, ints_own.2 ⟨rfl, rfl⟩, Lies.of_heap hp.block fun j hj => ?_⟩⟩
   have hj' : j < (Lib.compact zs).length := by simpa using hj
   have hj2 : j < (Lib.compact zs ++ List.replicate (zs.length - (Lib.compact zs).length) 0).length := by simp; omega
   rw [put_cells (by simp; omega) hj2, List.getElem?_map, List.getElem?_eq_getElem hj', List.getElem_append_left hj']
   rfl
  ·have : x = b := by simpa using hx
   subst this
   refine ⟨.inl (by simp), ?_⟩
   exact Nat.lt_of_lt_of_le (hM x (hfi x (by simp))) hp.size
end Go.D
