import Derived.Test.YtgddjdemlelffaatlbDIno
set_option linter.unusedVariables false
namespace Go.D
open Go.Lib
section
variable {P : Program} {α : Type} [Enc α]
theorem fr_of_own {w : World} {M : Nat → Prop} {xs : List α} {us : List Value} {fp : List Nat} (h : OwL w M (eL xs) us fp) : FrL w M (eL xs) us ∧ fp = [] :=
 CeL.frL (H := []) (μ := fun _ => none) h.ceL (eL_frz xs)
theorem lies_cells {w : World} {b : Nat} {c : Array Value} {e : TypeId} {us : List Value} (hh : w.heap[b]? = some (.cells c e (0, 0))) (hl : Lies w b 0 us) : ∀ t, t < us.length → c[t]? = us[t]? := fun t ht => by
 have := hl t ht
 rwa [Nat.zero_add, cell_of_heap hh] at this
theorem okm_end {w w' : World} {M : Nat → Prop} {fpi : List Nat} {b n cap : Nat} {c : Array Value} {e : TypeId} {ys : List α} {us : List Value} (hfr : FrL w M (eL ys) us) (hk : Kept (· ∈ fpi) w w') (hh : w'.heap[b]? = some (.cells c e (0, 0)))
  (hlie : ∀ t, t < us.length → c[t]? = us[t]?) (hyn : ys.length = n) (hn : n ≤ cap) (hmax : cap ≤ maxI) (hfit : cap * Enc.sz α ≤ c.size) (hb : b ∈ fpi ∨ w.heap.size ≤ b) (hM : ∀ x ∈ fpi, M x) :
  ∃ v fp, Ending.returned (.slice (some ⟨b, 0, none⟩) n cap) = .returned v ∧ Kept (· ∈ fpi) w w' ∧ Ow w' (fun x => M x ∧ x ∉ fpi ∨ x ∈ fp) (O ys) v fp ∧ fp.Nodup ∧ ∀ x ∈ fp, (x ∈ fpi ∨ w.heap.size ≤ x) ∧ x < w'.heap.size := by
 subst hyn
 have hbl : b < w'.heap.size := (Array.getElem?_eq_some_iff.1 hh).1
 have hfr' : FrL w' (fun x => M x ∧ x ∉ fpi ∨ x ∈ [b]) (eL ys) us := FrL.same (hk.same fun x hx => hM x hx) (fun x hx => by
  rcases hx with hx | hx
  ·exact .inl hx.1
  ·have : x = b := by simpa using hx
   subst this
   rcases hb with hb | hb
   ·exact .inl (hM _ hb)
   ·exact .inr hb) hfr
 refine ⟨_, [b], rfl, hk, ?_, by simp, fun x hx => ?_⟩
 ·simp only [Ow]
  exact ⟨_, cap, rfl, ⟨Enc.pos, (eL_len ys).symm, hn, hmax, fun h => by cases h⟩, .inr ⟨b, c, e, us, [], rfl, rfl, hh, hfit, FrL.owL hfr' (eL_frz ys), Lies.of_heap hh hlie⟩⟩
 ·have : x = b := by simpa using hx
  subst this
  exact ⟨hb, hbl⟩
theorem kept_set (w : World) (fpi : List Nat) (b o : Nat) (vs : List Value) (hb : b ∈ fpi) : Kept (· ∈ fpi) w (w.setCells b o vs) := by
 obtain ⟨g1, g2, g3, g4, g5, g6⟩ := setCells_grew w b o vs
 exact ⟨g1, g2, g3, Nat.le_of_eq g4.symm, fun i _ hi => g5 i fun e => hi (e ▸ hb), Nat.le_of_eq g6.symm⟩
theorem kept_drew (X : Nat → Prop) (w : World) : Kept X w w.drew := ⟨rfl, rfl, rfl, Nat.le_refl _, fun _ _ _ => rfl, Nat.le_succ _⟩
theorem el_info {tE : TypeId} {ti : TI} (hi : TIok P tE ti) (hs : ti.size = Enc.sz α) (hzl : ti.zero.length = ti.size) (hzc : ti.zero.all cellV = true) :
  ∃ i0 zz, P.info? tE = some i0 ∧ i0.size = Enc.sz α ∧ i0.bytes = ti.bytes ∧ i0.zero = some zz ∧ (∀ w, (zeroValue tE).run P w = .ok zz w) ∧ zz.cells.size = Enc.sz α ∧ ∀ n, ∀ u ∈ (Builtin.zeroCells zz.cells n).toList, u.oneCell' = true := by
 obtain ⟨inf, d, z, g1, g2, g3, g4, g5, g6, g7, g8, g9⟩ := hi
 have hf := g6 (default : World) (fun _ => False)
 have hzs : z.cells.size = Enc.sz α := by
  have := hf.length
  simp only [Array.length_toList] at this
  omega
 refine ⟨inf, z, g1, by omega, g4, g5, fun w => by simp [zeroValue, typeInfo, g1, g5], hzs, fun n u hu => ?_⟩
 have h1 := (hf.sl (H := []) (μ := fun _ => none)).one hzc
 rw [zero_cells hzs Enc.pos] at hu
 obtain ⟨l, hl, hul⟩ := List.mem_flatten.1 hu
 rw [List.mem_replicate] at hl
 exact h1 u (hl.2 ▸ hul)
variable {f gO gR : FuncId} {nm : String} {tg : Array TypeId} {tn : Array String} {tS tI tB tN tE : TypeId}
theorem okDel (T : ShT P tS tI tB tN tE (Enc.sz α)) (hf : P.funcs[f]? = some (delFn nm tg tn tS tI tB tN)) (hc : Callable P f) {ti : TI} (hi : TIok P tE ti) (hs : ti.size = Enc.sz α) (hzl : ti.zero.length = ti.size) (hzc : ti.zero.all cellV = true)
  {xs : List α} {i j : Nat} (hij : i ≤ j) (hj : j ≤ xs.length) : OKm P f [O xs, I i, I j] (O (xs.take i ++ xs.drop j)) := by
 refine ⟨hc, fun w vs M fpi hM hv hnd hfi => ?_⟩
 simp only [OwL, Ow] at hv
 obtain ⟨u, us', f1, f2, rfl, rfl, ⟨A, cap, rfl, hd, hcase⟩, u2, us2, f3, f4, rfl, rfl, ⟨rfl, rfl⟩, u3, us3, f5, f6, rfl, rfl, ⟨rfl, rfl⟩, rfl, rfl⟩ := hv
 have hcap : xs.length ≤ cap := hd.2.2.1
 have hmax : cap ≤ 9223372036854775807 := hd.2.2.2.1
 have hpos : 0 < Enc.sz α := Enc.pos
 by_cases heq : i = j
 ·subst heq
  rw [List.take_append_drop]
  refine (shf_delete0 T hf A xs.length cap i hcap hj w).mono fun ee w' he => ?_
  obtain ⟨rfl, rfl⟩ := he
  refine ⟨_, f1 ++ ([] ++ ([] ++ [])), rfl, Kept.refl _ _, ?_, hnd, fun x hx => ⟨.inl hx, hM x (hfi x hx)⟩⟩
  simp only [Ow]
  refine ⟨A, cap, rfl, hd, ?_⟩
  rcases hcase with h | ⟨b, c, e, us, fp', rfl, rfl, hh, hfit, how, hlie⟩
  ·exact .inl h
  ·refine .inr ⟨b, c, e, us, fp', rfl, by simp, hh, hfit, how.less fun x hx => ?_, hlie⟩
   rcases hx with hx | hx
   ·exact hx.1
   ·exact hfi x hx
 ·rcases hcase with ⟨h0, rfl⟩ | ⟨b, c, e, us, fp', rfl, rfl, hh, hfit, how, hlie⟩
  ·have hz : xs.length = 0 := by
    have := eL_len xs
    rw [h0] at this
    rcases Nat.mul_eq_zero.1 this.symm with q | q
    ·exact q
    ·omega
   omega
  obtain ⟨hfr, rfl⟩ := fr_of_own how
  obtain ⟨i0, zz, hi0, hz1, hb0, hzz, hzv, hzs, hzo⟩ := el_info (α := α) hi hs hzl hzc
  have hul : us.length = xs.length * Enc.sz α := by rw [hfr.length, eL_len]
  have hlt : i < j := by omega
  refine (shf_delete T hf i0 hi0 hz1 zz hzv hpos hzs hzo b xs.length cap i j us hul w c e hh (lies_cells hh hlie) hcap hfit hmax hlt hj ((hfr.sl (H := []) (μ := fun _ => none)).one (eL_one xs))).mono fun ee w' he => ?_
  obtain ⟨rfl, rfl⟩ := he
  have hjs : j * Enc.sz α ≤ xs.length * Enc.sz α := Nat.mul_le_mul_right _ hj
  have his : i * Enc.sz α ≤ j * Enc.sz α := Nat.mul_le_mul_right _ hij
  have hcs : xs.length * Enc.sz α ≤ cap * Enc.sz α := Nat.mul_le_mul_right _ hcap
  have hdl : (us.drop (j * Enc.sz α)).length = xs.length * Enc.sz α - j * Enc.sz α := by rw [List.length_drop, hul]
  obtain ⟨zs, hzeq⟩ : ∃ zs, zs = (Builtin.zeroCells zz.cells (j - i)).toList := ⟨_, rfl⟩
  have hzl2 : zs.length = j * Enc.sz α - i * Enc.sz α := by rw [hzeq]; simp [Builtin.zeroCells, hzs, Nat.sub_mul]
  have hin : (i + (xs.length - j)) * Enc.sz α = i * Enc.sz α + (xs.length * Enc.sz α - j * Enc.sz α) := by rw [Nat.add_mul, Nat.sub_mul]
  rw [← hzeq]
  obtain ⟨c1, hh1, hs1, hl1⟩ := heap_setCells b (us.drop (j * Enc.sz α)) (i * Enc.sz α) w.drew hh (by omega)
  obtain ⟨c2, hh2, hs2, hl2⟩ := heap_setCells b zs ((i + (xs.length - j)) * Enc.sz α) _ hh1 (by omega)
  have hk1 : Kept (· ∈ [b] ++ ([] ++ ([] ++ []))) w w.drew := kept_drew _ w
  have hk : Kept (· ∈ [b] ++ ([] ++ ([] ++ []))) w ((w.drew.setCells b (i * Enc.sz α) (us.drop (j * Enc.sz α))).setCells b ((i + (xs.length - j)) * Enc.sz α) zs) :=
   (hk1.trans (kept_set w.drew _ b _ _ (by simp)) fun _ h => .inl h).trans (kept_set _ _ b _ _ (by simp)) fun _ h => .inl h
  have hfr2 : FrL w M (eL (xs.take i ++ xs.drop j)) (us.take (i * Enc.sz α) ++ us.drop (j * Enc.sz α)) := by
   rw [eL_append, ← eL_take, ← eL_drop]
   exact (FrL.take _ hfr).append (FrL.drop _ hfr)
  have htl : (us.take (i * Enc.sz α)).length = i * Enc.sz α := by rw [List.length_take]; omega
  have hul2 : us = c.toList.take us.length := (hlie.heap hh).1
  refine okm_end (c := c2) (e := e) (n := i + (xs.length - j)) hfr2 hk hh2 (fun t ht => ?_) (by rw [List.length_append, List.length_take, List.length_drop]; omega) (by omega) hmax (by omega) (.inl (by simp)) hfi
  rw [List.length_append, htl, hdl] at ht
  rw [← Array.getElem?_toList, hl2, List.append_assoc, List.getElem?_append_left (by simp only [List.length_take, Array.length_toList]; omega), List.getElem?_take, if_pos (by omega), hl1, List.getElem?_append_left (by simp only [List.length_append, List.length_take, Array.length_toList, hdl]; omega)]
  by_cases hti : t < i * Enc.sz α
  ·rw [List.getElem?_append_left (by simp only [List.length_take, Array.length_toList]; omega), List.getElem?_append_left (by rw [htl]; exact hti), List.getElem?_take, if_pos hti, List.getElem?_take, if_pos hti]
   conv => rhs; rw [hul2]
   rw [List.getElem?_take, if_pos (by omega)]
  ·rw [List.getElem?_append_right (by simp only [List.length_take, Array.length_toList]; omega), List.getElem?_append_right (by rw [htl]; omega), htl, show (List.take (i * Enc.sz α) c.toList).length = i * Enc.sz α by simp only [List.length_take, Array.length_toList]; omega]
theorem okIns (T : ShT P tS tI tB tN tE (Enc.sz α)) (hf : P.funcs[f]? = some (insFn nm tg tn tS tI tB tN gO gR))
  (hO : ∀ (x y : Value) (w : World), (callFunc gO #[x, y]).run P w = ((Extern.SlicesOverlaps.overlaps #[tS, tS] #[tB] #[x, y]).run P w).andThen fun v w' => .ok (.value v) w')
  (hc : Callable P f) {ti : TI} (hi : TIok P tE ti) (hs : ti.size = Enc.sz α) (hzl : ti.zero.length = ti.size) (hzc : ti.zero.all cellV = true) (hby : ti.bytes ≤ 1024)
  {xs zs : List α} {i : Nat} (hin : i ≤ xs.length) (hz0 : 0 < zs.length) (hbig : xs.length + zs.length < 68719476736) : OKm P f [O xs, I i, O zs] (O (xs.take i ++ zs ++ xs.drop i)) := by
 refine ⟨hc, fun w vs M fpi hM hv hnd hfi => ?_⟩
 simp only [OwL, Ow] at hv
 obtain ⟨u, us', f1, f2, rfl, rfl, ⟨A, cap, rfl, hd, hcase⟩, u2, us2, f3, f4, rfl, rfl, ⟨rfl, rfl⟩, u3, us3, f5, f6, rfl, rfl, ⟨Az, vc, rfl, hdz, hcasez⟩, rfl, rfl⟩ := hv
 have hcap : xs.length ≤ cap := hd.2.2.1
 have hmax : cap ≤ 9223372036854775807 := hd.2.2.2.1
 have hpos : 0 < Enc.sz α := Enc.pos
 have hyl : (xs.take i ++ zs ++ xs.drop i).length = xs.length + zs.length := by simp only [List.length_append, List.length_take, List.length_drop]; omega
 rcases hcasez with ⟨h0, _⟩ | ⟨vb, cv, ev, vz, fz, rfl, rfl, hhv, hfitv, howz, hliez⟩
 ·have := eL_len zs
  rw [h0] at this
  rcases Nat.mul_eq_zero.1 this.symm with q | q <;> omega
 obtain ⟨hfrz, rfl⟩ := fr_of_own howz
 have hvl : vz.length = zs.length * Enc.sz α := by rw [hfrz.length, eL_len]
 have h1v := (hfrz.sl (H := []) (μ := fun _ => none)).one (eL_one zs)
 have hlv := lies_cells hhv hliez
 obtain ⟨i0, zz, hi0, hz1, hb0, hzz, hzv, hzs, hzo⟩ := el_info (α := α) hi hs hzl hzc
 have hsrc : Src P i0.size tS (.slice (some ⟨vb, 0, none⟩) zs.length vc) zs.length vz w := by
  rw [hz1]
  exact Src.ofSlice w T.t22 _ _ vc vz hvl (fun j u hj => by rw [Addr.add_lit, Nat.zero_add, cell_of_heap hhv, hlv _ (List.getElem?_eq_some_iff.1 hj).1, hj]) h1v
 have hfit9 : ∀ cap', cap' < xs.length + zs.length → Builtin.nextslicecap (xs.length + zs.length) cap' * i0.bytes ≤ 281474976710656 := fun cap' h => by
  have e1 := nextslicecap_le h
  calc Builtin.nextslicecap (xs.length + zs.length) cap' * i0.bytes ≤ (2 * (xs.length + zs.length)) * 1024 := Nat.mul_le_mul e1 (by omega)
   _ ≤ 281474976710656 := by omega
 -- a new row, at the end
 have grow : ∀ (A : Option Addr) (us : List Value), i = xs.length → cap < xs.length + zs.length → FrL w M (eL xs) us → us.length = xs.length * Enc.sz α → (Builtin.firstCells i0.size xs.length (.slice A xs.length cap)).run P w.drew = .ok us.toArray w.drew → (hfi' : ∀ b ∈ f1 ++ ([] ++ ([vb] ++ [])), M b) →
   Calls P f #[.slice A xs.length cap, .int .i64 i, .slice (some ⟨vb, 0, none⟩) zs.length vc] w fun e w' => ∃ v fp, e = .returned v ∧ Kept (· ∈ f1 ++ ([] ++ ([vb] ++ []))) w w' ∧ Ow w' (fun b => M b ∧ b ∉ f1 ++ ([] ++ ([vb] ++ [])) ∨ b ∈ fp) (O (xs.take i ++ zs ++ xs.drop i)) v fp ∧ fp.Nodup ∧ ∀ b ∈ fp, (b ∈ f1 ++ ([] ++ ([vb] ++ [])) ∨ w.heap.size ≤ b) ∧ b < w'.heap.size := by
  intro A us hin' hroom hfr hul hold hfi'
  subst hin'
  have hrun := fun ty => run_append_grow_src (P := P) w tS tS ty tE i0 zz T.t22 hi0 hzz A xs.length cap us hold _ zs.length vz hsrc hroom (by omega) (hfit9 cap hroom)
  refine (shf_ins_end T hf A (some ⟨vb, 0, none⟩) xs.length cap zs.length vc hcap hz0 _ w _ hrun).mono fun ee w' he => ?_
  obtain ⟨rfl, rfl⟩ := he
  have hgc1 := grownCap_ge w (xs.length + zs.length) cap tE
  have hgc2 : grownCap w (xs.length + zs.length) cap tE ≤ maxI := grownCap_le_maxLen w _ _ _ (by unfold maxLen; omega)
  generalize hgc : grownCap w (xs.length + zs.length) cap tE = gc at *
  have hgr : Kept (· ∈ f1 ++ ([] ++ ([vb] ++ []))) w (w.drew.alloc (.cells ((us ++ vz).toArray ++ Builtin.zeroCells zz.cells (gc - (xs.length + zs.length))) tE)) :=
   (kept_drew _ w).trans (alloc_grew w.drew _) fun _ h => h.elim
  refine okm_end (c := (us ++ vz).toArray ++ Builtin.zeroCells zz.cells (gc - (xs.length + zs.length))) (e := tE) (us := us ++ vz) ?_ hgr ?_ (fun t ht => ?_) hyl hgc1 hgc2 ?_ (.inr (Nat.le_refl _)) hfi'
  ·rw [List.take_length, List.drop_length, List.append_nil, eL_append]
   exact hfr.append hfrz
  ·show (w.heap.push (.cells _ tE))[w.heap.size]? = _
   simp
  ·rw [Array.getElem?_append_left (by simpa using ht)]
   simp
  ·have hzc' : (Builtin.zeroCells zz.cells (gc - (xs.length + zs.length))).size = (gc - (xs.length + zs.length)) * Enc.sz α := by simp [Builtin.zeroCells, hzs]
   simp only [Array.size_append, List.size_toArray, List.length_append, hul, hvl, hzc']
   rw [← Nat.add_mul, ← Nat.add_mul]
   exact Nat.le_of_eq (by congr 1; omega)
 rcases hcase with ⟨h0, rfl⟩ | ⟨b, c, e, us, fp', rfl, rfl, hh, hfit, how, hlie⟩
 ·have hz : xs.length = 0 := by
   have := eL_len xs
   rw [h0] at this
   rcases Nat.mul_eq_zero.1 this.symm with q | q
   ·exact q
   ·omega
  have hx : xs = [] := List.length_eq_zero_iff.1 hz
  refine grow A [] (by omega) (by omega) (by rw [hx]; simp [eL, FrL]) (by simp [hz]) ?_ hfi
  rw [hz]
  cases A with
  | none => simp [Builtin.firstCells]
  | some ad => simp [Builtin.firstCells, loadCells, loadCellsFrom]
 obtain ⟨hfr, rfl⟩ := fr_of_own how
 have hul : us.length = xs.length * Enc.sz α := by rw [hfr.length, eL_len]
 have hlu := lies_cells hh hlie
 have h1 := (hfr.sl (H := []) (μ := fun _ => none)).one (eL_one xs)
 have hne : vb ≠ b := by
  intro he
  subst he
  simp at hnd
 have hcs : xs.length * Enc.sz α ≤ cap * Enc.sz α := Nat.mul_le_mul_right _ hcap
 have his : i * Enc.sz α ≤ xs.length * Enc.sz α := Nat.mul_le_mul_right _ hin
 have hnm : (xs.length + zs.length) * Enc.sz α = xs.length * Enc.sz α + zs.length * Enc.sz α := Nat.add_mul _ _ _
 have him : (i + zs.length) * Enc.sz α = i * Enc.sz α + zs.length * Enc.sz α := Nat.add_mul _ _ _
 have hul2 : us = c.toList.take us.length := (hlie.heap hh).1
 have htl : (us.take (i * Enc.sz α)).length = i * Enc.sz α := by rw [List.length_take]; omega
 have hdl : (us.drop (i * Enc.sz α)).length = xs.length * Enc.sz α - i * Enc.sz α := by rw [List.length_drop, hul]
 have hfr2 : FrL w M (eL (xs.take i ++ zs ++ xs.drop i)) (us.take (i * Enc.sz α) ++ vz ++ us.drop (i * Enc.sz α)) := by
  rw [eL_append, eL_append, ← eL_take, ← eL_drop]
  exact ((FrL.take _ hfr).append hfrz).append (FrL.drop _ hfr)
 by_cases hroom : xs.length + zs.length ≤ cap
 ·have hrs : (xs.length + zs.length) * Enc.sz α ≤ cap * Enc.sz α := Nat.mul_le_mul_right _ hroom
  by_cases hend : i = xs.length
  ·subst hend
   have hrun := fun ty => run_append_room_src (P := P) w tS tS ty tE i0 T.t22 hi0 b 0 xs.length cap (.slice (some ⟨vb, 0, none⟩) zs.length vc) zs.length vz hsrc hroom
    (fun j hj => by rw [hz1, Nat.zero_add, cell_of_heap hh, Array.getElem?_eq_getElem (by omega)]; rfl) (fun j hj => frozen_of_heap hh _)
   refine (shf_ins_end T hf _ (some ⟨vb, 0, none⟩) xs.length cap zs.length vc hcap hz0 _ w _ hrun).mono fun ee w' he => ?_
   obtain ⟨rfl, rfl⟩ := he
   rw [hz1, Nat.zero_add]
   obtain ⟨c1, hh1, hs1, hl1⟩ := heap_setCells b vz (xs.length * Enc.sz α) w hh (by omega)
   refine okm_end (c := c1) (e := e) hfr2 (kept_set w _ b _ _ (by simp)) hh1 (fun t ht => ?_) hyl hroom hmax (by omega) (.inl (by simp)) hfi
   rw [List.length_append, List.length_append, htl, hdl, hvl] at ht
   have hd0 : us.drop (xs.length * Enc.sz α) = [] := List.drop_of_length_le (by omega)
   rw [hd0, List.append_nil, ← Array.getElem?_toList, hl1, List.getElem?_append_left (by simp only [List.length_append, List.length_take, Array.length_toList]; omega)]
   rw [List.take_of_length_le (by omega : us.length ≤ xs.length * Enc.sz α)]
   conv => rhs; rw [hul2]
   rw [hul]
  ·have hlt : i < xs.length := by omega
   refine (shf_ins_shift T hf hO hpos b xs.length cap i vb zs.length vc us vz hul hvl w c cv e ev hh hhv hne hlu hlv hz0 hroom hfit hmax hlt h1 h1v).mono fun ee w' he => ?_
   obtain ⟨rfl, rfl⟩ := he
   obtain ⟨c1, hh1, hs1, hl1⟩ := heap_setCells b (us.drop (i * Enc.sz α)) ((i + zs.length) * Enc.sz α) w.drew hh (by omega)
   obtain ⟨c2, hh2, hs2, hl2⟩ := heap_setCells b vz (i * Enc.sz α) _ hh1 (by omega)
   have hk : Kept (· ∈ [b] ++ ([] ++ ([vb] ++ []))) w ((w.drew.setCells b ((i + zs.length) * Enc.sz α) (us.drop (i * Enc.sz α))).setCells b (i * Enc.sz α) vz) :=
    ((kept_drew _ w).trans (kept_set w.drew _ b _ _ (by simp)) fun _ h => .inl h).trans (kept_set _ _ b _ _ (by simp)) fun _ h => .inl h
   refine okm_end (c := c2) (e := e) hfr2 hk hh2 (fun t ht => ?_) hyl hroom hmax (by omega) (.inl (by simp)) hfi
   rw [List.length_append, List.length_append, htl, hdl, hvl] at ht
   rw [← Array.getElem?_toList, hl2]
   have e1 : (c1.toList.take (i * Enc.sz α)).length = i * Enc.sz α := by simp only [List.length_take, Array.length_toList]; omega
   have e2 : (c.toList.take ((i + zs.length) * Enc.sz α)).length = (i + zs.length) * Enc.sz α := by simp only [List.length_take, Array.length_toList]; omega
   simp only [List.append_assoc, List.getElem?_append, e1, htl, hvl]
   by_cases h8 : t < i * Enc.sz α
   ·rw [if_pos h8, if_pos h8, List.getElem?_take, if_pos h8, List.getElem?_take, if_pos h8, hl1, List.append_assoc, List.getElem?_append_left (by rw [e2]; omega), List.getElem?_take, if_pos (by omega)]
    conv => rhs; rw [hul2]
    rw [List.getElem?_take, if_pos (by omega)]
   ·rw [if_neg h8, if_neg h8]
    by_cases h9 : t - i * Enc.sz α < zs.length * Enc.sz α
    ·rw [if_pos h9, if_pos h9]
    ·rw [if_neg h9, if_neg h9, List.getElem?_drop, hl1, List.append_assoc, List.getElem?_append_right (by rw [e2]; omega), e2, List.getElem?_append_left (by rw [hdl]; omega)]
     congr 1
     omega
 ·have hg : cap < xs.length + zs.length := by omega
  by_cases hend : i = xs.length
  ·refine grow _ us hend hg hfr hul ?_ hfi
   rw [hz1]
   exact run_firstCells_some w.drew (Enc.sz α) xs.length ⟨b, 0, none⟩ xs.length cap us hul (fun j v hj => by
    rw [Addr.add_lit, Nat.zero_add, cell_of_heap (w := w.drew) hh, hlu _ (List.getElem?_eq_some_iff.1 hj).1, hj])
  ·have hlt : i < xs.length := by omega
   refine (shf_ins_grow T hf i0 hi0 hz1 zz hzz hzs (by omega) hpos b xs.length cap i vb zs.length vc us vz hul hvl w c cv e ev hh hhv hlu hlv hz0 hcap hg hbig hlt h1 h1v).mono fun ee w' he => ?_
   obtain ⟨rfl, rfl⟩ := he
   have hgc1 := grownCap_ge w (xs.length + zs.length) cap tE
   have hgc2 : grownCap w (xs.length + zs.length) cap tE ≤ maxI := grownCap_le_maxLen w _ _ _ (by unfold maxLen; omega)
   generalize hgc : grownCap w (xs.length + zs.length) cap tE = gc at *
   obtain ⟨ROW, hROW⟩ : ∃ ROW : Array Value, ROW = (us.take (i * Enc.sz α)).toArray ++ Builtin.zeroCells zz.cells (xs.length + zs.length - i) ++ Builtin.zeroCells zz.cells (gc - (xs.length + zs.length)) := ⟨_, rfl⟩
   rw [← hROW]
   have hRs : ROW.size = gc * Enc.sz α := by
    have q1 : (xs.length + zs.length - i) * Enc.sz α = (xs.length + zs.length) * Enc.sz α - i * Enc.sz α := Nat.sub_mul _ _ _
    have q2 : (gc - (xs.length + zs.length)) * Enc.sz α = gc * Enc.sz α - (xs.length + zs.length) * Enc.sz α := Nat.sub_mul _ _ _
    have q3 : (xs.length + zs.length) * Enc.sz α ≤ gc * Enc.sz α := Nat.mul_le_mul_right _ hgc1
    rw [hROW]
    simp only [Array.size_append, List.size_toArray, htl, Builtin.zeroCells, Array.size_map, Array.size_range, hzs]
    omega
   have hgs : (xs.length + zs.length) * Enc.sz α ≤ gc * Enc.sz α := Nat.mul_le_mul_right _ hgc1
   have hhn : (w.alloc (.cells ROW tE)).drew.heap[w.heap.size]? = some (.cells ROW tE (0, 0)) := by
    show (w.heap.push (.cells ROW tE))[w.heap.size]? = _
    simp
   obtain ⟨c1, hh1, hs1, hl1⟩ := heap_setCells w.heap.size vz (i * Enc.sz α) _ hhn (by omega)
   obtain ⟨c2, hh2, hs2, hl2⟩ := heap_setCells w.heap.size (us.drop (i * Enc.sz α)) ((i + zs.length) * Enc.sz α) ((w.alloc (.cells ROW tE)).drew.setCells w.heap.size (i * Enc.sz α) vz).drew hh1 (by omega)
   have hka : Kept (· ∈ [b] ++ ([] ++ ([vb] ++ []))) w (w.alloc (.cells ROW tE)).drew := (Kept.trans (Kept.refl _ w) (alloc_grew w (.cells ROW tE)) fun _ h => h.elim).trans (kept_drew (fun _ => False) _) fun _ h => h.elim
   have hk2 : ∀ (W : World), Kept (· ∈ [b] ++ ([] ++ ([vb] ++ []))) w W → ∀ o vs, Kept (· ∈ [b] ++ ([] ++ ([vb] ++ []))) w (W.setCells w.heap.size o vs) := fun W hW o vs =>
    hW.trans (kept_set W [w.heap.size] w.heap.size o vs (by simp)) fun i hi => .inr (by simp at hi; omega)
   have hk : Kept (· ∈ [b] ++ ([] ++ ([vb] ++ []))) w (((w.alloc (.cells ROW tE)).drew.setCells w.heap.size (i * Enc.sz α) vz).drew.setCells w.heap.size ((i + zs.length) * Enc.sz α) (us.drop (i * Enc.sz α))) :=
    hk2 _ ((hk2 _ hka _ _).trans (kept_drew (fun _ => False) _) fun _ h => h.elim) _ _
   refine okm_end (c := c2) (e := tE) hfr2 hk hh2 (fun t ht => ?_) hyl hgc1 hgc2 (by omega) (.inr (Nat.le_refl _)) hfi
   rw [List.length_append, List.length_append, htl, hdl, hvl] at ht
   rw [← Array.getElem?_toList, hl2]
   have e1 : (c1.toList.take ((i + zs.length) * Enc.sz α)).length = (i + zs.length) * Enc.sz α := by simp only [List.length_take, Array.length_toList]; omega
   have e2 : (ROW.toList.take (i * Enc.sz α)).length = i * Enc.sz α := by simp only [List.length_take, Array.length_toList]; omega
   simp only [List.append_assoc, List.getElem?_append, e1, htl, hvl, hdl]
   by_cases h8 : t < i * Enc.sz α
   ·rw [if_pos (by omega), if_pos h8, List.getElem?_take, if_pos (by omega), hl1, List.append_assoc, List.getElem?_append_left (by rw [e2]; exact h8), List.getElem?_take, if_pos h8, hROW]
    rw [Array.toList_append, Array.toList_append, List.append_assoc, List.getElem?_append_left (by rw [htl]; exact h8)]
   ·rw [if_neg h8]
    by_cases h9 : t - i * Enc.sz α < zs.length * Enc.sz α
    ·rw [if_pos (by omega), if_pos h9, List.getElem?_take, if_pos (by omega), hl1, List.append_assoc, List.getElem?_append_right (by rw [e2]; omega), e2, List.getElem?_append_left (by rw [hvl]; exact h9)]
    ·rw [if_neg (by omega), if_neg h9, if_pos (by omega)]
     congr 1
     omega
end
end Go.D
