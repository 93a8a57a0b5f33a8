import Derived.Test.YtamegkbinbplaaatlbDCall
set_option linter.unusedVariables false
namespace Go.D
theorem OwL.ceL {w : World} {M : Nat → Prop} {H : Hp} {μ : Nat → Option Nat} : ∀ {xs : List V} {us : List Value} {fp : List Nat}, OwL w M xs us fp → CeL w M H μ xs us fp
 | [], us, fp, h => by simpa only [OwL, CeL] using h
 | c :: cs, us, fp, h => by
  simp only [OwL, CeL] at h ⊢
  obtain ⟨u, us', f, f', rfl, rfl, h1, h2⟩ := h
  exact ⟨u, us', f, f', rfl, rfl, .inl h1, OwL.ceL h2⟩
theorem BlkO.blkR {w : World} {M : Nat → Prop} {H : Hp} {μ : Nat → Option Nat} {m : Option Nat} {blk : Blk} {fp : List Nat} (h : BlkO w M m blk fp) : BlkR w M H μ m blk fp := by
 obtain ⟨_, h⟩ := h
 cases m with
 | some b =>
  obtain ⟨c, e, us, h1, h2, h3⟩ := h
  exact ⟨c, e, us, h1, h2.ceL, h3⟩
 | none => exact h
theorem findIdx_piece {b : Nat} : ∀ {ps : List Piece} {i : Nat} {p : Piece}, (ps.flatMap Piece.all).Nodup → ps[i]? = some p → b ∈ p.all → ps.findIdx? (fun p => p.all.contains b) = some i
 | [], i, p, _, h, _ => by simp at h
 | q :: ps, 0, p, hn, h, hb => by
  simp at h
  subst h
  simp [List.findIdx?_cons, hb]
 | q :: ps, i + 1, p, hn, h, hb => by
  simp at h
  have hmem : b ∈ ps.flatMap Piece.all := List.mem_flatMap.2 ⟨p, List.mem_of_getElem? h, hb⟩
  rw [List.flatMap_cons] at hn
  have hnq : b ∉ q.all := fun hq => (List.nodup_append.1 hn).2.2 b hq b hmem rfl
  have := findIdx_piece (List.nodup_append.1 hn).2.1 h hb
  simp only [List.findIdx?_cons, List.contains_eq_mem, hnq, decide_false, Bool.false_eq_true, if_false] at this ⊢
  rw [this]; rfl
theorem nodup_piece : ∀ {ps : List Piece} {i : Nat} {p : Piece}, (ps.flatMap Piece.all).Nodup → ps[i]? = some p → p.all.Nodup
 | [], i, p, _, h => by simp at h
 | q :: ps, 0, p, hn, h => by
  simp at h
  subst h
  rw [List.flatMap_cons] at hn
  exact (List.nodup_append.1 hn).1
 | q :: ps, i + 1, p, hn, h => by
  simp at h
  rw [List.flatMap_cons] at hn
  exact nodup_piece (List.nodup_append.1 hn).2.1 h
section
variable {P : Program} {Γ : Ctx} {τ : Tau}
theorem after_thaw {M : Nat → Prop} {H : Hp} {w w' : World} {μ : Nat → Option Nat} {fp : Nat → List Nat} {G : Nat → Option Nat} (O : Own Γ M H w μ fp G) (hg : Grew w w') {out : V} {v : Value} {fpn : List Nat}
  (ho : Ow w' (fun b => M b ∨ b ∈ fpn) out v fpn) (hn : fpn.Nodup) (hb : ∀ b ∈ fpn, w.heap.size ≤ b ∧ b < w'.heap.size) :
  ∃ μ' fp' G', Own Γ (fun b => M b ∨ b ∈ fpn) (H ++ (thaw H.length out).2.map some) w' μ' fp' G' ∧
   Carry w M H μ w' (fun b => M b ∨ b ∈ fpn) (H ++ (thaw H.length out).2.map some) μ' ∧
   Sl w' (fun b => M b ∨ b ∈ fpn) (H ++ (thaw H.length out).2.map some) μ' (thaw H.length out).1 v := by
 obtain ⟨ps, hp, hs⟩ := thaw_sound ho H.length
 generalize hbs : (thaw H.length out).2 = bs at *
 let μ' : Nat → Option Nat := fun k => if k < H.length then μ k else (ps[k - H.length]?.map (·.1)).getD none
 let fp' : Nat → List Nat := fun k => if k < H.length then fp k else (ps[k - H.length]?.map (·.2)).getD []
 let G' : Nat → Option Nat := fun b => if b ∈ fpn then (ps.findIdx? fun p => p.all.contains b).map (H.length + ·) else G b
 have hholds : Holds (H ++ bs.map some) μ' H.length bs ps := by
  refine ⟨by simp, fun i blk p h1 h2 => ⟨?_, ?_⟩⟩
  ·rw [List.getElem?_append_right (by omega), Nat.add_sub_cancel_left, List.getElem?_map, h1]; rfl
  ·simp only [μ', if_neg (show ¬ (H.length + i < H.length) by omega), Nat.add_sub_cancel_left, h2, Option.map_some, Option.getD_some]
 have hold : ∀ k blk, k < H.length → (H ++ bs.map some)[k]? = some (some blk) → H[k]? = some (some blk) := fun k blk hk h => by rwa [List.getElem?_append_left hk] at h
 have hMlt : ∀ b, M b → b ∉ fpn := fun b hM hf => by have := O.lt b hM; have := (hb b hf).1; omega
 have C : Carry w M H μ w' (fun b => M b ∨ b ∈ fpn) (H ++ bs.map some) μ' := by
  refine ⟨hg.same fun _ h => h.elim, fun b h => ?_, by simp, fun k blk' hk h => ?_⟩
  ·rcases h with h | h
   ·exact .inl h
   ·exact .inr (hb b h).1
  ·have h' := hold k blk' hk h
   refine ⟨blk', h', Nat.le_refl _, fun _ => ⟨by simp only [μ', if_pos hk], fun b hbo => .of_eq (hg.block _ (O.born_lt k blk' h' b hbo) fun h => h)⟩⟩
 refine ⟨μ', fp', G', ?_, C, hs _ _ hholds⟩
 have hkey : ∀ k blk, ¬ k < H.length → (H ++ bs.map some)[k]? = some (some blk) → ∃ i p, k = H.length + i ∧ bs[i]? = some blk ∧ ps[i]? = some p ∧ μ' k = p.1 ∧ fp' k = p.2 := by
  intro k blk hk h
  rw [List.getElem?_append_right (by omega), List.getElem?_map] at h
  cases hbk : bs[k - H.length]? with
  | none => rw [hbk] at h; cases h
  | some blk' =>
   rw [hbk] at h
   cases h
   have hlt : k - H.length < ps.length := by rw [hp.len]; exact (List.getElem?_eq_some_iff.1 hbk).1
   refine ⟨k - H.length, ps[k - H.length], by omega, hbk, List.getElem?_eq_getElem hlt, ?_, ?_⟩
   ·simp only [μ', if_neg hk, List.getElem?_eq_getElem hlt, Option.map_some, Option.getD_some]
   ·simp only [fp', if_neg hk, List.getElem?_eq_getElem hlt, Option.map_some, Option.getD_some]
 have hnd : (ps.flatMap Piece.all).Nodup := by rw [← hp.all]; exact hn
 refine ⟨fun k blk h => ?_, fun k blk h => ?_, fun b h => ?_, fun b h => .inl (O.m0 b h), fun b h => ?_, fun b h => ?_, fun b h => ?_, O.kept.trans hg fun _ h => h.elim, fun i b hb => ?_⟩
 ·by_cases hk : k < H.length
  ·have h' := hold k blk hk h
   have := (O.blk k blk h').carry C (fun b e => hg.block b (O.born_lt k blk h' b e) fun h => h) (fun b hx => hg.block b (O.fp_lt k blk h' b hx) fun h => h)
   simp only [μ', fp', if_pos hk]
   exact this
  ·obtain ⟨i, p, rfl, h1, h2, h3, h4⟩ := hkey k blk hk h
   rw [h3, h4]
   exact (hp.ok i blk p h1 h2).blkR
 ·by_cases hk : k < H.length
  ·have h' := hold k blk hk h
   obtain ⟨m1, m2, m3⟩ := O.mine k blk h'
   simp only [μ', fp', if_pos hk]
   refine ⟨fun b e => ?_, fun b e => ?_, m3⟩
   ·obtain ⟨g1, g2⟩ := m1 b e
    have : b ∉ fpn := hMlt b (O.sub b (by rw [g1]; simp))
    exact ⟨by simp only [G', if_neg this]; exact g1, g2⟩
   ·have g1 := m2 b e
    have : b ∉ fpn := hMlt b (O.sub b (by rw [g1]; simp))
    simp only [G', if_neg this]
    exact g1
  ·obtain ⟨i, p, rfl, h1, h2, h3, h4⟩ := hkey k blk hk h
   rw [h3, h4]
   have hin : ∀ b, b ∈ p.all → b ∈ fpn := fun b hbp => by rw [hp.all]; exact List.mem_flatMap.2 ⟨p, List.mem_of_getElem? h2, hbp⟩
   have hpn : p.all.Nodup := nodup_piece hnd h2
   refine ⟨fun b e => ⟨?_, ?_⟩, fun b e => ?_, ?_⟩
   ·have hbp : b ∈ p.all := by simp [Piece.all, e]
    simp only [G', if_pos (hin b hbp), findIdx_piece hnd h2 hbp, Option.map_some]
   ·intro hbf
    have hnd' := hpn
    simp only [Piece.all, e, Option.toList_some, List.singleton_append, List.nodup_cons] at hnd'
    exact hnd'.1 hbf
   ·have hbp : b ∈ p.all := by simp [Piece.all, e]
    simp only [G', if_pos (hin b hbp), findIdx_piece hnd h2 hbp, Option.map_some]
   ·exact (List.nodup_append.1 hpn).2.1
 ·by_cases hf : b ∈ fpn
  ·exact .inr hf
  ·simp only [G', if_neg hf] at h
   exact .inl (O.sub b h)
 ·rcases h with h | h
  ·exact Nat.lt_of_lt_of_le (O.lt b h) hg.size
  ·exact (hb b h).2
 ·by_cases hf : b ∈ fpn
  ·have := O.kept.size
   exact .inr (by have := (hb b hf).1; omega)
  ·simp only [G', if_neg hf] at h
   exact O.new b h
 ·by_cases hf : b ∈ fpn
  ·exact fun h0 => hMlt b (O.m0 b h0) hf
  ·simp only [G', if_neg hf] at h
   exact O.apart b h
 ·obtain ⟨p1, ⟨blk, p2⟩, p3⟩ := O.pin i b hb
  have hlt := (List.getElem?_eq_some_iff.1 p2).1
  exact ⟨by simp only [μ', if_pos hlt]; exact p1, ⟨blk, by rw [List.getElem?_append_left hlt]; exact p2⟩, p3.trans (.of_eq (hg.block b (O.born_lt i blk p2 b p1) fun h => h))⟩
def evalArgs (τ : Tau) (st : St) : List Operand → List Nat → Option (List V)
 | [], _ => some []
 | x :: r, ts =>
  match evalV st x, evalArgs τ st r ts.tail with
  | some v, some vs => some ((match ts with | t :: _ => tyV τ t v | [] => v) :: vs)
  | _, _ => none
theorem evalArgs_sound {st : St} {a : Act} {w : World} {M : Nat → Prop} {μ : Nat → Option Nat} (hT : Slots st a w M μ) :
  ∀ {ys : List Operand} {ts : List Nat} {xs : List V}, evalArgs τ st ys ts = some xs → SlL w M st.H μ xs (ys.map a.eval)
 | [], ts, xs, h => by simp only [evalArgs, Option.some.injEq] at h; subst h; simp [SlL]
 | y :: ys, ts, xs, h => by
  simp only [evalArgs] at h
  cases h1 : evalV st y with
  | none => simp only [h1] at h; cases h
  | some v =>
   cases h2 : evalArgs τ st ys ts.tail with
   | none => simp only [h1, h2] at h; cases h
   | some vs =>
    simp only [h1, h2, Option.some.injEq] at h
    subst h
    simp only [List.map_cons, SlL]
    refine ⟨_, _, rfl, ?_, evalArgs_sound hT h2⟩
    cases ts with
    | nil => exact evalV_sound hT h1
    | cons t ts => exact tyV_sound (evalV_sound hT h1)
theorem wp_call {o : Oper} {c : Call} {y : Operand} {g : FuncId} {caps : Array Value} {a : Act} {w : World} {K : Act → World → Prop} {Q : Exit → Act → World → Prop}
  (ho : o.op = .call c) (hc : c.callee = .value y) (hy : a.eval y = .func (.func g) #[] caps) (hcall : Callable P g)
  (h : Calls P g (c.args.map a.eval ++ caps) w fun e w' => ∃ v, e = .returned v ∧ K (a.put o.dst v) w') : o.wp P a w K Q := by
 obtain ⟨fn, h1, h2, h3⟩ := hcall
 have hrun : (execOp a.eval o).run P w = .ok (.enter g (c.args.map a.eval ++ caps)) w := by
  simp only [execOp, ho, resolve, hc, hy, Deferred.ofValue, Sem.run_bind, Sem.run_pure, Result.andThen_ok, invoke, callFunc, run_program, h1]
  simp [h2, h3]
 simp only [Oper.wp, hrun, Oper.upon]
 refine Calls.mono h fun e w' he => ?_
 obtain ⟨v, rfl, hk⟩ := he
 exact hk
theorem fn_value {st : St} {a : Act} {w : World} {M : Nat → Prop} {μ : Nat → Option Nat} (hS : Slots st a w M μ) {y : Operand} {g : FuncId} {caps : List V} (hy : evalV st y = some (.fn g caps)) :
  ∃ us : List Value, a.eval y = .func (.func g) #[] us.toArray ∧ SlL w M st.H μ caps us := by
 have := evalV_sound hS hy
 simpa only [Sl] using this
end
end Go.D
