import Derived.Test.YtamegkbinbplaaatlbDOwn2
import Derived.Laws.Concat
import Derived.Laws.BytesString
set_option linter.unusedVariables false
namespace Go.D
theorem FrL.get_of {w : World} {M : Nat → Prop} : ∀ {xs : List V} {us : List Value}, xs.length = us.length → (∀ (i : Nat) x u, xs[i]? = some x → us[i]? = some u → Fr w M x u) → FrL w M xs us
 | [], [], _, _ => by simp only [FrL]
 | [], u :: us, h, _ => by simp at h
 | x :: xs, [], h, _ => by simp at h
 | x :: xs, u :: us, h, k => by
  simp only [FrL]
  exact ⟨u, us, rfl, k 0 x u rfl rfl, FrL.get_of (by simpa using h) fun i y v h1 h2 => k (i + 1) y v (by simpa using h1) (by simpa using h2)⟩
section
variable {P : Program} {Γ : Ctx} {τ : Tau} {α : Type} [Enc α]
def mkI (n : Int) (z : α) : Option (List α) := if 0 ≤ n ∧ n < 68719476736 then some (List.replicate n.toNat z) else none
theorem eL_rep_get (n : Nat) (z : α) {q : Nat} (hq : q < n * Enc.sz α) : (eL (List.replicate n z))[q]? = (Enc.cells z)[q % Enc.sz α]? := by
 have hp : 0 < Enc.sz α := Enc.pos
 have h1 : q / Enc.sz α < n := Nat.div_lt_of_lt_mul (by rwa [Nat.mul_comm])
 have h2 : (List.replicate n z)[q / Enc.sz α]? = some z := by rw [List.getElem?_replicate, if_pos h1]
 have h3 := eL_nth h2 (Nat.mod_lt q hp)
 have h4 : q / Enc.sz α * Enc.sz α + q % Enc.sz α = q := by rw [Nat.mul_comm]; exact Nat.div_add_mod q _
 rw [h4] at h3
 exact h3
def sameOp : Operand → Operand → Bool
 | .tmp a, .tmp b => Nat.beq a b
 | .const (.int _ a), .const (.int _ b) => a == b
 | _, _ => false
theorem sameOp_eq {st : St} {x y : Operand} {k k' : IntKind} {n m : Int} (h : sameOp x y = true) (hx : evalV st x = some (.lit (.int k n))) (hy : evalV st y = some (.lit (.int k' m))) : m = n := by
 unfold sameOp at h
 split at h
 ·have := Nat.eq_of_beq_eq_true h
  subst this
  rw [hx] at hy
  simp at hy
  exact hy.2.symm
 ·simp only [evalV, Option.some.injEq, V.lit.injEq, Value.int.injEq] at hx hy
  have := eq_of_beq h
  omega
 ·cases h
structure MkI where
 d : Nat
 s : Nat
 zero : List V
 n : Int
def mksV (τ : Tau) (ops : Array Oper) (j : Nat) (st : St) : Option MkI :=
 match opAt ops st j with
 | some o => match o.op, dstOf st o with
  | .makeSlice t l c, some d => match sliceOf τ t, evalV st l, evalV st c with
   | some (_, ti), some (.lit (.int _ n)), some (.lit (.int _ m)) => bif sameOp l c && Nat.beq ti.zero.length ti.size && Nat.ble ti.bytes 1024 then some ⟨d, ti.size, ti.zero, n⟩ else none
   | _, _, _ => none
  | _, _ => none
 | none => none
theorem opsP_mk (hT : TOK P τ) {ops : Array Oper} {Q : Exit → St → Prop} {j : Nat} {st : St} (d k : Nat) {n : Int} (z : α) {zs : List α} (hz : mkI n z = some zs) (h : mksV τ ops j st = some ⟨d, Enc.sz α, Enc.cells z, n⟩) (hkk : Nat.beq st.H.length k = true)
  (hk : opsP P Γ ops Q (j + 1) ({ st with H := setH st.H k (some ⟨0, eL zs⟩) }.set d (.ref k 0 0 (Enc.sz α) zs.length false))) : opsP P Γ ops Q j st := by
 have hkk := Nat.eq_of_beq_eq_true hkk
 subst hkk
 unfold mkI at hz
 split at hz
 ·rename_i hn
  cases hz
  unfold mksV at h
  split at h
  ·rename_i o ho
   split at h
   ·rename_i t l c d' hop hd
    split at h
    ·rename_i e ti kl n' kc m' hs hl hc
     cases hcc : (sameOp l c && Nat.beq ti.zero.length ti.size && Nat.ble ti.bytes 1024) with
     | false => rw [hcc] at h; cases h
     | true =>
      rw [hcc, cond_true] at h
      simp only [Option.some.injEq, MkI.mk.injEq] at h
      obtain ⟨rfl, hsz, hzero, rfl⟩ := h
      simp only [Bool.and_eq_true] at hcc
      obtain ⟨⟨hso, hzl⟩, hbytes⟩ := hcc
      have hso := sameOp_eq hso hl hc
      subst hso
      have hzl := Nat.eq_of_beq_eq_true hzl
      have hbytes := Nat.le_of_ble_eq_true hbytes
      have hd' := dstOf_spec hd
      have hat := opAt_spec ho
      refine opsP_op hat.op hat.wanted fun a w r Qc => ?_
      obtain ⟨h1, h2, M, μ, fp, G, O, hS⟩ := r
      obtain ⟨hu, hj⟩ := sliceOf_spec hT hs
      obtain ⟨inf, dd, zv, g1, g2, g3, g4, g5, g6, g7, g8, g9⟩ := hj
      have hlv := evalV_sound hS hl
      have hcv := evalV_sound hS hc
      simp only [Sl] at hlv hcv
      obtain ⟨N, hN⟩ : ∃ N : Nat, m' = (N : Int) := ⟨m'.toNat, by omega⟩
      subst hN
      have hb2 : (inf.bytes : Int) * (N : Int) ≤ 281474976710656 := by
       have e1 : inf.bytes * N ≤ 1024 * 68719476736 := Nat.mul_le_mul (by rw [g4]; exact hbytes) (by omega)
       have e2 : ((inf.bytes * N : Nat) : Int) ≤ 281474976710656 := by omega
       rwa [Int.natCast_mul] at e2
      have hrun := run_make (P := P) w t e inf zv hu g1 g5 kl kc N N (by omega) (Int.le_refl _) hb2 (by omega)
      simp only [Int.toNat_natCast] at hrun
      have hx : (execOp a.eval o).run P w = .ok (.value (.slice (some ⟨w.heap.size, 0, none⟩) N N)) (w.alloc (.cells (madeCells zv.cells (N * inf.size)) e)) := by
       simp only [execOp, hop, hlv, hcv]
       rw [Sem.run_bind, hrun]
       rfl
      have hpos : 0 < Enc.sz α := Enc.pos
      have hzc := g6 w M
      have hzs : zv.cells.size = Enc.sz α := by
       have := hzc.length
       simp only [Array.length_toList] at this
       omega
      have hms : (madeCells zv.cells (N * inf.size)).size = N * Enc.sz α := by rw [size_madeCells, g3, hsz]
      have hfr : FrL w M (eL (List.replicate N z)) (madeCells zv.cells (N * inf.size)).toList := by
       refine FrL.get_of ?_ fun i x u hi hu => ?_
       ·rw [eL_len, List.length_replicate, Array.length_toList, hms]
       ·have hilt : i < N * Enc.sz α := by
         have := (List.getElem?_eq_some_iff.1 hi).1
         rwa [eL_len, List.length_replicate] at this
        rw [eL_rep_get N z hilt] at hi
        rw [← hzero] at hi
        obtain ⟨v, hv1, hv2⟩ := hzc.get hi
        have hu' : u = v := by
         simp only [madeCells, Array.toList_map, Array.toList_range, List.getElem?_map, List.getElem?_range (show i < N * inf.size by rw [g3, hsz]; exact hilt), Option.map_some, Option.some.injEq] at hu
         rw [← hu, hzs]
         rw [Array.getElem?_toList] at hv1
         rw [getElem!_def, hv1]
        rw [hu']
        exact hv2
      obtain ⟨M', μ', fp', G', O', C, hm⟩ := new_block O (Kept.refl _ w) rfl (c := madeCells zv.cells (N * inf.size)) (e := e) (hfr.sl (H := st.H) (μ := μ)) (by simp) (fun j hj => by simp)
      simp only [Oper.wp, hx, Oper.upon]
      rw [Int.toNat_natCast] at hk
      refine ⟨_, hk, ?_⟩
      have hst : ∀ st' : St, st'.put o.dst (.ref st.H.length 0 0 (Enc.sz α) (List.replicate N z).length false) = st'.set d' (.ref st.H.length 0 0 (Enc.sz α) (List.replicate N z).length false) := fun st' => by rw [hd'.1]; rfl
      rw [← hst]
      refine R.step h1 h2 hS C O' (fun d2 hd2 => by rw [hd'.1] at hd2; cases hd2; exact hd'.2) fun _ => ?_
      simp only [Sl]
      refine ⟨?_, ⟨_, _, _, rfl⟩, fun blk hb => ?_⟩
      ·have := setH_same (H := st.H) (x := some ⟨0, eL (List.replicate N z)⟩) (Nat.le_refl _)
       exact (List.getElem?_eq_some_iff.1 this).1
      ·rw [setH_same (Nat.le_refl _)] at hb
       cases hb
       refine ⟨Nat.le_refl _, fun _ => ?_⟩
       rw [List.length_replicate]
       refine .inr ⟨_, N, madeCells zv.cells (N * inf.size), e, hm, rfl, hpos, Nat.le_refl _, by unfold maxI; omega, (fun h => by cases h), ?_, by rw [hms]; omega⟩
       show (w.heap.push _)[w.heap.size]? = _
       simp
    ·cases h
   ·cases h
  ·cases h
 ·cases hz
theorem CeL.refrz2 {w : World} {M : Nat → Prop} {H H' : Hp} {μ μ' : Nat → Option Nat} : ∀ {xs : List V} {vs : List Value} {fp : List Nat}, CeL w M H μ xs vs fp → xs.all frozenV = true → CeL w M H' μ' xs vs fp
 | [], vs, fp, h, _ => by simpa only [CeL] using h
 | c :: cs, vs, fp, h, hb => by
  simp only [List.all_cons, Bool.and_eq_true] at hb
  simp only [CeL] at h ⊢
  obtain ⟨u, us', f, f', rfl, rfl, h1, h2⟩ := h
  refine ⟨u, us', f, f', rfl, rfl, ?_, CeL.refrz2 h2 hb.2⟩
  rcases h1 with h1 | h1
  ·exact .inl h1
  ·refine .inr ⟨h1.1, ?_⟩
   have := h1.2
   cases c <;> simp_all [frozenV, Sl]
end
end Go.D
