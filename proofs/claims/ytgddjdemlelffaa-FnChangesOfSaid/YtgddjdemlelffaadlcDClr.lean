import Derived.Test.YtgddjdemlelffaadlcDLst
set_option linter.unusedVariables false
namespace Go.D
def nilqV (τ : Tau) (ops : Array Oper) (j : Nat) (st : St) : Option (Nat × List V) :=
 match opAt ops st j with
 | some o => match o.op, dstOf st o with
  | .binOp .eql t x y _, some d => match sliceOf τ t, evalV st x, y with
   | some _, some (.arr s n cs full), .const (.slice none 0 0) => some (d, cs)
   | _, _, _ => none
  | _, _ => none
 | none => none
section
variable {P : Program} {Γ : Ctx} {τ : Tau} {α : Type} [Enc α]
theorem opsP_nilq (hT : TOK P τ) {ops : Array Oper} {Q : Exit → St → Prop} {j : Nat} {st : St} (d : Nat) {xs : List α} (h : nilqV τ ops j st = some (d, eL xs)) (hk : ∀ b : Bool, (b = true → xs = []) → opsP P Γ ops Q (j + 1) (st.put (some d) (B b))) : opsP P Γ ops Q j st := by
 unfold nilqV at h
 split at h
 ·rename_i o ho
  split at h
  ·rename_i t x y rt d' hop hd
   split at h
   ·rename_i et s n cs full ht hx
    cases h
    obtain ⟨hd1, hd2⟩ := dstOf_spec hd
    obtain ⟨hu, _⟩ := sliceOf_spec hT ht
    have hat := opAt_spec ho
    refine opsP_op hat.op hat.wanted ?_
    intro a w r Qc
    obtain ⟨h1, h2, M, μ, fp, G, O, hS⟩ := r
    have hxv := evalV_sound hS hx
    simp only [Sl, Fr] at hxv
    obtain ⟨A, cap, hv, hdr, hcase⟩ := hxv
    have hb : A.isNone = true → xs = [] := fun hn => by
     rcases hcase with hc | ⟨b, o', us, hA, _⟩
     ·have := eL_len xs
      rw [hc] at this
      have hp : 0 < Enc.sz α := Enc.pos
      have : xs.length * Enc.sz α = 0 := by rw [← this]; rfl
      rcases Nat.mul_eq_zero.1 this with q | q
      ·exact List.eq_nil_of_length_eq_zero q
      ·omega
     ·rw [hA] at hn
      cases hn
    have hrun : (execOp a.eval o).run P w = .ok (.value (.bool A.isNone)) w := by
     have he : (binOp .eql t (.slice A n cap) (.slice none 0 0) : Sem Value).run P w = .ok (.bool A.isNone) w := by
      have hq : ∀ d, (Op.equalIn (d + 1) t (.slice A n cap) (.slice none 0 0)).run P w = .ok A.isNone w := fun d => by cases A <;> simp [Op.equalIn, run_underlying hu]
      simp only [binOp]
      simp [Op.equal, Op.maxDepth, hq 9999]
     have hcn : a.eval (.const (.slice none 0 0)) = .slice none 0 0 := rfl
     have hgd : ∀ x y : Operand, (eqGuard .eql t x y (.slice A n cap) (.slice none 0 0) : Sem Unit).run P w = .ok () w := fun x y => by simp [eqGuard]
     rw [execOp, hop]
     simp only [hv, hcn, Sem.run_bind, hgd, Sem.run_pure, he, Result.andThen_ok]
    simp only [Oper.wp, hrun, Oper.upon]
    refine ⟨_, hk A.isNone hb, ?_⟩
    rw [hd1]
    have hg : Grew w w := Kept.refl _ w
    exact R.step (H' := st.H) (d := some d) h1 h2 hS (Grew.carry hg _ _ _ fun k blk hb => O.born_lt k blk hb) (O.grew (Kept.refl _ w)) (fun d' e => by cases e; exact hd2) fun _ => by simp only [Sl]
   ·cases h
  ·cases h
 ·cases h
omit [Enc α] in
theorem clone_nil {y : List α} (h : ((app ([] : List α) []).bind fun v => some v) = some y) : some ([] : List α) = some y := by
 have e : app ([] : List α) [] = some [] := if_pos (by simp)
 rw [e] at h
 exact h
end
structure ClrI where
 k : Nat
 ver : Nat
 off : Nat
 s : Nat
 n : Nat
 z : List V
 cs : List V
section
variable {P : Program} {Γ : Ctx} {τ : Tau} {α : Type} [Enc α]
theorem zero_cells {z : Array Value} {s : Nat} (hz : z.size = s) (hs : 0 < s) : ∀ n, (Builtin.zeroCells z n).toList = (List.replicate n z.toList).flatten := by
 intro n
 unfold Builtin.zeroCells
 rw [Array.toList_map, Array.toList_range, hz]
 induction n with
 | zero => simp
 | succ n ih =>
  have e : (n + 1) * s = n * s + s := by rw [Nat.add_mul, Nat.one_mul]
  rw [e, List.range_add, List.map_append, ih, List.replicate_succ', List.flatten_append]
  congr 1
  simp only [List.flatten_cons, List.flatten_nil, List.append_nil, List.map_map]
  apply List.ext_getElem
  ·simp [hz]
  ·intro i h1 h2
   have hi : i < s := by simpa using h1
   simp only [List.getElem_map, List.getElem_range, Function.comp_apply, Array.getElem_toList]
   have : (n * s + i) % s = i := by rw [Nat.mul_comm, Nat.mul_add_mod]; exact Nat.mod_eq_of_lt hi
   rw [this, getElem!_pos z i (by omega)]
end
end Go.D
