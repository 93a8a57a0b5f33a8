import Derived.Test.YtgggakgdkonngaaGreatThrDPart
set_option linter.unusedVariables false
namespace Go.D
section
variable {P : Program} {Γ : Ctx} {τ : Tau}
structure CallX where
 d : Nat
 g : FuncId
 k : Nat
 ver : Nat
 cs : List V
 pre : List V
 k2 : Nat
 ver2 : Nat
 s : Nat
 n : Nat
 ls : List V
 post : List V
end
section
variable {P : Program} {Γ : Ctx} {τ : Tau} {α : Type} [Enc α]
end
def apmRV (τ : Tau) (ops : Array Oper) (j : Nat) (st : St) : Option AppI :=
 match opAt ops st j with
 | some o => match o.op, dstOf st o with
  | .call c, some d => match c.callee, c.args.toList, c.argTypes.toList with
   | .builtin .append, [y, x], [t, tx] => match sliceOf τ t, sliceOf τ tx, evalV st y, evalV st x with
    | some (e, ti), some (e', ti'), some (.arr s0 0 [] true), some (.ref k2 v2 0 s' m _) =>
     match blkAt st.H k2 v2 with
     | some blk2 => bif Nat.beq e e' && Nat.beq s' ti.size && Nat.blt 0 ti.size && Nat.beq ti.zero.length ti.size && Nat.ble ti.bytes 1024 then some ⟨d, st.H.length, 0, s', 0, [], m, blk2.cells⟩ else none
     | none => none
    | _, _, _, _ => none
   | _, _, _ => none
  | _, _ => none
 | none => none
section
variable {P : Program} {Γ : Ctx} {τ : Tau} {α : Type} [Enc α]
theorem apmR_E (hT : TOK P τ) {ops : Array Oper} {j : Nat} {st : St} (d k ver N : Nat) (hpin : ∀ i b, Γ.L i b → k ≠ i) {ys zs : List α} (hz : app [] ys = some zs) {blk : Blk} (hb : blkAt st.H k ver = some blk)
  (h : apmRV τ ops j st = some ⟨d, N, 0, Enc.sz α, 0, [], ys.length, eL ys⟩) : CoreE P Γ ops j st (some d) (setH st.H k (some ⟨ver + 1, eL zs⟩)) (.ref k (ver + 1) 0 (Enc.sz α) zs.length false) := by
 unfold app at hz
 split at hz
 ·rename_i hlen
  cases hz
  unfold apmRV at h
  split at h
  ·rename_i o ho
   split at h
   ·rename_i c d' hop hd
    split at h
    ·rename_i y x t tx hc ha hat
     split at h
     ·rename_i e ti e' ti' s0 k2 v2 s' m f' ht htx hy hx
      split at h
      ·rename_i blk2 hb2
       cases hcc : (Nat.beq e e' && Nat.beq s' ti.size && Nat.blt 0 ti.size && Nat.beq ti.zero.length ti.size && Nat.ble ti.bytes 1024) with
       | false => rw [hcc] at h; cases h
       | true =>
        rw [hcc, cond_true] at h
        simp only [Option.some.injEq, AppI.mk.injEq] at h
        obtain ⟨rfl, _, _, rfl, _, _, rfl, hns⟩ := h
        simp only [Bool.and_eq_true] at hcc
        obtain ⟨⟨⟨⟨c1, c2⟩, c3⟩, c5⟩, c6⟩ := hcc
        have hb2' : blkAt st.H k2 v2 = some ⟨v2, eL ys⟩ := by
         have := (Zap hb2).2
         rw [hb2, ← hns, ← this]
        have c1 := Nat.eq_of_beq_eq_true c1
        subst c1
        have c2 := Nat.eq_of_beq_eq_true c2
        have c5 := Nat.eq_of_beq_eq_true c5
        have hti : ti = ti' := by
         have h1 := sliceOf_elem ht
         have h2 := sliceOf_elem htx
         rw [h1] at h2
         exact Option.some.inj h2
        subst hti
        have hd' := Zam hd
        obtain ⟨b1, b2⟩ := Zap hb
        have hkl : k < st.H.length := (List.getElem?_eq_some_iff.1 b1).1
        have hx' : evalV st x = some (.ref k2 v2 0 ti.size ys.length f') := by rw [← c2]; exact hx
        have := append_yldG (Γ := Γ) (st := st) (ns := eL ys) (cells' := eL ys) (blk := blk) (n := 0) (s := Enc.sz α) (k := k) (ver := ver) (full := false) hT hpin hop hc ha hat ht htx c2.symm c5 c6 (fun a w M μ hS => ?_) hb (by simp) (append_srcR hT htx rfl hx' hb2' (by rw [← c2]; exact (eL_len ys).symm) (eL_frz _) (eL_one ys)) (by simpa using hlen) (by simp)
        ·rw [Nat.zero_add] at this
         exact ⟨o, Zav ho, hd'.1, (fun d e => by cases e; exact hd'.2), this⟩
        ·simp only [Sl]
         refine ⟨hkl, ?_, fun blk' hb' => ?_⟩
         ·have hyv := Zo hS hy
          simp only [Sl, Fr] at hyv
          obtain ⟨A, cap, hv, _⟩ := hyv
          exact ⟨_, _, _, hv⟩
         rw [b1] at hb'
         cases hb'
         have hyv := Zo hS hy
         simp only [Sl, Fr] at hyv
         obtain ⟨A, cap, hv, ⟨_, _, _, _, hfull⟩, _⟩ := hyv
         have := hfull rfl
         subst this
         exact ⟨by omega, fun _ => .inl ⟨A, hv, rfl, Enc.pos⟩⟩
      ·cases h
     ·cases h
    ·cases h
   ·cases h
  ·cases h
 ·cases hz
end
theorem pn {Γ : Ctx} {n k : Nat} (hL : ∀ i b, Γ.L i b → i < n) (h : Nat.ble n k = true := by rfl) : ∀ i b, Γ.L i b → k ≠ i := fun i b hb e => by
 have := hL i b hb
 have := Nat.le_of_ble_eq_true h
 omega
theorem py {Γ Γ' : Ctx} {n k : Nat} (hΓ : ∀ i b, Γ'.L i b → Γ.L i b) (hL : ∀ i b, Γ.L i b → i < n) (h : Nat.ble n k = true := by rfl) : ∀ i b, Γ'.L i b → k ≠ i := pn (fun i b hb => hL i b (hΓ i b hb)) h
theorem pk {Γ : Ctx} {n : Nat} {ks : List Nat} (hL : ∀ i b, Γ.L i b → i < n) (h : ks.all (Nat.ble n) = true := by rfl) : ∀ i b, Γ.L i b → i ∉ ks := fun i b hb hi => by
 have := hL i b hb
 have := Nat.le_of_ble_eq_true (List.all_eq_true.1 h i hi)
 omega
theorem pky {Γ Γ' : Ctx} {n : Nat} {ks : List Nat} (hΓ : ∀ i b, Γ'.L i b → Γ.L i b) (hL : ∀ i b, Γ.L i b → i < n) (h : ks.all (Nat.ble n) = true := by rfl) : ∀ i b, Γ'.L i b → i ∉ ks := pk (fun i b hb => hL i b (hΓ i b hb)) h
theorem pl {Γ : Ctx} {n k : Nat} (hL : ∀ i b, Γ.L i b → i < n) (h : Nat.ble n k = true := by rfl) : ∀ i b, Γ.L i b → i < k := fun i b hb => Nat.lt_of_lt_of_le (hL i b hb) (Nat.le_of_ble_eq_true h)
theorem p01 {Γ : Ctx} {H : Hp} (hL : ∀ i b, Γ.L i b → i < 1) {blk : Blk} (h : H[0]? = some (some blk) := by exact rfl) : ∀ i b, Γ.L i b → ∃ blk, H[i]? = some (some blk) := fun i b hb => by
 have : i = 0 := by have := hL i b hb; omega
 subst this
 exact ⟨_, h⟩
end Go.D
