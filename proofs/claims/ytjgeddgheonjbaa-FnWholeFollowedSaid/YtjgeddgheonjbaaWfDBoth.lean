import Derived.Test.YtjgeddgheonjbaaWfDPart
set_option linter.unusedVariables false
namespace Go.D
def backH (w : World) : List Nat → Array Obj → Array Obj
 | [], h => h
 | b :: r, h => match w.heap[b]? with
  | some o => (backH w r h).setIfInBounds b o
  | none => backH w r h
def back (w w' : World) (bs : List Nat) : World := { w' with heap := backH w bs w'.heap }
section
variable {P : Program} {Γ : Ctx} {τ : Tau}
structure CallX where
 d : Nat
 g : FuncId
 k : Nat
 ver : Nat
 cs : List V
 pre : List V
 k2 : Nat
 ver2 : Nat
 s : Nat
 n : Nat
 ls : List V
 post : List V
end
def apRV (τ : Tau) (ops : Array Oper) (j : Nat) (st : St) : Option AppI :=
 match opAt ops st j with
 | some o => match o.op, dstOf st o with
  | .call c, some d => match c.callee, c.args.toList, c.argTypes.toList with
   | .builtin .append, [y, x], [t, tx] => match sliceOf τ t, sliceOf τ tx, evalV st y, evalV st x with
    | some (e, ti), some (e', ti'), some (.ref k ver 0 s n _), some (.ref k2 v2 0 s' m _) =>
     match blkAt st.H k ver, blkAt st.H k2 v2 with
     | some blk, some blk2 => bif Nat.beq e e' && Nat.beq ti.size s && Nat.beq s' s && Nat.beq ti'.size ti.size && Nat.beq ti.zero.length ti.size && Nat.ble ti.bytes 1024 then some ⟨d, k, ver, s, n, blk.cells, m, blk2.cells⟩ else none
     | _, _ => none
    | _, _, _, _ => none
   | _, _, _ => none
  | _, _ => none
 | none => none
section
variable {P : Program} {Γ : Ctx} {τ : Tau} {α : Type} [Enc α]
theorem apR_E (hT : TOK P τ) {ops : Array Oper} {j : Nat} {st : St} (d k ver n : Nat) (hpin : ∀ i b, Γ.L i b → k ≠ i) {xs ys zs : List α} (hz : appT xs ys n = some zs) (hle : n ≤ xs.length)
  (h : apRV τ ops j st = some ⟨d, k, ver, Enc.sz α, n, eL xs, ys.length, eL ys⟩) : CoreE P Γ ops j st (some d) (setH st.H k (some ⟨ver + 1, eL zs⟩)) (.ref k (ver + 1) 0 (Enc.sz α) zs.length false) := by
 unfold appT at hz
 split at hz
 ·rename_i hlen
  cases hz
  unfold apRV at h
  split at h
  ·rename_i o ho
   split at h
   ·rename_i c d' hop hd
    split at h
    ·rename_i y x t tx hc ha hat
     split at h
     ·rename_i e ti e' ti' k' ver' s n f k2 v2 s' m f' ht htx hy hx
      split at h
      ·rename_i blk blk2 hb hb2
       cases hcc : (Nat.beq e e' && Nat.beq ti.size s && Nat.beq s' s && Nat.beq ti'.size ti.size && Nat.beq ti.zero.length ti.size && Nat.ble ti.bytes 1024) with
       | false => rw [hcc] at h; cases h
       | true =>
        rw [hcc, cond_true] at h
        simp only [Option.some.injEq, AppI.mk.injEq] at h
        obtain ⟨rfl, rfl, rfl, rfl, rfl, hcs, rfl, hns⟩ := h
        simp only [Bool.and_eq_true] at hcc
        obtain ⟨⟨⟨⟨⟨c1, c2⟩, c3⟩, c4⟩, c5⟩, c6⟩ := hcc
        have hb2' : blkAt st.H k2 v2 = some ⟨v2, eL ys⟩ := by
         have := (blkAt_spec hb2).2
         rw [hb2, ← hns, ← this]
        have c1 := Nat.eq_of_beq_eq_true c1
        subst c1
        have c2 := Nat.eq_of_beq_eq_true c2
        have c3 := Nat.eq_of_beq_eq_true c3
        have c5 := Nat.eq_of_beq_eq_true c5
        subst c3
        have hti : ti = ti' := by
         have h1 := sliceOf_elem ht
         have h2 := sliceOf_elem htx
         rw [h1] at h2
         exact Option.some.inj h2
        subst hti
        have hd' := dstOf_spec hd
        have : (xs.take n ++ ys).length = n + ys.length := by rw [List.length_append, List.length_take, Nat.min_eq_left hle]
        rw [this]
        refine ⟨o, opAt_spec ho, hd'.1, (fun d e => by cases e; exact hd'.2), append_yldG (ns := eL ys) hT hpin hop hc ha hat ht htx c2 c5 c6 (fun a w M μ hS => evalV_sound hS hy) hb ?_ (append_srcR hT htx c2 hx hb2' (eL_len ys).symm (eL_frz _) (eL_one ys)) hlen ?_⟩
        ·rw [hcs, eL_len]; exact Nat.mul_le_mul_right _ hle
        ·rw [hcs, eL_take, ← eL_append]
      ·cases h
     ·cases h
    ·cases h
   ·cases h
  ·cases h
 ·cases hz
end
section
variable {P : Program} {Γ : Ctx} {τ : Tau} {α : Type} [Enc α]
end
theorem pn {Γ : Ctx} {n k : Nat} (hL : ∀ i b, Γ.L i b → i < n) (h : Nat.ble n k = true := by rfl) : ∀ i b, Γ.L i b → k ≠ i := fun i b hb e => by
 have := hL i b hb
 have := Nat.le_of_ble_eq_true h
 omega
theorem py {Γ Γ' : Ctx} {n k : Nat} (hΓ : ∀ i b, Γ'.L i b → Γ.L i b) (hL : ∀ i b, Γ.L i b → i < n) (h : Nat.ble n k = true := by rfl) : ∀ i b, Γ'.L i b → k ≠ i := pn (fun i b hb => hL i b (hΓ i b hb)) h
theorem pk {Γ : Ctx} {n : Nat} {ks : List Nat} (hL : ∀ i b, Γ.L i b → i < n) (h : ks.all (Nat.ble n) = true := by rfl) : ∀ i b, Γ.L i b → i ∉ ks := fun i b hb hi => by
 have := hL i b hb
 have := Nat.le_of_ble_eq_true (List.all_eq_true.1 h i hi)
 omega
theorem pky {Γ Γ' : Ctx} {n : Nat} {ks : List Nat} (hΓ : ∀ i b, Γ'.L i b → Γ.L i b) (hL : ∀ i b, Γ.L i b → i < n) (h : ks.all (Nat.ble n) = true := by rfl) : ∀ i b, Γ'.L i b → i ∉ ks := pk (fun i b hb => hL i b (hΓ i b hb)) h
theorem pl {Γ : Ctx} {n k : Nat} (hL : ∀ i b, Γ.L i b → i < n) (h : Nat.ble n k = true := by rfl) : ∀ i b, Γ.L i b → i < k := fun i b hb => Nat.lt_of_lt_of_le (hL i b hb) (Nat.le_of_ble_eq_true h)
end Go.D
