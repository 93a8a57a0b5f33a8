import Derived.Test.YtpngnbmfhnjjmaaGreatLooDOwn2
import Derived.Laws.Concat
import Derived.Laws.BytesString
set_option linter.unusedVariables false
namespace Go.D
theorem FrL.get_of {w : World} {M : Nat → Prop} : ∀ {xs : List V} {us : List Value}, xs.length = us.length → (∀ (i : Nat) x u, xs[i]? = some x → us[i]? = some u → Fr w M x u) → FrL w M xs us
  | [], [], _, _ => by simp only [FrL]
  | [], u :: us, h, _ => by simp at h
  | x :: xs, [], h, _ => by simp at h
  | x :: xs, u :: us, h, k => by
    simp only [FrL]
    exact ⟨u, us, rfl, k 0 x u rfl rfl, FrL.get_of (by simpa using h) fun i y v h1 h2 => k (i + 1) y v (by simpa using h1) (by simpa using h2)⟩
section
variable {P : Program} {Γ : Ctx} {τ : Tau} {α : Type} [Enc α]
theorem eL_rep_get (n : Nat) (z : α) {q : Nat} (hq : q < n * Enc.sz α) : (eL (List.replicate n z))[q]? = (Enc.cells z)[q % Enc.sz α]? := by
  have hp : 0 < Enc.sz α := Enc.pos
  have h1 : q / Enc.sz α < n := Nat.div_lt_of_lt_mul (by rwa [Nat.mul_comm])
  have h2 : (List.replicate n z)[q / Enc.sz α]? = some z := by rw [List.getElem?_replicate, if_pos h1]
  have h3 := eL_nth h2 (Nat.mod_lt q hp)
  have h4 : q / Enc.sz α * Enc.sz α + q % Enc.sz α = q := by rw [Nat.mul_comm]; exact Nat.div_add_mod q _
  rw [h4] at h3
  exact h3
structure MkI where
  d : Nat
  s : Nat
  zero : List V
  n : Int
def appT (xs ys : List α) (n : Nat) : Option (List α) := if n + ys.length < 68719476736 then some (xs.take n ++ ys) else none
theorem opsP_apt (hT : TOK P τ) {ops : Array Oper} {Q : Exit → St → Prop} {j : Nat} {st : St} (d k ver n : Nat) (hpin : ∀ i b, Γ.L i b → k ≠ i) {xs ys zs : List α} (hz : appT xs ys n = some zs) (hle : n ≤ xs.length)
    (h : appV τ ops j st = some ⟨d, k, ver, Enc.sz α, n, eL xs, ys.length, eL ys⟩)
    (hk : opsP P Γ ops Q (j + 1) ({ st with H := setH st.H k (some ⟨ver + 1, eL zs⟩) }.set d (.ref k (ver + 1) 0 (Enc.sz α) zs.length false))) : opsP P Γ ops Q j st := by
  unfold appT at hz
  split at hz
  · rename_i hlen
    cases hz
    unfold appV at h
    split at h
    · rename_i o ho
      split at h
      · rename_i c d' hop hd
        split at h
        · rename_i y x t tx hc ha hat
          split at h
          · rename_i e ti e' ti' k' ver' s n f s' m ns f' ht htx hy hx
            split at h
            · rename_i blk hb
              cases hcc : (Nat.beq e e' && Nat.beq ti.size s && Nat.beq s' s && Nat.beq ti'.size ti.size && Nat.beq ti.zero.length ti.size && Nat.ble ti.bytes 1024) with
              | false => rw [hcc] at h; cases h
              | true =>
                rw [hcc, cond_true] at h
                simp only [Option.some.injEq, AppI.mk.injEq] at h
                obtain ⟨rfl, rfl, rfl, rfl, rfl, hcs, rfl, rfl⟩ := h
                simp only [Bool.and_eq_true] at hcc
                obtain ⟨⟨⟨⟨⟨c1, c2⟩, c3⟩, c4⟩, c5⟩, c6⟩ := hcc
                have c1 := Nat.eq_of_beq_eq_true c1
                subst c1
                have c2 := Nat.eq_of_beq_eq_true c2
                have c3 := Nat.eq_of_beq_eq_true c3
                have c5 := Nat.eq_of_beq_eq_true c5
                subst c3
                have hti : ti = ti' := by
                  have h1 := sliceOf_elem ht
                  have h2 := sliceOf_elem htx
                  rw [h1] at h2
                  exact Option.some.inj h2
                subst hti
                have hd' := dstOf_spec hd
                have ho' := opAt_spec ho
                refine opsP_op ho'.op ho'.wanted (opP_append (cells' := eL (xs.take n ++ ys)) hT hpin hop hc ha hat ht htx c2 c5 c6 (fun a w M μ hS => evalV_sound hS hy) hb ?_ hx (eL_one ys) hlen ?_ hd'.1 (Nat.ble_eq_true_of_le hd'.2) ?_)
                · rw [hcs, eL_len]; exact Nat.mul_le_mul_right _ hle
                · rw [hcs, eL_take, ← eL_append]
                · have : (xs.take n ++ ys).length = n + ys.length := by rw [List.length_append, List.length_take, Nat.min_eq_left hle]
                  rw [this] at hk
                  exact hk
            · cases h
          · cases h
        · cases h
      · cases h
    · cases h
  · cases hz
theorem CeL.refrz2 {w : World} {M : Nat → Prop} {H H' : Hp} {μ μ' : Nat → Option Nat} : ∀ {xs : List V} {vs : List Value} {fp : List Nat}, CeL w M H μ xs vs fp → xs.all frozenV = true → CeL w M H' μ' xs vs fp
  | [], vs, fp, h, _ => by simpa only [CeL] using h
  | c :: cs, vs, fp, h, hb => by
    simp only [List.all_cons, Bool.and_eq_true] at hb
    simp only [CeL] at h ⊢
    obtain ⟨u, us', f, f', rfl, rfl, h1, h2⟩ := h
    refine ⟨u, us', f, f', rfl, rfl, ?_, CeL.refrz2 h2 hb.2⟩
    rcases h1 with h1 | h1
    · exact .inl h1
    · refine .inr ⟨h1.1, ?_⟩
      have := h1.2
      cases c <;> simp_all [frozenV, Sl]
end
end Go.D
