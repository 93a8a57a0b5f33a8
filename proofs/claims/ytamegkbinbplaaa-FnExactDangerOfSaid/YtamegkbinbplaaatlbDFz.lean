import Derived.Test.YtamegkbinbplaaatlbDWent
set_option linter.unusedVariables false
namespace Go.D
section
variable {P : Program} {Γ : Ctx} {τ : Tau}
def HStepM (Γ : Ctx) (H H' : Hp) : Prop := ∀ (w : World) (M : Nat → Prop) (μ : Nat → Option Nat) (fp : Nat → List Nat) (G : Nat → Option Nat), Own Γ M H w μ fp G →
 ∃ M' μ' fp' G', Own Γ M' H' w μ' fp' G' ∧ Carry w M H μ w M' H' μ'
theorem HStep.m {H H' : Hp} (h : HStep Γ H H') : HStepM Γ H H' := fun w M μ fp G O => by
 obtain ⟨μ', fp', G', O', C⟩ := h w M μ fp G O
 exact ⟨M, μ', fp', G', O', C⟩
theorem HStepM.fz {H H' : Hp} (k ver : Nat) {cells zs : List V} (hb : H[k]? = some (some ⟨ver, cells⟩)) (hc : cells.all ownC = true) (hfz : FzToL cells zs) (hl : zs.length = cells.length)
  (he : H.set k (some ⟨ver, zs⟩) = H') : HStepM Γ H H' := by
 classical
 intro w M μ fp G O
 have hkl := (List.getElem?_eq_some_iff.1 hb).1
 obtain ⟨m1, m2, m3⟩ := O.mine k _ hb
 have hbl := O.blk k _ hb
 have hget : ∀ j blk, H'[j]? = some (some blk) → (k = j ∧ blk = ⟨ver, zs⟩) ∨ (j ≠ k ∧ H[j]? = some (some blk)) := by
  intro j blk h
  rw [← he] at h
  by_cases e : j = k
  ·subst e
   rw [List.getElem?_set_self hkl] at h
   cases h
   exact .inl ⟨rfl, rfl⟩
  ·rw [List.getElem?_set_ne (fun e' => e e'.symm)] at h
   exact .inr ⟨e, h⟩
 let M' : Nat → Prop := fun b => M b ∧ b ∉ fp k
 let G' : Nat → Option Nat := fun b => if b ∈ fp k then none else G b
 let fp' : Nat → List Nat := fun j => if j = k then [] else fp j
 have hG' : ∀ b, G' b ≠ none → G b ≠ none ∧ b ∉ fp k := fun b h => by
  simp only [G'] at h
  split at h
  ·exact absurd rfl h
  ·exact ⟨h, by assumption⟩
 have C : Carry w M H μ w M' H' μ := ⟨Same.refl w M, fun b h => .inl h.1, by rw [← he, List.length_set]; exact Nat.le_refl _, fun j blk' hj h => by
  rcases hget j blk' h with ⟨rfl, rfl⟩ | ⟨_, h2⟩
  ·exact ⟨_, hb, Nat.le_refl _, fun _ => ⟨rfl, fun b _ => .of_eq rfl⟩⟩
  ·exact ⟨blk', h2, Nat.le_refl _, fun _ => ⟨rfl, fun b _ => .of_eq rfl⟩⟩⟩
 refine ⟨M', μ, fp', G', ⟨fun j blk h => ?_, fun j blk h => ?_, fun b h => ⟨O.sub b (hG' b h).1, (hG' b h).2⟩, fun b h => ⟨O.m0 b h, fun hbf => O.apart b (by rw [m2 b hbf]; simp) h⟩, fun b h => O.lt b h.1, fun b h => O.new b (hG' b h).1, fun b h => O.apart b (hG' b h).1, O.kept, fun i b hb' => ?_⟩, C⟩
 ·rcases hget j blk h with ⟨rfl, rfl⟩ | ⟨h0, h2⟩
  ·simp only [fp', if_true]
   cases hm : μ k with
   | none =>
    rw [hm] at hbl
    have h0 : cells = [] := hbl
    rw [h0] at hl
    exact List.length_eq_zero_iff.1 hl
   | some b =>
    rw [hm] at hbl
    obtain ⟨c, e, us, hh, hce, hlie⟩ := hbl
    have how := hce.owL hc
    exact ⟨c, e, us, hh, (hfz w M' M us (fp k) how (fun b h => h.1) (fun b hbf h => h.2 hbf)).ceL, hlie⟩
  ·simp only [fp', if_neg h0]
   exact (O.blk j blk h2).carry C (fun b _ => rfl) (fun b _ => rfl)
 ·rcases hget j blk h with ⟨rfl, rfl⟩ | ⟨h0, h2⟩
  ·simp only [fp', if_true]
   exact ⟨fun b e => ⟨by simp only [G', if_neg (m1 b e).2]; exact (m1 b e).1, by simp⟩, fun b hbf => by simp at hbf, List.nodup_nil⟩
  ·obtain ⟨g1, g2, g3⟩ := O.mine j blk h2
   have hj : ∀ b, G b = some j → b ∉ fp k := fun b hg hbf => by
    rw [m2 b hbf] at hg
    cases hg
    exact h0 rfl
   simp only [fp', if_neg h0]
   exact ⟨fun b e => ⟨by simp only [G', if_neg (hj b (g1 b e).1)]; exact (g1 b e).1, (g1 b e).2⟩, fun b hbf => by simp only [G', if_neg (hj b (g2 b hbf))]; exact g2 b hbf, g3⟩
 ·obtain ⟨p1, ⟨blk, p2⟩, p3⟩ := O.pin i b hb'
  refine ⟨p1, ?_, p3⟩
  by_cases e : i = k
  ·subst e
   exact ⟨⟨ver, zs⟩, by rw [← he, List.getElem?_set_self hkl]⟩
  ·exact ⟨blk, by rw [← he, List.getElem?_set_ne (fun e' => e e'.symm)]; exact p2⟩
end
end Go.D
