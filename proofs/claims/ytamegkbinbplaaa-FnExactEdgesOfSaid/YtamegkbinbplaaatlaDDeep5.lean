import Derived.Test.YtamegkbinbplaaatlaDDeep4
set_option linter.unusedVariables false
namespace Go.D
section
variable {P : Program} {Γ : Ctx} {τ : Tau}
theorem HStep.cut {H H' : Hp} (k ver : Nat) {A B : List V} (hb : H[k]? = some (some ⟨ver, A ++ B⟩)) (he : H.set k (some ⟨ver, A⟩) = H') : HStep Γ H H' := by
 subst he
 intro w M μ fp G O
 have hkl := (List.getElem?_eq_some_iff.1 hb).1
 have hs : (H.set k (some (⟨ver, A⟩ : Blk)))[k]? = some (some ⟨ver, A⟩) := by rw [List.getElem?_set_self hkl]
 have hot : ∀ j, j ≠ k → (H.set k (some (⟨ver, A⟩ : Blk)))[j]? = H[j]? := fun j h => List.getElem?_set_ne (fun e => h e.symm)
 have C : Carry w M H μ w M (H.set k (some ⟨ver, A⟩)) μ := ⟨Same.refl w M, fun b h => .inl h, by simp, fun j blk' hj h => by
  by_cases hjk : j = k
  ·subst hjk; rw [hs] at h; cases h; exact ⟨_, hb, Nat.le_refl _, fun _ => ⟨rfl, fun b _ => .of_eq rfl⟩⟩
  ·rw [hot j hjk] at h; exact ⟨blk', h, Nat.le_refl _, fun _ => ⟨rfl, fun b _ => .of_eq rfl⟩⟩⟩
 have hbl := O.blk k _ hb
 obtain ⟨m1, m2, m3⟩ := O.mine k _ hb
 obtain ⟨fk, hfk1, hfk2⟩ : ∃ fk, BlkR w M (H.set k (some ⟨ver, A⟩)) μ (μ k) ⟨ver, A⟩ fk ∧ fk.Sublist (fp k) := by
  cases hm : μ k with
  | none =>
   rw [hm] at hbl
   have h0 : A ++ B = [] := hbl
   simp only [List.append_eq_nil_iff] at h0
   exact ⟨[], h0.1, List.nil_sublist _⟩
  | some b =>
   rw [hm] at hbl
   obtain ⟨c, e, us, hh, hce, hlie⟩ := hbl
   simp only at hce
   obtain ⟨f1, f2, hf, hA, hr⟩ := hce.split A.length
   rw [List.take_left] at hA
   refine ⟨f1, ⟨c, e, us.take A.length, hh, hA.carry C (fun _ _ => rfl), ?_⟩, by rw [hf]; exact List.sublist_append_left _ _⟩
   have := hlie.sub 0 A.length
   simpa using this
 refine ⟨μ, updN fp k fk, G, ⟨fun j blk hj => ?_, fun j blk hj => ?_, O.sub, O.m0, O.lt, O.new, O.apart, O.kept, fun i b hb' => ⟨(O.pin i b hb').1, ?_, (O.pin i b hb').2.2⟩⟩, C⟩
 ·by_cases hjk : j = k
  ·subst hjk
   rw [hs] at hj
   cases hj
   simp only [updN, if_true]
   exact hfk1
  ·rw [hot j hjk] at hj
   simp only [updN, if_neg hjk]
   exact (O.blk j blk hj).carry C (fun b _ => rfl) (fun b _ => rfl)
 ·by_cases hjk : j = k
  ·subst hjk
   simp only [updN, if_true]
   exact ⟨fun b e => ⟨(m1 b e).1, fun h => (m1 b e).2 (hfk2.subset h)⟩, fun b h => m2 b (hfk2.subset h), m3.sublist hfk2⟩
  ·rw [hot j hjk] at hj
   simp only [updN, if_neg hjk]
   exact O.mine j blk hj
 ·obtain ⟨_, ⟨blk, p2⟩, _⟩ := O.pin i b hb'
  by_cases hjk : i = k
  ·subst hjk; exact ⟨_, hs⟩
  ·exact ⟨blk, by rw [hot i hjk]; exact p2⟩
def RvS (k v : Nat) : List (Nat × V) → List (Nat × V) → Prop
 | [], l => l = []
 | (s, x) :: r, l => ∃ y r', l = (s, y) :: r' ∧ (rvV k v x = some y ∨ x = y ∧ frz x = true) ∧ RvS k v r r'
theorem RvS.nil {k v : Nat} : RvS k v [] [] := rfl
theorem RvS.c {k v s : Nat} {x y : V} {r r' : List (Nat × V)} (h : rvV k v x = some y) (t : RvS k v r r') : RvS k v ((s, x) :: r) ((s, y) :: r') := ⟨y, r', rfl, .inl h, t⟩
theorem RvS.f {k v s : Nat} {x : V} {r r' : List (Nat × V)} (h : frz x = true) (t : RvS k v r r') : RvS k v ((s, x) :: r) ((s, x) :: r') := ⟨x, r', rfl, .inr ⟨rfl, h⟩, t⟩
end
end Go.D
