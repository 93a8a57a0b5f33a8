import Derived.Test.YtamegkbinbplaaatlbDZero
set_option linter.unusedVariables false
namespace Go.D
def LentR (w : World) (M : Nat → Prop) (m : Option Nat) (cs : List V) : Prop :=
 match m with
 | some b => M b ∧ ∃ c e us, w.heap[b]? = some (.cells c e (0, 0)) ∧ FrL w M cs us ∧ Lies w b 0 us
 | none => cs = []
theorem LentR.nil {w : World} {M : Nat → Prop} {m : Option Nat} {cs : List V} (h : LentR w M m cs) : LentR w (fun x => M x ∨ x ∈ ([] : List Nat)) m cs := by
 have : (fun x => M x ∨ x ∈ ([] : List Nat)) = M := by funext x; simp
 rw [this]
 exact h
theorem RefR.isSlice {w : World} {m : Option Nat} {off s n : Nat} {full : Bool} {v : Value} (h : RefR w m off s n full v) : ∃ A q c, v = .slice A q c := by
 rcases h with ⟨A, rfl, _⟩ | ⟨b, cap, c, e, _, rfl, _⟩
 ·exact ⟨_, _, _, rfl⟩
 ·exact ⟨_, _, _, rfl⟩
section
variable {P : Program} {Γ : Ctx} {τ : Tau}
structure CallS where
 d : Nat
 g : FuncId
 pre : List V
 k : Nat
 ver : Nat
 s : Nat
 n : Nat
 cs : List V
 post : List V
def splitRef : List V → Option (List V × (Nat × Nat × Nat × Nat) × List V)
 | [] => none
 | .ref k ver 0 s n false :: r => some ([], (k, ver, s, n), r)
 | x :: r => match splitRef r with
  | some (a, b, c) => some (x :: a, b, c)
  | none => none
theorem splitRef_spec : ∀ {l pre post : List V} {k ver s n : Nat}, splitRef l = some (pre, (k, ver, s, n), post) → l = pre ++ .ref k ver 0 s n false :: post
 | [], _, _, _, _, _, _, h => by simp [splitRef] at h
 | x :: r, pre, post, k, ver, s, n, h => by
  unfold splitRef at h
  split at h
  ·cases h
  ·rename_i k' ver' s' n' r' heq
   simp only [List.cons.injEq] at heq
   obtain ⟨rfl, rfl⟩ := heq
   simp only [Option.some.injEq, Prod.mk.injEq] at h
   obtain ⟨rfl, ⟨rfl, rfl, rfl, rfl⟩, rfl⟩ := h
   rfl
  ·rename_i x' r' _ heq
   simp only [List.cons.injEq] at heq
   obtain ⟨rfl, rfl⟩ := heq
   split at h
   ·rename_i a b c hs
    simp only [Option.some.injEq, Prod.mk.injEq] at h
    obtain ⟨rfl, rfl, rfl⟩ := h
    rw [splitRef_spec hs]
    rfl
   ·cases h
def calS (τ : Tau) (ops : Array Oper) (j : Nat) (st : St) : Option CallS :=
 match callV τ ops j st with
 | some (d, g, zs) => match splitRef zs with
  | some (pre, (k, ver, s, n), post) => match blkAt st.H k ver with
   | some blk => some ⟨d, g, pre, k, ver, s, n, blk.cells, post⟩
   | none => none
  | none => none
 | none => none
end
end Go.D
