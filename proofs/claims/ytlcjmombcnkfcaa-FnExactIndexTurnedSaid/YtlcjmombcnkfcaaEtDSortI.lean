import Derived.Test.YtlcjmombcnkfcaaEtDPart
import Derived.Shelf.Sort.Plain
import Derived.Shelf.Slices.CompactI
import Derived.Shelf.Slices.In.SortNone
set_option linter.unusedVariables false
namespace Go.D
section
variable {P : Program} {Γ : Ctx} {τ : Tau}
structure CallX where
 d : Nat
 g : FuncId
 k : Nat
 ver : Nat
 cs : List V
 pre : List V
 k2 : Nat
 ver2 : Nat
 s : Nat
 n : Nat
 ls : List V
 post : List V
end
section
variable {P : Program} {Γ : Ctx} {τ : Tau} {α : Type} [Enc α]
end
section
variable {P : Program} {Γ : Ctx} {τ : Tau} {α : Type} [Enc α]
end
theorem pn {Γ : Ctx} {n k : Nat} (hL : ∀ i b, Γ.L i b → i < n) (h : Nat.ble n k = true := by rfl) : ∀ i b, Γ.L i b → k ≠ i := fun i b hb e => by
 have := hL i b hb
 have := Nat.le_of_ble_eq_true h
 omega
theorem pk {Γ : Ctx} {n : Nat} {ks : List Nat} (hL : ∀ i b, Γ.L i b → i < n) (h : ks.all (Nat.ble n) = true := by rfl) : ∀ i b, Γ.L i b → i ∉ ks := fun i b hb hi => by
 have := hL i b hb
 have := Nat.le_of_ble_eq_true (List.all_eq_true.1 h i hi)
 omega
theorem pl {Γ : Ctx} {n k : Nat} (hL : ∀ i b, Γ.L i b → i < n) (h : Nat.ble n k = true := by rfl) : ∀ i b, Γ.L i b → i < k := fun i b hb => Nat.lt_of_lt_of_le (hL i b hb) (Nat.le_of_ble_eq_true h)
end Go.D
set_option linter.unusedVariables false
namespace Go.D
section
variable {P : Program} {Γ : Ctx} {τ : Tau}
structure CallAt0 (τ : Tau) (ops : Array Oper) (j : Nat) (st : St) (g : FuncId) (zs : List V) (o : Oper) (c : Call) (y : Operand) (xs caps : List V) : Prop where
 at_ : AtOp ops st j o
 op : o.op = .call c
 callee : c.callee = .value y
 dst : o.dst = none
 fn : evalV st y = some (.fn g caps)
 args : evalArgs τ st c.args.toList c.argTypes.toList = some xs
 all : zs = xs.map soft ++ caps
end
end Go.D
set_option linter.unusedVariables false
namespace Go.D
section
variable {P : Program} {Γ : Ctx} {τ : Tau}
def HStepM (Γ : Ctx) (H H' : Hp) : Prop := ∀ (w : World) (M : Nat → Prop) (μ : Nat → Option Nat) (fp : Nat → List Nat) (G : Nat → Option Nat), Own Γ M H w μ fp G →
 ∃ M' μ' fp' G', Own Γ M' H' w μ' fp' G' ∧ Carry w M H μ w M' H' μ'
theorem HStep.m {H H' : Hp} (h : HStep Γ H H') : HStepM Γ H H' := fun w M μ fp G O => by
 obtain ⟨μ', fp', G', O', C⟩ := h w M μ fp G O
 exact ⟨M, μ', fp', G', O', C⟩
theorem setL_all {p : V → Bool} {cells r : List V} {o : Nat} (h : cells.all p = true) (hr : r.all p = true) : (setL cells o r).all p = true := by
 unfold setL
 rw [List.all_append, List.all_append, hr]
 have h1 : (cells.take o).all p = true := List.all_eq_true.2 fun x hx => List.all_eq_true.1 h x (List.mem_of_mem_take hx)
 have h2 : (cells.drop (o + r.length)).all p = true := List.all_eq_true.2 fun x hx => List.all_eq_true.1 h x (List.mem_of_mem_drop hx)
 rw [h1, h2]
 rfl
theorem hO {α : Type} [Enc α] [DEnc α] [DNest α] {xs : List α} {ks : List Nat} {o : Nat} {r : List V} {A B : Prop} (h : B) (hr : r.all (okIn ks) = true := by rfl) : (A ∨ (setL (dL xs) o r).all (okIn ks) = true) ∧ B := ⟨.inr (setL_all (dL_okIn _ _) hr), h⟩
end
end Go.D
set_option linter.unusedVariables false
namespace Go.D
open Go.Sort Go.Shelf Go.Proofs
structure Put (w w' : World) (b : Nat) (c c' : Array Value) (e : TypeId) : Prop where
 os : w'.os = w.os
 tape : w'.tape = w.tape
 output : w'.output = w.output
 size : w.heap.size ≤ w'.heap.size
 other : ∀ i, i < w.heap.size → i ≠ b → w'.heap[i]? = w.heap[i]?
 block : w'.heap[b]? = some (.cells c' e (0, 0))
 same : c'.size = c.size
 drawn : w.drawn ≤ w'.drawn
end Go.D
