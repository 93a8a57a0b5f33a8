import Derived.Test.YtamegkbinbplaaatlbDPart
set_option linter.unusedVariables false
namespace Go.D
def backH (w : World) : List Nat → Array Obj → Array Obj
 | [], h => h
 | b :: r, h => match w.heap[b]? with
  | some o => (backH w r h).setIfInBounds b o
  | none => backH w r h
def back (w w' : World) (bs : List Nat) : World := { w' with heap := backH w bs w'.heap }
section
variable {P : Program} {Γ : Ctx} {τ : Tau}
structure CallX where
 d : Nat
 g : FuncId
 k : Nat
 ver : Nat
 cs : List V
 pre : List V
 k2 : Nat
 ver2 : Nat
 s : Nat
 n : Nat
 ls : List V
 post : List V
end
section
variable {P : Program} {Γ : Ctx} {τ : Tau} {α : Type} [Enc α]
end
section
variable {P : Program} {Γ : Ctx} {τ : Tau} {α : Type} [Enc α]
end
theorem pn {Γ : Ctx} {n k : Nat} (hL : ∀ i b, Γ.L i b → i < n) (h : Nat.ble n k = true := by rfl) : ∀ i b, Γ.L i b → k ≠ i := fun i b hb e => by
 have := hL i b hb
 have := Nat.le_of_ble_eq_true h
 omega
theorem pk {Γ : Ctx} {n : Nat} {ks : List Nat} (hL : ∀ i b, Γ.L i b → i < n) (h : ks.all (Nat.ble n) = true := by rfl) : ∀ i b, Γ.L i b → i ∉ ks := fun i b hb hi => by
 have := hL i b hb
 have := Nat.le_of_ble_eq_true (List.all_eq_true.1 h i hi)
 omega
theorem pl {Γ : Ctx} {n k : Nat} (hL : ∀ i b, Γ.L i b → i < n) (h : Nat.ble n k = true := by rfl) : ∀ i b, Γ.L i b → i < k := fun i b hb => Nat.lt_of_lt_of_le (hL i b hb) (Nat.le_of_ble_eq_true h)
end Go.D
