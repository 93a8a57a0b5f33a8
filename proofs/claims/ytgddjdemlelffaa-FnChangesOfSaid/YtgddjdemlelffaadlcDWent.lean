import Derived.Test.YtgddjdemlelffaadlcDPart
set_option linter.unusedVariables false
namespace Go.D
section
variable {P : Program} {Γ : Ctx} {τ : Tau}
structure CallX where
 d : Nat
 g : FuncId
 k : Nat
 ver : Nat
 cs : List V
 pre : List V
 k2 : Nat
 ver2 : Nat
 s : Nat
 n : Nat
 ls : List V
 post : List V
end
section
variable {P : Program} {Γ : Ctx} {τ : Tau} {α : Type} [Enc α]
end
section
variable {P : Program} {Γ : Ctx} {τ : Tau} {α : Type} [Enc α]
end
theorem pn {Γ : Ctx} {n k : Nat} (hL : ∀ i b, Γ.L i b → i < n) (h : Nat.ble n k = true := by rfl) : ∀ i b, Γ.L i b → k ≠ i := fun i b hb e => by
 have := hL i b hb
 have := Nat.le_of_ble_eq_true h
 omega
theorem py {Γ Γ' : Ctx} {n k : Nat} (hΓ : ∀ i b, Γ'.L i b → Γ.L i b) (hL : ∀ i b, Γ.L i b → i < n) (h : Nat.ble n k = true := by rfl) : ∀ i b, Γ'.L i b → k ≠ i := pn (fun i b hb => hL i b (hΓ i b hb)) h
theorem pn2 {Γ : Ctx} {n k k' : Nat} (hL : ∀ i b, Γ.L i b → i < n) (h : (Nat.ble n k && Nat.ble n k') = true := by rfl) : ∀ i b, Γ.L i b → k ≠ i ∧ k' ≠ i := fun i b hb => by
 simp only [Bool.and_eq_true] at h
 exact ⟨pn hL h.1 i b hb, pn hL h.2 i b hb⟩
theorem pk {Γ : Ctx} {n : Nat} {ks : List Nat} (hL : ∀ i b, Γ.L i b → i < n) (h : ks.all (Nat.ble n) = true := by rfl) : ∀ i b, Γ.L i b → i ∉ ks := fun i b hb hi => by
 have := hL i b hb
 have := Nat.le_of_ble_eq_true (List.all_eq_true.1 h i hi)
 omega
theorem pky {Γ Γ' : Ctx} {n : Nat} {ks : List Nat} (hΓ : ∀ i b, Γ'.L i b → Γ.L i b) (hL : ∀ i b, Γ.L i b → i < n) (h : ks.all (Nat.ble n) = true := by rfl) : ∀ i b, Γ'.L i b → i ∉ ks := pk (fun i b hb => hL i b (hΓ i b hb)) h
theorem pl {Γ : Ctx} {n k : Nat} (hL : ∀ i b, Γ.L i b → i < n) (h : Nat.ble n k = true := by rfl) : ∀ i b, Γ.L i b → i < k := fun i b hb => Nat.lt_of_lt_of_le (hL i b hb) (Nat.le_of_ble_eq_true h)
theorem p01 {Γ : Ctx} {H : Hp} (hL : ∀ i b, Γ.L i b → i < 1) {blk : Blk} (h : H[0]? = some (some blk) := by exact rfl) : ∀ i b, Γ.L i b → ∃ blk, H[i]? = some (some blk) := fun i b hb => by
 have : i = 0 := by have := hL i b hb; omega
 subst this
 exact ⟨_, h⟩
end Go.D
set_option linter.unusedVariables false
namespace Go.D
section
variable {P : Program} {Γ : Ctx} {τ : Tau}
structure CallAt0 (τ : Tau) (ops : Array Oper) (j : Nat) (st : St) (g : FuncId) (zs : List V) (o : Oper) (c : Call) (y : Operand) (xs caps : List V) : Prop where
 at_ : AtOp ops st j o
 op : o.op = .call c
 callee : c.callee = .value y
 dst : o.dst = none
 fn : evalV st y = some (.fn g caps)
 args : evalArgs τ st c.args.toList c.argTypes.toList = some xs
 all : zs = xs.map soft ++ caps
end
end Go.D
