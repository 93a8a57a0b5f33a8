import Derived.Test.YtjgeddgheonjbaaErDBoth
set_option linter.unusedVariables false
namespace Go.D
theorem bindLen {α β : Type} {m : Option β} {f : β → List α} {n : Nat} {y : β} (h : (m.bind fun y => bif ((f y).length == n) then some y else none) = some y) : m = some y ∧ (f y).length = n := by
 cases m with
 | none => cases h
 | some x =>
  rw [Option.bind_some] at h
  cases hb : (f x).length == n with
  | false => rw [hb] at h; cases h
  | true =>
   rw [hb, cond_true] at h
   cases h
   exact ⟨rfl, by simpa using hb⟩
section
variable {P : Program} {Γ : Ctx} {τ : Tau}
structure CallAt0 (τ : Tau) (ops : Array Oper) (j : Nat) (st : St) (g : FuncId) (zs : List V) (o : Oper) (c : Call) (y : Operand) (xs caps : List V) : Prop where
 at_ : AtOp ops st j o
 op : o.op = .call c
 callee : c.callee = .value y
 dst : o.dst = none
 fn : evalV st y = some (.fn g caps)
 args : evalArgs τ st c.args.toList c.argTypes.toList = some xs
 all : zs = xs.map soft ++ caps
end
end Go.D
