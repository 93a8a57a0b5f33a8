import Derived.Test.YtamegkbinbplaaatlbDBoth
set_option linter.unusedVariables false
namespace Go.D
section
variable {P : Program} {Γ : Ctx} {τ : Tau}
structure CallAt0 (τ : Tau) (ops : Array Oper) (j : Nat) (st : St) (g : FuncId) (zs : List V) (o : Oper) (c : Call) (y : Operand) (xs caps : List V) : Prop where
 at_ : AtOp ops st j o
 op : o.op = .call c
 callee : c.callee = .value y
 dst : o.dst = none
 fn : evalV st y = some (.fn g caps)
 args : evalArgs τ st c.args.toList c.argTypes.toList = some xs
 all : zs = xs.map soft ++ caps
end
end Go.D
