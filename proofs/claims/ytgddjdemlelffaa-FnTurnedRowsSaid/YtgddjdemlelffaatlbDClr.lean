import Derived.Test.YtgddjdemlelffaatlbDBoth
set_option linter.unusedVariables false
namespace Go.D
theorem bindLen {α β : Type} {m : Option β} {f : β → List α} {n : Nat} {y : β} (h : (m.bind fun y => bif ((f y).length == n) then some y else none) = some y) : m = some y ∧ (f y).length = n := by
 cases m with
 | none => cases h
 | some x =>
  rw [Option.bind_some] at h
  cases hb : (f x).length == n with
  | false => rw [hb] at h; cases h
  | true =>
   rw [hb, cond_true] at h
   cases h
   exact ⟨rfl, by simpa using hb⟩
section
variable {P : Program} {Γ : Ctx} {τ : Tau}
structure CallAt0 (τ : Tau) (ops : Array Oper) (j : Nat) (st : St) (g : FuncId) (zs : List V) (o : Oper) (c : Call) (y : Operand) (xs caps : List V) : Prop where
 at_ : AtOp ops st j o
 op : o.op = .call c
 callee : c.callee = .value y
 dst : o.dst = none
 fn : evalV st y = some (.fn g caps)
 args : evalArgs τ st c.args.toList c.argTypes.toList = some xs
 all : zs = xs.map soft ++ caps
end
end Go.D
set_option linter.unusedVariables false
namespace Go.D
section
variable {P : Program} {Γ : Ctx} {τ : Tau}
end
end Go.D
set_option linter.unusedVariables false
namespace Go.D
section
variable {P : Program} {Γ : Ctx} {τ : Tau} {α : Type} [Enc α]
end
structure ClrI where
 k : Nat
 ver : Nat
 off : Nat
 s : Nat
 n : Nat
 z : List V
 cs : List V
section
variable {P : Program} {Γ : Ctx} {τ : Tau} {α : Type} [Enc α]
theorem zero_cells {z : Array Value} {s : Nat} (hz : z.size = s) (hs : 0 < s) : ∀ n, (Builtin.zeroCells z n).toList = (List.replicate n z.toList).flatten := by
 intro n
 unfold Builtin.zeroCells
 rw [Array.toList_map, Array.toList_range, hz]
 induction n with
 | zero => simp
 | succ n ih =>
  have e : (n + 1) * s = n * s + s := by rw [Nat.add_mul, Nat.one_mul]
  rw [e, List.range_add, List.map_append, ih, List.replicate_succ', List.flatten_append]
  congr 1
  simp only [List.flatten_cons, List.flatten_nil, List.append_nil, List.map_map]
  apply List.ext_getElem
  ·simp [hz]
  ·intro i h1 h2
   have hi : i < s := by simpa using h1
   simp only [List.getElem_map, List.getElem_range, Function.comp_apply, Array.getElem_toList]
   have : (n * s + i) % s = i := by rw [Nat.mul_comm, Nat.mul_add_mod]; exact Nat.mod_eq_of_lt hi
   rw [this, getElem!_pos z i (by omega)]
end
end Go.D
