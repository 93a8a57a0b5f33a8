import Derived.Test.YtjgeddgheonjbaaErDWent
set_option linter.unusedVariables false
namespace Go.D
theorem setH_id {H : Hp} {k : Nat} {x : Option Blk} (h : H[k]? = some x) : setH H k x = H := by
 have hk : k < H.length := (List.getElem?_eq_some_iff.1 h).1
 unfold setH
 have : Nat.blt k H.length = true := Nat.ble_eq_true_of_le hk
 rw [this, cond_true]
 apply List.ext_getElem?
 intro i
 by_cases hi : i = k
 ·subst hi
  rw [List.getElem?_set_self hk, h]
 ·rw [List.getElem?_set_ne (fun e => hi e.symm)]
section
variable {P : Program} {Γ : Ctx} {τ : Tau}
end
end Go.D
