import Derived.Test.YtamegkbinbplaaatlaDMin
set_option linter.unusedVariables false
namespace Go.D
theorem renC {k n s : Nat} {x : V} {r : List (Nat × V)} (h : renOK k n x) (hr : renLOK k n r) : renLOK k n ((s, x) :: r) := ⟨h, hr⟩
theorem renC0 {k n : Nat} : renLOK k n [] := trivial
theorem ren_ref {k n k' ver off s m : Nat} {f : Bool} (h : m = n) : renOK k n (.ref k' ver off s m f) := fun _ => h
theorem slI_view {α : Type} {xs ys : List α} {l h m : Option Int} (hy : slI xs l h m = some ys) : (xs.drop (l.getD 0).toNat).take ys.length = ys := by
 unfold slI at hy
 split at hy
 ·cases hy
  rw [List.length_take, ← List.take_take, List.take_length]
 ·cases hy
section
variable {P : Program} {Γ : Ctx} {τ : Tau}
end
end Go.D
