import Derived.Test.YtamegkbinbplaaatlbDMin
set_option linter.unusedVariables false
namespace Go.D
theorem renC {k n s : Nat} {x : V} {r : List (Nat × V)} (h : renOK k n x) (hr : renLOK k n r) : renLOK k n ((s, x) :: r) := ⟨h, hr⟩
theorem renC0 {k n : Nat} : renLOK k n [] := trivial
theorem ren_ref {k n k' ver off s m : Nat} {f : Bool} (h : m = n) : renOK k n (.ref k' ver off s m f) := fun _ => h
theorem wholeC {k v len s : Nat} {x : V} {r : List (Nat × V)} (h : wholeOf k v len x) (hr : wholeSlots k v len r) : wholeSlots k v len ((s, x) :: r) := ⟨h, hr⟩
theorem wholeC0 {k v len : Nat} : wholeSlots k v len [] := trivial
theorem whole_is {k v len k' ver off s m : Nat} {f : Bool} (h : m * s = len) : wholeOf k v len (.ref k' ver off s m f) := fun _ _ _ => h
section
variable {P : Program} {Γ : Ctx} {τ : Tau}
end
end Go.D
