import Derived.Test.YtgddjdemlelffaatlbDDraw2
set_option linter.unusedVariables false
namespace Go.D
section
variable {P : Program} {Γ : Ctx} {τ : Tau}
def hle : Hp → Hp → Prop
 | [], _ => True
 | none :: r, _ :: r' => hle r r'
 | some b :: r, some b' :: r' => b = b' ∧ hle r r'
 | _, _ => False
section
variable {ops : Array Oper} {effs : List Nat} {Hs : List Hp} {T : St → Prop}
end
end
end Go.D
set_option linter.unusedVariables false
namespace Go.D
section
variable {P : Program} {Γ : Ctx} {τ : Tau}
def remI (a b : Int) : Option Int := if b = 0 then none else some (a.tmod b)
def quoI (a b : Int) : Option Int := if b = 0 then none else some (w64 (a.tdiv b))
def divV (ops : Array Oper) (j : Nat) (st : St) : Option (Nat × Bool × Int × Int) :=
 match opAt ops st j with
 | some o => match o.op, dstOf st o with
  | .binOp op _ x y _, some d => match op, evalV st x, evalV st y with
   | .rem, some (.lit (.int .i64 a)), some (.lit (.int .i64 b)) => some (d, true, a, b)
   | .quo, some (.lit (.int .i64 a)), some (.lit (.int .i64 b)) => some (d, false, a, b)
   | _, _, _ => none
  | _, _ => none
 | none => none
theorem divV_sound (hT : TOK P τ) {ops : Array Oper} {j : Nat} {st : St} {d : Nat} {r : Bool} {a b c : Int} (h : divV ops j st = some (d, r, a, b)) (hc : (bif r then remI a b else quoI a b) = some c) :
  ∃ o, AtOp ops st j o ∧ o.dst = some d ∧ d < st.nt ∧ Yld P Γ o st (I c) := by
 unfold divV at h
 split at h
 ·rename_i o ho
  split at h
  ·rename_i op t x y tt d' hop hd
   have hd' := dstOf_spec hd
   split at h
   ·rename_i a' b' hx hy
    cases h
    simp only [cond_true, remI] at hc
    split at hc
    ·cases hc
    ·rename_i hb
     cases hc
     refine ⟨o, opAt_spec ho, hd'.1, hd'.2, evOp_sound hT ?_⟩
     simp only [evOp, hop, hx, hy, evBin, intBin, hb, decide_false, cond_false, if_true, Option.map_some]
   ·rename_i a' b' hx hy
    cases h
    simp only [cond_false, quoI] at hc
    split at hc
    ·cases hc
    ·rename_i hb
     cases hc
     refine ⟨o, opAt_spec ho, hd'.1, hd'.2, evOp_sound hT ?_⟩
     simp only [evOp, hop, hx, hy, evBin, intBin, hb, decide_false, cond_false, if_true, Option.map_some, w64]
   ·cases h
  ·cases h
 ·cases h
theorem opsP_div (hT : TOK P τ) {ops : Array Oper} {Q : Exit → St → Prop} {j : Nat} {st : St} (d : Nat) {r : Bool} {a b c : Int} (hc : (bif r then remI a b else quoI a b) = some c) (h : divV ops j st = some (d, r, a, b))
  (hk : opsP P Γ ops Q (j + 1) (st.set d (I c))) : opsP P Γ ops Q j st := opsP_yld (yldG_of (divV_sound hT h hc)) hk
end
end Go.D
