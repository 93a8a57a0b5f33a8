import Derived.Test.YtamegkbinbplaaatlbDCast
set_option linter.unusedVariables false
namespace Go.D
def maxL : Int → List Int → Int
 | a, [] => a
 | a, b :: r => maxL (if b > a then b else a) r
def minL : Int → List Int → Int
 | a, [] => a
 | a, b :: r => minL (if b < a then b else a) r
def intsOf : List V → Option (List Int)
 | [] => some []
 | .lit (.int .i64 n) :: r => (intsOf r).map (n :: ·)
 | _ :: _ => none
section
variable {P : Program} {Γ : Ctx} {τ : Tau}
theorem run_maxL (w : World) : ∀ (l : List Int) (a : Int), ((l.map (Value.int .i64)).foldlM Builtin.max2 (.int .i64 a)).run P w = .ok (.int .i64 (maxL a l)) w
 | [], a => by simp [maxL]
 | b :: l, a => by
  simp only [List.map_cons, List.foldlM_cons, Sem.run_bind]
  have : (Builtin.max2 (.int .i64 a) (.int .i64 b)).run P w = .ok (.int .i64 (if b > a then b else a)) w := by
   simp only [Builtin.max2]
   split <;> simp_all
  rw [this]
  simp only [Result.andThen_ok]
  rw [run_maxL w l]
  rfl
theorem run_minL (w : World) : ∀ (l : List Int) (a : Int), ((l.map (Value.int .i64)).foldlM Builtin.min2 (.int .i64 a)).run P w = .ok (.int .i64 (minL a l)) w
 | [], a => by simp [minL]
 | b :: l, a => by
  simp only [List.map_cons, List.foldlM_cons, Sem.run_bind]
  have : (Builtin.min2 (.int .i64 a) (.int .i64 b)).run P w = .ok (.int .i64 (if b < a then b else a)) w := by
   simp only [Builtin.min2]
   split <;> simp_all
  rw [this]
  simp only [Result.andThen_ok]
  rw [run_minL w l]
  rfl
theorem intsOf_sl {w : World} {M : Nat → Prop} {H : Hp} {μ : Nat → Option Nat} : ∀ {xs : List V} {us : List Value} {l : List Int}, SlL w M H μ xs us → intsOf xs = some l → us = l.map (Value.int .i64)
 | [], us, l, h, hl => by simp only [intsOf, Option.some.injEq] at hl; subst hl; simpa [SlL] using h
 | x :: xs, us, l, h, hl => by
  simp only [SlL] at h
  obtain ⟨u, us', rfl, h1, h2⟩ := h
  unfold intsOf at hl
  split at hl
  ·simp_all
  ·rename_i n r heq
   simp only [List.cons.injEq] at heq
   obtain ⟨rfl, rfl⟩ := heq
   cases hr : intsOf xs with
   | none => rw [hr] at hl; cases hl
   | some l' =>
    rw [hr, Option.map_some, Option.some.injEq] at hl
    subst hl
    simp only [Sl] at h1
    rw [h1, intsOf_sl h2 hr, List.map_cons]
  ·cases hl
def mxmV (τ : Tau) (ops : Array Oper) (j : Nat) (st : St) : Option (Nat × Bool × Int × List Int) :=
 match opAt ops st j with
 | some o => match o.op, dstOf st o with
  | .call c, some d => match c.callee, evalAll st c.args.toList with
   | .builtin .max, some xs => match intsOf xs with
    | some (a :: l) => some (d, true, a, l)
    | _ => none
   | .builtin .min, some xs => match intsOf xs with
    | some (a :: l) => some (d, false, a, l)
    | _ => none
   | _, _ => none
  | _, _ => none
 | none => none
theorem mxmV_sound {ops : Array Oper} {j : Nat} {st : St} {d : Nat} {m : Bool} {a : Int} {l : List Int} (h : mxmV τ ops j st = some (d, m, a, l)) :
  ∃ o, AtOp ops st j o ∧ o.dst = some d ∧ d < st.nt ∧ Yld P Γ o st (I (bif m then maxL a l else minL a l)) := by
 unfold mxmV at h
 split at h
 ·rename_i o ho
  split at h
  ·rename_i c d' hop hd
   have hd' := dstOf_spec hd
   split at h
   ·rename_i xs hc hx
    split at h
    ·rename_i a' l' hi
     cases h
     refine ⟨o, opAt_spec ho, hd'.1, hd'.2, fun ac w M μ fp G O hS => ?_⟩
     have hus := intsOf_sl (evalAll_sound hS hx) hi
     have he : c.args.map ac.eval = (Value.int .i64 a :: l.map (Value.int .i64)).toArray := by
      apply Array.toList_inj.1
      rw [Array.toList_map, hus, List.map_cons]
     refine ⟨.int .i64 (maxL a l), w, ?_, Kept.refl _ w, by simp only [cond_true, Sl]⟩
     have := run_maxL (P := P) w l a
     simp only [execOp, hop, resolve, hc, he, Sem.run_bind, Sem.run_pure, Result.andThen_ok, invoke, builtin, Builtin.max_, this]
    ·cases h
   ·rename_i xs hc hx
    split at h
    ·rename_i a' l' hi
     cases h
     refine ⟨o, opAt_spec ho, hd'.1, hd'.2, fun ac w M μ fp G O hS => ?_⟩
     have hus := intsOf_sl (evalAll_sound hS hx) hi
     have he : c.args.map ac.eval = (Value.int .i64 a :: l.map (Value.int .i64)).toArray := by
      apply Array.toList_inj.1
      rw [Array.toList_map, hus, List.map_cons]
     refine ⟨.int .i64 (minL a l), w, ?_, Kept.refl _ w, by simp only [cond_false, Sl]⟩
     have := run_minL (P := P) w l a
     simp only [execOp, hop, resolve, hc, he, Sem.run_bind, Sem.run_pure, Result.andThen_ok, invoke, builtin, Builtin.min_, this]
    ·cases h
   ·cases h
  ·cases h
 ·cases h
def ghostN : Nat → Hp → Hp
 | 0, H => H
 | n + 1, H => ghostN n (setH H H.length (some ⟨0, []⟩))
theorem Imp.ghosts : ∀ (n : Nat) {st st' : St}, { st with H := ghostN n st.H } = st' → Imp Γ st st'
 | 0, st, st', h => by subst h; exact Imp.refl _
 | n + 1, st, st', h => by
  subst h
  exact (Imp.ghost (st := st)).trans (Imp.ghosts n (st := { st with H := setH st.H st.H.length (some ⟨0, []⟩) }) rfl)
theorem Imp.ren {st st' : St} (k n : Nat) (hr : renLOK k n st.tmps) (he : { st with tmps := renL k n st.tmps } = st') : Imp Γ st st' := by
 subst he
 rw [renL_eq hr]
 exact Imp.refl _
theorem opsP_ren {ops : Array Oper} {Q : Exit → St → Prop} {j : Nat} {st st' : St} (k n : Nat) (hr : renLOK k n st.tmps) (he : { st with tmps := renL k n st.tmps } = st') (hk : opsP P Γ ops Q j st') : opsP P Γ ops Q j st := opsP_imp (Imp.ren k n hr he) hk
end
end Go.D
