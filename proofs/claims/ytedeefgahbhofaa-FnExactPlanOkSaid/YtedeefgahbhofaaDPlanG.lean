/- The plain law of FnExactPlanOk, part 7: the law itself. -/
import Derived.Test.YtedeefgahbhofaaDPlanF
import Derived.Test.YtedeefgahbhofaaDXP
set_option linter.unusedVariables false
namespace Go.D

theorem sm_value {v : T_laws_Value} (h : Ok_Value v) : SmV (c_Value v) := Nat.le_trans h (by omega)
theorem okL_map {α β : Type} {ok : α → Prop} {ok' : β → Prop} {f : α → β} (hf : ∀ x, ok x → ok' (f x)) {xs : List α} (h : okL ok xs) : okL ok' (xs.map f) :=
  ⟨by rw [List.length_map]; exact h.1, fun y hy => by
    obtain ⟨x, hx, rfl⟩ := List.mem_map.1 hy
    exact hf x (h.2 x hx)⟩
theorem okL_sm {α : Type} {ok : α → Prop} {xs : List α} (h : okL ok xs) : Sm xs.length := Nat.le_trans h.1 (by omega)
theorem sm_row {r : List T_laws_Value} (h : okL Ok_Value r) : SmR (r.map c_Value) := ⟨okL_sm (okL_map (ok' := fun _ => True) (fun _ _ => trivial) h), (okL_map (ok' := SmV) (fun _ => sm_value) h).2⟩
theorem sm_rows {r : List (List T_laws_Value)} (h : okL (okL Ok_Value) r) : SmRs (r.map (List.map c_Value)) := ⟨okL_sm (okL_map (ok' := fun _ => True) (fun _ _ => trivial) h), (okL_map (ok' := SmR) (fun _ => sm_row) h).2⟩
theorem sm_table {t : T_laws_Table} (h : Ok_Table t) : SmT (c_Table t) := ⟨okL_sm (okL_map (ok' := fun _ => True) (fun _ _ => trivial) h.1), sm_rows h.2⟩
theorem sm_tables {ts : List T_laws_Table} (h : okL Ok_Table ts) : SmTs (ts.map c_Table) := ⟨okL_sm (okL_map (ok' := fun _ => True) (fun _ _ => trivial) h), (okL_map (ok' := SmT) (fun _ => sm_table) h).2⟩
theorem sm_step {s : T_laws_Step} (h : Ok_Step s) : SmS (c_Step s) := ⟨okL_sm (okL_map (ok' := fun _ => True) (fun _ _ => trivial) h.1), (okL_map (ok := Ok_Part) (ok' := SmP) (f := c_Part) (fun x h => sm_value (v := x.fV) h) h.1).2, okL_sm h.2⟩
theorem sm_steps {ss : List T_laws_Step} (h : okL Ok_Step ss) : SmSs (ss.map c_Step) := ⟨okL_sm (okL_map (ok' := fun _ => True) (fun _ _ => trivial) h), (okL_map (ok' := SmS) (fun _ => sm_step) h).2⟩

theorem okI_table {t : T_laws_Table} (h : Ok_Table t) : OkI_Table (c_Table t) := ⟨okL_map (fun _ _ => trivial) h.1, okL_map (fun _ h => okL_map (fun _ _ => trivial) h) h.2⟩
theorem okI_step {t : T_laws_Step} (h : Ok_Step t) : OkI_Step (c_Step t) := ⟨okL_map (fun _ _ => trivial) h.1, h.2⟩

theorem law_planOk {a0 : List T_laws_Table} {a1 : List T_laws_Step} (w0 : listW W_T_laws_Table a0) (w1 : listW W_T_laws_Step a1) : laws_FnExactPlanOk a0 a1 = some true := by
  unfold laws_FnExactPlanOk
  obtain ⟨r0, e0, k0⟩ := sz_TableS a0 1048576 w0 (by omega) (by omega)
  rw [e0, Option.bind_some]
  rcases k0 with k0 | ⟨p0, q0, o0⟩
  · rw [decide_eq_true k0, cond_true]
  rw [decide_eq_false (show ¬ r0 < 0 by omega), cond_false]
  obtain ⟨r1, e1, k1⟩ := sz_StepS a1 r0 w1 (by omega) (by omega)
  rw [e1, Option.bind_some]
  rcases k1 with k1 | ⟨p1, q1, o1⟩
  · rw [decide_eq_true k1, cond_true]
  rw [decide_eq_false (show ¬ r1 < 0 by omega), cond_false]
  simp only [to_TableS a0 o0, to_StepS a1 o1, Option.bind_some, spec_planOk (sm_tables o0) (sm_steps o1), impl_planOk (sm_tables o0) (sm_steps o1), beq_self_eq_true, Bool.not_true, cond_false,
    eq_TableS _ (okL_map (fun _ => okI_table) o0), eq_StepS _ (okL_map (fun _ => okI_step) o1)]

end Go.D
