/- The plain law of FnExactPlanOk, part 3: the kind of an expression: both sides. -/
import Derived.Test.YtedeefgahbhofaaDPlanB
set_option linter.unusedVariables false
namespace Go.D

def exprKind (cs : List T_impl_Column) (ps : List T_impl_Part) : Int := bif colsOk cs && decide (ps.length ≤ 12) then exprRun cs ps [] else -1

theorem gt12 {α : Type} (xs : List α) : decide ((xs.length : Int) > 12) = !(decide (xs.length ≤ 12)) := by
  by_cases h : xs.length ≤ 12
  · have : ¬ (xs.length : Int) > 12 := by omega
    simp [h, this]
  · have : (xs.length : Int) > 12 := by omega
    simp [h, this]

theorem fin_run (st : List Int) (cs : List T_impl_Column) : (bif !((st.length : Int) == 1) then some (-1) else (getI st 0).bind fun v => some v) = some (exprRun cs [] st.reverse) := by
  match st with
  | [] => rfl
  | [k] => rfl
  | a :: b :: r =>
    have e : (((a :: b :: r).length : Int) == 1) = false := by
      simp only [beq_eq_false_iff_ne, ne_eq, List.length_cons]
      omega
    rw [e]
    unfold exprRun
    split
    · next k hk =>
      have := congrArg List.length hk
      simp at this
    · rfl

theorem spec_exprKind {cs : List T_impl_Column} {ps : List T_impl_Part} (hc : Sm cs.length) (hl : ps.length ≤ 2097152) (hp : ∀ p ∈ ps, SmP p) : spec_ExprKind cs ps = some (exprKind cs ps) := by
  unfold spec_ExprKind exprKind
  rw [spec_colsOk hc, Option.bind_some, gt12]
  cases colsOk cs
  · rfl
  cases h12 : decide (ps.length ≤ 12)
  · rfl
  have h12 : ps.length ≤ 12 := of_decide_eq_true h12
  simp only [Bool.not_true, cond_false, Bool.true_and, cond_true, spec_ExprKind_j0]
  have := loop_rec (xs := ps) (L := fun f i (s : Bool × List Int) => spec_ExprKind_l1 cs ps f s.1 i s.2) (fun ps s => bif s.1 then exprRun cs ps s.2.reverse else -1) (fun i s => s.1 = true → s.2.length ≤ i) (by omega)
    (fun f i s v rest hi hv hw hI => by
      obtain ⟨ok, st⟩ := s
      have hlt : (i : Int) < ps.length := by omega
      cases ok with
      | false =>
        refine .inl ?_
        simp only [spec_ExprKind_l1, hlt, decide_true, cond_true, spec_ExprKind_j2, cond_false, Bool.not_false, spec_ExprKind_j3]
      | true =>
        have hst := hI rfl
        have hs : SpecStep cs st.reverse v := spec_step hc (by simp; simp only at hst; omega) (hp v (List.mem_of_getElem? hv))
        unfold SpecStep at hs
        simp only [List.reverse_reverse] at hs
        refine .inr ?_
        cases he : exprStep cs st.reverse v with
        | none =>
          rw [he] at hs
          obtain ⟨s', hs⟩ := hs
          refine ⟨(false, s'), (fun h => by cases h), ?_, ?_⟩
          · simp only [spec_ExprKind_l1, hlt, decide_true, cond_true, spec_ExprKind_j2, getI_nat, hv, Option.bind_some, hs, hw]
          · simp only [cond_true, cond_false, exprRun, he]
        | some rs' =>
          rw [he] at hs
          have hs : spec_l4Step cs st v = some (rs'.reverse, true) := hs
          refine ⟨(true, rs'.reverse), fun _ => ?_, ?_, ?_⟩
          · have := exprStep_len he
            simp only [List.length_reverse] at this ⊢
            simp only at hst
            omega
          · simp only [spec_ExprKind_l1, hlt, decide_true, cond_true, spec_ExprKind_j2, getI_nat, hv, Option.bind_some, hs, hw]
          · simp only [cond_true, exprRun, he, List.reverse_reverse])
    (fun f s hI => by
      obtain ⟨ok, st⟩ := s
      simp only [spec_ExprKind_l1, Int.lt_irrefl, decide_false, cond_false, spec_ExprKind_j2]
      cases ok with
      | false => rfl
      | true =>
        simp only [Bool.not_true, cond_false, spec_ExprKind_j3, cond_true]
        exact fin_run st cs) (s := (true, [])) (fun _ => by simp)
  exact this

theorem impl_allk (k : Int) {xs : List Int} (h : xs.length ≤ 2097152) : impl_Part_kind_1 k xs = some (xs.all (· == k)) := by
  unfold impl_Part_kind_1 slices_ContainsFunc_int_int slices_IndexFunc_int_int
  obtain ⟨r, h1, h2⟩ := loop_find (xs := xs) (L := slices_IndexFunc_int_int_l0 xs (fun z0 => impl_Part_kind_1_1 z0 k)) (p := fun z => !(z == k)) (by omega) (fun f i v hi hv hw => by
    have : (i : Int) < xs.length := by omega
    simp only [slices_IndexFunc_int_int_l0, this, decide_true, cond_true, getI_nat, hv, Option.bind_some, impl_Part_kind_1_1, hw]) (fun f => by
    simp only [slices_IndexFunc_int_int_l0, Int.lt_irrefl, decide_false, cond_false])
  rw [h1, Option.bind_some, Option.bind_some, h2, not_any_not]

/-- What the program's step does, with what comes behind it. -/
def ImplStep (cs : List T_impl_Column) (rs : List Int) (p : T_impl_Part) (x4 : Int) (K : Int → List Int → Option Int) : Prop :=
  ((impl_Part_takes p).bind fun v11 => (impl_Part_tells p cs).bind fun v24 => bif (!v24) then impl_ExprKind_j2 cs x4 rs.reverse K p v11 true else impl_ExprKind_j2 cs x4 rs.reverse K p v11 ((decide (((rs.reverse.length : Int)) < v11)))) =
    match exprStep cs rs p with
    | none => some (-1)
    | some rs' => K (w64 (x4 + 1)) rs'.reverse

theorem pre_all {xs : List Int} (h : xs.length ≤ 2097152) : slI xs none (some (w64 ((xs.length : Int) - 0))) none = some xs := by
  rw [len0 h]
  have := sl_pre (ys := []) h rfl
  rwa [List.append_nil] at this
theorem post_all {xs : List Int} (h : xs.length ≤ 2097152) : slI xs (some (w64 ((xs.length : Int) - 0))) none none = some [] := by
  rw [len0 h]
  have := sl_post (ys := []) h rfl
  rwa [List.append_nil] at this
theorem ap_full {xs : List Int} (h : xs.length ≤ 2097152) (k : Int) : appT xs [k] xs.length = some (xs ++ [k]) := by
  have := ap_pre (ys := []) h k
  rwa [List.append_nil] at this
theorem get0 (a b : Int) : getI [a, b] 0 = some a := rfl
theorem get1 (a b : Int) : getI [a, b] 1 = some b := rfl
theorem eq_comm_b (a b : Int) : (a == b) = (b == a) := by
  rw [Bool.eq_iff_iff, beq_iff_eq, beq_iff_eq]
  exact eq_comm

theorem impl_step {cs : List T_impl_Column} {rs : List Int} {p : T_impl_Part} {x4 : Int} {K : Int → List Int → Option Int} (hc : Sm cs.length) (hr : rs.length ≤ 2000000) (hp : SmP p) : ImplStep cs rs p x4 K := by
  obtain ⟨k, n, v⟩ := p
  have hv : impl_Value_ok v = some (valOk v) := impl_value hp
  have hz : eq_T_impl_Value v ((T_impl_Value.mk 0 0 (ByteArray.mk #[]))) = zeroV v := rfl
  have hw : w64 ((cs.length : Int) - 1) = (cs.length : Int) - 1 := w64_of (by omega) (by omega)
  have hxr : rs.reverse.length ≤ 2097152 := by simp; omega
  unfold ImplStep
  rcases kind_cases k with rfl | rfl | rfl | rfl | rfl | rfl | rfl | rfl | hk
  · simp only [exprStep, impl_Part_takes, impl_Part_takes_j0, impl_Part_takes_j1, impl_Part_tells, impl_Part_tells_j0, impl_ExprKind_j2, hv, hz, hw, impl_in, impl_Part_kind, Option.bind_some]
    cases n == 0 <;> cases valOk v <;> cases v.fKind == 0 <;> simp [-List.length_reverse, -Int.sub_zero, -List.length_append, -List.length_cons, -List.length_nil, lt0, post_all hxr, pre_all hxr, ap_full hxr]
  · simp only [exprStep, impl_Part_takes, impl_Part_takes_j0, impl_Part_takes_j1, impl_Part_tells, impl_Part_tells_j0, impl_ExprKind_j2, hv, hz, hw, impl_in, impl_Part_kind, Option.bind_some]
    cases zeroV v
    · cases inR n 0 ((cs.length : Int) - 1) <;> simp [-List.length_reverse, -Int.sub_zero, -List.length_append, -List.length_cons, -List.length_nil, lt0, post_all hxr, pre_all hxr, ap_full hxr]
    · cases hi : inR n 0 ((cs.length : Int) - 1) with
      | false => simp [-List.length_reverse, -Int.sub_zero, -List.length_append, -List.length_cons, -List.length_nil, lt0, post_all hxr, pre_all hxr, ap_full hxr]
      | true =>
        unfold inR at hi
        simp only [Bool.and_eq_true, decide_eq_true_eq] at hi
        obtain ⟨c, h1, h2⟩ := getI_lt (xs := cs) hi.1 (by omega)
        simp [-List.length_reverse, -Int.sub_zero, -List.length_append, -List.length_cons, -List.length_nil, lt0, post_all hxr, pre_all hxr, ap_full hxr, h1]
  · rcases stack_cases rs with rfl | ⟨b, rfl⟩ | ⟨b, a, r, rfl⟩
    · simp only [exprStep, impl_Part_takes, impl_Part_takes_j0, impl_Part_takes_j1, impl_Part_tells, impl_Part_tells_j0, impl_ExprKind_j2, hv, hz, hw, impl_in, impl_Part_kind, Option.bind_some]
      cases n == 0 <;> cases zeroV v <;> simp
    · simp only [exprStep, impl_Part_takes, impl_Part_takes_j0, impl_Part_takes_j1, impl_Part_tells, impl_Part_tells_j0, impl_ExprKind_j2, hv, hz, hw, impl_in, impl_Part_kind, Option.bind_some]
      cases n == 0 <;> cases zeroV v <;> simp
    · have hx : r.reverse.length ≤ 2097152 := by simp at hr ⊢; omega
      have hab : ([a, b] : List Int).length ≤ 2097152 := by simp
      simp only [exprStep, impl_Part_takes, impl_Part_takes_j0, impl_Part_takes_j1, impl_Part_tells, impl_Part_tells_j0, impl_ExprKind_j2, hv, hz, hw, impl_in, impl_Part_kind, Option.bind_some, rev2]
      cases n == 0 <;> cases zeroV v <;> cases ha : a == 1 <;> cases hb : b == 1 <;> simp [*, -List.length_reverse, -Int.sub_zero, -List.length_append, -List.length_cons, -List.length_nil, lt2, len2 hx, sl_pre hx rfl, sl_post hx rfl, ap_pre hx, impl_allk 1 hab, impl_allk 3 hab, get0, get1]
  · rcases stack_cases rs with rfl | ⟨b, rfl⟩ | ⟨b, a, r, rfl⟩
    · simp only [exprStep, impl_Part_takes, impl_Part_takes_j0, impl_Part_takes_j1, impl_Part_tells, impl_Part_tells_j0, impl_ExprKind_j2, hv, hz, hw, impl_in, impl_Part_kind, Option.bind_some]
      cases inR n 1 4 <;> cases zeroV v <;> simp
    · simp only [exprStep, impl_Part_takes, impl_Part_takes_j0, impl_Part_takes_j1, impl_Part_tells, impl_Part_tells_j0, impl_ExprKind_j2, hv, hz, hw, impl_in, impl_Part_kind, Option.bind_some]
      cases inR n 1 4 <;> cases zeroV v <;> simp
    · have hx : r.reverse.length ≤ 2097152 := by simp at hr ⊢; omega
      have hab : ([a, b] : List Int).length ≤ 2097152 := by simp
      simp only [exprStep, impl_Part_takes, impl_Part_takes_j0, impl_Part_takes_j1, impl_Part_tells, impl_Part_tells_j0, impl_ExprKind_j2, hv, hz, hw, impl_in, impl_Part_kind, Option.bind_some, rev2]
      cases inR n 1 4 <;> cases zeroV v <;> cases hb : b == a <;> simp [*, -List.length_reverse, -Int.sub_zero, -List.length_append, -List.length_cons, -List.length_nil, lt2, len2 hx, sl_pre hx rfl, sl_post hx rfl, ap_pre hx, impl_allk 1 hab, impl_allk 3 hab, get0, get1, eq_comm_b a b]
  · rcases stack_cases rs with rfl | ⟨b, rfl⟩ | ⟨b, a, r, rfl⟩
    · simp only [exprStep, impl_Part_takes, impl_Part_takes_j0, impl_Part_takes_j1, impl_Part_tells, impl_Part_tells_j0, impl_ExprKind_j2, hv, hz, hw, impl_in, impl_Part_kind, Option.bind_some]
      cases n == 0 <;> cases zeroV v <;> simp
    · simp only [exprStep, impl_Part_takes, impl_Part_takes_j0, impl_Part_takes_j1, impl_Part_tells, impl_Part_tells_j0, impl_ExprKind_j2, hv, hz, hw, impl_in, impl_Part_kind, Option.bind_some]
      cases n == 0 <;> cases zeroV v <;> simp
    · have hx : r.reverse.length ≤ 2097152 := by simp at hr ⊢; omega
      have hab : ([a, b] : List Int).length ≤ 2097152 := by simp
      simp only [exprStep, impl_Part_takes, impl_Part_takes_j0, impl_Part_takes_j1, impl_Part_tells, impl_Part_tells_j0, impl_ExprKind_j2, hv, hz, hw, impl_in, impl_Part_kind, Option.bind_some, rev2]
      cases n == 0 <;> cases zeroV v <;> cases ha : a == 3 <;> cases hb : b == 3 <;> simp [*, -List.length_reverse, -Int.sub_zero, -List.length_append, -List.length_cons, -List.length_nil, lt2, len2 hx, sl_pre hx rfl, sl_post hx rfl, ap_pre hx, impl_allk 1 hab, impl_allk 3 hab, get0, get1]
  · rcases stack_cases rs with rfl | ⟨b, rfl⟩ | ⟨b, a, r, rfl⟩
    · simp only [exprStep, impl_Part_takes, impl_Part_takes_j0, impl_Part_takes_j1, impl_Part_tells, impl_Part_tells_j0, impl_ExprKind_j2, hv, hz, hw, impl_in, impl_Part_kind, Option.bind_some]
      cases n == 0 <;> cases zeroV v <;> simp
    · simp only [exprStep, impl_Part_takes, impl_Part_takes_j0, impl_Part_takes_j1, impl_Part_tells, impl_Part_tells_j0, impl_ExprKind_j2, hv, hz, hw, impl_in, impl_Part_kind, Option.bind_some]
      cases n == 0 <;> cases zeroV v <;> simp
    · have hx : r.reverse.length ≤ 2097152 := by simp at hr ⊢; omega
      have hab : ([a, b] : List Int).length ≤ 2097152 := by simp
      simp only [exprStep, impl_Part_takes, impl_Part_takes_j0, impl_Part_takes_j1, impl_Part_tells, impl_Part_tells_j0, impl_ExprKind_j2, hv, hz, hw, impl_in, impl_Part_kind, Option.bind_some, rev2]
      cases n == 0 <;> cases zeroV v <;> cases ha : a == 3 <;> cases hb : b == 3 <;> simp [*, -List.length_reverse, -Int.sub_zero, -List.length_append, -List.length_cons, -List.length_nil, lt2, len2 hx, sl_pre hx rfl, sl_post hx rfl, ap_pre hx, impl_allk 1 hab, impl_allk 3 hab, get0, get1]
  · rcases rs with _ | ⟨b, r⟩
    · simp only [exprStep, impl_Part_takes, impl_Part_takes_j0, impl_Part_takes_j1, impl_Part_tells, impl_Part_tells_j0, impl_ExprKind_j2, hv, hz, hw, impl_in, impl_Part_kind, Option.bind_some]
      cases n == 0 <;> cases zeroV v <;> simp
    · have hx : r.reverse.length ≤ 2097152 := by simp at hr ⊢; omega
      have hab : ([b] : List Int).length ≤ 2097152 := by simp
      simp only [exprStep, impl_Part_takes, impl_Part_takes_j0, impl_Part_takes_j1, impl_Part_tells, impl_Part_tells_j0, impl_ExprKind_j2, hv, hz, hw, impl_in, impl_Part_kind, Option.bind_some, rev1]
      cases n == 0 <;> cases zeroV v <;> cases hb : b == 3 <;> simp [*, -List.length_reverse, -Int.sub_zero, -List.length_append, -List.length_cons, -List.length_nil, lt1, len1 hx, sl_pre hx rfl, sl_post hx rfl, ap_pre hx, impl_allk 3 hab]
  · rcases rs with _ | ⟨b, r⟩
    · simp only [exprStep, impl_Part_takes, impl_Part_takes_j0, impl_Part_takes_j1, impl_Part_tells, impl_Part_tells_j0, impl_ExprKind_j2, hv, hz, hw, impl_in, impl_Part_kind, Option.bind_some]
      cases n == 0 <;> cases zeroV v <;> simp
    · have hx : r.reverse.length ≤ 2097152 := by simp at hr ⊢; omega
      have hab : ([b] : List Int).length ≤ 2097152 := by simp
      simp only [exprStep, impl_Part_takes, impl_Part_takes_j0, impl_Part_takes_j1, impl_Part_tells, impl_Part_tells_j0, impl_ExprKind_j2, hv, hz, hw, impl_in, impl_Part_kind, Option.bind_some, rev1]
      cases n == 0 <;> cases zeroV v <;> cases hb : b == 3 <;> simp [*, -List.length_reverse, -Int.sub_zero, -List.length_append, -List.length_cons, -List.length_nil, lt1, len1 hx, sl_pre hx rfl, sl_post hx rfl, ap_pre hx, impl_allk 3 hab]
  · obtain ⟨h1, h2, h3, h4, h5, h6, h7, h8⟩ := hk
    have b1 : (k == 1) = false := by simp [h1]
    have b2 : (k == 2) = false := by simp [h2]
    have b3 : (k == 3) = false := by simp [h3]
    have b4 : (k == 4) = false := by simp [h4]
    have b5 : (k == 5) = false := by simp [h5]
    have b6 : (k == 6) = false := by simp [h6]
    have b7 : (k == 7) = false := by simp [h7]
    have b8 : (k == 8) = false := by simp [h8]
    simp only [h1, h2, h3, h4, h5, h6, h7, h8, if_false, or_self, b1, b2, b3, b4, b5, b6, b7, b8, exprStep, impl_Part_takes, impl_Part_takes_j0, impl_Part_takes_j1, impl_Part_tells, impl_Part_tells_j0, impl_ExprKind_j2, hv, hz, hw, impl_in, impl_Part_kind, Option.bind_some]
    rfl

theorem impl_exprKind {cs : List T_impl_Column} {ps : List T_impl_Part} (hc : Sm cs.length) (hl : ps.length ≤ 2097152) (hp : ∀ p ∈ ps, SmP p) : impl_ExprKind cs ps = some (exprKind cs ps) := by
  unfold impl_ExprKind exprKind
  rw [impl_colsOk hc, Option.bind_some, gt12]
  cases colsOk cs
  · rfl
  cases h12 : decide (ps.length ≤ 12)
  · rfl
  have h12 : ps.length ≤ 12 := of_decide_eq_true h12
  simp only [Bool.not_true, cond_false, Bool.true_and, cond_true, impl_ExprKind_j0]
  have := loop_rec (xs := ps) (L := fun f i (s : List Int) => impl_ExprKind_l1 cs ps f i s) (fun ps s => exprRun cs ps s.reverse) (fun i s => s.length ≤ i) (by omega)
    (fun f i st v rest hi hv hw hI => by
      have hlt : (i : Int) < ps.length := by omega
      have hs : ImplStep cs st.reverse v i (impl_ExprKind_l1 cs ps f) := impl_step hc (by simp; omega) (hp v (List.mem_of_getElem? hv))
      unfold ImplStep at hs
      rw [List.reverse_reverse, hw] at hs
      have e : impl_ExprKind_l1 cs ps (f + 1) i st = match exprStep cs st.reverse v with
        | none => some (-1)
        | some rs' => impl_ExprKind_l1 cs ps f ((i + 1 : Nat) : Int) rs'.reverse := by
        rw [← hs]
        simp only [impl_ExprKind_l1, hlt, decide_true, cond_true, getI_nat, hv, Option.bind_some]
      cases he : exprStep cs st.reverse v with
      | none =>
        refine .inl ?_
        rw [he] at e
        simp only [exprRun, he]
        exact e
      | some rs' =>
        rw [he] at e
        refine .inr ⟨rs'.reverse, ?_, e, ?_⟩
        · have := exprStep_len he
          simp only [List.length_reverse] at this ⊢
          omega
        · simp only [exprRun, he, List.reverse_reverse])
    (fun f st hI => by
      simp only [impl_ExprKind_l1, Int.lt_irrefl, decide_false, cond_false]
      exact fin_run st cs) (s := []) (by simp)
  exact this

end Go.D
