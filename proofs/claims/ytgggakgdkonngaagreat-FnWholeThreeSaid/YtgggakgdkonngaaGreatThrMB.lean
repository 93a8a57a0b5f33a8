import Derived.Test.YtgggakgdkonngaaGreatThrMA
import Derived.Test.YtgggakgdkonngaaGreatThrDXT
import Derived.OpenShut
import Derived.ReadAgain
import Derived.ProofKit
set_option linter.unusedVariables false
namespace Go.D
def Tv (k : Int) (v : Za) : Prop := valOk v = true ∧ (v.fKind = k ∨ v.fKind = 0)
def TS : List Int → List Za → Prop
 | [], [] => True
 | k :: ks, v :: vs => Tv k v ∧ TS ks vs
 | _, _ => False
theorem ts_len : ∀ {ks : List Int} {vs : List Za}, TS ks vs → ks.length = vs.length
 | [], [], _ => rfl
 | k :: ks, v :: vs, h => by simp [ts_len h.2]
 | [], _ :: _, h => h.elim
 | _ :: _, [], h => h.elim
theorem tv_none : valOk N0 = true := by
 unfold valOk N0
 simp
theorem tv_of (n : Int) : Tv 3 (ofV n) := by
 unfold ofV
 cases h : inR n 0 1 with
 | true =>
  refine ⟨?_, .inl rfl⟩
  show (inR n 0 1 && _) = true
  rw [h, Bool.true_and]
  exact beq_self_eq_true _
 | false => exact ⟨tv_none, .inr rfl⟩
theorem tv_sum (a b : Za) : Tv 1 (sumV a b) := by
 unfold sumV
 cases h : a.fKind == 0 || (b.fKind == 0 || !(inR (w64 (a.fN + b.fN)) (-9999) 9999)) with
 | true => exact ⟨tv_none, .inr rfl⟩
 | false =>
  simp only [Bool.or_eq_false_iff, Bool.not_eq_false'] at h
  refine ⟨?_, .inl rfl⟩
  show (inR (w64 (a.fN + b.fN)) (-9999) 9999 && _) = true
  rw [h.2.2, Bool.true_and]
  exact beq_self_eq_true _
theorem ts_step {cs : List Zb} {row : List Za} (hf : rowFits cs row = true) {p : Zd} {ks ks' : List Int} {vs vs' : List Za} (h : TS ks vs) (he : Zad cs ks p = some ks') (hv : valStep row vs p = some vs') : TS ks' vs' := by
 obtain ⟨k, n, v⟩ := p
 rcases kind_cases k with rfl | rfl | rfl | rfl | rfl | rfl | rfl | rfl | hk
 ·obtain ⟨h1, h2⟩ := bifSome he
  have h2 := Option.some.inj h2
  have hv := Option.some.inj hv
  subst h2 hv
  simp only [Bool.and_eq_true] at h1
  exact ⟨⟨h1.2.1, .inl rfl⟩, h⟩
 ·obtain ⟨h1, h2⟩ := bifSome he
  obtain ⟨c, hc, rfl⟩ := Option.map_eq_some_iff.1 h2
  have hv : (getI row n).map (fun v => v :: vs) = some vs' := hv
  obtain ⟨u, hu, rfl⟩ := Option.map_eq_some_iff.1 hv
  simp only [Bool.and_eq_true] at h1
  obtain ⟨f1, f2, f3, _⟩ := fits_at hf h1.2
  rw [hu] at f1
  have f1 := Option.some.inj f1
  have e1 : colAt cs n = c := by
   unfold colAt
   rw [hc]
   rfl
  rw [← f1, e1] at f3
  rw [← f1] at f2
  unfold fits at f3
  simp only [Bool.or_eq_true, Bool.and_eq_true, beq_iff_eq] at f3
  exact ⟨⟨f2, f3.imp id fun h => h.1⟩, h⟩
 all_goals try (
  obtain ⟨_, he⟩ := bifSome he
  match ks, vs, h with
  | [], [], _ => cases he
  | [_], [_], _ => cases he
  | kb :: ka :: ks, b :: a :: r, ⟨hb, ha, hr⟩ =>
   obtain ⟨_, he⟩ := bifSome he
   have he := Option.some.inj he
   have hv := Option.some.inj hv
   subst he hv
   first | exact ⟨tv_sum _ _, hr⟩ | exact ⟨tv_of _, hr⟩)
 ·obtain ⟨_, he⟩ := bifSome he
  match ks, vs, h with
  | [], [], _ => cases he
  | kb :: ks, b :: r, ⟨hb, hr⟩ =>
   obtain ⟨_, he⟩ := bifSome he
   have he := Option.some.inj he
   have hv := Option.some.inj hv
   subst he hv
   exact ⟨tv_of _, hr⟩
 ·obtain ⟨_, he⟩ := bifSome he
  match ks, vs, h with
  | [], [], _ => cases he
  | kb :: ks, b :: r, ⟨hb, hr⟩ =>
   have he := Option.some.inj he
   have hv := Option.some.inj hv
   subst he hv
   exact ⟨tv_of _, hr⟩
 ·obtain ⟨h1, h2, h3, h4, h5, h6, h7, h8⟩ := hk
  simp only [valStep, h1, h2, h3, h4, h5, h6, h7, h8, if_false] at hv
  cases hv
def stk (row : List Za) : List Zd → List Za → Option (List Za)
 | [], st => some st
 | p :: ps, st => (valStep row st p).bind fun s => stk row ps s
theorem stk_app (row : List Za) : ∀ (a b : List Zd) (st : List Za), stk row (a ++ b) st = (stk row a st).bind fun s => stk row b s
 | [], b, st => rfl
 | p :: a, b, st => by
  rw [List.cons_append, stk, stk]
  cases valStep row st p with
  | none => rfl
  | some s => exact stk_app row a b s
theorem val_stk (row : List Za) : ∀ (ps : List Zd) (st : List Za), valRun row ps st = (stk row ps st).bind fun s => getI s.reverse 0
 | [], st => rfl
 | p :: ps, st => by
  rw [valRun, stk]
  cases valStep row st p with
  | none => rfl
  | some s => exact val_stk row ps s
theorem stk_one {cs : List Zb} {row : List Za} (hf : rowFits cs row = true) (hr : SmR row) : ∀ {ps : List Zd} {ks : List Int} {st : List Za}, (∀ p ∈ ps, SmP p) → exprRun cs ps ks = 3 → TS ks st → (∀ v ∈ st, SmV v) → st.length + ps.length ≤ 1000000 → ∃ v, stk row ps st = some [v] ∧ Tv 3 v
 | [], ks, st, _, h, ht, _, _ => by
  unfold exprRun at h
  split at h
  ·subst h
   match st, ht with
   | [v], ht => exact ⟨v, rfl, ht.1⟩
  ·cases h
 | p :: ps, ks, st, hp, h, ht, hs, hl => by
  unfold exprRun at h
  cases he : Zad cs ks p with
  | none => rw [he] at h; cases h
  | some ks' =>
   rw [he] at h
   obtain ⟨st', e1, e2, e3, _⟩ := (went he (ts_len ht) (by simp at hl; omega) (fits_parts hf).2.2.1 hr hs (hp p (by simp))).go
   have ht' := ts_step hf ht he e1
   have hlen := exprStep_len he
   have hl0 := ts_len ht
   rw [stk, e1, Option.bind_some]
   exact stk_one hf hr (ps := ps) (fun p hm => hp p (by simp [hm])) h ht' e3 (by simp at hl; omega)
abbrev ptP (k : Int) : Zd := Zd.mk k 0 (Za.mk 0 0 (ByteArray.mk #[]))
theorem truth_eq (n : Int) : Zr (ofV n) (ofV 1) = (n == 1) := by
 have e1 : ofV 1 = ⟨3, 1, ByteArray.mk #[]⟩ := rfl
 by_cases h1 : n = 1
 ·subst h1
  rw [e1]
  simp [Zr, andB]
 ·rw [beq_eq_false_iff_ne.2 h1, e1]
  unfold ofV
  cases inR n 0 1 with
  | true =>
   simp only [cond_true, Zr, andB]
   rw [beq_eq_false_iff_ne.2 h1]
   simp
  | false => rfl
theorem three_ways {cs : List Zb} {row : List Za} {e : List Zd} (hf : rowFits cs row = true) (hr : SmR row) (hp : ∀ p ∈ e, SmP p) (hl : e.length ≤ 100) (h : exprRun cs e [] = 3) :
  (if holds row e = true then 1 else 0) + (if holds row (e ++ [ptP 7]) = true then 1 else 0) + (if holds row (e ++ [ptP 8]) = true then 1 else 0) = 1 := by
 obtain ⟨v, hs, hv, hk⟩ := stk_one hf hr (ks := []) (st := []) hp h trivial (fun v hv => by cases hv) (by simp; omega)
 have e0 : exprVal row e = v := by
  unfold exprVal
  rw [val_stk, hs]
  rfl
 have e1 : exprVal row (e ++ [ptP 7]) = ofV (notV (truV v)) := by
  unfold exprVal
  rw [val_stk, stk_app, hs]
  rfl
 have e2 : exprVal row (e ++ [ptP 8]) = ofV (b2i (v.fKind == 0)) := by
  unfold exprVal
  rw [val_stk, stk_app, hs]
  rfl
 unfold holds
 rw [e0, e1, e2, truth_eq, truth_eq]
 rcases hk with hk | hk
 ·have hn : inR v.fN 0 1 = true ∧ v.fS.toList = (ByteArray.mk #[]).toList := by
   unfold valOk at hv
   rw [hk] at hv
   simp only [show ((3 : Int) == 0) = false from rfl, show ((3 : Int) == 1) = false from rfl, show ((3 : Int) == 2) = false from rfl, cond_false, beq_self_eq_true, cond_true, Bool.and_eq_true, beq_iff_eq] at hv
   exact hv
  have ht : truV v = v.fN := by
   unfold truV
   rw [hv, hk]
   rfl
  have he : Zr v (ofV 1) = (v.fN == 1) := by
   rw [show ofV 1 = ⟨3, 1, ByteArray.mk #[]⟩ from rfl]
   simp only [Zr, andB]
   rw [hk, hn.2, beq_self_eq_true, beq_self_eq_true, Bool.and_true]
   rfl
  rw [ht, he, hk]
  have h01 := hn.1
  rw [in01] at h01
  simp only [Bool.or_eq_true, beq_iff_eq] at h01
  rcases h01 with h01 | h01 <;> rw [h01] <;> decide
 ·have ht : truV v = 2 := by
   unfold truV
   rw [hv, hk]
   rfl
  have he : Zr v (ofV 1) = false := by
   rw [show ofV 1 = ⟨3, 1, ByteArray.mk #[]⟩ from rfl]
   simp only [Zr, andB]
   rw [hk]
   rfl
  rw [ht, he, hk]
  decide
theorem many_filter (p : List Za → Bool) (r : List Za) : ∀ xs : List (List Za), many (xs.filter p) r = many xs r * (if p r = true then 1 else 0)
 | [] => by simp [many_nil]
 | x :: xs => by
  have ih := many_filter p r xs
  rw [List.filter_cons, many_cons]
  cases he : rowEq x r with
  | true =>
   have := rowEq_iff.1 he
   subst this
   cases hp : p x with
   | true => rw [hp] at ih; simp only [if_true] at ih ⊢; rw [many_cons, he, ih]; simp
   | false => rw [hp] at ih; simp at ih ⊢; exact ih
  | false =>
   cases hp : p x with
   | true => simp only [if_true]; rw [many_cons, he, ih]; simp
   | false => simp only [Bool.false_eq_true, if_false]; rw [ih]; simp
theorem three_bag {cs : List Zb} {e : List Zd} (hp : ∀ p ∈ e, SmP p) (hl : e.length ≤ 100) (h : exprRun cs e [] = 3) {rs : List (List Za)} (hr : ∀ r ∈ rs, rowFits cs r = true ∧ SmR r) (r : List Za) :
  many (rs.filter (holds · e) ++ rs.filter (holds · (e ++ [ptP 7])) ++ rs.filter (holds · (e ++ [ptP 8]))) r = many rs r := by
 rw [many_app, many_app, many_filter, many_filter, many_filter]
 by_cases h0 : 0 < many rs r
 ·obtain ⟨f1, f2⟩ := hr r (many_pos.1 h0)
  have := three_ways f1 f2 hp hl h
  rw [← Nat.mul_add, ← Nat.mul_add, this, Nat.mul_one]
 ·have : many rs r = 0 := by omega
  rw [this]
  simp
theorem rows_where1 {ts : List Zh} {ss : List Zf} {e : List Zd} (hl : 1 ≤ ss.length) : rowsAt (rowsRun ts (ss ++ [stW ((ss.length : Int) - 1) e]) []) (((ss ++ [stW ((ss.length : Int) - 1) e]).length : Int) - 1) = (rowsAt (rowsRun ts ss []) ((ss.length : Int) - 1)).filter (holds · e) := by
 have hr := rowsRun_len ts ss []
 rw [List.length_nil, Nat.zero_add] at hr
 rw [rowsRun_app]
 show rowsAt (rowsRun ts ss [] ++ [(rowsAt (rowsRun ts ss []) ((ss.length : Int) - 1)).filter (holds · e)]) _ = _
 rw [rowsAt_last _ _ (by simp [hr])]
theorem plan_where {ts : List Zh} {ss : List Zf} {e : List Zd} (ht : TsFit ts) (hp : PlOk ts ss) (hu : ss.length ≤ 3) (he : exprKind (planCols ts ss) e = 3) : planV ts (ss ++ [stW ((ss.length : Int) - 1) e]) = (planV ts ss).filter (holds · e) := by
 have hok := hp.ok ht
 obtain ⟨l, m, r1, r2, r3, r4, r5⟩ := plan_acc ht.sm hp.sm hok
 have hm := (r2.get r3).2.m
 have ok2 : planOk ts (ss ++ [stW ((ss.length : Int) - 1) e]) = true := by
  unfold planOk
  rw [planRun_app, r1, Option.bind_some, ht.ok]
  unfold planRun
  rw [made_where r3, r5, he]
  simp only [beq_self_eq_true, cond_true]
  rw [decide_eq_false (show ¬ m.fMost > 300 by omega), cond_false]
  unfold planRun inR
  rw [decide_eq_true (by simp; omega), decide_eq_true (by simp; omega)]
  rfl
 unfold planV
 rw [ok2, hok, cond_true, cond_true, rows_where1 r4]
theorem parts_ok {a : List Zd} {k : Int} (ha : a.length ≤ 100) (hk : k > 0) : laws_withParts a [] k = some (a ++ [ptP k]) := by
 unfold laws_withParts
 rw [app_lt (by simp; omega), Option.bind_some, List.nil_append, app_lt (by simp; omega), Option.bind_some, List.append_nil, decide_eq_true hk, cond_true, app_lt (by simp; omega), Option.bind_some]
theorem law_fnWholeThree {a0 : List UInt8} (w0 : listW u8W a0) : laws_FnWholeThree a0 = some true := by
 unfold laws_FnWholeThree
 by_cases hl : (a0.length : Int) > 1048576
 ·rw [decide_eq_true hl, cond_true]
 rw [decide_eq_false hl, cond_false]
 obtain ⟨⟨ts, ss, a, b⟩, e, hx⟩ := draw_tested (b := a0) (by omega)
 have ht := hx.t
 have hp := hx.p
 have hu := hx.u
 have ha := hx.ea
 have hb := hx.eb
 obtain ⟨n, r, r', f, g1, g2, g3, g4⟩ := hx.a
 simp only at ht hp hu ha hb g3 g4
 have h1 := hp.l
 have c1 : costE 1 ≤ 120 := by decide
 have hcl := planCols_len (ts := ts) (ss := ss)
 obtain ⟨a', q, k1, k2, k3, k4⟩ := expr_good (cs := planCols ts ss) (by omega) 1 FUEL n r 3 1 rfl (by omega) (by unfold FUEL; omega) (by omega) (by omega) g1 (by omega)
 rw [g3] at k1
 have ka : a = a' := (Prod.mk.inj (Option.some.inj k1)).1
 rw [← ka] at k4
 have hok := hp.ok ht
 obtain ⟨m, hin, hmc⟩ := planV_in ht.sm hp.sm hok
 have hcc : colsOk (planCols ts ss) = true := by rw [← hmc]; exact hin.c
 have hrows : ∀ r ∈ planV ts ss, rowFits (planCols ts ss) r = true ∧ SmR r := by rw [← hmc]; exact hin.f
 have hlen := hin.len
 have hsm := planV_sm ht.sm hp.sm
 have hal := ha.1
 have hrun : exprRun (planCols ts ss) a [] = 3 := by
  have := k4 [] []
  rw [List.append_nil] at this
  rw [this]
  rfl
 have ex : ∀ k, ExOk 200 (a ++ [ptP k]) := fun k => (ha.app (ExOk.one (smP_op k 0))).up (by omega)
 have sm : ∀ e, ExOk 200 e → SmSs (ss ++ [stW ((ss.length : Int) - 1) e]) := fun e he => ⟨by simp; omega, fun s hs => by
  rcases List.mem_append.1 hs with hs | hs
  ·exact (hp.s s hs).sm
  ·have : s = stW ((ss.length : Int) - 1) e := by simpa using hs
   subst this
   exact ⟨by have := he.1; simp only; omega, he.2, Nat.zero_le _⟩⟩
 have w1 : w64 ((ss.length : Int) - 1) = (ss.length : Int) - 1 := w64_of (by omega) (by omega)
 rw [e, Option.bind_some, impl_planOk ht.sm hp.sm, Option.bind_some, spec_planOk ht.sm hp.sm, Option.bind_some, beq_self_eq_true, Bool.not_true, cond_false, impl_planV ht.sm hp.sm, Option.bind_some, parts_ok hal (by omega), Option.bind_some, parts_ok hal (by omega), Option.bind_some]
 have turn : ∀ (f i : Nat) (s : List (List Za)) (u : List Zd), i < 3 → [a, a ++ [ptP 7], a ++ [ptP 8]][i]? = some u → s.length ≤ 900 → ExOk 200 u → (u.length ≤ 12 → exprKind (planCols ts ss) u = 3) →
   laws_FnWholeThree_l0 (ts, ss, a, b) (planV ts ss) (a ++ [ptP 7]) (a ++ [ptP 8]) (f + 1) s (i : Int) = some true ∨ laws_FnWholeThree_l0 (ts, ss, a, b) (planV ts ss) (a ++ [ptP 7]) (a ++ [ptP 8]) (f + 1) s (i : Int) = laws_FnWholeThree_l0 (ts, ss, a, b) (planV ts ss) (a ++ [ptP 7]) (a ++ [ptP 8]) f (s ++ (planV ts ss).filter (holds · u)) ((i + 1 : Nat) : Int) := by
  intro f i s u hi hg hs hex hkind
  have yes : ∀ K, laws_FnWholeThree_j1 (ts, ss, a, b) s (i : Int) K u true = some true := fun K => by
   unfold laws_FnWholeThree_j1
   rw [cond_true, alive_t]
   rfl
  rw [laws_FnWholeThree_l0]
  simp only
  rw [decide_eq_true (show (i : Int) < (([a, a ++ [ptP 7], a ++ [ptP 8]] : List (List Zd)).length : Int) by simp; omega), cond_true, Z9, hg, Option.bind_some]
  by_cases h12 : (u.length : Int) > 12
  ·rw [decide_eq_true h12, cond_true]
   exact .inl (yes _)
  rw [decide_eq_false h12, cond_false]
  cases (b.length : Int) == 0 with
  | true => exact .inl (yes _)
  | false =>
   refine .inr ?_
   have hk := hkind (by omega)
   have hfl := List.length_filter_le (holds · u) (planV ts ss)
   unfold laws_FnWholeThree_j1
   simp only
   rw [cond_false, app_lt (by simp; omega), Option.bind_some, List.nil_append, w1, app_lt (by simp; omega), Option.bind_some, impl_planV ht.sm (sm u hex), Option.bind_some, plan_where ht hp hu hk, laws_joined_ok (by omega) (by omega), Option.bind_some, w64_of (by omega) (by omega)]
   rfl
 obtain ⟨F, hF⟩ := fuel4
 have l1 := List.length_filter_le (holds · a) (planV ts ss)
 have l2 := List.length_filter_le (holds · (a ++ [ptP 7])) (planV ts ss)
 have l3 := List.length_filter_le (holds · (a ++ [ptP 8])) (planV ts ss)
 rw [hF]
 rcases turn (F + 1 + 1 + 1) 0 [] a (by omega) rfl (by simp) (ha.up (by omega)) (fun h => k4.kind hcc h) with h | h
 ·exact h
 refine h.trans ?_
 rw [List.nil_append]
 rcases turn (F + 1 + 1) 1 ((planV ts ss).filter (holds · a)) (a ++ [ptP 7]) (by omega) rfl (by omega) (ex 7) (fun h => k4.not.kind hcc h) with h | h
 ·exact h
 refine h.trans ?_
 rcases turn (F + 1) 2 ((planV ts ss).filter (holds · a) ++ (planV ts ss).filter (holds · (a ++ [ptP 7]))) (a ++ [ptP 8]) (by omega) rfl (by rw [List.length_append]; omega) (ex 8) (fun h => k4.isn.kind hcc h) with h | h
 ·exact h
 refine h.trans ?_
 have hss : SmRs ((planV ts ss).filter (holds · a) ++ (planV ts ss).filter (holds · (a ++ [ptP 7])) ++ (planV ts ss).filter (holds · (a ++ [ptP 8]))) := ⟨by simp; omega, fun r hr => by
  rcases List.mem_append.1 hr with hr | hr
  ·rcases List.mem_append.1 hr with hr | hr
   ·exact hsm.2 r (List.mem_filter.1 hr).1
   ·exact hsm.2 r (List.mem_filter.1 hr).1
  ·exact hsm.2 r (List.mem_filter.1 hr).1⟩
 rw [laws_FnWholeThree_l0]
 simp only
 rw [decide_eq_false (show ¬ (((2 + 1 : Nat) : Int) < (([a, a ++ [ptP 7], a ++ [ptP 8]] : List (List Zd)).length : Int)) by simp), cond_false, impl_sameBag_of hss hsm (three_bag ha.2 hal hrun hrows), Option.bind_some, cond_true, alive_t]
 rfl
end Go.D
set_option linter.unusedVariables false
namespace Go.D
open Go.Proofs
theorem rd_5 : Rd Tryz.prog 5 UInt8 u8W := rd_u8 Tryz.underlying5 (by kernel_rfl)
theorem rd_22 : Rd Tryz.prog 22 (List UInt8) (listW u8W) := rd_slice Tryz.underlying22 (by kernel_rfl) rd_5
end Go.D
set_option linter.unusedVariables false
namespace Go.D
open Go.ChangeShapes Go.RowKit
theorem trodAll_carry {H : Type} {enc : TypeId × Value → H} {P : Program} {w w' : World} {base : Nat} {sp : Nat → Bool} {held : Bool} : ∀ {ts : List TypeId} {vs : List Value} {ds : List (DataW H)} {ps : List MemPlace},
  DataW.TrodAll enc P w base sp held ts vs ds ps → (∀ p ∈ ps, w.sameAt w' p) → DataW.TrodAll enc P w' base sp held ts vs ds ps
 | [], [], [], _, h, _ => h
 | _ :: _, _ :: _, _ :: _, _, ⟨p, q, ⟨n, hn⟩, h2, e⟩, hs =>
  ⟨p, q, ⟨n, DataW.trod_carry n _ _ _ hn fun x hx => hs x (by rw [e]; exact List.mem_append_left _ hx)⟩, trodAll_carry h2 fun x hx => hs x (by rw [e]; exact List.mem_append_right _ hx), e⟩
theorem Kept.sameAt {w w' : World} (h : Grew w w') {p : MemPlace} (hp : p.block < w.heap.size) : w.sameAt w' p := by
 have hb := h.block p.block hp (fun h => h)
 cases p with
 | cell b off =>
  show w'.cell? ⟨b, off, none⟩ = w.cell? ⟨b, off, none⟩
  unfold World.cell?
  have hb : w'.heap[b]? = w.heap[b]? := hb
  simp only [hb]
 | map b => exact hb
theorem Kept.keptBut {w w' : World} (h : Grew w w') (may : MemPlace → Prop) : w.keptBut w' may := by
 refine ⟨h.os, h.output, fun i hi => ?_⟩
 rw [h.block i hi (fun h => h)]
 cases w.heap[i]? with
 | none => trivial
 | some o => cases o <;> simp
theorem contract_of {P : Program} {fid : FuncId} {fn : Func} {s : ChangeSpec} {tb : TypeId} {H : Type} {enc : TypeId × Value → H}
  (hK : Kids P (· < P.types.size)) (hfull : ∀ t e, t < P.types.size → P.underlying t = some (.slice e) → 0 < P.cellsOf e)
  (hp : ∀ t ∈ fn.params.toList, t < P.types.size) (hv : s.vars = []) (hr : fn.resultTypes = #[tb]) (hb : P.underlying tb = some .bool)
  {n : Nat} (hn : fn.params.toList.length = n) (hs : ∀ ds : List (DataW H), ds.length = n → s.fn H ds = { results := [.lit (.bool true)], args := ds })
  {W : World} {args : Array Value} {ds gs : List (DataW H)} {before : List MemPlace}
  (hlaw : ∀ p, DataW.TrodAll enc P W 0 (fun _ => true) true fn.params.toList args.toList ds p → ∃ ins, FrL W (fun _ => False) ins args.toList ∧ OK P fid ins (B true))
  (hW : DataW.Whole enc P fn.params.toList s.vars false W args.toList ds gs before) :
  Calls P fid args W fun e W' => ∃ v, e = .returned v ∧ s.post enc P fn false true false false W args v W' := by
 have hlt := hW.lt
 have hW' := hW
 obtain ⟨p, q, hA, hV, rfl, hfz, hnd⟩ := hW
 rw [hv] at hV
 obtain ⟨rfl, rfl⟩ := trodVars_none hV
 obtain ⟨ins, h1, h2⟩ := hlaw p hA
 have hlen : ∀ {ts : List TypeId} {vs : List Value} {ds : List (DataW H)} {ps : List MemPlace}, DataW.TrodAll enc P W 0 (fun _ => true) true ts vs ds ps → ds.length = ts.length := by
  intro ts
  induction ts with
  | nil => intro vs ds ps h; obtain ⟨_, rfl, _⟩ := trodAll_nil h; rfl
  | cons t ts ih =>
   intro vs ds ps h
   obtain ⟨_, _, _, _, _, _, rfl, rfl, rfl, _, h⟩ := trodAll_cons h
   simp [ih h]
 have hds : ds.length = n := (hlen hA).trans hn
 have hc := h2.2 W args.toList (fun _ => False) (fun b h => h.elim) h1
 have ha : args.toList.toArray = args := by simp
 rw [ha] at hc
 refine hc.mono fun e W' ⟨v, fp, he, hg, ho, _⟩ => ⟨v, he, ?_⟩
 simp only [B, Ow] at ho
 obtain ⟨rfl, rfl⟩ := ho
 have hsame : ∀ x ∈ p, W.sameAt W' x := fun x hx => Kept.sameAt hg (hlt x (by simpa using hx))
 refine ⟨ds, [], p ++ [], [], p, [], hW', ?_, ?_, ?_, Kept.keptBut hg _, fun h => by cases h⟩
 ·rw [List.append_nil, hs ds hds, hr]
  exact trodAll_mk1 (shut_bool hb true)
 ·rw [List.append_nil, hs ds hds]
  exact trodAll_carry (DataW.TrodAll.respare hK hfull hp hA fun x hx => by
   have := hlt x (by simpa using hx)
   simpa using this) hsame
 ·rw [hv, List.append_nil, hs ds hds]
  rfl
end Go.D
