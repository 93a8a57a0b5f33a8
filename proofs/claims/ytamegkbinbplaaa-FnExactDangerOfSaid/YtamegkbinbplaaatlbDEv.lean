import Derived.Test.YtamegkbinbplaaatlbDWp
import Derived.Deep.MidRow
import Derived.Laws.StructEq
set_option linter.unusedVariables false
namespace Go.D
inductive TK where
 | int (k : IntKind)
 | bool
 | str
 | slice (e : Nat)
 | struct (fs : List (Nat × Nat))
 | ptr (e : Nat)
 | func
 | other
structure TI where
 k : TK
 size : Nat
 bytes : Nat
 zero : List V
 eq : Bool
abbrev Tau := Nat → Option TI
def TKok : TK → TypeDesc → Prop
 | .int k, d => d = .int k
 | .bool, d => d = .bool
 | .str, d => d = .string
 | .slice e, d => d = .slice e
 | .struct fs, d => ∃ fields : Array Field, d = .struct fields ∧ fields.toList.map (fun f => (f.type, f.offset)) = fs
 | .ptr e, d => d = .pointer e
 | .func, d => ∃ a b c, d = .func a b c
 | .other, _ => False
def TIok (P : Program) (t : TypeId) (i : TI) : Prop :=
 ∃ inf d z, P.info? t = some inf ∧ P.underlying t = some d ∧ inf.size = i.size ∧ inf.bytes = i.bytes ∧ inf.zero = some z ∧
  (∀ w M, FrL w M i.zero z.cells.toList) ∧ (∀ fs, i.k = .struct fs → ∃ c, z = .agg c) ∧ TKok i.k d ∧
  (i.eq = true → P.stoodInHeld t = false ∧ P.eqGuardType P.depth t = false ∧ ∀ f ∈ (P.fieldsOf t).toList, f.name ≠ "_")
def TOK (P : Program) (τ : Tau) : Prop := ∀ t i, τ t = some i → TIok P t i
def isAggK : TK → Bool
 | .struct _ => true
 | _ => false
def nthV : List V → Nat → Option V
 | [], _ => none
 | x :: _, 0 => some x
 | _ :: r, n + 1 => nthV r n
theorem nthV_eq : ∀ (l : List V) (n : Nat), nthV l n = l[n]?
 | [], _ => by simp [nthV]
 | x :: r, 0 => by simp [nthV]
 | x :: r, n + 1 => by simp [nthV, nthV_eq r n]
def partV (τ : Tau) (t : Nat) (cs : List V) (off : Nat) : Option V :=
 match τ t with
 | none => none
 | some i => bif isAggK i.k then (bif Nat.ble (off + i.size) cs.length then some (.agg ((cs.drop off).take i.size)) else none) else nthV cs off
mutual
theorem Fr.sl {w : World} {M : Nat → Prop} {H : Hp} {μ : Nat → Option Nat} : ∀ {x : V} {v : Value}, Fr w M x v → Sl w M H μ x v
 | .lit u, v, h => by simpa only [Fr, Sl] using h
 | .agg cs, v, h => by
  simp only [Fr, Sl] at h ⊢
  obtain ⟨us, rfl, h⟩ := h
  exact ⟨us, rfl, FrL.sl h⟩
 | .tup cs, v, h => by
  simp only [Fr, Sl] at h ⊢
  obtain ⟨us, rfl, h⟩ := h
  exact ⟨us, rfl, FrL.sl h⟩
 | .arr s n cs full, v, h => by simp only [Sl]; exact h
 | .fptr cs off, v, h => by simp only [Sl]; exact h
 | .fn f caps, v, h => by
  simp only [Fr, Sl] at h ⊢
  obtain ⟨us, rfl, h⟩ := h
  exact ⟨us, rfl, FrL.sl h⟩
 | .own .., v, h => by simp only [Fr] at h
 | .obox .., v, h => by simp only [Fr] at h
 | .ref .., v, h => by simp only [Fr] at h
 | .ptr .., v, h => by simp only [Fr] at h
 | .any, v, h => by simp only [Sl]
theorem FrL.sl {w : World} {M : Nat → Prop} {H : Hp} {μ : Nat → Option Nat} : ∀ {xs : List V} {us : List Value}, FrL w M xs us → SlL w M H μ xs us
 | [], us, h => by simpa only [FrL, SlL] using h
 | c :: cs, us, h => by
  simp only [FrL, SlL] at h ⊢
  obtain ⟨u, us', rfl, h1, h2⟩ := h
  exact ⟨u, us', rfl, Fr.sl h1, FrL.sl h2⟩
end
section lists
variable {w : World} {M : Nat → Prop} {H : Hp} {μ : Nat → Option Nat}
theorem SlL.get : ∀ {xs : List V} {us : List Value}, SlL w M H μ xs us → ∀ {i : Nat} {x : V}, xs[i]? = some x → ∃ u, us[i]? = some u ∧ Sl w M H μ x u
 | [], us, h, i, x, hx => by simp at hx
 | c :: cs, us, h, i, x, hx => by
  simp only [SlL] at h
  obtain ⟨u, us', rfl, h1, h2⟩ := h
  cases i with
  | zero => simp at hx; subst hx; exact ⟨u, by simp, h1⟩
  | succ i => simp at hx; simpa using SlL.get h2 hx
theorem FrL.get : ∀ {xs : List V} {us : List Value}, FrL w M xs us → ∀ {i : Nat} {x : V}, xs[i]? = some x → ∃ u, us[i]? = some u ∧ Fr w M x u
 | [], us, h, i, x, hx => by simp at hx
 | c :: cs, us, h, i, x, hx => by
  simp only [FrL] at h
  obtain ⟨u, us', rfl, h1, h2⟩ := h
  cases i with
  | zero => simp at hx; subst hx; exact ⟨u, by simp, h1⟩
  | succ i => simp at hx; simpa using FrL.get h2 hx
theorem SlL.drop : ∀ (n : Nat) {xs : List V} {us : List Value}, SlL w M H μ xs us → SlL w M H μ (xs.drop n) (us.drop n)
 | 0, _, _, h => by simpa using h
 | n + 1, [], us, h => by simp only [SlL] at h; subst h; simp [SlL]
 | n + 1, c :: cs, us, h => by
  simp only [SlL] at h
  obtain ⟨u, us', rfl, h1, h2⟩ := h
  simpa using SlL.drop n h2
theorem SlL.take : ∀ (n : Nat) {xs : List V} {us : List Value}, SlL w M H μ xs us → SlL w M H μ (xs.take n) (us.take n)
 | 0, _, _, h => by simp [SlL]
 | n + 1, [], us, h => by simp only [SlL] at h; subst h; simp [SlL]
 | n + 1, c :: cs, us, h => by
  simp only [SlL] at h
  obtain ⟨u, us', rfl, h1, h2⟩ := h
  simp only [List.take_succ_cons, SlL]
  exact ⟨u, _, rfl, h1, SlL.take n h2⟩
theorem FrL.drop : ∀ (n : Nat) {xs : List V} {us : List Value}, FrL w M xs us → FrL w M (xs.drop n) (us.drop n)
 | 0, _, _, h => by simpa using h
 | n + 1, [], us, h => by simp only [FrL] at h; subst h; simp [FrL]
 | n + 1, c :: cs, us, h => by
  simp only [FrL] at h
  obtain ⟨u, us', rfl, h1, h2⟩ := h
  simpa using FrL.drop n h2
theorem FrL.take : ∀ (n : Nat) {xs : List V} {us : List Value}, FrL w M xs us → FrL w M (xs.take n) (us.take n)
 | 0, _, _, h => by simp [FrL]
 | n + 1, [], us, h => by simp only [FrL] at h; subst h; simp [FrL]
 | n + 1, c :: cs, us, h => by
  simp only [FrL] at h
  obtain ⟨u, us', rfl, h1, h2⟩ := h
  simp only [List.take_succ_cons, FrL]
  exact ⟨u, _, rfl, h1, FrL.take n h2⟩
theorem FrL.append : ∀ {xs ys : List V} {us vs : List Value}, FrL w M xs us → FrL w M ys vs → FrL w M (xs ++ ys) (us ++ vs)
 | [], ys, us, vs, h, k => by simp only [FrL] at h; subst h; simpa using k
 | c :: cs, ys, us, vs, h, k => by
  simp only [FrL] at h
  obtain ⟨u, us', rfl, h1, h2⟩ := h
  simp only [List.cons_append, FrL]
  exact ⟨u, _, rfl, h1, FrL.append h2 k⟩
theorem SlL.append : ∀ {xs ys : List V} {us vs : List Value}, SlL w M H μ xs us → SlL w M H μ ys vs → SlL w M H μ (xs ++ ys) (us ++ vs)
 | [], ys, us, vs, h, k => by simp only [SlL] at h; subst h; simpa using k
 | c :: cs, ys, us, vs, h, k => by
  simp only [SlL] at h
  obtain ⟨u, us', rfl, h1, h2⟩ := h
  simp only [List.cons_append, SlL]
  exact ⟨u, _, rfl, h1, SlL.append h2 k⟩
end lists
section
variable {P : Program} {Γ : Ctx} {τ : Tau}
theorem run_isAgg {t : TypeId} {i : TI} (h : TIok P t i) (w : World) : (isAgg t).run P w = .ok (isAggK i.k) w := by
 obtain ⟨inf, d, z, h1, h2, h3, h4, h5, h6, h7, h8, h9⟩ := h
 unfold isAgg
 rw [Sem.run_bind, run_underlying h2 w]
 cases hk : i.k <;> rw [hk] at h8 <;> simp only [TKok] at h8
 case struct fs => obtain ⟨f, rfl, _⟩ := h8; rfl
 case func => obtain ⟨a, b, c, rfl⟩ := h8; rfl
 all_goals first | (subst h8; rfl) | cases h8
theorem run_sizeOf' {t : TypeId} {i : TI} (h : TIok P t i) (w : World) : (sizeOf t).run P w = .ok i.size w := by
 obtain ⟨inf, d, z, h1, h2, h3, h4, h5, h6, h7, h8, h9⟩ := h
 simp [sizeOf, typeInfo, h1, h3]
theorem run_loadAt {t : TypeId} {i : TI} (h : TIok P t i) (w : World) (b base o : Nat) (us : List Value) (hl : Lies w b base us) {v : Value} :
  (isAggK i.k = true → o + i.size ≤ us.length → (Instr.loadAt t (.pointer (some ⟨b, base + o, none⟩))).run P w = .ok (.agg ((us.drop o).take i.size).toArray) w) ∧
  (isAggK i.k = false → us[o]? = some v → (Instr.loadAt t (.pointer (some ⟨b, base + o, none⟩))).run P w = .ok v w) := by
 refine ⟨fun ha hle => ?_, fun ha hv => ?_⟩
 ·obtain ⟨inf, d, z, h1, h2, h3, h4, h5, h6, h7, h8, h9⟩ := h
  refine run_loadAt_mid w b (base + o) t _ d ?_ h2 ?_ ?_
  ·intro j x hj
   rw [List.getElem?_take] at hj
   split at hj
   ·rw [List.getElem?_drop] at hj
    have hlt := (List.getElem?_eq_some_iff.1 hj).1
    have := hl (o + j) hlt
    rw [← Nat.add_assoc] at this
    rw [this, hj]
   ·cases hj
  ·cases hk : i.k <;> rw [hk] at h8 ha <;> simp only [TKok, isAggK] at h8 ha <;> first | (obtain ⟨f, rfl, _⟩ := h8; rfl) | cases ha
  ·simp only [h1, Option.map_some, h3, List.length_take, List.length_drop, Option.some.injEq]
   omega
 ·have hg := run_isAgg h w
  rw [ha] at hg
  have hc : w.cell? ⟨b, base + o, none⟩ = some v := by
   have := hl o (List.getElem?_eq_some_iff.1 hv).1
   rw [this, hv]
  simp only [Instr.loadAt, Instr.sureAddr, loadVar, Sem.run_bind, Sem.run_pure, Result.andThen_ok, hg, Bool.false_eq_true, if_false]
  simp [hc]
theorem run_partV {t : TypeId} (hT : TOK P τ) (w : World) {M : Nat → Prop} {H : Hp} {μ : Nat → Option Nat} {cs : List V} {us : List Value} {b base off : Nat} {x : V}
  (hl : Lies w b base us) (hs : SlL w M H μ cs us) (h : partV τ t cs off = some x) :
  ∃ u, (Instr.loadAt t (.pointer (some ⟨b, base + off, none⟩))).run P w = .ok u w ∧ Sl w M H μ x u := by
 unfold partV at h
 split at h
 ·cases h
 ·rename_i i hi
  have hok := hT t i hi
  cases ha : isAggK i.k with
  | true =>
   rw [ha, cond_true] at h
   cases hle : Nat.ble (off + i.size) cs.length with
   | false => rw [hle] at h; cases h
   | true =>
    rw [hle, cond_true, Option.some.injEq] at h
    subst h
    have hle' := Nat.le_of_ble_eq_true hle
    refine ⟨_, (run_loadAt hok w b base off us hl (v := undef)).1 ha (by rw [hs.length]; exact hle'), ?_⟩
    simp only [Sl]
    exact ⟨_, rfl, (hs.drop off).take i.size⟩
  | false =>
   rw [ha, cond_false, nthV_eq] at h
   obtain ⟨u, hu, hsl⟩ := hs.get h
   exact ⟨u, (run_loadAt hok w b base off us hl).2 ha hu, hsl⟩
theorem run_part {t : TypeId} (hT : TOK P τ) (w : World) {M : Nat → Prop} {H : Hp} {μ : Nat → Option Nat} {cs : List V} {us : List Value} {off : Nat} {x : V}
  (hs : SlL w M H μ cs us) (h : partV τ t cs off = some x) :
  ∃ u, (part t us.toArray off).run P w = .ok u w ∧ Sl w M H μ x u := by
 unfold partV at h
 split at h
 ·cases h
 ·rename_i i hi
  have hok := hT t i hi
  have hg := run_isAgg hok w
  have hz := run_sizeOf' hok w
  cases ha : isAggK i.k with
  | true =>
   rw [ha] at hg
   rw [ha, cond_true] at h
   cases hle : Nat.ble (off + i.size) cs.length with
   | false => rw [hle] at h; cases h
   | true =>
    rw [hle, cond_true, Option.some.injEq] at h
    subst h
    refine ⟨.agg ((us.drop off).take i.size).toArray, ?_, ?_⟩
    ·simp only [part, Sem.run_bind, hg, Result.andThen_ok, if_true, hz, Sem.run_pure]
     congr 2
     simp only [List.extract_toArray, List.extract_eq_take_drop]
     congr 2
     omega
    ·simp only [Sl]
     exact ⟨_, rfl, (hs.drop off).take i.size⟩
  | false =>
   rw [ha] at hg
   rw [ha, cond_false, nthV_eq] at h
   obtain ⟨u, hu, hsl⟩ := hs.get h
   refine ⟨u, ?_, hsl⟩
   have hu' : us.toArray[off]? = some u := by simpa using hu
   simp only [part, Sem.run_bind, hg, Result.andThen_ok, Bool.false_eq_true, if_false, hu', Sem.run_pure]
def andB : List Bool → Bool
 | [] => true
 | [b] => b
 | b :: r => b && andB r
mutual
def eqV (τ : Tau) : Nat → Nat → V → V → Option Bool
 | 0, _, _, _ => none
 | d + 1, t, x, y =>
  match τ t with
  | none => none
  | some i =>
   match i.k, x, y with
   | .int _, .lit (.int k a), .lit (.int k' b) => if k = k' then some (a == b) else none
   | .bool, .lit (.bool a), .lit (.bool b) => some (a == b)
   | .str, .lit (.string a), .lit (.string b) => some (a.toList == b.toList)
   | .struct fs, .agg cs, .agg ds => bif i.eq then (eqFs τ d fs cs ds).map andB else none
   | _, _, _ => none
def eqFs (τ : Tau) : Nat → List (Nat × Nat) → List V → List V → Option (List Bool)
 | _, [], _, _ => some []
 | 0, _ :: _, _, _ => none
 | d + 1, (t, o) :: fs, cs, ds =>
  match partV τ t cs o, partV τ t ds o with
  | some x, some y =>
   match eqV τ d t x y, eqFs τ d fs cs ds with
   | some b, some bs => some (b :: bs)
   | _, _ => none
  | _, _ => none
end
mutual
theorem eqV_sound (hT : TOK P τ) {w : World} {M : Nat → Prop} {H : Hp} {μ : Nat → Option Nat} : ∀ (d : Nat) (D : Nat) (t : Nat) (x y : V) (u v : Value) (b : Bool), d ≤ D → eqV τ d t x y = some b →
  Sl w M H μ x u → Sl w M H μ y v → (Op.equalIn D t u v).run P w = .ok b w
 | 0, _, _, _, _, _, _, _, _, h, _, _ => by simp [eqV] at h
 | d + 1, D, t, x, y, u, v, b, hd, h, hx, hy => by
  obtain ⟨D, rfl⟩ : ∃ E, D = E + 1 := ⟨D - 1, by omega⟩
  simp only [eqV] at h
  split at h
  ·cases h
  rename_i i hi
  obtain ⟨inf, ds, z, h1, h2, h3, h4, h5, h6, h7, h8, h9⟩ := hT t i hi
  split at h
  ·rename_i k0 k a k' b' hk
   rw [hk] at h8
   simp only [TKok] at h8
   subst h8
   simp only [Sl] at hx hy
   subst hx hy
   split at h
   ·rename_i e
    subst e
    cases h
    exact run_equalIn_int w D t k k0 a b' h2
   ·cases h
  ·rename_i a b' hk
   rw [hk] at h8
   simp only [TKok] at h8
   subst h8
   simp only [Sl] at hx hy
   subst hx hy
   cases h
   exact run_equalIn_bool' w D t a b' h2
  ·rename_i a b' hk
   rw [hk] at h8
   simp only [TKok] at h8
   subst h8
   simp only [Sl] at hx hy
   subst hx hy
   cases h
   exact run_equalIn_string w D t a b' h2
  ·rename_i fs cs ds' hk
   rw [hk] at h8
   simp only [TKok] at h8
   obtain ⟨fields, rfl, hf⟩ := h8
   cases he : i.eq with
   | false => rw [he] at h; cases h
   | true =>
    rw [he, cond_true] at h
    obtain ⟨g1, g2, g3⟩ := h9 he
    have hfo : P.fieldsOf t = fields := by simp [Program.fieldsOf, h2]
    rw [hfo] at g3
    simp only [Sl] at hx hy
    obtain ⟨us, rfl, hx⟩ := hx
    obtain ⟨vs, rfl, hy⟩ := hy
    cases hq : eqFs τ d fs cs ds' with
    | none => rw [hq] at h; cases h
    | some bs =>
     rw [hq, Option.map_some, Option.some.injEq] at h
     subst h
     rw [run_equalIn_struct (P := P) w D t us.toArray vs.toArray (by rw [hfo]; exact h2) g1, hfo]
     exact eqFs_sound hT d D fs fields.toList cs ds' us vs bs (by omega) hf g3 hq hx hy
  ·cases h
theorem eqFs_sound (hT : TOK P τ) {w : World} {M : Nat → Prop} {H : Hp} {μ : Nat → Option Nat} : ∀ (d : Nat) (D : Nat) (fs : List (Nat × Nat)) (fl : List Field) (cs ds : List V) (us vs : List Value) (bs : List Bool), d ≤ D →
  fl.map (fun f => (f.type, f.offset)) = fs → (∀ f ∈ fl, f.name ≠ "_") → eqFs τ d fs cs ds = some bs → SlL w M H μ cs us → SlL w M H μ ds vs →
  (Op.eqFields D us.toArray vs.toArray fl).run P w = .ok (andB bs) w
 | d, D, [], fl, cs, ds, us, vs, bs, hd, hf, hn, h, hx, hy => by
  have : fl = [] := by simpa using hf
  subst this
  simp only [eqFs, Option.some.injEq] at h
  subst h
  simp [Op.eqFields, andB]
 | 0, _, _ :: _, _, _, _, _, _, _, _, _, _, h, _, _ => by simp [eqFs] at h
 | d + 1, D, (t, o) :: fs, fl, cs, ds, us, vs, bs, hd, hf, hn, h, hx, hy => by
  cases fl with
  | nil => cases hf
  | cons f fl =>
   simp only [List.map_cons, List.cons.injEq, Prod.mk.injEq] at hf
   obtain ⟨⟨rfl, rfl⟩, hf⟩ := hf
   simp only [eqFs] at h
   cases hp : partV τ f.type cs f.offset with
   | none => simp only [hp] at h; cases h
   | some x =>
   cases hq : partV τ f.type ds f.offset with
   | none => simp only [hp, hq] at h; cases h
   | some y =>
   simp only [hp, hq] at h
   cases hb : eqV τ d f.type x y with
   | none => simp only [hb] at h; cases h
   | some b =>
   cases hbs : eqFs τ d fs cs ds with
   | none => simp only [hb, hbs] at h; cases h
   | some bs' =>
   simp only [hb, hbs, Option.some.injEq] at h
   subst h
   obtain ⟨u, hu, hu'⟩ := run_part (P := P) hT w hx hp
   obtain ⟨v, hv, hv'⟩ := run_part (P := P) hT w hy hq
   have h1 := eqV_sound hT d D f.type x y u v b (by omega) hb hu' hv'
   have h2 := eqFs_sound hT d D fs fl cs ds us vs bs' (by omega) hf (fun g hg => hn g (by simp [hg])) hbs hx hy
   have hn' := hn f (by simp)
   rw [Op.eqFields]
   simp only [if_pos hn', Sem.run_bind, hu, hv, h1, Result.andThen_ok]
   cases bs' with
   | nil =>
    simp only [andB] at h2 ⊢
    cases b
    ·simp
    ·simpa using h2
   | cons b' bs' =>
    simp only [andB] at h2 ⊢
    cases b
    ·simp
    ·simpa using h2
end
end
end Go.D
