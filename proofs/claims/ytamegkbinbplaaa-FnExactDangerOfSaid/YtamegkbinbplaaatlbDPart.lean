import Derived.Test.YtamegkbinbplaaatlbDDeep5
set_option linter.unusedVariables false
namespace Go.D
structure IdpR where
 d : Nat
 k : Nat
 ver : Nat
 s : Nat
 n : Nat
 i : Int
 off : Nat
section
variable {P : Program} {Γ : Ctx} {τ : Tau} {α : Type} [Enc α]
end
section
variable {P : Program} {Γ : Ctx}
end
section
variable {P : Program} {Γ : Ctx} {τ : Tau} {α : Type} [Enc α]
end
def St.off (st : St) (ds : List Nat) : St := ⟨st.nt, st.tmps.filter (fun p => !(hasN ds p.1)), st.H⟩
def offOp (ops : Array Oper) (ds : List Nat) (j : Nat) : Bool :=
 match ops[j]? with
 | some o => ds.all (fun d => !(hasN (o.looksAt ops) d)) && (match o.dst with | some d => !(hasN ds d) | none => true)
 | none => true
def offOps (ops : Array Oper) (ds : List Nat) : Nat → Nat → Bool
 | 0, _ => true
 | n + 1, j => offOp ops ds j && offOps ops ds n (j + 1)
theorem off_only {st : St} {ds l : List Nat} (h : ds.all (fun d => !(hasN l d)) = true) : (st.off ds).only l = st.only l := by
 unfold St.off St.only
 simp only [List.filter_filter, St.mk.injEq, true_and, and_true]
 refine List.filter_congr fun p _ => ?_
 cases hp : hasN l p.1 with
 | false => simp
 | true =>
  cases hd : hasN ds p.1 with
  | false => simp
  | true =>
   have := List.all_eq_true.1 h p.1 (hasN_mem hd)
   rw [hp] at this
   cases this
theorem drop1_filter {d : Nat} {f : Nat → Bool} (hd : f d = true) : ∀ l : List (Nat × V), drop1 (l.filter fun p => f p.1) d = (drop1 l d).filter fun p => f p.1
 | [] => rfl
 | (k, v) :: r => by
  have ih := drop1_filter hd r
  cases hk : Nat.beq k d with
  | true =>
   have := Nat.eq_of_beq_eq_true hk
   subst this
   simp only [List.filter_cons, hd, if_true, drop1, hk, cond_true]
   exact ih
  | false =>
   cases hf : f k with
   | true => simp only [List.filter_cons, hf, if_true, drop1, hk, cond_false, ih]
   | false => simp [List.filter_cons, hf, drop1, hk, ih]
theorem off_put {st : St} {ds : List Nat} {dd : Option Nat} {x : V} (h : (match dd with | some d => !(hasN ds d) | none => true) = true) : (st.off ds).put dd x = (st.put dd x).off ds := by
 cases dd with
 | none => rfl
 | some d =>
  simp only at h
  simp only [St.put, St.set, St.off, List.filter_cons, h, if_true, St.mk.injEq, true_and, and_true, List.cons.injEq]
  exact drop1_filter (f := fun k => !(hasN ds k)) h st.tmps
theorem qA_off0 {P : Program} {Γ : Ctx} {ops : Array Oper} {vis mod : List (List Nat)} {T : St → Prop} (ds : List Nat) (hT : ∀ st : St, T (st.off ds) → T st) : ∀ (n j : Nat) (st : St), offOps ops ds n j = true → qA P Γ ops vis mod T n j (st.off ds) → qA P Γ ops vis mod T n j st
 | 0, j, st, _, h => hT st h
 | n + 1, j, st, hb, h => by
  obtain ⟨o, x, Hm', a1, a2, a3, a4, a5, a6, a7, hk⟩ := h
  simp only [offOps, offOp, Bool.and_eq_true, a1] at hb
  have hq : stq ops j (st.off ds) = stq ops j st := by
   unfold stq
   rw [a1]
   exact off_only hb.1.1
  have hA : stA ops vis j (st.off ds) = stA ops vis j st := by
   unfold stA
   rw [hq]
   rfl
  unfold CopyA at a6
  rw [hA, hq] at a6
  rw [hA] at a7
  refine ⟨o, x, Hm', a1, a2, a3, a4, a5, a6, a7, qA_off0 ds hT n (j + 1) _ hb.2 ?_⟩
  rw [← off_put (by exact hb.1.2)]
  exact hk
theorem Imp.off {Γ : Ctx} {st : St} (ds : List Nat) : Imp Γ st (st.off ds) := Imp.of_own rfl fun a w M μ fp G O hS => ⟨M, μ, fp, G, O, fun s x hx => hS s x (List.mem_filter.1 hx).1⟩
theorem qA_off {P : Program} {Γ : Ctx} {ops : Array Oper} {vis mod : List (List Nat)} {Q : Exit → St → Prop} {q n j : Nat} {st : St} (ds : List Nat) (st' : St) (hb : offOps ops ds n j = true) (he : st.off ds = st') (h : qA P Γ ops vis mod (fun st' => opsP P Γ ops Q q st') n j st') : qA P Γ ops vis mod (fun st' => opsP P Γ ops Q q st') n j st := by
 subst he
 exact qA_off0 (T := fun st' => opsP P Γ ops Q q st') ds (fun st h => opsP_imp (Imp.off ds) h) n j st hb h
def hasKey : List (Nat × V) → Nat → Bool
 | [], _ => false
 | (k, _) :: r, s => bif Nat.beq k s then true else hasKey r s
def offKeys (T : List (Nat × V)) : List (Nat × V) → List Nat
 | [] => []
 | (k, _) :: r => bif hasKey T k then offKeys T r else k :: offKeys T r
def offE (ops : Array Oper) (n j : Nat) (T : List (Nat × V)) (s : St) : Option St := bif offOps ops (offKeys T s.tmps) n j then some (s.off (offKeys T s.tmps)) else none
def evO (τ : Tau) (mu : List Nat) (ops : Array Oper) (vis mod : List (List Nat)) (ks : List Nat) (m n j : Nat) (st : St) (T : List (Nat × V)) : Option St := (evA τ mu ops vis mod ks n j st).bind (offE ops m (j + n) T)
section
variable {P : Program} {Γ : Ctx} {τ : Tau}
theorem hL {α : Type} [Enc α] {xs : List α} {A B : Prop} (h : B) : ((eL xs).all frozenV = true ∨ A) ∧ B := ⟨.inl (eL_frz _), h⟩
theorem hB {α : Type} [Enc α] {x : α} {A B : Prop} (h : B) : ((Enc.cells x).all frozenV = true ∨ A) ∧ B := ⟨.inl (Enc.frz _), h⟩
theorem hR {cs : List V} {ks : List Nat} {B : Prop} (h : B) (hr : cs.all (okIn ks) = true := by rfl) : (cs.all frozenV = true ∨ cs.all (okIn ks) = true) ∧ B := ⟨.inr hr, h⟩
theorem hG {cs : List V} {A B : Prop} (h : B) (hr : cs.all frozenV = true := by rfl) : (cs.all frozenV = true ∨ A) ∧ B := ⟨.inl hr, h⟩
theorem hD {α : Type} [Enc α] [DEnc α] [DNest α] {xs : List α} {ks : List Nat} {A B : Prop} (h : B) : (A ∨ (dL xs).all (okIn ks) = true) ∧ B := ⟨.inr (dL_okIn _ _), h⟩
theorem offE_spec {ops : Array Oper} {vis mod : List (List Nat)} {Q : Exit → St → Prop} {q n j : Nat} {T : List (Nat × V)} {s st' : St} (h : offE ops n j T s = some st') (hk : qA P Γ ops vis mod (fun st' => opsP P Γ ops Q q st') n j st') : qA P Γ ops vis mod (fun st' => opsP P Γ ops Q q st') n j s := by
 unfold offE at h
 cases hb : offOps ops (offKeys T s.tmps) n j with
 | false => rw [hb] at h; cases h
 | true =>
  rw [hb, cond_true] at h
  exact qA_off _ _ hb (Option.some.inj h) hk
theorem qA_evO (hT : TOK P τ) (mu ks : List Nat) {ops : Array Oper} {vis mod : List (List Nat)} {Q : Exit → St → Prop} {q m j : Nat} (n : Nat) {st st' : St} (T : List (Nat × V)) (hp : hpIn ks (maskH ks 0 st.H)) (h : evO τ mu ops vis mod ks m n j st T = some st') (hk : qA P Γ ops vis mod (fun st' => opsP P Γ ops Q q st') m (j + n) st') : qA P Γ ops vis mod (fun st' => opsP P Γ ops Q q st') (m + n) j st := by
 unfold evO at h
 cases he : evA τ mu ops vis mod ks n j st with
 | none => rw [he] at h; cases h
 | some s =>
  rw [he] at h
  exact qA_ev hT mu ks n hp he (offE_spec h hk)
theorem qA_EO {ops : Array Oper} {vis mod : List (List Nat)} {Q : Exit → St → Prop} {q n j : Nat} {st st' : St} {dd : Option Nat} {x : V} {Hm' : Hp} (T : List (Nat × V)) (h : ∀ Γ' : Ctx, (∀ i b, Γ'.L i b → Γ.L i b) → CoreE P Γ' ops j (stA ops vis j st) dd Hm' x)
  (hp : hpIn (lk vis j) Hm') (hk : qA P Γ ops vis mod (fun st' => opsP P Γ ops Q q st') n (j + 1) st') (hl : Nat.beq Hm'.length st.H.length = true) (hm : fillH (lk mod j) 0 (maskH (lk vis j) 0 st.H) Hm' = Hm') (hx : dd = none ∨ okA (lk vis j) x = true ∨ frz x = true)
  (he : offE ops n (j + 1) T ((st.inH (fillH (lk mod j) 0 st.H Hm')).put dd x) = some st') : qA P Γ ops vis mod (fun st' => opsP P Γ ops Q q st') (n + 1) j st := qA_E Hm' _ h hl hm hp hx rfl (offE_spec he hk)
theorem qA_evN (hT : TOK P τ) (mu ks : List Nat) {ops : Array Oper} {vis mod : List (List Nat)} {Q : Exit → St → Prop} {j : Nat} (n : Nat) {st st' : St} (T : List (Nat × V)) (hp : hpIn ks (maskH ks 0 st.H)) (h : (evA τ mu ops vis mod ks n j st).map (fun s => s.keep (T.map (·.1))) = some st') (hk : Q .normal st') : qA P Γ ops vis mod (fun st' => opsP P Γ ops Q ops.size st') n j st := by
 cases he : evA τ mu ops vis mod ks n j st with
 | none => rw [he] at h; cases h
 | some s =>
  rw [he, Option.map_some, Option.some.injEq] at h
  have := qA_ev (P := P) (Γ := Γ) (T := fun st' => opsP P Γ ops Q ops.size st') (m := 0) hT mu ks n hp he (qA_end (opsP_imp (Imp.to _ h) (opsP_end rfl hk)))
  rwa [Nat.zero_add] at this
end
abbrev pf {α : Type} [Enc α] (x : α) (o : Nat) : V := .fptr (Enc.cells x) o
abbrev rf {α : Type} (k v s : Nat) (xs : List α) : V := .ref k v 0 s xs.length false
abbrev sl {α : Type} [Enc α] (v : Nat) (xs : List α) : Option Blk := some ⟨v, eL xs⟩
abbrev sc {α : Type} [Enc α] (v : Nat) (x : α) : Option Blk := some ⟨v, Enc.cells x⟩
theorem nx {Γ : Ctx} {p : Nat → Nat → Prop} (hX : ∀ i b, ¬ Γ.L i b) : ∀ i b, Γ.L i b → p i b := fun i b hb => absurd hb (hX i b)
theorem ny {Γ Γ' : Ctx} {p : Nat → Nat → Prop} (hΓ : ∀ i b, Γ'.L i b → Γ.L i b) (hX : ∀ i b, ¬ Γ.L i b) : ∀ i b, Γ'.L i b → p i b := fun i b hb => absurd (hΓ i b hb) (hX i b)
end Go.D
