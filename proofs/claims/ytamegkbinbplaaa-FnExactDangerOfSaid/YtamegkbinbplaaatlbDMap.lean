import Derived.Test.YtamegkbinbplaaatlbDClr
import Derived.MapKept
import Derived.Carry
set_option linter.unusedVariables false
namespace Go.D
open Go.MapKept
section
variable {P : Program}
def MapAt (w : World) (b : Nat) (ks : List Int) : Prop :=
 ∃ es clock, w.heap[b]? = some (.map es clock) ∧ es.toList.map (fun e => (e.key, e.val)) = ks.map (fun k => (Value.int .i64 k, Value.bool true))
def insI (ks : List Int) (k : Int) : List Int := bif ks.contains k then ks else ks ++ [k]
theorem keysM {es : List MapEntry} {ks : List Int} (h : es.map (fun e => (e.key, e.val)) = ks.map (fun k => (Value.int .i64 k, Value.bool true))) :
  (∀ x ∈ es, IsKey (.int .i64) x.key ∧ x.val = .bool true) ∧ ∀ k : Int, (∃ x ∈ es, x.key = Value.int .i64 k) ↔ k ∈ ks := by
 induction es generalizing ks with
 | nil =>
  cases ks with
  | nil => exact ⟨by simp, by simp⟩
  | cons k ks => cases h
 | cons e es ih =>
  cases ks with
  | nil => cases h
  | cons k ks =>
   simp only [List.map_cons, List.cons.injEq, Prod.mk.injEq] at h
   obtain ⟨⟨h1, h2⟩, h3⟩ := h
   obtain ⟨i1, i2⟩ := ih h3
   refine ⟨fun x hx => ?_, fun j => ?_⟩
   ·rcases List.mem_cons.1 hx with rfl | hx
    ·exact ⟨by rw [h1]; simp [IsKey], h2⟩
    ·exact i1 x hx
   ·constructor
    ·rintro ⟨x, hx, he⟩
     rcases List.mem_cons.1 hx with rfl | hx
     ·rw [h1] at he
      simp only [Value.int.injEq, true_and] at he
      rw [he]; exact List.mem_cons_self
     ·exact List.mem_cons_of_mem _ ((i2 j).1 ⟨x, hx, he⟩)
    ·intro hj
     rcases List.mem_cons.1 hj with rfl | hj
     ·exact ⟨e, List.mem_cons_self, h1⟩
     ·obtain ⟨x, hx, he⟩ := (i2 j).2 hj
      exact ⟨x, List.mem_cons_of_mem _ hx, he⟩
theorem run_lookM {w : World} {b t tk te : Nat} {ks : List Int} {x : Int} (hm : MapAt w b ks) (h1 : P.underlying t = some (.map tk te)) (h2 : P.underlying tk = some (.int .i64)) (h3 : ∀ w, (zeroValue te).run P w = .ok (.bool false) w) :
  (Instr.lookup t (.map (some b)) (.int .i64 x) false).run P w = .ok (.bool (ks.contains x)) w := by
 obtain ⟨es, clock, hb, hk⟩ := hm
 obtain ⟨k1, k2⟩ := keysM hk
 have hx : IsKey (.int .i64) (.int .i64 x) := by simp [IsKey]
 rcases findNow_spec hx es.toList 0 (fun y hy => (k1 y hy).1) with ⟨f1, f2⟩ | ⟨j, e, f1, f2, f3⟩
 ·have hc : ks.contains x = false := by
   rw [Bool.eq_false_iff]
   intro hh
   obtain ⟨y, hy, he⟩ := (k2 x).2 (by simpa using hh)
   exact f2 y hy he
  rw [hc]
  simp [Instr.lookup, run_underlying h1, Result.andThen, MapKept.run_getObj_map hb, run_checkKey h2 hx es.isEmpty 9999, run_findKey h2 f1, h3]
 ·have hmem : e ∈ es.toList := List.mem_of_getElem? f2
  have hc : ks.contains x = true := by
   have := (k2 x).1 ⟨e, hmem, f3⟩
   simpa using this
  rw [hc]
  simp [Instr.lookup, run_underlying h1, Result.andThen, MapKept.run_getObj_map hb, run_checkKey h2 hx es.isEmpty 9999, run_findKey h2 f1, (k1 e hmem).2]
theorem run_updM {w : World} {b t tk te : Nat} {ks : List Int} {x : Int} (hm : MapAt w b ks) (h1 : P.underlying t = some (.map tk te)) (h2 : P.underlying tk = some (.int .i64)) :
  ∃ w', (Instr.mapUpdate t (.map (some b)) (.int .i64 x) (.bool true)).run P w = .ok () w' ∧ Kept (· = b) w w' ∧ MapAt w' b (insI ks x) := by
 obtain ⟨es, clock, hb, hk⟩ := hm
 obtain ⟨k1, k2⟩ := keysM hk
 have hx : IsKey (.int .i64) (.int .i64 x) := by simp [IsKey]
 have hkept : ∀ o, Kept (· = b) w { w with heap := w.heap.setIfInBounds b o } := fun o => ⟨rfl, rfl, rfl, by simp, fun i _ hi => (heap_set hb).2 i hi, Nat.le_refl _⟩
 rcases findNow_spec hx es.toList 0 (fun y hy => (k1 y hy).1) with ⟨f1, f2⟩ | ⟨j, e, f1, f2, f3⟩
 ·have hc : ks.contains x = false := by
   rw [Bool.eq_false_iff]
   intro hh
   obtain ⟨y, hy, he⟩ := (k2 x).2 (by simpa using hh)
   exact f2 y hy he
  refine ⟨{ w with heap := w.heap.setIfInBounds b (.map (es.push { key := .int .i64 x, val := .bool true, born := clock }) (clock + 1)) }, ?_, hkept _, _, _, (heap_set hb).1, ?_⟩
  ·simp [Instr.mapUpdate, run_underlying h1, Result.andThen, MapKept.run_getObj_map hb, run_checkKey h2 hx false 9999, run_findKey h2 f1, run_setObj_map _ hb]
  ·rw [insI, hc, cond_false, Array.toList_push, List.map_append, hk, List.map_append]
   rfl
 ·have hmem : e ∈ es.toList := List.mem_of_getElem? f2
  have hc : ks.contains x = true := by
   have := (k2 x).1 ⟨e, hmem, f3⟩
   simpa using this
  have hj : es[j]? = some e := by simpa using f2
  have hs : (Instr.keyThatStays (.int .i64 x) (.int .i64 x)).run P w = .ok (.int .i64 x) w := by
   simp [Instr.keyThatStays, Instr.sameBits]
  refine ⟨{ w with heap := w.heap.setIfInBounds b (.map (es.modify j fun e => { e with key := .int .i64 x, val := .bool true }) clock) }, ?_, hkept _, _, _, (heap_set hb).1, ?_⟩
  ·have hz : ((es[0 + j]?).map (·.key)).getD (.int .i64 x) = .int .i64 x := by simp [hj, f3]
   simp only [Nat.zero_add] at f1 hz
   simp [Instr.mapUpdate, run_underlying h1, Result.andThen, MapKept.run_getObj_map hb, run_checkKey h2 hx false 9999, run_findKey h2 f1, run_setObj_map _ hb, hz, hs]
  ·rw [insI, hc, cond_true, ← hk]
   apply List.ext_getElem?
   intro i
   simp only [List.getElem?_map, Array.getElem?_toList, Array.getElem?_modify]
   split
   ·rename_i hij
    subst hij
    rw [hj]
    simp [f3, (k1 e hmem).2]
   ·rfl
structure Der (Γ Γ' : Ctx) (b : Nat) (ks : List Int) : Prop where
 m0 : Γ'.M0 = Γ.M0
 l : Γ'.L = Γ.L
 x : ∀ i, Γ'.X i → Γ.X i ∨ Γ.w0.heap.size ≤ i
 kept : Kept Γ.X Γ.w0 Γ'.w0
 shape : ∀ i c, Γ.L i c → Shape Γ.w0 Γ'.w0 c
 nb : ¬ Γ'.X b
 new : Γ.w0.heap.size ≤ b
 map : MapAt Γ'.w0 b ks
theorem Der.back {Γ Γ' : Ctx} {b : Nat} {ks : List Int} (D : Der Γ Γ' b ks) {st : St} {a : Act} {w : World} (r : R Γ' st a w) : R Γ st a w := by
 obtain ⟨h1, h2, M, μ, fp, G, O, hT⟩ := r
 refine ⟨h1, h2, M, μ, fp, G, ⟨O.blk, O.mine, O.sub, fun b hb => O.m0 b (D.m0 ▸ hb), O.lt, fun c hc => ?_, fun c hc => ?_, ?_, fun i c hc => ?_⟩, hT⟩
 ·rcases O.new c hc with h | h
  ·exact D.x c h
  ·exact .inr (Nat.le_trans D.kept.size h)
 ·rw [← D.m0]; exact O.apart c hc
 ·exact D.kept.trans O.kept D.x
 ·obtain ⟨p1, p2, p3⟩ := O.pin i c (D.l ▸ hc)
  exact ⟨p1, p2, (D.shape i c hc).trans p3⟩
theorem Der.nx {Γ Γ' : Ctx} {b : Nat} {ks : List Int} (D : Der Γ Γ' b ks) (hX : ∀ i b, ¬ Γ.L i b) : ∀ i b, ¬ Γ'.L i b := fun i b h => hX i b (D.l ▸ h)
theorem MapAt.lt {w : World} {b : Nat} {ks : List Int} (h : MapAt w b ks) : b < w.heap.size := by
 obtain ⟨es, clock, hb, _⟩ := h
 exact (Array.getElem?_eq_some_iff.1 hb).1
theorem MapAt.kept {w w' : World} {X : Nat → Prop} {b : Nat} {ks : List Int} (h : MapAt w b ks) (hk : Kept X w w') (hX : ¬ X b) : MapAt w' b ks := by
 have hl := h.lt
 obtain ⟨es, clock, hb, h⟩ := h
 exact ⟨es, clock, (hk.block b hl hX).trans hb, h⟩
theorem own_turn {Γ : Ctx} {M : Nat → Prop} {H : Hp} {w w' : World} {μ : Nat → Option Nat} {fp : Nat → List Nat} {G : Nat → Option Nat} {b : Nat} {ks : List Int} (O : Own Γ M H w μ fp G)
  (hG : G b = none) (hk : Kept (· = b) w w') (hn : Γ.w0.heap.size ≤ b) (hc : ∀ o, w.cell? ⟨b, o, none⟩ = none) (hm : MapAt w' b ks) :
  Own ⟨w', Γ.M0, fun i => G i ≠ none, Γ.L⟩ M H w' μ fp G ∧ Der Γ ⟨w', Γ.M0, fun i => G i ≠ none, Γ.L⟩ b ks ∧ Carry w M H μ w' M H μ := by
 have hne : ∀ k blk, H[k]? = some (some blk) → ∀ c, μ k = some c → c ≠ b := fun k blk hb c hc' e => by
  have := ((O.mine k blk hb).1 c hc').1
  rw [e, hG] at this; cases this
 have hnf : ∀ k blk, H[k]? = some (some blk) → ∀ c, c ∈ fp k → c ≠ b := fun k blk hb c hc' e => by
  have := (O.mine k blk hb).2.1 c hc'
  rw [e, hG] at this; cases this
 have C : Carry w M H μ w' M H μ := by
  refine ⟨⟨fun c o u _ hu => ?_, hk.size⟩, fun c hc => .inl hc, Nat.le_refl _, fun k blk' _ hb => ⟨blk', hb, Nat.le_refl _, fun _ => ⟨rfl, fun c hc' => ?_⟩⟩⟩
  ·by_cases e : c = b
   ·rw [e, hc o] at hu; cases hu
   ·have hlt : c < w.heap.size := World.block_lt_of_cell? _ _ hu
    have : w'.cell? ⟨c, o, none⟩ = w.cell? ⟨c, o, none⟩ := World.cell?_of_block (w := w) (a := ⟨c, o, none⟩) (hk.block c hlt e)
    rw [this]; exact hu
  ·exact .of_eq (hk.block c (O.born_lt k blk' hb c hc') (hne k blk' hb c hc'))
 refine ⟨⟨fun k blk hb => ?_, O.mine, O.sub, O.m0, fun c hc' => Nat.lt_of_lt_of_le (O.lt c hc') hk.size, fun c hc' => .inl hc', O.apart, Kept.refl _ _, fun i c hc' => ?_⟩, ⟨rfl, rfl, O.new, ?_, ?_, ?_, hn, hm⟩, C⟩
 ·exact (O.blk k blk hb).carry C (fun c e => hk.block c (O.born_lt k blk hb c e) (hne k blk hb c e)) fun c hx => hk.block c (O.fp_lt k blk hb c hx) (hnf k blk hb c hx)
 ·obtain ⟨p1, p2, p3⟩ := O.pin i c hc'
  exact ⟨p1, p2, .of_eq rfl⟩
 ·exact O.kept.trans hk fun i hi => .inr (hi ▸ hn)
 ·intro i c hc'
  obtain ⟨p1, ⟨blk, p2⟩, p3⟩ := O.pin i c hc'
  exact p3.trans (.of_eq (hk.block c (O.born_lt i blk p2 c p1) (hne i blk p2 c p1)))
 ·exact fun h => h hG
def liftM (Γ : Ctx) (b : Nat) (Q : Exit → List Int → St → Prop) : Exit → Act → World → Prop := fun e a w => ∃ ks st Γ', Q e ks st ∧ Der Γ Γ' b ks ∧ R Γ' st a w
def pwpM (P : Program) (Γ : Ctx) (b : Nat) (c : Code) (Q : Exit → List Int → St → Prop) (ks : List Int) (st : St) : Prop :=
 ∀ Γ', Der Γ Γ' b ks → ∀ a w, R Γ' st a w → c.wp P (liftM Γ b Q) a w
def DthenM (K : List Int → St → Prop) (Q : Exit → List Int → St → Prop) : Exit → List Int → St → Prop
 | .normal, ks, st => K ks st
 | e, ks, st => Q e ks st
def DblockM (id : Nat) (Q : Exit → List Int → St → Prop) : Exit → List Int → St → Prop
 | .exit id', ks, st => bif Nat.beq id' id then Q .normal ks st else Q (.exit id') ks st
 | e, ks, st => Q e ks st
variable {Γ : Ctx} {b : Nat}
theorem pwpM_pure {c : Code} {Q : Exit → List Int → St → Prop} {ks : List Int} {st : St} (h : ∀ Γ', Der Γ Γ' b ks → pwp P Γ' c (fun e st' => Q e ks st') st) : pwpM P Γ b c Q ks st :=
 fun Γ' D a w r => wp_mono (h Γ' D a w r) fun _ _ _ ⟨st', q, r'⟩ => ⟨ks, st', Γ', q, D, r'⟩
theorem pwpM_seq {x y : Code} {Q : Exit → List Int → St → Prop} {ks : List Int} {st : St} (h : pwpM P Γ b x (DthenM (fun ks' st' => pwpM P Γ b y Q ks' st') Q) ks st) : pwpM P Γ b (.seq x y) Q ks st :=
 fun Γ' D a w r => wp_seq (wp_mono (h Γ' D a w r) fun e a w q => by
  obtain ⟨ks', st', Γ2, q, D', r'⟩ := q
  cases e with
  | normal => exact q Γ2 D' a w r'
  | _ => exact ⟨ks', st', Γ2, q, D', r'⟩)
theorem pwpM_skip {Q : Exit → List Int → St → Prop} {ks : List Int} {st : St} (h : Q .normal ks st) : pwpM P Γ b .skip Q ks st := fun Γ' D _ _ r => wp_skip ⟨ks, st, Γ', h, D, r⟩
theorem pwpM_exit {id : Nat} {Q : Exit → List Int → St → Prop} {ks : List Int} {st : St} (h : Q (.exit id) ks st) : pwpM P Γ b (.exit id) Q ks st := fun Γ' D _ _ r => wp_exit ⟨ks, st, Γ', h, D, r⟩
theorem pwpM_block {id : Nat} {c : Code} {Q : Exit → List Int → St → Prop} {ks : List Int} {st : St} (h : pwpM P Γ b c (DblockM id Q) ks st) : pwpM P Γ b (.block id c) Q ks st :=
 fun Γ' D a w r => wp_block (wp_mono (h Γ' D a w r) fun e a w q => by
  obtain ⟨ks', st', Γ2, q, D', r'⟩ := q
  cases e with
  | exit id' =>
   simp only [DblockM] at q
   simp only [Exit.inBlock]
   split
   ·rename_i hh; subst hh; simp only [Nat.beq_refl, cond_true] at q; exact ⟨ks', st', Γ2, q, D', r'⟩
   ·rename_i hh
    have : Nat.beq id' id = false := by
     cases hb : Nat.beq id' id with
     | false => rfl
     | true => exact absurd (Nat.eq_of_beq_eq_true hb) hh
    simp only [this, cond_false] at q; exact ⟨ks', st', Γ2, q, D', r'⟩
  | _ => exact ⟨ks', st', Γ2, q, D', r'⟩)
theorem pwpM_cond {c : Operand} {x y : Code} {Q : Exit → List Int → St → Prop} {ks : List Int} {st : St} (v : Bool) (hc : evalV st c = some (.lit (.bool v)))
  (ht : v = true → pwpM P Γ b x Q ks st) (hf : v = false → pwpM P Γ b y Q ks st) : pwpM P Γ b (.cond c x y) Q ks st :=
 fun Γ' D a w r => wp_cond_split (evalV_R r hc) (fun h => ht h Γ' D a w r) (fun h => hf h Γ' D a w r)
def DroundM {ι : Type} (Γ : Ctx) (b : Nat) (S : ι → St) (K : ι → List Int) (J : ι → Prop) (m : ι → Nat) (i : ι) (Q : Exit → List Int → St → Prop) : Exit → List Int → St → Prop :=
 DthenM (fun ks st' => ∃ j, J j ∧ m j < m i ∧ ks = K j ∧ ∀ Γ', Der Γ Γ' b ks → Imp Γ' st' (S j)) Q
theorem pwpM_loop {ι : Type} {c : Code} {Q : Exit → List Int → St → Prop} {ks : List Int} {st : St} (S : ι → St) (K : ι → List Int) (J : ι → Prop) (m : ι → Nat) (i₀ : ι) (h₀ : J i₀) (hk : ks = K i₀) (hi : ∀ Γ', Der Γ Γ' b ks → Imp Γ' st (S i₀))
  (round : ∀ i, J i → pwpM P Γ b c (DroundM Γ b S K J m i Q) (K i) (S i)) : pwpM P Γ b (.loop c) Q ks st := by
 have key : ∀ n i, m i = n → J i → ∀ Γ', Der Γ Γ' b (K i) → ∀ a w, R Γ' (S i) a w → LoopAt P c (liftM Γ b Q) a w := by
  intro n
  induction n using Nat.strongRecOn with
  | _ n ih =>
   intro i hn hJ Γ' D a w r
   refine loopAt_unfold (wp_mono (round i hJ Γ' D a w r) fun e a' w' q => ?_)
   obtain ⟨ks', st', Γ2, q, D', r'⟩ := q
   cases e with
   | normal =>
    obtain ⟨j, hj, hlt, hkj, hi⟩ := q
    exact ih (m j) (hn ▸ hlt) j rfl hj Γ2 (hkj ▸ D') a' w' (hi Γ2 D' a' w' r')
   | _ => exact ⟨ks', st', Γ2, q, D', r'⟩
 exact fun Γ' D a w r => wp_loop_at (key _ i₀ rfl h₀ Γ' (hk ▸ D) a w (hi Γ' D a w r))
def DjoinM {σ : Type} (Γ : Ctx) (b : Nat) (S : σ → St) (K : σ → List Int) (J : σ → Prop) (Q : Exit → List Int → St → Prop) : Exit → List Int → St → Prop
 | .normal, ks, st => ∃ s, J s ∧ ks = K s ∧ ∀ Γ', Der Γ Γ' b ks → Imp Γ' st (S s)
 | e, ks, st => Q e ks st
theorem pwpM_join {σ : Type} {c : Code} {Q : Exit → List Int → St → Prop} {ks : List Int} {st : St} (S : σ → St) (K : σ → List Int) (J : σ → Prop) (h1 : pwpM P Γ b c (DjoinM Γ b S K J Q) ks st) (h2 : ∀ s, J s → Q .normal (K s) (S s)) : pwpM P Γ b c Q ks st := by
 intro Γ' D a w r
 refine wp_mono (h1 Γ' D a w r) fun e a' w' q => ?_
 obtain ⟨ks', st', Γ2, q, D', r'⟩ := q
 cases e with
 | normal =>
  obtain ⟨s, hj, hk, hi⟩ := q
  exact ⟨K s, S s, Γ2, h2 s hj, hk ▸ D', hi Γ2 D' a' w' r'⟩
 | _ => exact ⟨ks', st', Γ2, q, D', r'⟩
theorem opsP_look {Γ Γ' : Ctx} {ks : List Int} {ops : Array Oper} {Q : Exit → St → Prop} {j : Nat} {st : St} {o : Oper} {t tk te : Nat} {m k : Operand} {x : Int} (d : Nat) (D : Der Γ Γ' b ks) (h1 : P.underlying t = some (.map tk te)) (h2 : P.underlying tk = some (.int .i64))
  (h3 : ∀ w, (zeroValue te).run P w = .ok (.bool false) w) (ho : ops[j]? = some o) (hop : o.op = .lookup t m k false) (hd : o.dst = some d) (hlt : Nat.blt d st.nt = true) (hw : wantedV ops st o = some true)
  (hm : evalV st m = some (.lit (.map (some b)))) (hk : evalV st k = some (.lit (.int .i64 x))) (h : opsP P Γ' ops Q (j + 1) (st.set d (.lit (.bool (ks.contains x))))) : opsP P Γ' ops Q j st := by
 refine opsP_op ho hw (opP_of_yld (x := .lit (.bool (ks.contains x))) ?_ hd hlt h)
 intro a w M μ fp G O hT
 have e1 := evalV_sound hT hm
 have e2 := evalV_sound hT hk
 simp only [Sl] at e1 e2
 have hma : MapAt w b ks := D.map.kept O.kept D.nb
 refine ⟨.bool (ks.contains x), w, ?_, Kept.refl _ _, by simp only [Sl]⟩
 have := run_lookM (P := P) (x := x) hma h1 h2 h3
 simp [execOp, hop, e1, e2, this, Result.andThen]
theorem Oper.wp_monoQ {o : Oper} {a : Act} {w : World} {K : Act → World → Prop} {Q Q' : Exit → Act → World → Prop} (h : ∀ e a w, Q e a w → Q' e a w) (hh : o.wp P a w K Q) : o.wp P a w K Q' := by
 unfold Oper.wp at *
 generalize (execOp a.eval o).run P w = r at *
 cases r with
 | ok n w' =>
  cases n <;> simp only [Oper.upon] at hh ⊢ <;>
   first
    | exact hh
    | exact Calls.mono hh (fun e w'' he => by
      cases e with
      | returned v => exact he
      | panicked c => exact h _ _ _ he
      | outgrown => exact let ⟨a, w, q⟩ := he; ⟨a, w, h _ _ _ q⟩)
 | halt x w' => cases x <;> simp only [Oper.upon] at hh ⊢ <;> first | exact h _ _ _ hh | exact hh
theorem wpOps_last {pre : Array Oper} {o : Oper} {Q Q' : Exit → Act → World → Prop} (hg : ∀ x ∈ pre.toList, x.guard = none) (hn : ∀ a w, Q' .normal a w → wpOps P (pre.push o) Q [pre.size] a w) (hQ : ∀ e a w, e ≠ .normal → Q' e a w → Q e a w) :
  ∀ (l : List Nat), (∀ i ∈ l, i < pre.size) → ∀ a w, (∀ e a w, Q' e a w → e = .normal) → wpOps P pre Q' l a w → wpOps P (pre.push o) Q (l ++ [pre.size]) a w := by
 intro l
 induction l with
 | nil => exact fun _ a w _ h => hn a w h
 | cons i l ih =>
  intro hl a w hq h
  have hi : i < pre.size := hl i (by simp)
  rw [List.cons_append, wpOps_cons]
  rw [wpOps_cons] at h
  have e1 : pre[i]? = some pre[i] := Array.getElem?_eq_getElem hi
  have e2 : (pre.push o)[i]? = some pre[i] := by rw [Array.getElem?_push, if_neg (by omega), e1]
  have hgi : (pre[i]).guard = none := hg _ (by simp)
  simp only [wpOp, e1, e2, Region.wanted, hgi] at h ⊢
  simp only [if_true] at h ⊢
  rcases h with h | ⟨_, a', w', h⟩
  ·refine .inl (Oper.wp_mono (fun a w hh => ih (fun j hj => hl j (by simp [hj])) a w hq hh) (Q := Q) ?_)
   have : pre[i].wp P a w (wpOps P pre Q' l) Q' := h
   -- panics and the like do not come
   unfold Oper.wp at this ⊢
   generalize (execOp a.eval pre[i]).run P w = r at *
   cases r with
   | ok n w' =>
    cases n <;> simp only [Oper.upon] at this ⊢ <;>
     first
      | exact this
      | exact Calls.mono this (fun e w'' he => by
        cases e with
        | returned v => exact he
        | panicked c => cases hq _ _ _ he
        | outgrown => obtain ⟨a, w, q⟩ := he; cases hq _ _ _ q)
   | halt x w' => cases x <;> simp only [Oper.upon] at this ⊢ <;> first | (cases hq _ _ _ this) | exact this
  ·cases hq _ _ _ h
def UpdQ (b : Nat) (m k v : Operand) (Q : Exit → List Int → St → Prop) (ks : List Int) : Exit → St → Prop
 | .normal, st => ∃ x, evalV st m = some (.lit (.map (some b))) ∧ evalV st k = some (.lit (.int .i64 x)) ∧ evalV st v = some (.lit (.bool true)) ∧ Q .normal (insI ks x) st
 | _, _ => False
theorem pwpM_upd0 {id t tk te : Nat} {ops : Array Oper} {o : Oper} {m k v : Operand} {Q : Exit → List Int → St → Prop} {ks : List Int} {st : St} (pre : Array Oper) (hops : ops = pre.push o) (hg : pre.toList.all (fun x => x.guard.isNone) = true) (hop : o.op = .mapUpdate t m k v) (hgo : o.guard = none) (hd : o.dst = none)
  (h1 : P.underlying t = some (.map tk te)) (h2 : P.underlying tk = some (.int .i64)) (h : ∀ Γ', Der Γ Γ' b ks → opsP P Γ' pre (UpdQ b m k v Q ks) 0 st) : pwpM P Γ b (.region id ops false) Q ks st := by
 intro Γ' D a w r
 subst hops
 refine wp_region ?_
 have h0 := h Γ' D a w r
 rw [Nat.sub_zero, ← List.range_eq_range'] at h0
 rw [Array.size_push, List.range_succ]
 refine wpOps_last (Q' := lift Γ' (UpdQ b m k v Q ks)) (fun x hx => by simpa using List.all_eq_true.1 hg x hx) (fun a w hq => ?_) (fun e a w he ⟨st', q, _⟩ => by cases e <;> first | exact absurd rfl he | exact q.elim) _ (fun i hi => List.mem_range.1 hi) a w
  (fun e a w ⟨st', q, _⟩ => by cases e <;> first | rfl | exact q.elim) h0
 obtain ⟨st', ⟨x, e1, e2, e3, hq⟩, r'⟩ := hq
 have e1' := evalV_R r' e1
 have e2' := evalV_R r' e2
 have e3' := evalV_R r' e3
 obtain ⟨k1, k2, M, μ, fp, G, O, hT⟩ := r'
 have hma : MapAt w b ks := D.map.kept O.kept D.nb
 obtain ⟨w', hrun, hk, hm'⟩ := run_updM (P := P) (x := x) hma h1 h2
 have hG : G b = none := by
  cases hg : G b with
  | none => rfl
  | some k =>
   rcases O.new b (by rw [hg]; simp) with h | h
   ·exact absurd h D.nb
   ·have := D.map.lt; omega
 -- the state under the first context
 have rb := D.back (⟨k1, k2, M, μ, fp, G, O, hT⟩ : R Γ' st' a w)
 have hcell : ∀ o, w.cell? ⟨b, o, none⟩ = none := fun o => by
  obtain ⟨es, clock, hb, _⟩ := hma
  simp [World.cell?, hb]
 have O0 : Own Γ M st'.H w μ fp G := by
  refine ⟨O.blk, O.mine, O.sub, fun b hb => O.m0 b (D.m0 ▸ hb), O.lt, fun c hc => ?_, fun c hc => ?_, ?_, fun i c hc => ?_⟩
  ·rcases O.new c hc with h | h
   ·exact D.x c h
   ·exact .inr (Nat.le_trans D.kept.size h)
  ·rw [← D.m0]; exact O.apart c hc
  ·exact D.kept.trans O.kept D.x
  ·obtain ⟨p1, p2, p3⟩ := O.pin i c (D.l ▸ hc)
   exact ⟨p1, p2, (D.shape i c hc).trans p3⟩
 obtain ⟨O', D', C⟩ := own_turn O0 hG hk D.new hcell hm'
 rw [wpOps_cons]
 have eo : (pre.push o)[pre.size]? = some o := by simp
 simp only [wpOp, eo, Region.wanted, hgo, if_true]
 refine .inl ?_
 have hex : (execOp a.eval o).run P w = .ok .skip w' := by
  simp [execOp, hop, e1', e2', e3', hrun, Result.andThen]
 simp only [Oper.wp, hex, Oper.upon, hd, Act.put, wpOps]
 refine ⟨insI ks x, st', _, hq, D', k1, k2, M, μ, fp, G, O', fun s x hs => ?_⟩
 obtain ⟨u, hu, hsl⟩ := hT s x hs
 exact ⟨u, hu, hsl.carry C⟩
theorem wpOps_monoP {ops : Array Oper} {Q Q' : Exit → Act → World → Prop} (h : ∀ e a w, Q e a w → Q' e a w) : ∀ {l : List Nat} {a : Act} {w : World}, wpOps P ops Q l a w → wpOps P ops Q' l a w
 | [], a, w, hh => h _ _ _ hh
 | i :: l, a, w, hh => by
  rw [wpOps_cons] at hh ⊢
  unfold wpOp at *
  cases ho : ops[i]? with
  | none => rw [ho] at hh; exact wpOps_monoP h hh
  | some o =>
   rw [ho] at hh
   simp only at hh ⊢
   split
   ·rename_i hw
    simp only [hw, if_true] at hh
    rcases hh with hh | ⟨h1, a', w', h2⟩
    ·exact .inl (Oper.wp_mono (fun a w q => wpOps_monoP h q) (Oper.wp_monoQ h hh))
    ·exact .inr ⟨h1, a', w', h _ _ _ h2⟩
   ·rename_i hw
    simp only [hw] at hh
    exact wpOps_monoP h hh
theorem pwpM_upd {id t tk te : Nat} {ops : Array Oper} {o : Oper} {m k v : Operand} {Q : Exit → List Int → St → Prop} {ks : List Int} {st : St} (n : Nat) (ho : ops[n]? = some o) (hops : ops = ops.pop.push o) (hg : ops.pop.toList.all (fun x => x.guard.isNone) = true) (hop : o.op = .mapUpdate t m k v) (hgo : o.guard = none) (hd : o.dst = none)
  (h1 : P.underlying t = some (.map tk te)) (h2 : P.underlying tk = some (.int .i64)) (h : ∀ Γ', Der Γ Γ' b ks → opsP P Γ' ops.pop (UpdQ b m k v Q ks) 0 st) : pwpM P Γ b (.region id ops false) Q ks st :=
 pwpM_upd0 ops.pop hops hg hop hgo hd h1 h2 h
theorem pwp_make {id t : Nat} {ops : Array Oper} {o : Oper} {rest : Code} {Q : Exit → St → Prop} {st : St} (d : Nat) (ho : ops[0]? = some o) (hop : o.op = .makeMap t none) (hgo : o.guard = none) (hd : o.dst = some d) (hlt : Nat.blt d st.nt = true)
  (h : ∀ b Γ', Der Γ Γ' b [] → opsP P Γ' ops (fun e st' => DthenM (fun ks st' => pwpM P Γ b rest (fun e _ st' => Q e st') ks st') (fun e _ st' => Q e st') e [] st') 1 (st.set d (.lit (.map (some b))))) : pwp P Γ (.seq (.region id ops false) rest) Q st := by
 intro a w r
 obtain ⟨k1, k2, M, μ, fp, G, O, hT⟩ := r
 have hk : Kept (· = w.heap.size) w (w.alloc (.map #[] 0)) := by
  refine ⟨rfl, rfl, rfl, ?_, fun i hi _ => (MapKept.heap_alloc w _).2 i hi, Nat.le_refl _⟩
  have e : (w.alloc (.map #[] 0)).heap = w.heap.push (.map #[] 0) := rfl
  rw [e, Array.size_push]
  exact Nat.le_succ _
 have hm : MapAt (w.alloc (.map #[] 0)) w.heap.size [] := ⟨#[], 0, (MapKept.heap_alloc w _).1, rfl⟩
 have hG : G w.heap.size = none := by
  cases hg : G w.heap.size with
  | none => rfl
  | some k => have := O.lt _ (O.sub _ (by rw [hg]; simp)); omega
 obtain ⟨O', D', C⟩ := own_turn O hG hk O.kept.size (fun o => by simp [World.cell?]) hm
 have r1 : R ⟨w.alloc (.map #[] 0), Γ.M0, fun i => G i ≠ none, Γ.L⟩ (st.set d (.lit (.map (some w.heap.size)))) (a.put (some d) (.map (some w.heap.size))) (w.alloc (.map #[] 0)) :=
  R.step (st := st) (H' := st.H) (d := some d) k1 k2 hT C O' (fun d' hd' => by cases hd'; simpa using hlt) fun _ => by simp only [Sl]
 have h1 := h w.heap.size _ D' _ _ r1
 refine wp_seq (wp_region ?_)
 have hsz : 0 < ops.size := (Array.getElem?_eq_some_iff.1 ho).1
 have hl : List.range ops.size = 0 :: List.range' 1 (ops.size - 1) := by
  rw [List.range_eq_range']
  conv => lhs; rw [show ops.size = (ops.size - 1) + 1 by omega, List.range'_succ]
 rw [hl, wpOps_cons]
 simp only [wpOp, ho, Region.wanted, hgo, if_true]
 refine .inl ?_
 have hex : (execOp a.eval o).run P w = .ok (.value (.map (some w.heap.size))) (w.alloc (.map #[] 0)) := by
  simp [execOp, hop, Go.RowKit.run_makeMap, Result.andThen]
 simp only [Oper.wp, hex, Oper.upon, hd]
 refine wpOps_monoP ?_ h1
 rintro e a2 w2 ⟨st', q, r2⟩
 cases e with
 | normal => exact wp_mono (q _ D' a2 w2 r2) fun e a3 w3 ⟨ks3, st3, Γ3, q3, D3, r3⟩ => ⟨st3, q3, D3.back r3⟩
 | _ => exact ⟨st', q, D'.back r2⟩
end
end Go.D
