import Derived.Test.YtpkaieniomkofaaGreatHoDXFC
import Derived.Test.YtpkaieniomkofaaGreatHoDXFC
import Derived.Test.YtpkaieniomkofaaGreatHoDShow
import Derived.ChangeArms
import Derived.ChangeShapes
import Derived.Deep.Slices
import Derived.Test.YtpkaieniomkofaaGreatHoDOwn3
import Derived.Test.YtpkaieniomkofaaGreatHoDNil
import Derived.Test.YtpkaieniomkofaaGreatHoDMin
import Derived.Test.YtpkaieniomkofaaGreatHoDXT
import Derived.OpenShut
import Derived.ReadAgain
import Derived.ProofKit
set_option linter.unusedVariables false
namespace Go.D
def spec_l20Bond_j0 (x17 : Zd) (x18 : Zb) (x19 : List Int) : Option (Zb × Zd) := some ((({ ({ ({ x18 with fList := x19 } : Zb) with fTo := [] } : Zb) with fE := [] } : Zb)), x17)
def spec_l20Bond_j1 (x36 : Zd) (x37 : Zb) (x38 : List Int) : Option (Zb × Zd) := some ((({ ({ ({ x37 with fList := x38 } : Zb) with fTo := [] } : Zb) with fE := [] } : Zb)), x36)
def spec_l20Bond_j4 (x84 : List Int) (x106 : Zd) (x107 : Zb) (x108 : List Int) : Option (Zb × Zd) := some ((({ ({ (({ x107 with fList := x108 }) : Zb) with fTo := x84 } : Zb) with fE := [] } : Zb)), x106)
def spec_l20Bond_j3 (a1 : List Ze) (a2 : Int) (v5 : Ze) (x80 : Int) (x81 : Zd) (x82 : Zb) (x83 : List Int) (x84 : List Int) (K86 : Int → Zd → Zb → (List Int) → (List Int) → Option (Zb × Zd)) (x87 : Bool) : Option (Zb × Zd) := bif x87 then (Zi x81 ((a1.length : Int))).bind fun v89 => (Zi v89.2 ((v5.fColumns.length : Int))).bind fun v91 => (getI a1 (({ x82 with fOf := v89.1 } : Zb).fOf)).bind fun v93 => (Zi v91.2 ((v93.fColumns.length : Int))).bind fun v95 => (getI v5.fColumns v91.1).bind fun v97 => (getI a1 (({ x82 with fOf := v89.1 } : Zb).fOf)).bind fun v99 => (getI v99.fColumns v95.1).bind fun v101 => bif (v97.fKind == v101.fKind) then K86 ((w64 (x80 + 1))) v95.2 ({ x82 with fOf := v89.1 }) (([v91.1] : List Int)) (([v95.1] : List Int)) else K86 ((w64 (x80 + 1))) v95.2 ({ x82 with fOf := v89.1 }) x83 x84 else (Zi x81 2).bind fun v104 => (Zaj v104.2 a2).bind fun v109 => bif v109.1 then (Zi v109.2 4).bind fun v112 => bif (v112.1 == 0) then (Zi v112.2 6).bind fun v115 => spec_l20Bond_j4 x84 v115.2 ({ (({ x82 with fFollow := (v104.1 == 0) }) : Zb) with fIn := (w64 (v115.1 - 1)) }) x83 else bif (v112.1 == 1) then (Zi v112.2 6).bind fun v118 => spec_l20Bond_j4 x84 v118.2 ({ (({ x82 with fFollow := (v104.1 == 0) }) : Zb) with fKind := v118.1 }) x83 else bif (v112.1 == 2) then (Zi v112.2 7).bind fun v121 => (app x83 (([(w64 (v121.1 - 1))] : List Int))).bind fun v123 => spec_l20Bond_j4 x84 v121.2 ({ x82 with fFollow := (v104.1 == 0) }) v123 else spec_l20Bond_j4 x84 v112.2 ({ (({ x82 with fFollow := (v104.1 == 0) }) : Zb) with fFollow := (!(({ x82 with fFollow := (v104.1 == 0) } : Zb).fFollow)) }) x83 else spec_l20Bond_j4 x84 v109.2 ({ x82 with fFollow := (v104.1 == 0) }) x83
def spec_l20Bond_l2 (a1 : List Ze) (a2 : Int) (v5 : Ze) : Nat → Int → Zd → Zb → (List Int) → (List Int) → Option (Zb × Zd)
 | 0, _, _, _, _, _ => none
 | f85 + 1, x80, x81, x82, x83, x84 => bif (decide (x80 < 12)) then spec_l20Bond_j3 a1 a2 v5 x80 x81 x82 x83 x84 (spec_l20Bond_l2 a1 a2 v5 f85) ((((x83.length : Int)) == 0)) else spec_l20Bond_j3 a1 a2 v5 x80 x81 x82 x83 x84 (spec_l20Bond_l2 a1 a2 v5 f85) false
def spec_l20Bond (a0 : Zd) (a1 : List Ze) (a2 : Int) : Option (Zb × Zd) := (Zi a0 3).bind fun v1 => (Zi v1.2 ((a1.length : Int))).bind fun v3 => (getI a1 v3.1).bind fun v5 => bif (((w64 (1 + v1.1))) == 1) then (Zi v3.2 ((v5.fColumns.length : Int))).bind fun v8 => (Zi v8.2 3).bind fun v10 => bif (v10.1 == 0) then (Zi v10.2 ((v5.fColumns.length : Int))).bind fun v13 => (app (([v8.1] : List Int)) (([v13.1] : List Int))).bind fun v15 => (Zaj v13.2 a2).bind fun v20 => bif v20.1 then (Zi v20.2 4).bind fun v23 => bif (v23.1 == 0) then (Zi v23.2 6).bind fun v26 => spec_l20Bond_j0 v26.2 ((Zb.mk (w64 (1 + v1.1)) (w64 (v26.1 - 1)) [] 0 [] false [])) v15 else bif (v23.1 == 1) then (Zi v23.2 6).bind fun v29 => spec_l20Bond_j0 v29.2 ((Zb.mk v29.1 v3.1 [] 0 [] false [])) v15 else bif (v23.1 == 2) then (Zi v23.2 7).bind fun v32 => (app v15 (([(w64 (v32.1 - 1))] : List Int))).bind fun v34 => spec_l20Bond_j0 v32.2 ((Zb.mk (w64 (1 + v1.1)) v3.1 [] 0 [] false [])) v34 else spec_l20Bond_j0 v23.2 ((Zb.mk (w64 (1 + v1.1)) v3.1 [] 0 [] true [])) v15 else spec_l20Bond_j0 v20.2 ((Zb.mk (w64 (1 + v1.1)) v3.1 [] 0 [] false [])) v15 else (Zaj v10.2 a2).bind fun v39 => bif v39.1 then (Zi v39.2 4).bind fun v42 => bif (v42.1 == 0) then (Zi v42.2 6).bind fun v45 => spec_l20Bond_j1 v45.2 ((Zb.mk (w64 (1 + v1.1)) (w64 (v45.1 - 1)) [] 0 [] false [])) (([v8.1] : List Int)) else bif (v42.1 == 1) then (Zi v42.2 6).bind fun v48 => spec_l20Bond_j1 v48.2 ((Zb.mk v48.1 v3.1 [] 0 [] false [])) (([v8.1] : List Int)) else bif (v42.1 == 2) then (Zi v42.2 7).bind fun v51 => (app (([v8.1] : List Int)) (([(w64 (v51.1 - 1))] : List Int))).bind fun v53 => spec_l20Bond_j1 v51.2 ((Zb.mk (w64 (1 + v1.1)) v3.1 [] 0 [] false [])) v53 else spec_l20Bond_j1 v42.2 ((Zb.mk (w64 (1 + v1.1)) v3.1 [] 0 [] true [])) (([v8.1] : List Int)) else spec_l20Bond_j1 v39.2 ((Zb.mk (w64 (1 + v1.1)) v3.1 [] 0 [] false [])) (([v8.1] : List Int)) else bif (((w64 (1 + v1.1))) == 3) then (spec_l20Expr v3.2 v5.fColumns 3 2).bind fun v56 => (Zaj v56.2 a2).bind fun v58 => bif v58.1 then (Zi v58.2 4).bind fun v61 => bif (v61.1 == 0) then (Zi v61.2 6).bind fun v64 => some (((Zb.mk (w64 (1 + v1.1)) (w64 (v64.1 - 1)) [] 0 [] false v56.1)), v64.2) else bif (v61.1 == 1) then (Zi v61.2 6).bind fun v67 => some (((Zb.mk v67.1 v3.1 [] 0 [] false v56.1)), v67.2) else bif (v61.1 == 2) then (Zi v61.2 7).bind fun v70 => (app (([] : List Int)) (([(w64 (v70.1 - 1))] : List Int))).bind fun v72 => some (((Zb.mk (w64 (1 + v1.1)) v3.1 v72 0 [] false v56.1)), v70.2) else some (((Zb.mk (w64 (1 + v1.1)) v3.1 [] 0 [] true v56.1)), v61.2) else some (((Zb.mk (w64 (1 + v1.1)) v3.1 [] 0 [] false v56.1)), v58.2) else bif (((w64 (1 + v1.1))) == 2) then spec_l20Bond_l2 a1 a2 v5 FUEL 0 v3.2 ((Zb.mk (w64 (1 + v1.1)) v3.1 [] 0 [] false [])) (([] : List Int)) (([] : List Int)) else (Zaj v3.2 a2).bind fun v126 => bif v126.1 then (Zi v126.2 4).bind fun v129 => bif (v129.1 == 0) then (Zi v129.2 6).bind fun v132 => some (((Zb.mk (w64 (1 + v1.1)) (w64 (v132.1 - 1)) [] 0 [] false [])), v132.2) else bif (v129.1 == 1) then (Zi v129.2 6).bind fun v135 => some (((Zb.mk v135.1 v3.1 [] 0 [] false [])), v135.2) else bif (v129.1 == 2) then (Zi v129.2 7).bind fun v138 => (app (([] : List Int)) (([(w64 (v138.1 - 1))] : List Int))).bind fun v140 => some (((Zb.mk (w64 (1 + v1.1)) v3.1 v140 0 [] false [])), v138.2) else some (((Zb.mk (w64 (1 + v1.1)) v3.1 [] 0 [] true [])), v129.2) else some (((Zb.mk (w64 (1 + v1.1)) v3.1 [] 0 [] false [])), v126.2)
def spec_l20Bonds_l0 (a1 : List Ze) (a2 : Int) : Nat → Int → Zd → (List Zb) → Option ((List Zb) × Zd)
 | 0, _, _, _ => none
 | f8 + 1, x5, x6, x7 => bif (decide (x5 > 0)) then (spec_l20Bond x6 a1 a2).bind fun v11 => (app x7 (([v11.1] : List Zb))).bind fun v13 => (spec_l20Bonds_l0 a1 a2 f8) ((w64 (x5 - 1))) v11.2 v13 else some (x7, x6)
def spec_l20Bonds (a0 : Zd) (a1 : List Ze) (a2 : Int) : Option ((List Zb) × Zd) := (Zi a0 4).bind fun v1 => spec_l20Bonds_l0 a1 a2 FUEL v1.1 v1.2 (([] : List Zb))
end Go.D
set_option linter.unusedVariables false
namespace Go.D
def Rd (P : Program) (t : TypeId) (α : Type) [Enc α] (W : α → Prop) : Prop :=
 P.cellsOf t = Enc.sz α ∧ ∀ (H : Type) (enc : TypeId × Value → H) (w : World) (base : Nat) (sp : Nat → Bool) (held : Bool) (fuel : Nat) (cs : List Value) (x : DataW H × List MemPlace), DataW.trod enc P w base sp held fuel t cs = some x →
  ∃ y : α, FrL w (fun _ => False) (Enc.cells y) cs ∧ W y
def u8W (_ : UInt8) : Prop := True
def listW {α : Type} (W : α → Prop) (l : List α) : Prop := l.length ≤ 9223372036854775807 ∧ ∀ x ∈ l, W x
section
variable {P : Program}
theorem rd_u8 {t : TypeId} (ht : P.underlying t = some (.int .u8)) (hc : P.cellsOf t = 1) : Rd P t UInt8 u8W := ⟨hc, fun H enc w base sp held fuel cs x h => by
 obtain ⟨n, rfl, _, hw⟩ := DataW.trod_int ht h
 have hn : 0 ≤ n ∧ n ≤ 255 := by simpa [Lit.wf, IntKind.min, IntKind.max, IntKind.signed, IntKind.bits] using hw
 refine ⟨UInt8.ofNat n.toNat, ?_, trivial⟩
 show FrL w _ [.lit (.int .u8 (UInt8.ofNat n.toNat).toNat)] _
 simp only [FrL]
 refine ⟨_, _, rfl, ?_, rfl⟩
 simp only [Fr]
 congr 1
 rw [UInt8.toNat_ofNat']
 omega⟩
theorem eL_flat {α : Type} [Enc α] {w : World} {M : Nat → Prop} : ∀ {ys : List α} {uss : List (List Value)}, ys.length = uss.length → (∀ (i : Nat) (y : α) (us : List Value), ys[i]? = some y → uss[i]? = some us → FrL w M (Enc.cells y) us) → FrL w M (eL ys) uss.flatten
 | [], [], _, _ => by simp [eL, FrL]
 | [], _ :: _, h, _ => by simp at h
 | _ :: _, [], h, _ => by simp at h
 | y :: ys, us :: uss, h, k => by
  simp only [eL, List.flatten_cons]
  exact FrL.append (k 0 y us rfl rfl) (eL_flat (by simpa using h) fun i y' us' h1 h2 => k (i + 1) y' us' (by simpa using h1) (by simpa using h2))
theorem flat_get {sz : Nat} (hsz : 0 < sz) : ∀ {uss : List (List Value)}, (∀ us ∈ uss, us.length = sz) → ∀ {j : Nat} {v : Value}, uss.flatten[j]? = some v → ∃ us, uss[j / sz]? = some us ∧ us[j % sz]? = some v
 | [], _, j, v, h => by simp at h
 | us :: uss, hl, j, v, h => by
  have h0 : us.length = sz := hl us (by simp)
  simp only [List.flatten_cons] at h
  rcases Nat.lt_or_ge j sz with hj | hj
  ·rw [List.getElem?_append_left (by omega)] at h
   refine ⟨us, by rw [Nat.div_eq_of_lt hj]; rfl, by rw [Nat.mod_eq_of_lt hj]; exact h⟩
  ·rw [List.getElem?_append_right (by omega), h0] at h
   obtain ⟨us', h1, h2⟩ := flat_get hsz (fun us' hu => hl us' (by simp [hu])) h
   refine ⟨us', ?_, ?_⟩
   ·have : j / sz = (j - sz) / sz + 1 := by rw [Nat.div_eq_sub_div hsz hj]
    rw [this]
    simpa using h1
   ·rw [Nat.mod_eq_sub_mod hj]; exact h2
theorem rd_slice {t e : TypeId} {α : Type} [Enc α] {W : α → Prop} (ht : P.underlying t = some (.slice e)) (hc : P.cellsOf t = 1) (he : Rd P e α W) : Rd P t (List α) (listW W) := ⟨hc, fun H enc w base sp held fuel cs x h => by
 obtain ⟨hce, he⟩ := he
 have hpos : 0 < Enc.sz α := Enc.pos
 have fin : ∀ (ys : List α) (v : Value), Fr w (fun _ => False) (A ys) v → listW W ys → ∃ y : List α, FrL w (fun _ => False) (Enc.cells y) [v] ∧ listW W y := fun ys v h1 h2 => ⟨ys, by
  show FrL w _ [A ys] _
  simp only [FrL]
  exact ⟨_, _, rfl, h1, rfl⟩, h2⟩
 rcases Go.Deep.open_slice ht h with ⟨rfl, _⟩ | ⟨a, len, cap, m, n, D, Pl, rfl, hb, hl, hm, hmm, _, hx⟩
 ·exact fin [] _ (Fr.nil w _ _ hpos) ⟨by simp, by simp⟩
 ·have hcapm : cap ≤ maxI := by simpa [maxLen, maxI] using hm
  by_cases h0 : len = 0
  ·subst h0
   refine fin [] _ ?_ ⟨by simp, by simp⟩
   simp only [Fr]
   exact ⟨some a, cap, rfl, ⟨hpos, by simp [eL], by simp, hcapm, fun h => by cases h⟩, .inl rfl⟩
  ·have hlm : len ≤ m := by rw [hmm]; split <;> omega
   have hel : ∀ i, i < len → ∃ p : List Value × α, w.cells? base (a.add (i * P.cellsOf e)) (P.cellsOf e) = some p.1 ∧ FrL w (fun _ => False) (Enc.cells p.2) p.1 ∧ W p.2 := by
    intro i hi
    obtain ⟨cs', h1, h2⟩ := hx i (by omega)
    obtain ⟨y, h3, h4⟩ := he H enc w base sp held n cs' _ h2
    exact ⟨(cs', y), h1, h3, h4⟩
   obtain ⟨p0, hp0⟩ := hel 0 (by omega)
   haveI : Inhabited (List Value × α) := ⟨p0⟩
   obtain ⟨F, hF⟩ := Go.Deep.choose_lt (α := List Value × α) (p := fun i p => w.cells? base (a.add (i * P.cellsOf e)) (P.cellsOf e) = some p.1 ∧ FrL w (fun _ => False) (Enc.cells p.2) p.1 ∧ W p.2) hel
   let ys : List α := (List.range len).map fun i => (F i).2
   let uss : List (List Value) := (List.range len).map fun i => (F i).1
   have hul : ∀ us ∈ uss, us.length = Enc.sz α := by
    intro us hu
    obtain ⟨i, hi, rfl⟩ := List.mem_map.1 hu
    have := (World.cells?_some (hF i (List.mem_range.1 hi)).1).2.1
    rw [this, hce]
   have hys : ys.length = len := by simp [ys]
   have hfl : FrL w (fun _ => False) (eL ys) uss.flatten := eL_flat (by simp [ys, uss]) fun i y us h1 h2 => by
    simp only [ys, uss, List.getElem?_map] at h1 h2
    have hi : i < len := by
     cases hr : (List.range len)[i]? with
     | none => rw [hr] at h1; cases h1
     | some k => have := (List.getElem?_eq_some_iff.1 hr).1; simpa using this
    rw [List.getElem?_range hi] at h1 h2
    simp only [Option.map_some, Option.some.injEq] at h1 h2
    rw [← h1, ← h2]
    exact (hF i hi).2.1
   have hul0 : ((F 0).1).length = Enc.sz α := hul _ (List.mem_map.2 ⟨0, by simp; omega, rfl⟩)
   have h00 : ∃ v, w.cell? a = some v := by
    have h1 := (World.cells?_some (hF 0 (by omega)).1).2.2 0 (by rw [hce]; exact hpos)
    rw [List.getElem?_eq_getElem (by omega)] at h1
    refine ⟨_, Eq.trans ?_ h1⟩
    simp [Addr.add]
   obtain ⟨v00, hv00⟩ := h00
   have hspot : a.spot = none := World.cell?_spot hv00
   obtain ⟨ab, ao, as_⟩ := a
   simp only at hspot
   subst hspot
   have hcell : ∀ i j, i < len → j < Enc.sz α → w.cell? ⟨ab, ao + (i * Enc.sz α + j), none⟩ = ((F i).1)[j]? := by
    intro i j hi hj
    have := (World.cells?_some (hF i hi).1).2.2 j (by rw [hce]; exact hj)
    rw [hce] at this
    rw [← this]
    congr 1
    unfold Addr.add
    split <;> split <;> simp_all <;> omega
   refine fin ys _ ?_ ⟨by rw [hys]; simp only [maxI] at hcapm; omega, fun y hy => by
    obtain ⟨i, hi, rfl⟩ := List.mem_map.1 hy
    exact (hF i (List.mem_range.1 hi)).2.2⟩
   simp only [Fr]
   refine ⟨some ⟨ab, ao, none⟩, cap, by rw [hys], ⟨hpos, by rw [eL_len], by rw [hys]; exact hl, hcapm, fun h => by cases h⟩, .inr ⟨ab, ao, uss.flatten, rfl, World.block_lt_of_cell? _ _ hv00, fun h => h, hfl, fun j hj => ?_⟩⟩
   obtain ⟨us, h1, h2⟩ := flat_get hpos hul (List.getElem?_eq_getElem hj)
   have hi : j / Enc.sz α < len := by
    have := (List.getElem?_eq_some_iff.1 h1).1
    simpa [uss] using this
   simp only [uss, List.getElem?_map, List.getElem?_range hi, Option.map_some, Option.some.injEq] at h1
   have := hcell (j / Enc.sz α) (j % Enc.sz α) hi (Nat.mod_lt _ hpos)
   rw [h1, h2] at this
   have e1 : j / Enc.sz α * Enc.sz α + j % Enc.sz α = j := by rw [Nat.mul_comm]; exact Nat.div_add_mod j _
   rw [e1] at this
   rw [List.getElem?_eq_getElem hj, ← this]⟩
end
end Go.D
set_option linter.unusedVariables false
namespace Go.D
theorem w64_of {n : Int} (h1 : -9223372036854775808 ≤ n) (h2 : n ≤ 9223372036854775807) : w64 n = n := by
 have hm : IntKind.i64.min = -9223372036854775808 := by decide
 have hM : IntKind.i64.max = 9223372036854775807 := by decide
 simp [w64, IntKind.wrap, IntKind.signed, IntKind.bits]
 omega
theorem Zai {α : Type} {xs : List α} {i : Nat} : getI xs (i : Int) = xs[i]? := by
 unfold getI
 rw [if_pos (by omega), Int.toNat_natCast]
theorem getI_lt {α : Type} {xs : List α} {i : Int} (h0 : 0 ≤ i) (h1 : i < xs.length) : ∃ x, getI xs i = some x ∧ xs[i.toNat]? = some x := by
 unfold getI
 rw [if_pos h0]
 have : i.toNat < xs.length := by omega
 exact ⟨xs[i.toNat], by rw [List.getElem?_eq_getElem this], by rw [List.getElem?_eq_getElem this]⟩
theorem app_lt {α : Type} {xs ys : List α} (h : xs.length + ys.length < 68719476736) : app xs ys = some (xs ++ ys) := if_pos h
theorem succ_w {i n : Nat} (h : i < n) (hn : n ≤ 70368744177663) : w64 ((i : Int) + 1) = ((i + 1 : Nat) : Int) := by
 rw [w64_of (by omega) (by omega)]
 omega
theorem loop_all {α : Type} {xs : List α} {L : Nat → Int → Option Bool} {p : α → Bool} {fin : Bool} (hlen : xs.length ≤ 70368744177662)
  (h : ∀ (f i : Nat) (v : α), i < xs.length → xs[i]? = some v → w64 ((i : Int) + 1) = ((i + 1 : Nat) : Int) → L (f + 1) i = bif p v then L f ((i + 1 : Nat) : Int) else some false)
  (he : ∀ f, L (f + 1) (xs.length : Int) = some fin) : L FUEL 0 = some (xs.all p && fin) := by
 have main : ∀ (k f i : Nat), i + k = xs.length → k < f → L f (i : Int) = some ((xs.drop i).all p && fin) := by
  intro k
  induction k with
  | zero =>
   intro f i hi hf
   obtain ⟨f, rfl⟩ : ∃ f', f = f' + 1 := ⟨f - 1, by omega⟩
   have : i = xs.length := by omega
   subst this
   rw [he, List.drop_length]
   simp
  | succ k ih =>
   intro f i hi hf
   obtain ⟨f, rfl⟩ : ∃ f', f = f' + 1 := ⟨f - 1, by omega⟩
   have hlt : i < xs.length := by omega
   rw [h f i xs[i] hlt (List.getElem?_eq_getElem hlt) (succ_w hlt (by omega)), ih f (i + 1) (by omega) (by omega), List.drop_eq_getElem_cons hlt, List.all_cons]
   cases p xs[i] <;> simp
 have := main xs.length FUEL 0 (by omega) (by unfold FUEL; omega)
 simpa using this
theorem loop_find {α : Type} {xs : List α} {L : Nat → Int → Option Int} {p : α → Bool} (hlen : xs.length ≤ 70368744177662)
  (h : ∀ (f i : Nat) (v : α), i < xs.length → xs[i]? = some v → w64 ((i : Int) + 1) = ((i + 1 : Nat) : Int) → L (f + 1) i = bif p v then some (i : Int) else L f ((i + 1 : Nat) : Int))
  (he : ∀ f, L (f + 1) (xs.length : Int) = some (-1)) : ∃ r, L FUEL 0 = some r ∧ decide (r ≥ 0) = xs.any p := by
 have main : ∀ (k f i : Nat), i + k = xs.length → k < f → ∃ r, L f (i : Int) = some r ∧ decide (r ≥ 0) = (xs.drop i).any p := by
  intro k
  induction k with
  | zero =>
   intro f i hi hf
   obtain ⟨f, rfl⟩ : ∃ f', f = f' + 1 := ⟨f - 1, by omega⟩
   have : i = xs.length := by omega
   subst this
   rw [he, List.drop_length]
   exact ⟨_, rfl, by simp⟩
  | succ k ih =>
   intro f i hi hf
   obtain ⟨f, rfl⟩ : ∃ f', f = f' + 1 := ⟨f - 1, by omega⟩
   have hlt : i < xs.length := by omega
   rw [h f i xs[i] hlt (List.getElem?_eq_getElem hlt) (succ_w hlt (by omega)), List.drop_eq_getElem_cons hlt, List.any_cons]
   cases hp : p xs[i] with
   | true => exact ⟨_, rfl, by simp⟩
   | false =>
    obtain ⟨r, h1, h2⟩ := ih f (i + 1) (by omega) (by omega)
    exact ⟨r, h1, by simp [h2]⟩
 have := main xs.length FUEL 0 (by omega) (by unfold FUEL; omega)
 simpa using this
theorem loop_rec {α σ β : Type} {xs : List α} {L : Nat → Int → σ → Option β} (R : List α → σ → β) (Inv : Nat → σ → Prop) (hlen : xs.length ≤ 70368744177662)
  (h : ∀ (f i : Nat) (s : σ) (v : α) (rest : List α), i < xs.length → xs[i]? = some v → w64 ((i : Int) + 1) = ((i + 1 : Nat) : Int) → Inv i s →
   L (f + 1) i s = some (R (v :: rest) s) ∨ ∃ s', Inv (i + 1) s' ∧ L (f + 1) i s = L f ((i + 1 : Nat) : Int) s' ∧ R (v :: rest) s = R rest s')
  (he : ∀ f s, Inv xs.length s → L (f + 1) (xs.length : Int) s = some (R [] s)) {s : σ} (h0 : Inv 0 s) : L FUEL 0 s = some (R xs s) := by
 have main : ∀ (k f i : Nat) (s : σ), i + k = xs.length → k < f → Inv i s → L f (i : Int) s = some (R (xs.drop i) s) := by
  intro k
  induction k with
  | zero =>
   intro f i s hi hf hI
   obtain ⟨f, rfl⟩ : ∃ f', f = f' + 1 := ⟨f - 1, by omega⟩
   have : i = xs.length := by omega
   subst this
   rw [he _ _ hI, List.drop_length]
  | succ k ih =>
   intro f i s hi hf hI
   obtain ⟨f, rfl⟩ : ∃ f', f = f' + 1 := ⟨f - 1, by omega⟩
   have hlt : i < xs.length := by omega
   rw [List.drop_eq_getElem_cons hlt]
   rcases h f i s xs[i] (xs.drop (i + 1)) hlt (List.getElem?_eq_getElem hlt) (succ_w hlt (by omega)) hI with h1 | ⟨s', h1, h2, h3⟩
   ·exact h1
   ·rw [h2, h3]
    exact ih f (i + 1) s' (by omega) (by omega) h1
 have := main xs.length FUEL 0 s (by omega) (by unfold FUEL; omega) h0
 simpa using this
theorem loop_q {α σ β : Type} {xs : List α} {L : Nat → Int → σ → Option β} (Q : List α → σ → β → Prop) (Inv : Nat → σ → Prop) (hlen : xs.length ≤ 70368744177662)
  (h : ∀ (f i : Nat) (s : σ) (v : α) (rest : List α), i + (rest.length + 1) = xs.length → i < xs.length → xs[i]? = some v → w64 ((i : Int) + 1) = ((i + 1 : Nat) : Int) → Inv i s →
   (∃ y, L (f + 1) i s = some y ∧ Q (v :: rest) s y) ∨ ∃ s', Inv (i + 1) s' ∧ L (f + 1) i s = L f ((i + 1 : Nat) : Int) s' ∧ ∀ y, Q rest s' y → Q (v :: rest) s y)
  (he : ∀ f s, Inv xs.length s → ∃ y, L (f + 1) (xs.length : Int) s = some y ∧ Q [] s y) {s : σ} (h0 : Inv 0 s) : ∃ y, L FUEL 0 s = some y ∧ Q xs s y := by
 have main : ∀ (k f i : Nat) (s : σ), i + k = xs.length → k < f → Inv i s → ∃ y, L f (i : Int) s = some y ∧ Q (xs.drop i) s y := by
  intro k
  induction k with
  | zero =>
   intro f i s hi hf hI
   obtain ⟨f, rfl⟩ : ∃ f', f = f' + 1 := ⟨f - 1, by omega⟩
   have : i = xs.length := by omega
   subst this
   rw [List.drop_length]
   exact he _ _ hI
  | succ k ih =>
   intro f i s hi hf hI
   obtain ⟨f, rfl⟩ : ∃ f', f = f' + 1 := ⟨f - 1, by omega⟩
   have hlt : i < xs.length := by omega
   rw [List.drop_eq_getElem_cons hlt]
   rcases h f i s xs[i] (xs.drop (i + 1)) (by rw [List.length_drop]; omega) hlt (List.getElem?_eq_getElem hlt) (succ_w hlt (by omega)) hI with h1 | ⟨s', h1, h2, h3⟩
   ·exact h1
   ·obtain ⟨y, h4, h5⟩ := ih f (i + 1) s' (by omega) (by omega) h1
    exact ⟨y, h2.trans h4, h3 y h5⟩
 have := main xs.length FUEL 0 s (by omega) (by unfold FUEL; omega) h0
 simpa using this
end Go.D
set_option linter.unusedVariables false
namespace Go.D
abbrev Sm (n : Nat) : Prop := n ≤ 2097152
def inR (a b c : Int) : Bool := decide (b ≤ a) && decide (a ≤ c)
theorem spec_in (a b c : Int) : spec_l1In a b c = some (inR a b c) := by
 unfold spec_l1In inR
 by_cases h : b ≤ a <;> simp [h]
theorem impl_in (a b c : Int) : Za6 a b c = some (inR a b c) := by
 unfold Za6 inR
 by_cases h : b ≤ a <;> simp [h]
def colsOk (cs : List Zf) : Bool := cs.all (fun c => inR c.fKind 1 3) && decide (cs.length ≤ 4)
theorem spec_colsOk {cs : List Zf} (h : Sm cs.length) : spec_ColumnsOk cs = some (colsOk cs) := by
 unfold spec_ColumnsOk colsOk
 refine loop_all (by omega) (fun f i v hi hv hw => ?_) (fun f => ?_)
 ·have : (i : Int) < cs.length := by omega
  simp only [spec_ColumnsOk_l0, this, decide_true, cond_true, Zai, hv, Option.bind_some, spec_in, hw]
  cases inR v.fKind 1 3 <;> rfl
 ·simp only [spec_ColumnsOk_l0, Int.lt_irrefl, decide_false, cond_false]
  congr 1
  simp only [decide_eq_decide]
  omega
theorem impl_colsAny {cs : List Zf} (h : Sm cs.length) : Zag cs impl_ColumnsOk_1 = some (cs.any fun c => !(inR c.fKind 1 3)) := by
 unfold Zag Zay
 obtain ⟨r, h1, h2⟩ := loop_find (xs := cs) (L := Z3 cs impl_ColumnsOk_1) (p := fun c => !(inR c.fKind 1 3)) (by omega) (fun f i v hi hv hw => by
  have : (i : Int) < cs.length := by omega
  simp only [Z3, this, decide_true, cond_true, Zai, hv, Option.bind_some, impl_ColumnsOk_1, impl_in, hw]) (fun f => by
  simp only [Z3, Int.lt_irrefl, decide_false, cond_false])
 rw [h1, Option.bind_some, h2]
theorem not_any_not {α : Type} (xs : List α) (p : α → Bool) : (!(xs.any fun x => !(p x))) = xs.all p := by
 induction xs with
 | nil => rfl
 | cons x xs ih => simp [← ih]
theorem impl_colsOk {cs : List Zf} (h : Sm cs.length) : impl_ColumnsOk cs = some (colsOk cs) := by
 unfold impl_ColumnsOk colsOk
 rw [impl_colsAny h, Option.bind_some, not_any_not]
 by_cases h4 : cs.length ≤ 4
 ·have : (cs.length : Int) ≤ 4 := by omega
  simp [h4, this]
 ·have : ¬ (cs.length : Int) ≤ 4 := by omega
  simp [h4, this]
theorem cast_le6 (n : Nat) : decide ((n : Int) ≤ 6) = decide (n ≤ 6) := by
 simp only [decide_eq_decide]
 omega
theorem getB_nat {s : ByteArray} {i : Nat} : getB s (i : Int) = s.data.toList[i]? := by
 unfold getB
 rw [if_pos (by omega), Int.toNat_natCast]
 by_cases h : i < s.size
 ·rw [getElem?_pos s i h, List.getElem?_eq_getElem (by simpa using h)]
  simp only [Option.some.injEq]
  rfl
 ·rw [getElem?_neg s i h, List.getElem?_eq_none (by simpa using h)]
def letter (b : UInt8) : Bool := decide (97 ≤ b.toNat) && decide (b.toNat ≤ 122)
def textOk (s : ByteArray) : Bool := s.data.toList.all letter && decide (s.size ≤ 6)
theorem size_list (s : ByteArray) : s.data.toList.length = s.size := Array.length_toList
theorem spec_text {s : ByteArray} (h : Sm s.size) : spec_l1Text s = some (textOk s) := by
 unfold spec_l1Text textOk
 have hl := size_list s
 refine loop_all (xs := s.data.toList) (by omega) (fun f i v hi hv hw => ?_) (fun f => ?_)
 ·have : (i : Int) < s.size := by omega
  simp only [spec_l1Text_l0, this, decide_true, cond_true, getB_nat, hv, Option.bind_some, spec_l1Text_j1, hw]
  unfold letter
  by_cases h1 : (v.toNat : Int) < 97
  ·have : ¬ 97 ≤ v.toNat := by omega
   simp [h1, this]
  ·have h1' : 97 ≤ v.toNat := by omega
   by_cases h2 : (v.toNat : Int) > 122
   ·have : ¬ v.toNat ≤ 122 := by omega
    simp [h1, h1', h2, this]
   ·have : v.toNat ≤ 122 := by omega
    simp [h1, h1', h2, this]
 ·rw [hl]
  unfold spec_l1Text_l0
  rw [show decide ((s.size : Int) < (s.size : Int)) = false from decide_eq_false (Int.lt_irrefl _), cond_false, cast_le6]
theorem impl_lettersOk {s : ByteArray} (h : Sm s.size) : impl_letters s = some (s.data.toList.all letter) := by
 have hl := size_list s
 unfold impl_letters bytesOf
 rw [if_pos (by omega), Option.bind_some, ← Bool.and_true (s.data.toList.all letter)]
 refine loop_all (xs := s.data.toList) (by omega) (fun f i v hi hv hw => ?_) (fun f => ?_)
 ·have : (i : Int) < s.data.toList.length := by omega
  have hb : v.toNat < 256 := v.toNat_lt
  have h1 : w64 (v.toNat : Int) = v.toNat := w64_of (by omega) (by omega)
  simp only [impl_letters_l0, this, decide_true, cond_true, Zai, hv, Option.bind_some, impl_in, hw, h1]
  have : inR (v.toNat : Int) 97 122 = letter v := by
   unfold inR letter
   congr 1 <;> simp only [decide_eq_decide] <;> omega
  rw [this]
  cases letter v <;> rfl
 ·simp only [impl_letters_l0, Int.lt_irrefl, decide_false, cond_false]
def valOk (v : Za) : Bool := bif v.fKind == 0 then v.fN == 0 && v.fS.toList == (ByteArray.mk #[]).toList else bif v.fKind == 1 then inR v.fN (-9999) 9999 && v.fS.toList == (ByteArray.mk #[]).toList else
 bif v.fKind == 2 then v.fN == 0 && textOk v.fS else bif v.fKind == 3 then inR v.fN 0 1 && v.fS.toList == (ByteArray.mk #[]).toList else false
theorem spec_value {v : Za} (h : Sm v.fS.size) : spec_ValueOk v = some (valOk v) := by
 unfold spec_ValueOk valOk
 simp only [spec_in, spec_text h, Option.bind_some]
 cases v.fKind == 0 <;> cases v.fKind == 1 <;> cases v.fKind == 2 <;> cases v.fKind == 3 <;> cases v.fN == 0 <;> cases inR v.fN (-9999) 9999 <;> cases inR v.fN 0 1 <;> rfl
theorem impl_value {v : Za} (h : Sm v.fS.size) : Zbf v = some (valOk v) := by
 unfold Zbf valOk
 simp only [impl_in, impl_lettersOk h, Option.bind_some]
 have e : Zz v ((Za.mk 0 0 (ByteArray.mk #[]))) = (v.fKind == 0 && (v.fN == 0 && v.fS.toList == (ByteArray.mk #[]).toList)) := rfl
 have e2 : decide ((v.fS.size : Int) ≤ 6) = decide (v.fS.size ≤ 6) := by
  simp only [decide_eq_decide]
  omega
 have e3 : textOk v.fS = (v.fS.data.toList.all letter && decide (v.fS.size ≤ 6)) := rfl
 rw [e, e2, e3]
 cases v.fKind == 0 <;> cases v.fKind == 1 <;> cases v.fKind == 2 <;> cases v.fKind == 3 <;> cases v.fN == 0 <;> cases inR v.fN (-9999) 9999 <;> cases inR v.fN 0 1 <;> cases v.fS.toList == (ByteArray.mk #[]).toList <;>
  cases decide (v.fS.size ≤ 6) <;> cases v.fS.data.toList.all letter <;> rfl
def SmV (v : Za) : Prop := Sm v.fS.size
def SmR (r : List Za) : Prop := Sm r.length ∧ ∀ v ∈ r, SmV v
def rowOk (r : List Za) : Bool := r.all valOk && decide (r.length ≤ 4)
theorem spec_rowOk {r : List Za} (h : SmR r) : spec_RowOk r = some (rowOk r) := by
 unfold spec_RowOk rowOk
 have hl := h.1
 refine loop_all (by omega) (fun f i v hi hv hw => ?_) (fun f => ?_)
 ·have : (i : Int) < r.length := by omega
  simp only [spec_RowOk_l0, this, decide_true, cond_true, Zai, hv, Option.bind_some, spec_value (h.2 v (List.mem_of_getElem? hv)), hw]
  cases valOk v <;> rfl
 ·simp only [spec_RowOk_l0, Int.lt_irrefl, decide_false, cond_false]
  congr 1
  simp only [decide_eq_decide]
  omega
theorem impl_rowAny {r : List Za} (h : SmR r) : Z1 r impl_RowOk_1 = some (r.any fun v => !(valOk v)) := by
 unfold Z1 Zap
 have hl := h.1
 obtain ⟨x, h1, h2⟩ := loop_find (xs := r) (L := Zu r impl_RowOk_1) (p := fun v => !(valOk v)) (by omega) (fun f i v hi hv hw => by
  have : (i : Int) < r.length := by omega
  simp only [Zu, this, decide_true, cond_true, Zai, hv, Option.bind_some, impl_RowOk_1, impl_value (h.2 v (List.mem_of_getElem? hv)), hw]) (fun f => by
  simp only [Zu, Int.lt_irrefl, decide_false, cond_false])
 rw [h1, Option.bind_some, h2]
theorem le4 {α : Type} (xs : List α) : decide ((xs.length : Int) ≤ 4) = decide (xs.length ≤ 4) := by
 simp only [decide_eq_decide]
 omega
theorem impl_rowOk {r : List Za} (h : SmR r) : impl_RowOk r = some (rowOk r) := by
 unfold impl_RowOk rowOk
 rw [impl_rowAny h, Option.bind_some, not_any_not, le4]
 cases decide (r.length ≤ 4) <;> simp
def fits (c : Zf) (v : Za) : Bool := v.fKind == c.fKind || (v.fKind == 0 && c.fEmpty)
def rowFits (cs : List Zf) (r : List Za) : Bool := colsOk cs && (rowOk r && (r.length == cs.length && (r.zip cs).all fun p => fits p.2 p.1))
theorem zip_get {α β : Type} {xs : List α} {ys : List β} (h : xs.length = ys.length) {i : Nat} {p : α × β} (hp : (xs.zip ys)[i]? = some p) : xs[i]? = some p.1 ∧ ys[i]? = some p.2 := by
 rw [List.getElem?_zip_eq_some] at hp
 exact hp
theorem spec_rowFits {cs : List Zf} {r : List Za} (hc : Sm cs.length) (h : SmR r) : spec_RowFits cs r = some (rowFits cs r) := by
 unfold spec_RowFits rowFits
 rw [spec_colsOk hc, Option.bind_some, spec_rowOk h, Option.bind_some]
 cases colsOk cs
 ·rfl
 ·cases rowOk r
  ·rfl
  ·by_cases he : r.length = cs.length
   ·have e1 : ((r.length : Int) == (cs.length : Int)) = true := by simp [he]
    have e2 : (r.length == cs.length) = true := by simp [he]
    rw [e1, e2]
    simp only [Bool.not_true, cond_false, spec_RowFits_j0, Bool.true_and]
    have hl := h.1
    have hz : (r.zip cs).length = r.length := by simp [he]
    rw [show (r.zip cs).all (fun p => fits p.2 p.1) = ((r.zip cs).all (fun p => fits p.2 p.1) && true) by simp]
    refine loop_all (xs := r.zip cs) (by omega) (fun f i p hi hp hw => ?_) (fun f => ?_)
    ·obtain ⟨p1, p2⟩ := zip_get he hp
     have : (i : Int) < r.length := by omega
     simp only [spec_RowFits_l1, this, decide_true, cond_true, Zai, p1, p2, Option.bind_some, spec_RowFits_j2, hw, fits]
     cases p.1.fKind == p.2.fKind <;> cases p.1.fKind == 0 <;> cases p.2.fEmpty <;> rfl
    ·rw [hz]
     simp only [spec_RowFits_l1, Int.lt_irrefl, decide_false, cond_false]
   ·have e1 : ((r.length : Int) == (cs.length : Int)) = false := by
     simp only [beq_eq_false_iff_ne, ne_eq]
     omega
    have e2 : (r.length == cs.length) = false := by simp [he]
    rw [e1, e2]
    rfl
theorem impl_rowFits {cs : List Zf} {r : List Za} (hc : Sm cs.length) (h : SmR r) : impl_RowFits cs r = some (rowFits cs r) := by
 unfold impl_RowFits rowFits
 rw [impl_colsOk hc, Option.bind_some, impl_rowOk h, Option.bind_some]
 cases colsOk cs
 ·rfl
 ·cases rowOk r
  ·rfl
  ·by_cases he : r.length = cs.length
   ·have e1 : ((r.length : Int) == (cs.length : Int)) = true := by simp [he]
    have e2 : (r.length == cs.length) = true := by simp [he]
    rw [e1, e2]
    simp only [Bool.not_true, cond_false, impl_RowFits_j0, Bool.true_and]
    have hl := h.1
    have hz : (r.zip cs).length = r.length := by simp [he]
    rw [show (r.zip cs).all (fun p => fits p.2 p.1) = ((r.zip cs).all (fun p => fits p.2 p.1) && true) by simp]
    refine loop_all (xs := r.zip cs) (by omega) (fun f i p hi hp hw => ?_) (fun f => ?_)
    ·obtain ⟨p1, p2⟩ := zip_get he hp
     have : (i : Int) < r.length := by omega
     simp only [impl_RowFits_l1, this, decide_true, cond_true, Zai, p1, p2, Option.bind_some, impl_RowFits_j2, hw, fits]
     cases p.1.fKind == p.2.fKind <;> cases p.1.fKind == 0 <;> cases p.2.fEmpty <;> rfl
    ·rw [hz]
     simp only [impl_RowFits_l1, Int.lt_irrefl, decide_false, cond_false]
   ·have e1 : ((r.length : Int) == (cs.length : Int)) = false := by
     simp only [beq_eq_false_iff_ne, ne_eq]
     omega
    have e2 : (r.length == cs.length) = false := by simp [he]
    rw [e1, e2]
    rfl
def SmRs (rs : List (List Za)) : Prop := Sm rs.length ∧ ∀ r ∈ rs, SmR r
def rowsOk (cs : List Zf) (rs : List (List Za)) : Bool := colsOk cs && rs.all (rowFits cs)
theorem spec_rowsOk {cs : List Zf} {rs : List (List Za)} (hc : Sm cs.length) (h : SmRs rs) : spec_RowsOk cs rs = some (rowsOk cs rs) := by
 unfold spec_RowsOk rowsOk
 have hl := h.1
 rw [Bool.and_comm]
 refine loop_all (by omega) (fun f i v hi hv hw => ?_) (fun f => ?_)
 ·have : (i : Int) < rs.length := by omega
  simp only [spec_RowsOk_l0, this, decide_true, cond_true, Zai, hv, Option.bind_some, spec_rowFits hc (h.2 v (List.mem_of_getElem? hv)), hw]
  cases rowFits cs v <;> rfl
 ·simp only [spec_RowsOk_l0, Int.lt_irrefl, decide_false, cond_false, spec_colsOk hc, Option.bind_some]
theorem impl_rowsAny {cs : List Zf} {rs : List (List Za)} (hc : Sm cs.length) (h : SmRs rs) : Zq rs (fun z0 => impl_RowsOk_1 z0 cs) = some (rs.any fun r => !(rowFits cs r)) := by
 unfold Zq Zak
 have hl := h.1
 obtain ⟨x, h1, h2⟩ := loop_find (xs := rs) (L := Zp rs (fun z0 => impl_RowsOk_1 z0 cs)) (p := fun r => !(rowFits cs r)) (by omega) (fun f i v hi hv hw => by
  have : (i : Int) < rs.length := by omega
  simp only [Zp, this, decide_true, cond_true, Zai, hv, Option.bind_some, impl_RowsOk_1, impl_rowFits hc (h.2 v (List.mem_of_getElem? hv)), hw]) (fun f => by
  simp only [Zp, Int.lt_irrefl, decide_false, cond_false])
 rw [h1, Option.bind_some, h2]
theorem impl_rowsOk {cs : List Zf} {rs : List (List Za)} (hc : Sm cs.length) (h : SmRs rs) : impl_RowsOk cs rs = some (rowsOk cs rs) := by
 unfold impl_RowsOk rowsOk
 rw [impl_colsOk hc, Option.bind_some, impl_rowsAny hc h, Option.bind_some, not_any_not]
 cases colsOk cs <;> rfl
end Go.D
set_option linter.unusedVariables false
namespace Go.D
def SmT (t : Ze) : Prop := Sm t.fColumns.length ∧ SmRs t.fRows
def SmTs (ts : List Ze) : Prop := Sm ts.length ∧ ∀ t ∈ ts, SmT t
def tabOk (t : Ze) : Bool := decide (t.fRows.length ≤ 6) && rowsOk t.fColumns t.fRows
def tabsOk (ts : List Ze) : Bool := ts.all tabOk && decide (ts.length ≤ 3)
theorem gt6 {α : Type} (xs : List α) : decide ((xs.length : Int) > 6) = !(decide (xs.length ≤ 6)) := by
 by_cases h : xs.length ≤ 6
 ·have : ¬ (xs.length : Int) > 6 := by omega
  simp [h, this]
 ·have : (xs.length : Int) > 6 := by omega
  simp [h, this]
theorem spec_tabsOk {ts : List Ze} (h : SmTs ts) : spec_TablesOk ts = some (tabsOk ts) := by
 unfold spec_TablesOk tabsOk
 have hl := h.1
 refine loop_all (by omega) (fun f i v hi hv hw => ?_) (fun f => ?_)
 ·have : (i : Int) < ts.length := by omega
  have hv' := h.2 v (List.mem_of_getElem? hv)
  simp only [spec_TablesOk_l0, this, decide_true, cond_true, Zai, hv, Option.bind_some, spec_rowsOk hv'.1 hv'.2, spec_TablesOk_j1, hw, gt6, tabOk]
  cases decide (v.fRows.length ≤ 6) <;> cases rowsOk v.fColumns v.fRows <;> rfl
 ·simp only [spec_TablesOk_l0, Int.lt_irrefl, decide_false, cond_false]
  congr 1
  simp only [decide_eq_decide]
  omega
theorem impl_tabsAny {ts : List Ze} (h : SmTs ts) : Zal ts impl_TablesOk_1 = some (ts.any fun t => !(tabOk t)) := by
 unfold Zal Za2
 have hl := h.1
 obtain ⟨x, h1, h2⟩ := loop_find (xs := ts) (L := Z6 ts impl_TablesOk_1) (p := fun t => !(tabOk t)) (by omega) (fun f i v hi hv hw => by
  have : (i : Int) < ts.length := by omega
  have hv' := h.2 v (List.mem_of_getElem? hv)
  simp only [Z6, this, decide_true, cond_true, Zai, hv, Option.bind_some, impl_TablesOk_1, impl_colsOk hv'.1, impl_rowsOk hv'.1 hv'.2, hw, gt6, tabOk, rowsOk]
  cases colsOk v.fColumns <;> cases decide (v.fRows.length ≤ 6) <;> simp) (fun f => by
  simp only [Z6, Int.lt_irrefl, decide_false, cond_false])
 rw [h1, Option.bind_some, h2]
theorem impl_tabsOk {ts : List Ze} (h : SmTs ts) : impl_TablesOk ts = some (tabsOk ts) := by
 unfold impl_TablesOk tabsOk
 rw [impl_tabsAny h, Option.bind_some, not_any_not]
 have : decide ((ts.length : Int) ≤ 3) = decide (ts.length ≤ 3) := by
  simp only [decide_eq_decide]
  omega
 rw [this]
 cases decide (ts.length ≤ 3) <;> simp
end Go.D
set_option linter.unusedVariables false
namespace Go.D
theorem g2 {α : Type} {xs : List α} (a b : α) : getI (xs ++ [a, b]) (xs.length : Int) = some a := by
 rw [Zai]
 simp
theorem g3 {α : Type} {xs : List α} (b : α) : getI (xs ++ [b]) (xs.length : Int) = some b := by
 rw [Zai]
 simp
theorem wm1 : w64 (-1) = -1 := w64_of (by omega) (by omega)
section
variable {α : Type} {xs : List α} (h : xs.length ≤ 2097152)
include h
theorem g1 (a b : α) : getI (xs ++ [a, b]) (w64 (((xs ++ [a, b]).length : Int) - 1)) = some b := by
 have e : (((xs ++ [a, b]).length : Int) - 1) = ((xs.length + 1 : Nat) : Int) := by simp only [List.length_append, List.length_cons, List.length_nil]; omega
 rw [e, w64_of (by omega) (by omega), Zai]
 simp
theorem sl_pre {ys : List α} {n : Int} (hn : n = (xs.length : Int)) : slI (xs ++ ys) none (some n) none = some xs := by
 subst hn
 unfold slI
 rw [if_pos]
 ·simp
 ·simp only [Option.getD_none, Option.getD_some, List.length_append]
  omega
theorem sl_post {ys : List α} {n : Int} (hn : n = (xs.length : Int)) : slI (xs ++ ys) (some n) none none = some ys := by
 subst hn
 unfold slI
 rw [if_pos]
 ·simp only [Option.getD_none, Option.getD_some, Int.toNat_natCast, List.drop_left, List.length_append]
  rw [List.take_of_length_le (by omega)]
 ·simp only [Option.getD_none, Option.getD_some, List.length_append]
  omega
theorem max0 {n : Int} (hn : n = (xs.length : Int)) : maxL n [0] = (xs.length : Int) := by
 subst hn
 unfold maxL maxL
 rw [if_neg (by omega)]
theorem len2 (a b : α) : w64 (((xs ++ [a, b]).length : Int) - 2) = (xs.length : Int) := by
 rw [w64_of] <;> simp <;> omega
theorem len1 (b : α) : w64 (((xs ++ [b]).length : Int) - 1) = (xs.length : Int) := by
 rw [w64_of] <;> simp <;> omega
theorem len0 : w64 ((xs.length : Int) - 0) = (xs.length : Int) := by
 rw [w64_of] <;> omega
theorem ap_pre {ys : List α} (k : α) : appT (xs ++ ys) [k] xs.length = some (xs ++ [k]) := by
 unfold appT
 rw [if_pos (by simp; omega)]
 simp
theorem ap_all (k : α) : app xs [k] = some (xs ++ [k]) := app_lt (by simp; omega)
end
def zeroV (v : Za) : Bool := Zz v ((Za.mk 0 0 (ByteArray.mk #[])))
def Zaf (cs : List Zf) (rs : List Int) (p : Zc) : Option (List Int) :=
 if p.fKind = 1 then bif p.fN == 0 && (valOk p.fV && !(p.fV.fKind == 0)) then some (p.fV.fKind :: rs) else none
 else if p.fKind = 2 then bif zeroV p.fV && inR p.fN 0 ((cs.length : Int) - 1) then (getI cs p.fN).map fun c => c.fKind :: rs else none
 else if p.fKind = 3 then bif zeroV p.fV && p.fN == 0 then (match rs with
  | b :: a :: r => bif b == 1 && a == 1 then some (1 :: r) else none
  | _ => none) else none
 else if p.fKind = 4 then bif zeroV p.fV && inR p.fN 1 4 then (match rs with
  | b :: a :: r => bif b == a then some (3 :: r) else none
  | _ => none) else none
 else if p.fKind = 5 ∨ p.fKind = 6 then bif zeroV p.fV && p.fN == 0 then (match rs with
  | b :: a :: r => bif b == 3 && a == 3 then some (3 :: r) else none
  | _ => none) else none
 else if p.fKind = 7 then bif zeroV p.fV && p.fN == 0 then (match rs with
  | b :: r => bif b == 3 then some (3 :: r) else none
  | _ => none) else none
 else if p.fKind = 8 then bif zeroV p.fV && p.fN == 0 then (match rs with
  | b :: r => some (3 :: r)
  | _ => none) else none
 else none
def exprRun (cs : List Zf) : List Zc → List Int → Int
 | [], rs => match rs with
  | [k] => k
  | _ => -1
 | p :: ps, rs => match Zaf cs rs p with
  | none => -1
  | some rs' => exprRun cs ps rs'
def SmP (p : Zc) : Prop := SmV p.fV
theorem exprStep_len {cs : List Zf} {rs rs' : List Int} {p : Zc} (h : Zaf cs rs p = some rs') : rs'.length ≤ rs.length + 1 := by
 unfold Zaf at h
 have hb : ∀ {c : Bool} {a : Option (List Int)}, (bif c then a else none) = some rs' → a = some rs' := fun {c a} h => by cases c <;> simp_all
 split at h
 ·have := hb h
  cases this
  simp
 split at h
 ·have := hb h
  simp only [Option.map_eq_some_iff] at this
  obtain ⟨_, _, rfl⟩ := this
  simp
 split at h
 ·have := hb h
  split at this
  ·cases hb this
   simp <;> omega
  ·cases this
 split at h
 ·have := hb h
  split at this
  ·cases hb this
   simp <;> omega
  ·cases this
 split at h
 ·have := hb h
  split at this
  ·cases hb this
   simp <;> omega
  ·cases this
 split at h
 ·have := hb h
  split at this
  ·cases hb this
   simp
  ·cases this
 split at h
 ·have := hb h
  split at this
  ·cases this
   simp
  ·cases this
 ·cases h
theorem stack_cases {α : Type} (rs : List α) : rs = [] ∨ (∃ b, rs = [b]) ∨ ∃ b a r, rs = b :: a :: r := by
 match rs with
 | [] => exact .inl rfl
 | [b] => exact .inr (.inl ⟨b, rfl⟩)
 | b :: a :: r => exact .inr (.inr ⟨b, a, r, rfl⟩)
theorem kind_cases (k : Int) : k = 1 ∨ k = 2 ∨ k = 3 ∨ k = 4 ∨ k = 5 ∨ k = 6 ∨ k = 7 ∨ k = 8 ∨ (k ≠ 1 ∧ k ≠ 2 ∧ k ≠ 3 ∧ k ≠ 4 ∧ k ≠ 5 ∧ k ≠ 6 ∧ k ≠ 7 ∧ k ≠ 8) := by omega
section
variable {α : Type} {xs : List α}
theorem gt1 (a b : α) : decide (((xs ++ [a, b]).length : Int) > 1) = true := by simp; omega
theorem gt0 (b : α) : decide (((xs ++ [b]).length : Int) > 0) = true := by simp only [List.length_append, List.length_cons, List.length_nil, decide_eq_true_eq]; omega
theorem lt2 (a b : α) : decide (((xs ++ [a, b]).length : Int) < 2) = false := by simp; omega
theorem lt1 (b : α) : decide (((xs ++ [b]).length : Int) < 1) = false := by simp; omega
theorem lt0 : decide ((xs.length : Int) < 0) = false := by simp only [decide_eq_false_iff_not]; omega
theorem rev2 (a b : α) (r : List α) : (b :: a :: r).reverse = r.reverse ++ [a, b] := by simp
theorem rev1 (b : α) (r : List α) : (b :: r).reverse = r.reverse ++ [b] := by simp
end
theorem low2 {xs : List Int} (h : xs.length ≤ 1) : slI xs none (some (maxL (w64 ((xs.length : Int) - 2)) [0])) none = some [] := by
 rw [w64_of (by omega) (by omega)]
 unfold maxL maxL
 rw [if_pos (by omega)]
 unfold slI
 simp
theorem apt0 (xs : List Int) (k : Int) : appT xs [k] ([] : List Int).length = some [k] := by
 unfold appT
 simp
theorem j2_low {xs : List Int} (h : xs.length ≤ 1) (b : Bool) : spec_l4Step_j2 xs b = some ([1], b) := by
 unfold spec_l4Step_j2
 rw [low2 h, Option.bind_some, apt0, Option.bind_some]
theorem j3_low {xs : List Int} (h : xs.length ≤ 1) (b : Bool) : spec_l4Step_j3 xs b = some ([3], b) := by
 unfold spec_l4Step_j3
 rw [low2 h, Option.bind_some, apt0, Option.bind_some]
theorem j5_low {xs : List Int} (h : xs.length ≤ 1) (b : Bool) : spec_l4Step_j5 xs b = some ([3], b) := by
 unfold spec_l4Step_j5
 rw [low2 h, Option.bind_some, apt0, Option.bind_some]
def SpecStep (cs : List Zf) (rs : List Int) (p : Zc) : Prop := match Zaf cs rs p with
 | some rs' => Zar cs rs.reverse p = some (rs'.reverse, true)
 | none => ∃ s, Zar cs rs.reverse p = some (s, false)
theorem spec_step {cs : List Zf} {rs : List Int} {p : Zc} (hc : Sm cs.length) (hr : rs.length ≤ 2000000) (hp : SmP p) : SpecStep cs rs p := by
 obtain ⟨k, n, v⟩ := p
 have hv : spec_ValueOk v = some (valOk v) := spec_value hp
 have hz : Zz v ((Za.mk 0 0 (ByteArray.mk #[]))) = zeroV v := rfl
 have hw : w64 ((cs.length : Int) - 1) = (cs.length : Int) - 1 := w64_of (by omega) (by omega)
 unfold SpecStep
 rcases kind_cases k with rfl | rfl | rfl | rfl | rfl | rfl | rfl | rfl | hk
 ·have ha : app rs.reverse [v.fKind] = some (rs.reverse ++ [v.fKind]) := ap_all (by simp; omega) _
  simp only [Zaf, Zar, Z4, spec_l4Step_j1, hz, hv, hw, spec_in, Option.bind_some, ha]
  cases n == 0 <;> cases valOk v <;> cases v.fKind == 0 <;> simp
 ·simp only [Zaf, Zar, Z4, hz, hw, spec_in, Option.bind_some]
  cases zeroV v
  ·simp
  ·cases hi : inR n 0 ((cs.length : Int) - 1) with
   | false => simp
   | true =>
    unfold inR at hi
    simp only [Bool.and_eq_true, decide_eq_true_eq] at hi
    obtain ⟨c, h1, h2⟩ := getI_lt (xs := cs) hi.1 (by omega)
    have ha : app rs.reverse [c.fKind] = some (rs.reverse ++ [c.fKind]) := ap_all (by simp; omega) _
    simp [h1, ha]
 ·rcases stack_cases rs with rfl | ⟨b, rfl⟩ | ⟨b, a, r, rfl⟩
  ·simp [Zaf, Zar, Z4, j2_low, hz, spec_in, Option.bind]
   cases n == 0 <;> cases zeroV v <;> simp
  ·simp [Zaf, Zar, Z4, j2_low, hz, spec_in, Option.bind]
   cases n == 0 <;> cases zeroV v <;> simp
  ·have hx : r.reverse.length ≤ 2097152 := by simp at hr ⊢; omega
   simp only [Zaf, Zar, Z4, spec_l4Step_j2, hz, spec_in, rev2, g1 hx, len2 hx, g2, gt1, max0 hx rfl, sl_pre hx rfl, ap_pre hx, Option.bind_some]
   cases n == 0 <;> cases zeroV v <;> cases b == 1 <;> cases a == 1 <;> simp
 ·rcases stack_cases rs with rfl | ⟨b, rfl⟩ | ⟨b, a, r, rfl⟩
  ·simp [Zaf, Zar, Z4, j3_low, hz, spec_in, Option.bind]
   cases inR n 1 4 <;> cases zeroV v <;> simp
  ·simp [Zaf, Zar, Z4, j3_low, hz, spec_in, Option.bind]
   cases inR n 1 4 <;> cases zeroV v <;> simp
  ·have hx : r.reverse.length ≤ 2097152 := by simp at hr ⊢; omega
   simp only [Zaf, Zar, Z4, spec_l4Step_j3, hz, spec_in, rev2, g1 hx, len2 hx, g2, gt1, max0 hx rfl, sl_pre hx rfl, ap_pre hx, Option.bind_some]
   cases inR n 1 4 <;> cases zeroV v <;> cases b == a <;> simp
 ·rcases stack_cases rs with rfl | ⟨b, rfl⟩ | ⟨b, a, r, rfl⟩
  ·simp [Zaf, Zar, Z4, Za1, j5_low, hz, spec_in, Option.bind]
   cases n == 0 <;> cases zeroV v <;> simp
  ·simp [Zaf, Zar, Z4, Za1, j5_low, hz, spec_in, Option.bind]
   cases n == 0 <;> cases zeroV v <;> simp
  ·have hx : r.reverse.length ≤ 2097152 := by simp at hr ⊢; omega
   simp only [Zaf, Zar, Z4, Za1, spec_l4Step_j5, hz, spec_in, rev2, g1 hx, len2 hx, g2, gt1, max0 hx rfl, sl_pre hx rfl, ap_pre hx, Option.bind_some]
   cases n == 0 <;> cases zeroV v <;> cases b == 3 <;> cases a == 3 <;> simp
 ·rcases stack_cases rs with rfl | ⟨b, rfl⟩ | ⟨b, a, r, rfl⟩
  ·simp [Zaf, Zar, Z4, Za1, j5_low, hz, spec_in, Option.bind]
   cases n == 0 <;> cases zeroV v <;> simp
  ·simp [Zaf, Zar, Z4, Za1, j5_low, hz, spec_in, Option.bind]
   cases n == 0 <;> cases zeroV v <;> simp
  ·have hx : r.reverse.length ≤ 2097152 := by simp at hr ⊢; omega
   simp only [Zaf, Zar, Z4, Za1, spec_l4Step_j5, hz, spec_in, rev2, g1 hx, len2 hx, g2, gt1, max0 hx rfl, sl_pre hx rfl, ap_pre hx, Option.bind_some]
   cases n == 0 <;> cases zeroV v <;> cases b == 3 <;> cases a == 3 <;> simp
 ·rcases rs with _ | ⟨b, r⟩
  ·simp [Zaf, Zar, Z4, Za1, hz]
  ·have hx : r.reverse.length ≤ 2097152 := by simp at hr ⊢; omega
   simp only [Zaf, Zar, Z4, Za1, hz, rev1, len1 hx, g3, gt0, max0 hx rfl, sl_pre hx rfl, ap_pre hx, Option.bind_some]
   cases n == 0 <;> cases zeroV v <;> cases hb : b == 3 <;> simp_all
 ·rcases rs with _ | ⟨b, r⟩
  ·simp [Zaf, Zar, Z4, Za1, hz, wm1, appT, maxL, slI]
   cases n == 0 <;> cases zeroV v <;> simp
  ·have hx : r.reverse.length ≤ 2097152 := by simp at hr ⊢; omega
   simp only [Zaf, Zar, Z4, Za1, hz, rev1, len1 hx, g3, gt0, max0 hx rfl, sl_pre hx rfl, ap_pre hx, Option.bind_some]
   cases n == 0 <;> cases zeroV v <;> simp
 ·obtain ⟨h1, h2, h3, h4, h5, h6, h7, h8⟩ := hk
  have b1 : (k == 1) = false := by simp [h1]
  have b2 : (k == 2) = false := by simp [h2]
  have b3 : (k == 3) = false := by simp [h3]
  have b4 : (k == 4) = false := by simp [h4]
  have b5 : (k == 5) = false := by simp [h5]
  have b6 : (k == 6) = false := by simp [h6]
  have b7 : (k == 7) = false := by simp [h7]
  have b8 : (k == 8) = false := by simp [h8]
  simp only [Zaf, h1, h2, h3, h4, h5, h6, h7, h8, if_false, or_self, Zar, Z4, Za1, b1, b2, b3, b4, b5, b6, b7, b8, hz]
  cases zeroV v <;> cases n == 0 <;> simp
end Go.D
set_option linter.unusedVariables false
namespace Go.D
def exprKind (cs : List Zf) (ps : List Zc) : Int := bif colsOk cs && decide (ps.length ≤ 12) then exprRun cs ps [] else -1
theorem gt12 {α : Type} (xs : List α) : decide ((xs.length : Int) > 12) = !(decide (xs.length ≤ 12)) := by
 by_cases h : xs.length ≤ 12
 ·have : ¬ (xs.length : Int) > 12 := by omega
  simp [h, this]
 ·have : (xs.length : Int) > 12 := by omega
  simp [h, this]
theorem fin_run (st : List Int) (cs : List Zf) : (bif !((st.length : Int) == 1) then some (-1) else (getI st 0).bind fun v => some v) = some (exprRun cs [] st.reverse) := by
 match st with
 | [] => rfl
 | [k] => rfl
 | a :: b :: r =>
  have e : (((a :: b :: r).length : Int) == 1) = false := by
   simp only [beq_eq_false_iff_ne, ne_eq, List.length_cons]
   omega
  rw [e]
  unfold exprRun
  split
  ·next k hk =>
   have := congrArg List.length hk
   simp at this
  ·rfl
theorem spec_exprKind {cs : List Zf} {ps : List Zc} (hc : Sm cs.length) (hl : ps.length ≤ 2097152) (hp : ∀ p ∈ ps, SmP p) : spec_ExprKind cs ps = some (exprKind cs ps) := by
 unfold spec_ExprKind exprKind
 rw [spec_colsOk hc, Option.bind_some, gt12]
 cases colsOk cs
 ·rfl
 cases h12 : decide (ps.length ≤ 12)
 ·rfl
 have h12 : ps.length ≤ 12 := of_decide_eq_true h12
 simp only [Bool.not_true, cond_false, Bool.true_and, cond_true, spec_ExprKind_j0]
 have := loop_rec (xs := ps) (L := fun f i (s : Bool × List Int) => Za8 cs ps f s.1 i s.2) (fun ps s => bif s.1 then exprRun cs ps s.2.reverse else -1) (fun i s => s.1 = true → s.2.length ≤ i) (by omega)
  (fun f i s v rest hi hv hw hI => by
   obtain ⟨ok, st⟩ := s
   have hlt : (i : Int) < ps.length := by omega
   cases ok with
   | false =>
    refine .inl ?_
    simp only [Za8, hlt, decide_true, cond_true, spec_ExprKind_j2, cond_false, Bool.not_false, spec_ExprKind_j3]
   | true =>
    have hst := hI rfl
    have hs : SpecStep cs st.reverse v := spec_step hc (by simp; simp only at hst; omega) (hp v (List.mem_of_getElem? hv))
    unfold SpecStep at hs
    simp only [List.reverse_reverse] at hs
    refine .inr ?_
    cases he : Zaf cs st.reverse v with
    | none =>
     rw [he] at hs
     obtain ⟨s', hs⟩ := hs
     refine ⟨(false, s'), (fun h => by cases h), ?_, ?_⟩
     ·simp only [Za8, hlt, decide_true, cond_true, spec_ExprKind_j2, Zai, hv, Option.bind_some, hs, hw]
     ·simp only [cond_true, cond_false, exprRun, he]
    | some rs' =>
     rw [he] at hs
     have hs : Zar cs st v = some (rs'.reverse, true) := hs
     refine ⟨(true, rs'.reverse), fun _ => ?_, ?_, ?_⟩
     ·have := exprStep_len he
      simp only [List.length_reverse] at this ⊢
      simp only at hst
      omega
     ·simp only [Za8, hlt, decide_true, cond_true, spec_ExprKind_j2, Zai, hv, Option.bind_some, hs, hw]
     ·simp only [cond_true, exprRun, he, List.reverse_reverse])
  (fun f s hI => by
   obtain ⟨ok, st⟩ := s
   simp only [Za8, Int.lt_irrefl, decide_false, cond_false, spec_ExprKind_j2]
   cases ok with
   | false => rfl
   | true =>
    simp only [Bool.not_true, cond_false, spec_ExprKind_j3, cond_true]
    exact fin_run st cs) (s := (true, [])) (fun _ => by simp)
 exact this
theorem impl_allk (k : Int) {xs : List Int} (h : xs.length ≤ 2097152) : impl_Part_kind_1 k xs = some (xs.all (· == k)) := by
 unfold impl_Part_kind_1 Za4 slices_IndexFunc_int_int
 obtain ⟨r, h1, h2⟩ := loop_find (xs := xs) (L := Zab xs (fun z0 => impl_Part_kind_1_1 z0 k)) (p := fun z => !(z == k)) (by omega) (fun f i v hi hv hw => by
  have : (i : Int) < xs.length := by omega
  simp only [Zab, this, decide_true, cond_true, Zai, hv, Option.bind_some, impl_Part_kind_1_1, hw]) (fun f => by
  simp only [Zab, Int.lt_irrefl, decide_false, cond_false])
 rw [h1, Option.bind_some, Option.bind_some, h2, not_any_not]
def ImplStep (cs : List Zf) (rs : List Int) (p : Zc) (x4 : Int) (K : Int → List Int → Option Int) : Prop :=
 ((Zv p).bind fun v11 => (Z8 p cs).bind fun v24 => bif (!v24) then Z2 cs x4 rs.reverse K p v11 true else Z2 cs x4 rs.reverse K p v11 ((decide (((rs.reverse.length : Int)) < v11)))) =
  match Zaf cs rs p with
  | none => some (-1)
  | some rs' => K (w64 (x4 + 1)) rs'.reverse
theorem pre_all {xs : List Int} (h : xs.length ≤ 2097152) : slI xs none (some (w64 ((xs.length : Int) - 0))) none = some xs := by
 rw [len0 h]
 have := sl_pre (ys := []) h rfl
 rwa [List.append_nil] at this
theorem post_all {xs : List Int} (h : xs.length ≤ 2097152) : slI xs (some (w64 ((xs.length : Int) - 0))) none none = some [] := by
 rw [len0 h]
 have := sl_post (ys := []) h rfl
 rwa [List.append_nil] at this
theorem ap_full {xs : List Int} (h : xs.length ≤ 2097152) (k : Int) : appT xs [k] xs.length = some (xs ++ [k]) := by
 have := ap_pre (ys := []) h k
 rwa [List.append_nil] at this
theorem get0 (a b : Int) : getI [a, b] 0 = some a := rfl
theorem get1 (a b : Int) : getI [a, b] 1 = some b := rfl
theorem eq_comm_b (a b : Int) : (a == b) = (b == a) := by
 rw [Bool.eq_iff_iff, beq_iff_eq, beq_iff_eq]
 exact eq_comm
theorem impl_step {cs : List Zf} {rs : List Int} {p : Zc} {x4 : Int} {K : Int → List Int → Option Int} (hc : Sm cs.length) (hr : rs.length ≤ 2000000) (hp : SmP p) : ImplStep cs rs p x4 K := by
 obtain ⟨k, n, v⟩ := p
 have hv : Zbf v = some (valOk v) := impl_value hp
 have hz : Zz v ((Za.mk 0 0 (ByteArray.mk #[]))) = zeroV v := rfl
 have hw : w64 ((cs.length : Int) - 1) = (cs.length : Int) - 1 := w64_of (by omega) (by omega)
 have hxr : rs.reverse.length ≤ 2097152 := by simp; omega
 unfold ImplStep
 rcases kind_cases k with rfl | rfl | rfl | rfl | rfl | rfl | rfl | rfl | hk
 ·simp only [Zaf, Zv, Zo, Zt, Z8, Zw, Z2, hv, hz, hw, impl_in, Zac, Option.bind_some]
  cases n == 0 <;> cases valOk v <;> cases v.fKind == 0 <;> simp [-List.length_reverse, -Int.sub_zero, -List.length_append, -List.length_cons, -List.length_nil, lt0, post_all hxr, pre_all hxr, ap_full hxr]
 ·simp only [Zaf, Zv, Zo, Zt, Z8, Zw, Z2, hv, hz, hw, impl_in, Zac, Option.bind_some]
  cases zeroV v
  ·cases inR n 0 ((cs.length : Int) - 1) <;> simp [-List.length_reverse, -Int.sub_zero, -List.length_append, -List.length_cons, -List.length_nil, lt0, post_all hxr, pre_all hxr, ap_full hxr]
  ·cases hi : inR n 0 ((cs.length : Int) - 1) with
   | false => simp [-List.length_reverse, -Int.sub_zero, -List.length_append, -List.length_cons, -List.length_nil, lt0, post_all hxr, pre_all hxr, ap_full hxr]
   | true =>
    unfold inR at hi
    simp only [Bool.and_eq_true, decide_eq_true_eq] at hi
    obtain ⟨c, h1, h2⟩ := getI_lt (xs := cs) hi.1 (by omega)
    simp [-List.length_reverse, -Int.sub_zero, -List.length_append, -List.length_cons, -List.length_nil, lt0, post_all hxr, pre_all hxr, ap_full hxr, h1]
 ·rcases stack_cases rs with rfl | ⟨b, rfl⟩ | ⟨b, a, r, rfl⟩
  ·simp only [Zaf, Zv, Zo, Zt, Z8, Zw, Z2, hv, hz, hw, impl_in, Zac, Option.bind_some]
   cases n == 0 <;> cases zeroV v <;> simp
  ·simp only [Zaf, Zv, Zo, Zt, Z8, Zw, Z2, hv, hz, hw, impl_in, Zac, Option.bind_some]
   cases n == 0 <;> cases zeroV v <;> simp
  ·have hx : r.reverse.length ≤ 2097152 := by simp at hr ⊢; omega
   have hab : ([a, b] : List Int).length ≤ 2097152 := by simp
   simp only [Zaf, Zv, Zo, Zt, Z8, Zw, Z2, hv, hz, hw, impl_in, Zac, Option.bind_some, rev2]
   cases n == 0 <;> cases zeroV v <;> cases ha : a == 1 <;> cases hb : b == 1 <;> simp [*, -List.length_reverse, -Int.sub_zero, -List.length_append, -List.length_cons, -List.length_nil, lt2, len2 hx, sl_pre hx rfl, sl_post hx rfl, ap_pre hx, impl_allk 1 hab, impl_allk 3 hab, get0, get1]
 ·rcases stack_cases rs with rfl | ⟨b, rfl⟩ | ⟨b, a, r, rfl⟩
  ·simp only [Zaf, Zv, Zo, Zt, Z8, Zw, Z2, hv, hz, hw, impl_in, Zac, Option.bind_some]
   cases inR n 1 4 <;> cases zeroV v <;> simp
  ·simp only [Zaf, Zv, Zo, Zt, Z8, Zw, Z2, hv, hz, hw, impl_in, Zac, Option.bind_some]
   cases inR n 1 4 <;> cases zeroV v <;> simp
  ·have hx : r.reverse.length ≤ 2097152 := by simp at hr ⊢; omega
   have hab : ([a, b] : List Int).length ≤ 2097152 := by simp
   simp only [Zaf, Zv, Zo, Zt, Z8, Zw, Z2, hv, hz, hw, impl_in, Zac, Option.bind_some, rev2]
   cases inR n 1 4 <;> cases zeroV v <;> cases hb : b == a <;> simp [*, -List.length_reverse, -Int.sub_zero, -List.length_append, -List.length_cons, -List.length_nil, lt2, len2 hx, sl_pre hx rfl, sl_post hx rfl, ap_pre hx, impl_allk 1 hab, impl_allk 3 hab, get0, get1, eq_comm_b a b]
 ·rcases stack_cases rs with rfl | ⟨b, rfl⟩ | ⟨b, a, r, rfl⟩
  ·simp only [Zaf, Zv, Zo, Zt, Z8, Zw, Z2, hv, hz, hw, impl_in, Zac, Option.bind_some]
   cases n == 0 <;> cases zeroV v <;> simp
  ·simp only [Zaf, Zv, Zo, Zt, Z8, Zw, Z2, hv, hz, hw, impl_in, Zac, Option.bind_some]
   cases n == 0 <;> cases zeroV v <;> simp
  ·have hx : r.reverse.length ≤ 2097152 := by simp at hr ⊢; omega
   have hab : ([a, b] : List Int).length ≤ 2097152 := by simp
   simp only [Zaf, Zv, Zo, Zt, Z8, Zw, Z2, hv, hz, hw, impl_in, Zac, Option.bind_some, rev2]
   cases n == 0 <;> cases zeroV v <;> cases ha : a == 3 <;> cases hb : b == 3 <;> simp [*, -List.length_reverse, -Int.sub_zero, -List.length_append, -List.length_cons, -List.length_nil, lt2, len2 hx, sl_pre hx rfl, sl_post hx rfl, ap_pre hx, impl_allk 1 hab, impl_allk 3 hab, get0, get1]
 ·rcases stack_cases rs with rfl | ⟨b, rfl⟩ | ⟨b, a, r, rfl⟩
  ·simp only [Zaf, Zv, Zo, Zt, Z8, Zw, Z2, hv, hz, hw, impl_in, Zac, Option.bind_some]
   cases n == 0 <;> cases zeroV v <;> simp
  ·simp only [Zaf, Zv, Zo, Zt, Z8, Zw, Z2, hv, hz, hw, impl_in, Zac, Option.bind_some]
   cases n == 0 <;> cases zeroV v <;> simp
  ·have hx : r.reverse.length ≤ 2097152 := by simp at hr ⊢; omega
   have hab : ([a, b] : List Int).length ≤ 2097152 := by simp
   simp only [Zaf, Zv, Zo, Zt, Z8, Zw, Z2, hv, hz, hw, impl_in, Zac, Option.bind_some, rev2]
   cases n == 0 <;> cases zeroV v <;> cases ha : a == 3 <;> cases hb : b == 3 <;> simp [*, -List.length_reverse, -Int.sub_zero, -List.length_append, -List.length_cons, -List.length_nil, lt2, len2 hx, sl_pre hx rfl, sl_post hx rfl, ap_pre hx, impl_allk 1 hab, impl_allk 3 hab, get0, get1]
 ·rcases rs with _ | ⟨b, r⟩
  ·simp only [Zaf, Zv, Zo, Zt, Z8, Zw, Z2, hv, hz, hw, impl_in, Zac, Option.bind_some]
   cases n == 0 <;> cases zeroV v <;> simp
  ·have hx : r.reverse.length ≤ 2097152 := by simp at hr ⊢; omega
   have hab : ([b] : List Int).length ≤ 2097152 := by simp
   simp only [Zaf, Zv, Zo, Zt, Z8, Zw, Z2, hv, hz, hw, impl_in, Zac, Option.bind_some, rev1]
   cases n == 0 <;> cases zeroV v <;> cases hb : b == 3 <;> simp [*, -List.length_reverse, -Int.sub_zero, -List.length_append, -List.length_cons, -List.length_nil, lt1, len1 hx, sl_pre hx rfl, sl_post hx rfl, ap_pre hx, impl_allk 3 hab]
 ·rcases rs with _ | ⟨b, r⟩
  ·simp only [Zaf, Zv, Zo, Zt, Z8, Zw, Z2, hv, hz, hw, impl_in, Zac, Option.bind_some]
   cases n == 0 <;> cases zeroV v <;> simp
  ·have hx : r.reverse.length ≤ 2097152 := by simp at hr ⊢; omega
   have hab : ([b] : List Int).length ≤ 2097152 := by simp
   simp only [Zaf, Zv, Zo, Zt, Z8, Zw, Z2, hv, hz, hw, impl_in, Zac, Option.bind_some, rev1]
   cases n == 0 <;> cases zeroV v <;> cases hb : b == 3 <;> simp [*, -List.length_reverse, -Int.sub_zero, -List.length_append, -List.length_cons, -List.length_nil, lt1, len1 hx, sl_pre hx rfl, sl_post hx rfl, ap_pre hx, impl_allk 3 hab]
 ·obtain ⟨h1, h2, h3, h4, h5, h6, h7, h8⟩ := hk
  have b1 : (k == 1) = false := by simp [h1]
  have b2 : (k == 2) = false := by simp [h2]
  have b3 : (k == 3) = false := by simp [h3]
  have b4 : (k == 4) = false := by simp [h4]
  have b5 : (k == 5) = false := by simp [h5]
  have b6 : (k == 6) = false := by simp [h6]
  have b7 : (k == 7) = false := by simp [h7]
  have b8 : (k == 8) = false := by simp [h8]
  simp only [h1, h2, h3, h4, h5, h6, h7, h8, if_false, or_self, b1, b2, b3, b4, b5, b6, b7, b8, Zaf, Zv, Zo, Zt, Z8, Zw, Z2, hv, hz, hw, impl_in, Zac, Option.bind_some]
  rfl
theorem impl_exprKind {cs : List Zf} {ps : List Zc} (hc : Sm cs.length) (hl : ps.length ≤ 2097152) (hp : ∀ p ∈ ps, SmP p) : impl_ExprKind cs ps = some (exprKind cs ps) := by
 unfold impl_ExprKind exprKind
 rw [impl_colsOk hc, Option.bind_some, gt12]
 cases colsOk cs
 ·rfl
 cases h12 : decide (ps.length ≤ 12)
 ·rfl
 have h12 : ps.length ≤ 12 := of_decide_eq_true h12
 simp only [Bool.not_true, cond_false, Bool.true_and, cond_true, impl_ExprKind_j0]
 have := loop_rec (xs := ps) (L := fun f i (s : List Int) => Za3 cs ps f i s) (fun ps s => exprRun cs ps s.reverse) (fun i s => s.length ≤ i) (by omega)
  (fun f i st v rest hi hv hw hI => by
   have hlt : (i : Int) < ps.length := by omega
   have hs : ImplStep cs st.reverse v i (Za3 cs ps f) := impl_step hc (by simp; omega) (hp v (List.mem_of_getElem? hv))
   unfold ImplStep at hs
   rw [List.reverse_reverse, hw] at hs
   have e : Za3 cs ps (f + 1) i st = match Zaf cs st.reverse v with
    | none => some (-1)
    | some rs' => Za3 cs ps f ((i + 1 : Nat) : Int) rs'.reverse := by
    rw [← hs]
    simp only [Za3, hlt, decide_true, cond_true, Zai, hv, Option.bind_some]
   cases he : Zaf cs st.reverse v with
   | none =>
    refine .inl ?_
    rw [he] at e
    simp only [exprRun, he]
    exact e
   | some rs' =>
    rw [he] at e
    refine .inr ⟨rs'.reverse, ?_, e, ?_⟩
    ·have := exprStep_len he
     simp only [List.length_reverse] at this ⊢
     omega
    ·simp only [exprRun, he, List.reverse_reverse])
  (fun f st hI => by
   simp only [Za3, Int.lt_irrefl, decide_false, cond_false]
   exact fin_run st cs) (s := []) (by simp)
 exact this
end Go.D
set_option linter.unusedVariables false
namespace Go.D
theorem bifSome {α : Type} {c : Bool} {a : Option α} {y : α} (h : (bif c then a else none) = some y) : c = true ∧ a = some y := by
 cases c with
 | false => cases h
 | true => exact ⟨rfl, h⟩
theorem loop_opt {α σ β : Type} {xs : List α} {L : Nat → Int → σ → Option β} (R : List α → σ → Option β) (Inv : Nat → σ → Prop) (hlen : xs.length ≤ 70368744177662)
  (h : ∀ (f i : Nat) (s : σ) (v : α), i < xs.length → xs[i]? = some v → w64 ((i : Int) + 1) = ((i + 1 : Nat) : Int) → Inv i s →
   L (f + 1) i s = R (v :: xs.drop (i + 1)) s ∨ ∃ s', Inv (i + 1) s' ∧ L (f + 1) i s = L f ((i + 1 : Nat) : Int) s' ∧ R (v :: xs.drop (i + 1)) s = R (xs.drop (i + 1)) s')
  (he : ∀ f s, Inv xs.length s → L (f + 1) (xs.length : Int) s = R [] s) {s : σ} (h0 : Inv 0 s) : L FUEL 0 s = R xs s := by
 have main : ∀ (k f i : Nat) (s : σ), i + k = xs.length → k < f → Inv i s → L f (i : Int) s = R (xs.drop i) s := by
  intro k
  induction k with
  | zero =>
   intro f i s hi hf hI
   obtain ⟨f, rfl⟩ : ∃ f', f = f' + 1 := ⟨f - 1, by omega⟩
   have : i = xs.length := by omega
   subst this
   rw [he _ _ hI, List.drop_length]
  | succ k ih =>
   intro f i s hi hf hI
   obtain ⟨f, rfl⟩ : ∃ f', f = f' + 1 := ⟨f - 1, by omega⟩
   have hlt : i < xs.length := by omega
   rw [List.drop_eq_getElem_cons hlt]
   rcases h f i s xs[i] hlt (List.getElem?_eq_getElem hlt) (succ_w hlt (by omega)) hI with h1 | ⟨s', h1, h2, h3⟩
   ·exact h1
   ·rw [h2, h3]
    exact ih f (i + 1) s' (by omega) (by omega) h1
 have := main xs.length FUEL 0 s (by omega) (by unfold FUEL; omega) h0
 simpa using this
end Go.D
set_option linter.unusedVariables false
namespace Go.D
def lstOk (n : Nat) (xs : List Int) : Bool := xs.all (fun x => inR x 0 ((n : Int) - 1)) && inR (xs.length : Int) 1 4
theorem wlen {n : Nat} (h : Sm n) : w64 ((n : Int) - 1) = (n : Int) - 1 := w64_of (by omega) (by omega)
theorem spec_lst {cs : List Zf} {xs : List Int} (hc : Sm cs.length) (hx : Sm xs.length) : spec_l12Columns cs xs = some (lstOk cs.length xs) := by
 unfold spec_l12Columns lstOk
 refine loop_all (by omega) (fun f i v hi hv hw => ?_) (fun f => ?_)
 ·have : (i : Int) < xs.length := by omega
  simp only [spec_l12Columns_l0, this, decide_true, cond_true, Zai, hv, Option.bind_some, spec_in, wlen hc, hw]
  cases inR v 0 ((cs.length : Int) - 1) <;> rfl
 ·simp only [spec_l12Columns_l0, Int.lt_irrefl, decide_false, cond_false, spec_in, Option.bind_some]
theorem impl_lst {t : Ze} {xs : List Int} (hc : Sm t.fColumns.length) (hx : Sm xs.length) : impl_listOk t xs = some (lstOk t.fColumns.length xs) := by
 unfold impl_listOk lstOk Za4 slices_IndexFunc_int_int
 obtain ⟨r, h1, h2⟩ := loop_find (xs := xs) (L := Zab xs (fun z0 => impl_listOk_1 z0 t)) (p := fun z => !(inR z 0 ((t.fColumns.length : Int) - 1))) (by omega) (fun f i v hi hv hw => by
  have : (i : Int) < xs.length := by omega
  simp only [Zab, this, decide_true, cond_true, Zai, hv, Option.bind_some, impl_listOk_1, impl_in, wlen hc, hw]) (fun f => by
  simp only [Zab, Int.lt_irrefl, decide_false, cond_false])
 rw [impl_in, Option.bind_some, h1, Option.bind_some, Option.bind_some, h2, not_any_not]
 cases inR (xs.length : Int) 1 4 <;> simp
theorem lst_get {n : Nat} {cs : List Zf} {xs : List Int} (h : lstOk n xs = true) (hn : cs.length = n) {x : Int} (hx : x ∈ xs) : ∃ c, getI cs x = some c := by
 unfold lstOk at h
 simp only [Bool.and_eq_true, List.all_eq_true] at h
 have := h.1 x hx
 unfold inR at this
 simp only [Bool.and_eq_true, decide_eq_true_eq] at this
 obtain ⟨c, h1, _⟩ := getI_lt (xs := cs) this.1 (by omega)
 exact ⟨c, h1⟩
def kindEq (t u : Ze) (p : Int × Int) : Bool := match getI t.fColumns p.1, getI u.fColumns p.2 with
 | some c, some d => c.fKind == d.fKind
 | _, _ => false
structure SmB (b : Zb) : Prop where
 l : Sm b.fList.length
 t : Sm b.fTo.length
 e : Sm b.fE.length
 p : ∀ p ∈ b.fE, SmP p
theorem l2_same (ts : List Ze) (b : Zb) (t : Ze) : ∀ f i, spec_BondOk_l2 ts b t f i = impl_bondOk_l2 ts b t f i := by
 intro f
 induction f with
 | zero => intro i; rfl
 | succ f ih =>
  intro i
  unfold spec_BondOk_l2 impl_bondOk_l2
  simp only [ih]
theorem spec_l2 {ts : List Ze} {b : Zb} {t u : Ze} (hb : SmB b) (hu : getI ts b.fOf = some u) (h1 : lstOk t.fColumns.length b.fList = true) (h2 : lstOk u.fColumns.length b.fTo = true) (hl : b.fList.length = b.fTo.length) :
  spec_BondOk_l2 ts b t FUEL 0 = some ((b.fList.zip b.fTo).all (kindEq t u)) := by
 have hs := hb.l
 have hz : (b.fList.zip b.fTo).length = b.fList.length := by simp [hl]
 rw [show (b.fList.zip b.fTo).all (kindEq t u) = ((b.fList.zip b.fTo).all (kindEq t u) && true) by simp]
 refine loop_all (xs := b.fList.zip b.fTo) (by omega) (fun f i p hi hp hw => ?_) (fun f => ?_)
 ·obtain ⟨p1, p2⟩ := zip_get hl hp
  have : (i : Int) < b.fList.length := by omega
  obtain ⟨c, hc⟩ := lst_get h1 rfl (List.mem_of_getElem? p1)
  obtain ⟨d, hd⟩ := lst_get h2 rfl (List.mem_of_getElem? p2)
  simp only [spec_BondOk_l2, this, decide_true, cond_true, Zai, p1, p2, Option.bind_some, hc, hd, hu, hw, kindEq]
  cases c.fKind == d.fKind <;> rfl
 ·rw [hz]
  simp only [spec_BondOk_l2, Int.lt_irrefl, decide_false, cond_false]
def bondOkT (ts : List Ze) (b : Zb) (t : Ze) : Bool :=
 bif b.fKind == 1 then lstOk t.fColumns.length b.fList && ((b.fOf == 0 && ((b.fTo.length : Int) == 0 && !b.fFollow)) && (b.fE.length : Int) == 0)
 else bif b.fKind == 3 then exprKind t.fColumns b.fE == 3 && ((b.fOf == 0 && ((b.fTo.length : Int) == 0 && !b.fFollow)) && (b.fList.length : Int) == 0)
 else bif b.fKind == 2 then inR b.fOf 0 ((ts.length : Int) - 1) && (match getI ts b.fOf with
  | some u => !(decide ((b.fE.length : Int) > 0)) && (lstOk t.fColumns.length b.fList && (lstOk u.fColumns.length b.fTo && ((b.fList.length : Int) == (b.fTo.length : Int) && (b.fList.zip b.fTo).all (kindEq t u))))
  | none => false)
 else false
def bondOk (ts : List Ze) (b : Zb) : Bool := tabsOk ts && (inR b.fIn 0 ((ts.length : Int) - 1) && (match getI ts b.fIn with
  | some t => bondOkT ts b t
  | none => false))
theorem eq_len {m n : Nat} : (((m : Nat) : Int) == (n : Int)) = true → m = n := fun h => by
 have := eq_of_beq h
 omega
theorem spec_bondT {ts : List Ze} {b : Zb} {t : Ze} (hts : SmTs ts) (hb : SmB b) (ht : SmT t) (hg : getI ts b.fIn = some t) : spec_BondOk_j0 ts b false = some (bondOkT ts b t) := by
 unfold spec_BondOk_j0 bondOkT
 simp only [cond_false, hg, Option.bind_some, spec_lst ht.1 hb.l, spec_exprKind ht.1 hb.e hb.p, spec_in, wlen hts.1]
 cases b.fKind == 1
 ·cases b.fKind == 3
  ·cases b.fKind == 2
   ·rfl
   ·simp only [cond_true, cond_false]
    cases hi : inR b.fOf 0 ((ts.length : Int) - 1) with
    | false => rfl
    | true =>
     have hi' := hi
     unfold inR at hi'
     simp only [Bool.and_eq_true, decide_eq_true_eq] at hi'
     obtain ⟨u, hu, hu2⟩ := getI_lt (xs := ts) hi'.1 (by omega)
     have hut := hts.2 u (List.mem_of_getElem? hu2)
     simp only [hu, Option.bind_some, spec_lst hut.1 hb.t, Bool.not_true, cond_false, Bool.true_and, spec_BondOk_j1]
     cases h1 : lstOk t.fColumns.length b.fList with
     | false => simp
     | true =>
      cases h2 : lstOk u.fColumns.length b.fTo with
      | false => simp
      | true =>
       cases hl : ((b.fList.length : Int) == (b.fTo.length : Int)) with
       | false => simp
       | true =>
        rw [spec_l2 hb hu h1 h2 (eq_len hl)]
        cases decide ((b.fE.length : Int) > 0) <;> simp
  ·cases exprKind t.fColumns b.fE == 3 <;> cases b.fOf == 0 <;> cases (b.fTo.length : Int) == 0 <;> cases b.fFollow <;> cases (b.fList.length : Int) == 0 <;> rfl
 ·cases lstOk t.fColumns.length b.fList <;> cases b.fOf == 0 <;> cases (b.fTo.length : Int) == 0 <;> cases b.fFollow <;> cases (b.fE.length : Int) == 0 <;> rfl
theorem spec_bond {ts : List Ze} {b : Zb} (hts : SmTs ts) (hb : SmB b) : spec_BondOk ts b = some (bondOk ts b) := by
 unfold spec_BondOk bondOk
 rw [spec_tabsOk hts, Option.bind_some, spec_in, Option.bind_some, wlen hts.1]
 cases tabsOk ts with
 | false => rfl
 | true =>
  cases hi : inR b.fIn 0 ((ts.length : Int) - 1) with
  | false => rfl
  | true =>
   have hi' := hi
   unfold inR at hi'
   simp only [Bool.and_eq_true, decide_eq_true_eq] at hi'
   obtain ⟨t, hu, hu2⟩ := getI_lt (xs := ts) hi'.1 (by omega)
   have := spec_bondT hts hb (hts.2 t (List.mem_of_getElem? hu2)) hu
   simp only [Bool.not_true, cond_false, this, hu, Bool.true_and]
theorem impl_bondT {ts : List Ze} {b : Zb} {t : Ze} (hts : SmTs ts) (hb : SmB b) (ht : SmT t) : impl_bondOk_j0 ts b t (b.fOf == 0 && ((b.fTo.length : Int) == 0 && !b.fFollow)) = some (bondOkT ts b t) := by
 unfold impl_bondOk_j0 bondOkT
 simp only [impl_lst ht.1 hb.l, impl_exprKind ht.1 hb.e hb.p, impl_in, wlen hts.1, Option.bind_some]
 cases b.fKind == 1
 ·cases b.fKind == 3
  ·cases b.fKind == 2
   ·rfl
   ·simp only [cond_true, cond_false]
    cases hi : inR b.fOf 0 ((ts.length : Int) - 1) with
    | false => rfl
    | true =>
     have hi' := hi
     unfold inR at hi'
     simp only [Bool.and_eq_true, decide_eq_true_eq] at hi'
     obtain ⟨u, hu, hu2⟩ := getI_lt (xs := ts) hi'.1 (by omega)
     have hut := hts.2 u (List.mem_of_getElem? hu2)
     simp only [hu, Option.bind_some, impl_lst hut.1 hb.t, Bool.not_true, cond_false, Bool.true_and, impl_bondOk_j1]
     cases decide ((b.fE.length : Int) > 0) with
     | true => rfl
     | false =>
     cases h1 : lstOk t.fColumns.length b.fList with
     | false => simp
     | true =>
      cases h2 : lstOk u.fColumns.length b.fTo with
      | false => simp
      | true =>
       rw [show ((b.fTo.length : Int) == (b.fList.length : Int)) = ((b.fList.length : Int) == (b.fTo.length : Int)) from eq_comm_b _ _]
       cases hl : ((b.fList.length : Int) == (b.fTo.length : Int)) with
       | false => simp
       | true =>
        rw [← l2_same, spec_l2 hb hu h1 h2 (eq_len hl)]
        simp
  ·cases exprKind t.fColumns b.fE == 3 <;> cases (b.fOf == 0 && ((b.fTo.length : Int) == 0 && !b.fFollow)) <;> cases (b.fList.length : Int) == 0 <;> rfl
 ·cases lstOk t.fColumns.length b.fList <;> cases (b.fOf == 0 && ((b.fTo.length : Int) == 0 && !b.fFollow)) <;> cases (b.fE.length : Int) == 0 <;> rfl
theorem impl_bond {ts : List Ze} {b : Zb} (hts : SmTs ts) (hb : SmB b) (hok : tabsOk ts = true) : impl_bondOk ts b = some (bondOk ts b) := by
 unfold impl_bondOk bondOk
 rw [impl_in, Option.bind_some, wlen hts.1, hok]
 cases hi : inR b.fIn 0 ((ts.length : Int) - 1) with
 | false => rfl
 | true =>
  have hi' := hi
  unfold inR at hi'
  simp only [Bool.and_eq_true, decide_eq_true_eq] at hi'
  obtain ⟨t, hu, hu2⟩ := getI_lt (xs := ts) hi'.1 (by omega)
  have := impl_bondT hts hb (hts.2 t (List.mem_of_getElem? hu2))
  simp only [Bool.not_true, cond_false, hu, Option.bind_some, Bool.true_and]
  rw [← this]
  cases b.fOf == 0 <;> cases (b.fTo.length : Int) == 0 <;> rfl
def SmBs (bs : List Zb) : Prop := Sm bs.length ∧ ∀ b ∈ bs, SmB b
theorem impl_bonds {ts : List Ze} {bs : List Zb} (hts : SmTs ts) (hb : SmBs bs) : impl_bondsOk ts bs = some (tabsOk ts && bs.all (bondOk ts)) := by
 unfold impl_bondsOk Zae Zas
 have hl := hb.1
 rw [impl_tabsOk hts, Option.bind_some]
 cases hok : tabsOk ts with
 | false => rfl
 | true =>
  obtain ⟨r, h1, h2⟩ := loop_find (xs := bs) (L := Zx bs (fun z0 => impl_bondsOk_1 z0 ts)) (p := fun b => !(bondOk ts b)) (by omega) (fun f i v hi hv hw => by
   have : (i : Int) < bs.length := by omega
   simp only [Zx, this, decide_true, cond_true, Zai, hv, Option.bind_some, impl_bondsOk_1, impl_bond hts (hb.2 v (List.mem_of_getElem? hv)) hok, hw]) (fun f => by
   simp only [Zx, Int.lt_irrefl, decide_false, cond_false])
  rw [cond_true, h1, Option.bind_some, Option.bind_some, h2, not_any_not, Bool.true_and]
end Go.D
set_option linter.unusedVariables false
namespace Go.D
end Go.D
set_option linter.unusedVariables false
namespace Go.D
end Go.D
set_option linter.unusedVariables false
namespace Go.D
theorem inR_get {α : Type} {xs : List α} {n : Int} (h : inR n 0 ((xs.length : Int) - 1) = true) : ∃ x, getI xs n = some x ∧ x ∈ xs := by
 unfold inR at h
 simp only [Bool.and_eq_true, decide_eq_true_eq] at h
 obtain ⟨x, h1, h2⟩ := getI_lt (xs := xs) h.1 (by omega)
 exact ⟨x, h1, List.mem_of_getElem? h2⟩
end Go.D
set_option linter.unusedVariables false
namespace Go.D
end Go.D
set_option linter.unusedVariables false
namespace Go.D
end Go.D
set_option linter.unusedVariables false
namespace Go.D
end Go.D
set_option linter.unusedVariables false
namespace Go.D
def N0 : Za := Za.mk 0 0 (ByteArray.mk #[])
def sumV (a b : Za) : Za := bif a.fKind == 0 || (b.fKind == 0 || !(inR (w64 (a.fN + b.fN)) (-9999) 9999)) then N0 else ⟨1, w64 (a.fN + b.fN), ByteArray.mk #[]⟩
theorem spec_sum (a b : Za) : spec_l4Sum a b = some (sumV a b) := by
 unfold spec_l4Sum sumV spec_l4Sum_j0 N0
 simp only [spec_in, Option.bind_some]
 cases a.fKind == 0 <;> cases b.fKind == 0 <;> cases inR (w64 (a.fN + b.fN)) (-9999) 9999 <;> rfl
def cmpI (a b : Int) : Int := if a < b then -1 else if a > b then 1 else 0
def cmpS (a b : ByteArray) : Int := bif Op.bytesLess a.toList b.toList then -1 else bif !Op.bytesLess a.toList b.toList && !(a.toList == b.toList) then 1 else 0
def ordV (a b : Za) : Int := if cmpI a.fKind b.fKind ≠ 0 then cmpI a.fKind b.fKind else if cmpI a.fN b.fN ≠ 0 then cmpI a.fN b.fN else cmpS a.fS b.fS
theorem impl_cmpI (a b : Int) : cmp_Compare_int a b = some (cmpI a b) := by
 unfold cmp_Compare_int cmp_isNaN_int cmpI
 simp only [beq_self_eq_true, Bool.not_true, Option.bind_some, cond_false]
 by_cases h : a < b
 ·simp [h]
 ·by_cases h2 : a > b
  ·simp [h, h2]
  ·simp [h, h2]
theorem impl_cmpS (a b : ByteArray) : cmp_Compare_string a b = some (cmpS a b) := by
 unfold cmp_Compare_string cmp_isNaN_string cmpS
 simp only [beq_self_eq_true, Bool.not_true, Option.bind_some, cond_false]
 cases Op.bytesLess a.toList b.toList <;> cases a.toList == b.toList <;> rfl
theorem fuel4 : ∃ F, FUEL = F + 1 + 1 + 1 + 1 := by
 have h : 4 ≤ FUEL := by unfold FUEL; omega
 exact ⟨FUEL - 4, by omega⟩
theorem impl_or3 (a b c : Int) : cmp_Or_int [a, b, c] = some (if a ≠ 0 then a else if b ≠ 0 then b else c) := by
 obtain ⟨F, hF⟩ := fuel4
 unfold cmp_Or_int
 rw [hF]
 have w3 : w64 (0 + 1) = 1 := w64_of (by omega) (by omega)
 have w4 : w64 (1 + 1) = 2 := w64_of (by omega) (by omega)
 have w5 : w64 (2 + 1) = 3 := w64_of (by omega) (by omega)
 have i0 : getI [a, b, c] 0 = some a := rfl
 have i1 : getI [a, b, c] 1 = some b := rfl
 have i2 : getI [a, b, c] 2 = some c := rfl
 have l0 : decide ((0 : Int) < (([a, b, c] : List Int).length : Int)) = true := rfl
 have l1 : decide ((1 : Int) < (([a, b, c] : List Int).length : Int)) = true := rfl
 have l2 : decide ((2 : Int) < (([a, b, c] : List Int).length : Int)) = true := rfl
 have l3 : decide ((3 : Int) < (([a, b, c] : List Int).length : Int)) = false := rfl
 rw [cmp_Or_int_l0, l0, cond_true, i0, Option.bind_some, w3, cmp_Or_int_l0, l1, cond_true, i1, Option.bind_some, w4, cmp_Or_int_l0, l2, cond_true, i2, Option.bind_some, w5, cmp_Or_int_l0, l3, cond_false]
 have bf : ∀ {x : Int}, ¬ x = 0 → (x == 0) = false := fun h => by simp [h]
 by_cases ha : a = 0
 ·subst ha
  by_cases hb : b = 0
  ·subst hb
   by_cases hc : c = 0
   ·subst hc
    rfl
   ·rw [bf hc]
    simp
  ·rw [bf hb]
   simp [hb]
 ·rw [bf ha]
  simp [ha]
theorem impl_ord (a b : Za) : impl_Value_order a b = some (ordV a b) := by
 unfold impl_Value_order
 simp only [impl_cmpI, impl_cmpS, impl_or3, Option.bind_some, ordV]
theorem spec_less (a b : Int) : (bif !(a == b) then (spec_l1Less b a).bind fun v => some (w64 (w64 (2 * v) - 1)) else none) = (if a = b then none else some (cmpI a b)) := by
 have w1 : w64 (w64 (2 * 1) - 1) = 1 := by rw [w64_of (n := 2 * 1) (by omega) (by omega), w64_of] <;> omega
 have w0 : w64 (w64 (2 * 0) - 1) = -1 := by rw [w64_of (n := 2 * 0) (by omega) (by omega), w64_of] <;> omega
 unfold spec_l1Less cmpI
 by_cases h : a = b
 ·simp [h]
 ·have e : (a == b) = false := by simp [h]
  rw [e, if_neg h, Bool.not_false, cond_true]
  by_cases h1 : b < a
  ·have : ¬ a < b := by omega
   rw [decide_eq_true h1, cond_true, Option.bind_some, w1, if_neg this, if_pos h1]
  ·have : a < b := by omega
   rw [decide_eq_false h1, cond_false, Option.bind_some, w0, if_pos this]
theorem cmpI_ne {a b : Int} (h : a ≠ b) : cmpI a b ≠ 0 := by
 unfold cmpI
 split
 ·omega
 ·split <;> omega
theorem cmpI_eq (a : Int) : cmpI a a = 0 := by simp [cmpI]
theorem spec_ord {a b : Za} (sa : SmV a) (sb : SmV b) (ha : valOk a = true) (hb : valOk b = true) : spec_ValueOrder a b = some (ordV a b) := by
 unfold spec_ValueOrder
 rw [spec_value sa, Option.bind_some, spec_value sb, Option.bind_some, ha, hb]
 simp only [Bool.not_true, cond_false, spec_ValueOrder_j0]
 have hk := spec_less a.fKind b.fKind
 have hn := spec_less a.fN b.fN
 unfold ordV
 by_cases h1 : a.fKind = b.fKind
 ·rw [if_neg (by rw [h1, cmpI_eq]; simp)]
  by_cases h2 : a.fN = b.fN
  ·rw [if_neg (by rw [h2, cmpI_eq]; simp)]
   simp only [h1, h2, beq_self_eq_true, Bool.not_true, cond_false, spec_l1Cmp, cmpS]
   cases Op.bytesLess a.fS.toList b.fS.toList <;> cases a.fS.toList == b.fS.toList <;> rfl
  ·rw [if_pos (cmpI_ne h2)]
   rw [if_neg h2] at hn
   have e : (a.fN == b.fN) = false := by simp [h2]
   rw [e] at hn ⊢
   simp only [h1, beq_self_eq_true, Bool.not_true, cond_false]
   exact hn
 ·rw [if_pos (cmpI_ne h1)]
  rw [if_neg h1] at hk
  have e : (a.fKind == b.fKind) = false := by simp [h1]
  rw [e] at hk ⊢
  exact hk
def b2i (b : Bool) : Int := bif b then 1 else 0
theorem spec_b2i (b : Bool) : spec_l2Bool b = some (b2i b) := by cases b <;> rfl
theorem impl_b2i (b : Bool) : Zad b = some (b2i b) := by cases b <;> rfl
def cmpV (n : Int) (a b : Za) : Int := bif inR n 1 4 && (valOk a && valOk b) then bif a.fKind == 0 || b.fKind == 0 then 2 else bif !(a.fKind == b.fKind) then -1 else
 bif n == 1 then b2i (ordV a b == 0) else bif n == 2 then b2i (!(ordV a b == 0)) else bif n == 3 then b2i (decide (ordV a b < 0)) else b2i (decide (ordV a b ≤ 0)) else -1
theorem spec_cmp {n : Int} {a b : Za} (sa : SmV a) (sb : SmV b) : spec_Compare n a b = some (cmpV n a b) := by
 unfold spec_Compare cmpV
 rw [spec_in, Option.bind_some, spec_value sa, Option.bind_some, spec_value sb, Option.bind_some]
 cases inR n 1 4
 ·rfl
 cases ha : valOk a
 ·rfl
 cases hb : valOk b
 ·rfl
 simp only [Bool.not_true, cond_false, Bool.and_self, cond_true, spec_Compare_j0, spec_Compare_j1, spec_ord sa sb ha hb, Option.bind_some, spec_b2i]
 cases a.fKind == 0 <;> cases b.fKind == 0 <;> cases a.fKind == b.fKind <;> cases n == 1 <;> cases n == 2 <;> cases n == 3 <;> rfl
theorem in14 {n : Int} (h : inR n 1 4 = true) : n = 1 ∨ n = 2 ∨ n = 3 ∨ n = 4 := by
 unfold inR at h
 simp only [Bool.and_eq_true, decide_eq_true_eq] at h
 omega
theorem impl_cmp {n : Int} {a b : Za} (sa : SmV a) (sb : SmV b) : impl_Compare n a b = some (cmpV n a b) := by
 unfold impl_Compare cmpV
 rw [impl_in, Option.bind_some, impl_value sa, Option.bind_some, impl_value sb, Option.bind_some]
 cases hi : inR n 1 4
 ·rfl
 cases ha : valOk a
 ·rfl
 cases hb : valOk b
 ·rfl
 simp only [Bool.not_true, cond_false, Bool.and_self, cond_true, impl_Compare_j0, impl_Compare_j1, impl_ord, Option.bind_some, impl_b2i]
 rcases in14 hi with rfl | rfl | rfl | rfl
 ·cases a.fKind == 0 <;> cases b.fKind == 0 <;> cases a.fKind == b.fKind <;> cases ordV a b == 0 <;> rfl
 ·cases a.fKind == 0 <;> cases b.fKind == 0 <;> cases a.fKind == b.fKind <;> cases ordV a b == 0 <;> rfl
 ·cases a.fKind == 0 <;> cases b.fKind == 0 <;> cases a.fKind == b.fKind <;> cases decide (ordV a b < 0) <;> rfl
 ·cases a.fKind == 0 <;> cases b.fKind == 0 <;> cases a.fKind == b.fKind <;> cases decide (ordV a b ≤ 0) <;> rfl
def ofV (n : Int) : Za := bif inR n 0 1 then ⟨3, n, ByteArray.mk #[]⟩ else N0
theorem in01 (n : Int) : inR n 0 1 = (n == 0 || n == 1) := by
 rw [Bool.eq_iff_iff]
 unfold inR
 simp only [Bool.and_eq_true, decide_eq_true_eq, Bool.or_eq_true, beq_iff_eq]
 omega
theorem spec_of (n : Int) : spec_ValueOf n = some (ofV n) := by
 unfold spec_ValueOf spec_ValueOf_j0 ofV N0
 rw [in01]
 cases n == 0 <;> cases n == 1 <;> rfl
theorem impl_of (n : Int) : impl_ValueOf n = some (ofV n) := by
 unfold impl_ValueOf ofV N0
 rw [impl_in, Option.bind_some]
 cases inR n 0 1 <;> rfl
theorem ok_kinds {v : Za} (h : valOk v = true) : v.fKind = 0 ∨ v.fKind = 1 ∨ v.fKind = 2 ∨ v.fKind = 3 := by
 unfold valOk at h
 cases h0 : v.fKind == 0
 ·cases h1 : v.fKind == 1
  ·cases h2 : v.fKind == 2
   ·cases h3 : v.fKind == 3
    ·rw [h0, h1, h2, h3] at h
     cases h
    ·exact .inr (.inr (.inr (by simpa using h3)))
   ·exact .inr (.inr (.inl (by simpa using h2)))
  ·exact .inr (.inl (by simpa using h1))
 ·exact .inl (by simpa using h0)
def truV (v : Za) : Int := bif valOk v then bif v.fKind == 0 then 2 else bif v.fKind == 3 then v.fN else -1 else -1
theorem impl_tru {v : Za} (h : SmV v) : impl_TruthOf v = some (truV v) := by
 unfold impl_TruthOf truV
 rw [impl_value h, Option.bind_some]
 cases valOk v <;> cases v.fKind == 0 <;> cases v.fKind == 3 <;> rfl
theorem spec_tru {v : Za} (h : SmV v) : spec_TruthOf v = some (truV v) := by
 unfold spec_TruthOf truV
 rw [spec_value h, Option.bind_some]
 cases hv : valOk v
 ·rfl
 obtain ⟨k, n, s⟩ := v
 rcases ok_kinds hv with h | h | h | h <;> simp only at h <;> subst h <;> rfl
theorem in02 {n : Int} (h : inR n 0 2 = true) : n = 0 ∨ n = 1 ∨ n = 2 := by
 unfold inR at h
 simp only [Bool.and_eq_true, decide_eq_true_eq] at h
 omega
def andV (a b : Int) : Int := (impl_AndOf a b).getD 0
def orV (a b : Int) : Int := (impl_OrOf a b).getD 0
def notV (a : Int) : Int := (impl_NotOf a).getD 0
theorem and_both (a b : Int) : spec_AndOf a b = some (andV a b) ∧ impl_AndOf a b = some (andV a b) := by
 unfold andV impl_AndOf spec_AndOf impl_fold spec_TruthOk impl_TruthOk
 simp only [spec_in, impl_in, Option.bind_some]
 cases ha : inR a 0 2
 ·exact ⟨rfl, rfl⟩
 cases hb : inR b 0 2
 ·exact ⟨rfl, rfl⟩
 rcases in02 ha with rfl | rfl | rfl <;> rcases in02 hb with rfl | rfl | rfl <;> exact ⟨by decide, by decide⟩
theorem or_both (a b : Int) : spec_OrOf a b = some (orV a b) ∧ impl_OrOf a b = some (orV a b) := by
 unfold orV impl_OrOf spec_OrOf impl_fold spec_TruthOk impl_TruthOk
 simp only [spec_in, impl_in, Option.bind_some]
 cases ha : inR a 0 2
 ·exact ⟨rfl, rfl⟩
 cases hb : inR b 0 2
 ·exact ⟨rfl, rfl⟩
 rcases in02 ha with rfl | rfl | rfl <;> rcases in02 hb with rfl | rfl | rfl <;> exact ⟨by decide, by decide⟩
theorem not_both (a : Int) : spec_NotOf a = some (notV a) ∧ impl_NotOf a = some (notV a) := by
 unfold notV spec_NotOf spec_TruthOk
 simp only [spec_in, Option.bind_some]
 cases ha : inR a 0 2
 ·have h0 : (a == 0) = false := by
   cases h : a == 0 <;> simp_all [inR]
  have h1 : (a == 1) = false := by
   cases h : a == 1 <;> simp_all [inR]
  have h2 : (a == 2) = false := by
   cases h : a == 2 <;> simp_all [inR]
  unfold impl_NotOf
  rw [h0, h1, h2]
  exact ⟨rfl, rfl⟩
 rcases in02 ha with rfl | rfl | rfl <;> exact ⟨by decide, by decide⟩
end Go.D
set_option linter.unusedVariables false
namespace Go.D
def valStep (row st : List Za) (p : Zc) : Option (List Za) :=
 if p.fKind = 1 then some (p.fV :: st)
 else if p.fKind = 2 then (getI row p.fN).map fun v => v :: st
 else if p.fKind = 3 then (match st with | b :: a :: r => some (sumV a b :: r) | _ => none)
 else if p.fKind = 4 then (match st with | b :: a :: r => some (ofV (cmpV p.fN a b) :: r) | _ => none)
 else if p.fKind = 5 then (match st with | b :: a :: r => some (ofV (andV (truV a) (truV b)) :: r) | _ => none)
 else if p.fKind = 6 then (match st with | b :: a :: r => some (ofV (orV (truV a) (truV b)) :: r) | _ => none)
 else if p.fKind = 7 then (match st with | b :: r => some (ofV (notV (truV b)) :: r) | _ => none)
 else if p.fKind = 8 then (match st with | b :: r => some (ofV (b2i (b.fKind == 0)) :: r) | _ => none)
 else none
theorem sm_empty : Sm (ByteArray.mk #[]).size := by
 have : (ByteArray.mk #[]).size = 0 := rfl
 omega
theorem sm_sum (a b : Za) : SmV (sumV a b) := by
 unfold sumV N0
 cases a.fKind == 0 || (b.fKind == 0 || !(inR (w64 (a.fN + b.fN)) (-9999) 9999)) <;> exact sm_empty
theorem sm_of (n : Int) : SmV (ofV n) := by
 unfold ofV N0
 cases inR n 0 1 <;> exact sm_empty
theorem v2 {rs : List Int} {st : List Za} {b a : Int} {r : List Int} (h : rs.length = st.length) (hr : rs = b :: a :: r) : ∃ y x t, st = y :: x :: t ∧ r.length = t.length := by
 subst hr
 match st, h with
 | y :: x :: t, h => exact ⟨y, x, t, rfl, by simpa using h⟩
theorem v1 {rs : List Int} {st : List Za} {b : Int} {r : List Int} (h : rs.length = st.length) (hr : rs = b :: r) : ∃ y t, st = y :: t ∧ r.length = t.length := by
 subst hr
 match st, h with
 | y :: t, h => exact ⟨y, t, rfl, by simpa using h⟩
structure Went (cs : List Zf) (row st : List Za) (p : Zc) (ks' : List Int) : Prop where
 go : ∃ st', valStep row st p = some st' ∧ ks'.length = st'.length ∧ (∀ v ∈ st', SmV v) ∧ spec_l4Do row st.reverse p = some st'.reverse ∧
  ((Zv p).bind fun v10 => (slI st.reverse (some ((w64 (((st.reverse.length : Int)) - v10)))) none none).bind fun v12 => (Za7 p row v12).bind fun v14 => (slI st.reverse none (some ((w64 (((st.reverse.length : Int)) - v10)))) none).bind fun v16 => appT st.reverse (([v14] : List Za)) v16.length) = some st'.reverse
theorem sm_cons {v : Za} {st t : List Za} (hv : SmV v) (h : ∀ v ∈ st, SmV v) (ht : ∀ v ∈ t, v ∈ st) : ∀ u ∈ v :: t, SmV u := by
 intro u hu
 rcases List.mem_cons.1 hu with rfl | hu
 ·exact hv
 ·exact h u (ht u hu)
section
variable {α : Type} {xs : List α} (h : xs.length ≤ 2097152)
include h
theorem preA : slI xs none (some (w64 ((xs.length : Int) - 0))) none = some xs := by
 rw [len0 h]
 have := sl_pre (ys := []) h rfl
 rwa [List.append_nil] at this
theorem postA : slI xs (some (w64 ((xs.length : Int) - 0))) none none = some [] := by
 rw [len0 h]
 have := sl_post (ys := []) h rfl
 rwa [List.append_nil] at this
theorem apA (k : α) : appT xs [k] xs.length = some (xs ++ [k]) := by
 have := ap_pre (ys := []) h k
 rwa [List.append_nil] at this
end
theorem ga {α : Type} (a b : α) : getI [a, b] 0 = some a := rfl
theorem gb {α : Type} (a b : α) : getI [a, b] 1 = some b := rfl
theorem gc {α : Type} (a : α) : getI [a] 0 = some a := rfl
theorem val_sum (a b : Za) : (bif a.fKind == 0 then Zbc a b true else bif b.fKind == 0 then Zbc a b true else (Zbf ((Za.mk 1 ((w64 (a.fN + b.fN))) (ByteArray.mk #[])))).bind fun v16 => Zbc a b ((!v16))) = some (sumV a b) := by
 rw [impl_value (v := Za.mk 1 ((w64 (a.fN + b.fN))) (ByteArray.mk #[])) sm_empty, Option.bind_some]
 have e : valOk (Za.mk 1 ((w64 (a.fN + b.fN))) (ByteArray.mk #[])) = inR (w64 (a.fN + b.fN)) (-9999) 9999 := by
  unfold valOk
  have : ((1 : Int) == 0) = false := rfl
  simp only [this, beq_self_eq_true, cond_false, cond_true, Bool.and_true]
 rw [e]
 unfold sumV Zbc N0
 cases a.fKind == 0 <;> cases b.fKind == 0 <;> cases inR (w64 (a.fN + b.fN)) (-9999) 9999 <;> rfl
theorem went {cs : List Zf} {row st : List Za} {rs ks' : List Int} {p : Zc} (he : Zaf cs rs p = some ks') (hl : rs.length = st.length) (hs : st.length ≤ 2000000) (hc : row.length = cs.length)
  (hr : SmR row) (hst : ∀ v ∈ st, SmV v) (hp : SmP p) : Went cs row st p ks' := by
 obtain ⟨k, n, v⟩ := p
 have hx0 : st.reverse.length ≤ 2097152 := by rw [List.length_reverse]; omega
 rcases kind_cases k with rfl | rfl | rfl | rfl | rfl | rfl | rfl | rfl | hk
 ·obtain ⟨_, h2⟩ := bifSome he
  have h2 := Option.some.inj h2
  subst h2
  refine ⟨v :: st, rfl, by simp [hl], sm_cons hp hst (fun _ h => h), ?_, ?_⟩
  ·have ha : app st.reverse [v] = some (st.reverse ++ [v]) := app_lt (by rw [List.length_reverse]; simp; omega)
   simp only [spec_l4Do, ha, Option.bind_some, beq_self_eq_true, cond_true, List.reverse_cons]
  ·simp [-List.length_reverse, -Int.sub_zero, Zv, Zo, Zt, Za7, preA hx0, postA hx0, apA hx0]
 ·obtain ⟨h1, h2⟩ := bifSome he
  simp only [Bool.and_eq_true] at h1
  have hi := h1.2
  unfold inR at hi
  simp only [Bool.and_eq_true, decide_eq_true_eq] at hi
  obtain ⟨c, hc1, hc2⟩ := getI_lt (xs := row) hi.1 (by omega)
  rw [Option.map_eq_some_iff] at h2
  obtain ⟨c', _, rfl⟩ := h2
  refine ⟨c :: st, ?_, by simp [hl], sm_cons (hr.2 c (List.mem_of_getElem? hc2)) hst (fun _ h => h), ?_, ?_⟩
  ·simp [valStep, hc1]
  ·have ha : app st.reverse [c] = some (st.reverse ++ [c]) := app_lt (by rw [List.length_reverse]; simp; omega)
   simp [spec_l4Do, hc1, ha]
  ·simp [-List.length_reverse, -Int.sub_zero, Zv, Zo, Zt, Za7, preA hx0, postA hx0, apA hx0, hc1]
 ·obtain ⟨_, h2⟩ := bifSome he
  split at h2
  ·next b' a' r' =>
   obtain ⟨_, h2⟩ := bifSome h2
   have h2 := Option.some.inj h2
   subst h2
   obtain ⟨b, a, t, rfl, ht⟩ := v2 hl rfl
   have hx : t.reverse.length ≤ 2097152 := by simp at hs ⊢; omega
   refine ⟨sumV a b :: t, rfl, by simp [ht], sm_cons (sm_sum a b) hst (fun u hu => by simp [hu]), ?_, ?_⟩
   ·simp [-List.length_reverse, -Int.sub_zero, -List.length_append, -List.length_cons, -List.length_nil, spec_l4Do, rev2, g1 hx, len2 hx, g2, sl_pre hx rfl, ap_pre hx, spec_sum]
   ·simp [-List.length_reverse, -Int.sub_zero, -List.length_append, -List.length_cons, -List.length_nil, Zv, Zo, Za7, rev2, len2 hx, sl_pre hx rfl, sl_post hx rfl, ap_pre hx, ga, gb, val_sum]
  ·cases h2
 ·obtain ⟨_, h2⟩ := bifSome he
  split at h2
  ·next b' a' r' =>
   obtain ⟨_, h2⟩ := bifSome h2
   have h2 := Option.some.inj h2
   subst h2
   obtain ⟨b, a, t, rfl, ht⟩ := v2 hl rfl
   have hx : t.reverse.length ≤ 2097152 := by simp at hs ⊢; omega
   have sa : SmV a := hst a (by simp)
   have sb : SmV b := hst b (by simp)
   refine ⟨ofV (cmpV n a b) :: t, rfl, by simp [ht], sm_cons (sm_of _) hst (fun u hu => by simp [hu]), ?_, ?_⟩
   ·simp [-List.length_reverse, -Int.sub_zero, -List.length_append, -List.length_cons, -List.length_nil, spec_l4Do, rev2, g1 hx, len2 hx, g2, sl_pre hx rfl, ap_pre hx, spec_cmp sa sb, spec_of]
   ·simp [-List.length_reverse, -Int.sub_zero, -List.length_append, -List.length_cons, -List.length_nil, Zv, Zo, Za7, rev2, len2 hx, sl_pre hx rfl, sl_post hx rfl, ap_pre hx, ga, gb, impl_cmp sa sb, impl_of]
  ·cases h2
 ·obtain ⟨_, h2⟩ := bifSome he
  split at h2
  ·next b' a' r' =>
   obtain ⟨_, h2⟩ := bifSome h2
   have h2 := Option.some.inj h2
   subst h2
   obtain ⟨b, a, t, rfl, ht⟩ := v2 hl rfl
   have hx : t.reverse.length ≤ 2097152 := by simp at hs ⊢; omega
   have sa : SmV a := hst a (by simp)
   have sb : SmV b := hst b (by simp)
   refine ⟨ofV (andV (truV a) (truV b)) :: t, rfl, by simp [ht], sm_cons (sm_of _) hst (fun u hu => by simp [hu]), ?_, ?_⟩
   ·simp [-List.length_reverse, -Int.sub_zero, -List.length_append, -List.length_cons, -List.length_nil, spec_l4Do, rev2, g1 hx, len2 hx, g2, sl_pre hx rfl, ap_pre hx, spec_tru sa, spec_tru sb, (and_both _ _).1, spec_of]
   ·simp [-List.length_reverse, -Int.sub_zero, -List.length_append, -List.length_cons, -List.length_nil, Zv, Zo, Za7, rev2, len2 hx, sl_pre hx rfl, sl_post hx rfl, ap_pre hx, ga, gb, impl_tru sa, impl_tru sb, (and_both _ _).2, impl_of]
  ·cases h2
 ·obtain ⟨_, h2⟩ := bifSome he
  split at h2
  ·next b' a' r' =>
   obtain ⟨_, h2⟩ := bifSome h2
   have h2 := Option.some.inj h2
   subst h2
   obtain ⟨b, a, t, rfl, ht⟩ := v2 hl rfl
   have hx : t.reverse.length ≤ 2097152 := by simp at hs ⊢; omega
   have sa : SmV a := hst a (by simp)
   have sb : SmV b := hst b (by simp)
   refine ⟨ofV (orV (truV a) (truV b)) :: t, rfl, by simp [ht], sm_cons (sm_of _) hst (fun u hu => by simp [hu]), ?_, ?_⟩
   ·simp [-List.length_reverse, -Int.sub_zero, -List.length_append, -List.length_cons, -List.length_nil, spec_l4Do, rev2, g1 hx, len2 hx, g2, sl_pre hx rfl, ap_pre hx, spec_tru sa, spec_tru sb, (or_both _ _).1, spec_of]
   ·simp [-List.length_reverse, -Int.sub_zero, -List.length_append, -List.length_cons, -List.length_nil, Zv, Zo, Za7, rev2, len2 hx, sl_pre hx rfl, sl_post hx rfl, ap_pre hx, ga, gb, impl_tru sa, impl_tru sb, (or_both _ _).2, impl_of]
  ·cases h2
 ·obtain ⟨_, h2⟩ := bifSome he
  split at h2
  ·next b' r' =>
   obtain ⟨_, h2⟩ := bifSome h2
   have h2 := Option.some.inj h2
   subst h2
   obtain ⟨b, t, rfl, ht⟩ := v1 hl rfl
   have hx : t.reverse.length ≤ 2097152 := by simp at hs ⊢; omega
   have sb : SmV b := hst b (by simp)
   refine ⟨ofV (notV (truV b)) :: t, rfl, by simp [ht], sm_cons (sm_of _) hst (fun u hu => by simp [hu]), ?_, ?_⟩
   ·simp [-List.length_reverse, -Int.sub_zero, -List.length_append, -List.length_cons, -List.length_nil, spec_l4Do, rev1, len1 hx, g3, sl_pre hx rfl, ap_pre hx, spec_tru sb, (not_both _).1, spec_of]
   ·simp [-List.length_reverse, -Int.sub_zero, -List.length_append, -List.length_cons, -List.length_nil, Zv, Zo, Zt, Za7, rev1, len1 hx, sl_pre hx rfl, sl_post hx rfl, ap_pre hx, gc, impl_tru sb, (not_both _).2, impl_of]
  ·cases h2
 ·obtain ⟨_, h2⟩ := bifSome he
  split at h2
  ·next b' r' =>
   have h2 := Option.some.inj h2
   subst h2
   obtain ⟨b, t, rfl, ht⟩ := v1 hl rfl
   have hx : t.reverse.length ≤ 2097152 := by simp at hs ⊢; omega
   refine ⟨ofV (b2i (b.fKind == 0)) :: t, rfl, by simp [ht], sm_cons (sm_of _) hst (fun u hu => by simp [hu]), ?_, ?_⟩
   ·simp [-List.length_reverse, -Int.sub_zero, -List.length_append, -List.length_cons, -List.length_nil, spec_l4Do, rev1, len1 hx, g3, sl_pre hx rfl, ap_pre hx, spec_b2i, spec_of]
   ·simp [-List.length_reverse, -Int.sub_zero, -List.length_append, -List.length_cons, -List.length_nil, Zv, Zo, Zt, Za7, rev1, len1 hx, sl_pre hx rfl, sl_post hx rfl, ap_pre hx, gc, impl_b2i, impl_of]
  ·cases h2
 ·obtain ⟨h1, h2, h3, h4, h5, h6, h7, h8⟩ := hk
  simp only [Zaf, h1, h2, h3, h4, h5, h6, h7, h8, if_false, or_self] at he
  cases he
def valRun (row : List Za) : List Zc → List Za → Option Za
 | [], st => getI st.reverse 0
 | p :: ps, st => (valStep row st p).bind fun st' => valRun row ps st'
structure Inv (cs : List Zf) (ps : List Zc) (i : Nat) (s : List Za) : Prop where
 h : ∃ ks, exprRun cs (ps.drop i) ks = 3 ∧ ks.length = s.length ∧ s.length ≤ i ∧ ∀ v ∈ s, SmV v
theorem Inv.step {cs : List Zf} {ps : List Zc} {row : List Za} {i : Nat} {s : List Za} {p : Zc} (hI : Inv cs ps i s) (hi : i < ps.length) (hv : ps[i]? = some p) (hl : ps.length ≤ 2000000) (hc : row.length = cs.length) (hr : SmR row) (hp : SmP p) :
  ∃ ks', Went cs row s.reverse p ks' ∧ ∀ st', valStep row s.reverse p = some st' → ks'.length = st'.length → (∀ v ∈ st', SmV v) → Inv cs ps (i + 1) st'.reverse := by
 obtain ⟨ks, h1, h2, h3, h4⟩ := hI.h
 have e : ps.drop i = p :: ps.drop (i + 1) := by
  rw [List.drop_eq_getElem_cons hi]
  rw [List.getElem?_eq_getElem hi] at hv
  rw [Option.some.inj hv]
 rw [e] at h1
 unfold exprRun at h1
 cases he : Zaf cs ks p with
 | none => rw [he] at h1; cases h1
 | some ks' =>
  rw [he] at h1
  have h1 : exprRun cs (ps.drop (i + 1)) ks' = 3 := h1
  refine ⟨ks', went he (by rw [List.length_reverse]; exact h2) (by rw [List.length_reverse]; omega) hc hr (fun v hv => h4 v (List.mem_reverse.1 hv)) hp, fun st' _ hl' hs' => ⟨ks', h1, by rw [List.length_reverse]; exact hl', ?_, fun v hv => hs' v (List.mem_reverse.1 hv)⟩⟩
  have := exprStep_len he
  rw [List.length_reverse]
  omega
def exprVal (row : List Za) (ps : List Zc) : Za := (valRun row ps []).getD N0
theorem Inv.fin {cs : List Zf} {ps : List Zc} {s : List Za} (hI : Inv cs ps ps.length s) : ∃ v, s = [v] := by
 obtain ⟨ks, h1, h2, h3, h4⟩ := hI.h
 rw [List.drop_length] at h1
 unfold exprRun at h1
 split at h1
 ·match s, h2 with
  | [v], _ => exact ⟨v, rfl⟩
 ·cases h1
theorem run_start {cs : List Zf} {ps : List Zc} (h : exprKind cs ps = 3) : exprRun cs ps [] = 3 ∧ colsOk cs = true ∧ ps.length ≤ 12 := by
 unfold exprKind at h
 cases hc : colsOk cs && decide (ps.length ≤ 12) with
 | false => rw [hc] at h; cases h
 | true =>
  rw [hc, cond_true] at h
  simp only [Bool.and_eq_true, decide_eq_true_eq] at hc
  exact ⟨h, hc.1, hc.2⟩
theorem spec_val {cs : List Zf} {ps : List Zc} {row : List Za} (h : exprKind cs ps = 3) (hc : row.length = cs.length) (hr : SmR row) (hp : ∀ p ∈ ps, SmP p) : ∃ v, valRun row ps [] = some v ∧ spec_l4Value row ps = some v ∧ impl_exprValue row ps = some v := by
 obtain ⟨h1, h2, h3⟩ := run_start h
 have h0 : Inv cs ps 0 [] := ⟨[], h1, rfl, Nat.le_refl _, fun v hv => by cases hv⟩
 have hs : spec_l4Value row ps = valRun row ps [] := by
  have := loop_opt (xs := ps) (L := fun f i (s : List Za) => spec_l4Value_l0 row ps f i s) (fun rest s => valRun row rest s.reverse) (Inv cs ps) (by omega)
   (fun f i s v hi hv hw hI => by
    have hlt : (i : Int) < ps.length := by omega
    obtain ⟨ks', ⟨st', e1, e2, e3, e4, _⟩, hn⟩ := hI.step hi hv (by omega) hc hr (hp v (List.mem_of_getElem? hv))
    rw [List.reverse_reverse] at e4
    refine .inr ⟨st'.reverse, hn st' e1 e2 e3, ?_, ?_⟩
    ·simp only [spec_l4Value_l0, hlt, decide_true, cond_true, Zai, hv, Option.bind_some, e4, hw]
    ·simp only [valRun, e1, Option.bind_some, List.reverse_reverse])
   (fun f s hI => by
    obtain ⟨v, rfl⟩ := hI.fin
    simp only [spec_l4Value_l0, Int.lt_irrefl, decide_false, cond_false]
    rfl) h0
  exact this
 have hi : impl_exprValue row ps = valRun row ps [] := by
  have := loop_opt (xs := ps) (L := fun f i (s : List Za) => impl_exprValue_l0 row ps f i s) (fun rest s => valRun row rest s.reverse) (Inv cs ps) (by omega)
   (fun f i s v hi hv hw hI => by
    have hlt : (i : Int) < ps.length := by omega
    obtain ⟨ks', ⟨st', e1, e2, e3, _, e5⟩, hn⟩ := hI.step hi hv (by omega) hc hr (hp v (List.mem_of_getElem? hv))
    rw [List.reverse_reverse] at e5
    refine .inr ⟨st'.reverse, hn st' e1 e2 e3, ?_, ?_⟩
    ·obtain ⟨x1, g1, e5⟩ := bindS e5
     obtain ⟨x2, g2, e5⟩ := bindS e5
     obtain ⟨x3, g3, e5⟩ := bindS e5
     obtain ⟨x4, g4, e5⟩ := bindS e5
     simp only [impl_exprValue_l0, hlt, decide_true, cond_true, Zai, hv, Option.bind_some, g1, g2, g3, g4, e5, hw]
    ·simp only [valRun, e1, Option.bind_some, List.reverse_reverse])
   (fun f s hI => by
    obtain ⟨v, rfl⟩ := hI.fin
    simp only [impl_exprValue_l0, Int.lt_irrefl, decide_false, cond_false]
    rfl) h0
  exact this
 have key : ∀ (n i : Nat) (s : List Za), i + n = ps.length → Inv cs ps i s → ∃ v, valRun row (ps.drop i) s.reverse = some v := by
  intro n
  induction n with
  | zero =>
   intro i s hi hI
   have : i = ps.length := by omega
   subst this
   obtain ⟨v, rfl⟩ := hI.fin
   rw [List.drop_length]
   exact ⟨v, rfl⟩
  | succ n ih =>
   intro i s hi hI
   have hlt : i < ps.length := by omega
   obtain ⟨ks', ⟨st', e1, e2, e3, _⟩, hn⟩ := hI.step hlt (List.getElem?_eq_getElem hlt) (by omega) hc hr (hp _ (List.getElem_mem hlt))
   obtain ⟨v, hv⟩ := ih (i + 1) st'.reverse (by omega) (hn st' e1 e2 e3)
   refine ⟨v, ?_⟩
   rw [List.drop_eq_getElem_cons hlt, valRun, e1, Option.bind_some]
   rwa [List.reverse_reverse] at hv
 obtain ⟨v, hv⟩ := key ps.length 0 [] (by omega) h0
 have hv : valRun row ps [] = some v := hv
 exact ⟨v, hv, hs.trans hv, hi.trans hv⟩
def holds (row : List Za) (ps : List Zc) : Bool := Zz (exprVal row ps) (ofV 1)
end Go.D
set_option linter.unusedVariables false
namespace Go.D
theorem clip_id {α : Type} (a : List α) : slI a none (some (a.length : Int)) (some (a.length : Int)) = some a := by simp [slI]
structure Sides (ca cb : List Zf) (ar br : List (List Za)) (ps : List Zc) : Prop where
 sc : Sm ca.length
 sd : Sm cb.length
 sa : SmRs ar
 sb : SmRs br
 sl : Sm ps.length
 sp : ∀ p ∈ ps, SmP p
def ready (ca cb : List Zf) (ar br : List (List Za)) (ps : List Zc) : Bool := rowsOk ca ar && (rowsOk cb br && (exprKind (ca ++ cb) ps == 3 && (decide (ar.length ≤ 30) && decide (br.length ≤ 30))))
section
variable {ca cb : List Zf} {ar br : List (List Za)} {ps : List Zc} (h : Sides ca cb ar br ps) (hr : ready ca cb ar br ps = true)
include h hr
end
def has (br : List (List Za)) (ps : List Zc) (a : List Za) : Bool := br.any fun b => holds (a ++ b) ps
end Go.D
set_option linter.unusedVariables false
namespace Go.D
theorem len_beqN (m n : Nat) : ((m : Int) == (n : Int)) = (m == n) := by
  cases h : m == n with
  | true => have : m = n := by simpa using h
            subst this; simp
  | false => have : m ≠ n := by simpa using h
             simp; omega
def rowEq (a b : List Za) : Bool := a.length == b.length && (a.zip b).all fun p => Zz p.1 p.2
theorem loop_two {α : Type} {xs ys : List α} {L : Nat → Int → Option Bool} {p : α → α → Bool} (hlen : xs.length ≤ 70368744177662) (he : xs.length = ys.length)
  (h : ∀ (f i : Nat) (x y : α), i < xs.length → xs[i]? = some x → ys[i]? = some y → w64 ((i : Int) + 1) = ((i + 1 : Nat) : Int) → L (f + 1) i = bif p x y then L f ((i + 1 : Nat) : Int) else some false)
  (hz : ∀ f, L (f + 1) (xs.length : Int) = some true) : L FUEL 0 = some ((xs.zip ys).all fun q => p q.1 q.2) := by
 have hl : (xs.zip ys).length = xs.length := by rw [List.length_zip]; omega
 have := loop_all (xs := xs.zip ys) (L := L) (p := fun q => p q.1 q.2) (fin := true) (by omega) (fun f i v hi hv hw => by
  obtain ⟨h1, h2⟩ := zip_get he hv
  exact h f i v.1 v.2 (by omega) h1 h2 hw) (fun f => by rw [hl]; exact hz f)
 rw [this, Bool.and_true]
theorem slices_Equal_ok {a b : List Za} (h : a.length ≤ 70368744177662) : Zax a b = some (rowEq a b) := by
 unfold Zax rowEq
 have e : ((a.length : Int) == (b.length : Int)) = (a.length == b.length) := len_beqN _ _
 rw [e]
 cases hl : a.length == b.length with
 | false => rfl
 | true =>
  rw [Bool.not_true, cond_false, Bool.true_and]
  refine loop_two (L := fun f i => Zaa a b f i) h (by simpa using hl) (fun f i x y hi hx hy hw => ?_) (fun f => ?_)
  ·rw [Zaa, decide_eq_true (by omega), cond_true, Zai, hx, Option.bind_some, Zai, hy, Option.bind_some, hw]
   cases Zz x y <;> rfl
  ·rw [Zaa, decide_eq_false (Int.lt_irrefl _), cond_false]
theorem alive_t : laws_alive = some true := by
 have e0 : (ByteArray.mk #[]).size = 0 := rfl
 unfold laws_alive impl_ValueOk
 rw [impl_value (v := Za.mk 1 3 (ByteArray.mk #[])) (by simp [e0]), Option.bind_some, impl_value (v := Za.mk 9 0 (ByteArray.mk #[])) (by simp [e0]), Option.bind_some]
 have h1 : valOk (Za.mk 1 3 (ByteArray.mk #[])) = true := by simp [valOk, inR]
 have h2 : valOk (Za.mk 9 0 (ByteArray.mk #[])) = false := by simp [valOk]
 rw [h1, h2]
 rfl
end Go.D
set_option linter.unusedVariables false
namespace Go.D
end Go.D
set_option linter.unusedVariables false
namespace Go.D
theorem impl_cloneV {a : List Za} (ha : a.length ≤ 4194304) : impl_clone_impl_Value a = some a := by
 unfold impl_clone_impl_Value Zbb
 cases h : ((a.length : Int)) == 0
 ·rw [app_lt (by simp; omega), Option.bind_some, List.nil_append, clip_id]
  rfl
 ·have : a = [] := by
   have : (a.length : Int) = 0 := by simpa using h
   exact List.eq_nil_of_length_eq_zero (by omega)
  subst this
  rfl
section
variable {ca cb : List Zf} {ar br : List (List Za)} {ps : List Zc} (h : Sides ca cb ar br ps) (hr : ready ca cb ar br ps = true)
include h hr
end
end Go.D
set_option linter.unusedVariables false
namespace Go.D
section
variable {ca cb : List Zf} {ar br : List (List Za)} {ps : List Zc} (h : Sides ca cb ar br ps)
include h
end
end Go.D
set_option linter.unusedVariables false
namespace Go.D
theorem SmRs.app {a b : List (List Za)} (ha : SmRs a) (hb : SmRs b) (h : a.length + b.length ≤ 2097152) : SmRs (a ++ b) := ⟨by rw [List.length_append]; exact h, fun r hr => (List.mem_append.1 hr).elim (ha.2 r) (hb.2 r)⟩
theorem fits_parts {cs : List Zf} {r : List Za} (h : rowFits cs r = true) : colsOk cs = true ∧ rowOk r = true ∧ r.length = cs.length ∧ ((r.zip cs).all fun p => fits p.2 p.1) = true := by
 unfold rowFits at h
 simp only [Bool.and_eq_true, beq_iff_eq] at h
 exact ⟨h.1, h.2.1, h.2.2.1, h.2.2.2⟩
end Go.D
set_option linter.unusedVariables false
namespace Go.D
end Go.D
set_option linter.unusedVariables false
namespace Go.D
end Go.D
set_option linter.unusedVariables false
namespace Go.D
def atV (r : List Za) (n : Int) : Za := (getI r n).getD N0
def colAt (a : List Zf) (n : Int) : Zf := (getI a n).getD ⟨0, false⟩
structure RowsIn (m : T_impl_made) (rs : List (List Za)) : Prop where
 c : colsOk m.fColumns = true
 f : ∀ r ∈ rs, rowFits m.fColumns r = true ∧ SmR r
 l : (rs.length : Int) ≤ m.fMost
 m : m.fMost ≤ 300
structure Acc (ms : List T_impl_made) (acc : List (List (List Za))) : Prop where
 l : acc.length = ms.length
 r : ∀ (i : Nat) m rs, ms[i]? = some m → acc[i]? = some rs → RowsIn m rs
theorem RowsIn.sm {m : T_impl_made} {rs : List (List Za)} (h : RowsIn m rs) : SmRs rs := ⟨by have := h.l; have := h.m; omega, fun r hr => (h.f r hr).2⟩
theorem RowsIn.len {m : T_impl_made} {rs : List (List Za)} (h : RowsIn m rs) : rs.length ≤ 300 := by have := h.l; have := h.m; omega
theorem fits_at {cs : List Zf} {r : List Za} (h : rowFits cs r = true) {n : Int} (hn : inR n 0 ((cs.length : Int) - 1) = true) : getI r n = some (atV r n) ∧ valOk (atV r n) = true ∧ fits (colAt cs n) (atV r n) = true ∧ colAt cs n ∈ cs := by
 obtain ⟨_, h1, h2, h3⟩ := fits_parts h
 obtain ⟨c, hc, hcm⟩ := inR_get hn
 obtain ⟨v, hv, hvm⟩ := inR_get (xs := r) (n := n) (by rw [h2]; exact hn)
 have e1 : colAt cs n = c := by unfold colAt; rw [hc]; rfl
 have e2 : atV r n = v := by unfold atV; rw [hv]; rfl
 rw [e1, e2]
 unfold rowOk at h1
 simp only [Bool.and_eq_true, List.all_eq_true] at h1
 refine ⟨hv, h1.1 v hvm, ?_, hcm⟩
 obtain ⟨_, _, k1⟩ := getI_spec hc
 obtain ⟨_, _, k2⟩ := getI_spec hv
 have hz : (r.zip cs)[n.toNat]? = some (v, c) := by
  rw [List.getElem?_zip_eq_some]
  exact ⟨k2, k1⟩
 exact List.all_eq_true.1 h3 _ (List.mem_of_getElem? hz)
theorem impl_takenV {cs : List Zf} {r : List Za} {ns : List Int} (h : rowFits cs r = true) (hn : ∀ n ∈ ns, inR n 0 ((cs.length : Int) - 1) = true) (hl : ns.length ≤ 4) : impl_taken r ns = some (ns.map (atV r)) := by
 unfold impl_taken
 have := loop_opt (xs := ns) (L := fun f i (s : List Za) => impl_taken_l0 r ns f i s) (fun rest s => some (s ++ rest.map (atV r))) (fun i s => s.length = i) (by omega)
  (fun f i s n hi hv hw hI => by
   have hg := (fits_at h (hn n (List.mem_of_getElem? hv))).1
   refine .inr ⟨s ++ [atV r n], by simp [hI], ?_, by simp⟩
   rw [impl_taken_l0, decide_eq_true (by omega), cond_true, Zai, hv, Option.bind_some, hg, Option.bind_some, app_lt (by simp; omega), Option.bind_some, hw])
  (fun f s hI => by rw [impl_taken_l0, decide_eq_false (Int.lt_irrefl _), cond_false, impl_cloneV (by omega), List.map_nil, List.append_nil]; rfl) (s := []) rfl
 exact this
end Go.D
set_option linter.unusedVariables false
namespace Go.D
end Go.D
set_option linter.unusedVariables false
namespace Go.D
structure RdOk (n : Int) (r : Zd) : Prop where
 len : r.fB.length ≤ 2000
 lo : 0 ≤ r.fP
 hi : r.fP ≤ n
theorem RdOk.up {n m : Int} {r : Zd} (h : RdOk n r) (hm : n ≤ m) : RdOk m r := ⟨h.len, h.lo, by have := h.hi; omega⟩
theorem remI_pos {a b : Int} (ha : 0 ≤ a) (hb : 0 < b) : ∃ k, remI a b = some k ∧ 0 ≤ k ∧ k < b := by
 unfold remI
 rw [if_neg (by omega)]
 refine ⟨_, rfl, ?_, ?_⟩
 ·rw [Int.tmod_eq_emod_of_nonneg ha]
  exact Int.emod_nonneg _ (by omega)
 ·rw [Int.tmod_eq_emod_of_nonneg ha]
  exact Int.emod_lt_of_pos _ hb
theorem quoI_pos {a b : Int} (ha : 0 ≤ a) (ha2 : a ≤ 4611686018427387904) (hb : 0 < b) : ∃ k, quoI a b = some k ∧ 0 ≤ k ∧ k ≤ a := by
 unfold quoI
 rw [if_neg (by omega), Int.tdiv_eq_ediv_of_nonneg ha]
 have h0 : 0 ≤ a / b := Int.ediv_nonneg ha (by omega)
 have h1 : a / b ≤ a := Int.ediv_le_self _ ha
 rw [w64_of (by omega) (by omega)]
 exact ⟨_, rfl, h0, h1⟩
theorem xor_w {a b : Int} (ha : 0 ≤ a) (hb : 0 ≤ b) (ha2 : a < 4611686018427387904) (hb2 : b < 4611686018427387904) : 0 ≤ w64 (((BitVec.ofInt 64 a ^^^ BitVec.ofInt 64 b).toNat : Nat) : Int) := by
 obtain ⟨m, rfl⟩ := Int.eq_ofNat_of_zero_le ha
 obtain ⟨n, rfl⟩ := Int.eq_ofNat_of_zero_le hb
 have hm : m < 2 ^ 62 := by omega
 have hn : n < 2 ^ 62 := by omega
 have e : (BitVec.ofInt 64 (m : Int) ^^^ BitVec.ofInt 64 (n : Int)).toNat = m ^^^ n := by
  rw [BitVec.toNat_xor, BitVec.ofInt_natCast, BitVec.ofInt_natCast, BitVec.toNat_ofNat, BitVec.toNat_ofNat, Nat.mod_eq_of_lt (by omega), Nat.mod_eq_of_lt (by omega)]
 rw [e]
 have := Nat.xor_lt_two_pow hm hn
 rw [w64_of (by omega) (by omega)]
 omega
theorem pick_ok {n : Int} {r : Zd} (h : RdOk n r) (hn : n ≤ 1000000) (a : Int) : ∃ k r', Zi r a = some (k, r') ∧ RdOk (n + 1) r' ∧ 0 ≤ k ∧ (a < 1 → k = 0) ∧ (1 ≤ a → k < a) := by
 obtain ⟨fB, fP⟩ := r
 obtain ⟨h1, h2, h3⟩ := h
 simp only at h1 h2 h3
 have w1 : w64 (fP + 1) = fP + 1 := w64_of (by omega) (by omega)
 have w2 : w64 (fP + 1 - 1) = fP := by rw [show fP + 1 - 1 = fP by omega]; exact w64_of (by omega) (by omega)
 have hr : RdOk (n + 1) ⟨fB, fP + 1⟩ := ⟨h1, by simp only; omega, by simp only; omega⟩
 unfold Zi
 by_cases ha : a < 1
 ·rw [decide_eq_true ha, cond_true]
  unfold spec_l20Rd_pick_j0
  simp only [cond_true, w1]
  exact ⟨0, _, rfl, hr, Int.le_refl _, fun _ => rfl, fun h => by omega⟩
 rw [decide_eq_false ha, cond_false]
 unfold spec_l20Rd_pick_j0
 simp only [w1, w2]
 by_cases hl : fB.length = 0
 ·have : ((fB.length : Int) == 0) = true := by rw [hl]; rfl
  rw [this, cond_true]
  exact ⟨0, _, rfl, hr, Int.le_refl _, fun _ => rfl, fun h => by omega⟩
 have : ((fB.length : Int) == 0) = false := by
  rw [beq_eq_false_iff_ne]
  omega
 rw [this, cond_false]
 have hpos : (0 : Int) < fB.length := by omega
 by_cases hp : fP < (fB.length : Int)
 ·rw [decide_eq_true hp, cond_true]
  obtain ⟨b, hb, _⟩ := getI_lt (xs := fB) h2 hp
  have hb8 : b.toNat < 256 := b.toNat_lt
  have w3 : w64 (b.toNat : Int) = b.toNat := w64_of (by omega) (by omega)
  obtain ⟨k, hk, k0, k1⟩ := remI_pos (a := (b.toNat : Int)) (b := a) (by omega) (by omega)
  rw [hb, Option.bind_some, w3, hk, Option.bind_some]
  exact ⟨k, _, rfl, hr, k0, fun h => by omega, fun _ => k1⟩
 ·rw [decide_eq_false hp, cond_false]
  have w4 : w64 (fP * 7) = fP * 7 := w64_of (by omega) (by omega)
  have w5 : w64 (fP * 7 + 3) = fP * 7 + 3 := w64_of (by omega) (by omega)
  have w6 : w64 (fP * 29) = fP * 29 := w64_of (by omega) (by omega)
  obtain ⟨k1, e1, l1, u1⟩ := remI_pos (a := fP) (b := (fB.length : Int)) h2 hpos
  obtain ⟨b1, g1, _⟩ := getI_lt (xs := fB) l1 u1
  obtain ⟨k2, e2, l2, u2⟩ := remI_pos (a := fP * 7 + 3) (b := (fB.length : Int)) (by omega) hpos
  obtain ⟨b2, g2, _⟩ := getI_lt (xs := fB) l2 u2
  obtain ⟨k3, e3, l3, u3⟩ := quoI_pos (a := fP) (b := (fB.length : Int)) h2 (by omega) hpos
  have hb1 : b1.toNat < 256 := b1.toNat_lt
  have hb2 : b2.toNat < 256 := b2.toNat_lt
  have w7 : w64 (b1.toNat : Int) = b1.toNat := w64_of (by omega) (by omega)
  have w8 : w64 (b2.toNat : Int) = b2.toNat := w64_of (by omega) (by omega)
  have w9 : w64 ((b1.toNat : Int) * 131) = (b1.toNat : Int) * 131 := w64_of (by omega) (by omega)
  have w10 : w64 ((b2.toNat : Int) * 1117) = (b2.toNat : Int) * 1117 := w64_of (by omega) (by omega)
  have w11 : w64 ((b1.toNat : Int) * 131 + (b2.toNat : Int) * 1117) = (b1.toNat : Int) * 131 + (b2.toNat : Int) * 1117 := w64_of (by omega) (by omega)
  have w12 : w64 ((b1.toNat : Int) * 131 + (b2.toNat : Int) * 1117 + fP * 29) = (b1.toNat : Int) * 131 + (b2.toNat : Int) * 1117 + fP * 29 := w64_of (by omega) (by omega)
  have w13 : w64 (k3 * 53) = k3 * 53 := w64_of (by omega) (by omega)
  have w14 : w64 ((b1.toNat : Int) * 131 + (b2.toNat : Int) * 1117 + fP * 29 + k3 * 53) = (b1.toNat : Int) * 131 + (b2.toNat : Int) * 1117 + fP * 29 + k3 * 53 := w64_of (by omega) (by omega)
  simp only [w4, w5, w6, e1, g1, e2, g2, e3, Option.bind_some, w7, w8, w9, w10, w11, w12, w13, w14]
  generalize hx : (b1.toNat : Int) * 131 + (b2.toNat : Int) * 1117 + fP * 29 + k3 * 53 = x
  have x0 : 0 ≤ x := by omega
  have x1 : x ≤ 100000000 := by omega
  have y0 : 0 ≤ x.tdiv 64 := by rw [Int.tdiv_eq_ediv_of_nonneg x0]; omega
  have y1 : x.tdiv 64 ≤ x := by rw [Int.tdiv_eq_ediv_of_nonneg x0]; omega
  have w15 : w64 (x.tdiv 64) = x.tdiv 64 := w64_of (by omega) (by omega)
  rw [w15]
  obtain ⟨k, hk, k0, kk⟩ := remI_pos (b := a) (xor_w (a := x) (b := x.tdiv 64) x0 y0 (by omega) (by omega)) (by omega)
  rw [hk, Option.bind_some]
  exact ⟨k, _, rfl, hr, k0, fun h => by omega, fun _ => kk⟩
theorem odd_ok {n : Int} {r : Zd} (h : RdOk n r) (hn : n ≤ 1000000) (a : Int) : ∃ b r', Zaj r a = some (b, r') ∧ RdOk (n + 1) r' := by
 unfold Zaj
 by_cases ha : a > 0
 ·obtain ⟨k, r', e, hr, _⟩ := pick_ok h hn a
  rw [decide_eq_true ha, cond_true, e, Option.bind_some]
  exact ⟨_, _, rfl, hr⟩
 ·rw [decide_eq_false ha, cond_false]
  exact ⟨_, _, rfl, h.up (by omega)⟩
theorem odd_no {r : Zd} : Zaj r 0 = some (false, r) := rfl
theorem open_ok {b : List UInt8} (hb : b.length ≤ 1048576) : ∃ r, spec_l20Open b = some r ∧ RdOk 0 r := by
 unfold spec_l20Open spec_l20Open_j0
 by_cases h : (b.length : Int) > 2000
 ·rw [decide_eq_true h, cond_true]
  have e : slI b none (some 2000) none = some (b.take 2000) := by
   unfold slI
   rw [if_pos (by simp only [Option.getD_none, Option.getD_some]; omega)]
   simp
  rw [e, Option.bind_some]
  exact ⟨_, rfl, by simp only [List.length_take]; omega, Int.le_refl _, Int.le_refl _⟩
 ·rw [decide_eq_false h, cond_false]
  exact ⟨_, rfl, by simp only; omega, Int.le_refl _, Int.le_refl _⟩
end Go.D
set_option linter.unusedVariables false
namespace Go.D
def Wp {α : Type} (m : Option (α × Zd)) (Q : α → Zd → Prop) : Prop := ∃ x r, m = some (x, r) ∧ Q x r
theorem wp_some {α : Type} {x : α} {r : Zd} {Q : α → Zd → Prop} (h : Q x r) : Wp (some (x, r)) Q := ⟨x, r, rfl, h⟩
theorem Zav {α : Type} {r : Zd} {a n : Int} {f : Int × Zd → Option (α × Zd)} {Q : α → Zd → Prop} (h : RdOk n r) (hn : n ≤ 1000000)
  (hk : ∀ k r', RdOk (n + 1) r' → 0 ≤ k → (a < 1 → k = 0) → (1 ≤ a → k < a) → Wp (f (k, r')) Q) : Wp ((Zi r a).bind f) Q := by
 obtain ⟨k, r', e, h1, h2, h3, h4⟩ := pick_ok h hn a
 rw [e, Option.bind_some]
 exact hk k r' h1 h2 h3 h4
theorem wp_odd {α : Type} {r : Zd} {a n : Int} {f : Bool × Zd → Option (α × Zd)} {Q : α → Zd → Prop} (h : RdOk n r) (hn : n ≤ 1000000)
  (hk : ∀ b r', RdOk (n + 1) r' → Wp (f (b, r')) Q) : Wp ((Zaj r a).bind f) Q := by
 obtain ⟨k, r', e, h1⟩ := odd_ok h hn a
 rw [e, Option.bind_some]
 exact hk k r' h1
theorem wp_bif {α : Type} {c : Bool} {a b : Option (α × Zd)} {Q : α → Zd → Prop} (h1 : c = true → Wp a Q) (h2 : c = false → Wp b Q) : Wp (bif c then a else b) Q := by
 cases c with
 | true => exact h1 rfl
 | false => exact h2 rfl
theorem wp_app {α β : Type} {xs ys : List β} {f : List β → Option (α × Zd)} {Q : α → Zd → Prop} (h : xs.length + ys.length < 68719476736) (hk : Wp (f (xs ++ ys)) Q) : Wp ((app xs ys).bind f) Q := by
 rw [app_lt h, Option.bind_some]
 exact hk
theorem wp_addS {α : Type} {a b : ByteArray} {f : ByteArray → Option (α × Zd)} {Q : α → Zd → Prop} (h : a.size + b.size ≤ 1000000) (hk : ∀ s, s.size = a.size + b.size → Wp (f s) Q) : Wp ((addS a b).bind f) Q := by
 have e : addS a b = some (a ++ b) := if_pos (by omega)
 rw [e, Option.bind_some]
 exact hk _ ByteArray.size_append
theorem wp_getI {α β : Type} {xs : List β} {i : Int} {f : β → Option (α × Zd)} {Q : α → Zd → Prop} (h0 : 0 ≤ i) (h1 : i < xs.length) (hk : ∀ x ∈ xs, Wp (f x) Q) : Wp ((getI xs i).bind f) Q := by
 obtain ⟨x, h, hx⟩ := getI_lt h0 h1
 rw [h, Option.bind_some]
 exact hk x (List.mem_of_getElem? hx)
theorem wp_then {α β : Type} {m : Option (β × Zd)} {f : β × Zd → Option (α × Zd)} {P : β → Zd → Prop} {Q : α → Zd → Prop} (h : Wp m P) (hk : ∀ x r, P x r → Wp (f (x, r)) Q) : Wp (m.bind f) Q := by
 obtain ⟨x, r, e, hp⟩ := h
 rw [e, Option.bind_some]
 exact hk x r hp
theorem wp_mono {α : Type} {m : Option (α × Zd)} {P Q : α → Zd → Prop} (h : Wp m P) (hk : ∀ x r, P x r → Q x r) : Wp m Q := by
 obtain ⟨x, r, e, hp⟩ := h
 exact ⟨x, r, e, hk x r hp⟩
theorem loop_down {σ β : Type} {L : Nat → Int → σ → Option (β × Zd)} {Q : β → Zd → Prop} (Inv : Nat → σ → Prop)
  (h : ∀ (f k : Nat) (s : σ), k ≤ 1000000 → w64 (((k + 1 : Nat) : Int) - 1) = (k : Int) → Inv (k + 1) s → (∀ s', Inv k s' → Wp (L f (k : Int) s') Q) → Wp (L (f + 1) ((k + 1 : Nat) : Int) s) Q)
  (he : ∀ (f : Nat) (s : σ), Inv 0 s → Wp (L (f + 1) 0 s) Q) (k : Nat) (s : σ) (hI : Inv k s) (hk : k ≤ 1000000) : Wp (L FUEL (k : Int) s) Q := by
 have main : ∀ (k f : Nat) (s : σ), k < f → k ≤ 1000000 → Inv k s → Wp (L f (k : Int) s) Q := by
  intro k
  induction k with
  | zero =>
   intro f s hf _ hI
   obtain ⟨f, rfl⟩ : ∃ f', f = f' + 1 := ⟨f - 1, by omega⟩
   exact he f s hI
  | succ k ih =>
   intro f s hf hk hI
   obtain ⟨f, rfl⟩ : ∃ f', f = f' + 1 := ⟨f - 1, by omega⟩
   exact h f k s (by omega) (by rw [w64_of] <;> omega) hI fun s' hI' => ih f s' (by omega) (by omega) hI'
 exact main k FUEL s (by unfold FUEL; omega) hk hI
theorem columns_ok {n : Int} {r : Zd} (h : RdOk n r) (hn : n ≤ 900000) (a : Int) : Wp (spec_l20Columns r a) fun cs r' => RdOk (n + 9) r' ∧ 1 ≤ cs.length ∧ cs.length ≤ 6 := by
 unfold spec_l20Columns
 refine Zav h (by omega) fun v r1 h1 v0 _ v1 => ?_
 have v1 := v1 (by omega)
 have e : w64 (1 + v) = ((v.toNat + 1 : Nat) : Int) := by rw [w64_of (by omega) (by omega)]; omega
 simp only
 rw [e]
 have := loop_down (L := fun f i (s : Zd × List Zf) => spec_l20Columns_l0 a f i s.1 s.2) (Q := fun cs r' => RdOk (n + 9) r' ∧ 1 ≤ cs.length ∧ cs.length ≤ 6)
  (fun k s => RdOk (n + 1 + 2 * (3 - k)) s.1 ∧ s.2.length + k = v.toNat + 1)
  (fun f k s hk hw hI hrec => by
   obtain ⟨r, xs⟩ := s
   obtain ⟨hI1, hI2⟩ := hI
   simp only at hI1 hI2 ⊢
   rw [spec_l20Columns_l0, decide_eq_true (by omega), cond_true]
   refine Zav hI1 (by omega) fun k1 r1 h1 p0 _ p1 => ?_
   refine wp_getI p0 (by have := p1 (by omega); simp; omega) fun c hc => ?_
   refine Zav h1 (by omega) fun k2 r2 h2 q0 _ q1 => ?_
   refine wp_app (by simp; omega) ?_
   simp only [hw]
   exact hrec (r2, _) ⟨h2.up (by (try simp only); omega), by simp; omega⟩)
  (fun f s hI => by
   obtain ⟨r, xs⟩ := s
   obtain ⟨hI1, hI2⟩ := hI
   simp only at hI1 hI2 ⊢
   rw [spec_l20Columns_l0, decide_eq_false (by omega), cond_false]
   refine wp_odd hI1 (by omega) fun b r1 h1 => wp_bif (fun _ => ?_) fun _ => ?_
   ·refine Zav h1 (by omega) fun k1 r2 h2 _ _ _ => wp_app (by simp; omega) (wp_some ⟨h2.up (by omega), ?_, ?_⟩)
    ·simp
    ·simp; omega
   ·exact wp_some ⟨h1.up (by omega), by omega, by omega⟩)
  (v.toNat + 1) (r1, []) ⟨h1.up (by (try simp only); omega), by simp⟩ (by omega)
 exact this
theorem like_ok {n : Int} {r : Zd} (h : RdOk n r) (hn : n ≤ 900000) (c : Zf) : Wp (spec_l20Like r c) fun v r' => RdOk (n + 2) r' ∧ v.fS.size ≤ 2 := by
 have e0 : (ByteArray.mk #[]).size = 0 := rfl
 have key : ∀ (m : Int) (r : Zd) (b : Bool), RdOk m r → m ≤ n + 1 → Wp (spec_l20Like_j0 c b r) fun v r' => RdOk (n + 2) r' ∧ v.fS.size ≤ 2 := by
  intro m r b h hm
  unfold spec_l20Like_j0
  refine wp_bif (fun _ => wp_some ⟨h.up (by omega), by simp [e0]⟩) fun _ => wp_bif (fun _ => ?_) fun _ => wp_bif (fun _ => ?_) fun _ => ?_
  ·exact Zav h (by omega) fun k r1 h1 _ _ _ => wp_some ⟨h1.up (by omega), by simp [e0]⟩
  ·refine Zav h (by omega) fun k r1 h1 p0 _ p1 => wp_getI p0 (by have := p1 (by omega); simp; omega) fun s hs => wp_some ⟨h1.up (by omega), ?_⟩
   simp only [List.mem_cons, List.not_mem_nil, or_false] at hs
   rcases hs with rfl | rfl | rfl | rfl <;> decide
  ·exact Zav h (by omega) fun k r1 h1 _ _ _ => wp_some ⟨h1.up (by omega), by simp [e0]⟩
 unfold spec_l20Like
 refine wp_bif (fun _ => Zav h (by omega) fun k r1 h1 _ _ _ => key _ _ _ h1 (by omega)) fun _ => key _ _ _ h (by omega)
theorem value_j0 {n : Int} {r : Zd} (h : RdOk n r) (hn : n ≤ 900000) (a : Int) {v : Za} (hv : v.fS.size ≤ 3) : Wp (Zbe a r v) fun v r' => RdOk (n + 3) r' ∧ v.fS.size ≤ 10 := by
 unfold Zbe
 have e1 : (ByteArray.mk #[97, 98, 99, 100, 101, 102, 103]).size = 7 := rfl
 have e2 : (ByteArray.mk #[65]).size = 1 := rfl
 refine wp_odd h (by omega) fun b r1 h1 => wp_bif (fun _ => ?_) fun _ => wp_some ⟨h1.up (by omega), by omega⟩
 refine Zav h1 (by omega) fun k r2 h2 _ _ _ => wp_bif (fun _ => wp_some ⟨h2.up (by omega), by simp only; omega⟩) fun _ => wp_bif (fun _ => ?_) fun _ => wp_bif (fun _ => ?_) fun _ => ?_
 ·exact wp_addS (by omega) fun s hs => wp_some ⟨h2.up (by omega), by simp only; omega⟩
 ·exact Zav h2 (by omega) fun k r3 h3 _ _ _ => wp_some ⟨h3.up (by omega), by simp only; omega⟩
 ·exact wp_addS (by omega) fun s hs => wp_some ⟨h2.up (by omega), by simp only; omega⟩
theorem value_ok {n : Int} {r : Zd} (h : RdOk n r) (hn : n ≤ 800000) (a : Int) : Wp (spec_l20Value r a) fun v r' => RdOk (n + 9) r' ∧ v.fS.size ≤ 10 := by
 have e0 : (ByteArray.mk #[]).size = 0 := rfl
 have fin : ∀ (m : Int) (r : Zd) (v : Za), RdOk m r → m ≤ n + 6 → v.fS.size ≤ 3 → Wp (Zbe a r v) fun v r' => RdOk (n + 9) r' ∧ v.fS.size ≤ 10 :=
  fun m r v h hm hv => wp_mono (value_j0 h (by omega) a hv) fun v r' hq => ⟨hq.1.up (by omega), hq.2⟩
 have j2 : ∀ (x : Int × Zd) (b : Bool), RdOk (n + 1) x.2 → Wp (spec_l20Value_j2 a x b) fun v r' => RdOk (n + 9) r' ∧ v.fS.size ≤ 10 := by
  intro x b hx
  have j3 : ∀ b, Wp (spec_l20Value_j3 a x b) fun v r' => RdOk (n + 9) r' ∧ v.fS.size ≤ 10 := by
   intro b
   unfold spec_l20Value_j3
   refine wp_bif (fun _ => ?_) fun _ => Zav hx (by omega) fun k r1 h1 _ _ _ => fin _ _ _ h1 (by omega) (by simp [e0])
   refine Zav hx (by omega) fun k r1 h1 p0 _ p1 => ?_
   have p1 := p1 (by omega)
   have e : k = ((k.toNat : Nat) : Int) := by omega
   simp only
   rw [e]
   have := loop_down (L := fun f i (s : Zd × Za) => spec_l20Value_l4 a f i s.1 s.2) (Q := fun v r' => RdOk (n + 9) r' ∧ v.fS.size ≤ 10)
    (fun k s => k ≤ 3 ∧ RdOk (n + 2 + (3 - k)) s.1 ∧ s.2.fS.size + k ≤ 3)
    (fun f k s hk hw hI hrec => by
     obtain ⟨r, v⟩ := s
     obtain ⟨hI0, hI1, hI2⟩ := hI
     simp only at hI1 hI2 ⊢
     have es : ∀ b : UInt8, (ByteArray.mk (List.toArray ([b] : List UInt8))).size = 1 := fun _ => rfl
     rw [spec_l20Value_l4, decide_eq_true (by omega), cond_true]
     refine Zav hI1 (by omega) fun k1 r1 h1 _ _ _ => wp_addS (by rw [es]; omega) fun s hs => ?_
     rw [es] at hs
     simp only [hw]
     exact hrec (r1, _) ⟨by omega, h1.up (by omega), by simp only; omega⟩)
    (fun f s hI => by
     obtain ⟨r, v⟩ := s
     obtain ⟨hI0, hI1, hI2⟩ := hI
     simp only at hI1 hI2 ⊢
     rw [spec_l20Value_l4, decide_eq_false (by omega), cond_false]
     exact fin _ _ _ hI1 (by omega) (by omega))
    k.toNat (r1, Za.mk 2 0 (ByteArray.mk #[])) ⟨by omega, h1.up (by omega), by simp only [e0]; omega⟩ (by omega)
   exact this
  unfold spec_l20Value_j2
  refine wp_bif (fun _ => ?_) fun _ => wp_bif (fun _ => j3 _) fun _ => j3 _
  refine Zav hx (by omega) fun k r1 h1 _ _ _ => Zav h1 (by omega) fun k2 r2 h2 _ _ _ => wp_bif (fun _ => ?_) fun _ => fin _ _ _ h2 (by omega) (by simp [e0])
  exact Zav h2 (by omega) fun k3 r3 h3 p0 _ p1 => wp_getI p0 (by have := p1 (by omega); simp; omega) fun x hx => fin _ _ _ h3 (by omega) (by simp [e0])
 unfold spec_l20Value
 refine Zav h (by omega) fun k r1 h1 _ _ _ => wp_bif (fun _ => fin _ _ _ h1 (by omega) (by simp [e0])) fun _ => wp_bif (fun _ => j2 _ _ h1) fun _ => wp_bif (fun _ => j2 _ _ h1) fun _ => j2 _ _ h1
end Go.D
set_option linter.unusedVariables false
namespace Go.D
theorem loop_up {γ σ β : Type} {xs : List γ} {L : Nat → Int → σ → Option (β × Zd)} {Q : β → Zd → Prop} (Inv : Nat → σ → Prop) (hlen : xs.length ≤ 1000000)
  (h : ∀ (f i : Nat) (s : σ) (v : γ), i < xs.length → xs[i]? = some v → w64 ((i : Int) + 1) = ((i + 1 : Nat) : Int) → Inv i s → (∀ s', Inv (i + 1) s' → Wp (L f ((i + 1 : Nat) : Int) s') Q) → Wp (L (f + 1) (i : Int) s) Q)
  (he : ∀ (f : Nat) (s : σ), Inv xs.length s → Wp (L (f + 1) (xs.length : Int) s) Q) (s : σ) (h0 : Inv 0 s) : Wp (L FUEL 0 s) Q := by
 have main : ∀ (k f i : Nat) (s : σ), i + k = xs.length → k < f → Inv i s → Wp (L f (i : Int) s) Q := by
  intro k
  induction k with
  | zero =>
   intro f i s hi hf hI
   obtain ⟨f, rfl⟩ : ∃ f', f = f' + 1 := ⟨f - 1, by omega⟩
   have : i = xs.length := by omega
   subst this
   exact he f s hI
  | succ k ih =>
   intro f i s hi hf hI
   obtain ⟨f, rfl⟩ : ∃ f', f = f' + 1 := ⟨f - 1, by omega⟩
   have hlt : i < xs.length := by omega
   exact h f i s xs[i] hlt (List.getElem?_eq_getElem hlt) (succ_w hlt (by omega)) hI fun s' hI' => ih f (i + 1) s' (by omega) (by omega) hI'
 exact main xs.length FUEL 0 s (by omega) (by unfold FUEL; omega) h0
def Sr (m : Nat) (row : List Za) : Prop := row.length ≤ m ∧ ∀ v ∈ row, v.fS.size ≤ 10
theorem Sr.sm {m : Nat} {row : List Za} (h : Sr m row) (hm : m ≤ 1000) : SmR row := ⟨by have := h.1; omega, fun v hv => by have := h.2 v hv; unfold SmV; omega⟩
theorem Sr.app {m k : Nat} {row r2 : List Za} (h : Sr m row) (h2 : Sr k r2) : Sr (m + k) (row ++ r2) := ⟨by have := h.1; have := h2.1; rw [List.length_append]; omega, fun v hv => (List.mem_append.1 hv).elim (h.2 v) (h2.2 v)⟩
theorem Sr.one {v : Za} (h : v.fS.size ≤ 10) : Sr 1 [v] := ⟨by simp, fun u hu => by simp at hu; subst hu; exact h⟩
theorem fit_ok {n : Int} {r : Zd} (h : RdOk n r) (hn : n ≤ 700000) {cs : List Zf} (hc : cs.length ≤ 6) (a : Int) : Wp (spec_l20Fit r cs a) fun row r' => RdOk (n + 41) r' ∧ Sr 9 row := by
 unfold spec_l20Fit
 have e0 : (ByteArray.mk #[]).size = 0 := rfl
 exact loop_up (xs := cs) (L := fun f i (s : Zd × List Za) => spec_l20Fit_l0 cs a f i s.1 s.2) (Q := fun row r' => RdOk (n + 41) r' ∧ Sr 9 row)
  (fun i s => RdOk (n + 2 * i) s.1 ∧ Sr i s.2 ∧ s.2.length = i) (by omega)
  (fun f i s c hi hv hw hI hrec => by
   obtain ⟨r, row⟩ := s
   obtain ⟨h1, h2, h3⟩ := hI
   simp only at h1 h2 h3 ⊢
   rw [spec_l20Fit_l0, decide_eq_true (by omega), cond_true, Zai, hv, Option.bind_some]
   refine wp_then (like_ok h1 (by omega) c) fun v r1 hq => wp_app (by simp; omega) ?_
   simp only [hw]
   exact hrec (r1, _) ⟨hq.1.up (by omega), h2.app (.one (Nat.le_trans hq.2 (by omega))), by simp; omega⟩)
  (fun f s hI => by
   obtain ⟨r, row⟩ := s
   obtain ⟨h1, h2, h3⟩ := hI
   simp only at h1 h2 h3 ⊢
   have h9 : Sr 9 row := ⟨by omega, h2.2⟩
   rw [spec_l20Fit_l0, decide_eq_false (Int.lt_irrefl _), cond_false]
   refine wp_odd h1 (by omega) fun b r1 g1 => wp_bif (fun _ => ?_) fun _ => wp_some ⟨g1.up (by omega), h9⟩
   refine Zav g1 (by omega) fun k r2 g2 _ _ _ => wp_bif (fun _ => ?_) fun _ => wp_bif (fun _ => wp_bif (fun hp => ?_) fun _ => ?_) fun _ => ?_
   ·exact wp_app (by simp; omega) (wp_some ⟨g2.up (by omega), by have := (h2.app (.one (v := Za.mk 0 0 (ByteArray.mk #[])) (by simp [e0]))).1; simp at this ⊢; exact ⟨by simp; omega, (h2.app (.one (v := Za.mk 0 0 (ByteArray.mk #[])) (by simp [e0]))).2⟩⟩)
   ·have hp := of_decide_eq_true hp
    refine Zav g2 (by omega) fun k2 r3 g3 p0 _ p1 => wp_then (value_ok g3 (by omega) 3) fun v r4 hq => wp_getI p0 (p1 (by omega)) fun o ho => wp_some ⟨hq.1.up (by omega), ?_, ?_⟩
    ·rw [List.length_set]; omega
    ·intro u hu
     rcases List.mem_or_eq_of_mem_set hu with hu | rfl
     ·exact h2.2 u hu
     ·exact hq.2
   ·exact wp_some ⟨g2.up (by omega), h9⟩
   ·refine wp_then (value_ok g2 (by omega) 0) fun v1 r3 q1 => wp_then (value_ok q1.1 (by omega) 0) fun v2 r4 q2 => wp_then (value_ok q2.1 (by omega) 0) fun v3 r5 q3 => wp_app (by simp; omega) (wp_some ⟨q3.1.up (by omega), ?_⟩)
    have hs : Sr 3 [v1, v2, v3] := ⟨by simp, fun u hu => by
     simp only [List.mem_cons, List.not_mem_nil, or_false] at hu
     rcases hu with rfl | rfl | rfl
     ·exact q1.2
     ·exact q2.2
     ·exact q3.2⟩
    have := h2.app hs
    exact ⟨by have := this.1; simp at this ⊢; omega, this.2⟩) (r, []) ⟨h.up (by simp), ⟨by simp, fun v hv => by cases hv⟩, rfl⟩
def Srs (rows : List (List Za)) : Prop := rows.length ≤ 6 ∧ ∀ r ∈ rows, Sr 9 r
theorem own_ok {a : List Za} (ha : Sr 9 a) : spec_l3Own a = some a := by
 unfold spec_l3Own
 rw [app_lt (by have := ha.1; simp; omega), List.nil_append, Option.bind_some]
theorem bag_ok {n : Int} {r : Zd} (h : RdOk n r) (hn : n ≤ 600000) {cs : List Zf} (hc : cs.length ≤ 6) (a : Int) : Wp (spec_l20Bag r cs a) fun rows r' => RdOk (n + 260) r' ∧ Srs rows := by
 unfold spec_l20Bag
 refine Zav h (by omega) fun v r1 h1 v0 _ v1 => ?_
 have v1 := v1 (by omega)
 have e : v = ((v.toNat : Nat) : Int) := by omega
 simp only
 rw [e]
 exact loop_down (L := fun f i (s : Zd × List (List Za)) => Zbd cs a f i s.1 s.2) (Q := fun rows r' => RdOk (n + 260) r' ∧ Srs rows)
  (fun k s => k ≤ 6 ∧ RdOk (n + 1 + 43 * (6 - k)) s.1 ∧ s.2.length + k ≤ 6 ∧ ∀ r ∈ s.2, Sr 9 r)
  (fun f k s hk hw hI hrec => by
   obtain ⟨r, rows⟩ := s
   obtain ⟨i0, i1, i2, i3⟩ := hI
   simp only at i1 i2 i3 ⊢
   have add : ∀ (m : Int) (r' : Zd) (row : List Za), RdOk m r' → m ≤ n + 1 + 43 * (6 - (k + 1 : Nat)) + 43 → Sr 9 row → Wp (spec_l20Bag_j1 ((k + 1 : Nat) : Int) (Zbd cs a f) r' (rows ++ [row])) fun rows r' => RdOk (n + 260) r' ∧ Srs rows := by
    intro m r' row hr hm hs
    unfold spec_l20Bag_j1
    rw [hw]
    refine hrec (r', _) ⟨by omega, hr.up (by omega), by simp; omega, fun u hu => ?_⟩
    rcases List.mem_append.1 hu with hu | hu
    ·exact i3 u hu
    ·have : u = row := by simpa using hu
     rw [this]; exact hs
   have j2 : ∀ (m : Int) (r' : Zd) (b : Bool), RdOk m r' → m ≤ n + 1 + 43 * (6 - (k + 1 : Nat)) + 1 → (b = true → 0 < rows.length) → Wp (spec_l20Bag_j2 cs a ((k + 1 : Nat) : Int) rows (Zbd cs a f) b r') fun rows r' => RdOk (n + 260) r' ∧ Srs rows := by
    intro m r' b hr hm hb
    unfold spec_l20Bag_j2
    refine wp_bif (fun hbt => ?_) fun _ => ?_
    ·have := hb hbt
     refine Zav hr (by omega) fun k2 r3 g3 p0 _ p1 => wp_getI p0 (p1 (by omega)) fun row hrow => ?_
     rw [own_ok (i3 row hrow), Option.bind_some]
     exact wp_app (by simp; omega) (add _ _ _ g3 (by omega) (i3 row hrow))
    ·exact wp_then (fit_ok hr (by omega) hc a) fun row r3 hq => wp_app (by simp; omega) (add _ _ _ hq.1 (by omega) hq.2)
   rw [Zbd, decide_eq_true (by omega), cond_true]
   refine wp_bif (fun hp => ?_) fun _ => j2 _ _ _ i1 (by omega) (fun h => by cases h)
   have hp := of_decide_eq_true hp
   exact Zav i1 (by omega) fun k2 r3 g3 _ _ _ => j2 _ _ _ g3 (by omega) (fun _ => by omega))
  (fun f s hI => by
   obtain ⟨r, rows⟩ := s
   obtain ⟨i0, i1, i2, i3⟩ := hI
   simp only at i1 i2 i3 ⊢
   rw [Zbd, decide_eq_false (by omega), cond_false]
   exact wp_some ⟨i1.up (by omega), by omega, i3⟩)
  v.toNat (r1, []) ⟨by omega, h1.up (by omega), by simp; omega, fun r hr => by cases hr⟩ (by omega)
structure TbOk (t : Ze) : Prop where
 c1 : 1 ≤ t.fColumns.length
 c2 : t.fColumns.length ≤ 6
 rs : Srs t.fRows
theorem TbOk.sm {t : Ze} (h : TbOk t) : SmT t := ⟨by have := h.c2; omega, by have := h.rs.1; omega, fun r hr => (h.rs.2 r hr).sm (by omega)⟩
theorem tables_ok {n : Int} {r : Zd} (h : RdOk n r) (hn : n ≤ 500000) : Wp (spec_l20Tables r 0) fun ts r' => RdOk (n + 811) r' ∧ 1 ≤ ts.length ∧ ts.length ≤ 3 ∧ ∀ t ∈ ts, TbOk t := by
 unfold spec_l20Tables
 refine Zav h (by omega) fun v r1 h1 v0 _ v1 => ?_
 have v1 := v1 (by omega)
 have e : w64 (1 + v) = ((v.toNat + 1 : Nat) : Int) := by rw [w64_of (by omega) (by omega)]; omega
 simp only
 rw [e]
 exact loop_down (L := fun f i (s : Zd × List Ze) => spec_l20Tables_l0 0 f i s.1 s.2) (Q := fun ts r' => RdOk (n + 811) r' ∧ 1 ≤ ts.length ∧ ts.length ≤ 3 ∧ ∀ t ∈ ts, TbOk t)
  (fun k s => RdOk (n + 1 + 270 * (3 - k)) s.1 ∧ s.2.length + k = v.toNat + 1 ∧ ∀ t ∈ s.2, TbOk t)
  (fun f k s hk hw hI hrec => by
   obtain ⟨r, ts⟩ := s
   obtain ⟨i1, i2, i3⟩ := hI
   simp only at i1 i2 i3 ⊢
   rw [spec_l20Tables_l0, decide_eq_true (by omega), cond_true]
   refine wp_then (columns_ok i1 (by omega) 0) fun cs r2 q2 => Zav q2.1 (by omega) fun k2 r3 g3 p0 _ p1 => ?_
   obtain ⟨m, em, m0, m1⟩ := remI_pos (a := k2) (b := (cs.length : Int)) p0 (by have := q2.2.1; omega)
   have e2 : w64 (1 + m) = 1 + m := w64_of (by omega) (by have := q2.2.2; omega)
   have e3 : slI cs none (some (1 + m)) none = some (cs.take (1 + m).toNat) := by
    unfold slI
    rw [if_pos (by simp only [Option.getD_none, Option.getD_some]; omega)]
    simp
   simp only [em, Option.bind_some, e2, e3]
   have hcl : 1 ≤ (cs.take (1 + m).toNat).length ∧ (cs.take (1 + m).toNat).length ≤ 6 := by
    rw [List.length_take]
    have := q2.2
    omega
   refine wp_then (bag_ok g3 (by omega) hcl.2 0) fun rows r4 q4 => wp_app (by simp; omega) ?_
   simp only [hw]
   refine hrec (r4, _) ⟨q4.1.up (by omega), by simp; omega, fun t ht => ?_⟩
   rcases List.mem_append.1 ht with ht | ht
   ·exact i3 t ht
   ·have : t = ⟨cs.take (1 + m).toNat, rows⟩ := by simpa using ht
    rw [this]
    exact ⟨hcl.1, hcl.2, q4.2⟩)
  (fun f s hI => by
   obtain ⟨r, ts⟩ := s
   obtain ⟨i1, i2, i3⟩ := hI
   simp only at i1 i2 i3 ⊢
   rw [spec_l20Tables_l0, decide_eq_false (by omega), cond_false, odd_no, Option.bind_some]
   exact wp_some ⟨i1.up (by omega), by omega, by omega, i3⟩)
  (v.toNat + 1) (r1, []) ⟨h1.up (by omega), by simp, fun t ht => by cases ht⟩ (by omega)
end Go.D
set_option linter.unusedVariables false
namespace Go.D
theorem leaf_ok {n : Int} {r : Zd} (h : RdOk n r) (hn : n ≤ 400000) (cs : List Zf) (hc : cs.length ≤ 100) (kd : Int) : Wp (spec_l20Leaf r cs kd) fun p r' => RdOk (n + 10) r' ∧ SmP p := by
 unfold spec_l20Leaf
 have e0 : (ByteArray.mk #[]).size = 0 := rfl
 have j1 : ∀ (m : Int) (r : Zd) (x : Int) (K : Int → Zd → Option (Zc × Zd)) (b : Bool), RdOk m r → m ≤ n + 8 → (b = true → 0 < cs.length) → (b = true → ∀ r', RdOk (m + 2) r' → Wp (K (w64 (x + 1)) r') fun p r' => RdOk (n + 10) r' ∧ SmP p) →
   Wp (spec_l20Leaf_j1 cs kd x r K b) fun p r' => RdOk (n + 10) r' ∧ SmP p := by
  intro m r x K b hr hm hb hK
  unfold spec_l20Leaf_j1
  refine wp_bif (fun hbt => ?_) fun _ => wp_then (like_ok hr (by omega) _) fun v r1 hq => wp_some ⟨hq.1.up (by omega), by have := hq.2; unfold SmP SmV; simp only; omega⟩
  have hpos := hb hbt
  refine Zav hr (by omega) fun k r1 g1 p0 _ p1 => wp_getI p0 (p1 (by omega)) fun c _ => ?_
  have j2 : ∀ (r2 : Zd) (b2 : Bool), RdOk (m + 2) r2 → Wp (spec_l20Leaf_j2 x K (k, r1) b2 r2) fun p r' => RdOk (n + 10) r' ∧ SmP p := by
   intro r2 b2 h2
   unfold spec_l20Leaf_j2
   exact wp_bif (fun _ => wp_some ⟨h2.up (by omega), by unfold SmP SmV; simp only [e0]; omega⟩) fun _ => hK hbt r2 h2
  refine wp_bif (fun _ => Zav g1 (by omega) fun k2 r2 g2 _ _ _ => j2 _ _ (g2.up (by omega))) fun _ => j2 _ _ (g1.up (by omega))
 have main : ∀ (k f : Nat) (i : Nat) (r : Zd), i + k = 4 → k < f → RdOk (n + 2 * i) r → Wp (spec_l20Leaf_l0 cs kd f (i : Int) r) fun p r' => RdOk (n + 10) r' ∧ SmP p := by
  intro k
  induction k with
  | zero =>
   intro f i r hi hf hr
   obtain ⟨f, rfl⟩ : ∃ f', f = f' + 1 := ⟨f - 1, by omega⟩
   rw [spec_l20Leaf_l0, decide_eq_false (by omega), cond_false]
   exact j1 _ _ _ _ _ hr (by omega) (fun h => by cases h) (fun h => by cases h)
  | succ k ih =>
   intro f i r hi hf hr
   obtain ⟨f, rfl⟩ : ∃ f', f = f' + 1 := ⟨f - 1, by omega⟩
   have hw : w64 ((i : Int) + 1) = ((i + 1 : Nat) : Int) := by rw [w64_of] <;> omega
   rw [spec_l20Leaf_l0, decide_eq_true (by omega), cond_true]
   refine j1 _ _ _ _ _ hr (by omega) (fun h => by have := of_decide_eq_true h; omega) (fun _ r' hr' => ?_)
   rw [hw]
   exact ih f (i + 1) r' (by omega) (by omega) (hr'.up (by omega))
 exact main 4 FUEL 0 r rfl (by unfold FUEL; omega) (h.up (by simp))
def costE : Nat → Int
 | 0 => 12
 | d + 1 => 2 * costE d + 24
def lenE : Nat → Nat
 | 0 => 1
 | d + 1 => 2 * lenE d + 2
theorem costE_pos : ∀ d, 12 ≤ costE d
 | 0 => by simp [costE]
 | d + 1 => by have := costE_pos d; simp only [costE]; omega
theorem lenE_pos : ∀ d, 1 ≤ lenE d
 | 0 => by simp [lenE]
 | d + 1 => by simp only [lenE]; omega
def ExOk (l : Nat) (e : List Zc) : Prop := e.length ≤ l ∧ ∀ p ∈ e, SmP p
theorem ExOk.app {k l : Nat} {a b : List Zc} (h : ExOk k a) (h2 : ExOk l b) : ExOk (k + l) (a ++ b) := ⟨by have := h.1; have := h2.1; rw [List.length_append]; omega, fun v hv => (List.mem_append.1 hv).elim (h.2 v) (h2.2 v)⟩
theorem ExOk.one {p : Zc} (h : SmP p) : ExOk 1 [p] := ⟨by simp, fun u hu => by simp at hu; subst hu; exact h⟩
theorem ExOk.up {k l : Nat} {a : List Zc} (h : ExOk k a) (hl : k ≤ l) : ExOk l a := ⟨Nat.le_trans h.1 hl, h.2⟩
theorem smP_op (k n : Int) : SmP (Zc.mk k n (Za.mk 0 0 (ByteArray.mk #[]))) := by
 have e0 : (ByteArray.mk #[]).size = 0 := rfl
 unfold SmP SmV
 simp only [e0]
 omega
theorem expr_ok {cs : List Zf} (hc : cs.length ≤ 100) : ∀ (d f : Nat) (n : Int) (r : Zd) (kd a : Int), d ≤ 4 → d < f → a ≤ d → -5 ≤ a → RdOk n r → n + costE d ≤ 300000 → Wp (spec_l20Expr_f f r cs kd a) fun e r' => RdOk (n + costE d) r' ∧ ExOk (lenE d) e
 | d, 0, n, r, kd, a, _, hf, _, _, _, _ => absurd hf (Nat.not_lt_zero _)
 | 0, f + 1, n, r, kd, a, _, _, ha, _, hr, hn => by
  have c0 : costE 0 = 12 := rfl
  rw [spec_l20Expr_f]
  unfold spec_l20Expr_s
  rw [decide_eq_true (by omega), cond_true]
  unfold spec_l20Expr_j0
  rw [cond_true]
  exact wp_then (leaf_ok hr (by omega) cs hc kd) fun p r1 hq => wp_some ⟨hq.1.up (by omega), (ExOk.one hq.2).up (by simp [lenE])⟩
 | d + 1, f + 1, n, r, kd, a, hd, hf, ha, ha2, hr, hn => by
  have cp := costE_pos d
  have lp := lenE_pos d
  have c4 : costE d ≤ 500 := by
   match d, hd with
   | 0, _ => simp [costE]
   | 1, _ => simp [costE]
   | 2, _ => simp [costE]
   | 3, _ => simp [costE]
  have ce : costE (d + 1) = 2 * costE d + 24 := rfl
  have le : lenE (d + 1) = 2 * lenE d + 2 := rfl
  have l4 : lenE d ≤ 100 := by
   match d, hd with
   | 0, _ => simp [lenE]
   | 1, _ => simp [lenE]
   | 2, _ => simp [lenE]
   | 3, _ => simp [lenE]
  have leafE : ∀ (m : Int) (r : Zd) (k : Int), RdOk m r → m ≤ n + 2 → Wp ((spec_l20Leaf r cs k).bind fun v4 => some (([v4.1] : List Zc), v4.2)) fun e r' => RdOk (n + costE (d + 1)) r' ∧ ExOk (lenE (d + 1)) e := by
   intro m r k hr hm
   exact wp_then (leaf_ok hr (by omega) cs hc k) fun p r1 hq => wp_some ⟨hq.1.up (by omega), (ExOk.one hq.2).up (by omega)⟩
  rw [spec_l20Expr_f]
  unfold spec_l20Expr_s
  by_cases h1 : a < 1
  ·rw [decide_eq_true h1, cond_true]
   unfold spec_l20Expr_j0
   rw [cond_true]
   exact leafE _ _ _ hr (by omega)
  rw [decide_eq_false h1, cond_false]
  have w1 : w64 (a - 1) = a - 1 := w64_of (by omega) (by omega)
  have w2 : w64 (a - 2) = a - 2 := w64_of (by omega) (by omega)
  have ih := fun (n : Int) (r : Zd) (k b : Int) (hb : b ≤ d) (hb2 : -5 ≤ b) (hr : RdOk n r) (hn : n + costE d ≤ 300000) => expr_ok hc d f n r k b (by omega) (by omega) hb hb2 hr hn
  refine Zav hr (by omega) fun k0 r0 g0 _ _ _ => ?_
  unfold spec_l20Expr_j0
  simp only [w1, w2]
  refine wp_bif (fun _ => leafE _ _ _ g0 (by omega)) fun _ => wp_bif (fun _ => ?_) fun _ => wp_bif (fun _ => leafE _ _ _ g0 (by omega)) fun _ => ?_
  ·refine wp_then (ih _ _ kd (a - 1) (by omega) (by omega) g0 (by omega)) fun e1 r1 q1 => wp_then (leaf_ok q1.1 (by omega) cs hc kd) fun p r2 q2 => ?_
   have x1 := q1.2.app (ExOk.one q2.2)
   have x2 := x1.app (ExOk.one (smP_op 3 0))
   have l1 := q1.2.1
   refine wp_app (by simp; omega) (wp_app (by simp; omega) (wp_some ⟨q2.1.up (by omega), x2.up (by omega)⟩))
  ·refine Zav g0 (by omega) fun k1 r1 g1 _ _ _ => wp_bif (fun _ => ?_) fun _ => wp_bif (fun _ => ?_) fun _ => wp_bif (fun _ => ?_) fun _ => ?_
   ·refine wp_then (ih _ _ 3 (a - 1) (by omega) (by omega) g1 (by omega)) fun e1 r2 q1 => wp_then (ih _ _ 3 (a - 2) (by omega) (by omega) q1.1 (by omega)) fun e2 r3 q2 => ?_
    have l1 := q1.2.1
    have l2 := q2.2.1
    refine wp_app (by (try simp only); omega) (Zav q2.1 (by omega) fun k2 r4 g4 _ _ _ => wp_app (by simp; omega) (wp_some ⟨g4.up (by omega), ((q1.2.app q2.2).app (ExOk.one (smP_op _ 0))).up (by omega)⟩))
   ·refine wp_then (ih _ _ 3 (a - 1) (by omega) (by omega) g1 (by omega)) fun e1 r2 q1 => ?_
    have l1 := q1.2.1
    exact wp_app (by simp; omega) (wp_some ⟨q1.1.up (by omega), (q1.2.app (ExOk.one (smP_op _ 0))).up (by omega)⟩)
   ·refine Zav g1 (by omega) fun k2 r2 g2 _ _ _ => wp_then (ih _ _ _ (a - 1) (by omega) (by omega) g2 (by omega)) fun e1 r3 q1 => ?_
    have l1 := q1.2.1
    exact wp_app (by simp; omega) (wp_some ⟨q1.1.up (by omega), (q1.2.app (ExOk.one (smP_op _ 0))).up (by omega)⟩)
   ·refine Zav g1 (by omega) fun k2 r2 g2 _ _ _ => wp_then (ih _ _ _ (a - 1) (by omega) (by omega) g2 (by omega)) fun e1 r3 q1 => wp_then (leaf_ok q1.1 (by omega) cs hc _) fun p r4 q2 => ?_
    have l1 := q1.2.1
    refine wp_app (by simp; omega) (Zav q2.1 (by omega) fun k3 r5 g5 _ _ _ => wp_app (by simp; omega) (wp_some ⟨g5.up (by omega), ((q1.2.app (ExOk.one q2.2)).app (ExOk.one (smP_op _ _))).up (by omega)⟩))
end Go.D
set_option linter.unusedVariables false
namespace Go.D
def Srn (n : Nat) (rows : List (List Za)) : Prop := rows.length ≤ n ∧ ∀ r ∈ rows, Sr 9 r
theorem Srn.up {m k : Nat} {a : List (List Za)} (h : Srn m a) (hm : m ≤ k) : Srn k a := ⟨Nat.le_trans h.1 hm, h.2⟩
theorem Srn.sm {m : Nat} {a : List (List Za)} (h : Srn m a) (hm : m ≤ 1000) : SmRs a := ⟨by have := h.1; omega, fun r hr => (h.2 r hr).sm (by omega)⟩
abbrev PairT := (List Zf) × (List Zf) × (List (List Za)) × (List (List Za)) × Int × Int
structure PairOk (x : PairT) : Prop where
 a1 : 1 ≤ x.1.length
 a2 : x.1.length ≤ 6
 b1 : 1 ≤ x.2.1.length
 b2 : x.2.1.length ≤ 6
 ra : Srn 12 x.2.2.1
 rb : Srn 7 x.2.2.2.1
abbrev TestT := (List Zf) × (List Zf) × (List (List Za)) × (List (List Za)) × (List Zc)
structure TestOk (x : TestT) : Prop where
 a1 : 1 ≤ x.1.length
 a2 : x.1.length ≤ 6
 b1 : 1 ≤ x.2.1.length
 b2 : x.2.1.length ≤ 7
 ra : Srn 13 x.2.2.1
 rb : Srn 7 x.2.2.2.1
 ex : ExOk 100 x.2.2.2.2
end Go.D
set_option linter.unusedVariables false
namespace Go.D
def KC (cs : List Zf) : Prop := ∀ c ∈ cs, inR c.fKind 1 3 = true
theorem KC.take {a : List Zf} (h : KC a) (n : Nat) : KC (a.take n) := fun c hc => h c (List.mem_of_mem_take hc)
theorem KC.set {a : List Zf} (h : KC a) (i : Nat) {c : Zf} (hc : inR c.fKind 1 3 = true) : KC (a.set i c) := fun d hd => (List.mem_or_eq_of_mem_set hd).elim (h d) fun e => e ▸ hc
structure FitR (cs : List Zf) (r : List Za) : Prop where
 l : r.length = cs.length
 v : ∀ v ∈ r, valOk v = true
 z : ((r.zip cs).all fun p => fits p.2 p.1) = true
theorem FitR.rowFits {cs : List Zf} {r : List Za} (h : FitR cs r) (hc : colsOk cs = true) : rowFits cs r = true := by
 have hl : cs.length ≤ 4 := by
  unfold colsOk at hc
  simp only [Bool.and_eq_true, decide_eq_true_eq] at hc
  exact hc.2
 unfold Go.D.rowFits rowOk
 rw [hc, h.z, List.all_eq_true.2 h.v, decide_eq_true (show r.length ≤ 4 by rw [h.l]; exact hl), h.l, beq_self_eq_true]
 rfl
def Fn (n : Nat) (cs : List Zf) (rows : List (List Za)) : Prop := rows.length ≤ n ∧ ∀ r ∈ rows, Sr 9 r ∧ FitR cs r
theorem Fn.srn {n : Nat} {cs : List Zf} {rows : List (List Za)} (h : Fn n cs rows) : Srn n rows := ⟨h.1, fun r hr => (h.2 r hr).1⟩
theorem Fn.rows {n : Nat} {cs : List Zf} {rows : List (List Za)} (h : Fn n cs rows) (hc : colsOk cs = true) : rowsOk cs rows = true := by
 unfold rowsOk
 rw [hc, List.all_eq_true.2 fun r hr => (h.2 r hr).2.rowFits hc]
 rfl
structure PairFit (x : PairT) : Prop where
 a1 : 1 ≤ x.1.length
 a2 : x.1.length ≤ 6
 b1 : 1 ≤ x.2.1.length
 b2 : x.2.1.length ≤ 6
 ka : KC x.1
 kb : KC x.2.1
 ra : Fn 12 x.1 x.2.2.1
 rb : Fn 6 x.2.1 x.2.2.2.1
structure TestFit (x : TestT) : Prop where
 a1 : 1 ≤ x.1.length
 a2 : x.1.length ≤ 6
 b1 : 1 ≤ x.2.1.length
 b2 : x.2.1.length ≤ 6
 ra : Fn 12 x.1 x.2.2.1
 rb : Fn 6 x.2.1 x.2.2.2.1
 ex : ExOk 100 x.2.2.2.2
end Go.D
set_option linter.unusedVariables false
namespace Go.D
end Go.D
set_option linter.unusedVariables false
namespace Go.D
structure TbFit (t : Ze) : Prop where
 c : colsOk t.fColumns = true
 r : Fn 6 t.fColumns t.fRows
theorem TbFit.sm {t : Ze} (h : TbFit t) : SmT t := ⟨by
 have := h.c
 unfold colsOk at this
 simp only [Bool.and_eq_true, decide_eq_true_eq] at this
 omega, h.r.srn.sm (by omega)⟩
structure TsFit (ts : List Ze) : Prop where
 l : 1 ≤ ts.length
 u : ts.length ≤ 3
 t : ∀ t ∈ ts, TbFit t
theorem TsFit.sm {ts : List Ze} (h : TsFit ts) : SmTs ts := ⟨by have := h.u; omega, fun t ht => (h.t t ht).sm⟩
end Go.D
set_option linter.unusedVariables false
namespace Go.D
section
variable {ca cb : List Zf} {ar br : List (List Za)} {ps : List Zc} (h : Sides ca cb ar br ps) (hr : ready ca cb ar br ps = true)
include h hr
end
end Go.D
set_option linter.unusedVariables false
namespace Go.D
section
variable {ca cb : List Zf} {ar br : List (List Za)} {ps : List Zc} (h : Sides ca cb ar br ps) (hr : ready ca cb ar br ps = true)
include h hr
end
end Go.D
set_option linter.unusedVariables false
namespace Go.D
def colsT (ts : List Ze) (n : Int) : List Zf := ((getI ts n).map (·.fColumns)).getD []
def gAt (ts : List Ze) (gs : List T_impl_Guard) (i : Nat) : Bool := match gs[i]? with
 | none => true
 | some g => inR g.fIn 0 ((ts.length : Int) - 1) && ((exprKind (colsT ts g.fIn) g.fE == 3) && (decide (i = 0) || match gs[i - 1]? with
  | none => true
  | some q => decide (q.fIn < g.fIn)))
def gsOk (ts : List Ze) (gs : List T_impl_Guard) : Bool := tabsOk ts && (List.range gs.length).all (gAt ts gs)
structure SmG (gs : List T_impl_Guard) : Prop where
 l : gs.length ≤ 100
 e : ∀ g ∈ gs, ExOk 100 g.fE
theorem inR_tab {ts : List Ze} {n : Int} (h : inR n 0 ((ts.length : Int) - 1) = true) : ∃ t, getI ts n = some t ∧ ts[n.toNat]? = some t ∧ t ∈ ts ∧ 0 ≤ n ∧ n < ts.length := by
 unfold inR at h
 simp only [Bool.and_eq_true, decide_eq_true_eq] at h
 obtain ⟨t, h1, h2⟩ := getI_lt (xs := ts) h.1 (by omega)
 exact ⟨t, h1, h2, List.mem_of_getElem? h2, h.1, by omega⟩
section
variable {ts : List Ze} {gs : List T_impl_Guard} (ht : SmTs ts) (hg : SmG gs)
include ht hg
end
structure FitT (t : Ze) : Prop where
 c : colsOk t.fColumns = true
 r : ∀ r ∈ t.fRows, rowFits t.fColumns r = true
theorem fit_tab {ts : List Ze} (h : tabsOk ts = true) {t : Ze} (ht : t ∈ ts) : FitT t ∧ t.fRows.length ≤ 6 ∧ ts.length ≤ 3 := by
 unfold tabsOk at h
 simp only [Bool.and_eq_true, List.all_eq_true, decide_eq_true_eq] at h
 have := h.1 t ht
 unfold tabOk rowsOk at this
 simp only [Bool.and_eq_true, List.all_eq_true, decide_eq_true_eq] at this
 exact ⟨⟨this.2.1, this.2.2⟩, this.1, h.2⟩
section
variable {ts : List Ze} {gs : List T_impl_Guard} (ht : SmTs ts) (hg : SmG gs) (hok : gsOk ts gs = true)
include ht hg hok
end
end Go.D
set_option linter.unusedVariables false
namespace Go.D
def keyOf (r : List Za) (l : List Int) : List Za := l.map (atV r)
def nilIn (k : List Za) : Bool := k.any fun v => v.fKind == 0
def rowsT (ts : List Ze) (n : Int) : List (List Za) := ((getI ts n).map (·.fRows)).getD []
def breaksV (ts : List Ze) (b : Zb) (rows : List (List Za)) (n : Nat) : Bool := match rows[n]? with
 | none => false
 | some r => bif b.fKind == 3 then Zz (exprVal r b.fE) (ofV 0) else !(nilIn (keyOf r b.fList)) &&
  (bif b.fKind == 1 then (rows.take n).any (fun x => rowEq (keyOf x b.fList) (keyOf r b.fList)) else !((rowsT ts b.fOf).any fun x => rowEq (keyOf x b.fTo) (keyOf r b.fList)))
def firstB (p : Nat → Bool) : Nat → Nat → Int
 | _, 0 => -1
 | i, k + 1 => bif p i then (i : Int) else firstB p (i + 1) k
def brokenV (ts : List Ze) (b : Zb) : Int := firstB (breaksV ts b (rowsT ts b.fIn)) 0 (rowsT ts b.fIn).length
theorem firstB_lt (p : Nat → Bool) : ∀ (k i : Nat), firstB p i k = -1 ∨ ∃ j, i ≤ j ∧ j < i + k ∧ firstB p i k = (j : Int) ∧ p j = true ∧ ∀ m, i ≤ m → m < j → p m = false
 | 0, i => .inl rfl
 | k + 1, i => by
  unfold firstB
  cases hp : p i with
  | true => exact .inr ⟨i, Nat.le_refl _, by omega, rfl, hp, fun m h1 h2 => by omega⟩
  | false =>
   rw [cond_false]
   rcases firstB_lt p k (i + 1) with h | ⟨j, h1, h2, h3, h4, h5⟩
   ·exact .inl h
   ·exact .inr ⟨j, by omega, by omega, h3, h4, fun m g1 g2 => by
     by_cases hm : m = i
     ·rw [hm]; exact hp
     ·exact h5 m (by omega) g2⟩
theorem loop_first {n : Nat} {L : Nat → Int → Option Int} {p : Nat → Bool} (hn : n ≤ 70368744177662)
  (h : ∀ (f i : Nat), i < n → w64 ((i : Int) + 1) = ((i + 1 : Nat) : Int) → L (f + 1) i = bif p i then some (i : Int) else L f ((i + 1 : Nat) : Int))
  (he : ∀ f, L (f + 1) (n : Int) = some (-1)) : L FUEL 0 = some (firstB p 0 n) := by
 have main : ∀ (k f i : Nat), i + k = n → k < f → L f (i : Int) = some (firstB p i k) := by
  intro k
  induction k with
  | zero =>
   intro f i hi hf
   obtain ⟨f, rfl⟩ : ∃ g, f = g + 1 := ⟨f - 1, by omega⟩
   have : i = n := by omega
   subst this
   rw [he]
   rfl
  | succ k ih =>
   intro f i hi hf
   obtain ⟨f, rfl⟩ : ∃ g, f = g + 1 := ⟨f - 1, by omega⟩
   rw [h f i (by omega) (succ_w (n := n) (by omega) (by omega)), firstB]
   cases p i with
   | true => rfl
   | false => rw [cond_false, cond_false]; exact ih f (i + 1) (by omega) (by omega)
 exact main n FUEL 0 (by omega) (by unfold FUEL; omega)
theorem has_s3 {rs : List (List Za)} {f : List Za → Option Bool} {p : List Za → Bool} (hl : rs.length ≤ 70368744177662) (hf : ∀ r ∈ rs, f r = some (p r)) : Zq rs f = some (rs.any p) := by
 unfold Zq Zak
 obtain ⟨x, h1, h2⟩ := loop_find (xs := rs) (L := Zp rs f) (p := p) hl (fun g i v hi hv hw => by
  have : (i : Int) < rs.length := by omega
  simp only [Zp, this, decide_true, cond_true, Zai, hv, Option.bind_some, hf v (List.mem_of_getElem? hv), hw]) (fun f => by
  simp only [Zp, Int.lt_irrefl, decide_false, cond_false])
 rw [h1, Option.bind_some, h2]
theorem has_v {rs : List Za} {f : Za → Option Bool} {p : Za → Bool} (hl : rs.length ≤ 70368744177662) (hf : ∀ r ∈ rs, f r = some (p r)) : Z1 rs f = some (rs.any p) := by
 unfold Z1 Zap
 obtain ⟨x, h1, h2⟩ := loop_find (xs := rs) (L := Zu rs f) (p := p) hl (fun g i v hi hv hw => by
  have : (i : Int) < rs.length := by omega
  simp only [Zu, this, decide_true, cond_true, Zai, hv, Option.bind_some, hf v (List.mem_of_getElem? hv), hw]) (fun f => by
  simp only [Zu, Int.lt_irrefl, decide_false, cond_false])
 rw [h1, Option.bind_some, h2]
theorem spec_takenV {cs : List Zf} {r : List Za} {ns : List Int} (h : rowFits cs r = true) (hn : ∀ n ∈ ns, inR n 0 ((cs.length : Int) - 1) = true) (hl : ns.length ≤ 4) : spec_l6Taken r ns = some (ns.map (atV r)) := by
 unfold spec_l6Taken
 have := loop_opt (xs := ns) (L := fun f i (s : List Za) => spec_l6Taken_l0 r ns f i s) (fun rest s => some (s ++ rest.map (atV r))) (fun i s => s.length = i) (by omega)
  (fun f i s n hi hv hw hI => by
   have hg := (fits_at h (hn n (List.mem_of_getElem? hv))).1
   refine .inr ⟨s ++ [atV r n], by simp [hI], ?_, by simp⟩
   rw [spec_l6Taken_l0, decide_eq_true (by omega), cond_true, Zai, hv, Option.bind_some, hg, Option.bind_some, app_lt (by simp; omega), Option.bind_some, hw])
  (fun f s hI => by rw [spec_l6Taken_l0, decide_eq_false (Int.lt_irrefl _), cond_false, List.map_nil, List.append_nil]) (s := []) rfl
 exact this
theorem spec_sameV {a b : List Za} (h : a.length ≤ 70368744177662) : spec_l3Same a b = some (rowEq a b) := by
 unfold spec_l3Same rowEq
 rw [len_beqN]
 cases hl : a.length == b.length with
 | false => rfl
 | true =>
  rw [Bool.not_true, cond_false, Bool.true_and]
  exact loop_two h (by simpa using hl) (fun f i x y hi hx hy hw => by
   rw [spec_l3Same_l0, decide_eq_true (by omega), cond_true, Zai, hx, Option.bind_some, Zai, hy, Option.bind_some, hw]
   cases Zz x y <;> rfl) (fun f => by rw [spec_l3Same_l0, decide_eq_false (Int.lt_irrefl _), cond_false])
theorem spec_nilV {k : List Za} (h : k.length ≤ 70368744177662) : spec_l12None k = some (nilIn k) := by
 unfold spec_l12None nilIn
 have key := loop_opt (xs := k) (L := fun f i (_ : Unit) => spec_l12None_l0 k f i) (fun rest _ => some (rest.any fun v => v.fKind == 0)) (fun _ _ => True) h (fun f i s v hi hv hw _ => by
  cases hk : v.fKind == 0 with
  | true =>
   refine .inl ?_
   rw [spec_l12None_l0, decide_eq_true (by omega), cond_true, Zai, hv, Option.bind_some, hk, cond_true, List.any_cons, hk, Bool.true_or]
  | false =>
   refine .inr ⟨(), trivial, ?_, ?_⟩
   ·rw [spec_l12None_l0, decide_eq_true (by omega), cond_true, Zai, hv, Option.bind_some, hk, cond_false, hw]
   ·rw [List.any_cons, hk, Bool.false_or]) (fun f s _ => by rw [spec_l12None_l0, decide_eq_false (Int.lt_irrefl _), cond_false]; rfl) (s := ()) trivial
 exact key
theorem bondOk_get {ts : List Ze} {b : Zb} (h : bondOk ts b = true) : tabsOk ts = true ∧ ∃ t, getI ts b.fIn = some t ∧ t ∈ ts ∧ bondOkT ts b t = true := by
 unfold bondOk at h
 simp only [Bool.and_eq_true] at h
 obtain ⟨t, h1, _, h2, _⟩ := inR_tab h.2.1
 rw [h1] at h
 exact ⟨h.1, t, h1, h2, h.2.2⟩
theorem lst_in {n : Nat} {xs : List Int} (h : lstOk n xs = true) : (∀ x ∈ xs, inR x 0 ((n : Int) - 1) = true) ∧ xs.length ≤ 4 := by
 unfold lstOk inR at h
 simp only [Bool.and_eq_true, List.all_eq_true, decide_eq_true_eq] at h
 refine ⟨fun x hx => ?_, by omega⟩
 have := h.1 x hx
 unfold inR
 simp only [Bool.and_eq_true, decide_eq_true_eq]
 exact this
theorem kinds3 {ts : List Ze} {b : Zb} {t : Ze} (hok : bondOk ts b = true) (hg : getI ts b.fIn = some t) : (b.fKind = 3 ∧ exprKind t.fColumns b.fE = 3) ∨ (b.fKind ≠ 3 ∧ lstOk t.fColumns.length b.fList = true ∧ (b.fKind = 1 ∨ b.fKind = 2 ∧ ∃ u, getI ts b.fOf = some u ∧ u ∈ ts ∧ lstOk u.fColumns.length b.fTo = true)) := by
 obtain ⟨_, t', h1, _, h2⟩ := bondOk_get hok
 rw [hg] at h1
 cases h1
 unfold bondOkT at h2
 cases k1 : b.fKind == 1 with
 | true =>
  have k1 : b.fKind = 1 := by simpa using k1
  rw [k1] at h2
  simp only [beq_self_eq_true, cond_true, Bool.and_eq_true] at h2
  exact .inr ⟨by omega, h2.1, .inl k1⟩
 | false =>
  rw [k1, cond_false] at h2
  cases k3 : b.fKind == 3 with
  | true =>
   rw [k3, cond_true] at h2
   simp only [Bool.and_eq_true] at h2
   exact .inl ⟨by simpa using k3, by simpa using h2.1⟩
  | false =>
   rw [k3, cond_false] at h2
   cases k2 : b.fKind == 2 with
   | false => rw [k2, cond_false] at h2; cases h2
   | true =>
    rw [k2, cond_true] at h2
    simp only [Bool.and_eq_true] at h2
    obtain ⟨u, h3, _, h4, _⟩ := inR_tab h2.1
    rw [h3] at h2
    simp only [Bool.and_eq_true] at h2
    refine .inr ⟨by simpa using k3, h2.2.2.1, .inr ⟨by simpa using k2, u, h3, h4, h2.2.2.2.1⟩⟩
theorem key_ok {ts : List Ze} (hts : SmTs ts) (hok : tabsOk ts = true) {t : Ze} (ht : t ∈ ts) {l : List Int} (hl : lstOk t.fColumns.length l = true) {r : List Za} (hr : r ∈ t.fRows) :
  impl_taken r l = some (keyOf r l) ∧ spec_l6Taken r l = some (keyOf r l) ∧ (keyOf r l).length ≤ 4 := by
 obtain ⟨h1, h2⟩ := lst_in hl
 have hf := (fit_tab hok ht).1.r r hr
 exact ⟨impl_takenV hf h1 h2, spec_takenV hf h1 h2, by rw [keyOf, List.length_map]; exact h2⟩
section
variable {ts : List Ze} {b : Zb} (hts : SmTs ts) (hb : SmB b) (hok : bondOk ts b = true)
include hts hb hok
theorem impl_breaksV {t : Ze} (hg : getI ts b.fIn = some t) {n : Nat} (hn : n < t.fRows.length) : impl_Bond_breaks b ts n = some (breaksV ts b t.fRows n) := by
 obtain ⟨htab, t', h1, hm, _⟩ := bondOk_get hok
 rw [hg] at h1
 cases h1
 have hr : t.fRows[n]? = some t.fRows[n] := List.getElem?_eq_getElem hn
 have hrm : t.fRows[n] ∈ t.fRows := List.getElem_mem hn
 have hsm := hts.2 t hm
 have hf := (fit_tab htab hm).1
 unfold impl_Bond_breaks breaksV
 rw [hg, Option.bind_some, Zai, hr, Option.bind_some]
 simp only
 rcases kinds3 hok hg with ⟨k3, he⟩ | ⟨k3, hl, hk⟩
 ·obtain ⟨v, e1, _, e3⟩ := spec_val he (fits_parts (hf.r _ hrm)).2.2.1 (hsm.2.2 _ hrm) hb.p
  rw [k3, beq_self_eq_true, cond_true, cond_true, e3, Option.bind_some, impl_of, Option.bind_some]
  unfold exprVal
  rw [e1]
  rfl
 ·have hk3 : (b.fKind == 3) = false := by rw [beq_eq_false_iff_ne]; exact k3
  obtain ⟨q1, _, q3⟩ := key_ok hts htab hm hl hrm
  rw [hk3, cond_false, cond_false, q1, Option.bind_some, has_v (rs := keyOf t.fRows[n] b.fList) (f := impl_Bond_breaks_1) (p := fun v => v.fKind == 0) (by omega) (fun v _ => rfl), Option.bind_some]
  show (bif nilIn (keyOf t.fRows[n] b.fList) then _ else _) = _
  cases nilIn (keyOf t.fRows[n] b.fList) with
  | true => rfl
  | false =>
   rw [cond_false, Bool.not_false, Bool.true_and]
   have has : ∀ (l : List Int) (u : Ze), u ∈ ts → lstOk u.fColumns.length l = true → ∀ rs : List (List Za), (∀ r ∈ rs, r ∈ u.fRows) → rs.length ≤ u.fRows.length → Zq rs (fun z0 => impl_Bond_breaks_2_1 z0 l (keyOf t.fRows[n] b.fList)) = some (rs.any fun x => rowEq (keyOf x l) (keyOf t.fRows[n] b.fList)) := by
    intro l u hu hlu rs hrs hlen
    have h0 := (hts.2 u hu).2.1
    refine has_s3 (rs := rs) (by omega) fun r hr' => ?_
    obtain ⟨p1, _, p3⟩ := key_ok hts htab hu hlu (hrs r hr')
    rw [impl_Bond_breaks_2_1, p1, Option.bind_some, slices_Equal_ok (by omega), Option.bind_some]
   rcases hk with k1 | ⟨k2, u, hu1, hu2, hu3⟩
   ·have es : slI t.fRows none (some (n : Int)) none = some (t.fRows.take n) := by
     unfold slI
     rw [if_pos (by simp only [Option.getD_none, Option.getD_some]; omega)]
     simp
    rw [k1, beq_self_eq_true, cond_true, cond_true, Option.bind_some, es, Option.bind_some, impl_Bond_breaks_2, Option.bind_some, has b.fList t hm hl _ (fun r hr' => List.mem_of_mem_take hr') (by simp; omega), Option.bind_some]
   ·have hk1 : (b.fKind == 1) = false := by rw [k2]; rfl
    have e0 : rowsT ts b.fOf = u.fRows := by unfold rowsT; rw [hu1]; rfl
    rw [hk1, cond_false, cond_false, hu1, Option.bind_some, impl_Bond_breaks_2, Option.bind_some, has b.fTo u hu2 hu3 _ (fun r hr' => hr') (Nat.le_refl _), Option.bind_some, e0]
theorem impl_Bond_brokenV : impl_Bond_broken b ts = some (brokenV ts b) := by
 obtain ⟨htab, t, hg, hm, _⟩ := bondOk_get hok
 have h0 := (hts.2 t hm).2.1
 have e0 : rowsT ts b.fIn = t.fRows := by unfold rowsT; rw [hg]; rfl
 rw [impl_Bond_broken, hg, Option.bind_some]
 unfold brokenV
 rw [e0]
 exact loop_first (n := t.fRows.length) (L := fun f i => impl_Bond_broken_l0 b ts t f i) (p := breaksV ts b t.fRows) (by omega) (fun f i hi hw => by
  rw [impl_Bond_broken_l0, decide_eq_true (by omega), cond_true, impl_breaksV hts hb hok hg hi, Option.bind_some, hw]) (fun f => by rw [impl_Bond_broken_l0, decide_eq_false (by omega), cond_false])
theorem spec_brokenV : spec_BondBroken ts b = some (brokenV ts b) := by
 obtain ⟨htab, t, hg, hm, _⟩ := bondOk_get hok
 have hsm := hts.2 t hm
 have h0 := hsm.2.1
 have hf := (fit_tab htab hm).1
 have e0 : rowsT ts b.fIn = t.fRows := by unfold rowsT; rw [hg]; rfl
 unfold spec_BondBroken
 rw [spec_bond hts hb, Option.bind_some, hok, Bool.not_true, cond_false, spec_l12Broken, hg, Option.bind_some]
 unfold brokenV
 rw [e0]
 rw [loop_first (n := t.fRows.length) (L := fun f i => Zy ts b t f i) (p := breaksV ts b t.fRows) (by omega) (fun f i hi hw => ?_) (fun f => by rw [Zy, decide_eq_false (by omega), cond_false])]
 ·rfl
 have hr : t.fRows[i]? = some t.fRows[i] := List.getElem?_eq_getElem hi
 have hrm : t.fRows[i] ∈ t.fRows := List.getElem_mem hi
 have hj : ∀ K : Int → Option Int, spec_l12Broken_j1 i K = K ((i + 1 : Nat) : Int) := fun K => by rw [spec_l12Broken_j1, hw]
 unfold breaksV
 rw [Zy, decide_eq_true (by omega), cond_true, hr]
 simp only
 rcases kinds3 hok hg with ⟨k3, he⟩ | ⟨k3, hl, hk⟩
 ·obtain ⟨v, e1, e2, _⟩ := spec_val he (fits_parts (hf.r _ hrm)).2.2.1 (hsm.2.2 _ hrm) hb.p
  rw [k3, beq_self_eq_true, cond_true, cond_true, Zai, hr, Option.bind_some, e2, Option.bind_some, spec_of, Option.bind_some, hj]
  unfold exprVal
  rw [e1]
  rfl
 ·have hk3 : (b.fKind == 3) = false := by rw [beq_eq_false_iff_ne]; exact k3
  obtain ⟨_, q2, q3⟩ := key_ok hts htab hm hl hrm
  rw [hk3, cond_false, cond_false]
  rcases hk with k1 | ⟨k2, u, hu1, hu2, hu3⟩
  ·rw [k1, beq_self_eq_true, cond_true, cond_true, Zai, hr, Option.bind_some, q2, Option.bind_some]
   have key := loop_opt (xs := t.fRows.take i) (L := fun f2 j (_ : Unit) => Zat b t i (Zy ts b t f) (keyOf t.fRows[i] b.fList) f2 j)
    (fun rest _ => bif !(nilIn (keyOf t.fRows[i] b.fList)) && rest.any (fun x => rowEq (keyOf x b.fList) (keyOf t.fRows[i] b.fList)) then some (i : Int) else Zy ts b t f ((i + 1 : Nat) : Int)) (fun _ _ => True) (by simp; omega)
    (fun f2 j s r hj2 hr2 hw2 _ => ?_) (fun f2 s _ => ?_) (s := ()) trivial
   ·exact key
   ·have hjl : j < i := by simp at hj2; omega
    have hr3 : t.fRows[j]? = some r := by rw [List.getElem?_take, if_pos hjl] at hr2; exact hr2
    have hrm2 := List.mem_of_getElem? hr3
    obtain ⟨_, p2, p3⟩ := key_ok hts htab hm hl hrm2
    have st : Zat b t i (Zy ts b t f) (keyOf t.fRows[i] b.fList) (f2 + 1) j = bif !(nilIn (keyOf t.fRows[i] b.fList)) then (bif rowEq (keyOf r b.fList) (keyOf t.fRows[i] b.fList) then some (i : Int) else Zat b t i (Zy ts b t f) (keyOf t.fRows[i] b.fList) f2 ((j + 1 : Nat) : Int)) else Zy ts b t f ((i + 1 : Nat) : Int) := by
     rw [Zat, decide_eq_true (by omega), cond_true, spec_nilV (by omega), Option.bind_some, spec_l12Broken_j3, hj]
     rw [Zai, hr3, Option.bind_some, p2, Option.bind_some, spec_sameV (by omega), Option.bind_some, hw2]
    show Zat b t i (Zy ts b t f) (keyOf t.fRows[i] b.fList) (f2 + 1) j = _ ∨ _
    rw [st]
    cases hnn : nilIn (keyOf t.fRows[i] b.fList) with
    | true => exact .inl rfl
    | false =>
     cases hre : rowEq (keyOf r b.fList) (keyOf t.fRows[i] b.fList) with
     | true => exact .inl (by simp [hre])
     | false => exact .inr ⟨(), trivial, rfl, by simp [hre]⟩
   ·have hl2 : (t.fRows.take i).length = i := by simp; omega
    show Zat b t i (Zy ts b t f) (keyOf t.fRows[i] b.fList) (f2 + 1) ((t.fRows.take i).length : Int) = _
    rw [hl2, Zat, decide_eq_false (by omega), cond_false, spec_l12Broken_j3, cond_false, hj, List.any_nil, Bool.and_false, cond_false]
  ·have hk1 : (b.fKind == 1) = false := by rw [k2]; rfl
   have hk2 : (b.fKind == 2) = true := by rw [k2]; rfl
   have e1 : rowsT ts b.fOf = u.fRows := by unfold rowsT; rw [hu1]; rfl
   have hu0 := (hts.2 u hu2).2.1
   rw [hk1, cond_false, cond_false, hk2, cond_true, Zai, hr, Option.bind_some, q2, Option.bind_some, spec_nilV (by omega), Option.bind_some, e1]
   have key := loop_opt (xs := u.fRows) (L := fun f2 j (s : Bool) => Zba ts b i (Zy ts b t f) (keyOf t.fRows[i] b.fList) f2 s j)
    (fun rest s => bif !(s || rest.any (fun x => rowEq (keyOf x b.fTo) (keyOf t.fRows[i] b.fList))) then some (i : Int) else Zy ts b t f ((i + 1 : Nat) : Int)) (fun _ _ => True) (by omega)
    (fun f2 j s r hj2 hr2 hw2 _ => ?_) (fun f2 s _ => ?_) (s := nilIn (keyOf t.fRows[i] b.fList)) trivial
   ·rw [← Bool.not_or]
    exact key
   ·obtain ⟨_, p2, p3⟩ := key_ok hts htab hu2 hu3 (List.mem_of_getElem? hr2)
    cases s with
    | true =>
     refine .inl ?_
     rw [Zba, hu1, Option.bind_some, decide_eq_true (by omega), cond_true, spec_l12Broken_j5, Bool.not_true, cond_false, cond_false, hj]
     rfl
    | false =>
     refine .inr ⟨rowEq (keyOf r b.fTo) (keyOf t.fRows[i] b.fList), trivial, ?_, by rw [List.any_cons, Bool.false_or]⟩
     rw [Zba, hu1, Option.bind_some, decide_eq_true (by omega), cond_true, spec_l12Broken_j5, Bool.not_false, cond_true, hu1, Option.bind_some, Zai, hr2, Option.bind_some, p2, Option.bind_some, spec_sameV (by omega), Option.bind_some, hw2]
   ·rw [Zba, hu1, Option.bind_some, decide_eq_false (by omega), cond_false, spec_l12Broken_j5, cond_false, hj, List.any_nil, Bool.or_false]
end
end Go.D
set_option linter.unusedVariables false
namespace Go.D
theorem smB_of {k i o : Int} {f : Bool} {l t : List Int} {e : List Zc} (hl : l.length ≤ 100) (ht : t.length ≤ 100) (he : ExOk 1000 e) : SmB (Zb.mk k i l o t f e) := ⟨by simp only; omega, by simp only; omega, by have := he.1; simp only; omega, he.2⟩
theorem exNil : ExOk 1000 [] := ⟨by simp, fun p hp => by cases hp⟩
theorem bond_j4 {n m : Int} {xs ys : List Int} {r : Zd} {b : Zb} (h : RdOk m r) (hm : m ≤ n) (hx : ys.length ≤ 50) (hy : xs.length ≤ 50) : Wp (spec_l20Bond_j4 xs r b ys) fun b r' => RdOk n r' ∧ SmB b := by
 unfold spec_l20Bond_j4
 exact wp_some ⟨h.up hm, smB_of (l := ys) (t := xs) (by omega) (by omega) exNil⟩
theorem bond_l2 {n : Int} {ts : List Ze} (hn : n ≤ 200000) (h1 : 1 ≤ ts.length) (ht : ∀ t ∈ ts, TbOk t) (a : Int) {v5 : Ze} (h5 : TbOk v5) : ∀ (k f i : Nat) (r : Zd) (b : Zb) (xs ys : List Int), i + k = 12 → k < f → RdOk (n + 4 * i) r → xs.length ≤ 1 → ys.length ≤ 1 →
  Wp (spec_l20Bond_l2 ts a v5 f (i : Int) r b xs ys) fun b r' => RdOk (n + 100) r' ∧ SmB b := by
 have j3 : ∀ (m : Int) (x : Int) (r : Zd) (b : Zb) (xs ys : List Int) (K : Int → Zd → Zb → List Int → List Int → Option (Zb × Zd)) (c : Bool), RdOk m r → m ≤ n + 50 → xs.length ≤ 1 → ys.length ≤ 1 →
   (c = true → ∀ r' b' xs' ys', RdOk (m + 3) r' → xs'.length ≤ 1 → ys'.length ≤ 1 → Wp (K (w64 (x + 1)) r' b' xs' ys') fun b r' => RdOk (n + 100) r' ∧ SmB b) → Wp (spec_l20Bond_j3 ts a v5 x r b xs ys K c) fun b r' => RdOk (n + 100) r' ∧ SmB b := by
  intro m x r b xs ys K c hr hm hx hy hK
  unfold spec_l20Bond_j3
  refine wp_bif (fun hc => ?_) fun _ => ?_
  ·refine Zav hr (by omega) fun k1 r1 g1 p0 _ p1 => Zav g1 (by omega) fun k2 r2 g2 q0 _ q1 => ?_
   obtain ⟨t, et, hm3⟩ := getI_lt (xs := ts) p0 (p1 (by omega))
   have c5 := h5.c1
   have ct := (ht t (List.mem_of_getElem? hm3)).c1
   simp only [et, Option.bind_some]
   exact Zav g2 (by omega) fun k3 r3 g3 s0 _ s1 => wp_getI q0 (q1 (by omega)) fun c1 _ => wp_getI s0 (s1 (by omega)) fun c2 _ => wp_bif (fun _ => hK hc _ _ _ _ (g3.up (by omega)) (by simp) (by simp)) fun _ => hK hc _ _ _ _ (g3.up (by omega)) hx hy
  ·refine Zav hr (by omega) fun k1 r1 g1 _ _ _ => wp_odd g1 (by omega) fun o r2 g2 => wp_bif (fun _ => ?_) fun _ => bond_j4 g2 (by omega) (by omega) (by omega)
   refine Zav g2 (by omega) fun k2 r3 g3 _ _ _ => wp_bif (fun _ => ?_) fun _ => wp_bif (fun _ => ?_) fun _ => wp_bif (fun _ => ?_) fun _ => bond_j4 g3 (by omega) (by omega) (by omega)
   ·exact Zav g3 (by omega) fun k4 r4 g4 _ _ _ => bond_j4 g4 (by omega) (by omega) (by omega)
   ·exact Zav g3 (by omega) fun k4 r4 g4 _ _ _ => bond_j4 g4 (by omega) (by omega) (by omega)
   ·exact Zav g3 (by omega) fun k4 r4 g4 _ _ _ => wp_app (by simp; omega) (bond_j4 g4 (by omega) (by simp; omega) (by omega))
 intro k
 induction k with
 | zero =>
  intro f i r b xs ys hi hf hr hx hy
  obtain ⟨f, rfl⟩ : ∃ f', f = f' + 1 := ⟨f - 1, by omega⟩
  rw [spec_l20Bond_l2, decide_eq_false (by omega), cond_false]
  exact j3 _ _ _ _ _ _ _ _ hr (by omega) hx hy (fun h => by cases h)
 | succ k ih =>
  intro f i r b xs ys hi hf hr hx hy
  obtain ⟨f, rfl⟩ : ∃ f', f = f' + 1 := ⟨f - 1, by omega⟩
  have hw : w64 ((i : Int) + 1) = ((i + 1 : Nat) : Int) := by rw [w64_of] <;> omega
  rw [spec_l20Bond_l2, decide_eq_true (by omega), cond_true]
  refine j3 _ _ _ _ _ _ _ _ hr (by omega) hx hy (fun _ r' b' xs' ys' hr' hx' hy' => ?_)
  rw [hw]
  exact ih f (i + 1) r' b' xs' ys' (by omega) (by omega) (hr'.up (by omega)) hx' hy'
theorem bond_ok {n : Int} {r : Zd} (h : RdOk n r) (hn : n ≤ 190000) {ts : List Ze} (h1 : 1 ≤ ts.length) (ht : ∀ t ∈ ts, TbOk t) (a : Int) : Wp (spec_l20Bond r ts a) fun b r' => RdOk (n + 200) r' ∧ SmB b := by
 unfold spec_l20Bond
 refine Zav h (by omega) fun k1 r1 g1 _ _ _ => Zav g1 (by omega) fun k2 r2 g2 p0 _ p1 => wp_getI p0 (p1 (by omega)) fun t htm => ?_
 have h5 := ht t htm
 have c5 := h5.c1
 refine wp_bif (fun _ => ?_) fun _ => wp_bif (fun _ => ?_) fun _ => wp_bif (fun _ => ?_) fun _ => ?_
 ·repeat' first
   | refine Zav (by assumption) (by omega) fun k r h _ _ _ => ?_
   | refine wp_odd (by assumption) (by omega) fun b r h => ?_
   | refine wp_bif (fun _ => ?_) fun _ => ?_
   | refine wp_app (by simp) ?_
   | exact wp_some ⟨RdOk.up (by assumption) (by omega), smB_of (by simp) (by simp) exNil⟩
 ·have ce : costE 2 = 120 := rfl
  refine wp_then (P := fun e r' => RdOk (n + 2 + 120) r' ∧ ExOk 1000 e) (wp_mono (expr_ok (by have := h5.c2; omega) 2 FUEL (n + 1 + 1) r2 3 2 (by omega) (by unfold FUEL; omega) (by omega) (by omega) g2 (by omega)) fun e r' hq => ⟨hq.1.up (by omega), hq.2.up (by simp [lenE])⟩) fun e r3 q3 => ?_
  obtain ⟨g3, x3⟩ := q3
  repeat' first
   | refine Zav (by assumption) (by omega) fun k r h _ _ _ => ?_
   | refine wp_odd (by assumption) (by omega) fun b r h => ?_
   | refine wp_bif (fun _ => ?_) fun _ => ?_
   | refine wp_app (by simp) ?_
   | exact wp_some ⟨RdOk.up (by assumption) (by omega), smB_of (by simp) (by simp) x3⟩
 ·exact wp_mono (bond_l2 (n := n + 2) (by omega) h1 ht a h5 12 FUEL 0 r2 _ _ _ rfl (by unfold FUEL; omega) (g2.up (by simp; omega)) (by simp) (by simp)) fun b r' hq => ⟨hq.1.up (by omega), hq.2⟩
 ·repeat' first
   | refine Zav (by assumption) (by omega) fun k r h _ _ _ => ?_
   | refine wp_odd (by assumption) (by omega) fun b r h => ?_
   | refine wp_bif (fun _ => ?_) fun _ => ?_
   | refine wp_app (by simp) ?_
   | exact wp_some ⟨RdOk.up (by assumption) (by omega), smB_of (by simp) (by simp) exNil⟩
end Go.D
set_option linter.unusedVariables false
namespace Go.D
section
variable {ts : List Ze} {t : Ze} {k : Nat} (hk : ts[k]? = some t) (n : Nat)
include hk
end
end Go.D
set_option linter.unusedVariables false
namespace Go.D
def holdsB (ts : List Ze) (bs : List Zb) : Bool := bs.all (fun b => bondOk ts b && brokenV ts b == -1) && decide (bs.length ≤ 4)
theorem le4B (n : Nat) : decide ((n : Int) ≤ 4) = decide (n ≤ 4) := by
 simp only [decide_eq_decide]
 omega
theorem spec_brokenB {ts : List Ze} {b : Zb} (hts : SmTs ts) (hb : SmB b) : spec_BondBroken ts b = some (bif bondOk ts b then brokenV ts b else -2) := by
 cases hok : bondOk ts b with
 | true => rw [cond_true]; exact spec_brokenV hts hb hok
 | false =>
  unfold spec_BondBroken
  rw [spec_bond hts hb, Option.bind_some, hok]
  rfl
theorem spec_holdsB {ts : List Ze} {bs : List Zb} (hts : SmTs ts) (hb : SmBs bs) : spec_BondsHold ts bs = some (holdsB ts bs) := by
 have hl := hb.1
 unfold spec_BondsHold holdsB
 refine loop_all (by omega) (fun f i v hi hv hw => ?_) (fun f => ?_)
 ·rw [spec_BondsHold_l0, decide_eq_true (by omega), cond_true, Zai, hv, Option.bind_some, spec_brokenB hts (hb.2 v (List.mem_of_getElem? hv)), Option.bind_some, hw]
  cases bondOk ts v with
  | false => rfl
  | true =>
   rw [cond_true, Bool.true_and]
   cases brokenV ts v == -1 <;> rfl
 ·rw [spec_BondsHold_l0, decide_eq_false (by omega), cond_false, le4B]
theorem broken_ge {ts : List Ze} {b : Zb} : decide (brokenV ts b ≥ 0) = !(brokenV ts b == -1) := by
 unfold brokenV
 rcases firstB_lt (breaksV ts b (rowsT ts b.fIn)) (rowsT ts b.fIn).length 0 with h | ⟨j, _, _, h, _, _⟩
 ·rw [h]; rfl
 ·rw [h, decide_eq_true (by omega)]
  rw [show ((j : Int) == -1) = false by rw [beq_eq_false_iff_ne]; omega]
  rfl
theorem impl_holdV {ts : List Ze} {bs : List Zb} (hts : SmTs ts) (hb : SmBs bs) (hok : bs.all (bondOk ts) = true) : impl_hold ts bs = some (bs.all fun b => brokenV ts b == -1) := by
 have hl := hb.1
 unfold impl_hold Zae Zas
 obtain ⟨x, h1, h2⟩ := loop_find (xs := bs) (L := Zx bs (fun z0 => impl_hold_1 z0 ts)) (p := fun b => !(brokenV ts b == -1)) (by omega) (fun f i v hi hv hw => by
  have hm := List.mem_of_getElem? hv
  have : (i : Int) < bs.length := by omega
  simp only [Zx, this, decide_true, cond_true, Zai, hv, Option.bind_some, impl_hold_1, impl_Bond_brokenV hts (hb.2 v hm) (List.all_eq_true.1 hok v hm), broken_ge, hw]) (fun f => by
  simp only [Zx, Int.lt_irrefl, decide_false, cond_false])
 rw [h1, Option.bind_some, Option.bind_some, h2, not_any_not]
theorem all_both {α : Type} (xs : List α) (p q : α → Bool) : (xs.all fun x => p x && q x) = (xs.all p && xs.all q) := by
 induction xs with
 | nil => rfl
 | cons x xs ih =>
  rw [List.all_cons, List.all_cons, List.all_cons, ih]
  cases p x <;> cases q x <;> simp
theorem impl_holdsB {ts : List Ze} {bs : List Zb} (hts : SmTs ts) (hb : SmBs bs) : impl_BondsHold ts bs = some (holdsB ts bs) := by
 have hl := hb.1
 unfold impl_BondsHold holdsB
 cases h0 : ((bs.length : Int) == 0) with
 | true =>
  have : bs = [] := List.length_eq_zero_iff.1 (by simpa using h0)
  subst this
  rfl
 | false =>
  rw [cond_false, le4B]
  cases h4 : decide (bs.length ≤ 4) with
  | false => rw [cond_false, Bool.and_false]
  | true =>
   rw [cond_true, impl_bonds hts hb, Option.bind_some, Bool.and_true]
   have key : (tabsOk ts && bs.all (bondOk ts)) = bs.all (bondOk ts) := by
    cases bs with
    | nil => exact absurd h0 (by simp)
    | cons b r =>
     rw [List.all_cons]
     cases hbk : bondOk ts b with
     | false => simp
     | true => rw [(bondOk_get hbk).1]; rfl
   rw [key, all_both]
   cases hok : bs.all (bondOk ts) with
   | false => rfl
   | true => rw [cond_true, impl_holdV hts hb hok, Option.bind_some, Bool.true_and]
theorem bondL_j3 : spec_l20Bond_L1_j3 = spec_l20Bond_j3 := rfl
theorem bondL_l2 (a1 : List Ze) (a2 : Int) (v5 : Ze) : ∀ f, spec_l20Bond_L1_l2 a1 a2 v5 f = spec_l20Bond_l2 a1 a2 v5 f
 | 0 => by funext i r b x y; rfl
 | f + 1 => by funext i r b x y; rw [spec_l20Bond_L1_l2, spec_l20Bond_l2, bondL_l2 a1 a2 v5 f, bondL_j3]
theorem bondL : spec_l20Bond_L1 = spec_l20Bond := by
 funext a0 a1 a2
 unfold spec_l20Bond_L1 spec_l20Bond
 simp only [bondL_l2]
 rfl
theorem bondsL_l0 (a1 : List Ze) (a2 : Int) : ∀ f, spec_l20Bonds_L1_l0 a1 a2 f = spec_l20Bonds_l0 a1 a2 f
 | 0 => by funext i r x; rfl
 | f + 1 => by funext i r x; rw [spec_l20Bonds_L1_l0, spec_l20Bonds_l0, bondsL_l0 a1 a2 f, bondL]
theorem bondsL : spec_l20Bonds_L1 = spec_l20Bonds := by
 funext a0 a1 a2
 unfold spec_l20Bonds_L1 spec_l20Bonds
 rw [bondsL_l0]
theorem bonds_ok {n : Int} {r : Zd} (h : RdOk n r) (hn : n ≤ 100000) {ts : List Ze} (h1 : 1 ≤ ts.length) (ht : ∀ t ∈ ts, TbOk t) (a : Int) : Wp (spec_l20Bonds r ts a) fun bs r' => RdOk (n + 1000) r' ∧ bs.length ≤ 3 ∧ ∀ b ∈ bs, SmB b := by
 unfold spec_l20Bonds
 refine Zav h (by omega) fun v r1 g1 v0 _ v1 => ?_
 have v1 := v1 (by omega)
 have e : v = ((v.toNat : Nat) : Int) := by omega
 simp only
 rw [e]
 exact loop_down (L := fun f i (s : Zd × List Zb) => spec_l20Bonds_l0 ts a f i s.1 s.2) (Q := fun bs r' => RdOk (n + 1000) r' ∧ bs.length ≤ 3 ∧ ∀ b ∈ bs, SmB b)
  (fun k s => k ≤ 3 ∧ RdOk (n + 1 + 200 * (3 - k)) s.1 ∧ s.2.length + k ≤ 3 ∧ ∀ b ∈ s.2, SmB b)
  (fun f k s hk hw hI hrec => by
   obtain ⟨r, bs⟩ := s
   obtain ⟨i0, i1, i2, i3⟩ := hI
   simp only at i1 i2 i3 ⊢
   rw [spec_l20Bonds_l0, decide_eq_true (by omega), cond_true]
   refine wp_then (bond_ok i1 (by omega) h1 ht a) fun b r2 q2 => wp_app (by simp; omega) ?_
   simp only [hw]
   refine hrec (r2, _) ⟨by omega, q2.1.up (by omega), by simp; omega, fun u hu => ?_⟩
   rcases List.mem_append.1 hu with hu | hu
   ·exact i3 u hu
   ·have : u = b := by simpa using hu
    rw [this]; exact q2.2)
  (fun f s hI => by
   obtain ⟨r, bs⟩ := s
   obtain ⟨i0, i1, i2, i3⟩ := hI
   simp only at i1 i2 i3 ⊢
   rw [spec_l20Bonds_l0, decide_eq_false (by omega), cond_false]
   exact wp_some ⟨i1.up (by omega), by omega, i3⟩)
  v.toNat (r1, []) ⟨by omega, g1.up (by omega), by simp; omega, (fun b hb => by cases hb)⟩ (by omega)
def rowsTot (ts : List Ze) : Nat := (ts.map fun t => t.fRows.length).sum
theorem rows_set {ts : List Ze} {k : Nat} {t u : Ze} (h : ts[k]? = some t) : rowsTot (ts.set k u) + t.fRows.length = rowsTot ts + u.fRows.length := by
 induction ts generalizing k with
 | nil => simp at h
 | cons x xs ih =>
  cases k with
  | zero =>
   simp at h
   subst h
   simp only [rowsTot, List.set_cons_zero, List.map_cons, List.sum_cons]
   omega
  | succ k =>
   simp at h
   have := ih h
   simp only [rowsTot, List.set_cons_succ, List.map_cons, List.sum_cons] at this ⊢
   omega
section
variable {v3 : (List Zb) × Zd} (hb : SmBs v3.1)
include hb
def Less1 (ts ts' : List Ze) : Prop := SmTs ts' ∧ rowsTot ts' < rowsTot ts
theorem bound_l1 {ts : List Ze} (hts : SmTs ts) {K : Bool → List Ze → Option (((List Ze) × (List Zb)) × Zd)} {P : ((List Ze) × (List Zb)) × Zd → Prop}
  (hF : ∃ y, K false ts = some y ∧ P y) (hT : ∀ ts', Less1 ts ts' → ∃ y, K true ts' = some y ∧ P y) : ∃ y, Zau v3 K FUEL false 0 ts = some y ∧ P y := by
 have hl := hb.1
 refine loop_q (xs := v3.1) (L := fun f i (s : Bool × List Ze) => Zau v3 K f s.1 i s.2) (fun _ _ y => P y) (fun i s => (s.1 = false ∧ s.2 = ts) ∨ (s.1 = true ∧ Less1 ts s.2)) (by omega)
  (fun f i s b rest _ hi hv hw hI => ?_) (fun f s hI => ?_) (s := (false, ts)) (.inl ⟨rfl, rfl⟩)
 ·obtain ⟨a, ts2⟩ := s
  simp only at hI ⊢
  rcases hI with ⟨rfl, rfl⟩ | ⟨rfl, hL⟩
  ·have hbm := hb.2 b (List.mem_of_getElem? hv)
   have hgb : getI v3.1 (i : Int) = some b := by rw [Zai, hv]
   have st : Zau v3 K (f + 1) false i ts2 = (spec_l20Bound_j2 v3 K false i ts2 (Zau v3 K f) true) := by
    rw [Zau, decide_eq_true (by omega), cond_true]
    rfl
   rw [st, spec_l20Bound_j2, cond_true, hgb, Option.bind_some, spec_brokenB hts hbm, Option.bind_some]
   cases hok : bondOk ts2 b with
   | false =>
    refine .inr ⟨(false, ts2), .inl ⟨rfl, rfl⟩, ?_, fun y hy => hy⟩
    rw [cond_false, decide_eq_false (by omega), cond_false, spec_l20Bound_j3, hw]
   | true =>
    rw [cond_true]
    obtain ⟨htab, t, hg, hm, _⟩ := bondOk_get hok
    have hsm := hts.2 t hm
    have h0 := hsm.2.1
    have e0 : rowsT ts2 b.fIn = t.fRows := by unfold rowsT; rw [hg]; rfl
    rcases firstB_lt (breaksV ts2 b t.fRows) t.fRows.length 0 with h | ⟨n, _, hn, h, _, _⟩
    ·refine .inr ⟨(false, ts2), .inl ⟨rfl, rfl⟩, ?_, fun y hy => hy⟩
     unfold brokenV
     rw [e0, h, decide_eq_false (by omega), cond_false, spec_l20Bound_j3, hw]
    ·have hbv : brokenV ts2 b = (n : Int) := by unfold brokenV; rw [e0, h]
     have es : slI t.fRows none (some (n : Int)) none = some (t.fRows.take n) := by
      unfold slI
      rw [if_pos (by simp only [Option.getD_none, Option.getD_some]; omega)]
      simp
     have e1 : w64 ((n : Int) + 1) = ((n + 1 : Nat) : Int) := by rw [w64_of (by omega) (by omega)]; omega
     have es2 : slI t.fRows (some ((n + 1 : Nat) : Int)) none none = some (t.fRows.drop (n + 1)) := by
      unfold slI
      rw [if_pos (by simp only [Option.getD_none, Option.getD_some]; omega)]
      simp
      exact List.take_of_length_le (by simp)
     obtain ⟨k, hk⟩ : ∃ k : Nat, b.fIn = (k : Int) := ⟨b.fIn.toNat, by have := (getI_spec hg).1; omega⟩
     have hkt : ts2[k]? = some t := by rw [hk, Zai] at hg; exact hg
     have hsub : ∀ r ∈ t.fRows.take n ++ t.fRows.drop (n + 1), r ∈ t.fRows := fun r hr => (List.mem_append.1 hr).elim List.mem_of_mem_take List.mem_of_mem_drop
     have hlen : (t.fRows.take n ++ t.fRows.drop (n + 1)).length + 1 = t.fRows.length := by simp; omega
     refine .inr ⟨(true, ts2.set k ⟨t.fColumns, t.fRows.take n ++ t.fRows.drop (n + 1)⟩), .inr ⟨rfl, ⟨?_, fun u hu => ?_⟩, ?_⟩, ?_, fun y hy => hy⟩
     ·rw [List.length_set]; exact hts.1
     ·rcases List.mem_or_eq_of_mem_set hu with hu | rfl
      ·exact hts.2 u hu
      ·exact ⟨hsm.1, by simp only; omega, fun r hr => hsm.2.2 r (hsub r hr)⟩
     ·have := rows_set (u := ⟨t.fColumns, t.fRows.take n ++ t.fRows.drop (n + 1)⟩) hkt
      show rowsTot (ts2.set k ⟨t.fColumns, t.fRows.take n ++ t.fRows.drop (n + 1)⟩) < rowsTot ts2
      simp only at this
      omega
     ·rw [hbv, decide_eq_true (by omega), cond_true]
      simp only [hgb, Option.bind_some, hg, es, e1, es2]
      rw [app_lt (by simp; omega), Option.bind_some, List.nil_append, app_lt (by simp; omega), Option.bind_some, spec_l20Bound_j3, hw, hk]
      rfl
  ·obtain ⟨y, h1, h2⟩ := hT ts2 hL
   refine .inl ⟨y, ?_, h2⟩
   rw [Zau, decide_eq_true (by omega), cond_true, spec_l20Bound_j2]
   exact h1
 ·obtain ⟨a, ts2⟩ := s
  simp only at hI ⊢
  rw [Zau, decide_eq_false (by omega), cond_false, spec_l20Bound_j2, cond_false]
  rcases hI with ⟨rfl, rfl⟩ | ⟨rfl, hL⟩
  ·exact hF
  ·exact hT ts2 hL
theorem bound_l0 : ∀ (m f : Nat) (ts : List Ze), SmTs ts → rowsTot ts ≤ m → m + 2 ≤ f → ∃ y, Za9 v3 f true ts = some y ∧ SmTs y.1.1 ∧ y.1.2 = v3.1
 | m, 0, ts, _, _, hf => by omega
 | m, f + 1, ts, hts, hm, hf => by
  rw [Za9, cond_true]
  refine bound_l1 hb hts (P := fun y => SmTs y.1.1 ∧ y.1.2 = v3.1) ?_ fun ts' hL => ?_
  ·obtain ⟨f, rfl⟩ : ∃ g, f = g + 1 := ⟨f - 1, by omega⟩
   rw [Za9, cond_false]
   exact ⟨_, rfl, hts, rfl⟩
  ·have := hL.2
   exact bound_l0 (m - 1) f ts' hL.1 (by omega) (by omega)
end
end Go.D
set_option linter.unusedVariables false
namespace Go.D
theorem draw_hold {b : List UInt8} (hb : b.length ≤ 1048576) : ∃ ts bs, spec_DrawBondsHold b = some (ts, bs) ∧ SmTs ts ∧ SmBs bs := by
 unfold spec_DrawBondsHold
 obtain ⟨r, e, hr⟩ := open_ok hb
 rw [e, Option.bind_some]
 have hp : Wp (Zi r 2) fun v r' => RdOk (0 + 1) r' := by
  have := Zav (f := fun x => some x) (Q := fun v r' => RdOk (0 + 1) r') hr (by omega) (a := 2) fun v r1 g1 _ _ _ => wp_some g1
  simpa using this
 obtain ⟨v, r1, e1, g1⟩ := hp
 rw [e1, Option.bind_some]
 obtain ⟨ts, r2, e2, q1, q2, q3, q4⟩ := tables_ok g1 (by omega)
 have hts : SmTs ts := ⟨by omega, fun t ht => (q4 t ht).sm⟩
 cases hv : v == 0 with
 | true =>
  rw [cond_true, spec_l20Bound, e2, Option.bind_some, bondsL]
  obtain ⟨bs, r3, e3, p1, p2, p3⟩ := bonds_ok q1 (by omega) q2 q4 40
  have hbs : SmBs bs := ⟨by omega, p3⟩
  have hR : rowsTot ts ≤ 100 := by
   unfold rowsTot
   match ts, q3, q4 with
   | [], _, _ => simp
   | [a], _, q4 => have := (q4 a (by simp)).rs.1; simp; omega
   | [a, b], _, q4 => have := (q4 a (by simp)).rs.1; have := (q4 b (by simp)).rs.1; simp; omega
   | [a, b, c], _, q4 => have := (q4 a (by simp)).rs.1; have := (q4 b (by simp)).rs.1; have := (q4 c (by simp)).rs.1; simp; omega
   | a :: b :: c :: d :: l, q3, _ => simp at q3
  obtain ⟨y, e4, s1, s2⟩ := bound_l0 (v3 := (bs, r3)) hbs (rowsTot ts) FUEL ts hts (Nat.le_refl _) (by unfold FUEL; omega)
  simp only at e3 ⊢
  rw [e3, Option.bind_some, e4, Option.bind_some]
  exact ⟨_, _, rfl, s1, by rw [s2]; exact hbs⟩
 | false =>
  obtain ⟨bs, r3, e3, p1, p2, p3⟩ := bonds_ok q1 (by omega) q2 q4 20
  obtain ⟨bs2, r4, e4, p4, p5, p6⟩ := bonds_ok p1 (by omega) q2 q4 20
  simp only at e2 e3 e4 ⊢
  rw [cond_false, bondsL, e2, Option.bind_some, e3, Option.bind_some, e4, Option.bind_some, app_lt (show bs.length + bs2.length < 68719476736 by omega), Option.bind_some]
  exact ⟨_, _, rfl, hts, by simp; omega, fun b hb => (List.mem_append.1 hb).elim (p3 b) (p6 b)⟩
theorem law_fnBondsHold {a0 : List UInt8} (w0 : listW u8W a0) : laws_FnBondsHold a0 = some true := by
 unfold laws_FnBondsHold
 by_cases hl : (a0.length : Int) > 1048576
 ·rw [decide_eq_true hl, cond_true]
 rw [decide_eq_false hl, cond_false]
 obtain ⟨ts, bs, e, ht, hb⟩ := draw_hold (b := a0) (by omega)
 have hbl := hb.1
 rw [e, Option.bind_some]
 simp only
 rw [impl_holdsB ht hb, Option.bind_some, spec_holdsB ht hb, Option.bind_some, beq_self_eq_true, Bool.not_true, cond_false]
 have h0 : impl_BondsHold ts [] = some true := rfl
 have key := loop_opt (xs := bs) (L := fun f i (s : Bool) => laws_FnBondsHold_l0 (ts, bs) (holdsB ts bs) f s i) (fun rest s => bif holdsB ts bs == (s && rest.all fun b => bondOk ts b && brokenV ts b == -1) then some true else some false) (fun _ _ => True) (by omega)
  (fun f i s b hi hv hw _ => .inr ⟨s && (bondOk ts b && brokenV ts b == -1), trivial, ?_, by rw [List.all_cons, Bool.and_assoc, Bool.and_assoc, Bool.and_assoc]⟩) (fun f s _ => ?_) (s := decide ((bs.length : Int) ≤ 4)) trivial
 ·rw [key]
  have : holdsB ts bs = (decide ((bs.length : Int) ≤ 4) && bs.all fun b => bondOk ts b && brokenV ts b == -1) := by
   unfold holdsB
   rw [le4B, Bool.and_comm]
  rw [← this, beq_self_eq_true, cond_true]
 ·have hbm := hb.2 b (List.mem_of_getElem? hv)
  have h1 : impl_BondsHold ts [b] = some (bondOk ts b && brokenV ts b == -1) := by
   rw [impl_holdsB ht ⟨by simp, fun u hu => by
    have : u = b := by simpa using hu
    rw [this]; exact hbm⟩]
   unfold holdsB
   simp
  rw [laws_FnBondsHold_l0, decide_eq_true (show (i : Int) < bs.length by omega), cond_true]
  simp only [laws_FnBondsHold_j1, hw]
  cases s with
  | false => rfl
  | true => rw [cond_true, Zai, hv, Option.bind_some, h1, Option.bind_some, Bool.true_and]
 ·rw [laws_FnBondsHold_l0, decide_eq_false (show ¬ ((bs.length : Int) < bs.length) by omega), cond_false, h0, Option.bind_some, cond_true, alive_t, List.all_nil, Bool.and_true]
  rfl
end Go.D
set_option linter.unusedVariables false
namespace Go.D
open Go.Proofs
theorem rd_5 : Rd Tryz.prog 5 UInt8 u8W := rd_u8 Tryz.underlying5 (by kernel_rfl)
theorem rd_22 : Rd Tryz.prog 22 (List UInt8) (listW u8W) := rd_slice Tryz.underlying22 (by kernel_rfl) rd_5
end Go.D
set_option linter.unusedVariables false
namespace Go.D
open Go.ChangeShapes Go.RowKit
theorem trodAll_carry {H : Type} {enc : TypeId × Value → H} {P : Program} {w w' : World} {base : Nat} {sp : Nat → Bool} {held : Bool} : ∀ {ts : List TypeId} {vs : List Value} {ds : List (DataW H)} {ps : List MemPlace},
  DataW.TrodAll enc P w base sp held ts vs ds ps → (∀ p ∈ ps, w.sameAt w' p) → DataW.TrodAll enc P w' base sp held ts vs ds ps
 | [], [], [], _, h, _ => h
 | _ :: _, _ :: _, _ :: _, _, ⟨p, q, ⟨n, hn⟩, h2, e⟩, hs =>
  ⟨p, q, ⟨n, DataW.trod_carry n _ _ _ hn fun x hx => hs x (by rw [e]; exact List.mem_append_left _ hx)⟩, trodAll_carry h2 fun x hx => hs x (by rw [e]; exact List.mem_append_right _ hx), e⟩
theorem Kept.sameAt {w w' : World} (h : Grew w w') {p : MemPlace} (hp : p.block < w.heap.size) : w.sameAt w' p := by
 have hb := h.block p.block hp (fun h => h)
 cases p with
 | cell b off =>
  show w'.cell? ⟨b, off, none⟩ = w.cell? ⟨b, off, none⟩
  unfold World.cell?
  have hb : w'.heap[b]? = w.heap[b]? := hb
  simp only [hb]
 | map b => exact hb
theorem Kept.keptBut {w w' : World} (h : Grew w w') (may : MemPlace → Prop) : w.keptBut w' may := by
 refine ⟨h.os, h.output, fun i hi => ?_⟩
 rw [h.block i hi (fun h => h)]
 cases w.heap[i]? with
 | none => trivial
 | some o => cases o <;> simp
theorem contract_of {P : Program} {fid : FuncId} {fn : Func} {s : ChangeSpec} {tb : TypeId} {H : Type} {enc : TypeId × Value → H}
  (hK : Kids P (· < P.types.size)) (hfull : ∀ t e, t < P.types.size → P.underlying t = some (.slice e) → 0 < P.cellsOf e)
  (hp : ∀ t ∈ fn.params.toList, t < P.types.size) (hv : s.vars = []) (hr : fn.resultTypes = #[tb]) (hb : P.underlying tb = some .bool)
  {n : Nat} (hn : fn.params.toList.length = n) (hs : ∀ ds : List (DataW H), ds.length = n → s.fn H ds = { results := [.lit (.bool true)], args := ds })
  {W : World} {args : Array Value} {ds gs : List (DataW H)} {before : List MemPlace}
  (hlaw : ∀ p, DataW.TrodAll enc P W 0 (fun _ => true) true fn.params.toList args.toList ds p → ∃ ins, FrL W (fun _ => False) ins args.toList ∧ OK P fid ins (B true))
  (hW : DataW.Whole enc P fn.params.toList s.vars false W args.toList ds gs before) :
  Calls P fid args W fun e W' => ∃ v, e = .returned v ∧ s.post enc P fn false true false false W args v W' := by
 have hlt := hW.lt
 have hW' := hW
 obtain ⟨p, q, hA, hV, rfl, hfz, hnd⟩ := hW
 rw [hv] at hV
 obtain ⟨rfl, rfl⟩ := trodVars_none hV
 obtain ⟨ins, h1, h2⟩ := hlaw p hA
 have hlen : ∀ {ts : List TypeId} {vs : List Value} {ds : List (DataW H)} {ps : List MemPlace}, DataW.TrodAll enc P W 0 (fun _ => true) true ts vs ds ps → ds.length = ts.length := by
  intro ts
  induction ts with
  | nil => intro vs ds ps h; obtain ⟨_, rfl, _⟩ := trodAll_nil h; rfl
  | cons t ts ih =>
   intro vs ds ps h
   obtain ⟨_, _, _, _, _, _, rfl, rfl, rfl, _, h⟩ := trodAll_cons h
   simp [ih h]
 have hds : ds.length = n := (hlen hA).trans hn
 have hc := h2.2 W args.toList (fun _ => False) (fun b h => h.elim) h1
 have ha : args.toList.toArray = args := by simp
 rw [ha] at hc
 refine hc.mono fun e W' ⟨v, fp, he, hg, ho, _⟩ => ⟨v, he, ?_⟩
 simp only [B, Ow] at ho
 obtain ⟨rfl, rfl⟩ := ho
 have hsame : ∀ x ∈ p, W.sameAt W' x := fun x hx => Kept.sameAt hg (hlt x (by simpa using hx))
 refine ⟨ds, [], p ++ [], [], p, [], hW', ?_, ?_, ?_, Kept.keptBut hg _, fun h => by cases h⟩
 ·rw [List.append_nil, hs ds hds, hr]
  exact trodAll_mk1 (shut_bool hb true)
 ·rw [List.append_nil, hs ds hds]
  exact trodAll_carry (DataW.TrodAll.respare hK hfull hp hA fun x hx => by
   have := hlt x (by simpa using hx)
   simpa using this) hsame
 ·rw [hv, List.append_nil, hs ds hds]
  rfl
end Go.D
