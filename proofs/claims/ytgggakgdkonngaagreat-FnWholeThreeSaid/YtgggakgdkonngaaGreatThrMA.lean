import Derived.Test.YtgggakgdkonngaaGreatThrDXFC
import Derived.Test.YtgggakgdkonngaaGreatThrDXFC
import Derived.Test.YtgggakgdkonngaaGreatThrDShow
import Derived.ChangeArms
import Derived.ChangeShapes
import Derived.Deep.Slices
import Derived.Test.YtgggakgdkonngaaGreatThrDOwn3
import Derived.Test.YtgggakgdkonngaaGreatThrDNil
import Derived.Test.YtgggakgdkonngaaGreatThrDMin
set_option linter.unusedVariables false
namespace Go.D
def spec_ValueOf_j0 (a0 : Int) (x1 : Bool) : Option Za := bif x1 then some ((Za.mk 3 a0 (ByteArray.mk #[]))) else some ((Za.mk 0 0 (ByteArray.mk #[])))
def spec_ValueOf (a0 : Int) : Option Za := bif (a0 == 0) then spec_ValueOf_j0 a0 true else spec_ValueOf_j0 a0 ((a0 == 1))
def spec_l4Sum_j0 (a0 : Za) (a1 : Za) (x1 : Bool) : Option Za := bif x1 then some ((Za.mk 0 0 (ByteArray.mk #[]))) else some ((Za.mk 1 ((w64 (a0.fN + a1.fN))) (ByteArray.mk #[])))
def spec_l4Sum (a0 : Za) (a1 : Za) : Option Za := bif (a0.fKind == 0) then spec_l4Sum_j0 a0 a1 true else bif (a1.fKind == 0) then spec_l4Sum_j0 a0 a1 true else (spec_l1In ((w64 (a0.fN + a1.fN))) (-9999) 9999).bind fun v3 => spec_l4Sum_j0 a0 a1 ((!v3))
def spec_l2Bool (a0 : Bool) : Option Int := bif a0 then some 1 else some 0
def spec_TruthOk (a0 : Int) : Option Bool := (spec_l1In a0 0 2).bind fun v1 => some v1
def spec_l2Sure (a0 : Int) : Option Int := (getI (([0, 2, 1] : List Int)) a0).bind fun v1 => some v1
def spec_l1Less (a0 : Int) (a1 : Int) : Option Int := bif (decide (a0 < a1)) then some 1 else some 0
def spec_l1Cmp (a0 : ByteArray) (a1 : ByteArray) : Option Int := bif (Op.bytesLess a0.toList a1.toList) then some (-1) else bif (!Op.bytesLess a0.toList a1.toList && !(a0.toList == a1.toList)) then some 1 else some 0
def spec_AndOf_j0 (a0 : Int) (a1 : Int) (x1 : Bool) : Option Int := bif x1 then some (-1) else (spec_l2Sure a0).bind fun v3 => (spec_l2Sure a1).bind fun v5 => (spec_l2Sure ((minL v3 [v5]))).bind fun v7 => some v7
def spec_AndOf (a0 : Int) (a1 : Int) : Option Int := (spec_TruthOk a0).bind fun v9 => bif (!v9) then spec_AndOf_j0 a0 a1 true else (spec_TruthOk a1).bind fun v11 => spec_AndOf_j0 a0 a1 ((!v11))
def spec_TruthOf_j0 (a0 : Za) (x1 : Bool) : Option Int := bif x1 then some (-1) else bif (a0.fKind == 0) then some 2 else some a0.fN
def spec_TruthOf (a0 : Za) : Option Int := (spec_ValueOk a0).bind fun v4 => bif (!v4) then spec_TruthOf_j0 a0 true else bif (a0.fKind == 1) then spec_TruthOf_j0 a0 true else spec_TruthOf_j0 a0 ((a0.fKind == 2))
def spec_OrOf_j0 (a0 : Int) (a1 : Int) (x1 : Bool) : Option Int := bif x1 then some (-1) else (spec_l2Sure a0).bind fun v3 => (spec_l2Sure a1).bind fun v5 => (spec_l2Sure ((maxL v3 [v5]))).bind fun v7 => some v7
def spec_OrOf (a0 : Int) (a1 : Int) : Option Int := (spec_TruthOk a0).bind fun v9 => bif (!v9) then spec_OrOf_j0 a0 a1 true else (spec_TruthOk a1).bind fun v11 => spec_OrOf_j0 a0 a1 ((!v11))
def spec_NotOf (a0 : Int) : Option Int := (spec_TruthOk a0).bind fun v1 => bif (!v1) then some (-1) else (spec_l2Sure a0).bind fun v4 => (spec_l2Sure ((w64 (2 - v4)))).bind fun v6 => some v6
def spec_ValueOrder_j0 (a0 : Za) (a1 : Za) (x1 : Bool) : Option Int := bif x1 then some 0 else bif (!(a0.fKind == a1.fKind)) then (spec_l1Less a1.fKind a0.fKind).bind fun v4 => some ((w64 (((w64 (2 * v4))) - 1))) else bif (!(a0.fN == a1.fN)) then (spec_l1Less a1.fN a0.fN).bind fun v7 => some ((w64 (((w64 (2 * v7))) - 1))) else (spec_l1Cmp a0.fS a1.fS).bind fun v9 => some v9
def spec_ValueOrder (a0 : Za) (a1 : Za) : Option Int := (spec_ValueOk a0).bind fun v11 => bif (!v11) then spec_ValueOrder_j0 a0 a1 true else (spec_ValueOk a1).bind fun v13 => spec_ValueOrder_j0 a0 a1 ((!v13))
def spec_Compare_j1 (a0 : Int) (a1 : Za) (a2 : Za) (x3 : Bool) : Option Int := bif x3 then some 2 else bif (!(a1.fKind == a2.fKind)) then some (-1) else bif (a0 == 1) then (spec_ValueOrder a1 a2).bind fun v7 => (spec_l2Bool ((v7 == 0))).bind fun v9 => some v9 else bif (a0 == 2) then (spec_ValueOrder a1 a2).bind fun v12 => (spec_l2Bool ((!(v12 == 0)))).bind fun v14 => some v14 else bif (a0 == 3) then (spec_ValueOrder a1 a2).bind fun v17 => (spec_l2Bool ((decide (v17 < 0)))).bind fun v19 => some v19 else (spec_ValueOrder a1 a2).bind fun v21 => (spec_l2Bool ((decide (v21 ≤ 0)))).bind fun v23 => some v23
def spec_Compare_j0 (a0 : Int) (a1 : Za) (a2 : Za) (x1 : Bool) : Option Int := bif x1 then some (-1) else bif (a1.fKind == 0) then spec_Compare_j1 a0 a1 a2 true else spec_Compare_j1 a0 a1 a2 ((a2.fKind == 0))
def spec_Compare (a0 : Int) (a1 : Za) (a2 : Za) : Option Int := (spec_l1In a0 1 4).bind fun v26 => bif (!v26) then spec_Compare_j0 a0 a1 a2 true else (spec_ValueOk a1).bind fun v28 => bif (!v28) then spec_Compare_j0 a0 a1 a2 true else (spec_ValueOk a2).bind fun v30 => spec_Compare_j0 a0 a1 a2 ((!v30))
def spec_l4Do (a0 : List Za) (a1 : List Za) (a2 : Zd) : Option (List Za) := bif (a2.fKind == 1) then (app a1 (([a2.fV] : List Za))).bind fun v2 => some v2 else bif (a2.fKind == 2) then (getI a0 a2.fN).bind fun v5 => (app a1 (([v5] : List Za))).bind fun v7 => some v7 else bif (a2.fKind == 3) then (slI a1 none (some ((w64 (((a1.length : Int)) - 2)))) none).bind fun v10 => (getI a1 ((w64 (((a1.length : Int)) - 2)))).bind fun v12 => (getI a1 ((w64 (((a1.length : Int)) - 1)))).bind fun v14 => (spec_l4Sum v12 v14).bind fun v16 => (appT a1 (([v16] : List Za)) v10.length).bind fun v18 => some v18 else bif (a2.fKind == 4) then (slI a1 none (some ((w64 (((a1.length : Int)) - 2)))) none).bind fun v21 => (getI a1 ((w64 (((a1.length : Int)) - 2)))).bind fun v23 => (getI a1 ((w64 (((a1.length : Int)) - 1)))).bind fun v25 => (spec_Compare a2.fN v23 v25).bind fun v27 => (spec_ValueOf v27).bind fun v29 => (appT a1 (([v29] : List Za)) v21.length).bind fun v31 => some v31 else bif (a2.fKind == 5) then (slI a1 none (some ((w64 (((a1.length : Int)) - 2)))) none).bind fun v34 => (getI a1 ((w64 (((a1.length : Int)) - 2)))).bind fun v36 => (spec_TruthOf v36).bind fun v38 => (getI a1 ((w64 (((a1.length : Int)) - 1)))).bind fun v40 => (spec_TruthOf v40).bind fun v42 => (spec_AndOf v38 v42).bind fun v44 => (spec_ValueOf v44).bind fun v46 => (appT a1 (([v46] : List Za)) v34.length).bind fun v48 => some v48 else bif (a2.fKind == 6) then (slI a1 none (some ((w64 (((a1.length : Int)) - 2)))) none).bind fun v51 => (getI a1 ((w64 (((a1.length : Int)) - 2)))).bind fun v53 => (spec_TruthOf v53).bind fun v55 => (getI a1 ((w64 (((a1.length : Int)) - 1)))).bind fun v57 => (spec_TruthOf v57).bind fun v59 => (spec_OrOf v55 v59).bind fun v61 => (spec_ValueOf v61).bind fun v63 => (appT a1 (([v63] : List Za)) v51.length).bind fun v65 => some v65 else bif (a2.fKind == 7) then (slI a1 none (some ((w64 (((a1.length : Int)) - 1)))) none).bind fun v68 => (getI a1 ((w64 (((a1.length : Int)) - 1)))).bind fun v70 => (spec_TruthOf v70).bind fun v72 => (spec_NotOf v72).bind fun v74 => (spec_ValueOf v74).bind fun v76 => (appT a1 (([v76] : List Za)) v68.length).bind fun v78 => some v78 else (slI a1 none (some ((w64 (((a1.length : Int)) - 1)))) none).bind fun v80 => (getI a1 ((w64 (((a1.length : Int)) - 1)))).bind fun v82 => (spec_l2Bool ((v82.fKind == 0))).bind fun v84 => (spec_ValueOf v84).bind fun v86 => (appT a1 (([v86] : List Za)) v80.length).bind fun v88 => some v88
def spec_l4Value_l0 (a0 : List Za) (a1 : List Zd) : Nat → Int → (List Za) → Option Za
 | 0, _, _ => none
 | f5 + 1, x3, x4 => bif (decide (x3 < ((a1.length : Int)))) then (getI a1 x3).bind fun v8 => (spec_l4Do a0 x4 v8).bind fun v10 => (spec_l4Value_l0 a0 a1 f5) ((w64 (x3 + 1))) v10 else (getI x4 ((0 : Int))).bind fun v12 => some v12
def spec_l4Value (a0 : List Za) (a1 : List Zd) : Option Za := spec_l4Value_l0 a0 a1 FUEL 0 (([] : List Za))
def spec_l6Holds (a0 : List Za) (a1 : List Zd) : Option Bool := (spec_l4Value a0 a1).bind fun v1 => (spec_ValueOf 1).bind fun v3 => some ((Zr v1 v3))
end Go.D
set_option linter.unusedVariables false
namespace Go.D
def Rd (P : Program) (t : TypeId) (α : Type) [Enc α] (W : α → Prop) : Prop :=
 P.cellsOf t = Enc.sz α ∧ ∀ (H : Type) (enc : TypeId × Value → H) (w : World) (base : Nat) (sp : Nat → Bool) (held : Bool) (fuel : Nat) (cs : List Value) (x : DataW H × List MemPlace), DataW.trod enc P w base sp held fuel t cs = some x →
  ∃ y : α, FrL w (fun _ => False) (Enc.cells y) cs ∧ W y
def u8W (_ : UInt8) : Prop := True
def listW {α : Type} (W : α → Prop) (l : List α) : Prop := l.length ≤ 9223372036854775807 ∧ ∀ x ∈ l, W x
section
variable {P : Program}
theorem rd_u8 {t : TypeId} (ht : P.underlying t = some (.int .u8)) (hc : P.cellsOf t = 1) : Rd P t UInt8 u8W := ⟨hc, fun H enc w base sp held fuel cs x h => by
 obtain ⟨n, rfl, _, hw⟩ := DataW.trod_int ht h
 have hn : 0 ≤ n ∧ n ≤ 255 := by simpa [Lit.wf, IntKind.min, IntKind.max, IntKind.signed, IntKind.bits] using hw
 refine ⟨UInt8.ofNat n.toNat, ?_, trivial⟩
 show FrL w _ [.lit (.int .u8 (UInt8.ofNat n.toNat).toNat)] _
 simp only [FrL]
 refine ⟨_, _, rfl, ?_, rfl⟩
 simp only [Fr]
 congr 1
 rw [UInt8.toNat_ofNat']
 omega⟩
theorem eL_flat {α : Type} [Enc α] {w : World} {M : Nat → Prop} : ∀ {ys : List α} {uss : List (List Value)}, ys.length = uss.length → (∀ (i : Nat) (y : α) (us : List Value), ys[i]? = some y → uss[i]? = some us → FrL w M (Enc.cells y) us) → FrL w M (eL ys) uss.flatten
 | [], [], _, _ => by simp [eL, FrL]
 | [], _ :: _, h, _ => by simp at h
 | _ :: _, [], h, _ => by simp at h
 | y :: ys, us :: uss, h, k => by
  simp only [eL, List.flatten_cons]
  exact FrL.append (k 0 y us rfl rfl) (eL_flat (by simpa using h) fun i y' us' h1 h2 => k (i + 1) y' us' (by simpa using h1) (by simpa using h2))
theorem flat_get {sz : Nat} (hsz : 0 < sz) : ∀ {uss : List (List Value)}, (∀ us ∈ uss, us.length = sz) → ∀ {j : Nat} {v : Value}, uss.flatten[j]? = some v → ∃ us, uss[j / sz]? = some us ∧ us[j % sz]? = some v
 | [], _, j, v, h => by simp at h
 | us :: uss, hl, j, v, h => by
  have h0 : us.length = sz := hl us (by simp)
  simp only [List.flatten_cons] at h
  rcases Nat.lt_or_ge j sz with hj | hj
  ·rw [List.getElem?_append_left (by omega)] at h
   refine ⟨us, by rw [Nat.div_eq_of_lt hj]; rfl, by rw [Nat.mod_eq_of_lt hj]; exact h⟩
  ·rw [List.getElem?_append_right (by omega), h0] at h
   obtain ⟨us', h1, h2⟩ := flat_get hsz (fun us' hu => hl us' (by simp [hu])) h
   refine ⟨us', ?_, ?_⟩
   ·have : j / sz = (j - sz) / sz + 1 := by rw [Nat.div_eq_sub_div hsz hj]
    rw [this]
    simpa using h1
   ·rw [Nat.mod_eq_sub_mod hj]; exact h2
theorem rd_slice {t e : TypeId} {α : Type} [Enc α] {W : α → Prop} (ht : P.underlying t = some (.slice e)) (hc : P.cellsOf t = 1) (he : Rd P e α W) : Rd P t (List α) (listW W) := ⟨hc, fun H enc w base sp held fuel cs x h => by
 obtain ⟨hce, he⟩ := he
 have hpos : 0 < Enc.sz α := Enc.pos
 have fin : ∀ (ys : List α) (v : Value), Fr w (fun _ => False) (A ys) v → listW W ys → ∃ y : List α, FrL w (fun _ => False) (Enc.cells y) [v] ∧ listW W y := fun ys v h1 h2 => ⟨ys, by
  show FrL w _ [A ys] _
  simp only [FrL]
  exact ⟨_, _, rfl, h1, rfl⟩, h2⟩
 rcases Go.Deep.open_slice ht h with ⟨rfl, _⟩ | ⟨a, len, cap, m, n, D, Pl, rfl, hb, hl, hm, hmm, _, hx⟩
 ·exact fin [] _ (Fr.nil w _ _ hpos) ⟨by simp, by simp⟩
 ·have hcapm : cap ≤ maxI := by simpa [maxLen, maxI] using hm
  by_cases h0 : len = 0
  ·subst h0
   refine fin [] _ ?_ ⟨by simp, by simp⟩
   simp only [Fr]
   exact ⟨some a, cap, rfl, ⟨hpos, by simp [eL], by simp, hcapm, fun h => by cases h⟩, .inl rfl⟩
  ·have hlm : len ≤ m := by rw [hmm]; split <;> omega
   have hel : ∀ i, i < len → ∃ p : List Value × α, w.cells? base (a.add (i * P.cellsOf e)) (P.cellsOf e) = some p.1 ∧ FrL w (fun _ => False) (Enc.cells p.2) p.1 ∧ W p.2 := by
    intro i hi
    obtain ⟨cs', h1, h2⟩ := hx i (by omega)
    obtain ⟨y, h3, h4⟩ := he H enc w base sp held n cs' _ h2
    exact ⟨(cs', y), h1, h3, h4⟩
   obtain ⟨p0, hp0⟩ := hel 0 (by omega)
   haveI : Inhabited (List Value × α) := ⟨p0⟩
   obtain ⟨F, hF⟩ := Go.Deep.choose_lt (α := List Value × α) (p := fun i p => w.cells? base (a.add (i * P.cellsOf e)) (P.cellsOf e) = some p.1 ∧ FrL w (fun _ => False) (Enc.cells p.2) p.1 ∧ W p.2) hel
   let ys : List α := (List.range len).map fun i => (F i).2
   let uss : List (List Value) := (List.range len).map fun i => (F i).1
   have hul : ∀ us ∈ uss, us.length = Enc.sz α := by
    intro us hu
    obtain ⟨i, hi, rfl⟩ := List.mem_map.1 hu
    have := (World.cells?_some (hF i (List.mem_range.1 hi)).1).2.1
    rw [this, hce]
   have hys : ys.length = len := by simp [ys]
   have hfl : FrL w (fun _ => False) (eL ys) uss.flatten := eL_flat (by simp [ys, uss]) fun i y us h1 h2 => by
    simp only [ys, uss, List.getElem?_map] at h1 h2
    have hi : i < len := by
     cases hr : (List.range len)[i]? with
     | none => rw [hr] at h1; cases h1
     | some k => have := (List.getElem?_eq_some_iff.1 hr).1; simpa using this
    rw [List.getElem?_range hi] at h1 h2
    simp only [Option.map_some, Option.some.injEq] at h1 h2
    rw [← h1, ← h2]
    exact (hF i hi).2.1
   have hul0 : ((F 0).1).length = Enc.sz α := hul _ (List.mem_map.2 ⟨0, by simp; omega, rfl⟩)
   have h00 : ∃ v, w.cell? a = some v := by
    have h1 := (World.cells?_some (hF 0 (by omega)).1).2.2 0 (by rw [hce]; exact hpos)
    rw [List.getElem?_eq_getElem (by omega)] at h1
    refine ⟨_, Eq.trans ?_ h1⟩
    simp [Addr.add]
   obtain ⟨v00, hv00⟩ := h00
   have hspot : a.spot = none := World.cell?_spot hv00
   obtain ⟨ab, ao, as_⟩ := a
   simp only at hspot
   subst hspot
   have hcell : ∀ i j, i < len → j < Enc.sz α → w.cell? ⟨ab, ao + (i * Enc.sz α + j), none⟩ = ((F i).1)[j]? := by
    intro i j hi hj
    have := (World.cells?_some (hF i hi).1).2.2 j (by rw [hce]; exact hj)
    rw [hce] at this
    rw [← this]
    congr 1
    unfold Addr.add
    split <;> split <;> simp_all <;> omega
   refine fin ys _ ?_ ⟨by rw [hys]; simp only [maxI] at hcapm; omega, fun y hy => by
    obtain ⟨i, hi, rfl⟩ := List.mem_map.1 hy
    exact (hF i (List.mem_range.1 hi)).2.2⟩
   simp only [Fr]
   refine ⟨some ⟨ab, ao, none⟩, cap, by rw [hys], ⟨hpos, by rw [eL_len], by rw [hys]; exact hl, hcapm, fun h => by cases h⟩, .inr ⟨ab, ao, uss.flatten, rfl, World.block_lt_of_cell? _ _ hv00, fun h => h, hfl, fun j hj => ?_⟩⟩
   obtain ⟨us, h1, h2⟩ := flat_get hpos hul (List.getElem?_eq_getElem hj)
   have hi : j / Enc.sz α < len := by
    have := (List.getElem?_eq_some_iff.1 h1).1
    simpa [uss] using this
   simp only [uss, List.getElem?_map, List.getElem?_range hi, Option.map_some, Option.some.injEq] at h1
   have := hcell (j / Enc.sz α) (j % Enc.sz α) hi (Nat.mod_lt _ hpos)
   rw [h1, h2] at this
   have e1 : j / Enc.sz α * Enc.sz α + j % Enc.sz α = j := by rw [Nat.mul_comm]; exact Nat.div_add_mod j _
   rw [e1] at this
   rw [List.getElem?_eq_getElem hj, ← this]⟩
end
end Go.D
set_option linter.unusedVariables false
namespace Go.D
theorem w64_of {n : Int} (h1 : -9223372036854775808 ≤ n) (h2 : n ≤ 9223372036854775807) : w64 n = n := by
 have hm : IntKind.i64.min = -9223372036854775808 := by decide
 have hM : IntKind.i64.max = 9223372036854775807 := by decide
 simp [w64, IntKind.wrap, IntKind.signed, IntKind.bits]
 omega
theorem Z9 {α : Type} {xs : List α} {i : Nat} : getI xs (i : Int) = xs[i]? := by
 unfold getI
 rw [if_pos (by omega), Int.toNat_natCast]
theorem getI_lt {α : Type} {xs : List α} {i : Int} (h0 : 0 ≤ i) (h1 : i < xs.length) : ∃ x, getI xs i = some x ∧ xs[i.toNat]? = some x := by
 unfold getI
 rw [if_pos h0]
 have : i.toNat < xs.length := by omega
 exact ⟨xs[i.toNat], by rw [List.getElem?_eq_getElem this], by rw [List.getElem?_eq_getElem this]⟩
theorem app_lt {α : Type} {xs ys : List α} (h : xs.length + ys.length < 68719476736) : app xs ys = some (xs ++ ys) := if_pos h
theorem succ_w {i n : Nat} (h : i < n) (hn : n ≤ 70368744177663) : w64 ((i : Int) + 1) = ((i + 1 : Nat) : Int) := by
 rw [w64_of (by omega) (by omega)]
 omega
theorem loop_all {α : Type} {xs : List α} {L : Nat → Int → Option Bool} {p : α → Bool} {fin : Bool} (hlen : xs.length ≤ 70368744177662)
  (h : ∀ (f i : Nat) (v : α), i < xs.length → xs[i]? = some v → w64 ((i : Int) + 1) = ((i + 1 : Nat) : Int) → L (f + 1) i = bif p v then L f ((i + 1 : Nat) : Int) else some false)
  (he : ∀ f, L (f + 1) (xs.length : Int) = some fin) : L FUEL 0 = some (xs.all p && fin) := by
 have main : ∀ (k f i : Nat), i + k = xs.length → k < f → L f (i : Int) = some ((xs.drop i).all p && fin) := by
  intro k
  induction k with
  | zero =>
   intro f i hi hf
   obtain ⟨f, rfl⟩ : ∃ f', f = f' + 1 := ⟨f - 1, by omega⟩
   have : i = xs.length := by omega
   subst this
   rw [he, List.drop_length]
   simp
  | succ k ih =>
   intro f i hi hf
   obtain ⟨f, rfl⟩ : ∃ f', f = f' + 1 := ⟨f - 1, by omega⟩
   have hlt : i < xs.length := by omega
   rw [h f i xs[i] hlt (List.getElem?_eq_getElem hlt) (succ_w hlt (by omega)), ih f (i + 1) (by omega) (by omega), List.drop_eq_getElem_cons hlt, List.all_cons]
   cases p xs[i] <;> simp
 have := main xs.length FUEL 0 (by omega) (by unfold FUEL; omega)
 simpa using this
theorem loop_find {α : Type} {xs : List α} {L : Nat → Int → Option Int} {p : α → Bool} (hlen : xs.length ≤ 70368744177662)
  (h : ∀ (f i : Nat) (v : α), i < xs.length → xs[i]? = some v → w64 ((i : Int) + 1) = ((i + 1 : Nat) : Int) → L (f + 1) i = bif p v then some (i : Int) else L f ((i + 1 : Nat) : Int))
  (he : ∀ f, L (f + 1) (xs.length : Int) = some (-1)) : ∃ r, L FUEL 0 = some r ∧ decide (r ≥ 0) = xs.any p := by
 have main : ∀ (k f i : Nat), i + k = xs.length → k < f → ∃ r, L f (i : Int) = some r ∧ decide (r ≥ 0) = (xs.drop i).any p := by
  intro k
  induction k with
  | zero =>
   intro f i hi hf
   obtain ⟨f, rfl⟩ : ∃ f', f = f' + 1 := ⟨f - 1, by omega⟩
   have : i = xs.length := by omega
   subst this
   rw [he, List.drop_length]
   exact ⟨_, rfl, by simp⟩
  | succ k ih =>
   intro f i hi hf
   obtain ⟨f, rfl⟩ : ∃ f', f = f' + 1 := ⟨f - 1, by omega⟩
   have hlt : i < xs.length := by omega
   rw [h f i xs[i] hlt (List.getElem?_eq_getElem hlt) (succ_w hlt (by omega)), List.drop_eq_getElem_cons hlt, List.any_cons]
   cases hp : p xs[i] with
   | true => exact ⟨_, rfl, by simp⟩
   | false =>
    obtain ⟨r, h1, h2⟩ := ih f (i + 1) (by omega) (by omega)
    exact ⟨r, h1, by simp [h2]⟩
 have := main xs.length FUEL 0 (by omega) (by unfold FUEL; omega)
 simpa using this
theorem loop_rec {α σ β : Type} {xs : List α} {L : Nat → Int → σ → Option β} (R : List α → σ → β) (Inv : Nat → σ → Prop) (hlen : xs.length ≤ 70368744177662)
  (h : ∀ (f i : Nat) (s : σ) (v : α) (rest : List α), i < xs.length → xs[i]? = some v → w64 ((i : Int) + 1) = ((i + 1 : Nat) : Int) → Inv i s →
   L (f + 1) i s = some (R (v :: rest) s) ∨ ∃ s', Inv (i + 1) s' ∧ L (f + 1) i s = L f ((i + 1 : Nat) : Int) s' ∧ R (v :: rest) s = R rest s')
  (he : ∀ f s, Inv xs.length s → L (f + 1) (xs.length : Int) s = some (R [] s)) {s : σ} (h0 : Inv 0 s) : L FUEL 0 s = some (R xs s) := by
 have main : ∀ (k f i : Nat) (s : σ), i + k = xs.length → k < f → Inv i s → L f (i : Int) s = some (R (xs.drop i) s) := by
  intro k
  induction k with
  | zero =>
   intro f i s hi hf hI
   obtain ⟨f, rfl⟩ : ∃ f', f = f' + 1 := ⟨f - 1, by omega⟩
   have : i = xs.length := by omega
   subst this
   rw [he _ _ hI, List.drop_length]
  | succ k ih =>
   intro f i s hi hf hI
   obtain ⟨f, rfl⟩ : ∃ f', f = f' + 1 := ⟨f - 1, by omega⟩
   have hlt : i < xs.length := by omega
   rw [List.drop_eq_getElem_cons hlt]
   rcases h f i s xs[i] (xs.drop (i + 1)) hlt (List.getElem?_eq_getElem hlt) (succ_w hlt (by omega)) hI with h1 | ⟨s', h1, h2, h3⟩
   ·exact h1
   ·rw [h2, h3]
    exact ih f (i + 1) s' (by omega) (by omega) h1
 have := main xs.length FUEL 0 s (by omega) (by unfold FUEL; omega) h0
 simpa using this
theorem loop_q {α σ β : Type} {xs : List α} {L : Nat → Int → σ → Option β} (Q : List α → σ → β → Prop) (Inv : Nat → σ → Prop) (hlen : xs.length ≤ 70368744177662)
  (h : ∀ (f i : Nat) (s : σ) (v : α) (rest : List α), i + (rest.length + 1) = xs.length → i < xs.length → xs[i]? = some v → w64 ((i : Int) + 1) = ((i + 1 : Nat) : Int) → Inv i s →
   (∃ y, L (f + 1) i s = some y ∧ Q (v :: rest) s y) ∨ ∃ s', Inv (i + 1) s' ∧ L (f + 1) i s = L f ((i + 1 : Nat) : Int) s' ∧ ∀ y, Q rest s' y → Q (v :: rest) s y)
  (he : ∀ f s, Inv xs.length s → ∃ y, L (f + 1) (xs.length : Int) s = some y ∧ Q [] s y) {s : σ} (h0 : Inv 0 s) : ∃ y, L FUEL 0 s = some y ∧ Q xs s y := by
 have main : ∀ (k f i : Nat) (s : σ), i + k = xs.length → k < f → Inv i s → ∃ y, L f (i : Int) s = some y ∧ Q (xs.drop i) s y := by
  intro k
  induction k with
  | zero =>
   intro f i s hi hf hI
   obtain ⟨f, rfl⟩ : ∃ f', f = f' + 1 := ⟨f - 1, by omega⟩
   have : i = xs.length := by omega
   subst this
   rw [List.drop_length]
   exact he _ _ hI
  | succ k ih =>
   intro f i s hi hf hI
   obtain ⟨f, rfl⟩ : ∃ f', f = f' + 1 := ⟨f - 1, by omega⟩
   have hlt : i < xs.length := by omega
   rw [List.drop_eq_getElem_cons hlt]
   rcases h f i s xs[i] (xs.drop (i + 1)) (by rw [List.length_drop]; omega) hlt (List.getElem?_eq_getElem hlt) (succ_w hlt (by omega)) hI with h1 | ⟨s', h1, h2, h3⟩
   ·exact h1
   ·obtain ⟨y, h4, h5⟩ := ih f (i + 1) s' (by omega) (by omega) h1
    exact ⟨y, h2.trans h4, h3 y h5⟩
 have := main xs.length FUEL 0 s (by omega) (by unfold FUEL; omega) h0
 simpa using this
def Yes {γ : Type} (m : Option γ) (y : γ × Bool) : Prop := (m = none ∧ y.2 = false) ∨ ∃ c, m = some c ∧ y = (c, true)
theorem Yes.yes {γ : Type} {m : Option γ} {c : γ} (h : m = some c) : Yes m (c, true) := .inr ⟨c, h, rfl⟩
end Go.D
set_option linter.unusedVariables false
namespace Go.D
abbrev Sm (n : Nat) : Prop := n ≤ 2097152
def inR (a b c : Int) : Bool := decide (b ≤ a) && decide (a ≤ c)
theorem spec_in (a b c : Int) : spec_l1In a b c = some (inR a b c) := by
 unfold spec_l1In inR
 by_cases h : b ≤ a <;> simp [h]
theorem impl_in (a b c : Int) : Za9 a b c = some (inR a b c) := by
 unfold Za9 inR
 by_cases h : b ≤ a <;> simp [h]
def colsOk (cs : List Zb) : Bool := cs.all (fun c => inR c.fKind 1 3) && decide (cs.length ≤ 4)
theorem spec_colsOk {cs : List Zb} (h : Sm cs.length) : spec_ColumnsOk cs = some (colsOk cs) := by
 unfold spec_ColumnsOk colsOk
 refine loop_all (by omega) (fun f i v hi hv hw => ?_) (fun f => ?_)
 ·have : (i : Int) < cs.length := by omega
  simp only [spec_ColumnsOk_l0, this, decide_true, cond_true, Z9, hv, Option.bind_some, spec_in, hw]
  cases inR v.fKind 1 3 <;> rfl
 ·simp only [spec_ColumnsOk_l0, Int.lt_irrefl, decide_false, cond_false]
  congr 1
  simp only [decide_eq_decide]
  omega
theorem impl_colsAny {cs : List Zb} (h : Sm cs.length) : Zao cs impl_ColumnsOk_1 = some (cs.any fun c => !(inR c.fKind 1 3)) := by
 unfold Zao Za7
 obtain ⟨r, h1, h2⟩ := loop_find (xs := cs) (L := Z1 cs impl_ColumnsOk_1) (p := fun c => !(inR c.fKind 1 3)) (by omega) (fun f i v hi hv hw => by
  have : (i : Int) < cs.length := by omega
  simp only [Z1, this, decide_true, cond_true, Z9, hv, Option.bind_some, impl_ColumnsOk_1, impl_in, hw]) (fun f => by
  simp only [Z1, Int.lt_irrefl, decide_false, cond_false])
 rw [h1, Option.bind_some, h2]
theorem not_any_not {α : Type} (xs : List α) (p : α → Bool) : (!(xs.any fun x => !(p x))) = xs.all p := by
 induction xs with
 | nil => rfl
 | cons x xs ih => simp [← ih]
theorem impl_colsOk {cs : List Zb} (h : Sm cs.length) : impl_ColumnsOk cs = some (colsOk cs) := by
 unfold impl_ColumnsOk colsOk
 rw [impl_colsAny h, Option.bind_some, not_any_not]
 by_cases h4 : cs.length ≤ 4
 ·have : (cs.length : Int) ≤ 4 := by omega
  simp [h4, this]
 ·have : ¬ (cs.length : Int) ≤ 4 := by omega
  simp [h4, this]
theorem cast_le6 (n : Nat) : decide ((n : Int) ≤ 6) = decide (n ≤ 6) := by
 simp only [decide_eq_decide]
 omega
theorem getB_nat {s : ByteArray} {i : Nat} : getB s (i : Int) = s.data.toList[i]? := by
 unfold getB
 rw [if_pos (by omega), Int.toNat_natCast]
 by_cases h : i < s.size
 ·rw [getElem?_pos s i h, List.getElem?_eq_getElem (by simpa using h)]
  simp only [Option.some.injEq]
  rfl
 ·rw [getElem?_neg s i h, List.getElem?_eq_none (by simpa using h)]
def letter (b : UInt8) : Bool := decide (97 ≤ b.toNat) && decide (b.toNat ≤ 122)
def textOk (s : ByteArray) : Bool := s.data.toList.all letter && decide (s.size ≤ 6)
theorem size_list (s : ByteArray) : s.data.toList.length = s.size := Array.length_toList
theorem spec_text {s : ByteArray} (h : Sm s.size) : spec_l1Text s = some (textOk s) := by
 unfold spec_l1Text textOk
 have hl := size_list s
 refine loop_all (xs := s.data.toList) (by omega) (fun f i v hi hv hw => ?_) (fun f => ?_)
 ·have : (i : Int) < s.size := by omega
  simp only [spec_l1Text_l0, this, decide_true, cond_true, getB_nat, hv, Option.bind_some, spec_l1Text_j1, hw]
  unfold letter
  by_cases h1 : (v.toNat : Int) < 97
  ·have : ¬ 97 ≤ v.toNat := by omega
   simp [h1, this]
  ·have h1' : 97 ≤ v.toNat := by omega
   by_cases h2 : (v.toNat : Int) > 122
   ·have : ¬ v.toNat ≤ 122 := by omega
    simp [h1, h1', h2, this]
   ·have : v.toNat ≤ 122 := by omega
    simp [h1, h1', h2, this]
 ·rw [hl]
  unfold spec_l1Text_l0
  rw [show decide ((s.size : Int) < (s.size : Int)) = false from decide_eq_false (Int.lt_irrefl _), cond_false, cast_le6]
theorem impl_lettersOk {s : ByteArray} (h : Sm s.size) : impl_letters s = some (s.data.toList.all letter) := by
 have hl := size_list s
 unfold impl_letters bytesOf
 rw [if_pos (by omega), Option.bind_some, ← Bool.and_true (s.data.toList.all letter)]
 refine loop_all (xs := s.data.toList) (by omega) (fun f i v hi hv hw => ?_) (fun f => ?_)
 ·have : (i : Int) < s.data.toList.length := by omega
  have hb : v.toNat < 256 := v.toNat_lt
  have h1 : w64 (v.toNat : Int) = v.toNat := w64_of (by omega) (by omega)
  simp only [impl_letters_l0, this, decide_true, cond_true, Z9, hv, Option.bind_some, impl_in, hw, h1]
  have : inR (v.toNat : Int) 97 122 = letter v := by
   unfold inR letter
   congr 1 <;> simp only [decide_eq_decide] <;> omega
  rw [this]
  cases letter v <;> rfl
 ·simp only [impl_letters_l0, Int.lt_irrefl, decide_false, cond_false]
def valOk (v : Za) : Bool := bif v.fKind == 0 then v.fN == 0 && v.fS.toList == (ByteArray.mk #[]).toList else bif v.fKind == 1 then inR v.fN (-9999) 9999 && v.fS.toList == (ByteArray.mk #[]).toList else
 bif v.fKind == 2 then v.fN == 0 && textOk v.fS else bif v.fKind == 3 then inR v.fN 0 1 && v.fS.toList == (ByteArray.mk #[]).toList else false
theorem spec_value {v : Za} (h : Sm v.fS.size) : spec_ValueOk v = some (valOk v) := by
 unfold spec_ValueOk valOk
 simp only [spec_in, spec_text h, Option.bind_some]
 cases v.fKind == 0 <;> cases v.fKind == 1 <;> cases v.fKind == 2 <;> cases v.fKind == 3 <;> cases v.fN == 0 <;> cases inR v.fN (-9999) 9999 <;> cases inR v.fN 0 1 <;> rfl
theorem impl_value {v : Za} (h : Sm v.fS.size) : impl_Value_ok v = some (valOk v) := by
 unfold impl_Value_ok valOk
 simp only [impl_in, impl_lettersOk h, Option.bind_some]
 have e : Zr v ((Za.mk 0 0 (ByteArray.mk #[]))) = (v.fKind == 0 && (v.fN == 0 && v.fS.toList == (ByteArray.mk #[]).toList)) := rfl
 have e2 : decide ((v.fS.size : Int) ≤ 6) = decide (v.fS.size ≤ 6) := by
  simp only [decide_eq_decide]
  omega
 have e3 : textOk v.fS = (v.fS.data.toList.all letter && decide (v.fS.size ≤ 6)) := rfl
 rw [e, e2, e3]
 cases v.fKind == 0 <;> cases v.fKind == 1 <;> cases v.fKind == 2 <;> cases v.fKind == 3 <;> cases v.fN == 0 <;> cases inR v.fN (-9999) 9999 <;> cases inR v.fN 0 1 <;> cases v.fS.toList == (ByteArray.mk #[]).toList <;>
  cases decide (v.fS.size ≤ 6) <;> cases v.fS.data.toList.all letter <;> rfl
def SmV (v : Za) : Prop := Sm v.fS.size
def SmR (r : List Za) : Prop := Sm r.length ∧ ∀ v ∈ r, SmV v
def rowOk (r : List Za) : Bool := r.all valOk && decide (r.length ≤ 4)
theorem spec_rowOk {r : List Za} (h : SmR r) : spec_RowOk r = some (rowOk r) := by
 unfold spec_RowOk rowOk
 have hl := h.1
 refine loop_all (by omega) (fun f i v hi hv hw => ?_) (fun f => ?_)
 ·have : (i : Int) < r.length := by omega
  simp only [spec_RowOk_l0, this, decide_true, cond_true, Z9, hv, Option.bind_some, spec_value (h.2 v (List.mem_of_getElem? hv)), hw]
  cases valOk v <;> rfl
 ·simp only [spec_RowOk_l0, Int.lt_irrefl, decide_false, cond_false]
  congr 1
  simp only [decide_eq_decide]
  omega
theorem impl_rowAny {r : List Za} (h : SmR r) : Zat r impl_RowOk_1 = some (r.any fun v => !(valOk v)) := by
 unfold Zat Zbc
 have hl := h.1
 obtain ⟨x, h1, h2⟩ := loop_find (xs := r) (L := Z5 r impl_RowOk_1) (p := fun v => !(valOk v)) (by omega) (fun f i v hi hv hw => by
  have : (i : Int) < r.length := by omega
  simp only [Z5, this, decide_true, cond_true, Z9, hv, Option.bind_some, impl_RowOk_1, impl_value (h.2 v (List.mem_of_getElem? hv)), hw]) (fun f => by
  simp only [Z5, Int.lt_irrefl, decide_false, cond_false])
 rw [h1, Option.bind_some, h2]
theorem le4 {α : Type} (xs : List α) : decide ((xs.length : Int) ≤ 4) = decide (xs.length ≤ 4) := by
 simp only [decide_eq_decide]
 omega
theorem impl_rowOk {r : List Za} (h : SmR r) : impl_RowOk r = some (rowOk r) := by
 unfold impl_RowOk rowOk
 rw [impl_rowAny h, Option.bind_some, not_any_not, le4]
 cases decide (r.length ≤ 4) <;> simp
def fits (c : Zb) (v : Za) : Bool := v.fKind == c.fKind || (v.fKind == 0 && c.fEmpty)
def rowFits (cs : List Zb) (r : List Za) : Bool := colsOk cs && (rowOk r && (r.length == cs.length && (r.zip cs).all fun p => fits p.2 p.1))
theorem zip_get {α β : Type} {xs : List α} {ys : List β} (h : xs.length = ys.length) {i : Nat} {p : α × β} (hp : (xs.zip ys)[i]? = some p) : xs[i]? = some p.1 ∧ ys[i]? = some p.2 := by
 rw [List.getElem?_zip_eq_some] at hp
 exact hp
theorem spec_rowFits {cs : List Zb} {r : List Za} (hc : Sm cs.length) (h : SmR r) : spec_RowFits cs r = some (rowFits cs r) := by
 unfold spec_RowFits rowFits
 rw [spec_colsOk hc, Option.bind_some, spec_rowOk h, Option.bind_some]
 cases colsOk cs
 ·rfl
 ·cases rowOk r
  ·rfl
  ·by_cases he : r.length = cs.length
   ·have e1 : ((r.length : Int) == (cs.length : Int)) = true := by simp [he]
    have e2 : (r.length == cs.length) = true := by simp [he]
    rw [e1, e2]
    simp only [Bool.not_true, cond_false, spec_RowFits_j0, Bool.true_and]
    have hl := h.1
    have hz : (r.zip cs).length = r.length := by simp [he]
    rw [show (r.zip cs).all (fun p => fits p.2 p.1) = ((r.zip cs).all (fun p => fits p.2 p.1) && true) by simp]
    refine loop_all (xs := r.zip cs) (by omega) (fun f i p hi hp hw => ?_) (fun f => ?_)
    ·obtain ⟨p1, p2⟩ := zip_get he hp
     have : (i : Int) < r.length := by omega
     simp only [spec_RowFits_l1, this, decide_true, cond_true, Z9, p1, p2, Option.bind_some, spec_RowFits_j2, hw, fits]
     cases p.1.fKind == p.2.fKind <;> cases p.1.fKind == 0 <;> cases p.2.fEmpty <;> rfl
    ·rw [hz]
     simp only [spec_RowFits_l1, Int.lt_irrefl, decide_false, cond_false]
   ·have e1 : ((r.length : Int) == (cs.length : Int)) = false := by
     simp only [beq_eq_false_iff_ne, ne_eq]
     omega
    have e2 : (r.length == cs.length) = false := by simp [he]
    rw [e1, e2]
    rfl
theorem impl_rowFits {cs : List Zb} {r : List Za} (hc : Sm cs.length) (h : SmR r) : impl_RowFits cs r = some (rowFits cs r) := by
 unfold impl_RowFits rowFits
 rw [impl_colsOk hc, Option.bind_some, impl_rowOk h, Option.bind_some]
 cases colsOk cs
 ·rfl
 ·cases rowOk r
  ·rfl
  ·by_cases he : r.length = cs.length
   ·have e1 : ((r.length : Int) == (cs.length : Int)) = true := by simp [he]
    have e2 : (r.length == cs.length) = true := by simp [he]
    rw [e1, e2]
    simp only [Bool.not_true, cond_false, impl_RowFits_j0, Bool.true_and]
    have hl := h.1
    have hz : (r.zip cs).length = r.length := by simp [he]
    rw [show (r.zip cs).all (fun p => fits p.2 p.1) = ((r.zip cs).all (fun p => fits p.2 p.1) && true) by simp]
    refine loop_all (xs := r.zip cs) (by omega) (fun f i p hi hp hw => ?_) (fun f => ?_)
    ·obtain ⟨p1, p2⟩ := zip_get he hp
     have : (i : Int) < r.length := by omega
     simp only [impl_RowFits_l1, this, decide_true, cond_true, Z9, p1, p2, Option.bind_some, impl_RowFits_j2, hw, fits]
     cases p.1.fKind == p.2.fKind <;> cases p.1.fKind == 0 <;> cases p.2.fEmpty <;> rfl
    ·rw [hz]
     simp only [impl_RowFits_l1, Int.lt_irrefl, decide_false, cond_false]
   ·have e1 : ((r.length : Int) == (cs.length : Int)) = false := by
     simp only [beq_eq_false_iff_ne, ne_eq]
     omega
    have e2 : (r.length == cs.length) = false := by simp [he]
    rw [e1, e2]
    rfl
def SmRs (rs : List (List Za)) : Prop := Sm rs.length ∧ ∀ r ∈ rs, SmR r
def rowsOk (cs : List Zb) (rs : List (List Za)) : Bool := colsOk cs && rs.all (rowFits cs)
theorem spec_rowsOk {cs : List Zb} {rs : List (List Za)} (hc : Sm cs.length) (h : SmRs rs) : spec_RowsOk cs rs = some (rowsOk cs rs) := by
 unfold spec_RowsOk rowsOk
 have hl := h.1
 rw [Bool.and_comm]
 refine loop_all (by omega) (fun f i v hi hv hw => ?_) (fun f => ?_)
 ·have : (i : Int) < rs.length := by omega
  simp only [spec_RowsOk_l0, this, decide_true, cond_true, Z9, hv, Option.bind_some, spec_rowFits hc (h.2 v (List.mem_of_getElem? hv)), hw]
  cases rowFits cs v <;> rfl
 ·simp only [spec_RowsOk_l0, Int.lt_irrefl, decide_false, cond_false, spec_colsOk hc, Option.bind_some]
theorem impl_rowsAny {cs : List Zb} {rs : List (List Za)} (hc : Sm cs.length) (h : SmRs rs) : Zak rs (fun z0 => impl_RowsOk_1 z0 cs) = some (rs.any fun r => !(rowFits cs r)) := by
 unfold Zak Za4
 have hl := h.1
 obtain ⟨x, h1, h2⟩ := loop_find (xs := rs) (L := Z0 rs (fun z0 => impl_RowsOk_1 z0 cs)) (p := fun r => !(rowFits cs r)) (by omega) (fun f i v hi hv hw => by
  have : (i : Int) < rs.length := by omega
  simp only [Z0, this, decide_true, cond_true, Z9, hv, Option.bind_some, impl_RowsOk_1, impl_rowFits hc (h.2 v (List.mem_of_getElem? hv)), hw]) (fun f => by
  simp only [Z0, Int.lt_irrefl, decide_false, cond_false])
 rw [h1, Option.bind_some, h2]
theorem impl_rowsOk {cs : List Zb} {rs : List (List Za)} (hc : Sm cs.length) (h : SmRs rs) : impl_RowsOk cs rs = some (rowsOk cs rs) := by
 unfold impl_RowsOk rowsOk
 rw [impl_colsOk hc, Option.bind_some, impl_rowsAny hc h, Option.bind_some, not_any_not]
 cases colsOk cs <;> rfl
end Go.D
set_option linter.unusedVariables false
namespace Go.D
theorem bifSome {α : Type} {c : Bool} {a : Option α} {y : α} (h : (bif c then a else none) = some y) : c = true ∧ a = some y := by
 cases c with
 | false => cases h
 | true => exact ⟨rfl, h⟩
theorem loop_opt {α σ β : Type} {xs : List α} {L : Nat → Int → σ → Option β} (R : List α → σ → Option β) (Inv : Nat → σ → Prop) (hlen : xs.length ≤ 70368744177662)
  (h : ∀ (f i : Nat) (s : σ) (v : α), i < xs.length → xs[i]? = some v → w64 ((i : Int) + 1) = ((i + 1 : Nat) : Int) → Inv i s →
   L (f + 1) i s = R (v :: xs.drop (i + 1)) s ∨ ∃ s', Inv (i + 1) s' ∧ L (f + 1) i s = L f ((i + 1 : Nat) : Int) s' ∧ R (v :: xs.drop (i + 1)) s = R (xs.drop (i + 1)) s')
  (he : ∀ f s, Inv xs.length s → L (f + 1) (xs.length : Int) s = R [] s) {s : σ} (h0 : Inv 0 s) : L FUEL 0 s = R xs s := by
 have main : ∀ (k f i : Nat) (s : σ), i + k = xs.length → k < f → Inv i s → L f (i : Int) s = R (xs.drop i) s := by
  intro k
  induction k with
  | zero =>
   intro f i s hi hf hI
   obtain ⟨f, rfl⟩ : ∃ f', f = f' + 1 := ⟨f - 1, by omega⟩
   have : i = xs.length := by omega
   subst this
   rw [he _ _ hI, List.drop_length]
  | succ k ih =>
   intro f i s hi hf hI
   obtain ⟨f, rfl⟩ : ∃ f', f = f' + 1 := ⟨f - 1, by omega⟩
   have hlt : i < xs.length := by omega
   rw [List.drop_eq_getElem_cons hlt]
   rcases h f i s xs[i] hlt (List.getElem?_eq_getElem hlt) (succ_w hlt (by omega)) hI with h1 | ⟨s', h1, h2, h3⟩
   ·exact h1
   ·rw [h2, h3]
    exact ih f (i + 1) s' (by omega) (by omega) h1
 have := main xs.length FUEL 0 s (by omega) (by unfold FUEL; omega) h0
 simpa using this
end Go.D
set_option linter.unusedVariables false
namespace Go.D
structure RdOk (n : Int) (r : Zc) : Prop where
 len : r.fB.length ≤ 2000
 lo : 0 ≤ r.fP
 hi : r.fP ≤ n
theorem RdOk.up {n m : Int} {r : Zc} (h : RdOk n r) (hm : n ≤ m) : RdOk m r := ⟨h.len, h.lo, by have := h.hi; omega⟩
theorem remI_pos {a b : Int} (ha : 0 ≤ a) (hb : 0 < b) : ∃ k, remI a b = some k ∧ 0 ≤ k ∧ k < b := by
 unfold remI
 rw [if_neg (by omega)]
 refine ⟨_, rfl, ?_, ?_⟩
 ·rw [Int.tmod_eq_emod_of_nonneg ha]
  exact Int.emod_nonneg _ (by omega)
 ·rw [Int.tmod_eq_emod_of_nonneg ha]
  exact Int.emod_lt_of_pos _ hb
theorem quoI_pos {a b : Int} (ha : 0 ≤ a) (ha2 : a ≤ 4611686018427387904) (hb : 0 < b) : ∃ k, quoI a b = some k ∧ 0 ≤ k ∧ k ≤ a := by
 unfold quoI
 rw [if_neg (by omega), Int.tdiv_eq_ediv_of_nonneg ha]
 have h0 : 0 ≤ a / b := Int.ediv_nonneg ha (by omega)
 have h1 : a / b ≤ a := Int.ediv_le_self _ ha
 rw [w64_of (by omega) (by omega)]
 exact ⟨_, rfl, h0, h1⟩
theorem xor_w {a b : Int} (ha : 0 ≤ a) (hb : 0 ≤ b) (ha2 : a < 4611686018427387904) (hb2 : b < 4611686018427387904) : 0 ≤ w64 (((BitVec.ofInt 64 a ^^^ BitVec.ofInt 64 b).toNat : Nat) : Int) := by
 obtain ⟨m, rfl⟩ := Int.eq_ofNat_of_zero_le ha
 obtain ⟨n, rfl⟩ := Int.eq_ofNat_of_zero_le hb
 have hm : m < 2 ^ 62 := by omega
 have hn : n < 2 ^ 62 := by omega
 have e : (BitVec.ofInt 64 (m : Int) ^^^ BitVec.ofInt 64 (n : Int)).toNat = m ^^^ n := by
  rw [BitVec.toNat_xor, BitVec.ofInt_natCast, BitVec.ofInt_natCast, BitVec.toNat_ofNat, BitVec.toNat_ofNat, Nat.mod_eq_of_lt (by omega), Nat.mod_eq_of_lt (by omega)]
 rw [e]
 have := Nat.xor_lt_two_pow hm hn
 rw [w64_of (by omega) (by omega)]
 omega
theorem pick_ok {n : Int} {r : Zc} (h : RdOk n r) (hn : n ≤ 1000000) (a : Int) : ∃ k r', Zm r a = some (k, r') ∧ RdOk (n + 1) r' ∧ 0 ≤ k ∧ (a < 1 → k = 0) ∧ (1 ≤ a → k < a) := by
 obtain ⟨fB, fP⟩ := r
 obtain ⟨h1, h2, h3⟩ := h
 simp only at h1 h2 h3
 have w1 : w64 (fP + 1) = fP + 1 := w64_of (by omega) (by omega)
 have w2 : w64 (fP + 1 - 1) = fP := by rw [show fP + 1 - 1 = fP by omega]; exact w64_of (by omega) (by omega)
 have hr : RdOk (n + 1) ⟨fB, fP + 1⟩ := ⟨h1, by simp only; omega, by simp only; omega⟩
 unfold Zm
 by_cases ha : a < 1
 ·rw [decide_eq_true ha, cond_true]
  unfold spec_l20Rd_pick_j0
  simp only [cond_true, w1]
  exact ⟨0, _, rfl, hr, Int.le_refl _, fun _ => rfl, fun h => by omega⟩
 rw [decide_eq_false ha, cond_false]
 unfold spec_l20Rd_pick_j0
 simp only [w1, w2]
 by_cases hl : fB.length = 0
 ·have : ((fB.length : Int) == 0) = true := by rw [hl]; rfl
  rw [this, cond_true]
  exact ⟨0, _, rfl, hr, Int.le_refl _, fun _ => rfl, fun h => by omega⟩
 have : ((fB.length : Int) == 0) = false := by
  rw [beq_eq_false_iff_ne]
  omega
 rw [this, cond_false]
 have hpos : (0 : Int) < fB.length := by omega
 by_cases hp : fP < (fB.length : Int)
 ·rw [decide_eq_true hp, cond_true]
  obtain ⟨b, hb, _⟩ := getI_lt (xs := fB) h2 hp
  have hb8 : b.toNat < 256 := b.toNat_lt
  have w3 : w64 (b.toNat : Int) = b.toNat := w64_of (by omega) (by omega)
  obtain ⟨k, hk, k0, k1⟩ := remI_pos (a := (b.toNat : Int)) (b := a) (by omega) (by omega)
  rw [hb, Option.bind_some, w3, hk, Option.bind_some]
  exact ⟨k, _, rfl, hr, k0, fun h => by omega, fun _ => k1⟩
 ·rw [decide_eq_false hp, cond_false]
  have w4 : w64 (fP * 7) = fP * 7 := w64_of (by omega) (by omega)
  have w5 : w64 (fP * 7 + 3) = fP * 7 + 3 := w64_of (by omega) (by omega)
  have w6 : w64 (fP * 29) = fP * 29 := w64_of (by omega) (by omega)
  obtain ⟨k1, e1, l1, u1⟩ := remI_pos (a := fP) (b := (fB.length : Int)) h2 hpos
  obtain ⟨b1, g1, _⟩ := getI_lt (xs := fB) l1 u1
  obtain ⟨k2, e2, l2, u2⟩ := remI_pos (a := fP * 7 + 3) (b := (fB.length : Int)) (by omega) hpos
  obtain ⟨b2, g2, _⟩ := getI_lt (xs := fB) l2 u2
  obtain ⟨k3, e3, l3, u3⟩ := quoI_pos (a := fP) (b := (fB.length : Int)) h2 (by omega) hpos
  have hb1 : b1.toNat < 256 := b1.toNat_lt
  have hb2 : b2.toNat < 256 := b2.toNat_lt
  have w7 : w64 (b1.toNat : Int) = b1.toNat := w64_of (by omega) (by omega)
  have w8 : w64 (b2.toNat : Int) = b2.toNat := w64_of (by omega) (by omega)
  have w9 : w64 ((b1.toNat : Int) * 131) = (b1.toNat : Int) * 131 := w64_of (by omega) (by omega)
  have w10 : w64 ((b2.toNat : Int) * 1117) = (b2.toNat : Int) * 1117 := w64_of (by omega) (by omega)
  have w11 : w64 ((b1.toNat : Int) * 131 + (b2.toNat : Int) * 1117) = (b1.toNat : Int) * 131 + (b2.toNat : Int) * 1117 := w64_of (by omega) (by omega)
  have w12 : w64 ((b1.toNat : Int) * 131 + (b2.toNat : Int) * 1117 + fP * 29) = (b1.toNat : Int) * 131 + (b2.toNat : Int) * 1117 + fP * 29 := w64_of (by omega) (by omega)
  have w13 : w64 (k3 * 53) = k3 * 53 := w64_of (by omega) (by omega)
  have w14 : w64 ((b1.toNat : Int) * 131 + (b2.toNat : Int) * 1117 + fP * 29 + k3 * 53) = (b1.toNat : Int) * 131 + (b2.toNat : Int) * 1117 + fP * 29 + k3 * 53 := w64_of (by omega) (by omega)
  simp only [w4, w5, w6, e1, g1, e2, g2, e3, Option.bind_some, w7, w8, w9, w10, w11, w12, w13, w14]
  generalize hx : (b1.toNat : Int) * 131 + (b2.toNat : Int) * 1117 + fP * 29 + k3 * 53 = x
  have x0 : 0 ≤ x := by omega
  have x1 : x ≤ 100000000 := by omega
  have y0 : 0 ≤ x.tdiv 64 := by rw [Int.tdiv_eq_ediv_of_nonneg x0]; omega
  have y1 : x.tdiv 64 ≤ x := by rw [Int.tdiv_eq_ediv_of_nonneg x0]; omega
  have w15 : w64 (x.tdiv 64) = x.tdiv 64 := w64_of (by omega) (by omega)
  rw [w15]
  obtain ⟨k, hk, k0, kk⟩ := remI_pos (b := a) (xor_w (a := x) (b := x.tdiv 64) x0 y0 (by omega) (by omega)) (by omega)
  rw [hk, Option.bind_some]
  exact ⟨k, _, rfl, hr, k0, fun h => by omega, fun _ => kk⟩
theorem open_ok {b : List UInt8} (hb : b.length ≤ 1048576) : ∃ r, spec_l20Open b = some r ∧ RdOk 0 r := by
 unfold spec_l20Open spec_l20Open_j0
 by_cases h : (b.length : Int) > 2000
 ·rw [decide_eq_true h, cond_true]
  have e : slI b none (some 2000) none = some (b.take 2000) := by
   unfold slI
   rw [if_pos (by simp only [Option.getD_none, Option.getD_some]; omega)]
   simp
  rw [e, Option.bind_some]
  exact ⟨_, rfl, by simp only [List.length_take]; omega, Int.le_refl _, Int.le_refl _⟩
 ·rw [decide_eq_false h, cond_false]
  exact ⟨_, rfl, by simp only; omega, Int.le_refl _, Int.le_refl _⟩
end Go.D
set_option linter.unusedVariables false
namespace Go.D
def Wp {α : Type} (m : Option (α × Zc)) (Q : α → Zc → Prop) : Prop := ∃ x r, m = some (x, r) ∧ Q x r
theorem wp_some {α : Type} {x : α} {r : Zc} {Q : α → Zc → Prop} (h : Q x r) : Wp (some (x, r)) Q := ⟨x, r, rfl, h⟩
theorem wp_pick {α : Type} {r : Zc} {a n : Int} {f : Int × Zc → Option (α × Zc)} {Q : α → Zc → Prop} (h : RdOk n r) (hn : n ≤ 1000000)
  (hk : ∀ k r', RdOk (n + 1) r' → 0 ≤ k → (a < 1 → k = 0) → (1 ≤ a → k < a) → Wp (f (k, r')) Q) : Wp ((Zm r a).bind f) Q := by
 obtain ⟨k, r', e, h1, h2, h3, h4⟩ := pick_ok h hn a
 rw [e, Option.bind_some]
 exact hk k r' h1 h2 h3 h4
theorem wp_bif {α : Type} {c : Bool} {a b : Option (α × Zc)} {Q : α → Zc → Prop} (h1 : c = true → Wp a Q) (h2 : c = false → Wp b Q) : Wp (bif c then a else b) Q := by
 cases c with
 | true => exact h1 rfl
 | false => exact h2 rfl
theorem wp_app {α β : Type} {xs ys : List β} {f : List β → Option (α × Zc)} {Q : α → Zc → Prop} (h : xs.length + ys.length < 68719476736) (hk : Wp (f (xs ++ ys)) Q) : Wp ((app xs ys).bind f) Q := by
 rw [app_lt h, Option.bind_some]
 exact hk
theorem wp_getI {α β : Type} {xs : List β} {i : Int} {f : β → Option (α × Zc)} {Q : α → Zc → Prop} (h0 : 0 ≤ i) (h1 : i < xs.length) (hk : ∀ x ∈ xs, Wp (f x) Q) : Wp ((getI xs i).bind f) Q := by
 obtain ⟨x, h, hx⟩ := getI_lt h0 h1
 rw [h, Option.bind_some]
 exact hk x (List.mem_of_getElem? hx)
theorem wp_then {α β : Type} {m : Option (β × Zc)} {f : β × Zc → Option (α × Zc)} {P : β → Zc → Prop} {Q : α → Zc → Prop} (h : Wp m P) (hk : ∀ x r, P x r → Wp (f (x, r)) Q) : Wp (m.bind f) Q := by
 obtain ⟨x, r, e, hp⟩ := h
 rw [e, Option.bind_some]
 exact hk x r hp
theorem loop_down {σ β : Type} {L : Nat → Int → σ → Option (β × Zc)} {Q : β → Zc → Prop} (Inv : Nat → σ → Prop)
  (h : ∀ (f k : Nat) (s : σ), k ≤ 1000000 → w64 (((k + 1 : Nat) : Int) - 1) = (k : Int) → Inv (k + 1) s → (∀ s', Inv k s' → Wp (L f (k : Int) s') Q) → Wp (L (f + 1) ((k + 1 : Nat) : Int) s) Q)
  (he : ∀ (f : Nat) (s : σ), Inv 0 s → Wp (L (f + 1) 0 s) Q) (k : Nat) (s : σ) (hI : Inv k s) (hk : k ≤ 1000000) : Wp (L FUEL (k : Int) s) Q := by
 have main : ∀ (k f : Nat) (s : σ), k < f → k ≤ 1000000 → Inv k s → Wp (L f (k : Int) s) Q := by
  intro k
  induction k with
  | zero =>
   intro f s hf _ hI
   obtain ⟨f, rfl⟩ : ∃ f', f = f' + 1 := ⟨f - 1, by omega⟩
   exact he f s hI
  | succ k ih =>
   intro f s hf hk hI
   obtain ⟨f, rfl⟩ : ∃ f', f = f' + 1 := ⟨f - 1, by omega⟩
   exact h f k s (by omega) (by rw [w64_of] <;> omega) hI fun s' hI' => ih f s' (by omega) (by omega) hI'
 exact main k FUEL s (by unfold FUEL; omega) hk hI
theorem like_ok {n : Int} {r : Zc} (h : RdOk n r) (hn : n ≤ 900000) (c : Zb) : Wp (spec_l20Like r c) fun v r' => RdOk (n + 2) r' ∧ v.fS.size ≤ 2 := by
 have e0 : (ByteArray.mk #[]).size = 0 := rfl
 have key : ∀ (m : Int) (r : Zc) (b : Bool), RdOk m r → m ≤ n + 1 → Wp (spec_l20Like_j0 c b r) fun v r' => RdOk (n + 2) r' ∧ v.fS.size ≤ 2 := by
  intro m r b h hm
  unfold spec_l20Like_j0
  refine wp_bif (fun _ => wp_some ⟨h.up (by omega), by simp [e0]⟩) fun _ => wp_bif (fun _ => ?_) fun _ => wp_bif (fun _ => ?_) fun _ => ?_
  ·exact wp_pick h (by omega) fun k r1 h1 _ _ _ => wp_some ⟨h1.up (by omega), by simp [e0]⟩
  ·refine wp_pick h (by omega) fun k r1 h1 p0 _ p1 => wp_getI p0 (by have := p1 (by omega); simp; omega) fun s hs => wp_some ⟨h1.up (by omega), ?_⟩
   simp only [List.mem_cons, List.not_mem_nil, or_false] at hs
   rcases hs with rfl | rfl | rfl | rfl <;> decide
  ·exact wp_pick h (by omega) fun k r1 h1 _ _ _ => wp_some ⟨h1.up (by omega), by simp [e0]⟩
 unfold spec_l20Like
 refine wp_bif (fun _ => wp_pick h (by omega) fun k r1 h1 _ _ _ => key _ _ _ h1 (by omega)) fun _ => key _ _ _ h (by omega)
end Go.D
set_option linter.unusedVariables false
namespace Go.D
def SmT (t : Zh) : Prop := Sm t.fColumns.length ∧ SmRs t.fRows
def SmTs (ts : List Zh) : Prop := Sm ts.length ∧ ∀ t ∈ ts, SmT t
def tabOk (t : Zh) : Bool := decide (t.fRows.length ≤ 6) && rowsOk t.fColumns t.fRows
def tabsOk (ts : List Zh) : Bool := ts.all tabOk && decide (ts.length ≤ 3)
theorem gt6 {α : Type} (xs : List α) : decide ((xs.length : Int) > 6) = !(decide (xs.length ≤ 6)) := by
 by_cases h : xs.length ≤ 6
 ·have : ¬ (xs.length : Int) > 6 := by omega
  simp [h, this]
 ·have : (xs.length : Int) > 6 := by omega
  simp [h, this]
theorem spec_tabsOk {ts : List Zh} (h : SmTs ts) : spec_TablesOk ts = some (tabsOk ts) := by
 unfold spec_TablesOk tabsOk
 have hl := h.1
 refine loop_all (by omega) (fun f i v hi hv hw => ?_) (fun f => ?_)
 ·have : (i : Int) < ts.length := by omega
  have hv' := h.2 v (List.mem_of_getElem? hv)
  simp only [spec_TablesOk_l0, this, decide_true, cond_true, Z9, hv, Option.bind_some, spec_rowsOk hv'.1 hv'.2, spec_TablesOk_j1, hw, gt6, tabOk]
  cases decide (v.fRows.length ≤ 6) <;> cases rowsOk v.fColumns v.fRows <;> rfl
 ·simp only [spec_TablesOk_l0, Int.lt_irrefl, decide_false, cond_false]
  congr 1
  simp only [decide_eq_decide]
  omega
theorem impl_tabsAny {ts : List Zh} (h : SmTs ts) : Zas ts impl_TablesOk_1 = some (ts.any fun t => !(tabOk t)) := by
 unfold Zas Zbd
 have hl := h.1
 obtain ⟨x, h1, h2⟩ := loop_find (xs := ts) (L := Z6 ts impl_TablesOk_1) (p := fun t => !(tabOk t)) (by omega) (fun f i v hi hv hw => by
  have : (i : Int) < ts.length := by omega
  have hv' := h.2 v (List.mem_of_getElem? hv)
  simp only [Z6, this, decide_true, cond_true, Z9, hv, Option.bind_some, impl_TablesOk_1, impl_colsOk hv'.1, impl_rowsOk hv'.1 hv'.2, hw, gt6, tabOk, rowsOk]
  cases colsOk v.fColumns <;> cases decide (v.fRows.length ≤ 6) <;> simp) (fun f => by
  simp only [Z6, Int.lt_irrefl, decide_false, cond_false])
 rw [h1, Option.bind_some, h2]
theorem impl_tabsOk {ts : List Zh} (h : SmTs ts) : impl_TablesOk ts = some (tabsOk ts) := by
 unfold impl_TablesOk tabsOk
 rw [impl_tabsAny h, Option.bind_some, not_any_not]
 have : decide ((ts.length : Int) ≤ 3) = decide (ts.length ≤ 3) := by
  simp only [decide_eq_decide]
  omega
 rw [this]
 cases decide (ts.length ≤ 3) <;> simp
end Go.D
set_option linter.unusedVariables false
namespace Go.D
theorem loop_up {γ σ β : Type} {xs : List γ} {L : Nat → Int → σ → Option (β × Zc)} {Q : β → Zc → Prop} (Inv : Nat → σ → Prop) (hlen : xs.length ≤ 1000000)
  (h : ∀ (f i : Nat) (s : σ) (v : γ), i < xs.length → xs[i]? = some v → w64 ((i : Int) + 1) = ((i + 1 : Nat) : Int) → Inv i s → (∀ s', Inv (i + 1) s' → Wp (L f ((i + 1 : Nat) : Int) s') Q) → Wp (L (f + 1) (i : Int) s) Q)
  (he : ∀ (f : Nat) (s : σ), Inv xs.length s → Wp (L (f + 1) (xs.length : Int) s) Q) (s : σ) (h0 : Inv 0 s) : Wp (L FUEL 0 s) Q := by
 have main : ∀ (k f i : Nat) (s : σ), i + k = xs.length → k < f → Inv i s → Wp (L f (i : Int) s) Q := by
  intro k
  induction k with
  | zero =>
   intro f i s hi hf hI
   obtain ⟨f, rfl⟩ : ∃ f', f = f' + 1 := ⟨f - 1, by omega⟩
   have : i = xs.length := by omega
   subst this
   exact he f s hI
  | succ k ih =>
   intro f i s hi hf hI
   obtain ⟨f, rfl⟩ : ∃ f', f = f' + 1 := ⟨f - 1, by omega⟩
   have hlt : i < xs.length := by omega
   exact h f i s xs[i] hlt (List.getElem?_eq_getElem hlt) (succ_w hlt (by omega)) hI fun s' hI' => ih f (i + 1) s' (by omega) (by omega) hI'
 exact main xs.length FUEL 0 s (by omega) (by unfold FUEL; omega) h0
def Sr (m : Nat) (row : List Za) : Prop := row.length ≤ m ∧ ∀ v ∈ row, v.fS.size ≤ 10
theorem Sr.sm {m : Nat} {row : List Za} (h : Sr m row) (hm : m ≤ 1000) : SmR row := ⟨by have := h.1; omega, fun v hv => by have := h.2 v hv; unfold SmV; omega⟩
theorem Sr.app {m k : Nat} {row r2 : List Za} (h : Sr m row) (h2 : Sr k r2) : Sr (m + k) (row ++ r2) := ⟨by have := h.1; have := h2.1; rw [List.length_append]; omega, fun v hv => (List.mem_append.1 hv).elim (h.2 v) (h2.2 v)⟩
theorem Sr.one {v : Za} (h : v.fS.size ≤ 10) : Sr 1 [v] := ⟨by simp, fun u hu => by simp at hu; subst hu; exact h⟩
def Srs (rows : List (List Za)) : Prop := rows.length ≤ 6 ∧ ∀ r ∈ rows, Sr 9 r
theorem own_ok {a : List Za} (ha : Sr 9 a) : spec_l3Own a = some a := by
 unfold spec_l3Own
 rw [app_lt (by have := ha.1; simp; omega), List.nil_append, Option.bind_some]
structure TbOk (t : Zh) : Prop where
 c1 : 1 ≤ t.fColumns.length
 c2 : t.fColumns.length ≤ 6
 rs : Srs t.fRows
theorem TbOk.sm {t : Zh} (h : TbOk t) : SmT t := ⟨by have := h.c2; omega, by have := h.rs.1; omega, fun r hr => (h.rs.2 r hr).sm (by omega)⟩
end Go.D
set_option linter.unusedVariables false
namespace Go.D
theorem g2 {α : Type} {xs : List α} (a b : α) : getI (xs ++ [a, b]) (xs.length : Int) = some a := by
 rw [Z9]
 simp
theorem g3 {α : Type} {xs : List α} (b : α) : getI (xs ++ [b]) (xs.length : Int) = some b := by
 rw [Z9]
 simp
theorem wm1 : w64 (-1) = -1 := w64_of (by omega) (by omega)
section
variable {α : Type} {xs : List α} (h : xs.length ≤ 2097152)
include h
theorem g1 (a b : α) : getI (xs ++ [a, b]) (w64 (((xs ++ [a, b]).length : Int) - 1)) = some b := by
 have e : (((xs ++ [a, b]).length : Int) - 1) = ((xs.length + 1 : Nat) : Int) := by simp only [List.length_append, List.length_cons, List.length_nil]; omega
 rw [e, w64_of (by omega) (by omega), Z9]
 simp
theorem sl_pre {ys : List α} {n : Int} (hn : n = (xs.length : Int)) : slI (xs ++ ys) none (some n) none = some xs := by
 subst hn
 unfold slI
 rw [if_pos]
 ·simp
 ·simp only [Option.getD_none, Option.getD_some, List.length_append]
  omega
theorem sl_post {ys : List α} {n : Int} (hn : n = (xs.length : Int)) : slI (xs ++ ys) (some n) none none = some ys := by
 subst hn
 unfold slI
 rw [if_pos]
 ·simp only [Option.getD_none, Option.getD_some, Int.toNat_natCast, List.drop_left, List.length_append]
  rw [List.take_of_length_le (by omega)]
 ·simp only [Option.getD_none, Option.getD_some, List.length_append]
  omega
theorem max0 {n : Int} (hn : n = (xs.length : Int)) : maxL n [0] = (xs.length : Int) := by
 subst hn
 unfold maxL maxL
 rw [if_neg (by omega)]
theorem len2 (a b : α) : w64 (((xs ++ [a, b]).length : Int) - 2) = (xs.length : Int) := by
 rw [w64_of] <;> simp <;> omega
theorem len1 (b : α) : w64 (((xs ++ [b]).length : Int) - 1) = (xs.length : Int) := by
 rw [w64_of] <;> simp <;> omega
theorem len0 : w64 ((xs.length : Int) - 0) = (xs.length : Int) := by
 rw [w64_of] <;> omega
theorem ap_pre {ys : List α} (k : α) : appT (xs ++ ys) [k] xs.length = some (xs ++ [k]) := by
 unfold appT
 rw [if_pos (by simp; omega)]
 simp
theorem ap_all (k : α) : app xs [k] = some (xs ++ [k]) := app_lt (by simp; omega)
end
def zeroV (v : Za) : Bool := Zr v ((Za.mk 0 0 (ByteArray.mk #[])))
def Zad (cs : List Zb) (rs : List Int) (p : Zd) : Option (List Int) :=
 if p.fKind = 1 then bif p.fN == 0 && (valOk p.fV && !(p.fV.fKind == 0)) then some (p.fV.fKind :: rs) else none
 else if p.fKind = 2 then bif zeroV p.fV && inR p.fN 0 ((cs.length : Int) - 1) then (getI cs p.fN).map fun c => c.fKind :: rs else none
 else if p.fKind = 3 then bif zeroV p.fV && p.fN == 0 then (match rs with
  | b :: a :: r => bif b == 1 && a == 1 then some (1 :: r) else none
  | _ => none) else none
 else if p.fKind = 4 then bif zeroV p.fV && inR p.fN 1 4 then (match rs with
  | b :: a :: r => bif b == a then some (3 :: r) else none
  | _ => none) else none
 else if p.fKind = 5 ∨ p.fKind = 6 then bif zeroV p.fV && p.fN == 0 then (match rs with
  | b :: a :: r => bif b == 3 && a == 3 then some (3 :: r) else none
  | _ => none) else none
 else if p.fKind = 7 then bif zeroV p.fV && p.fN == 0 then (match rs with
  | b :: r => bif b == 3 then some (3 :: r) else none
  | _ => none) else none
 else if p.fKind = 8 then bif zeroV p.fV && p.fN == 0 then (match rs with
  | b :: r => some (3 :: r)
  | _ => none) else none
 else none
def exprRun (cs : List Zb) : List Zd → List Int → Int
 | [], rs => match rs with
  | [k] => k
  | _ => -1
 | p :: ps, rs => match Zad cs rs p with
  | none => -1
  | some rs' => exprRun cs ps rs'
def SmP (p : Zd) : Prop := SmV p.fV
theorem exprStep_len {cs : List Zb} {rs rs' : List Int} {p : Zd} (h : Zad cs rs p = some rs') : rs'.length ≤ rs.length + 1 := by
 unfold Zad at h
 have hb : ∀ {c : Bool} {a : Option (List Int)}, (bif c then a else none) = some rs' → a = some rs' := fun {c a} h => by cases c <;> simp_all
 split at h
 ·have := hb h
  cases this
  simp
 split at h
 ·have := hb h
  simp only [Option.map_eq_some_iff] at this
  obtain ⟨_, _, rfl⟩ := this
  simp
 split at h
 ·have := hb h
  split at this
  ·cases hb this
   simp <;> omega
  ·cases this
 split at h
 ·have := hb h
  split at this
  ·cases hb this
   simp <;> omega
  ·cases this
 split at h
 ·have := hb h
  split at this
  ·cases hb this
   simp <;> omega
  ·cases this
 split at h
 ·have := hb h
  split at this
  ·cases hb this
   simp
  ·cases this
 split at h
 ·have := hb h
  split at this
  ·cases this
   simp
  ·cases this
 ·cases h
theorem stack_cases {α : Type} (rs : List α) : rs = [] ∨ (∃ b, rs = [b]) ∨ ∃ b a r, rs = b :: a :: r := by
 match rs with
 | [] => exact .inl rfl
 | [b] => exact .inr (.inl ⟨b, rfl⟩)
 | b :: a :: r => exact .inr (.inr ⟨b, a, r, rfl⟩)
theorem kind_cases (k : Int) : k = 1 ∨ k = 2 ∨ k = 3 ∨ k = 4 ∨ k = 5 ∨ k = 6 ∨ k = 7 ∨ k = 8 ∨ (k ≠ 1 ∧ k ≠ 2 ∧ k ≠ 3 ∧ k ≠ 4 ∧ k ≠ 5 ∧ k ≠ 6 ∧ k ≠ 7 ∧ k ≠ 8) := by omega
section
variable {α : Type} {xs : List α}
theorem gt1 (a b : α) : decide (((xs ++ [a, b]).length : Int) > 1) = true := by simp; omega
theorem gt0 (b : α) : decide (((xs ++ [b]).length : Int) > 0) = true := by simp only [List.length_append, List.length_cons, List.length_nil, decide_eq_true_eq]; omega
theorem lt2 (a b : α) : decide (((xs ++ [a, b]).length : Int) < 2) = false := by simp; omega
theorem lt1 (b : α) : decide (((xs ++ [b]).length : Int) < 1) = false := by simp; omega
theorem lt0 : decide ((xs.length : Int) < 0) = false := by simp only [decide_eq_false_iff_not]; omega
theorem rev2 (a b : α) (r : List α) : (b :: a :: r).reverse = r.reverse ++ [a, b] := by simp
theorem rev1 (b : α) (r : List α) : (b :: r).reverse = r.reverse ++ [b] := by simp
end
theorem low2 {xs : List Int} (h : xs.length ≤ 1) : slI xs none (some (maxL (w64 ((xs.length : Int) - 2)) [0])) none = some [] := by
 rw [w64_of (by omega) (by omega)]
 unfold maxL maxL
 rw [if_pos (by omega)]
 unfold slI
 simp
theorem apt0 (xs : List Int) (k : Int) : appT xs [k] ([] : List Int).length = some [k] := by
 unfold appT
 simp
theorem j2_low {xs : List Int} (h : xs.length ≤ 1) (b : Bool) : spec_l4Step_j2 xs b = some ([1], b) := by
 unfold spec_l4Step_j2
 rw [low2 h, Option.bind_some, apt0, Option.bind_some]
theorem j3_low {xs : List Int} (h : xs.length ≤ 1) (b : Bool) : spec_l4Step_j3 xs b = some ([3], b) := by
 unfold spec_l4Step_j3
 rw [low2 h, Option.bind_some, apt0, Option.bind_some]
theorem j5_low {xs : List Int} (h : xs.length ≤ 1) (b : Bool) : spec_l4Step_j5 xs b = some ([3], b) := by
 unfold spec_l4Step_j5
 rw [low2 h, Option.bind_some, apt0, Option.bind_some]
def SpecStep (cs : List Zb) (rs : List Int) (p : Zd) : Prop := match Zad cs rs p with
 | some rs' => Zay cs rs.reverse p = some (rs'.reverse, true)
 | none => ∃ s, Zay cs rs.reverse p = some (s, false)
theorem spec_step {cs : List Zb} {rs : List Int} {p : Zd} (hc : Sm cs.length) (hr : rs.length ≤ 2000000) (hp : SmP p) : SpecStep cs rs p := by
 obtain ⟨k, n, v⟩ := p
 have hv : spec_ValueOk v = some (valOk v) := spec_value hp
 have hz : Zr v ((Za.mk 0 0 (ByteArray.mk #[]))) = zeroV v := rfl
 have hw : w64 ((cs.length : Int) - 1) = (cs.length : Int) - 1 := w64_of (by omega) (by omega)
 unfold SpecStep
 rcases kind_cases k with rfl | rfl | rfl | rfl | rfl | rfl | rfl | rfl | hk
 ·have ha : app rs.reverse [v.fKind] = some (rs.reverse ++ [v.fKind]) := ap_all (by simp; omega) _
  simp only [Zad, Zay, Z3, spec_l4Step_j1, hz, hv, hw, spec_in, Option.bind_some, ha]
  cases n == 0 <;> cases valOk v <;> cases v.fKind == 0 <;> simp
 ·simp only [Zad, Zay, Z3, hz, hw, spec_in, Option.bind_some]
  cases zeroV v
  ·simp
  ·cases hi : inR n 0 ((cs.length : Int) - 1) with
   | false => simp
   | true =>
    unfold inR at hi
    simp only [Bool.and_eq_true, decide_eq_true_eq] at hi
    obtain ⟨c, h1, h2⟩ := getI_lt (xs := cs) hi.1 (by omega)
    have ha : app rs.reverse [c.fKind] = some (rs.reverse ++ [c.fKind]) := ap_all (by simp; omega) _
    simp [h1, ha]
 ·rcases stack_cases rs with rfl | ⟨b, rfl⟩ | ⟨b, a, r, rfl⟩
  ·simp [Zad, Zay, Z3, j2_low, hz, spec_in, Option.bind]
   cases n == 0 <;> cases zeroV v <;> simp
  ·simp [Zad, Zay, Z3, j2_low, hz, spec_in, Option.bind]
   cases n == 0 <;> cases zeroV v <;> simp
  ·have hx : r.reverse.length ≤ 2097152 := by simp at hr ⊢; omega
   simp only [Zad, Zay, Z3, spec_l4Step_j2, hz, spec_in, rev2, g1 hx, len2 hx, g2, gt1, max0 hx rfl, sl_pre hx rfl, ap_pre hx, Option.bind_some]
   cases n == 0 <;> cases zeroV v <;> cases b == 1 <;> cases a == 1 <;> simp
 ·rcases stack_cases rs with rfl | ⟨b, rfl⟩ | ⟨b, a, r, rfl⟩
  ·simp [Zad, Zay, Z3, j3_low, hz, spec_in, Option.bind]
   cases inR n 1 4 <;> cases zeroV v <;> simp
  ·simp [Zad, Zay, Z3, j3_low, hz, spec_in, Option.bind]
   cases inR n 1 4 <;> cases zeroV v <;> simp
  ·have hx : r.reverse.length ≤ 2097152 := by simp at hr ⊢; omega
   simp only [Zad, Zay, Z3, spec_l4Step_j3, hz, spec_in, rev2, g1 hx, len2 hx, g2, gt1, max0 hx rfl, sl_pre hx rfl, ap_pre hx, Option.bind_some]
   cases inR n 1 4 <;> cases zeroV v <;> cases b == a <;> simp
 ·rcases stack_cases rs with rfl | ⟨b, rfl⟩ | ⟨b, a, r, rfl⟩
  ·simp [Zad, Zay, Z3, Zba, j5_low, hz, spec_in, Option.bind]
   cases n == 0 <;> cases zeroV v <;> simp
  ·simp [Zad, Zay, Z3, Zba, j5_low, hz, spec_in, Option.bind]
   cases n == 0 <;> cases zeroV v <;> simp
  ·have hx : r.reverse.length ≤ 2097152 := by simp at hr ⊢; omega
   simp only [Zad, Zay, Z3, Zba, spec_l4Step_j5, hz, spec_in, rev2, g1 hx, len2 hx, g2, gt1, max0 hx rfl, sl_pre hx rfl, ap_pre hx, Option.bind_some]
   cases n == 0 <;> cases zeroV v <;> cases b == 3 <;> cases a == 3 <;> simp
 ·rcases stack_cases rs with rfl | ⟨b, rfl⟩ | ⟨b, a, r, rfl⟩
  ·simp [Zad, Zay, Z3, Zba, j5_low, hz, spec_in, Option.bind]
   cases n == 0 <;> cases zeroV v <;> simp
  ·simp [Zad, Zay, Z3, Zba, j5_low, hz, spec_in, Option.bind]
   cases n == 0 <;> cases zeroV v <;> simp
  ·have hx : r.reverse.length ≤ 2097152 := by simp at hr ⊢; omega
   simp only [Zad, Zay, Z3, Zba, spec_l4Step_j5, hz, spec_in, rev2, g1 hx, len2 hx, g2, gt1, max0 hx rfl, sl_pre hx rfl, ap_pre hx, Option.bind_some]
   cases n == 0 <;> cases zeroV v <;> cases b == 3 <;> cases a == 3 <;> simp
 ·rcases rs with _ | ⟨b, r⟩
  ·simp [Zad, Zay, Z3, Zba, hz]
  ·have hx : r.reverse.length ≤ 2097152 := by simp at hr ⊢; omega
   simp only [Zad, Zay, Z3, Zba, hz, rev1, len1 hx, g3, gt0, max0 hx rfl, sl_pre hx rfl, ap_pre hx, Option.bind_some]
   cases n == 0 <;> cases zeroV v <;> cases hb : b == 3 <;> simp_all
 ·rcases rs with _ | ⟨b, r⟩
  ·simp [Zad, Zay, Z3, Zba, hz, wm1, appT, maxL, slI]
   cases n == 0 <;> cases zeroV v <;> simp
  ·have hx : r.reverse.length ≤ 2097152 := by simp at hr ⊢; omega
   simp only [Zad, Zay, Z3, Zba, hz, rev1, len1 hx, g3, gt0, max0 hx rfl, sl_pre hx rfl, ap_pre hx, Option.bind_some]
   cases n == 0 <;> cases zeroV v <;> simp
 ·obtain ⟨h1, h2, h3, h4, h5, h6, h7, h8⟩ := hk
  have b1 : (k == 1) = false := by simp [h1]
  have b2 : (k == 2) = false := by simp [h2]
  have b3 : (k == 3) = false := by simp [h3]
  have b4 : (k == 4) = false := by simp [h4]
  have b5 : (k == 5) = false := by simp [h5]
  have b6 : (k == 6) = false := by simp [h6]
  have b7 : (k == 7) = false := by simp [h7]
  have b8 : (k == 8) = false := by simp [h8]
  simp only [Zad, h1, h2, h3, h4, h5, h6, h7, h8, if_false, or_self, Zay, Z3, Zba, b1, b2, b3, b4, b5, b6, b7, b8, hz]
  cases zeroV v <;> cases n == 0 <;> simp
end Go.D
set_option linter.unusedVariables false
namespace Go.D
def exprKind (cs : List Zb) (ps : List Zd) : Int := bif colsOk cs && decide (ps.length ≤ 12) then exprRun cs ps [] else -1
theorem gt12 {α : Type} (xs : List α) : decide ((xs.length : Int) > 12) = !(decide (xs.length ≤ 12)) := by
 by_cases h : xs.length ≤ 12
 ·have : ¬ (xs.length : Int) > 12 := by omega
  simp [h, this]
 ·have : (xs.length : Int) > 12 := by omega
  simp [h, this]
theorem fin_run (st : List Int) (cs : List Zb) : (bif !((st.length : Int) == 1) then some (-1) else (getI st 0).bind fun v => some v) = some (exprRun cs [] st.reverse) := by
 match st with
 | [] => rfl
 | [k] => rfl
 | a :: b :: r =>
  have e : (((a :: b :: r).length : Int) == 1) = false := by
   simp only [beq_eq_false_iff_ne, ne_eq, List.length_cons]
   omega
  rw [e]
  unfold exprRun
  split
  ·next k hk =>
   have := congrArg List.length hk
   simp at this
  ·rfl
theorem spec_exprKind {cs : List Zb} {ps : List Zd} (hc : Sm cs.length) (hl : ps.length ≤ 2097152) (hp : ∀ p ∈ ps, SmP p) : spec_ExprKind cs ps = some (exprKind cs ps) := by
 unfold spec_ExprKind exprKind
 rw [spec_colsOk hc, Option.bind_some, gt12]
 cases colsOk cs
 ·rfl
 cases h12 : decide (ps.length ≤ 12)
 ·rfl
 have h12 : ps.length ≤ 12 := of_decide_eq_true h12
 simp only [Bool.not_true, cond_false, Bool.true_and, cond_true, spec_ExprKind_j0]
 have := loop_rec (xs := ps) (L := fun f i (s : Bool × List Int) => spec_ExprKind_l1 cs ps f s.1 i s.2) (fun ps s => bif s.1 then exprRun cs ps s.2.reverse else -1) (fun i s => s.1 = true → s.2.length ≤ i) (by omega)
  (fun f i s v rest hi hv hw hI => by
   obtain ⟨ok, st⟩ := s
   have hlt : (i : Int) < ps.length := by omega
   cases ok with
   | false =>
    refine .inl ?_
    simp only [spec_ExprKind_l1, hlt, decide_true, cond_true, spec_ExprKind_j2, cond_false, Bool.not_false, spec_ExprKind_j3]
   | true =>
    have hst := hI rfl
    have hs : SpecStep cs st.reverse v := spec_step hc (by simp; simp only at hst; omega) (hp v (List.mem_of_getElem? hv))
    unfold SpecStep at hs
    simp only [List.reverse_reverse] at hs
    refine .inr ?_
    cases he : Zad cs st.reverse v with
    | none =>
     rw [he] at hs
     obtain ⟨s', hs⟩ := hs
     refine ⟨(false, s'), (fun h => by cases h), ?_, ?_⟩
     ·simp only [spec_ExprKind_l1, hlt, decide_true, cond_true, spec_ExprKind_j2, Z9, hv, Option.bind_some, hs, hw]
     ·simp only [cond_true, cond_false, exprRun, he]
    | some rs' =>
     rw [he] at hs
     have hs : Zay cs st v = some (rs'.reverse, true) := hs
     refine ⟨(true, rs'.reverse), fun _ => ?_, ?_, ?_⟩
     ·have := exprStep_len he
      simp only [List.length_reverse] at this ⊢
      simp only at hst
      omega
     ·simp only [spec_ExprKind_l1, hlt, decide_true, cond_true, spec_ExprKind_j2, Z9, hv, Option.bind_some, hs, hw]
     ·simp only [cond_true, exprRun, he, List.reverse_reverse])
  (fun f s hI => by
   obtain ⟨ok, st⟩ := s
   simp only [spec_ExprKind_l1, Int.lt_irrefl, decide_false, cond_false, spec_ExprKind_j2]
   cases ok with
   | false => rfl
   | true =>
    simp only [Bool.not_true, cond_false, spec_ExprKind_j3, cond_true]
    exact fin_run st cs) (s := (true, [])) (fun _ => by simp)
 exact this
theorem impl_allk (k : Int) {xs : List Int} (h : xs.length ≤ 2097152) : impl_Part_kind_1 k xs = some (xs.all (· == k)) := by
 unfold impl_Part_kind_1 slices_ContainsFunc_int_int slices_IndexFunc_int_int
 obtain ⟨r, h1, h2⟩ := loop_find (xs := xs) (L := Za3 xs (fun z0 => impl_Part_kind_1_1 z0 k)) (p := fun z => !(z == k)) (by omega) (fun f i v hi hv hw => by
  have : (i : Int) < xs.length := by omega
  simp only [Za3, this, decide_true, cond_true, Z9, hv, Option.bind_some, impl_Part_kind_1_1, hw]) (fun f => by
  simp only [Za3, Int.lt_irrefl, decide_false, cond_false])
 rw [h1, Option.bind_some, Option.bind_some, h2, not_any_not]
def ImplStep (cs : List Zb) (rs : List Int) (p : Zd) (x4 : Int) (K : Int → List Int → Option Int) : Prop :=
 ((Zs p).bind fun v11 => (Z8 p cs).bind fun v24 => bif (!v24) then Zy cs x4 rs.reverse K p v11 true else Zy cs x4 rs.reverse K p v11 ((decide (((rs.reverse.length : Int)) < v11)))) =
  match Zad cs rs p with
  | none => some (-1)
  | some rs' => K (w64 (x4 + 1)) rs'.reverse
theorem pre_all {xs : List Int} (h : xs.length ≤ 2097152) : slI xs none (some (w64 ((xs.length : Int) - 0))) none = some xs := by
 rw [len0 h]
 have := sl_pre (ys := []) h rfl
 rwa [List.append_nil] at this
theorem post_all {xs : List Int} (h : xs.length ≤ 2097152) : slI xs (some (w64 ((xs.length : Int) - 0))) none none = some [] := by
 rw [len0 h]
 have := sl_post (ys := []) h rfl
 rwa [List.append_nil] at this
theorem ap_full {xs : List Int} (h : xs.length ≤ 2097152) (k : Int) : appT xs [k] xs.length = some (xs ++ [k]) := by
 have := ap_pre (ys := []) h k
 rwa [List.append_nil] at this
theorem get0 (a b : Int) : getI [a, b] 0 = some a := rfl
theorem get1 (a b : Int) : getI [a, b] 1 = some b := rfl
theorem eq_comm_b (a b : Int) : (a == b) = (b == a) := by
 rw [Bool.eq_iff_iff, beq_iff_eq, beq_iff_eq]
 exact eq_comm
theorem impl_step {cs : List Zb} {rs : List Int} {p : Zd} {x4 : Int} {K : Int → List Int → Option Int} (hc : Sm cs.length) (hr : rs.length ≤ 2000000) (hp : SmP p) : ImplStep cs rs p x4 K := by
 obtain ⟨k, n, v⟩ := p
 have hv : impl_Value_ok v = some (valOk v) := impl_value hp
 have hz : Zr v ((Za.mk 0 0 (ByteArray.mk #[]))) = zeroV v := rfl
 have hw : w64 ((cs.length : Int) - 1) = (cs.length : Int) - 1 := w64_of (by omega) (by omega)
 have hxr : rs.reverse.length ≤ 2097152 := by simp; omega
 unfold ImplStep
 rcases kind_cases k with rfl | rfl | rfl | rfl | rfl | rfl | rfl | rfl | hk
 ·simp only [Zad, Zs, Zn, Zq, Z8, Zt, Zy, hv, hz, hw, impl_in, Zah, Option.bind_some]
  cases n == 0 <;> cases valOk v <;> cases v.fKind == 0 <;> simp [-List.length_reverse, -Int.sub_zero, -List.length_append, -List.length_cons, -List.length_nil, lt0, post_all hxr, pre_all hxr, ap_full hxr]
 ·simp only [Zad, Zs, Zn, Zq, Z8, Zt, Zy, hv, hz, hw, impl_in, Zah, Option.bind_some]
  cases zeroV v
  ·cases inR n 0 ((cs.length : Int) - 1) <;> simp [-List.length_reverse, -Int.sub_zero, -List.length_append, -List.length_cons, -List.length_nil, lt0, post_all hxr, pre_all hxr, ap_full hxr]
  ·cases hi : inR n 0 ((cs.length : Int) - 1) with
   | false => simp [-List.length_reverse, -Int.sub_zero, -List.length_append, -List.length_cons, -List.length_nil, lt0, post_all hxr, pre_all hxr, ap_full hxr]
   | true =>
    unfold inR at hi
    simp only [Bool.and_eq_true, decide_eq_true_eq] at hi
    obtain ⟨c, h1, h2⟩ := getI_lt (xs := cs) hi.1 (by omega)
    simp [-List.length_reverse, -Int.sub_zero, -List.length_append, -List.length_cons, -List.length_nil, lt0, post_all hxr, pre_all hxr, ap_full hxr, h1]
 ·rcases stack_cases rs with rfl | ⟨b, rfl⟩ | ⟨b, a, r, rfl⟩
  ·simp only [Zad, Zs, Zn, Zq, Z8, Zt, Zy, hv, hz, hw, impl_in, Zah, Option.bind_some]
   cases n == 0 <;> cases zeroV v <;> simp
  ·simp only [Zad, Zs, Zn, Zq, Z8, Zt, Zy, hv, hz, hw, impl_in, Zah, Option.bind_some]
   cases n == 0 <;> cases zeroV v <;> simp
  ·have hx : r.reverse.length ≤ 2097152 := by simp at hr ⊢; omega
   have hab : ([a, b] : List Int).length ≤ 2097152 := by simp
   simp only [Zad, Zs, Zn, Zq, Z8, Zt, Zy, hv, hz, hw, impl_in, Zah, Option.bind_some, rev2]
   cases n == 0 <;> cases zeroV v <;> cases ha : a == 1 <;> cases hb : b == 1 <;> simp [*, -List.length_reverse, -Int.sub_zero, -List.length_append, -List.length_cons, -List.length_nil, lt2, len2 hx, sl_pre hx rfl, sl_post hx rfl, ap_pre hx, impl_allk 1 hab, impl_allk 3 hab, get0, get1]
 ·rcases stack_cases rs with rfl | ⟨b, rfl⟩ | ⟨b, a, r, rfl⟩
  ·simp only [Zad, Zs, Zn, Zq, Z8, Zt, Zy, hv, hz, hw, impl_in, Zah, Option.bind_some]
   cases inR n 1 4 <;> cases zeroV v <;> simp
  ·simp only [Zad, Zs, Zn, Zq, Z8, Zt, Zy, hv, hz, hw, impl_in, Zah, Option.bind_some]
   cases inR n 1 4 <;> cases zeroV v <;> simp
  ·have hx : r.reverse.length ≤ 2097152 := by simp at hr ⊢; omega
   have hab : ([a, b] : List Int).length ≤ 2097152 := by simp
   simp only [Zad, Zs, Zn, Zq, Z8, Zt, Zy, hv, hz, hw, impl_in, Zah, Option.bind_some, rev2]
   cases inR n 1 4 <;> cases zeroV v <;> cases hb : b == a <;> simp [*, -List.length_reverse, -Int.sub_zero, -List.length_append, -List.length_cons, -List.length_nil, lt2, len2 hx, sl_pre hx rfl, sl_post hx rfl, ap_pre hx, impl_allk 1 hab, impl_allk 3 hab, get0, get1, eq_comm_b a b]
 ·rcases stack_cases rs with rfl | ⟨b, rfl⟩ | ⟨b, a, r, rfl⟩
  ·simp only [Zad, Zs, Zn, Zq, Z8, Zt, Zy, hv, hz, hw, impl_in, Zah, Option.bind_some]
   cases n == 0 <;> cases zeroV v <;> simp
  ·simp only [Zad, Zs, Zn, Zq, Z8, Zt, Zy, hv, hz, hw, impl_in, Zah, Option.bind_some]
   cases n == 0 <;> cases zeroV v <;> simp
  ·have hx : r.reverse.length ≤ 2097152 := by simp at hr ⊢; omega
   have hab : ([a, b] : List Int).length ≤ 2097152 := by simp
   simp only [Zad, Zs, Zn, Zq, Z8, Zt, Zy, hv, hz, hw, impl_in, Zah, Option.bind_some, rev2]
   cases n == 0 <;> cases zeroV v <;> cases ha : a == 3 <;> cases hb : b == 3 <;> simp [*, -List.length_reverse, -Int.sub_zero, -List.length_append, -List.length_cons, -List.length_nil, lt2, len2 hx, sl_pre hx rfl, sl_post hx rfl, ap_pre hx, impl_allk 1 hab, impl_allk 3 hab, get0, get1]
 ·rcases stack_cases rs with rfl | ⟨b, rfl⟩ | ⟨b, a, r, rfl⟩
  ·simp only [Zad, Zs, Zn, Zq, Z8, Zt, Zy, hv, hz, hw, impl_in, Zah, Option.bind_some]
   cases n == 0 <;> cases zeroV v <;> simp
  ·simp only [Zad, Zs, Zn, Zq, Z8, Zt, Zy, hv, hz, hw, impl_in, Zah, Option.bind_some]
   cases n == 0 <;> cases zeroV v <;> simp
  ·have hx : r.reverse.length ≤ 2097152 := by simp at hr ⊢; omega
   have hab : ([a, b] : List Int).length ≤ 2097152 := by simp
   simp only [Zad, Zs, Zn, Zq, Z8, Zt, Zy, hv, hz, hw, impl_in, Zah, Option.bind_some, rev2]
   cases n == 0 <;> cases zeroV v <;> cases ha : a == 3 <;> cases hb : b == 3 <;> simp [*, -List.length_reverse, -Int.sub_zero, -List.length_append, -List.length_cons, -List.length_nil, lt2, len2 hx, sl_pre hx rfl, sl_post hx rfl, ap_pre hx, impl_allk 1 hab, impl_allk 3 hab, get0, get1]
 ·rcases rs with _ | ⟨b, r⟩
  ·simp only [Zad, Zs, Zn, Zq, Z8, Zt, Zy, hv, hz, hw, impl_in, Zah, Option.bind_some]
   cases n == 0 <;> cases zeroV v <;> simp
  ·have hx : r.reverse.length ≤ 2097152 := by simp at hr ⊢; omega
   have hab : ([b] : List Int).length ≤ 2097152 := by simp
   simp only [Zad, Zs, Zn, Zq, Z8, Zt, Zy, hv, hz, hw, impl_in, Zah, Option.bind_some, rev1]
   cases n == 0 <;> cases zeroV v <;> cases hb : b == 3 <;> simp [*, -List.length_reverse, -Int.sub_zero, -List.length_append, -List.length_cons, -List.length_nil, lt1, len1 hx, sl_pre hx rfl, sl_post hx rfl, ap_pre hx, impl_allk 3 hab]
 ·rcases rs with _ | ⟨b, r⟩
  ·simp only [Zad, Zs, Zn, Zq, Z8, Zt, Zy, hv, hz, hw, impl_in, Zah, Option.bind_some]
   cases n == 0 <;> cases zeroV v <;> simp
  ·have hx : r.reverse.length ≤ 2097152 := by simp at hr ⊢; omega
   have hab : ([b] : List Int).length ≤ 2097152 := by simp
   simp only [Zad, Zs, Zn, Zq, Z8, Zt, Zy, hv, hz, hw, impl_in, Zah, Option.bind_some, rev1]
   cases n == 0 <;> cases zeroV v <;> cases hb : b == 3 <;> simp [*, -List.length_reverse, -Int.sub_zero, -List.length_append, -List.length_cons, -List.length_nil, lt1, len1 hx, sl_pre hx rfl, sl_post hx rfl, ap_pre hx, impl_allk 3 hab]
 ·obtain ⟨h1, h2, h3, h4, h5, h6, h7, h8⟩ := hk
  have b1 : (k == 1) = false := by simp [h1]
  have b2 : (k == 2) = false := by simp [h2]
  have b3 : (k == 3) = false := by simp [h3]
  have b4 : (k == 4) = false := by simp [h4]
  have b5 : (k == 5) = false := by simp [h5]
  have b6 : (k == 6) = false := by simp [h6]
  have b7 : (k == 7) = false := by simp [h7]
  have b8 : (k == 8) = false := by simp [h8]
  simp only [h1, h2, h3, h4, h5, h6, h7, h8, if_false, or_self, b1, b2, b3, b4, b5, b6, b7, b8, Zad, Zs, Zn, Zq, Z8, Zt, Zy, hv, hz, hw, impl_in, Zah, Option.bind_some]
  rfl
theorem impl_exprKind {cs : List Zb} {ps : List Zd} (hc : Sm cs.length) (hl : ps.length ≤ 2097152) (hp : ∀ p ∈ ps, SmP p) : impl_ExprKind cs ps = some (exprKind cs ps) := by
 unfold impl_ExprKind exprKind
 rw [impl_colsOk hc, Option.bind_some, gt12]
 cases colsOk cs
 ·rfl
 cases h12 : decide (ps.length ≤ 12)
 ·rfl
 have h12 : ps.length ≤ 12 := of_decide_eq_true h12
 simp only [Bool.not_true, cond_false, Bool.true_and, cond_true, impl_ExprKind_j0]
 have := loop_rec (xs := ps) (L := fun f i (s : List Int) => impl_ExprKind_l1 cs ps f i s) (fun ps s => exprRun cs ps s.reverse) (fun i s => s.length ≤ i) (by omega)
  (fun f i st v rest hi hv hw hI => by
   have hlt : (i : Int) < ps.length := by omega
   have hs : ImplStep cs st.reverse v i (impl_ExprKind_l1 cs ps f) := impl_step hc (by simp; omega) (hp v (List.mem_of_getElem? hv))
   unfold ImplStep at hs
   rw [List.reverse_reverse, hw] at hs
   have e : impl_ExprKind_l1 cs ps (f + 1) i st = match Zad cs st.reverse v with
    | none => some (-1)
    | some rs' => impl_ExprKind_l1 cs ps f ((i + 1 : Nat) : Int) rs'.reverse := by
    rw [← hs]
    simp only [impl_ExprKind_l1, hlt, decide_true, cond_true, Z9, hv, Option.bind_some]
   cases he : Zad cs st.reverse v with
   | none =>
    refine .inl ?_
    rw [he] at e
    simp only [exprRun, he]
    exact e
   | some rs' =>
    rw [he] at e
    refine .inr ⟨rs'.reverse, ?_, e, ?_⟩
    ·have := exprStep_len he
     simp only [List.length_reverse] at this ⊢
     omega
    ·simp only [exprRun, he, List.reverse_reverse])
  (fun f st hI => by
   simp only [impl_ExprKind_l1, Int.lt_irrefl, decide_false, cond_false]
   exact fin_run st cs) (s := []) (by simp)
 exact this
end Go.D
set_option linter.unusedVariables false
namespace Go.D
theorem leaf_ok {n : Int} {r : Zc} (h : RdOk n r) (hn : n ≤ 400000) (cs : List Zb) (hc : cs.length ≤ 100) (kd : Int) : Wp (spec_l20Leaf r cs kd) fun p r' => RdOk (n + 10) r' ∧ SmP p := by
 unfold spec_l20Leaf
 have e0 : (ByteArray.mk #[]).size = 0 := rfl
 have j1 : ∀ (m : Int) (r : Zc) (x : Int) (K : Int → Zc → Option (Zd × Zc)) (b : Bool), RdOk m r → m ≤ n + 8 → (b = true → 0 < cs.length) → (b = true → ∀ r', RdOk (m + 2) r' → Wp (K (w64 (x + 1)) r') fun p r' => RdOk (n + 10) r' ∧ SmP p) →
   Wp (spec_l20Leaf_j1 cs kd x r K b) fun p r' => RdOk (n + 10) r' ∧ SmP p := by
  intro m r x K b hr hm hb hK
  unfold spec_l20Leaf_j1
  refine wp_bif (fun hbt => ?_) fun _ => wp_then (like_ok hr (by omega) _) fun v r1 hq => wp_some ⟨hq.1.up (by omega), by have := hq.2; unfold SmP SmV; simp only; omega⟩
  have hpos := hb hbt
  refine wp_pick hr (by omega) fun k r1 g1 p0 _ p1 => wp_getI p0 (p1 (by omega)) fun c _ => ?_
  have j2 : ∀ (r2 : Zc) (b2 : Bool), RdOk (m + 2) r2 → Wp (spec_l20Leaf_j2 x K (k, r1) b2 r2) fun p r' => RdOk (n + 10) r' ∧ SmP p := by
   intro r2 b2 h2
   unfold spec_l20Leaf_j2
   exact wp_bif (fun _ => wp_some ⟨h2.up (by omega), by unfold SmP SmV; simp only [e0]; omega⟩) fun _ => hK hbt r2 h2
  refine wp_bif (fun _ => wp_pick g1 (by omega) fun k2 r2 g2 _ _ _ => j2 _ _ (g2.up (by omega))) fun _ => j2 _ _ (g1.up (by omega))
 have main : ∀ (k f : Nat) (i : Nat) (r : Zc), i + k = 4 → k < f → RdOk (n + 2 * i) r → Wp (spec_l20Leaf_l0 cs kd f (i : Int) r) fun p r' => RdOk (n + 10) r' ∧ SmP p := by
  intro k
  induction k with
  | zero =>
   intro f i r hi hf hr
   obtain ⟨f, rfl⟩ : ∃ f', f = f' + 1 := ⟨f - 1, by omega⟩
   rw [spec_l20Leaf_l0, decide_eq_false (by omega), cond_false]
   exact j1 _ _ _ _ _ hr (by omega) (fun h => by cases h) (fun h => by cases h)
  | succ k ih =>
   intro f i r hi hf hr
   obtain ⟨f, rfl⟩ : ∃ f', f = f' + 1 := ⟨f - 1, by omega⟩
   have hw : w64 ((i : Int) + 1) = ((i + 1 : Nat) : Int) := by rw [w64_of] <;> omega
   rw [spec_l20Leaf_l0, decide_eq_true (by omega), cond_true]
   refine j1 _ _ _ _ _ hr (by omega) (fun h => by have := of_decide_eq_true h; omega) (fun _ r' hr' => ?_)
   rw [hw]
   exact ih f (i + 1) r' (by omega) (by omega) (hr'.up (by omega))
 exact main 4 FUEL 0 r rfl (by unfold FUEL; omega) (h.up (by simp))
def costE : Nat → Int
 | 0 => 12
 | d + 1 => 2 * costE d + 24
def lenE : Nat → Nat
 | 0 => 1
 | d + 1 => 2 * lenE d + 2
theorem costE_pos : ∀ d, 12 ≤ costE d
 | 0 => by simp [costE]
 | d + 1 => by have := costE_pos d; simp only [costE]; omega
theorem lenE_pos : ∀ d, 1 ≤ lenE d
 | 0 => by simp [lenE]
 | d + 1 => by simp only [lenE]; omega
def ExOk (l : Nat) (e : List Zd) : Prop := e.length ≤ l ∧ ∀ p ∈ e, SmP p
theorem ExOk.app {k l : Nat} {a b : List Zd} (h : ExOk k a) (h2 : ExOk l b) : ExOk (k + l) (a ++ b) := ⟨by have := h.1; have := h2.1; rw [List.length_append]; omega, fun v hv => (List.mem_append.1 hv).elim (h.2 v) (h2.2 v)⟩
theorem ExOk.one {p : Zd} (h : SmP p) : ExOk 1 [p] := ⟨by simp, fun u hu => by simp at hu; subst hu; exact h⟩
theorem ExOk.up {k l : Nat} {a : List Zd} (h : ExOk k a) (hl : k ≤ l) : ExOk l a := ⟨Nat.le_trans h.1 hl, h.2⟩
theorem smP_op (k n : Int) : SmP (Zd.mk k n (Za.mk 0 0 (ByteArray.mk #[]))) := by
 have e0 : (ByteArray.mk #[]).size = 0 := rfl
 unfold SmP SmV
 simp only [e0]
 omega
theorem expr_ok {cs : List Zb} (hc : cs.length ≤ 100) : ∀ (d f : Nat) (n : Int) (r : Zc) (kd a : Int), d ≤ 4 → d < f → a ≤ d → -5 ≤ a → RdOk n r → n + costE d ≤ 300000 → Wp (spec_l20Expr_f f r cs kd a) fun e r' => RdOk (n + costE d) r' ∧ ExOk (lenE d) e
 | d, 0, n, r, kd, a, _, hf, _, _, _, _ => absurd hf (Nat.not_lt_zero _)
 | 0, f + 1, n, r, kd, a, _, _, ha, _, hr, hn => by
  have c0 : costE 0 = 12 := rfl
  rw [spec_l20Expr_f]
  unfold spec_l20Expr_s
  rw [decide_eq_true (by omega), cond_true]
  unfold spec_l20Expr_j0
  rw [cond_true]
  exact wp_then (leaf_ok hr (by omega) cs hc kd) fun p r1 hq => wp_some ⟨hq.1.up (by omega), (ExOk.one hq.2).up (by simp [lenE])⟩
 | d + 1, f + 1, n, r, kd, a, hd, hf, ha, ha2, hr, hn => by
  have cp := costE_pos d
  have lp := lenE_pos d
  have c4 : costE d ≤ 500 := by
   match d, hd with
   | 0, _ => simp [costE]
   | 1, _ => simp [costE]
   | 2, _ => simp [costE]
   | 3, _ => simp [costE]
  have ce : costE (d + 1) = 2 * costE d + 24 := rfl
  have le : lenE (d + 1) = 2 * lenE d + 2 := rfl
  have l4 : lenE d ≤ 100 := by
   match d, hd with
   | 0, _ => simp [lenE]
   | 1, _ => simp [lenE]
   | 2, _ => simp [lenE]
   | 3, _ => simp [lenE]
  have leafE : ∀ (m : Int) (r : Zc) (k : Int), RdOk m r → m ≤ n + 2 → Wp ((spec_l20Leaf r cs k).bind fun v4 => some (([v4.1] : List Zd), v4.2)) fun e r' => RdOk (n + costE (d + 1)) r' ∧ ExOk (lenE (d + 1)) e := by
   intro m r k hr hm
   exact wp_then (leaf_ok hr (by omega) cs hc k) fun p r1 hq => wp_some ⟨hq.1.up (by omega), (ExOk.one hq.2).up (by omega)⟩
  rw [spec_l20Expr_f]
  unfold spec_l20Expr_s
  by_cases h1 : a < 1
  ·rw [decide_eq_true h1, cond_true]
   unfold spec_l20Expr_j0
   rw [cond_true]
   exact leafE _ _ _ hr (by omega)
  rw [decide_eq_false h1, cond_false]
  have w1 : w64 (a - 1) = a - 1 := w64_of (by omega) (by omega)
  have w2 : w64 (a - 2) = a - 2 := w64_of (by omega) (by omega)
  have ih := fun (n : Int) (r : Zc) (k b : Int) (hb : b ≤ d) (hb2 : -5 ≤ b) (hr : RdOk n r) (hn : n + costE d ≤ 300000) => expr_ok hc d f n r k b (by omega) (by omega) hb hb2 hr hn
  refine wp_pick hr (by omega) fun k0 r0 g0 _ _ _ => ?_
  unfold spec_l20Expr_j0
  simp only [w1, w2]
  refine wp_bif (fun _ => leafE _ _ _ g0 (by omega)) fun _ => wp_bif (fun _ => ?_) fun _ => wp_bif (fun _ => leafE _ _ _ g0 (by omega)) fun _ => ?_
  ·refine wp_then (ih _ _ kd (a - 1) (by omega) (by omega) g0 (by omega)) fun e1 r1 q1 => wp_then (leaf_ok q1.1 (by omega) cs hc kd) fun p r2 q2 => ?_
   have x1 := q1.2.app (ExOk.one q2.2)
   have x2 := x1.app (ExOk.one (smP_op 3 0))
   have l1 := q1.2.1
   refine wp_app (by simp; omega) (wp_app (by simp; omega) (wp_some ⟨q2.1.up (by omega), x2.up (by omega)⟩))
  ·refine wp_pick g0 (by omega) fun k1 r1 g1 _ _ _ => wp_bif (fun _ => ?_) fun _ => wp_bif (fun _ => ?_) fun _ => wp_bif (fun _ => ?_) fun _ => ?_
   ·refine wp_then (ih _ _ 3 (a - 1) (by omega) (by omega) g1 (by omega)) fun e1 r2 q1 => wp_then (ih _ _ 3 (a - 2) (by omega) (by omega) q1.1 (by omega)) fun e2 r3 q2 => ?_
    have l1 := q1.2.1
    have l2 := q2.2.1
    refine wp_app (by (try simp only); omega) (wp_pick q2.1 (by omega) fun k2 r4 g4 _ _ _ => wp_app (by simp; omega) (wp_some ⟨g4.up (by omega), ((q1.2.app q2.2).app (ExOk.one (smP_op _ 0))).up (by omega)⟩))
   ·refine wp_then (ih _ _ 3 (a - 1) (by omega) (by omega) g1 (by omega)) fun e1 r2 q1 => ?_
    have l1 := q1.2.1
    exact wp_app (by simp; omega) (wp_some ⟨q1.1.up (by omega), (q1.2.app (ExOk.one (smP_op _ 0))).up (by omega)⟩)
   ·refine wp_pick g1 (by omega) fun k2 r2 g2 _ _ _ => wp_then (ih _ _ _ (a - 1) (by omega) (by omega) g2 (by omega)) fun e1 r3 q1 => ?_
    have l1 := q1.2.1
    exact wp_app (by simp; omega) (wp_some ⟨q1.1.up (by omega), (q1.2.app (ExOk.one (smP_op _ 0))).up (by omega)⟩)
   ·refine wp_pick g1 (by omega) fun k2 r2 g2 _ _ _ => wp_then (ih _ _ _ (a - 1) (by omega) (by omega) g2 (by omega)) fun e1 r3 q1 => wp_then (leaf_ok q1.1 (by omega) cs hc _) fun p r4 q2 => ?_
    have l1 := q1.2.1
    refine wp_app (by simp; omega) (wp_pick q2.1 (by omega) fun k3 r5 g5 _ _ _ => wp_app (by simp; omega) (wp_some ⟨g5.up (by omega), ((q1.2.app (ExOk.one q2.2)).app (ExOk.one (smP_op _ _))).up (by omega)⟩))
end Go.D
set_option linter.unusedVariables false
namespace Go.D
theorem impl_grow {n : Nat} (hn : n ≤ 4194304) : Zax (n : Int) = some [] := by
 unfold Zax
 have h0 : w64 (0 - 0) = 0 := w64_of (by omega) (by omega)
 have h1 : w64 ((n : Int) - 0) = n := by rw [w64_of] <;> omega
 have h2 : decide ((n : Int) < 0) = false := by simp
 rw [h2, h0, h1]
 simp only [cond_false]
 by_cases hp : (n : Int) > 0
 ·have h3 : decide ((n : Int) > 0) = true := decide_eq_true hp
  rw [h3, cond_true]
  unfold apzI
  rw [if_pos (by omega)]
  simp [slI]
 ·have h3 : decide ((n : Int) > 0) = false := decide_eq_false hp
  rw [h3, cond_false]
theorem fuel3 : ∃ F, FUEL = F + 1 + 1 + 1 := by
 have h : 3 ≤ FUEL := by unfold FUEL; omega
 exact ⟨FUEL - 3, by omega⟩
theorem concat_l1 (F : Nat) {a b : List Zb} (ha : Sm a.length) (hb : Sm b.length) : Zv [a, b] (F + 1 + 1 + 1) 0 [] = some (a ++ b) := by
 have w3 : w64 (0 + 1) = 1 := w64_of (by omega) (by omega)
 have w4 : w64 (1 + 1) = 2 := w64_of (by omega) (by omega)
 have i0 : getI [a, b] 0 = some a := rfl
 have i1 : getI [a, b] 1 = some b := rfl
 have l0 : decide ((0 : Int) < (([a, b] : List (List Zb)).length : Int)) = true := rfl
 have l1 : decide ((1 : Int) < (([a, b] : List (List Zb)).length : Int)) = true := rfl
 have l2 : decide ((2 : Int) < (([a, b] : List (List Zb)).length : Int)) = false := rfl
 rw [Zv, l0, cond_true, i0, Option.bind_some, app_lt (xs := ([] : List Zb)) (ys := a) (by simp; omega), Option.bind_some, List.nil_append, w3]
 rw [Zv, l1, cond_true, i1, Option.bind_some, app_lt (xs := a) (ys := b) (by omega), Option.bind_some, w4]
 rw [Zv, l2, cond_false]
theorem concat_l0 (F : Nat) {a b : List Zb} (ha : Sm a.length) (hb : Sm b.length) : Zz [a, b] (F + 1 + 1 + 1) 0 0 = Zv [a, b] FUEL 0 [] := by
 have w1 : w64 (0 + (a.length : Int)) = a.length := by rw [w64_of] <;> omega
 have w2 : w64 ((a.length : Int) + b.length) = ((a.length + b.length : Nat) : Int) := by rw [w64_of] <;> omega
 have w3 : w64 (0 + 1) = 1 := w64_of (by omega) (by omega)
 have w4 : w64 (1 + 1) = 2 := w64_of (by omega) (by omega)
 have n1 : decide ((a.length : Int) < 0) = false := by simp
 have n2 : decide (((a.length + b.length : Nat) : Int) < 0) = false := by
  rw [decide_eq_false_iff_not]
  omega
 have i0 : getI [a, b] 0 = some a := rfl
 have i1 : getI [a, b] 1 = some b := rfl
 have l0 : decide ((0 : Int) < (([a, b] : List (List Zb)).length : Int)) = true := rfl
 have l1 : decide ((1 : Int) < (([a, b] : List (List Zb)).length : Int)) = true := rfl
 have l2 : decide ((2 : Int) < (([a, b] : List (List Zb)).length : Int)) = false := rfl
 rw [Zz, l0, cond_true, i0, Option.bind_some, w1, n1, cond_false, w3]
 rw [Zz, l1, cond_true, i1, Option.bind_some, w2, n2, cond_false, w4]
 rw [Zz, l2, cond_false, impl_grow (n := a.length + b.length) (by omega), Option.bind_some]
theorem impl_concat {a b : List Zb} (ha : Sm a.length) (hb : Sm b.length) : Zbf [a, b] = some (a ++ b) := by
 obtain ⟨F, hF⟩ := fuel3
 have h0 := concat_l0 F ha hb
 have h1 := concat_l1 F ha hb
 rw [← hF] at h0 h1
 exact h0.trans h1
end Go.D
set_option linter.unusedVariables false
namespace Go.D
theorem impl_growV {n : Nat} (hn : n ≤ 4194304) : Za1 (n : Int) = some [] := by
 unfold Za1
 have h0 : w64 (0 - 0) = 0 := w64_of (by omega) (by omega)
 have h1 : w64 ((n : Int) - 0) = n := by rw [w64_of] <;> omega
 have h2 : decide ((n : Int) < 0) = false := by simp
 rw [h2, h0, h1]
 simp only [cond_false]
 by_cases hp : (n : Int) > 0
 ·have h3 : decide ((n : Int) > 0) = true := decide_eq_true hp
  rw [h3, cond_true]
  unfold apzI
  rw [if_pos (by omega)]
  simp [slI]
 ·have h3 : decide ((n : Int) > 0) = false := decide_eq_false hp
  rw [h3, cond_false]
theorem concatV_l1 (F : Nat) {a b : List Za} (ha : Sm a.length) (hb : Sm b.length) : Zw [a, b] (F + 1 + 1 + 1) 0 [] = some (a ++ b) := by
 have w3 : w64 (0 + 1) = 1 := w64_of (by omega) (by omega)
 have w4 : w64 (1 + 1) = 2 := w64_of (by omega) (by omega)
 have i0 : getI [a, b] 0 = some a := rfl
 have i1 : getI [a, b] 1 = some b := rfl
 have l0 : decide ((0 : Int) < (([a, b] : List (List Za)).length : Int)) = true := rfl
 have l1 : decide ((1 : Int) < (([a, b] : List (List Za)).length : Int)) = true := rfl
 have l2 : decide ((2 : Int) < (([a, b] : List (List Za)).length : Int)) = false := rfl
 rw [Zw, l0, cond_true, i0, Option.bind_some, app_lt (xs := ([] : List Za)) (ys := a) (by simp; omega), Option.bind_some, List.nil_append, w3]
 rw [Zw, l1, cond_true, i1, Option.bind_some, app_lt (xs := a) (ys := b) (by omega), Option.bind_some, w4]
 rw [Zw, l2, cond_false]
theorem concatV_l0 (F : Nat) {a b : List Za} (ha : Sm a.length) (hb : Sm b.length) : Z4 [a, b] (F + 1 + 1 + 1) 0 0 = Zw [a, b] FUEL 0 [] := by
 have w1 : w64 (0 + (a.length : Int)) = a.length := by rw [w64_of] <;> omega
 have w2 : w64 ((a.length : Int) + b.length) = ((a.length + b.length : Nat) : Int) := by rw [w64_of] <;> omega
 have w3 : w64 (0 + 1) = 1 := w64_of (by omega) (by omega)
 have w4 : w64 (1 + 1) = 2 := w64_of (by omega) (by omega)
 have n1 : decide ((a.length : Int) < 0) = false := by simp
 have n2 : decide (((a.length + b.length : Nat) : Int) < 0) = false := by
  rw [decide_eq_false_iff_not]
  omega
 have i0 : getI [a, b] 0 = some a := rfl
 have i1 : getI [a, b] 1 = some b := rfl
 have l0 : decide ((0 : Int) < (([a, b] : List (List Za)).length : Int)) = true := rfl
 have l1 : decide ((1 : Int) < (([a, b] : List (List Za)).length : Int)) = true := rfl
 have l2 : decide ((2 : Int) < (([a, b] : List (List Za)).length : Int)) = false := rfl
 rw [Z4, l0, cond_true, i0, Option.bind_some, w1, n1, cond_false, w3]
 rw [Z4, l1, cond_true, i1, Option.bind_some, w2, n2, cond_false, w4]
 rw [Z4, l2, cond_false, impl_growV (n := a.length + b.length) (by omega), Option.bind_some]
theorem impl_concatV {a b : List Za} (ha : Sm a.length) (hb : Sm b.length) : slices_Concat_impl_Value_impl_Value [a, b] = some (a ++ b) := by
 obtain ⟨F, hF⟩ := fuel3
 have h0 := concatV_l0 F ha hb
 have h1 := concatV_l1 F ha hb
 rw [← hF] at h0 h1
 exact h0.trans h1
end Go.D
set_option linter.unusedVariables false
namespace Go.D
def N0 : Za := Za.mk 0 0 (ByteArray.mk #[])
def sumV (a b : Za) : Za := bif a.fKind == 0 || (b.fKind == 0 || !(inR (w64 (a.fN + b.fN)) (-9999) 9999)) then N0 else ⟨1, w64 (a.fN + b.fN), ByteArray.mk #[]⟩
theorem spec_sum (a b : Za) : spec_l4Sum a b = some (sumV a b) := by
 unfold spec_l4Sum sumV spec_l4Sum_j0 N0
 simp only [spec_in, Option.bind_some]
 cases a.fKind == 0 <;> cases b.fKind == 0 <;> cases inR (w64 (a.fN + b.fN)) (-9999) 9999 <;> rfl
def cmpI (a b : Int) : Int := if a < b then -1 else if a > b then 1 else 0
def cmpS (a b : ByteArray) : Int := bif Op.bytesLess a.toList b.toList then -1 else bif !Op.bytesLess a.toList b.toList && !(a.toList == b.toList) then 1 else 0
def ordV (a b : Za) : Int := if cmpI a.fKind b.fKind ≠ 0 then cmpI a.fKind b.fKind else if cmpI a.fN b.fN ≠ 0 then cmpI a.fN b.fN else cmpS a.fS b.fS
theorem impl_cmpI (a b : Int) : cmp_Compare_int a b = some (cmpI a b) := by
 unfold cmp_Compare_int cmp_isNaN_int cmpI
 simp only [beq_self_eq_true, Bool.not_true, Option.bind_some, cond_false]
 by_cases h : a < b
 ·simp [h]
 ·by_cases h2 : a > b
  ·simp [h, h2]
  ·simp [h, h2]
theorem impl_cmpS (a b : ByteArray) : cmp_Compare_string a b = some (cmpS a b) := by
 unfold cmp_Compare_string cmp_isNaN_string cmpS
 simp only [beq_self_eq_true, Bool.not_true, Option.bind_some, cond_false]
 cases Op.bytesLess a.toList b.toList <;> cases a.toList == b.toList <;> rfl
theorem fuel4 : ∃ F, FUEL = F + 1 + 1 + 1 + 1 := by
 have h : 4 ≤ FUEL := by unfold FUEL; omega
 exact ⟨FUEL - 4, by omega⟩
theorem impl_or3 (a b c : Int) : cmp_Or_int [a, b, c] = some (if a ≠ 0 then a else if b ≠ 0 then b else c) := by
 obtain ⟨F, hF⟩ := fuel4
 unfold cmp_Or_int
 rw [hF]
 have w3 : w64 (0 + 1) = 1 := w64_of (by omega) (by omega)
 have w4 : w64 (1 + 1) = 2 := w64_of (by omega) (by omega)
 have w5 : w64 (2 + 1) = 3 := w64_of (by omega) (by omega)
 have i0 : getI [a, b, c] 0 = some a := rfl
 have i1 : getI [a, b, c] 1 = some b := rfl
 have i2 : getI [a, b, c] 2 = some c := rfl
 have l0 : decide ((0 : Int) < (([a, b, c] : List Int).length : Int)) = true := rfl
 have l1 : decide ((1 : Int) < (([a, b, c] : List Int).length : Int)) = true := rfl
 have l2 : decide ((2 : Int) < (([a, b, c] : List Int).length : Int)) = true := rfl
 have l3 : decide ((3 : Int) < (([a, b, c] : List Int).length : Int)) = false := rfl
 rw [cmp_Or_int_l0, l0, cond_true, i0, Option.bind_some, w3, cmp_Or_int_l0, l1, cond_true, i1, Option.bind_some, w4, cmp_Or_int_l0, l2, cond_true, i2, Option.bind_some, w5, cmp_Or_int_l0, l3, cond_false]
 have bf : ∀ {x : Int}, ¬ x = 0 → (x == 0) = false := fun h => by simp [h]
 by_cases ha : a = 0
 ·subst ha
  by_cases hb : b = 0
  ·subst hb
   by_cases hc : c = 0
   ·subst hc
    rfl
   ·rw [bf hc]
    simp
  ·rw [bf hb]
   simp [hb]
 ·rw [bf ha]
  simp [ha]
theorem impl_ord (a b : Za) : impl_Value_order a b = some (ordV a b) := by
 unfold impl_Value_order
 simp only [impl_cmpI, impl_cmpS, impl_or3, Option.bind_some, ordV]
theorem spec_less (a b : Int) : (bif !(a == b) then (spec_l1Less b a).bind fun v => some (w64 (w64 (2 * v) - 1)) else none) = (if a = b then none else some (cmpI a b)) := by
 have w1 : w64 (w64 (2 * 1) - 1) = 1 := by rw [w64_of (n := 2 * 1) (by omega) (by omega), w64_of] <;> omega
 have w0 : w64 (w64 (2 * 0) - 1) = -1 := by rw [w64_of (n := 2 * 0) (by omega) (by omega), w64_of] <;> omega
 unfold spec_l1Less cmpI
 by_cases h : a = b
 ·simp [h]
 ·have e : (a == b) = false := by simp [h]
  rw [e, if_neg h, Bool.not_false, cond_true]
  by_cases h1 : b < a
  ·have : ¬ a < b := by omega
   rw [decide_eq_true h1, cond_true, Option.bind_some, w1, if_neg this, if_pos h1]
  ·have : a < b := by omega
   rw [decide_eq_false h1, cond_false, Option.bind_some, w0, if_pos this]
theorem cmpI_ne {a b : Int} (h : a ≠ b) : cmpI a b ≠ 0 := by
 unfold cmpI
 split
 ·omega
 ·split <;> omega
theorem cmpI_eq (a : Int) : cmpI a a = 0 := by simp [cmpI]
theorem spec_ord {a b : Za} (sa : SmV a) (sb : SmV b) (ha : valOk a = true) (hb : valOk b = true) : spec_ValueOrder a b = some (ordV a b) := by
 unfold spec_ValueOrder
 rw [spec_value sa, Option.bind_some, spec_value sb, Option.bind_some, ha, hb]
 simp only [Bool.not_true, cond_false, spec_ValueOrder_j0]
 have hk := spec_less a.fKind b.fKind
 have hn := spec_less a.fN b.fN
 unfold ordV
 by_cases h1 : a.fKind = b.fKind
 ·rw [if_neg (by rw [h1, cmpI_eq]; simp)]
  by_cases h2 : a.fN = b.fN
  ·rw [if_neg (by rw [h2, cmpI_eq]; simp)]
   simp only [h1, h2, beq_self_eq_true, Bool.not_true, cond_false, spec_l1Cmp, cmpS]
   cases Op.bytesLess a.fS.toList b.fS.toList <;> cases a.fS.toList == b.fS.toList <;> rfl
  ·rw [if_pos (cmpI_ne h2)]
   rw [if_neg h2] at hn
   have e : (a.fN == b.fN) = false := by simp [h2]
   rw [e] at hn ⊢
   simp only [h1, beq_self_eq_true, Bool.not_true, cond_false]
   exact hn
 ·rw [if_pos (cmpI_ne h1)]
  rw [if_neg h1] at hk
  have e : (a.fKind == b.fKind) = false := by simp [h1]
  rw [e] at hk ⊢
  exact hk
def b2i (b : Bool) : Int := bif b then 1 else 0
theorem spec_b2i (b : Bool) : spec_l2Bool b = some (b2i b) := by cases b <;> rfl
theorem impl_b2i (b : Bool) : Zai b = some (b2i b) := by cases b <;> rfl
def cmpV (n : Int) (a b : Za) : Int := bif inR n 1 4 && (valOk a && valOk b) then bif a.fKind == 0 || b.fKind == 0 then 2 else bif !(a.fKind == b.fKind) then -1 else
 bif n == 1 then b2i (ordV a b == 0) else bif n == 2 then b2i (!(ordV a b == 0)) else bif n == 3 then b2i (decide (ordV a b < 0)) else b2i (decide (ordV a b ≤ 0)) else -1
theorem spec_cmp {n : Int} {a b : Za} (sa : SmV a) (sb : SmV b) : spec_Compare n a b = some (cmpV n a b) := by
 unfold spec_Compare cmpV
 rw [spec_in, Option.bind_some, spec_value sa, Option.bind_some, spec_value sb, Option.bind_some]
 cases inR n 1 4
 ·rfl
 cases ha : valOk a
 ·rfl
 cases hb : valOk b
 ·rfl
 simp only [Bool.not_true, cond_false, Bool.and_self, cond_true, spec_Compare_j0, spec_Compare_j1, spec_ord sa sb ha hb, Option.bind_some, spec_b2i]
 cases a.fKind == 0 <;> cases b.fKind == 0 <;> cases a.fKind == b.fKind <;> cases n == 1 <;> cases n == 2 <;> cases n == 3 <;> rfl
theorem in14 {n : Int} (h : inR n 1 4 = true) : n = 1 ∨ n = 2 ∨ n = 3 ∨ n = 4 := by
 unfold inR at h
 simp only [Bool.and_eq_true, decide_eq_true_eq] at h
 omega
theorem impl_cmp {n : Int} {a b : Za} (sa : SmV a) (sb : SmV b) : impl_Compare n a b = some (cmpV n a b) := by
 unfold impl_Compare cmpV
 rw [impl_in, Option.bind_some, impl_value sa, Option.bind_some, impl_value sb, Option.bind_some]
 cases hi : inR n 1 4
 ·rfl
 cases ha : valOk a
 ·rfl
 cases hb : valOk b
 ·rfl
 simp only [Bool.not_true, cond_false, Bool.and_self, cond_true, impl_Compare_j0, impl_Compare_j1, impl_ord, Option.bind_some, impl_b2i]
 rcases in14 hi with rfl | rfl | rfl | rfl
 ·cases a.fKind == 0 <;> cases b.fKind == 0 <;> cases a.fKind == b.fKind <;> cases ordV a b == 0 <;> rfl
 ·cases a.fKind == 0 <;> cases b.fKind == 0 <;> cases a.fKind == b.fKind <;> cases ordV a b == 0 <;> rfl
 ·cases a.fKind == 0 <;> cases b.fKind == 0 <;> cases a.fKind == b.fKind <;> cases decide (ordV a b < 0) <;> rfl
 ·cases a.fKind == 0 <;> cases b.fKind == 0 <;> cases a.fKind == b.fKind <;> cases decide (ordV a b ≤ 0) <;> rfl
def ofV (n : Int) : Za := bif inR n 0 1 then ⟨3, n, ByteArray.mk #[]⟩ else N0
theorem in01 (n : Int) : inR n 0 1 = (n == 0 || n == 1) := by
 rw [Bool.eq_iff_iff]
 unfold inR
 simp only [Bool.and_eq_true, decide_eq_true_eq, Bool.or_eq_true, beq_iff_eq]
 omega
theorem spec_of (n : Int) : spec_ValueOf n = some (ofV n) := by
 unfold spec_ValueOf spec_ValueOf_j0 ofV N0
 rw [in01]
 cases n == 0 <;> cases n == 1 <;> rfl
theorem impl_of (n : Int) : impl_ValueOf n = some (ofV n) := by
 unfold impl_ValueOf ofV N0
 rw [impl_in, Option.bind_some]
 cases inR n 0 1 <;> rfl
theorem ok_kinds {v : Za} (h : valOk v = true) : v.fKind = 0 ∨ v.fKind = 1 ∨ v.fKind = 2 ∨ v.fKind = 3 := by
 unfold valOk at h
 cases h0 : v.fKind == 0
 ·cases h1 : v.fKind == 1
  ·cases h2 : v.fKind == 2
   ·cases h3 : v.fKind == 3
    ·rw [h0, h1, h2, h3] at h
     cases h
    ·exact .inr (.inr (.inr (by simpa using h3)))
   ·exact .inr (.inr (.inl (by simpa using h2)))
  ·exact .inr (.inl (by simpa using h1))
 ·exact .inl (by simpa using h0)
def truV (v : Za) : Int := bif valOk v then bif v.fKind == 0 then 2 else bif v.fKind == 3 then v.fN else -1 else -1
theorem impl_tru {v : Za} (h : SmV v) : impl_TruthOf v = some (truV v) := by
 unfold impl_TruthOf truV
 rw [impl_value h, Option.bind_some]
 cases valOk v <;> cases v.fKind == 0 <;> cases v.fKind == 3 <;> rfl
theorem spec_tru {v : Za} (h : SmV v) : spec_TruthOf v = some (truV v) := by
 unfold spec_TruthOf truV
 rw [spec_value h, Option.bind_some]
 cases hv : valOk v
 ·rfl
 obtain ⟨k, n, s⟩ := v
 rcases ok_kinds hv with h | h | h | h <;> simp only at h <;> subst h <;> rfl
theorem in02 {n : Int} (h : inR n 0 2 = true) : n = 0 ∨ n = 1 ∨ n = 2 := by
 unfold inR at h
 simp only [Bool.and_eq_true, decide_eq_true_eq] at h
 omega
def andV (a b : Int) : Int := (impl_AndOf a b).getD 0
def orV (a b : Int) : Int := (impl_OrOf a b).getD 0
def notV (a : Int) : Int := (impl_NotOf a).getD 0
theorem and_both (a b : Int) : spec_AndOf a b = some (andV a b) ∧ impl_AndOf a b = some (andV a b) := by
 unfold andV impl_AndOf spec_AndOf impl_fold spec_TruthOk impl_TruthOk
 simp only [spec_in, impl_in, Option.bind_some]
 cases ha : inR a 0 2
 ·exact ⟨rfl, rfl⟩
 cases hb : inR b 0 2
 ·exact ⟨rfl, rfl⟩
 rcases in02 ha with rfl | rfl | rfl <;> rcases in02 hb with rfl | rfl | rfl <;> exact ⟨by decide, by decide⟩
theorem or_both (a b : Int) : spec_OrOf a b = some (orV a b) ∧ impl_OrOf a b = some (orV a b) := by
 unfold orV impl_OrOf spec_OrOf impl_fold spec_TruthOk impl_TruthOk
 simp only [spec_in, impl_in, Option.bind_some]
 cases ha : inR a 0 2
 ·exact ⟨rfl, rfl⟩
 cases hb : inR b 0 2
 ·exact ⟨rfl, rfl⟩
 rcases in02 ha with rfl | rfl | rfl <;> rcases in02 hb with rfl | rfl | rfl <;> exact ⟨by decide, by decide⟩
theorem not_both (a : Int) : spec_NotOf a = some (notV a) ∧ impl_NotOf a = some (notV a) := by
 unfold notV spec_NotOf spec_TruthOk
 simp only [spec_in, Option.bind_some]
 cases ha : inR a 0 2
 ·have h0 : (a == 0) = false := by
   cases h : a == 0 <;> simp_all [inR]
  have h1 : (a == 1) = false := by
   cases h : a == 1 <;> simp_all [inR]
  have h2 : (a == 2) = false := by
   cases h : a == 2 <;> simp_all [inR]
  unfold impl_NotOf
  rw [h0, h1, h2]
  exact ⟨rfl, rfl⟩
 rcases in02 ha with rfl | rfl | rfl <;> exact ⟨by decide, by decide⟩
end Go.D
set_option linter.unusedVariables false
namespace Go.D
def valStep (row st : List Za) (p : Zd) : Option (List Za) :=
 if p.fKind = 1 then some (p.fV :: st)
 else if p.fKind = 2 then (getI row p.fN).map fun v => v :: st
 else if p.fKind = 3 then (match st with | b :: a :: r => some (sumV a b :: r) | _ => none)
 else if p.fKind = 4 then (match st with | b :: a :: r => some (ofV (cmpV p.fN a b) :: r) | _ => none)
 else if p.fKind = 5 then (match st with | b :: a :: r => some (ofV (andV (truV a) (truV b)) :: r) | _ => none)
 else if p.fKind = 6 then (match st with | b :: a :: r => some (ofV (orV (truV a) (truV b)) :: r) | _ => none)
 else if p.fKind = 7 then (match st with | b :: r => some (ofV (notV (truV b)) :: r) | _ => none)
 else if p.fKind = 8 then (match st with | b :: r => some (ofV (b2i (b.fKind == 0)) :: r) | _ => none)
 else none
theorem sm_empty : Sm (ByteArray.mk #[]).size := by
 have : (ByteArray.mk #[]).size = 0 := rfl
 omega
theorem sm_sum (a b : Za) : SmV (sumV a b) := by
 unfold sumV N0
 cases a.fKind == 0 || (b.fKind == 0 || !(inR (w64 (a.fN + b.fN)) (-9999) 9999)) <;> exact sm_empty
theorem sm_of (n : Int) : SmV (ofV n) := by
 unfold ofV N0
 cases inR n 0 1 <;> exact sm_empty
theorem v2 {rs : List Int} {st : List Za} {b a : Int} {r : List Int} (h : rs.length = st.length) (hr : rs = b :: a :: r) : ∃ y x t, st = y :: x :: t ∧ r.length = t.length := by
 subst hr
 match st, h with
 | y :: x :: t, h => exact ⟨y, x, t, rfl, by simpa using h⟩
theorem v1 {rs : List Int} {st : List Za} {b : Int} {r : List Int} (h : rs.length = st.length) (hr : rs = b :: r) : ∃ y t, st = y :: t ∧ r.length = t.length := by
 subst hr
 match st, h with
 | y :: t, h => exact ⟨y, t, rfl, by simpa using h⟩
structure Went (cs : List Zb) (row st : List Za) (p : Zd) (ks' : List Int) : Prop where
 go : ∃ st', valStep row st p = some st' ∧ ks'.length = st'.length ∧ (∀ v ∈ st', SmV v) ∧ spec_l4Do row st.reverse p = some st'.reverse ∧
  ((Zs p).bind fun v10 => (slI st.reverse (some ((w64 (((st.reverse.length : Int)) - v10)))) none none).bind fun v12 => (impl_Part_value p row v12).bind fun v14 => (slI st.reverse none (some ((w64 (((st.reverse.length : Int)) - v10)))) none).bind fun v16 => appT st.reverse (([v14] : List Za)) v16.length) = some st'.reverse
theorem sm_cons {v : Za} {st t : List Za} (hv : SmV v) (h : ∀ v ∈ st, SmV v) (ht : ∀ v ∈ t, v ∈ st) : ∀ u ∈ v :: t, SmV u := by
 intro u hu
 rcases List.mem_cons.1 hu with rfl | hu
 ·exact hv
 ·exact h u (ht u hu)
section
variable {α : Type} {xs : List α} (h : xs.length ≤ 2097152)
include h
theorem preA : slI xs none (some (w64 ((xs.length : Int) - 0))) none = some xs := by
 rw [len0 h]
 have := sl_pre (ys := []) h rfl
 rwa [List.append_nil] at this
theorem postA : slI xs (some (w64 ((xs.length : Int) - 0))) none none = some [] := by
 rw [len0 h]
 have := sl_post (ys := []) h rfl
 rwa [List.append_nil] at this
theorem apA (k : α) : appT xs [k] xs.length = some (xs ++ [k]) := by
 have := ap_pre (ys := []) h k
 rwa [List.append_nil] at this
end
theorem ga {α : Type} (a b : α) : getI [a, b] 0 = some a := rfl
theorem gb {α : Type} (a b : α) : getI [a, b] 1 = some b := rfl
theorem gc {α : Type} (a : α) : getI [a] 0 = some a := rfl
theorem val_sum (a b : Za) : (bif a.fKind == 0 then impl_Part_value_j0 a b true else bif b.fKind == 0 then impl_Part_value_j0 a b true else (impl_Value_ok ((Za.mk 1 ((w64 (a.fN + b.fN))) (ByteArray.mk #[])))).bind fun v16 => impl_Part_value_j0 a b ((!v16))) = some (sumV a b) := by
 rw [impl_value (v := Za.mk 1 ((w64 (a.fN + b.fN))) (ByteArray.mk #[])) sm_empty, Option.bind_some]
 have e : valOk (Za.mk 1 ((w64 (a.fN + b.fN))) (ByteArray.mk #[])) = inR (w64 (a.fN + b.fN)) (-9999) 9999 := by
  unfold valOk
  have : ((1 : Int) == 0) = false := rfl
  simp only [this, beq_self_eq_true, cond_false, cond_true, Bool.and_true]
 rw [e]
 unfold sumV impl_Part_value_j0 N0
 cases a.fKind == 0 <;> cases b.fKind == 0 <;> cases inR (w64 (a.fN + b.fN)) (-9999) 9999 <;> rfl
theorem went {cs : List Zb} {row st : List Za} {rs ks' : List Int} {p : Zd} (he : Zad cs rs p = some ks') (hl : rs.length = st.length) (hs : st.length ≤ 2000000) (hc : row.length = cs.length)
  (hr : SmR row) (hst : ∀ v ∈ st, SmV v) (hp : SmP p) : Went cs row st p ks' := by
 obtain ⟨k, n, v⟩ := p
 have hx0 : st.reverse.length ≤ 2097152 := by rw [List.length_reverse]; omega
 rcases kind_cases k with rfl | rfl | rfl | rfl | rfl | rfl | rfl | rfl | hk
 ·obtain ⟨_, h2⟩ := bifSome he
  have h2 := Option.some.inj h2
  subst h2
  refine ⟨v :: st, rfl, by simp [hl], sm_cons hp hst (fun _ h => h), ?_, ?_⟩
  ·have ha : app st.reverse [v] = some (st.reverse ++ [v]) := app_lt (by rw [List.length_reverse]; simp; omega)
   simp only [spec_l4Do, ha, Option.bind_some, beq_self_eq_true, cond_true, List.reverse_cons]
  ·simp [-List.length_reverse, -Int.sub_zero, Zs, Zn, Zq, impl_Part_value, preA hx0, postA hx0, apA hx0]
 ·obtain ⟨h1, h2⟩ := bifSome he
  simp only [Bool.and_eq_true] at h1
  have hi := h1.2
  unfold inR at hi
  simp only [Bool.and_eq_true, decide_eq_true_eq] at hi
  obtain ⟨c, hc1, hc2⟩ := getI_lt (xs := row) hi.1 (by omega)
  rw [Option.map_eq_some_iff] at h2
  obtain ⟨c', _, rfl⟩ := h2
  refine ⟨c :: st, ?_, by simp [hl], sm_cons (hr.2 c (List.mem_of_getElem? hc2)) hst (fun _ h => h), ?_, ?_⟩
  ·simp [valStep, hc1]
  ·have ha : app st.reverse [c] = some (st.reverse ++ [c]) := app_lt (by rw [List.length_reverse]; simp; omega)
   simp [spec_l4Do, hc1, ha]
  ·simp [-List.length_reverse, -Int.sub_zero, Zs, Zn, Zq, impl_Part_value, preA hx0, postA hx0, apA hx0, hc1]
 ·obtain ⟨_, h2⟩ := bifSome he
  split at h2
  ·next b' a' r' =>
   obtain ⟨_, h2⟩ := bifSome h2
   have h2 := Option.some.inj h2
   subst h2
   obtain ⟨b, a, t, rfl, ht⟩ := v2 hl rfl
   have hx : t.reverse.length ≤ 2097152 := by simp at hs ⊢; omega
   refine ⟨sumV a b :: t, rfl, by simp [ht], sm_cons (sm_sum a b) hst (fun u hu => by simp [hu]), ?_, ?_⟩
   ·simp [-List.length_reverse, -Int.sub_zero, -List.length_append, -List.length_cons, -List.length_nil, spec_l4Do, rev2, g1 hx, len2 hx, g2, sl_pre hx rfl, ap_pre hx, spec_sum]
   ·simp [-List.length_reverse, -Int.sub_zero, -List.length_append, -List.length_cons, -List.length_nil, Zs, Zn, impl_Part_value, rev2, len2 hx, sl_pre hx rfl, sl_post hx rfl, ap_pre hx, ga, gb, val_sum]
  ·cases h2
 ·obtain ⟨_, h2⟩ := bifSome he
  split at h2
  ·next b' a' r' =>
   obtain ⟨_, h2⟩ := bifSome h2
   have h2 := Option.some.inj h2
   subst h2
   obtain ⟨b, a, t, rfl, ht⟩ := v2 hl rfl
   have hx : t.reverse.length ≤ 2097152 := by simp at hs ⊢; omega
   have sa : SmV a := hst a (by simp)
   have sb : SmV b := hst b (by simp)
   refine ⟨ofV (cmpV n a b) :: t, rfl, by simp [ht], sm_cons (sm_of _) hst (fun u hu => by simp [hu]), ?_, ?_⟩
   ·simp [-List.length_reverse, -Int.sub_zero, -List.length_append, -List.length_cons, -List.length_nil, spec_l4Do, rev2, g1 hx, len2 hx, g2, sl_pre hx rfl, ap_pre hx, spec_cmp sa sb, spec_of]
   ·simp [-List.length_reverse, -Int.sub_zero, -List.length_append, -List.length_cons, -List.length_nil, Zs, Zn, impl_Part_value, rev2, len2 hx, sl_pre hx rfl, sl_post hx rfl, ap_pre hx, ga, gb, impl_cmp sa sb, impl_of]
  ·cases h2
 ·obtain ⟨_, h2⟩ := bifSome he
  split at h2
  ·next b' a' r' =>
   obtain ⟨_, h2⟩ := bifSome h2
   have h2 := Option.some.inj h2
   subst h2
   obtain ⟨b, a, t, rfl, ht⟩ := v2 hl rfl
   have hx : t.reverse.length ≤ 2097152 := by simp at hs ⊢; omega
   have sa : SmV a := hst a (by simp)
   have sb : SmV b := hst b (by simp)
   refine ⟨ofV (andV (truV a) (truV b)) :: t, rfl, by simp [ht], sm_cons (sm_of _) hst (fun u hu => by simp [hu]), ?_, ?_⟩
   ·simp [-List.length_reverse, -Int.sub_zero, -List.length_append, -List.length_cons, -List.length_nil, spec_l4Do, rev2, g1 hx, len2 hx, g2, sl_pre hx rfl, ap_pre hx, spec_tru sa, spec_tru sb, (and_both _ _).1, spec_of]
   ·simp [-List.length_reverse, -Int.sub_zero, -List.length_append, -List.length_cons, -List.length_nil, Zs, Zn, impl_Part_value, rev2, len2 hx, sl_pre hx rfl, sl_post hx rfl, ap_pre hx, ga, gb, impl_tru sa, impl_tru sb, (and_both _ _).2, impl_of]
  ·cases h2
 ·obtain ⟨_, h2⟩ := bifSome he
  split at h2
  ·next b' a' r' =>
   obtain ⟨_, h2⟩ := bifSome h2
   have h2 := Option.some.inj h2
   subst h2
   obtain ⟨b, a, t, rfl, ht⟩ := v2 hl rfl
   have hx : t.reverse.length ≤ 2097152 := by simp at hs ⊢; omega
   have sa : SmV a := hst a (by simp)
   have sb : SmV b := hst b (by simp)
   refine ⟨ofV (orV (truV a) (truV b)) :: t, rfl, by simp [ht], sm_cons (sm_of _) hst (fun u hu => by simp [hu]), ?_, ?_⟩
   ·simp [-List.length_reverse, -Int.sub_zero, -List.length_append, -List.length_cons, -List.length_nil, spec_l4Do, rev2, g1 hx, len2 hx, g2, sl_pre hx rfl, ap_pre hx, spec_tru sa, spec_tru sb, (or_both _ _).1, spec_of]
   ·simp [-List.length_reverse, -Int.sub_zero, -List.length_append, -List.length_cons, -List.length_nil, Zs, Zn, impl_Part_value, rev2, len2 hx, sl_pre hx rfl, sl_post hx rfl, ap_pre hx, ga, gb, impl_tru sa, impl_tru sb, (or_both _ _).2, impl_of]
  ·cases h2
 ·obtain ⟨_, h2⟩ := bifSome he
  split at h2
  ·next b' r' =>
   obtain ⟨_, h2⟩ := bifSome h2
   have h2 := Option.some.inj h2
   subst h2
   obtain ⟨b, t, rfl, ht⟩ := v1 hl rfl
   have hx : t.reverse.length ≤ 2097152 := by simp at hs ⊢; omega
   have sb : SmV b := hst b (by simp)
   refine ⟨ofV (notV (truV b)) :: t, rfl, by simp [ht], sm_cons (sm_of _) hst (fun u hu => by simp [hu]), ?_, ?_⟩
   ·simp [-List.length_reverse, -Int.sub_zero, -List.length_append, -List.length_cons, -List.length_nil, spec_l4Do, rev1, len1 hx, g3, sl_pre hx rfl, ap_pre hx, spec_tru sb, (not_both _).1, spec_of]
   ·simp [-List.length_reverse, -Int.sub_zero, -List.length_append, -List.length_cons, -List.length_nil, Zs, Zn, Zq, impl_Part_value, rev1, len1 hx, sl_pre hx rfl, sl_post hx rfl, ap_pre hx, gc, impl_tru sb, (not_both _).2, impl_of]
  ·cases h2
 ·obtain ⟨_, h2⟩ := bifSome he
  split at h2
  ·next b' r' =>
   have h2 := Option.some.inj h2
   subst h2
   obtain ⟨b, t, rfl, ht⟩ := v1 hl rfl
   have hx : t.reverse.length ≤ 2097152 := by simp at hs ⊢; omega
   refine ⟨ofV (b2i (b.fKind == 0)) :: t, rfl, by simp [ht], sm_cons (sm_of _) hst (fun u hu => by simp [hu]), ?_, ?_⟩
   ·simp [-List.length_reverse, -Int.sub_zero, -List.length_append, -List.length_cons, -List.length_nil, spec_l4Do, rev1, len1 hx, g3, sl_pre hx rfl, ap_pre hx, spec_b2i, spec_of]
   ·simp [-List.length_reverse, -Int.sub_zero, -List.length_append, -List.length_cons, -List.length_nil, Zs, Zn, Zq, impl_Part_value, rev1, len1 hx, sl_pre hx rfl, sl_post hx rfl, ap_pre hx, gc, impl_b2i, impl_of]
  ·cases h2
 ·obtain ⟨h1, h2, h3, h4, h5, h6, h7, h8⟩ := hk
  simp only [Zad, h1, h2, h3, h4, h5, h6, h7, h8, if_false, or_self] at he
  cases he
def valRun (row : List Za) : List Zd → List Za → Option Za
 | [], st => getI st.reverse 0
 | p :: ps, st => (valStep row st p).bind fun st' => valRun row ps st'
structure Inv (cs : List Zb) (ps : List Zd) (i : Nat) (s : List Za) : Prop where
 h : ∃ ks, exprRun cs (ps.drop i) ks = 3 ∧ ks.length = s.length ∧ s.length ≤ i ∧ ∀ v ∈ s, SmV v
theorem Inv.step {cs : List Zb} {ps : List Zd} {row : List Za} {i : Nat} {s : List Za} {p : Zd} (hI : Inv cs ps i s) (hi : i < ps.length) (hv : ps[i]? = some p) (hl : ps.length ≤ 2000000) (hc : row.length = cs.length) (hr : SmR row) (hp : SmP p) :
  ∃ ks', Went cs row s.reverse p ks' ∧ ∀ st', valStep row s.reverse p = some st' → ks'.length = st'.length → (∀ v ∈ st', SmV v) → Inv cs ps (i + 1) st'.reverse := by
 obtain ⟨ks, h1, h2, h3, h4⟩ := hI.h
 have e : ps.drop i = p :: ps.drop (i + 1) := by
  rw [List.drop_eq_getElem_cons hi]
  rw [List.getElem?_eq_getElem hi] at hv
  rw [Option.some.inj hv]
 rw [e] at h1
 unfold exprRun at h1
 cases he : Zad cs ks p with
 | none => rw [he] at h1; cases h1
 | some ks' =>
  rw [he] at h1
  have h1 : exprRun cs (ps.drop (i + 1)) ks' = 3 := h1
  refine ⟨ks', went he (by rw [List.length_reverse]; exact h2) (by rw [List.length_reverse]; omega) hc hr (fun v hv => h4 v (List.mem_reverse.1 hv)) hp, fun st' _ hl' hs' => ⟨ks', h1, by rw [List.length_reverse]; exact hl', ?_, fun v hv => hs' v (List.mem_reverse.1 hv)⟩⟩
  have := exprStep_len he
  rw [List.length_reverse]
  omega
def exprVal (row : List Za) (ps : List Zd) : Za := (valRun row ps []).getD N0
theorem Inv.fin {cs : List Zb} {ps : List Zd} {s : List Za} (hI : Inv cs ps ps.length s) : ∃ v, s = [v] := by
 obtain ⟨ks, h1, h2, h3, h4⟩ := hI.h
 rw [List.drop_length] at h1
 unfold exprRun at h1
 split at h1
 ·match s, h2 with
  | [v], _ => exact ⟨v, rfl⟩
 ·cases h1
theorem run_start {cs : List Zb} {ps : List Zd} (h : exprKind cs ps = 3) : exprRun cs ps [] = 3 ∧ colsOk cs = true ∧ ps.length ≤ 12 := by
 unfold exprKind at h
 cases hc : colsOk cs && decide (ps.length ≤ 12) with
 | false => rw [hc] at h; cases h
 | true =>
  rw [hc, cond_true] at h
  simp only [Bool.and_eq_true, decide_eq_true_eq] at hc
  exact ⟨h, hc.1, hc.2⟩
theorem spec_val {cs : List Zb} {ps : List Zd} {row : List Za} (h : exprKind cs ps = 3) (hc : row.length = cs.length) (hr : SmR row) (hp : ∀ p ∈ ps, SmP p) : ∃ v, valRun row ps [] = some v ∧ spec_l4Value row ps = some v ∧ impl_exprValue row ps = some v := by
 obtain ⟨h1, h2, h3⟩ := run_start h
 have h0 : Inv cs ps 0 [] := ⟨[], h1, rfl, Nat.le_refl _, fun v hv => by cases hv⟩
 have hs : spec_l4Value row ps = valRun row ps [] := by
  have := loop_opt (xs := ps) (L := fun f i (s : List Za) => spec_l4Value_l0 row ps f i s) (fun rest s => valRun row rest s.reverse) (Inv cs ps) (by omega)
   (fun f i s v hi hv hw hI => by
    have hlt : (i : Int) < ps.length := by omega
    obtain ⟨ks', ⟨st', e1, e2, e3, e4, _⟩, hn⟩ := hI.step hi hv (by omega) hc hr (hp v (List.mem_of_getElem? hv))
    rw [List.reverse_reverse] at e4
    refine .inr ⟨st'.reverse, hn st' e1 e2 e3, ?_, ?_⟩
    ·simp only [spec_l4Value_l0, hlt, decide_true, cond_true, Z9, hv, Option.bind_some, e4, hw]
    ·simp only [valRun, e1, Option.bind_some, List.reverse_reverse])
   (fun f s hI => by
    obtain ⟨v, rfl⟩ := hI.fin
    simp only [spec_l4Value_l0, Int.lt_irrefl, decide_false, cond_false]
    rfl) h0
  exact this
 have hi : impl_exprValue row ps = valRun row ps [] := by
  have := loop_opt (xs := ps) (L := fun f i (s : List Za) => impl_exprValue_l0 row ps f i s) (fun rest s => valRun row rest s.reverse) (Inv cs ps) (by omega)
   (fun f i s v hi hv hw hI => by
    have hlt : (i : Int) < ps.length := by omega
    obtain ⟨ks', ⟨st', e1, e2, e3, _, e5⟩, hn⟩ := hI.step hi hv (by omega) hc hr (hp v (List.mem_of_getElem? hv))
    rw [List.reverse_reverse] at e5
    refine .inr ⟨st'.reverse, hn st' e1 e2 e3, ?_, ?_⟩
    ·obtain ⟨x1, g1, e5⟩ := bindS e5
     obtain ⟨x2, g2, e5⟩ := bindS e5
     obtain ⟨x3, g3, e5⟩ := bindS e5
     obtain ⟨x4, g4, e5⟩ := bindS e5
     simp only [impl_exprValue_l0, hlt, decide_true, cond_true, Z9, hv, Option.bind_some, g1, g2, g3, g4, e5, hw]
    ·simp only [valRun, e1, Option.bind_some, List.reverse_reverse])
   (fun f s hI => by
    obtain ⟨v, rfl⟩ := hI.fin
    simp only [impl_exprValue_l0, Int.lt_irrefl, decide_false, cond_false]
    rfl) h0
  exact this
 have key : ∀ (n i : Nat) (s : List Za), i + n = ps.length → Inv cs ps i s → ∃ v, valRun row (ps.drop i) s.reverse = some v := by
  intro n
  induction n with
  | zero =>
   intro i s hi hI
   have : i = ps.length := by omega
   subst this
   obtain ⟨v, rfl⟩ := hI.fin
   rw [List.drop_length]
   exact ⟨v, rfl⟩
  | succ n ih =>
   intro i s hi hI
   have hlt : i < ps.length := by omega
   obtain ⟨ks', ⟨st', e1, e2, e3, _⟩, hn⟩ := hI.step hlt (List.getElem?_eq_getElem hlt) (by omega) hc hr (hp _ (List.getElem_mem hlt))
   obtain ⟨v, hv⟩ := ih (i + 1) st'.reverse (by omega) (hn st' e1 e2 e3)
   refine ⟨v, ?_⟩
   rw [List.drop_eq_getElem_cons hlt, valRun, e1, Option.bind_some]
   rwa [List.reverse_reverse] at hv
 obtain ⟨v, hv⟩ := key ps.length 0 [] (by omega) h0
 have hv : valRun row ps [] = some v := hv
 exact ⟨v, hv, hs.trans hv, hi.trans hv⟩
def holds (row : List Za) (ps : List Zd) : Bool := Zr (exprVal row ps) (ofV 1)
theorem both_holds {cs : List Zb} {ps : List Zd} {row : List Za} (h : exprKind cs ps = 3) (hc : row.length = cs.length) (hr : SmR row) (hp : ∀ p ∈ ps, SmP p) : spec_l6Holds row ps = some (holds row ps) ∧ impl_exprHolds row ps = some (holds row ps) := by
 obtain ⟨v, h1, h2, h3⟩ := spec_val h hc hr hp
 unfold spec_l6Holds impl_exprHolds holds exprVal
 rw [h1, h2, h3]
 simp only [Option.bind_some, spec_of, impl_of, Option.getD_some, and_self]
end Go.D
set_option linter.unusedVariables false
namespace Go.D
theorem clip_id {α : Type} (a : List α) : slI a none (some (a.length : Int)) (some (a.length : Int)) = some a := by simp [slI]
structure Sides (ca cb : List Zb) (ar br : List (List Za)) (ps : List Zd) : Prop where
 sc : Sm ca.length
 sd : Sm cb.length
 sa : SmRs ar
 sb : SmRs br
 sl : Sm ps.length
 sp : ∀ p ∈ ps, SmP p
def ready (ca cb : List Zb) (ar br : List (List Za)) (ps : List Zd) : Bool := rowsOk ca ar && (rowsOk cb br && (exprKind (ca ++ cb) ps == 3 && (decide (ar.length ≤ 30) && decide (br.length ≤ 30))))
section
variable {ca cb : List Zb} {ar br : List (List Za)} {ps : List Zd} (h : Sides ca cb ar br ps) (hr : ready ca cb ar br ps = true)
include h hr
end
end Go.D
set_option linter.unusedVariables false
namespace Go.D
theorem wp_front {α β : Type} {xs : List β} {n : Int} {f : List β → Option (α × Zc)} {Q : α → Zc → Prop} (h0 : 0 ≤ n) (h1 : n ≤ xs.length) (hk : Wp (f (xs.take n.toNat)) Q) : Wp ((slI xs none (some n) none).bind f) Q := by
 have e : slI xs none (some n) none = some (xs.take n.toNat) := by
  unfold slI
  rw [if_pos (by simp only [Option.getD_none, Option.getD_some]; omega)]
  simp
 rw [e, Option.bind_some]
 exact hk
def Srn (n : Nat) (rows : List (List Za)) : Prop := rows.length ≤ n ∧ ∀ r ∈ rows, Sr 9 r
theorem Srn.app {m k : Nat} {a b : List (List Za)} (h : Srn m a) (h2 : Srn k b) : Srn (m + k) (a ++ b) := ⟨by have := h.1; have := h2.1; rw [List.length_append]; omega, fun v hv => (List.mem_append.1 hv).elim (h.2 v) (h2.2 v)⟩
theorem Srn.up {m k : Nat} {a : List (List Za)} (h : Srn m a) (hm : m ≤ k) : Srn k a := ⟨Nat.le_trans h.1 hm, h.2⟩
theorem Srn.sm {m : Nat} {a : List (List Za)} (h : Srn m a) (hm : m ≤ 1000) : SmRs a := ⟨by have := h.1; omega, fun r hr => (h.2 r hr).sm (by omega)⟩
abbrev PairT := (List Zb) × (List Zb) × (List (List Za)) × (List (List Za)) × Int × Int
structure PairOk (x : PairT) : Prop where
 a1 : 1 ≤ x.1.length
 a2 : x.1.length ≤ 6
 b1 : 1 ≤ x.2.1.length
 b2 : x.2.1.length ≤ 6
 ra : Srn 12 x.2.2.1
 rb : Srn 7 x.2.2.2.1
abbrev TestT := (List Zb) × (List Zb) × (List (List Za)) × (List (List Za)) × (List Zd)
structure TestOk (x : TestT) : Prop where
 a1 : 1 ≤ x.1.length
 a2 : x.1.length ≤ 6
 b1 : 1 ≤ x.2.1.length
 b2 : x.2.1.length ≤ 7
 ra : Srn 13 x.2.2.1
 rb : Srn 7 x.2.2.2.1
 ex : ExOk 100 x.2.2.2.2
end Go.D
set_option linter.unusedVariables false
namespace Go.D
theorem wp_odd0 {α : Type} {r : Zc} {f : Bool × Zc → Option (α × Zc)} {Q : α → Zc → Prop} (hk : Wp (f (false, r)) Q) : Wp ((spec_l20Rd_odd r 0).bind f) Q := hk
def KC (cs : List Zb) : Prop := ∀ c ∈ cs, inR c.fKind 1 3 = true
theorem KC.app {a b : List Zb} (h : KC a) (h2 : KC b) : KC (a ++ b) := fun c hc => (List.mem_append.1 hc).elim (h c) (h2 c)
theorem KC.take {a : List Zb} (h : KC a) (n : Nat) : KC (a.take n) := fun c hc => h c (List.mem_of_mem_take hc)
theorem KC.set {a : List Zb} (h : KC a) (i : Nat) {c : Zb} (hc : inR c.fKind 1 3 = true) : KC (a.set i c) := fun d hd => (List.mem_or_eq_of_mem_set hd).elim (h d) fun e => e ▸ hc
structure FitR (cs : List Zb) (r : List Za) : Prop where
 l : r.length = cs.length
 v : ∀ v ∈ r, valOk v = true
 z : ((r.zip cs).all fun p => fits p.2 p.1) = true
theorem FitR.snoc {cs : List Zb} {r : List Za} {i : Nat} {c : Zb} {v : Za} (h : FitR (cs.take i) r) (hc : cs[i]? = some c) (hv : valOk v = true) (hf : fits c v = true) : FitR (cs.take (i + 1)) (r ++ [v]) := by
 have e : cs.take (i + 1) = cs.take i ++ [c] := by rw [List.take_add_one, hc]; rfl
 rw [e]
 refine ⟨by rw [List.length_append, List.length_append, h.l]; rfl, fun u hu => ?_, ?_⟩
 ·rcases List.mem_append.1 hu with hu | hu
  ·exact h.v u hu
  ·have : u = v := by simpa using hu
   rw [this]; exact hv
 ·rw [List.zip_append h.l, List.all_append, h.z]
  simpa using hf
theorem FitR.rowFits {cs : List Zb} {r : List Za} (h : FitR cs r) (hc : colsOk cs = true) : rowFits cs r = true := by
 have hl : cs.length ≤ 4 := by
  unfold colsOk at hc
  simp only [Bool.and_eq_true, decide_eq_true_eq] at hc
  exact hc.2
 unfold Go.D.rowFits rowOk
 rw [hc, h.z, List.all_eq_true.2 h.v, decide_eq_true (show r.length ≤ 4 by rw [h.l]; exact hl), h.l, beq_self_eq_true]
 rfl
theorem columns_fit {n : Int} {r : Zc} (h : RdOk n r) (hn : n ≤ 900000) : Wp (spec_l20Columns r 0) fun cs r' => RdOk (n + 9) r' ∧ (1 ≤ cs.length ∧ cs.length ≤ 6) ∧ KC cs := by
 unfold spec_l20Columns
 refine wp_pick h (by omega) fun v r1 h1 v0 _ v1 => ?_
 have v1 := v1 (by omega)
 have e : w64 (1 + v) = ((v.toNat + 1 : Nat) : Int) := by rw [w64_of (by omega) (by omega)]; omega
 simp only
 rw [e]
 have := loop_down (L := fun f i (s : Zc × List Zb) => spec_l20Columns_l0 0 f i s.1 s.2) (Q := fun cs r' => RdOk (n + 9) r' ∧ (1 ≤ cs.length ∧ cs.length ≤ 6) ∧ KC cs)
  (fun k s => RdOk (n + 1 + 2 * (3 - k)) s.1 ∧ s.2.length + k = v.toNat + 1 ∧ KC s.2)
  (fun f k s hk hw hI hrec => by
   obtain ⟨r, xs⟩ := s
   obtain ⟨hI1, hI2, hI3⟩ := hI
   simp only at hI1 hI2 hI3 ⊢
   rw [spec_l20Columns_l0, decide_eq_true (by omega), cond_true]
   refine wp_pick hI1 (by omega) fun k1 r1 h1 p0 _ p1 => ?_
   refine wp_getI p0 (by have := p1 (by omega); simp; omega) fun c hc => ?_
   refine wp_pick h1 (by omega) fun k2 r2 h2 q0 _ q1 => ?_
   refine wp_app (by simp; omega) ?_
   simp only [hw]
   refine hrec (r2, _) ⟨h2.up (by (try simp only); omega), by simp; omega, hI3.app fun d hd => ?_⟩
   have : d = Zb.mk c (decide (k2 > 0)) := by simpa using hd
   subst this
   simp only [List.mem_cons, List.not_mem_nil, or_false] at hc
   rcases hc with rfl | rfl | rfl | rfl <;> rfl)
  (fun f s hI => by
   obtain ⟨r, xs⟩ := s
   obtain ⟨hI1, hI2, hI3⟩ := hI
   simp only at hI1 hI2 hI3 ⊢
   rw [spec_l20Columns_l0, decide_eq_false (by omega), cond_false]
   exact wp_odd0 (wp_some ⟨hI1.up (by omega), ⟨by omega, by omega⟩, hI3⟩))
  (v.toNat + 1) (r1, []) ⟨h1.up (by (try simp only); omega), by simp, fun c hc => by cases hc⟩ (by omega)
 exact this
theorem like_fit {n : Int} {r : Zc} (h : RdOk n r) (hn : n ≤ 900000) {c : Zb} (hc : inR c.fKind 1 3 = true) : Wp (spec_l20Like r c) fun v r' => RdOk (n + 2) r' ∧ v.fS.size ≤ 2 ∧ valOk v = true ∧ fits c v = true := by
 have e0 : (ByteArray.mk #[]).size = 0 := rfl
 have key : ∀ (m : Int) (r : Zc) (b : Bool), RdOk m r → m ≤ n + 1 → (b = true → c.fEmpty = true) → Wp (spec_l20Like_j0 c b r) fun v r' => RdOk (n + 2) r' ∧ v.fS.size ≤ 2 ∧ valOk v = true ∧ fits c v = true := by
  intro m r b h hm hb
  unfold spec_l20Like_j0
  refine wp_bif (fun hbt => wp_some ⟨h.up (by omega), by simp [e0], by unfold valOk; simp, ?_⟩) fun _ => wp_bif (fun hk => ?_) fun hk1 => wp_bif (fun hk => ?_) fun hk2 => ?_
  ·unfold fits; rw [hb hbt]; simp
  ·refine wp_pick h (by omega) fun k r1 h1 p0 _ p1 => wp_some ⟨h1.up (by omega), by simp [e0], ?_, ?_⟩
   ·have := p1 (by omega)
    have : inR k (-9999) 9999 = true := by unfold inR; simp; omega
    show (inR k (-9999) 9999 && _) = true
    rw [this, Bool.true_and]
    exact beq_self_eq_true _
   ·unfold fits; rw [eq_of_beq hk]; rfl
  ·refine wp_pick h (by omega) fun k r1 h1 p0 _ p1 => wp_getI p0 (by have := p1 (by omega); simp; omega) fun s hs => wp_some ⟨h1.up (by omega), ?_, ?_, ?_⟩
   ·simp only [List.mem_cons, List.not_mem_nil, or_false] at hs
    rcases hs with rfl | rfl | rfl | rfl <;> decide
   ·simp only [List.mem_cons, List.not_mem_nil, or_false] at hs
    rcases hs with rfl | rfl | rfl | rfl <;> rfl
   ·unfold fits; rw [eq_of_beq hk]; rfl
  ·refine wp_pick h (by omega) fun k r1 h1 p0 _ p1 => wp_some ⟨h1.up (by omega), by simp [e0], ?_, ?_⟩
   ·have := p1 (by omega)
    have : inR k 0 1 = true := by unfold inR; simp; omega
    show (inR k 0 1 && _) = true
    rw [this, Bool.true_and]
    exact beq_self_eq_true _
   ·have : c.fKind = 3 := by
     unfold inR at hc
     simp at hc hk1 hk2
     omega
    unfold fits; rw [this]; rfl
 unfold spec_l20Like
 refine wp_bif (fun he => wp_pick h (by omega) fun k r1 h1 _ _ _ => key _ _ _ h1 (by omega) fun _ => he) fun _ => key _ _ _ h (by omega) (fun h => by cases h)
theorem row_fit {n : Int} {r : Zc} (h : RdOk n r) (hn : n ≤ 700000) {cs : List Zb} (hc : cs.length ≤ 6) (hk : KC cs) : Wp (spec_l20Fit r cs 0) fun row r' => RdOk (n + 41) r' ∧ Sr 9 row ∧ FitR cs row := by
 unfold spec_l20Fit
 have e0 : (ByteArray.mk #[]).size = 0 := rfl
 exact loop_up (xs := cs) (L := fun f i (s : Zc × List Za) => spec_l20Fit_l0 cs 0 f i s.1 s.2) (Q := fun row r' => RdOk (n + 41) r' ∧ Sr 9 row ∧ FitR cs row)
  (fun i s => RdOk (n + 2 * i) s.1 ∧ Sr i s.2 ∧ s.2.length = i ∧ FitR (cs.take i) s.2) (by omega)
  (fun f i s c hi hv hw hI hrec => by
   obtain ⟨r, row⟩ := s
   obtain ⟨h1, h2, h3, h4⟩ := hI
   simp only at h1 h2 h3 h4 ⊢
   rw [spec_l20Fit_l0, decide_eq_true (by omega), cond_true, Z9, hv, Option.bind_some]
   refine wp_then (like_fit h1 (by omega) (hk c (List.mem_of_getElem? hv))) fun v r1 hq => wp_app (by simp; omega) ?_
   simp only [hw]
   exact hrec (r1, _) ⟨hq.1.up (by omega), h2.app (.one (Nat.le_trans hq.2.1 (by omega))), by simp; omega, h4.snoc hv hq.2.2.1 hq.2.2.2⟩)
  (fun f s hI => by
   obtain ⟨r, row⟩ := s
   obtain ⟨h1, h2, h3, h4⟩ := hI
   simp only at h1 h2 h3 h4 ⊢
   rw [List.take_length] at h4
   rw [spec_l20Fit_l0, decide_eq_false (Int.lt_irrefl _), cond_false]
   exact wp_odd0 (wp_some ⟨h1.up (by omega), ⟨by omega, h2.2⟩, h4⟩)) (r, []) ⟨h.up (by simp), ⟨by simp, fun v hv => by cases hv⟩, rfl, ⟨rfl, fun v hv => (by cases hv), rfl⟩⟩
def Fn (n : Nat) (cs : List Zb) (rows : List (List Za)) : Prop := rows.length ≤ n ∧ ∀ r ∈ rows, Sr 9 r ∧ FitR cs r
theorem Fn.srn {n : Nat} {cs : List Zb} {rows : List (List Za)} (h : Fn n cs rows) : Srn n rows := ⟨h.1, fun r hr => (h.2 r hr).1⟩
theorem Fn.app {m k : Nat} {cs : List Zb} {a b : List (List Za)} (h : Fn m cs a) (h2 : Fn k cs b) : Fn (m + k) cs (a ++ b) := ⟨by have := h.1; have := h2.1; rw [List.length_append]; omega, fun v hv => (List.mem_append.1 hv).elim (h.2 v) (h2.2 v)⟩
theorem Fn.rows {n : Nat} {cs : List Zb} {rows : List (List Za)} (h : Fn n cs rows) (hc : colsOk cs = true) : rowsOk cs rows = true := by
 unfold rowsOk
 rw [hc, List.all_eq_true.2 fun r hr => (h.2 r hr).2.rowFits hc]
 rfl
theorem bag_fit {n : Int} {r : Zc} (h : RdOk n r) (hn : n ≤ 600000) {cs : List Zb} (hc : cs.length ≤ 6) (hk : KC cs) : Wp (spec_l20Bag r cs 0) fun rows r' => RdOk (n + 260) r' ∧ Fn 6 cs rows := by
 unfold spec_l20Bag
 refine wp_pick h (by omega) fun v r1 h1 v0 _ v1 => ?_
 have v1 := v1 (by omega)
 have e : v = ((v.toNat : Nat) : Int) := by omega
 simp only
 rw [e]
 exact loop_down (L := fun f i (s : Zc × List (List Za)) => spec_l20Bag_l0 cs 0 f i s.1 s.2) (Q := fun rows r' => RdOk (n + 260) r' ∧ Fn 6 cs rows)
  (fun k s => k ≤ 6 ∧ RdOk (n + 1 + 43 * (6 - k)) s.1 ∧ s.2.length + k ≤ 6 ∧ ∀ r ∈ s.2, Sr 9 r ∧ FitR cs r)
  (fun f k s hkk hw hI hrec => by
   obtain ⟨r, rows⟩ := s
   obtain ⟨i0, i1, i2, i3⟩ := hI
   simp only at i1 i2 i3 ⊢
   have add : ∀ (m : Int) (r' : Zc) (row : List Za), RdOk m r' → m ≤ n + 1 + 43 * (6 - (k + 1 : Nat)) + 43 → (Sr 9 row ∧ FitR cs row) → Wp (spec_l20Bag_j1 ((k + 1 : Nat) : Int) (spec_l20Bag_l0 cs 0 f) r' (rows ++ [row])) fun rows r' => RdOk (n + 260) r' ∧ Fn 6 cs rows := by
    intro m r' row hr hm hs
    unfold spec_l20Bag_j1
    rw [hw]
    refine hrec (r', _) ⟨by omega, hr.up (by omega), by simp; omega, fun u hu => ?_⟩
    rcases List.mem_append.1 hu with hu | hu
    ·exact i3 u hu
    ·have : u = row := by simpa using hu
     rw [this]; exact hs
   have j2 : ∀ (m : Int) (r' : Zc) (b : Bool), RdOk m r' → m ≤ n + 1 + 43 * (6 - (k + 1 : Nat)) + 1 → (b = true → 0 < rows.length) → Wp (spec_l20Bag_j2 cs 0 ((k + 1 : Nat) : Int) rows (spec_l20Bag_l0 cs 0 f) b r') fun rows r' => RdOk (n + 260) r' ∧ Fn 6 cs rows := by
    intro m r' b hr hm hb
    unfold spec_l20Bag_j2
    refine wp_bif (fun hbt => ?_) fun _ => ?_
    ·have := hb hbt
     refine wp_pick hr (by omega) fun k2 r3 g3 p0 _ p1 => wp_getI p0 (p1 (by omega)) fun row hrow => ?_
     rw [own_ok (i3 row hrow).1, Option.bind_some]
     exact wp_app (by simp; omega) (add _ _ _ g3 (by omega) (i3 row hrow))
    ·exact wp_then (row_fit hr (by omega) hc hk) fun row r3 hq => wp_app (by simp; omega) (add _ _ _ hq.1 (by omega) hq.2)
   rw [spec_l20Bag_l0, decide_eq_true (by omega), cond_true]
   refine wp_bif (fun hp => ?_) fun _ => j2 _ _ _ i1 (by omega) (fun h => by cases h)
   have hp := of_decide_eq_true hp
   exact wp_pick i1 (by omega) fun k2 r3 g3 _ _ _ => j2 _ _ _ g3 (by omega) (fun _ => by omega))
  (fun f s hI => by
   obtain ⟨r, rows⟩ := s
   obtain ⟨i0, i1, i2, i3⟩ := hI
   simp only at i1 i2 i3 ⊢
   rw [spec_l20Bag_l0, decide_eq_false (by omega), cond_false]
   exact wp_some ⟨i1.up (by omega), by omega, i3⟩)
  v.toNat (r1, []) ⟨by omega, h1.up (by omega), by simp; omega, fun r hr => by cases hr⟩ (by omega)
structure PairFit (x : PairT) : Prop where
 a1 : 1 ≤ x.1.length
 a2 : x.1.length ≤ 6
 b1 : 1 ≤ x.2.1.length
 b2 : x.2.1.length ≤ 6
 ka : KC x.1
 kb : KC x.2.1
 ra : Fn 12 x.1 x.2.2.1
 rb : Fn 6 x.2.1 x.2.2.2.1
structure TestFit (x : TestT) : Prop where
 a1 : 1 ≤ x.1.length
 a2 : x.1.length ≤ 6
 b1 : 1 ≤ x.2.1.length
 b2 : x.2.1.length ≤ 6
 ra : Fn 12 x.1 x.2.2.1
 rb : Fn 6 x.2.1 x.2.2.2.1
 ex : ExOk 100 x.2.2.2.2
end Go.D
set_option linter.unusedVariables false
namespace Go.D
def fields (s : Zf) : Bool := (spec_l6Fields s).getD false
theorem spec_fields (s : Zf) : spec_l6Fields s = some (fields s) := by
 unfold fields spec_l6Fields spec_l6Fields_j0 spec_l6Fields_j1
 cases s.fKind == 4 <;> cases s.fKind == 5 <;> cases s.fKind == 2 <;> cases s.fKind == 1 <;> cases s.fKind == 3 <;> cases s.fN == 0 <;> cases s.fB == 0 <;> cases s.fA == 0 <;> cases (s.fE.length : Int) == 0 <;> rfl
theorem impl_fields (s : Zf) : impl_Step_plain s = some (fields s) := by
 rw [← spec_fields]
 rfl
def takeRun (a : List Zb) : List Int → List Zb → Option (List Zb)
 | [], acc => bif decide (acc.length ≤ 4) then some acc else none
 | n :: ns, acc => bif inR n 0 ((a.length : Int) - 1) then (match getI a n with
  | some c => takeRun a ns (acc ++ [c])
  | none => none) else none
theorem spec_take {a : List Zb} {s : Zf} (ha : Sm a.length) (hl : Sm s.fList.length) : ∃ y, spec_l6Columns_l1 s a FUEL 0 [] = some y ∧ Yes (takeRun a s.fList []) y := by
 refine loop_q (xs := s.fList) (L := fun f i (st : List Zb) => spec_l6Columns_l1 s a f i st) (fun ns st y => Yes (takeRun a ns st) y) (fun i st => st.length = i) (by omega) (fun f i st v rest hr hi hv hw hI => ?_) (fun f st hI => ?_) (s := ([] : List Zb)) rfl
 ·have hlt : (i : Int) < s.fList.length := by omega
  have hw1 : w64 ((a.length : Int) - 1) = (a.length : Int) - 1 := w64_of (by omega) (by omega)
  cases hin : inR v 0 ((a.length : Int) - 1) with
  | false =>
   refine .inl ⟨([], false), ?_, .inl ⟨?_, rfl⟩⟩
   ·simp only [spec_l6Columns_l1, hlt, decide_true, cond_true, Z9, hv, Option.bind_some, spec_in, hw1, hin, Bool.not_false]
   ·simp only [takeRun, hin, cond_false]
  | true =>
   have hin' := hin
   unfold inR at hin'
   simp only [Bool.and_eq_true, decide_eq_true_eq] at hin'
   obtain ⟨c, h1, h2⟩ := getI_lt (xs := a) hin'.1 (by omega)
   refine .inr ⟨st ++ [c], by simp [hI], ?_, fun y hy => ?_⟩
   ·simp only [spec_l6Columns_l1, hlt, decide_true, cond_true, Z9, hv, Option.bind_some, spec_in, hw1, hin, Bool.not_true, cond_false, h1, hw, app_lt (xs := st) (ys := [c]) (by simp; omega)]
   ·simp only [takeRun, hin, cond_true, h1]
    exact hy
 ·refine ⟨(st, decide (st.length ≤ 4)), ?_, ?_⟩
  ·simp only [spec_l6Columns_l1, Int.lt_irrefl, decide_false, cond_false, le4]
  ·unfold takeRun
   cases hd : decide (st.length ≤ 4)
   ·exact .inl ⟨rfl, rfl⟩
   ·exact .inr ⟨st, rfl, rfl⟩
theorem impl_take {m : Ze} {s : Zf} (ha : Sm m.fColumns.length) (hl : Sm s.fList.length) : ∃ y, impl_Step_make_L2_l2 s m FUEL 0 [] = some y ∧ Yes ((takeRun m.fColumns s.fList []).map fun c => ⟨c, m.fMost⟩) y := by
 refine loop_q (xs := s.fList) (L := fun f i (st : List Zb) => impl_Step_make_L2_l2 s m f i st) (fun ns st y => Yes ((takeRun m.fColumns ns st).map fun c => ⟨c, m.fMost⟩) y) (fun i st => st.length = i) (by omega) (fun f i st v rest hr hi hv hw hI => ?_) (fun f st hI => ?_) (s := ([] : List Zb)) rfl
 ·have hlt : (i : Int) < s.fList.length := by omega
  have hw1 : w64 ((m.fColumns.length : Int) - 1) = (m.fColumns.length : Int) - 1 := w64_of (by omega) (by omega)
  cases hin : inR v 0 ((m.fColumns.length : Int) - 1) with
  | false =>
   refine .inl ⟨(Ze.mk [] 0, false), ?_, .inl ⟨?_, rfl⟩⟩
   ·simp only [impl_Step_make_L2_l2, hlt, decide_true, cond_true, Z9, hv, Option.bind_some, impl_in, hw1, hin, Bool.not_false]
   ·simp only [takeRun, hin, cond_false, Option.map_none]
  | true =>
   have hin' := hin
   unfold inR at hin'
   simp only [Bool.and_eq_true, decide_eq_true_eq] at hin'
   obtain ⟨c, h1, h2⟩ := getI_lt (xs := m.fColumns) hin'.1 (by omega)
   refine .inr ⟨st ++ [c], by simp [hI], ?_, fun y hy => ?_⟩
   ·simp only [impl_Step_make_L2_l2, hlt, decide_true, cond_true, Z9, hv, Option.bind_some, impl_in, hw1, hin, Bool.not_true, cond_false, h1, hw, app_lt (xs := st) (ys := [c]) (by simp; omega)]
   ·simp only [takeRun, hin, cond_true, h1]
    exact hy
 ·refine ⟨(⟨st, m.fMost⟩, decide (st.length ≤ 4)), ?_, ?_⟩
  ·simp only [impl_Step_make_L2_l2, Int.lt_irrefl, decide_false, cond_false, le4, hI]
  ·unfold takeRun
   cases hd : decide (st.length ≤ 4)
   ·exact .inl ⟨rfl, rfl⟩
   ·exact .inr ⟨_, rfl, rfl⟩
def bothCols : List (Zb × Zb) → Option (List Zb)
 | [] => some []
 | (x, y) :: r => bif x.fKind == y.fKind then (bothCols r).map fun u => { x with fEmpty := x.fEmpty || y.fEmpty } :: u else none
theorem set_take {α : Type} {st : List α} {i : Nat} (h : i < st.length) (c : α) : (st.set i c).take (i + 1) = st.take i ++ [c] := by
 rw [List.take_add_one, List.take_set_of_le (Nat.le_refl i), List.getElem?_set_self h]
 rfl
theorem set_drop {α : Type} {st : List α} {i : Nat} (c : α) : (st.set i c).drop (i + 1) = st.drop (i + 1) := by
 rw [List.drop_set_of_lt (by omega)]
theorem both_step {x y : Zb} {rest : List (Zb × Zb)} {st : List Zb} {i : Nat} (hi : i < st.length) (hr : i + (rest.length + 1) = st.length) (hk : (x.fKind == y.fKind) = true) (c : Zb) (hc : c = { x with fEmpty := x.fEmpty || y.fEmpty }) :
  ((bothCols rest).map fun u => (st.set i c).take ((st.set i c).length - rest.length) ++ u) = ((bothCols ((x, y) :: rest)).map fun u => st.take (st.length - ((x, y) :: rest).length) ++ u) := by
 have e1 : (st.set i c).length - rest.length = i + 1 := by rw [List.length_set]; omega
 have e2 : st.length - ((x, y) :: rest).length = i := by simp only [List.length_cons]; omega
 rw [e1, e2, set_take hi]
 simp only [bothCols, hk, cond_true, Option.map_map, ← hc]
 congr 1
 funext u
 simp
theorem drop_get {α : Type} {st a : List α} {i : Nat} (h : st.drop i = a.drop i) (hl : st.length = a.length) (hi : i < a.length) : st[i]? = a[i]? := by
 have := congrArg (fun l : List α => l[0]?) h
 simpa using this
theorem spec_both {cols : List (List Zb)} {s : Zf} {a b : List Zb} (hb : getI cols s.fB = some b) (hl : a.length = b.length) (ha : Sm a.length) :
  ∃ y, spec_l6Columns_l2 cols s FUEL 0 a = some y ∧ Yes (bothCols (a.zip b)) y := by
 have hz : (a.zip b).length = a.length := by simp [hl]
 have key := loop_q (xs := a.zip b) (L := fun f i (st : List Zb) => spec_l6Columns_l2 cols s f i st) (fun ps st y => Yes ((bothCols ps).map fun u => st.take (st.length - ps.length) ++ u) y)
  (fun i st => st.drop i = a.drop i ∧ st.length = a.length) (by omega) (fun f i st v rest hr hi hv hw hI => ?_) (fun f st hI => ?_) (s := a) ⟨rfl, rfl⟩
 ·obtain ⟨y, h1, h2⟩ := key
  refine ⟨y, h1, ?_⟩
  have e : ((bothCols (a.zip b)).map fun u => a.take (a.length - (a.zip b).length) ++ u) = bothCols (a.zip b) := by
   rw [hz, Nat.sub_self]
   simp
  rwa [e] at h2
 ·obtain ⟨v1, v2⟩ := zip_get hl hv
  obtain ⟨x, y⟩ := v
  simp only at v1 v2
  have hst : st[i]? = some x := (drop_get hI.1 hI.2 (by omega)).trans v1
  have hlt : (i : Int) < st.length := by omega
  cases hk : x.fKind == y.fKind with
  | false =>
   refine .inl ⟨([], false), ?_, .inl ⟨?_, rfl⟩⟩
   ·simp only [spec_l6Columns_l2, hlt, decide_true, cond_true, Z9, hst, hb, v2, Option.bind_some, hk, Bool.not_false]
   ·simp only [bothCols, hk, cond_false, Option.map_none]
  | true =>
   refine .inr ⟨st.set i { x with fEmpty := x.fEmpty || y.fEmpty }, ⟨?_, ?_⟩, ?_, fun r hr' => ?_⟩
   ·rw [set_drop, ← List.drop_drop, hI.1, List.drop_drop]
   ·rw [List.length_set]; exact hI.2
   ·simp only [spec_l6Columns_l2, hlt, decide_true, cond_true, Z9, hst, hb, v2, Option.bind_some, hk, Bool.not_true, cond_false, spec_l6Columns_j3, hw, Int.toNat_natCast]
    cases x.fEmpty <;> simp
   ·rw [← both_step (i := i) (by omega) (by omega) hk _ rfl]
    exact hr'
 ·refine ⟨(st, true), ?_, .inr ⟨st, ?_, rfl⟩⟩
  ·rw [hz, ← hI.2]
   simp only [spec_l6Columns_l2, Int.lt_irrefl, decide_false, cond_false]
  ·simp [bothCols]
theorem impl_both {m1 m2 : Ze} (hl : m1.fColumns.length = m2.fColumns.length) (ha : Sm m1.fColumns.length) :
  ∃ y, Za5 m1 m2 FUEL 0 m1.fColumns = some y ∧ Yes ((bothCols (m1.fColumns.zip m2.fColumns)).map fun c => ⟨c, w64 (m1.fMost + m2.fMost)⟩) y := by
 obtain ⟨a, n1⟩ := m1
 obtain ⟨b, n2⟩ := m2
 simp only at hl ha ⊢
 have hz : (a.zip b).length = a.length := by simp [hl]
 have key := loop_q (xs := a.zip b) (L := fun f i (st : List Zb) => Za5 ⟨a, n1⟩ ⟨b, n2⟩ f i st) (fun ps st y => Yes (((bothCols ps).map fun u => st.take (st.length - ps.length) ++ u).map fun c => (⟨c, w64 (n1 + n2)⟩ : Ze)) y)
  (fun i st => st.drop i = a.drop i ∧ st.length = a.length) (by omega) (fun f i st v rest hr hi hv hw hI => ?_) (fun f st hI => ?_) (s := a) ⟨rfl, rfl⟩
 ·obtain ⟨y, h1, h2⟩ := key
  refine ⟨y, h1, ?_⟩
  have e : ((bothCols (a.zip b)).map fun u => a.take (a.length - (a.zip b).length) ++ u) = bothCols (a.zip b) := by
   rw [hz, Nat.sub_self]
   simp
  rwa [e] at h2
 ·obtain ⟨v1, v2⟩ := zip_get hl hv
  obtain ⟨x, y⟩ := v
  simp only at v1 v2
  have hst : st[i]? = some x := (drop_get hI.1 hI.2 (by omega)).trans v1
  have hlt : (i : Int) < b.length := by omega
  cases hk : x.fKind == y.fKind with
  | false =>
   refine .inl ⟨(Ze.mk [] 0, false), ?_, .inl ⟨?_, rfl⟩⟩
   ·have hk' : (y.fKind == x.fKind) = false := by rw [eq_comm_b]; exact hk
    simp only [Za5, hlt, decide_true, cond_true, Z9, hst, v2, Option.bind_some, hk', Bool.not_false]
   ·simp only [bothCols, hk, cond_false, Option.map_none]
  | true =>
   have hk' : (y.fKind == x.fKind) = true := by rw [eq_comm_b]; exact hk
   refine .inr ⟨st.set i { x with fEmpty := x.fEmpty || y.fEmpty }, ⟨?_, ?_⟩, ?_, fun r hr' => ?_⟩
   ·rw [set_drop, ← List.drop_drop, hI.1, List.drop_drop]
   ·rw [List.length_set]; exact hI.2
   ·simp only [Za5, hlt, decide_true, cond_true, Z9, hst, v2, Option.bind_some, hk', Bool.not_true, cond_false, hw, Int.toNat_natCast]
    cases x.fEmpty <;> simp
   ·rw [← both_step (i := i) (by omega) (by omega) hk _ rfl]
    exact hr'
 ·refine ⟨(⟨st, w64 (n1 + n2)⟩, true), ?_, .inr ⟨_, ?_, rfl⟩⟩
  ·rw [hz, hl]
   simp only [Za5, Int.lt_irrefl, decide_false, cond_false]
  ·simp [bothCols]
theorem impl_clone_id {a : List Zb} (ha : Sm a.length) : impl_clone_impl_Column_R a = some a := by
 unfold impl_clone_impl_Column_R Zbg
 cases h : ((a.length : Int)) == 0
 ·rw [app_lt (by simp; omega)]
  simp [slI]
 ·have : a = [] := by
   have : (a.length : Int) = 0 := by simpa using h
   exact List.eq_nil_of_length_eq_zero (by omega)
  subst this
  rfl
end Go.D
set_option linter.unusedVariables false
namespace Go.D
def SmS (s : Zf) : Prop := Sm s.fE.length ∧ (∀ p ∈ s.fE, SmP p) ∧ Sm s.fList.length
def SmSs (ss : List Zf) : Prop := Sm ss.length ∧ ∀ s ∈ ss, SmS s
def stepOf (s : Zf) (a b : List Zb) : Option (List Zb) :=
 bif s.fKind == 2 then (bif exprKind a s.fE == 3 then some a else none)
 else bif s.fKind == 3 then takeRun a s.fList []
 else bif s.fKind == 4 then (bif decide ((a ++ b).length ≤ 4) && exprKind (a ++ b) s.fE == 3 then some (a ++ b) else none)
 else bif s.fKind == 5 then (bif a.length == b.length then bothCols (a.zip b) else none)
 else bif s.fKind == 6 then some a else none
def stepCols (ts : List Zh) (cols : List (List Zb)) (s : Zf) : Option (List Zb) :=
 bif fields s then
  (bif s.fKind == 1 then (bif inR s.fN 0 ((ts.length : Int) - 1) then (getI ts s.fN).map (·.fColumns) else none)
  else bif inR s.fA 0 ((cols.length : Int) - 1) && inR s.fB 0 ((cols.length : Int) - 1) then
   (getI cols s.fA).bind fun a => (getI cols s.fB).bind fun b => stepOf s a b
  else none)
 else none
theorem inR_get {α : Type} {xs : List α} {n : Int} (h : inR n 0 ((xs.length : Int) - 1) = true) : ∃ x, getI xs n = some x ∧ x ∈ xs := by
 unfold inR at h
 simp only [Bool.and_eq_true, decide_eq_true_eq] at h
 obtain ⟨x, h1, h2⟩ := getI_lt (xs := xs) h.1 (by omega)
 exact ⟨x, h1, List.mem_of_getElem? h2⟩
theorem app_nil_l {a : List Zb} (h : Sm a.length) : app [] a = some a := app_lt (by simp; omega)
theorem len_beq {α β : Type} (xs : List α) (ys : List β) : ((xs.length : Int) == (ys.length : Int)) = (xs.length == ys.length) := by
 rw [Bool.eq_iff_iff, beq_iff_eq, beq_iff_eq]
 omega
theorem spec_columns {ts : List Zh} {cols : List (List Zb)} {s : Zf} (hts : SmTs ts) (hl : Sm cols.length) (hc : ∀ c ∈ cols, Sm c.length) (hs : SmS s) :
  ∃ y, spec_l6Columns ts cols s = some y ∧ Yes (stepCols ts cols s) y := by
 have hw1 : w64 ((ts.length : Int) - 1) = (ts.length : Int) - 1 := w64_of (by omega) (by have := hts.1; omega)
 have hw2 : w64 ((cols.length : Int) - 1) = (cols.length : Int) - 1 := w64_of (by omega) (by omega)
 unfold spec_l6Columns stepCols
 simp only [spec_fields, Option.bind_some, spec_in, hw1, hw2]
 cases fields s
 ·exact ⟨_, rfl, .inl ⟨rfl, rfl⟩⟩
 simp only [Bool.not_true, cond_false, cond_true]
 cases h1 : s.fKind == 1
 ·simp only [cond_false]
  cases hA : inR s.fA 0 ((cols.length : Int) - 1)
  ·exact ⟨_, rfl, .inl ⟨rfl, rfl⟩⟩
  cases hB : inR s.fB 0 ((cols.length : Int) - 1)
  ·exact ⟨_, rfl, .inl ⟨rfl, rfl⟩⟩
  obtain ⟨a, a1, a2⟩ := inR_get hA
  obtain ⟨b, b1, b2⟩ := inR_get hB
  simp only [Bool.not_true, cond_false, cond_true, Bool.and_self, spec_l6Columns_j0, a1, b1, Option.bind_some, app_nil_l (hc a a2), stepOf]
  cases s.fKind == 2
  ·simp only [cond_false]
   cases s.fKind == 3
   ·simp only [cond_false]
    cases s.fKind == 4
    ·simp only [cond_false]
     cases s.fKind == 5
     ·simp only [cond_false]
      cases s.fKind == 6
      ·exact ⟨_, rfl, .inl ⟨rfl, rfl⟩⟩
      ·exact ⟨_, rfl, .inr ⟨_, rfl, rfl⟩⟩
     ·simp only [cond_true, len_beq]
      cases he : a.length == b.length
      ·exact ⟨_, rfl, .inl ⟨rfl, rfl⟩⟩
      ·exact spec_both b1 (by simpa using he) (hc a a2)
    ·have h1 := hc a a2
     have h2 := hc b b2
     simp only [cond_true, app_lt (xs := a) (ys := b) (by omega), Option.bind_some, le4]
     cases hd : decide ((a ++ b).length ≤ 4)
     ·exact ⟨_, rfl, .inl ⟨rfl, rfl⟩⟩
     ·have hd := of_decide_eq_true hd
      simp only [cond_true, spec_exprKind (cs := a ++ b) (by omega) hs.1 hs.2.1, Option.bind_some, Bool.true_and]
      cases exprKind (a ++ b) s.fE == 3
      ·exact ⟨_, rfl, .inl ⟨rfl, rfl⟩⟩
      ·exact ⟨_, rfl, .inr ⟨_, rfl, rfl⟩⟩
   ·exact spec_take (hc a a2) hs.2.2
  ·simp only [cond_true, spec_exprKind (hc a a2) hs.1 hs.2.1, Option.bind_some]
   cases exprKind a s.fE == 3
   ·exact ⟨_, rfl, .inl ⟨rfl, rfl⟩⟩
   ·exact ⟨_, rfl, .inr ⟨_, rfl, rfl⟩⟩
 ·simp only [cond_true]
  cases hN : inR s.fN 0 ((ts.length : Int) - 1)
  ·exact ⟨_, rfl, .inl ⟨rfl, rfl⟩⟩
  obtain ⟨t, t1, t2⟩ := inR_get hN
  simp only [Bool.not_true, cond_false, cond_true, t1, Option.bind_some, app_nil_l (hts.2 t t2).1, Option.map_some]
  exact ⟨_, rfl, .inr ⟨_, rfl, rfl⟩⟩
def mostOf (ahead : List Ze) (s : Zf) : Int :=
 bif s.fKind == 1 then 6 else match getI ahead s.fA, getI ahead s.fB with
 | some a, some b => bif s.fKind == 4 then w64 (a.fMost * b.fMost) else bif s.fKind == 5 then w64 (a.fMost + b.fMost) else a.fMost
 | _, _ => 0
def stepMade (ts : List Zh) (ahead : List Ze) (s : Zf) : Option Ze := (stepCols ts (ahead.map (·.fColumns)) s).map fun c => ⟨c, mostOf ahead s⟩
theorem getI_map {α β : Type} (f : α → β) (xs : List α) (n : Int) : getI (xs.map f) n = (getI xs n).map f := by
 unfold getI
 split
 ·rw [List.getElem?_map]
 ·rfl
theorem impl_make {ts : List Zh} {ahead : List Ze} {s : Zf} (hts : SmTs ts) (hl : Sm ahead.length) (hc : ∀ m ∈ ahead, Sm m.fColumns.length) (hs : SmS s) :
  ∃ y, impl_Step_make_L2 s ts ahead = some y ∧ Yes (stepMade ts ahead s) y := by
 have hw1 : w64 ((ts.length : Int) - 1) = (ts.length : Int) - 1 := w64_of (by omega) (by have := hts.1; omega)
 have hw2 : w64 ((ahead.length : Int) - 1) = (ahead.length : Int) - 1 := w64_of (by omega) (by omega)
 unfold impl_Step_make_L2 stepMade stepCols
 simp only [impl_fields, Option.bind_some, impl_in, List.length_map, getI_map]
 cases fields s
 ·exact ⟨_, rfl, .inl ⟨rfl, rfl⟩⟩
 simp only [Bool.not_true, cond_false, cond_true]
 cases h16 : inR s.fKind 1 6
 ·have hk : (s.fKind == 1) = false ∧ (s.fKind == 2) = false ∧ (s.fKind == 3) = false ∧ (s.fKind == 4) = false ∧ (s.fKind == 5) = false ∧ (s.fKind == 6) = false := by
   simp only [inR, Bool.and_eq_false_iff, decide_eq_false_iff_not] at h16
   simp only [beq_eq_false_iff_ne, ne_eq]
   omega
  obtain ⟨k1, k2, k3, k4, k5, k6⟩ := hk
  refine ⟨_, rfl, .inl ⟨?_, rfl⟩⟩
  simp only [k1, k2, k3, k4, k5, k6, cond_false, stepOf]
  cases (inR s.fA 0 ((ahead.length : Int) - 1) && inR s.fB 0 ((ahead.length : Int) - 1))
  ·rfl
  ·cases getI ahead s.fA <;> cases getI ahead s.fB <;> rfl
 simp only [Bool.not_true, impl_Step_make_L2_j0, cond_false, impl_in, hw1, hw2, Option.bind_some, mostOf]
 cases h1 : s.fKind == 1
 ·simp only [cond_false]
  cases hA : inR s.fA 0 ((ahead.length : Int) - 1)
  ·exact ⟨_, rfl, .inl ⟨rfl, rfl⟩⟩
  cases hB : inR s.fB 0 ((ahead.length : Int) - 1)
  ·exact ⟨_, rfl, .inl ⟨rfl, rfl⟩⟩
  obtain ⟨a, a1, a2⟩ := inR_get hA
  obtain ⟨b, b1, b2⟩ := inR_get hB
  simp only [Bool.not_true, cond_false, cond_true, Bool.and_self, impl_Step_make_L2_j1, a1, b1, Option.bind_some, Option.map_some, stepOf]
  cases h2 : s.fKind == 2
  ·simp only [cond_false]
   cases h3 : s.fKind == 3
   ·simp only [cond_false]
    cases h4 : s.fKind == 4
    ·simp only [cond_false]
     cases h5 : s.fKind == 5
     ·simp only [cond_false]
      have h6 : (s.fKind == 6) = true := by
       simp only [inR, Bool.and_eq_true, decide_eq_true_eq] at h16
       simp only [beq_eq_false_iff_ne, ne_eq] at h1 h2 h3 h4 h5
       simp only [beq_iff_eq]
       omega
      rw [h6]
      exact ⟨_, rfl, .inr ⟨_, rfl, rfl⟩⟩
     ·simp only [cond_true, len_beq, impl_clone_id (hc a a2), Option.bind_some]
      cases he : a.fColumns.length == b.fColumns.length
      ·exact ⟨_, rfl, .inl ⟨rfl, rfl⟩⟩
      ·exact impl_both (by simpa using he) (hc a a2)
    ·have g1 := hc a a2
     have g2 := hc b b2
     simp only [cond_true, impl_concat g1 g2, Option.bind_some, le4]
     cases hd : decide ((a.fColumns ++ b.fColumns).length ≤ 4)
     ·exact ⟨_, rfl, .inl ⟨rfl, rfl⟩⟩
     ·have hd := of_decide_eq_true hd
      simp only [cond_true, impl_exprKind (cs := a.fColumns ++ b.fColumns) (by omega) hs.1 hs.2.1, Option.bind_some, Bool.true_and]
      cases exprKind (a.fColumns ++ b.fColumns) s.fE == 3
      ·exact ⟨_, rfl, .inl ⟨rfl, rfl⟩⟩
      ·exact ⟨_, rfl, .inr ⟨_, rfl, rfl⟩⟩
   ·have h4 : (s.fKind == 4) = false := by
     simp only [beq_iff_eq] at h3
     simp [h3]
    have h5 : (s.fKind == 5) = false := by
     simp only [beq_iff_eq] at h3
     simp [h3]
    simp only [h4, h5, cond_false]
    exact impl_take (hc a a2) hs.2.2
  ·have h4 : (s.fKind == 4) = false := by
    simp only [beq_iff_eq] at h2
    simp [h2]
   have h5 : (s.fKind == 5) = false := by
    simp only [beq_iff_eq] at h2
    simp [h2]
   simp only [cond_true, impl_exprKind (hc a a2) hs.1 hs.2.1, Option.bind_some, h4, h5, cond_false]
   cases exprKind a.fColumns s.fE == 3
   ·exact ⟨_, rfl, .inl ⟨rfl, rfl⟩⟩
   ·exact ⟨_, rfl, .inr ⟨_, rfl, rfl⟩⟩
 ·simp only [cond_true]
  cases hN : inR s.fN 0 ((ts.length : Int) - 1)
  ·exact ⟨_, rfl, .inl ⟨rfl, rfl⟩⟩
  obtain ⟨t, t1, t2⟩ := inR_get hN
  simp only [Bool.not_true, cond_false, cond_true, t1, Option.bind_some, Option.map_some]
  exact ⟨_, rfl, .inr ⟨_, rfl, rfl⟩⟩
end Go.D
set_option linter.unusedVariables false
namespace Go.D
def planRun (ts : List Zh) : List Zf → List Ze → Option (List Ze)
 | [], ahead => some ahead
 | s :: ss, ahead => match stepMade ts ahead s with
  | none => none
  | some m => bif decide (m.fMost > 300) then none else planRun ts ss (ahead ++ [m])
def planOk (ts : List Zh) (ss : List Zf) : Bool := (planRun ts ss []).isSome && (tabsOk ts && inR (ss.length : Int) 1 6)
theorem takeRun_len {a : List Zb} : ∀ {ns : List Int} {acc c : List Zb}, takeRun a ns acc = some c → c.length ≤ 4
 | [], acc, c, h => by
  unfold takeRun at h
  cases hd : decide (acc.length ≤ 4) with
  | false => rw [hd] at h; cases h
  | true => rw [hd] at h; cases h; exact of_decide_eq_true hd
 | n :: ns, acc, c, h => by
  unfold takeRun at h
  cases hin : inR n 0 ((a.length : Int) - 1) with
  | false => rw [hin] at h; cases h
  | true =>
   rw [hin, cond_true] at h
   split at h
   ·exact takeRun_len h
   ·cases h
theorem bothCols_len : ∀ {ps : List (Zb × Zb)} {c : List Zb}, bothCols ps = some c → c.length = ps.length
 | [], c, h => by cases h; rfl
 | (x, y) :: r, c, h => by
  unfold bothCols at h
  cases hk : x.fKind == y.fKind with
  | false => rw [hk] at h; cases h
  | true =>
   rw [hk, cond_true, Option.map_eq_some_iff] at h
   obtain ⟨u, h1, rfl⟩ := h
   simp [bothCols_len h1]
theorem bifN {α : Type} {c : Bool} {a : Option α} {y : α} (h : (bif c then a else none) = some y) : c = true ∧ a = some y := by
 cases c
 ·cases h
 ·exact ⟨rfl, h⟩
theorem stepOf_len {s : Zf} {a b c : List Zb} (ha : Sm a.length) (h : stepOf s a b = some c) : Sm c.length := by
 unfold stepOf at h
 cases h2 : s.fKind == 2
 ·rw [h2, cond_false] at h
  cases h3 : s.fKind == 3
  ·rw [h3, cond_false] at h
   cases h4 : s.fKind == 4
   ·rw [h4, cond_false] at h
    cases h5 : s.fKind == 5
    ·rw [h5, cond_false] at h
     cases (bifN h).2
     exact ha
    ·rw [h5, cond_true] at h
     have := bothCols_len (bifN h).2
     rw [List.length_zip] at this
     omega
   ·rw [h4, cond_true] at h
    obtain ⟨h6, h7⟩ := bifN h
    cases h7
    simp only [Bool.and_eq_true, decide_eq_true_eq] at h6
    omega
  ·rw [h3, cond_true] at h
   have := takeRun_len h
   omega
 ·rw [h2, cond_true] at h
  cases (bifN h).2
  exact ha
theorem getI_mem {α : Type} {xs : List α} {n : Int} {x : α} (h : getI xs n = some x) : x ∈ xs := List.mem_of_getElem? (getI_spec h).2.2
theorem stepCols_len {ts : List Zh} {cols : List (List Zb)} {s : Zf} {c : List Zb} (hts : SmTs ts) (hc : ∀ c ∈ cols, Sm c.length) (h : stepCols ts cols s = some c) : Sm c.length := by
 unfold stepCols at h
 obtain ⟨_, h⟩ := bifN h
 cases h1 : s.fKind == 1
 ·rw [h1, cond_false] at h
  obtain ⟨_, h⟩ := bifN h
  obtain ⟨a, ha, h⟩ := bindS h
  obtain ⟨b, hb, h⟩ := bindS h
  exact stepOf_len (hc a (getI_mem ha)) h
 ·rw [h1, cond_true] at h
  obtain ⟨_, h⟩ := bifN h
  rw [Option.map_eq_some_iff] at h
  obtain ⟨t, ht, rfl⟩ := h
  exact (hts.2 t (getI_mem ht)).1
theorem spec_made {ts : List Zh} {ahead : List Ze} {s : Zf} {c : List Zb} (h : stepCols ts (ahead.map (·.fColumns)) s = some c) : spec_l6Made (ahead.map (·.fMost)) s = some (mostOf ahead s) := by
 unfold stepCols at h
 obtain ⟨_, h⟩ := bifN h
 unfold spec_l6Made mostOf
 cases h1 : s.fKind == 1
 ·rw [h1, cond_false] at h
  obtain ⟨_, h⟩ := bifN h
  obtain ⟨a, ha, h⟩ := bindS h
  obtain ⟨b, hb, h⟩ := bindS h
  rw [getI_map, Option.map_eq_some_iff] at ha hb
  obtain ⟨x, hx, rfl⟩ := ha
  obtain ⟨y, hy, rfl⟩ := hb
  simp only [cond_false, getI_map, hx, hy, Option.map_some, Option.bind_some]
  cases s.fKind == 4 <;> cases s.fKind == 5 <;> rfl
 ·rfl
theorem spec_all {ts : List Zh} {ss : List Zf} (hts : SmTs ts) (hss : SmSs ss) : ∃ y, spec_l6All ts ss = some y ∧ Yes ((planRun ts ss []).map fun l => l.map (·.fColumns)) y := by
 have hl := hss.1
 unfold spec_l6All
 refine loop_q (xs := ss) (L := fun f i (ahead : List Ze) => spec_l6All_l0 ts ss f i (ahead.map (·.fColumns)) (ahead.map (·.fMost))) (fun ss ahead y => Yes ((planRun ts ss ahead).map fun l => l.map (·.fColumns)) y)
  (fun i ahead => ahead.length = i ∧ ∀ m ∈ ahead, Sm m.fColumns.length) (by omega) (fun f i ahead v rest hr hi hv hw hI => ?_) (fun f ahead hI => ?_) (s := ([] : List Ze)) ⟨rfl, fun m hm => by cases hm⟩
 ·have hlt : (i : Int) < ss.length := by omega
  have hcs : ∀ c ∈ ahead.map (·.fColumns), Sm c.length := fun c hc => by
   obtain ⟨m, hm, rfl⟩ := List.mem_map.1 hc
   exact hI.2 m hm
  obtain ⟨y, h1, h2⟩ := spec_columns (cols := ahead.map (·.fColumns)) (s := v) hts (by rw [List.length_map]; omega) hcs (hss.2 v (List.mem_of_getElem? hv))
  rcases h2 with ⟨h2, h3⟩ | ⟨c, h2, rfl⟩
  ·refine .inl ⟨([], false), ?_, .inl ⟨?_, rfl⟩⟩
   ·simp only [spec_l6All_l0, hlt, decide_true, cond_true, Z9, hv, Option.bind_some, h1, h3, Bool.not_false]
   ·simp only [planRun, stepMade, h2, Option.map_none]
  ·have hm := spec_made h2
   have hlen : (ahead.map (·.fMost)).length = i := by rw [List.length_map]; exact hI.1
   have a1 : app (ahead.map (·.fColumns)) [c] = some (ahead.map (·.fColumns) ++ [c]) := app_lt (by rw [List.length_map]; simp; omega)
   have a2 : app (ahead.map (·.fMost)) [mostOf ahead v] = some (ahead.map (·.fMost) ++ [mostOf ahead v]) := app_lt (by rw [List.length_map]; simp; omega)
   have g : (ahead.map (·.fMost) ++ [mostOf ahead v])[i]? = some (mostOf ahead v) := by
    rw [List.getElem?_append_right (by omega), hlen]
    simp
   cases hmost : decide (mostOf ahead v > 300) with
   | true =>
    refine .inl ⟨([], false), ?_, .inl ⟨?_, rfl⟩⟩
    ·simp only [spec_l6All_l0, hlt, decide_true, cond_true, Z9, hv, Option.bind_some, h1, Bool.not_true, cond_false, a1, hm, a2, g, hmost]
    ·simp only [planRun, stepMade, h2, Option.map_some, hmost, cond_true, Option.map_none]
   | false =>
    refine .inr ⟨ahead ++ [⟨c, mostOf ahead v⟩], ⟨by simp [hI.1], fun m hm => ?_⟩, ?_, fun y hy => ?_⟩
    ·rcases List.mem_append.1 hm with hm | hm
     ·exact hI.2 m hm
     ·have : m = ⟨c, mostOf ahead v⟩ := by simpa using hm
      subst this
      exact stepCols_len hts hcs h2
    ·simp only [spec_l6All_l0, hlt, decide_true, cond_true, Z9, hv, Option.bind_some, h1, Bool.not_true, cond_false, a1, hm, a2, g, hmost, hw, List.map_append, List.map_cons, List.map_nil]
    ·simp only [planRun, stepMade, h2, Option.map_some, hmost, cond_false]
     exact hy
 ·refine ⟨(ahead.map (·.fColumns), true), ?_, .inr ⟨_, rfl, rfl⟩⟩
  simp only [spec_l6All_l0, Int.lt_irrefl, decide_false, cond_false]
theorem impl_run {ts : List Zh} {ss : List Zf} (hts : SmTs ts) (hss : SmSs ss) : ∃ y, impl_makes_l1 ts ss FUEL 0 [] = some y ∧ Yes (planRun ts ss []) y := by
 have hl := hss.1
 refine loop_q (xs := ss) (L := fun f i (ahead : List Ze) => impl_makes_l1 ts ss f i ahead) (fun ss ahead y => Yes (planRun ts ss ahead) y)
  (fun i ahead => ahead.length = i ∧ ∀ m ∈ ahead, Sm m.fColumns.length) (by omega) (fun f i ahead v rest hr hi hv hw hI => ?_) (fun f ahead hI => ?_) (s := ([] : List Ze)) ⟨rfl, fun m hm => by cases hm⟩
 ·have hlt : (i : Int) < ss.length := by omega
  have hcs : ∀ c ∈ ahead.map (·.fColumns), Sm c.length := fun c hc => by
   obtain ⟨m, hm, rfl⟩ := List.mem_map.1 hc
   exact hI.2 m hm
  obtain ⟨y, h1, h2⟩ := impl_make (ahead := ahead) (s := v) hts (by omega) hI.2 (hss.2 v (List.mem_of_getElem? hv))
  rcases h2 with ⟨h2, h3⟩ | ⟨m, h2, rfl⟩
  ·refine .inl ⟨([], false), ?_, .inl ⟨?_, rfl⟩⟩
   ·simp only [impl_makes_l1, hlt, decide_true, cond_true, Z9, hv, Option.bind_some, h1, h3, Bool.not_false, impl_makes_j2]
   ·simp only [planRun, h2]
  ·have a1 : app ahead [m] = some (ahead ++ [m]) := app_lt (by simp; omega)
   cases hmost : decide (m.fMost > 300) with
   | true =>
    refine .inl ⟨([], false), ?_, .inl ⟨?_, rfl⟩⟩
    ·simp only [impl_makes_l1, hlt, decide_true, cond_true, Z9, hv, Option.bind_some, h1, Bool.not_true, cond_false, impl_makes_j2, hmost]
    ·simp only [planRun, h2, hmost, cond_true]
   | false =>
    refine .inr ⟨ahead ++ [m], ⟨by simp [hI.1], fun m' hm => ?_⟩, ?_, fun y hy => ?_⟩
    ·rcases List.mem_append.1 hm with hm | hm
     ·exact hI.2 m' hm
     ·have : m' = m := by simpa using hm
      subst this
      unfold stepMade at h2
      rw [Option.map_eq_some_iff] at h2
      obtain ⟨c, hc, rfl⟩ := h2
      exact stepCols_len hts hcs hc
    ·simp only [impl_makes_l1, hlt, decide_true, cond_true, Z9, hv, Option.bind_some, h1, Bool.not_true, cond_false, impl_makes_j2, hmost, a1, hw]
    ·simp only [planRun, h2, hmost, cond_false]
     exact hy
 ·refine ⟨(ahead, true), ?_, .inr ⟨_, rfl, rfl⟩⟩
  simp only [impl_makes_l1, Int.lt_irrefl, decide_false, cond_false]
theorem Yes.two {γ : Type} {m : Option γ} {y : γ × Bool} (h : Yes m y) : y.2 = m.isSome := by
 rcases h with ⟨rfl, h⟩ | ⟨c, rfl, rfl⟩
 ·exact h
 ·rfl
theorem spec_planOk {ts : List Zh} {ss : List Zf} (hts : SmTs ts) (hss : SmSs ss) : spec_PlanOk ts ss = some (planOk ts ss) := by
 obtain ⟨y, h1, h2⟩ := spec_all hts hss
 have h3 := h2.two
 unfold spec_PlanOk planOk
 rw [h1, Option.bind_some, h3, Option.isSome_map]
 simp only [spec_tabsOk hts, Option.bind_some, spec_in]
 cases (planRun ts ss []).isSome <;> cases tabsOk ts <;> rfl
end Go.D
set_option linter.unusedVariables false
namespace Go.D
theorem planRun_len {ts : List Zh} : ∀ {ss : List Zf} {ahead l : List Ze}, planRun ts ss ahead = some l → l.length = ahead.length + ss.length
 | [], ahead, l, h => by cases h; simp
 | s :: ss, ahead, l, h => by
  unfold planRun at h
  split at h
  ·cases h
  ·rename_i m hm
   cases hd : decide (m.fMost > 300) with
   | true => rw [hd] at h; cases h
   | false =>
    rw [hd, cond_false] at h
    have := planRun_len h
    simp at this ⊢
    omega
theorem stepOf_len4 {s : Zf} {a b c : List Zb} (ha : a.length ≤ 4) (h : stepOf s a b = some c) : c.length ≤ 4 := by
 unfold stepOf at h
 cases h2 : s.fKind == 2
 ·rw [h2, cond_false] at h
  cases h3 : s.fKind == 3
  ·rw [h3, cond_false] at h
   cases h4 : s.fKind == 4
   ·rw [h4, cond_false] at h
    cases h5 : s.fKind == 5
    ·rw [h5, cond_false] at h
     cases (bifN h).2
     exact ha
    ·rw [h5, cond_true] at h
     have := bothCols_len (bifN h).2
     rw [List.length_zip] at this
     omega
   ·rw [h4, cond_true] at h
    obtain ⟨h6, h7⟩ := bifN h
    cases h7
    simp only [Bool.and_eq_true, decide_eq_true_eq] at h6
    omega
  ·rw [h3, cond_true] at h
   exact takeRun_len h
 ·rw [h2, cond_true] at h
  cases (bifN h).2
  exact ha
theorem tab_len4 {ts : List Zh} (h : tabsOk ts = true) {t : Zh} (ht : t ∈ ts) : t.fColumns.length ≤ 4 := by
 unfold tabsOk at h
 simp only [Bool.and_eq_true] at h
 have := List.all_eq_true.1 h.1 t ht
 unfold tabOk rowsOk colsOk at this
 simp only [Bool.and_eq_true, decide_eq_true_eq] at this
 exact this.2.1.2
theorem stepCols_len4 {ts : List Zh} {cols : List (List Zb)} {s : Zf} {c : List Zb} (hts : tabsOk ts = true) (hc : ∀ c ∈ cols, c.length ≤ 4) (h : stepCols ts cols s = some c) : c.length ≤ 4 := by
 unfold stepCols at h
 obtain ⟨_, h⟩ := bifN h
 cases h1 : s.fKind == 1
 ·rw [h1, cond_false] at h
  obtain ⟨_, h⟩ := bifN h
  obtain ⟨a, ha, h⟩ := bindS h
  obtain ⟨b, hb, h⟩ := bindS h
  exact stepOf_len4 (hc a (getI_mem ha)) h
 ·rw [h1, cond_true] at h
  obtain ⟨_, h⟩ := bifN h
  rw [Option.map_eq_some_iff] at h
  obtain ⟨t, ht, rfl⟩ := h
  exact tab_len4 hts (getI_mem ht)
theorem planRun_len4 {ts : List Zh} (hts : tabsOk ts = true) : ∀ {ss : List Zf} {ahead l : List Ze}, (∀ m ∈ ahead, m.fColumns.length ≤ 4) → planRun ts ss ahead = some l → ∀ m ∈ l, m.fColumns.length ≤ 4
 | [], ahead, l, ha, h => by cases h; exact ha
 | s :: ss, ahead, l, ha, h => by
  unfold planRun at h
  split at h
  ·cases h
  ·rename_i m hm
   cases hd : decide (m.fMost > 300) with
   | true => rw [hd] at h; cases h
   | false =>
    rw [hd, cond_false] at h
    refine planRun_len4 hts (fun m' hm' => ?_) h
    rcases List.mem_append.1 hm' with hm' | hm'
    ·exact ha m' hm'
    ·have : m' = m := by simpa using hm'
     subst this
     unfold stepMade at hm
     rw [Option.map_eq_some_iff] at hm
     obtain ⟨c, hc, rfl⟩ := hm
     refine stepCols_len4 hts (fun c' hc' => ?_) hc
     obtain ⟨m2, hm2, rfl⟩ := List.mem_map.1 hc'
     exact ha m2 hm2
def planCols (ts : List Zh) (ss : List Zf) : List Zb := bif planOk ts ss then (((planRun ts ss []).getD [])[ss.length - 1]?.map (·.fColumns)).getD [] else []
theorem planOk_run {ts : List Zh} {ss : List Zf} (h : planOk ts ss = true) : ∃ l m, planRun ts ss [] = some l ∧ l.length = ss.length ∧ l[ss.length - 1]? = some m ∧ planCols ts ss = m.fColumns ∧ m.fColumns.length ≤ 4 ∧ tabsOk ts = true ∧ inR (ss.length : Int) 1 6 = true := by
 have h0 := h
 unfold planOk at h
 simp only [Bool.and_eq_true] at h
 obtain ⟨h1, h2, h3⟩ := h
 obtain ⟨l, hl⟩ := Option.isSome_iff_exists.1 h1
 have hlen := planRun_len hl
 simp at hlen
 have hp : 1 ≤ ss.length := by
  unfold inR at h3
  simp only [Bool.and_eq_true, decide_eq_true_eq] at h3
  omega
 have hi : ss.length - 1 < l.length := by omega
 have hm : l[ss.length - 1]? = some l[ss.length - 1] := List.getElem?_eq_getElem hi
 refine ⟨l, l[ss.length - 1], hl, hlen, hm, ?_, planRun_len4 h2 (fun m hm => by cases hm) hl _ (List.getElem_mem hi), h2, h3⟩
 unfold planCols
 rw [h0, cond_true, hl, Option.getD_some, hm]
 rfl
theorem spec_planCols {ts : List Zh} {ss : List Zf} (hts : SmTs ts) (hss : SmSs ss) : spec_PlanColumns ts ss = some (planCols ts ss) := by
 unfold spec_PlanColumns
 rw [spec_planOk hts hss, Option.bind_some]
 cases hp : planOk ts ss with
 | false => simp only [Bool.not_false, cond_true, planCols, hp, cond_false]
 | true =>
  obtain ⟨l, m, h1, h2, h3, h4, h5, h6, h7⟩ := planOk_run hp
  obtain ⟨y, e1, e2⟩ := spec_all hts hss
  rw [h1, Option.map_some] at e2
  rcases e2 with ⟨e2, _⟩ | ⟨c, e2, rfl⟩
  ·cases e2
  ·cases e2
   have hp1 : 1 ≤ ss.length := by
    unfold inR at h7
    simp only [Bool.and_eq_true, decide_eq_true_eq] at h7
    omega
   have hw : w64 ((ss.length : Int) - 1) = ((ss.length - 1 : Nat) : Int) := by
    rw [w64_of (by omega) (by have := hss.1; omega)]
    omega
   simp only [Bool.not_true, cond_false, e1, Option.bind_some, hw, Z9, List.getElem?_map, h3, Option.map_some]
   rw [app_nil_l (by omega), Option.bind_some, h4]
theorem planCols_len {ts : List Zh} {ss : List Zf} : (planCols ts ss).length ≤ 4 := by
 cases hp : planOk ts ss with
 | false => simp [planCols, hp]
 | true =>
  obtain ⟨l, m, h1, h2, h3, h4, h5, h6, h7⟩ := planOk_run hp
  rw [h4]
  exact h5
end Go.D
set_option linter.unusedVariables false
namespace Go.D
structure TbFit (t : Zh) : Prop where
 c : colsOk t.fColumns = true
 r : Fn 6 t.fColumns t.fRows
theorem TbFit.sm {t : Zh} (h : TbFit t) : SmT t := ⟨by
 have := h.c
 unfold colsOk at this
 simp only [Bool.and_eq_true, decide_eq_true_eq] at this
 omega, h.r.srn.sm (by omega)⟩
structure TsFit (ts : List Zh) : Prop where
 l : 1 ≤ ts.length
 u : ts.length ≤ 3
 t : ∀ t ∈ ts, TbFit t
theorem TsFit.sm {ts : List Zh} (h : TsFit ts) : SmTs ts := ⟨by have := h.u; omega, fun t ht => (h.t t ht).sm⟩
theorem TsFit.ok {ts : List Zh} (h : TsFit ts) : tabsOk ts = true := by
 unfold tabsOk
 simp only [Bool.and_eq_true, List.all_eq_true, decide_eq_true_eq]
 refine ⟨fun t ht => ?_, h.u⟩
 have := h.t t ht
 unfold tabOk
 rw [this.r.rows this.c, decide_eq_true this.r.1]
 rfl
theorem kc_cols {cs : List Zb} (h : KC cs) (hl : cs.length ≤ 4) : colsOk cs = true := by
 unfold colsOk
 rw [List.all_eq_true.2 h, decide_eq_true hl]
 rfl
theorem tables_fit {n : Int} {r : Zc} (h : RdOk n r) (hn : n ≤ 500000) : Wp (spec_l20Tables r 0) fun ts r' => RdOk (n + 811) r' ∧ TsFit ts := by
 unfold spec_l20Tables
 refine wp_pick h (by omega) fun v r1 h1 v0 _ v1 => ?_
 have v1 := v1 (by omega)
 have e : w64 (1 + v) = ((v.toNat + 1 : Nat) : Int) := by rw [w64_of (by omega) (by omega)]; omega
 simp only
 rw [e]
 exact loop_down (L := fun f i (s : Zc × List Zh) => spec_l20Tables_l0 0 f i s.1 s.2) (Q := fun ts r' => RdOk (n + 811) r' ∧ TsFit ts)
  (fun k s => RdOk (n + 1 + 270 * (3 - k)) s.1 ∧ s.2.length + k = v.toNat + 1 ∧ ∀ t ∈ s.2, TbFit t)
  (fun f k s hk hw hI hrec => by
   obtain ⟨r, ts⟩ := s
   obtain ⟨i1, i2, i3⟩ := hI
   simp only at i1 i2 i3 ⊢
   rw [spec_l20Tables_l0, decide_eq_true (by omega), cond_true]
   refine wp_then (columns_fit i1 (by omega)) fun cs r2 q2 => wp_pick q2.1 (by omega) fun k2 r3 g3 p0 _ p1 => ?_
   have p1 := p1 (by omega)
   obtain ⟨m, em, m0, m1⟩ := remI_pos (a := k2) (b := (cs.length : Int)) p0 (by have := q2.2.1.1; omega)
   have m2 : m ≤ 1 := by
    unfold remI at em
    split at em
    ·cases em
    ·have := Option.some.inj em
     rw [Int.tmod_eq_emod_of_nonneg p0] at this
     by_cases hlt : k2 < (cs.length : Int)
     ·rw [Int.emod_eq_of_lt p0 hlt] at this
      omega
     ·omega
   have e2 : w64 (1 + m) = 1 + m := w64_of (by omega) (by have := q2.2.1.2; omega)
   have e3 : slI cs none (some (1 + m)) none = some (cs.take (1 + m).toNat) := by
    unfold slI
    rw [if_pos (by simp only [Option.getD_none, Option.getD_some]; omega)]
    simp
   simp only [em, Option.bind_some, e2, e3]
   have hcl : (cs.take (1 + m).toNat).length ≤ 2 := by
    rw [List.length_take]
    omega
   have kc : KC (cs.take (1 + m).toNat) := q2.2.2.take _
   refine wp_then (bag_fit g3 (by omega) (by omega) kc) fun rows r4 q4 => wp_app (by simp; omega) ?_
   simp only [hw]
   refine hrec (r4, _) ⟨q4.1.up (by omega), by simp; omega, fun t ht => ?_⟩
   rcases List.mem_append.1 ht with ht | ht
   ·exact i3 t ht
   ·have : t = ⟨cs.take (1 + m).toNat, rows⟩ := by simpa using ht
    rw [this]
    exact ⟨kc_cols kc (by simp only; omega), q4.2⟩)
  (fun f s hI => by
   obtain ⟨r, ts⟩ := s
   obtain ⟨i1, i2, i3⟩ := hI
   simp only at i1 i2 i3 ⊢
   rw [spec_l20Tables_l0, decide_eq_false (by omega), cond_false]
   exact wp_odd0 (wp_some ⟨i1.up (by omega), by omega, by omega, i3⟩))
  (v.toNat + 1) (r1, []) ⟨h1.up (by omega), by simp, fun t ht => by cases ht⟩ (by omega)
theorem allL_l0 (ts : List Zh) (ss : List Zf) : ∀ f, spec_l6All_L1_l0 ts ss f = spec_l6All_l0 ts ss f
 | 0 => by funext i a b; rfl
 | f + 1 => by funext i a b; rw [spec_l6All_L1_l0, spec_l6All_l0, allL_l0 ts ss f]
theorem allL : spec_l6All_L1 = spec_l6All := by
 funext ts ss
 unfold spec_l6All_L1 spec_l6All
 rw [allL_l0]
structure StOk (s : Zf) : Prop where
 e : ExOk 100 s.fE
 l : s.fList.length ≤ 10
theorem StOk.sm {s : Zf} (h : StOk s) : SmS s := ⟨by have := h.e.1; omega, h.e.2, by have := h.l; omega⟩
theorem ex_nil : ExOk 100 [] := ⟨Nat.zero_le _, fun p hp => by cases hp⟩
structure PlOk (ts : List Zh) (ss : List Zf) : Prop where
 l : 1 ≤ ss.length
 u : ss.length ≤ 6
 s : ∀ s ∈ ss, StOk s
 r : (planRun ts ss []).isSome = true
theorem st_sm {ss : List Zf} (h : ∀ s ∈ ss, StOk s) (hl : ss.length ≤ 1000) : SmSs ss := ⟨by omega, fun s hs => (h s hs).sm⟩
theorem PlOk.sm {ts : List Zh} {ss : List Zf} (h : PlOk ts ss) : SmSs ss := st_sm h.s (by have := h.u; omega)
section
variable {ts : List Zh} (ht : TsFit ts)
include ht
theorem all_run {ss : List Zf} (hs : ∀ s ∈ ss, StOk s) (hl : ss.length ≤ 1000) : ∃ y, spec_l6All_L1 ts ss = some y ∧ y.2 = (planRun ts ss []).isSome ∧ (y.2 = true → y.1.length = ss.length ∧ ∀ c ∈ y.1, c.length ≤ 4) := by
 obtain ⟨y, h1, h2⟩ := spec_all ht.sm (st_sm hs hl)
 rw [allL]
 refine ⟨y, h1, ?_, fun hy => ?_⟩
 ·have := h2.two
  rw [this, Option.isSome_map]
 ·rcases h2 with ⟨_, h2⟩ | ⟨c, h2, rfl⟩
  ·rw [h2] at hy; cases hy
  ·obtain ⟨l, hr, rfl⟩ := Option.map_eq_some_iff.1 h2
   refine ⟨by simpa using planRun_len hr, fun c hc => ?_⟩
   obtain ⟨m, hm, rfl⟩ := List.mem_map.1 hc
   exact planRun_len4 ht.ok (fun m hm => by cases hm) hr m hm
theorem plan_j3 {K : Int → Zc → List Zf → Option ((List Zf) × Zc)} {Q : List Zf → Zc → Prop} {r : Zc} {ss : List Zf} {s : Zf} {x : Int} (hp : PlOk ts ss) (hl : ss.length ≤ 5) (hs : StOk s) (hK : ∀ ss', PlOk ts ss' → ss'.length ≤ ss.length + 1 → Wp (K (w64 (x - 1)) r ss') Q) : Wp (spec_l20Plan_j3 ts x ss K r s) Q := by
 unfold spec_l20Plan_j3
 have hss : ∀ u ∈ ss ++ [s], StOk u := fun u hu => (List.mem_append.1 hu).elim (hp.s u) fun h => by
  have : u = s := by simpa using h
  rw [this]; exact hs
 have h1 := hp.l
 obtain ⟨y, e, ey, _⟩ := all_run ht hss (by simp; omega)
 rw [app_lt (by simp; omega), Option.bind_some, List.nil_append, app_lt (by simp; omega), Option.bind_some, e, Option.bind_some]
 cases hy : y.2 with
 | false => exact hK ss hp (by omega)
 | true =>
  rw [cond_true, Option.bind_some]
  exact hK _ ⟨by simp, by simp; omega, hss, by rw [← ey, hy]⟩ (by simp)
variable {n M : Int} {ss : List Zf} {K : Int → Zc → List Zf → Option ((List Zf) × Zc)} {Q : List Zf → Zc → Prop} {x : Int} (hp : PlOk ts ss) (hl : ss.length ≤ 5) (hK : ∀ r ss', RdOk M r → PlOk ts ss' → ss'.length ≤ ss.length + 1 → Wp (K (w64 (x - 1)) r ss') Q) (hM : M ≤ 100000)
 {y : (List (List Zb)) × Bool} (yl : y.1.length = ss.length) (yc : ∀ c ∈ y.1, c.length ≤ 4)
include hp hl hK hM yl yc
omit yc in
theorem plan_l4 {a : Int} (a0 : 0 ≤ a) (a1 : a < ss.length) : ∀ (k f : Nat) (m : Int) (r : Zc) (xs : List Int), k ≤ 3 → k < f → RdOk m r → m + k ≤ M → xs.length + k ≤ 3 → Wp (spec_l20Plan_l4 ts x ss K y a f ((k : Int) - 1) r xs) Q
 | 0, 0, _, _, _, _, h, _, _, _ => absurd h (Nat.lt_irrefl 0)
 | k + 1, 0, _, _, _, _, h, _, _, _ => absurd h (Nat.not_lt_zero _)
 | 0, f + 1, m, r, xs, _, _, hr, hm, hx => by
  rw [spec_l20Plan_l4, decide_eq_false (by omega), cond_false, spec_l20Plan_j5, cond_false]
  exact plan_j3 ht hp hl ⟨ex_nil, by simp only; omega⟩ fun ss' h1 h2 => hK r ss' (hr.up (by omega)) h1 h2
 | k + 1, f + 1, m, r, xs, hk, hf, hr, hm, hx => by
  rw [spec_l20Plan_l4, decide_eq_true (by omega), cond_true]
  refine wp_getI a0 (by omega) fun c hc => ?_
  unfold spec_l20Plan_j5
  refine wp_bif (fun _ => wp_getI a0 (by omega) fun c hc => wp_pick hr (by omega) fun p r2 g2 _ _ _ => wp_app (by simp; omega) ?_) fun _ => plan_j3 ht hp hl ⟨ex_nil, by simp only; omega⟩ fun ss' h1 h2 => hK r ss' (hr.up (by omega)) h1 h2
  have e : w64 (((k + 1 : Nat) : Int) - 1 - 1) = (k : Int) - 1 := by rw [w64_of (by omega) (by omega)]; omega
  rw [e]
  exact plan_l4 a0 a1 k f (m + 1) r2 _ (by omega) (by omega) g2 (by omega) (by simp; omega)
theorem plan_j6 {a m : Int} (a0 : 0 ≤ a) (a1 : a < ss.length) {v23 v36 : Int × Zc} (hr : RdOk m v36.2) (hm : m + 122 ≤ M) (b : Bool) : Wp (spec_l20Plan_j6 ts x ss K y a v23 v36 b) Q := by
 have c2 : costE 2 = 120 := rfl
 have l2 : lenE 2 = 10 := rfl
 have h1 := hp.l
 have tab : ∀ (r : Zc) (m2 : Int), RdOk m2 r → m2 ≤ M → ∀ k N A B, Wp (spec_l20Plan_j3 ts x ss K r (Zf.mk k A B N [] [])) Q := fun r m2 hr hm k N A B => plan_j3 ht hp hl ⟨ex_nil, Nat.zero_le _⟩ fun ss' h1 h2 => hK r ss' (hr.up hm) h1 h2
 unfold spec_l20Plan_j6
 refine wp_bif (fun _ => ?_) fun _ => wp_bif (fun _ => ?_) fun _ => wp_bif (fun _ => tab _ _ hr (by omega) _ _ _ _) fun _ => tab _ _ hr (by omega) _ _ _ _
 ·refine wp_pick hr (by omega) fun p r2 g2 p0 _ p1 => wp_getI a0 (by omega) fun c hc => wp_app (by have := yc c hc; simp; omega) (wp_getI p0 (by have := p1 (by omega); omega) fun d hd => wp_app (by have := yc c hc; have := yc d hd; simp; omega) (wp_bif (fun hle => ?_) fun _ => tab _ _ g2 (by omega) _ _ _ _))
  have hle := of_decide_eq_true hle
  refine wp_then (expr_ok (cs := [] ++ c ++ d) (by omega) 2 FUEL _ _ 3 2 (by omega) (by unfold FUEL; omega) (by omega) (by omega) g2 (by omega)) fun e r3 q3 => ?_
  exact plan_j3 ht hp hl ⟨q3.2.up (by omega), Nat.zero_le _⟩ fun ss' h1 h2 => hK _ ss' (q3.1.up (by omega)) h1 h2
 ·exact loop_up (xs := ss) (L := fun f i (s : Zf) => spec_l20Plan_l7 ts x ss K y a v36 f i s) (Q := Q) (fun i s => StOk s) (by omega)
   (fun f i s v hi hv hw hI hrec => by
    rw [spec_l20Plan_l7, decide_eq_true (by omega), cond_true]
    have hst : StOk (Zf.mk 5 a i 0 [] []) := ⟨ex_nil, Nat.zero_le _⟩
    obtain ⟨z, ez, _⟩ := spec_columns (cols := y.1) (s := Zf.mk 5 a i 0 [] []) ht.sm (by omega) (fun c hc => by have := yc c hc; omega) hst.sm
    rw [ez, Option.bind_some]
    unfold spec_l20Plan_j8
    rw [hw]
    exact wp_bif (fun _ => hrec _ hst) fun _ => hrec _ hI)
   (fun f s hI => by
    rw [spec_l20Plan_l7, decide_eq_false (Int.lt_irrefl _), cond_false]
    exact plan_j3 ht hp hl hI fun ss' h1 h2 => hK _ ss' (hr.up (by omega)) h1 h2) _ ⟨ex_nil, Nat.zero_le _⟩
theorem plan_j2 {a m : Int} (a0 : 0 ≤ a) (a1 : a < ss.length) {v20 : Int × Zc} (hr : RdOk m v20.2) (hm : m + 125 ≤ M) : Wp (spec_l20Plan_j2 ts x ss K y v20 a) Q := by
 have c2 : costE 2 = 120 := rfl
 have l2 : lenE 2 = 10 := rfl
 unfold spec_l20Plan_j2
 refine wp_pick hr (by omega) fun p r2 g2 _ _ _ => wp_pick g2 (by omega) fun q r3 g3 q0 _ q1 => wp_bif (fun _ => ?_) fun _ => wp_bif (fun _ => ?_) fun _ => ?_
 ·refine wp_getI a0 (by omega) fun c hc => wp_then (expr_ok (cs := c) (by have := yc c hc; omega) 2 FUEL _ _ 3 2 (by omega) (by unfold FUEL; omega) (by omega) (by omega) g3 (by omega)) fun e r4 q4 => ?_
  exact plan_j3 ht hp hl ⟨q4.2.up (by omega), Nat.zero_le _⟩ fun ss' h1 h2 => hK _ ss' (q4.1.up (by omega)) h1 h2
 ·refine wp_pick g3 (by omega) fun j r4 g4 j0 _ j1 => ?_
  have j1 := j1 (by omega)
  have e : j = (((j.toNat + 1 : Nat) : Int) - 1) := by omega
  simp only
  rw [e]
  exact plan_l4 ht hp hl hK hM yl a0 a1 (j.toNat + 1) FUEL _ r4 [] (by omega) (by unfold FUEL; omega) g4 (by omega) (by simp; omega)
 ·exact wp_bif (fun _ => plan_j6 ht hp hl hK hM yl yc a0 a1 g3 (by omega) _) fun _ => plan_j6 ht hp hl hK hM yl yc a0 a1 g3 (by omega) _
end
theorem plan_fit {n : Int} {r : Zc} {ts : List Zh} (ht : TsFit ts) (h : RdOk n r) (hn : n ≤ 90000) : Wp (spec_l20Plan r ts) fun ss r' => RdOk (n + 700) r' ∧ PlOk ts ss := by
 have hl := ht.l
 unfold spec_l20Plan
 refine wp_pick h (by omega) fun N r1 h1 n0 _ n1 => wp_pick h1 (by omega) fun v r2 h2 v0 _ v1 => ?_
 have n1 := n1 (by omega)
 have v1 := v1 (by omega)
 have e : v = ((v.toNat : Nat) : Int) := by omega
 have first : PlOk ts [Zf.mk 1 0 0 N [] []] := by
  refine ⟨by simp, by simp, fun s hs => ?_, ?_⟩
  ·have : s = Zf.mk 1 0 0 N [] [] := by simpa using hs
   subst this
   exact ⟨ex_nil, Nat.zero_le _⟩
  ·obtain ⟨t, e1, _⟩ := getI_lt (xs := ts) n0 n1
   have hin : inR N 0 ((ts.length : Int) - 1) = true := by
    unfold inR
    rw [decide_eq_true (by omega), decide_eq_true (by omega)]
    rfl
   have m1 : stepMade ts [] (Zf.mk 1 0 0 N [] []) = some ⟨t.fColumns, 6⟩ := by
    unfold stepMade stepCols
    show Option.map _ (bif inR N 0 ((ts.length : Int) - 1) then (getI ts N).map (·.fColumns) else none) = _
    rw [hin, e1]
    rfl
   unfold planRun
   rw [m1]
   rfl
 simp only
 rw [e]
 exact loop_down (L := fun f i (s : Zc × List Zf) => Zar ts f i s.1 s.2) (Q := fun ss r' => RdOk (n + 700) r' ∧ PlOk ts ss)
  (fun k s => k ≤ 5 ∧ RdOk (n + 2 + 130 * (5 - k)) s.1 ∧ s.2.length + k ≤ 6 ∧ PlOk ts s.2)
  (fun f k s hk hw hI hrec => by
   obtain ⟨r, ss⟩ := s
   obtain ⟨i0, i1, i2, i3⟩ := hI
   simp only at i1 i2 i3 ⊢
   have hl1 := i3.l
   rw [Zar, decide_eq_true (by omega), cond_true]
   obtain ⟨y, ey, y2, y3⟩ := all_run ht i3.s (by have := i3.u; omega)
   rw [ey, Option.bind_some, y2, i3.r, Bool.not_true, cond_false]
   obtain ⟨yl, yc⟩ := y3 (by rw [y2, i3.r])
   have hK : ∀ r' ss', RdOk (n + 2 + 130 * (5 - k)) r' → PlOk ts ss' → ss'.length ≤ ss.length + 1 → Wp (Zar ts f (w64 (((k + 1 : Nat) : Int) - 1)) r' ss') fun ss r' => RdOk (n + 700) r' ∧ PlOk ts ss := fun r' ss' h1 h2 h3 => by
    rw [hw]
    exact hrec (r', ss') ⟨by omega, h1, by simp only; omega, h2⟩
   refine wp_pick i1 (by omega) fun p r3 g3 p0 _ p1 => ?_
   have p1 := p1 (by omega)
   have hd : 0 ≤ p.tdiv 4 ∧ p.tdiv 4 ≤ 1 := by
    rw [Int.tdiv_eq_ediv_of_nonneg p0]
    omega
   have e1 : w64 (p.tdiv 4) = p.tdiv 4 := w64_of (by omega) (by omega)
   have e2 : w64 ((ss.length : Int) - 1) = (ss.length : Int) - 1 := w64_of (by omega) (by omega)
   simp only
   rw [e1, e2, w64_of (by omega) (by omega)]
   refine wp_bif (fun _ => plan_j2 ht i3 (by omega) hK (by omega) yl yc (by omega) (by omega) g3 (by omega)) fun hn => ?_
   have hn := of_decide_eq_false hn
   exact plan_j2 ht i3 (by omega) hK (by omega) yl yc (by omega) (by omega) g3 (by omega))
  (fun f s hI => by
   obtain ⟨r, ss⟩ := s
   obtain ⟨i0, i1, i2, i3⟩ := hI
   simp only at i1 i2 i3 ⊢
   rw [Zar, decide_eq_false (by omega), cond_false]
   exact wp_some ⟨i1.up (by omega), i3⟩)
  v.toNat (r2, _) ⟨by omega, h2.up (by omega), by simp; omega, first⟩ (by omega)
end Go.D
set_option linter.unusedVariables false
namespace Go.D
theorem impl_planOk {ts : List Zh} {ss : List Zf} (hts : SmTs ts) (hss : SmSs ss) : impl_PlanOk ts ss = some (planOk ts ss) := by
 obtain ⟨y, h1, h2⟩ := impl_run hts hss
 have h3 := h2.two
 unfold impl_PlanOk planOk impl_makes
 simp only [impl_tabsOk hts, Option.bind_some, impl_in]
 cases tabsOk ts
 ·simp [impl_makes_j0]
 ·cases inR (ss.length : Int) 1 6
  ·simp [impl_makes_j0]
  ·simp [impl_makes_j0, h1, h3]
end Go.D
set_option linter.unusedVariables false
namespace Go.D
theorem len_beqN (m n : Nat) : ((m : Int) == (n : Int)) = (m == n) := by
  cases h : m == n with
  | true => have : m = n := by simpa using h
            subst this; simp
  | false => have : m ≠ n := by simpa using h
             simp; omega
theorem toList_loop (s : ByteArray) : ∀ (k i : Nat) (r : List UInt8), i + k = s.size → ByteArray.toList.loop s i r = r.reverse ++ s.data.toList.drop i
 | 0, i, r, h => by
  rw [ByteArray.toList.loop, if_neg (by omega), List.drop_of_length_le (by rw [Array.length_toList]; show s.size ≤ i; omega), List.append_nil]
 | k + 1, i, r, h => by
  have hi : i < s.data.toList.length := by rw [Array.length_toList]; show i < s.size; omega
  rw [ByteArray.toList.loop, if_pos (by omega), toList_loop s k (i + 1) _ (by omega), List.drop_eq_getElem_cons hi, List.reverse_cons, List.append_assoc]
  congr 1
  rw [List.singleton_append]
  congr 1
  show s.data[i]! = _
  rw [getElem!_pos s.data i (by rw [Array.length_toList] at hi; exact hi)]
  simp
theorem bytes_toList (s : ByteArray) : s.toList = s.data.toList := by
 unfold ByteArray.toList
 rw [toList_loop s s.size 0 [] (by omega)]
 simp
theorem eqV_iff (a b : Za) : Zr a b = true ↔ a = b := by
 obtain ⟨k, n, s⟩ := a
 obtain ⟨k', n', s'⟩ := b
 simp only [Zr, andB, Bool.and_eq_true, beq_iff_eq, Za.mk.injEq]
 refine ⟨fun h => ?_, fun h => ?_⟩
 ·obtain ⟨h1, h2, h3⟩ := h
  refine ⟨h1, h2, ?_⟩
  rw [bytes_toList, bytes_toList] at h3
  exact ByteArray.ext (Array.toList_inj.1 h3)
 ·obtain ⟨rfl, rfl, rfl⟩ := h
  exact ⟨rfl, rfl, rfl⟩
def rowEq (a b : List Za) : Bool := a.length == b.length && (a.zip b).all fun p => Zr p.1 p.2
theorem zip_eq : ∀ {a b : List Za}, a.length = b.length → (((a.zip b).all fun p => Zr p.1 p.2) = true ↔ a = b)
 | [], [], _ => by simp
 | x :: xs, [], h => by simp at h
 | [], y :: ys, h => by simp at h
 | x :: xs, y :: ys, h => by
  have := zip_eq (a := xs) (b := ys) (by simpa using h)
  simp only [List.zip_cons_cons, List.all_cons, Bool.and_eq_true, this, eqV_iff, List.cons.injEq]
theorem rowEq_iff {a b : List Za} : rowEq a b = true ↔ a = b := by
 unfold rowEq
 rw [Bool.and_eq_true, beq_iff_eq]
 refine ⟨fun h => (zip_eq h.1).1 h.2, fun h => ?_⟩
 have hl : a.length = b.length := by rw [h]
 exact ⟨hl, (zip_eq hl).2 h⟩
theorem rowEq_refl (a : List Za) : rowEq a a = true := rowEq_iff.2 rfl
theorem loop_two {α : Type} {xs ys : List α} {L : Nat → Int → Option Bool} {p : α → α → Bool} (hlen : xs.length ≤ 70368744177662) (he : xs.length = ys.length)
  (h : ∀ (f i : Nat) (x y : α), i < xs.length → xs[i]? = some x → ys[i]? = some y → w64 ((i : Int) + 1) = ((i + 1 : Nat) : Int) → L (f + 1) i = bif p x y then L f ((i + 1 : Nat) : Int) else some false)
  (hz : ∀ f, L (f + 1) (xs.length : Int) = some true) : L FUEL 0 = some ((xs.zip ys).all fun q => p q.1 q.2) := by
 have hl : (xs.zip ys).length = xs.length := by rw [List.length_zip]; omega
 have := loop_all (xs := xs.zip ys) (L := L) (p := fun q => p q.1 q.2) (fin := true) (by omega) (fun f i v hi hv hw => by
  obtain ⟨h1, h2⟩ := zip_get he hv
  exact h f i v.1 v.2 (by omega) h1 h2 hw) (fun f => by rw [hl]; exact hz f)
 rw [this, Bool.and_true]
theorem slices_Equal_ok {a b : List Za} (h : a.length ≤ 70368744177662) : Za6 a b = some (rowEq a b) := by
 unfold Za6 rowEq
 have e : ((a.length : Int) == (b.length : Int)) = (a.length == b.length) := len_beqN _ _
 rw [e]
 cases hl : a.length == b.length with
 | false => rfl
 | true =>
  rw [Bool.not_true, cond_false, Bool.true_and]
  refine loop_two (L := fun f i => Zac a b f i) h (by simpa using hl) (fun f i x y hi hx hy hw => ?_) (fun f => ?_)
  ·rw [Zac, decide_eq_true (by omega), cond_true, Z9, hx, Option.bind_some, Z9, hy, Option.bind_some, hw]
   cases Zr x y <;> rfl
  ·rw [Zac, decide_eq_false (Int.lt_irrefl _), cond_false]
def many (rows : List (List Za)) (r : List Za) : Nat := rows.countP fun x => rowEq x r
theorem many_nil (r : List Za) : many [] r = 0 := rfl
theorem many_app (a b : List (List Za)) (r : List Za) : many (a ++ b) r = many a r + many b r := List.countP_append
theorem many_pos {rows : List (List Za)} {r : List Za} : 0 < many rows r ↔ r ∈ rows := by
 unfold many
 rw [List.countP_pos_iff]
 exact ⟨fun ⟨x, h1, h2⟩ => by rw [← rowEq_iff.1 h2]; exact h1, fun h => ⟨r, h, rowEq_refl r⟩⟩
theorem impl_many {rows : List (List Za)} (h : SmRs rows) (r : List Za) : impl_RowMany rows r = some (many rows r : Int) := by
 have h1 := h.1
 unfold impl_RowMany
 have := loop_opt (xs := rows) (L := fun f i (n : Int) => impl_RowMany_l0 rows r f n i) (fun rest n => some (n + (many rest r : Int))) (fun i n => 0 ≤ n ∧ n ≤ (i : Int)) (by omega)
  (fun f i n v hi hv hw hI => by
   have hs := (h.2 v (List.mem_of_getElem? hv)).1
   have hI1 := hI.1
   have hI2 := hI.2
   have e1 : ∀ rest, many (v :: rest) r = many rest r + if rowEq v r = true then 1 else 0 := fun rest => List.countP_cons
   cases hr : rowEq v r with
   | true =>
    refine .inr ⟨n + 1, ⟨by omega, by omega⟩, ?_, ?_⟩
    ·rw [impl_RowMany_l0, decide_eq_true (by omega), cond_true, Z9, hv, Option.bind_some, slices_Equal_ok (by omega), Option.bind_some, hr, cond_true, hw, w64_of (by omega) (by omega)]
    ·rw [e1, hr]; simp only [if_true]; congr 1; omega
   | false =>
    refine .inr ⟨n, ⟨by omega, by omega⟩, ?_, ?_⟩
    ·rw [impl_RowMany_l0, decide_eq_true (by omega), cond_true, Z9, hv, Option.bind_some, slices_Equal_ok (by omega), Option.bind_some, hr, cond_false, hw]
    ·rw [e1, hr]; simp)
  (fun f n hI => by rw [impl_RowMany_l0, decide_eq_false (Int.lt_irrefl _), cond_false, many_nil]; simp) (s := 0) ⟨by omega, by simp⟩
 rw [this, Int.zero_add]
theorem alive_t : laws_alive = some true := by
 have e0 : (ByteArray.mk #[]).size = 0 := rfl
 unfold laws_alive impl_ValueOk
 rw [impl_value (v := Za.mk 1 3 (ByteArray.mk #[])) (by simp [e0]), Option.bind_some, impl_value (v := Za.mk 9 0 (ByteArray.mk #[])) (by simp [e0]), Option.bind_some]
 have h1 : valOk (Za.mk 1 3 (ByteArray.mk #[])) = true := by simp [valOk, inR]
 have h2 : valOk (Za.mk 9 0 (ByteArray.mk #[])) = false := by simp [valOk]
 rw [h1, h2]
 rfl
end Go.D
set_option linter.unusedVariables false
namespace Go.D
theorem impl_growR {n : Nat} (hn : n ≤ 4194304) : Zaw (n : Int) = some [] := by
 unfold Zaw
 have h0 : w64 (0 - 0) = 0 := w64_of (by omega) (by omega)
 have h1 : w64 ((n : Int) - 0) = n := by rw [w64_of] <;> omega
 have h2 : decide ((n : Int) < 0) = false := by simp
 rw [h2, h0, h1]
 simp only [cond_false]
 by_cases hp : (n : Int) > 0
 ·have h3 : decide ((n : Int) > 0) = true := decide_eq_true hp
  rw [h3, cond_true]
  unfold apzI
  rw [if_pos (by omega)]
  simp [slI]
 ·have h3 : decide ((n : Int) > 0) = false := decide_eq_false hp
  rw [h3, cond_false]
theorem concatR_l1 (F : Nat) {a b : List (List Za)} (ha : Sm a.length) (hb : Sm b.length) : Zu [a, b] (F + 1 + 1 + 1) 0 [] = some (a ++ b) := by
 have w3 : w64 (0 + 1) = 1 := w64_of (by omega) (by omega)
 have w4 : w64 (1 + 1) = 2 := w64_of (by omega) (by omega)
 have i0 : getI [a, b] 0 = some a := rfl
 have i1 : getI [a, b] 1 = some b := rfl
 have l0 : decide ((0 : Int) < (([a, b] : List (List (List Za))).length : Int)) = true := rfl
 have l1 : decide ((1 : Int) < (([a, b] : List (List (List Za))).length : Int)) = true := rfl
 have l2 : decide ((2 : Int) < (([a, b] : List (List (List Za))).length : Int)) = false := rfl
 rw [Zu, l0, cond_true, i0, Option.bind_some, app_lt (xs := ([] : List (List Za))) (ys := a) (by simp; omega), Option.bind_some, List.nil_append, w3]
 rw [Zu, l1, cond_true, i1, Option.bind_some, app_lt (xs := a) (ys := b) (by omega), Option.bind_some, w4]
 rw [Zu, l2, cond_false]
theorem concatR_l0 (F : Nat) {a b : List (List Za)} (ha : Sm a.length) (hb : Sm b.length) : Zx [a, b] (F + 1 + 1 + 1) 0 0 = Zu [a, b] FUEL 0 [] := by
 have w1 : w64 (0 + (a.length : Int)) = a.length := by rw [w64_of] <;> omega
 have w2 : w64 ((a.length : Int) + b.length) = ((a.length + b.length : Nat) : Int) := by rw [w64_of] <;> omega
 have w3 : w64 (0 + 1) = 1 := w64_of (by omega) (by omega)
 have w4 : w64 (1 + 1) = 2 := w64_of (by omega) (by omega)
 have n1 : decide ((a.length : Int) < 0) = false := by simp
 have n2 : decide (((a.length + b.length : Nat) : Int) < 0) = false := by
  rw [decide_eq_false_iff_not]
  omega
 have i0 : getI [a, b] 0 = some a := rfl
 have i1 : getI [a, b] 1 = some b := rfl
 have l0 : decide ((0 : Int) < (([a, b] : List (List (List Za))).length : Int)) = true := rfl
 have l1 : decide ((1 : Int) < (([a, b] : List (List (List Za))).length : Int)) = true := rfl
 have l2 : decide ((2 : Int) < (([a, b] : List (List (List Za))).length : Int)) = false := rfl
 rw [Zx, l0, cond_true, i0, Option.bind_some, w1, n1, cond_false, w3]
 rw [Zx, l1, cond_true, i1, Option.bind_some, w2, n2, cond_false, w4]
 rw [Zx, l2, cond_false, impl_growR (n := a.length + b.length) (by omega), Option.bind_some]
theorem impl_concatR {a b : List (List Za)} (ha : Sm a.length) (hb : Sm b.length) : Zal [a, b] = some (a ++ b) := by
 obtain ⟨F, hF⟩ := fuel3
 have h0 := concatR_l0 F ha hb
 have h1 := concatR_l1 F ha hb
 rw [← hF] at h0 h1
 exact h0.trans h1
end Go.D
set_option linter.unusedVariables false
namespace Go.D
theorem impl_cloneV {a : List Za} (ha : a.length ≤ 4194304) : impl_clone_impl_Value a = some a := by
 unfold impl_clone_impl_Value slices_Clip_impl_Value_impl_Value
 cases h : ((a.length : Int)) == 0
 ·rw [app_lt (by simp; omega), Option.bind_some, List.nil_append, clip_id]
  rfl
 ·have : a = [] := by
   have : (a.length : Int) = 0 := by simpa using h
   exact List.eq_nil_of_length_eq_zero (by omega)
  subst this
  rfl
theorem impl_besideV {a b : List Za} (ha : Sm a.length) (hb : Sm b.length) : impl_beside a b = some (a ++ b) := by
 unfold impl_beside
 rw [impl_concatV ha hb, Option.bind_some, impl_cloneV (by rw [List.length_append]; omega), Option.bind_some]
section
variable {ca cb : List Zb} {ar br : List (List Za)} {ps : List Zd} (h : Sides ca cb ar br ps) (hr : ready ca cb ar br ps = true)
include h hr
end
end Go.D
set_option linter.unusedVariables false
namespace Go.D
theorem impl_copyN {rs : List (List Za)} (h : SmRs rs) : impl_rowsCopy rs = some rs := by
 have hl := h.1
 unfold impl_rowsCopy
 have := loop_opt (xs := rs) (L := fun f i (s : List (List Za)) => impl_rowsCopy_l0 rs f i s) (fun rest s => some (s ++ rest)) (fun i s => s.length = i) (by omega)
  (fun f i s v hi hv hw hI => by
   have hlt : (i : Int) < rs.length := by omega
   have hc := impl_cloneV (a := v) (by have := (h.2 v (List.mem_of_getElem? hv)).1; omega)
   refine .inr ⟨s ++ [v], by simp; omega, ?_, by simp⟩
   simp only [impl_rowsCopy_l0, hlt, decide_true, cond_true, Z9, hv, Option.bind_some, hc, app_lt (xs := s) (ys := [v]) (by simp; omega), hw])
  (fun f s hI => by simp only [impl_rowsCopy_l0, Int.lt_irrefl, decide_false, cond_false, Za0, clip_id, Option.bind_some, List.append_nil]) (s := []) rfl
 exact this
section
variable {ca cb : List Zb} {ar br : List (List Za)} {ps : List Zd} (h : Sides ca cb ar br ps)
include h
end
end Go.D
set_option linter.unusedVariables false
namespace Go.D
theorem impl_sameBag {a b : List (List Za)} (ha : SmRs a) (hb : SmRs b) : impl_SameBag a b = some ((a ++ b).all fun r => many a r == many b r) := by
 have h1 := ha.1
 have h2 := hb.1
 unfold impl_SameBag
 rw [impl_concatR ha.1 hb.1, Option.bind_some]
 have := loop_all (xs := a ++ b) (L := fun f i => impl_SameBag_l0 a b (a ++ b) f i) (p := fun r => many a r == many b r) (fin := true) (by simp; omega)
  (fun f i v hi hv hw => by
   rw [impl_SameBag_l0, decide_eq_true (by omega), cond_true, Z9, hv, Option.bind_some, impl_many ha, Option.bind_some, impl_many hb, Option.bind_some, hw, len_beqN]
   cases many a v == many b v <;> rfl)
  (fun f => by rw [impl_SameBag_l0, decide_eq_false (Int.lt_irrefl _), cond_false])
 rw [this, Bool.and_true]
theorem impl_sameBag_of {a b : List (List Za)} (ha : SmRs a) (hb : SmRs b) (h : ∀ r, many a r = many b r) : impl_SameBag a b = some true := by
 rw [impl_sameBag ha hb]
 congr 1
 rw [List.all_eq_true]
 intro r _
 rw [h r, beq_self_eq_true]
theorem many_cons (x : List Za) (xs : List (List Za)) (r : List Za) : many (x :: xs) r = many xs r + if rowEq x r = true then 1 else 0 := List.countP_cons
theorem laws_joined_ok {a b : List (List Za)} (ha : Sm a.length) (hb : Sm b.length) : laws_joined a b = some (a ++ b) := by
 unfold laws_joined
 rw [app_lt (by simp; omega), Option.bind_some, List.nil_append, app_lt (by omega), Option.bind_some]
theorem SmRs.app {a b : List (List Za)} (ha : SmRs a) (hb : SmRs b) (h : a.length + b.length ≤ 2097152) : SmRs (a ++ b) := ⟨by rw [List.length_append]; exact h, fun r hr => (List.mem_append.1 hr).elim (ha.2 r) (hb.2 r)⟩
theorem fits_parts {cs : List Zb} {r : List Za} (h : rowFits cs r = true) : colsOk cs = true ∧ rowOk r = true ∧ r.length = cs.length ∧ ((r.zip cs).all fun p => fits p.2 p.1) = true := by
 unfold rowFits at h
 simp only [Bool.and_eq_true, beq_iff_eq] at h
 exact ⟨h.1, h.2.1, h.2.2.1, h.2.2.2⟩
theorem fits_app {ca cb : List Zb} {a b : List Za} (hc : colsOk (ca ++ cb) = true) (ha : rowFits ca a = true) (hb : rowFits cb b = true) : rowFits (ca ++ cb) (a ++ b) = true := by
 obtain ⟨a1, a2, a3, a4⟩ := fits_parts ha
 obtain ⟨b1, b2, b3, b4⟩ := fits_parts hb
 have hl : (ca ++ cb).length ≤ 4 := by
  unfold colsOk at hc
  simp only [Bool.and_eq_true, decide_eq_true_eq] at hc
  exact hc.2
 unfold rowOk at a2 b2
 simp only [Bool.and_eq_true, decide_eq_true_eq] at a2 b2
 unfold rowFits rowOk
 simp only [Bool.and_eq_true, beq_iff_eq, decide_eq_true_eq, List.length_append, List.all_append] at hl ⊢
 refine ⟨hc, ⟨⟨a2.1, b2.1⟩, by omega⟩, by omega, ?_⟩
 rw [List.zip_append a3, List.all_append, a4, b4]
 rfl
end Go.D
set_option linter.unusedVariables false
namespace Go.D
def onceGo : List (List Za) → List (List Za) → List (List Za)
 | acc, [] => acc
 | acc, x :: xs => bif decide (0 < many acc x) then onceGo acc xs else onceGo (acc ++ [x]) xs
def once (xs : List (List Za)) : List (List Za) := onceGo [] xs
theorem onceGo_many : ∀ (xs acc : List (List Za)), (∀ r, many acc r ≤ 1) → ∀ r, many (onceGo acc xs) r = if 0 < many acc r ∨ 0 < many xs r then 1 else 0
 | [], acc, h, r => by
  have := h r
  simp only [onceGo, many_nil, Nat.lt_irrefl, or_false]
  split <;> omega
 | x :: xs, acc, h, r => by
  unfold onceGo
  cases hd : decide (0 < many acc x) with
  | true =>
   have hx := of_decide_eq_true hd
   rw [cond_true, onceGo_many xs acc h r, many_cons]
   cases he : rowEq x r with
   | true =>
    have := rowEq_iff.1 he
    subst this
    rw [if_pos (.inl hx), if_pos (.inl hx)]
   | false => simp
  | false =>
   have hx := of_decide_eq_false hd
   have hacc : ∀ q, many (acc ++ [x]) q = many acc q + if rowEq x q = true then 1 else 0 := fun q => by
    rw [many_app, many_cons, many_nil, Nat.zero_add]
   rw [cond_false, onceGo_many xs (acc ++ [x]) (fun q => by
    rw [hacc]
    cases he : rowEq x q with
    | true =>
     have := rowEq_iff.1 he
     subst this
     simp; omega
    | false => have := h q; simpa using this) r, hacc, many_cons]
   cases he : rowEq x r with
   | true => simp
   | false => simp
theorem once_many (xs : List (List Za)) (r : List Za) : many (once xs) r = if 0 < many xs r then 1 else 0 := by
 unfold once
 rw [onceGo_many xs [] (fun q => by rw [many_nil]; omega) r, many_nil]
 simp
theorem onceGo_len : ∀ (xs acc : List (List Za)), (onceGo acc xs).length ≤ acc.length + xs.length
 | [], acc => by simp [onceGo]
 | x :: xs, acc => by
  unfold onceGo
  cases decide (0 < many acc x)
  ·have := onceGo_len xs (acc ++ [x])
   simp only [List.length_append, List.length_singleton] at this
   simp only [cond_false, List.length_cons]
   omega
  ·have := onceGo_len xs acc
   simp only [cond_true, List.length_cons]
   omega
theorem impl_once {xs : List (List Za)} (h : SmRs xs) : impl_RowsOnce xs = some (once xs) := by
 have hl := h.1
 unfold impl_RowsOnce
 have := loop_opt (xs := xs) (L := fun f i (s : List (List Za)) => impl_RowsOnce_l0 xs f i s) (fun rest s => some (onceGo s rest)) (fun i s => s.length ≤ i ∧ ∀ r ∈ s, SmR r) (by omega)
  (fun f i s v hi hv hw hI => by
   have hm := List.mem_of_getElem? hv
   have hs : SmRs s := ⟨by have := hI.1; omega, hI.2⟩
   have hI1 := hI.1
   have e : decide ((many s v : Int) > 0) = decide (0 < many s v) := by
    by_cases hp : 0 < many s v
    ·rw [decide_eq_true hp, decide_eq_true (by omega)]
    ·rw [decide_eq_false hp, decide_eq_false (by omega)]
   cases hd : decide (0 < many s v) with
   | true =>
    refine .inr ⟨s, ⟨by omega, hI.2⟩, ?_, by simp [onceGo, hd]⟩
    rw [impl_RowsOnce_l0, decide_eq_true (by omega), cond_true, Z9, hv, Option.bind_some]
    unfold impl_rowsHas
    rw [impl_many hs, Option.bind_some, e, hd, Option.bind_some, Bool.not_true, cond_false, hw]
   | false =>
    refine .inr ⟨s ++ [v], ⟨by simp; omega, fun r hr => (List.mem_append.1 hr).elim (hI.2 r) (fun h' => by
     have : r = v := by simpa using h'
     rw [this]; exact h.2 v hm)⟩, ?_, by simp [onceGo, hd]⟩
    rw [impl_RowsOnce_l0, decide_eq_true (by omega), cond_true, Z9, hv, Option.bind_some]
    unfold impl_rowsHas
    rw [impl_many hs, Option.bind_some, e, hd, Option.bind_some, Bool.not_false, cond_true, app_lt (by simp; omega), Option.bind_some, hw])
  (fun f s hI => by
   have hs : SmRs s := ⟨by have := hI.1; omega, hI.2⟩
   rw [impl_RowsOnce_l0, decide_eq_false (Int.lt_irrefl _), cond_false, impl_copyN hs, Option.bind_some]
   rfl) (s := []) ⟨Nat.zero_le _, fun r hr => by cases hr⟩
 exact this
end Go.D
set_option linter.unusedVariables false
namespace Go.D
theorem kinds_len {cs ds : List Zb} (h : cs.map (·.fKind) = ds.map (·.fKind)) : cs.length = ds.length := by
 have := congrArg List.length h
 rwa [List.length_map, List.length_map] at this
theorem kinds_cols {cs ds : List Zb} (h : cs.map (·.fKind) = ds.map (·.fKind)) : colsOk cs = colsOk ds := by
 unfold colsOk
 have : ∀ xs : List Zb, xs.all (fun c => inR c.fKind 1 3) = (xs.map (·.fKind)).all fun k => inR k 1 3 := fun xs => by
  rw [List.all_map]; rfl
 rw [this, this, h, kinds_len h]
end Go.D
set_option linter.unusedVariables false
namespace Go.D
def atV (r : List Za) (n : Int) : Za := (getI r n).getD N0
def colAt (a : List Zb) (n : Int) : Zb := (getI a n).getD ⟨0, false⟩
def rowsAt (acc : List (List (List Za))) (i : Int) : List (List Za) := (getI acc i).getD []
def joinRows (ar br : List (List Za)) (e : List Zd) : List (List Za) := ar.flatMap fun a => (br.filter fun b => holds (a ++ b) e).map (a ++ ·)
def stepRows (s : Zf) (ts : List Zh) (acc : List (List (List Za))) : List (List Za) :=
 if s.fKind = 1 then ((getI ts s.fN).map (·.fRows)).getD []
 else if s.fKind = 2 then (rowsAt acc s.fA).filter (holds · s.fE)
 else if s.fKind = 3 then (rowsAt acc s.fA).map fun r => s.fList.map (atV r)
 else if s.fKind = 4 then joinRows (rowsAt acc s.fA) (rowsAt acc s.fB) s.fE
 else if s.fKind = 5 then rowsAt acc s.fA ++ rowsAt acc s.fB
 else once (rowsAt acc s.fA)
structure RowsIn (m : Ze) (rs : List (List Za)) : Prop where
 c : colsOk m.fColumns = true
 f : ∀ r ∈ rs, rowFits m.fColumns r = true ∧ SmR r
 l : (rs.length : Int) ≤ m.fMost
 m : m.fMost ≤ 300
structure Acc (ms : List Ze) (acc : List (List (List Za))) : Prop where
 l : acc.length = ms.length
 r : ∀ (i : Nat) m rs, ms[i]? = some m → acc[i]? = some rs → RowsIn m rs
theorem RowsIn.sm {m : Ze} {rs : List (List Za)} (h : RowsIn m rs) : SmRs rs := ⟨by have := h.l; have := h.m; omega, fun r hr => (h.f r hr).2⟩
theorem RowsIn.len {m : Ze} {rs : List (List Za)} (h : RowsIn m rs) : rs.length ≤ 300 := by have := h.l; have := h.m; omega
theorem Acc.get {ms : List Ze} {acc : List (List (List Za))} (h : Acc ms acc) {i : Int} {m : Ze} (hm : getI ms i = some m) : getI acc i = some (rowsAt acc i) ∧ RowsIn m (rowsAt acc i) := by
 obtain ⟨h0, h1, h2⟩ := getI_spec hm
 obtain ⟨rs, h3, h4⟩ := getI_lt (xs := acc) h0 (by rw [h.l]; exact h1)
 have e : rowsAt acc i = rs := by unfold rowsAt; rw [h3]; rfl
 rw [e]
 exact ⟨h3, h.r _ _ _ h2 h4⟩
theorem made_parts {ts : List Zh} {ms : List Ze} {k A B N : Int} {E : List Zd} {L : List Int} {m : Ze} (h : stepMade ts ms ⟨k, A, B, N, E, L⟩ = some m) (hk : (k == 1) = false) : ∃ a b c, getI ms A = some a ∧ getI ms B = some b ∧ stepOf ⟨k, A, B, N, E, L⟩ a.fColumns b.fColumns = some c ∧ m = ⟨c, bif k == 4 then w64 (a.fMost * b.fMost) else bif k == 5 then w64 (a.fMost + b.fMost) else a.fMost⟩ := by
 unfold stepMade at h
 obtain ⟨c, h1, h2⟩ := Option.map_eq_some_iff.1 h
 unfold stepCols at h1
 obtain ⟨_, h1⟩ := bifN h1
 simp only at h1
 rw [hk, cond_false] at h1
 obtain ⟨_, h1⟩ := bifN h1
 obtain ⟨ca, e1, h1⟩ := bindS h1
 obtain ⟨cb, e2, h1⟩ := bindS h1
 rw [getI_map] at e1 e2
 obtain ⟨a, g1, rfl⟩ := Option.map_eq_some_iff.1 e1
 obtain ⟨b, g2, rfl⟩ := Option.map_eq_some_iff.1 e2
 refine ⟨a, b, c, g1, g2, h1, ?_⟩
 rw [← h2]
 unfold mostOf
 simp only
 rw [hk, cond_false, g1, g2]
theorem take_spec {a : List Zb} : ∀ {ns : List Int} {acc c : List Zb}, takeRun a ns acc = some c → c.length ≤ 4 ∧ (∀ n ∈ ns, inR n 0 ((a.length : Int) - 1) = true) ∧ c = acc ++ ns.map (colAt a)
 | [], acc, c, h => by
  unfold takeRun at h
  obtain ⟨h1, h2⟩ := bifN h
  cases h2
  exact ⟨of_decide_eq_true h1, fun n hn => (by cases hn), by simp⟩
 | n :: ns, acc, c, h => by
  unfold takeRun at h
  obtain ⟨h1, h2⟩ := bifN h
  obtain ⟨x, hx, _⟩ := inR_get h1
  rw [hx] at h2
  obtain ⟨g1, g2, g3⟩ := take_spec (ns := ns) h2
  refine ⟨g1, fun k hk => ?_, ?_⟩
  ·rcases List.mem_cons.1 hk with rfl | hk
   ·exact h1
   ·exact g2 k hk
  ·rw [g3, List.map_cons, show colAt a n = x by unfold colAt; rw [hx]; rfl]
   simp
theorem fits_at {cs : List Zb} {r : List Za} (h : rowFits cs r = true) {n : Int} (hn : inR n 0 ((cs.length : Int) - 1) = true) : getI r n = some (atV r n) ∧ valOk (atV r n) = true ∧ fits (colAt cs n) (atV r n) = true ∧ colAt cs n ∈ cs := by
 obtain ⟨_, h1, h2, h3⟩ := fits_parts h
 obtain ⟨c, hc, hcm⟩ := inR_get hn
 obtain ⟨v, hv, hvm⟩ := inR_get (xs := r) (n := n) (by rw [h2]; exact hn)
 have e1 : colAt cs n = c := by unfold colAt; rw [hc]; rfl
 have e2 : atV r n = v := by unfold atV; rw [hv]; rfl
 rw [e1, e2]
 unfold rowOk at h1
 simp only [Bool.and_eq_true, List.all_eq_true] at h1
 refine ⟨hv, h1.1 v hvm, ?_, hcm⟩
 obtain ⟨_, _, k1⟩ := getI_spec hc
 obtain ⟨_, _, k2⟩ := getI_spec hv
 have hz : (r.zip cs)[n.toNat]? = some (v, c) := by
  rw [List.getElem?_zip_eq_some]
  exact ⟨k2, k1⟩
 exact List.all_eq_true.1 h3 _ (List.mem_of_getElem? hz)
theorem fits_take {cs : List Zb} {r : List Za} {ns : List Int} (h : rowFits cs r = true) (hn : ∀ n ∈ ns, inR n 0 ((cs.length : Int) - 1) = true) (hl : ns.length ≤ 4) : rowFits (ns.map (colAt cs)) (ns.map (atV r)) = true := by
 obtain ⟨hc, _⟩ := fits_parts h
 unfold colsOk at hc
 simp only [Bool.and_eq_true, List.all_eq_true] at hc
 unfold rowFits colsOk rowOk
 simp only [Bool.and_eq_true, List.all_eq_true, List.length_map, beq_iff_eq, decide_eq_true_eq]
 refine ⟨⟨fun c hcm => ?_, hl⟩, ⟨fun v hv => ?_, hl⟩, trivial, fun p hp => ?_⟩
 ·obtain ⟨n, hm, rfl⟩ := List.mem_map.1 hcm
  exact hc.1 _ (fits_at h (hn n hm)).2.2.2
 ·obtain ⟨n, hm, rfl⟩ := List.mem_map.1 hv
  exact (fits_at h (hn n hm)).2.1
 ·rw [List.zip_map'] at hp
  obtain ⟨n, hm, rfl⟩ := List.mem_map.1 hp
  exact (fits_at h (hn n hm)).2.2.1
theorem impl_takenV {cs : List Zb} {r : List Za} {ns : List Int} (h : rowFits cs r = true) (hn : ∀ n ∈ ns, inR n 0 ((cs.length : Int) - 1) = true) (hl : ns.length ≤ 4) : impl_taken r ns = some (ns.map (atV r)) := by
 unfold impl_taken
 have := loop_opt (xs := ns) (L := fun f i (s : List Za) => impl_taken_l0 r ns f i s) (fun rest s => some (s ++ rest.map (atV r))) (fun i s => s.length = i) (by omega)
  (fun f i s n hi hv hw hI => by
   have hg := (fits_at h (hn n (List.mem_of_getElem? hv))).1
   refine .inr ⟨s ++ [atV r n], by simp [hI], ?_, by simp⟩
   rw [impl_taken_l0, decide_eq_true (by omega), cond_true, Z9, hv, Option.bind_some, hg, Option.bind_some, app_lt (by simp; omega), Option.bind_some, hw])
  (fun f s hI => by rw [impl_taken_l0, decide_eq_false (Int.lt_irrefl _), cond_false, impl_cloneV (by omega), List.map_nil, List.append_nil]; rfl) (s := []) rfl
 exact this
theorem both_spec : ∀ {xs bs c : List Zb}, xs.length = bs.length → bothCols (xs.zip bs) = some c → c.map (·.fKind) = xs.map (·.fKind) ∧ (∀ r : List Za, ((r.zip xs).all fun p => fits p.2 p.1) = true → ((r.zip c).all fun p => fits p.2 p.1) = true) ∧ (∀ r : List Za, ((r.zip bs).all fun p => fits p.2 p.1) = true → ((r.zip c).all fun p => fits p.2 p.1) = true)
 | [], [], c, _, h => by
  have : c = [] := (Option.some.inj h).symm
  subst this
  exact ⟨rfl, fun r h => h, fun r h => h⟩
 | a :: xs, b :: bs, c, hl, h => by
  unfold bothCols at h
  obtain ⟨hk, h⟩ := bifN h
  obtain ⟨u, hu, rfl⟩ := Option.map_eq_some_iff.1 h
  obtain ⟨g1, g2, g3⟩ := both_spec (by simpa using hl) hu
  have hk := eq_of_beq hk
  refine ⟨by simp [g1], fun r hr => ?_, fun r hr => ?_⟩
  ·cases r with
   | nil => rfl
   | cons v r =>
    simp only [List.zip_cons_cons, List.all_cons, Bool.and_eq_true] at hr ⊢
    refine ⟨?_, g2 r hr.2⟩
    have := hr.1
    unfold fits at this ⊢
    simp only [Bool.or_eq_true, Bool.and_eq_true] at this ⊢
    exact this.imp id fun h => ⟨h.1, .inl h.2⟩
  ·cases r with
   | nil => rfl
   | cons v r =>
    simp only [List.zip_cons_cons, List.all_cons, Bool.and_eq_true] at hr ⊢
    refine ⟨?_, g3 r hr.2⟩
    have := hr.1
    unfold fits at this ⊢
    simp only [Bool.or_eq_true, Bool.and_eq_true] at this ⊢
    rw [hk]
    exact this.imp id fun h => ⟨h.1, .inr h.2⟩
theorem fits_both {xs c : List Zb} {r : List Za} (hk : c.map (·.fKind) = xs.map (·.fKind)) (hz : ((r.zip xs).all fun p => fits p.2 p.1) = true → ((r.zip c).all fun p => fits p.2 p.1) = true) (h : rowFits xs r = true) : rowFits c r = true := by
 obtain ⟨h1, h2, h3, h4⟩ := fits_parts h
 unfold rowFits
 rw [kinds_cols hk, h1, h2, h3, kinds_len hk, beq_self_eq_true, hz h4]
 rfl
theorem once_mem {xs : List (List Za)} {r : List Za} (h : r ∈ once xs) : r ∈ xs := by
 have h1 := many_pos.2 h
 rw [once_many] at h1
 exact many_pos.1 (Classical.byContradiction fun e => by rw [if_neg e] at h1; omega)
theorem joinRows_len (ar br : List (List Za)) (e : List Zd) : (joinRows ar br e).length ≤ ar.length * br.length := by
 unfold joinRows
 induction ar with
 | nil => simp
 | cons a ar ih =>
  rw [List.flatMap_cons, List.length_append, List.length_map, List.length_cons, Nat.succ_mul]
  have := List.length_filter_le (fun b => holds (a ++ b) e) br
  omega
end Go.D
set_option linter.unusedVariables false
namespace Go.D
theorem holds_of {cs : List Zb} {r : List Za} {e : List Zd} (he : exprKind cs e = 3) (hf : rowFits cs r = true) (hs : SmR r) (sp : ∀ p ∈ e, SmP p) : impl_exprHolds r e = some (holds r e) := (both_holds he (fits_parts hf).2.2.1 hs sp).2
theorem rows_where {s : Zf} {m : Ze} {rs : List (List Za)} (h : RowsIn m rs) (he : exprKind m.fColumns s.fE = 3) (sp : ∀ p ∈ s.fE, SmP p) : Zaz s rs FUEL 0 [] = some (rs.filter (holds · s.fE)) := by
 have hn := h.len
 have := loop_opt (xs := rs) (L := fun f i (t : List (List Za)) => Zaz s rs f i t) (fun rest t => some (t ++ rest.filter (holds · s.fE))) (fun i t => t.length ≤ i) (by omega)
  (fun f i t v hi hv hw hI => by
   obtain ⟨f1, f2⟩ := h.f v (List.mem_of_getElem? hv)
   have hh := holds_of he f1 f2 sp
   rw [List.filter_cons]
   cases hb : holds v s.fE with
   | true =>
    refine .inr ⟨t ++ [v], by simp; omega, ?_, by simp⟩
    rw [Zaz, decide_eq_true (by omega), cond_true, Z9, hv, Option.bind_some, hh, Option.bind_some, hb, cond_true, app_lt (by simp; omega), Option.bind_some, hw]
   | false =>
    refine .inr ⟨t, by omega, ?_, by simp⟩
    rw [Zaz, decide_eq_true (by omega), cond_true, Z9, hv, Option.bind_some, hh, Option.bind_some, hb, cond_false, hw])
  (fun f t hI => by rw [Zaz, decide_eq_false (Int.lt_irrefl _), cond_false, List.filter_nil, List.append_nil]) (s := []) (Nat.le_refl _)
 exact this
theorem rows_take {s : Zf} {m : Ze} {rs : List (List Za)} (h : RowsIn m rs) (hn : ∀ n ∈ s.fList, inR n 0 ((m.fColumns.length : Int) - 1) = true) (hl : s.fList.length ≤ 4) : Zbe s rs FUEL 0 [] = some (rs.map fun r => s.fList.map (atV r)) := by
 have hk := h.len
 have := loop_opt (xs := rs) (L := fun f i (t : List (List Za)) => Zbe s rs f i t) (fun rest t => some (t ++ rest.map fun r => s.fList.map (atV r))) (fun i t => t.length ≤ i) (by omega)
  (fun f i t v hi hv hw hI => by
   refine .inr ⟨t ++ [s.fList.map (atV v)], by simp; omega, ?_, by simp⟩
   rw [Zbe, decide_eq_true (by omega), cond_true, Z9, hv, Option.bind_some, impl_takenV (h.f v (List.mem_of_getElem? hv)).1 hn hl, Option.bind_some, app_lt (by simp; omega), Option.bind_some, hw])
  (fun f t hI => by rw [Zbe, decide_eq_false (Int.lt_irrefl _), cond_false, List.map_nil, List.append_nil]) (s := []) (Nat.le_refl _)
 exact this
theorem pair_fit2 {c d : List Zb} (hc : colsOk (c ++ d) = true) {a b : List Za} (ha : rowFits c a = true ∧ SmR a) (hb : rowFits d b = true ∧ SmR b) : rowFits (c ++ d) (a ++ b) = true ∧ SmR (a ++ b) := by
 have h1 := fits_app hc ha.1 hb.1
 have h2 := (fits_parts h1).2.2.1
 have h3 : (c ++ d).length ≤ 4 := by
  unfold colsOk at hc
  simp only [Bool.and_eq_true, decide_eq_true_eq] at hc
  exact hc.2
 exact ⟨h1, by rw [h2]; omega, fun v hv => (List.mem_append.1 hv).elim (ha.2.2 v) (hb.2.2 v)⟩
theorem rows_join {s : Zf} {acc : List (List (List Za))} {m1 m2 : Ze} {ar br : List (List Za)} (h1 : RowsIn m1 ar) (h2 : RowsIn m2 br) (hb : getI acc s.fB = some br) (he : exprKind (m1.fColumns ++ m2.fColumns) s.fE = 3) (sp : ∀ p ∈ s.fE, SmP p) : Zau s acc ar FUEL 0 [] = some (joinRows ar br s.fE) := by
 have n1 := h1.len
 have n2 := h2.len
 have hc := (run_start he).2.1
 have := loop_opt (xs := ar) (L := fun f n (t : List (List Za)) => Zau s acc ar f n t) (fun rest t => some (t ++ joinRows rest br s.fE)) (fun n t => t.length ≤ n * 300) (by omega)
  (fun f n t a hn ha hw hI => by
   have fa := h1.f a (List.mem_of_getElem? ha)
   have hin := loop_opt (xs := br) (L := fun g m (t : List (List Za)) => Zbh s n (Zau s acc ar f) a br g m t)
    (fun rest t' => Zau s acc ar f ((n + 1 : Nat) : Int) (t' ++ (rest.filter fun b => holds (a ++ b) s.fE).map (a ++ ·))) (fun m t' => t'.length ≤ t.length + m) (by omega)
    (fun g m t' b hm hb2 hw2 hI2 => by
     have fb := h2.f b (List.mem_of_getElem? hb2)
     have fab := pair_fit2 hc fa fb
     have hh := holds_of he fab.1 fab.2 sp
     rw [List.filter_cons]
     cases ht : holds (a ++ b) s.fE with
     | true =>
      refine .inr ⟨t' ++ [a ++ b], by simp; omega, ?_, by simp⟩
      rw [Zbh, decide_eq_true (by omega), cond_true, Z9, hb2, Option.bind_some, impl_besideV fa.2.1 fb.2.1, Option.bind_some, hh, Option.bind_some, ht, cond_true, app_lt (by simp; omega), Option.bind_some, hw2]
     | false =>
      refine .inr ⟨t', by omega, ?_, by simp⟩
      rw [Zbh, decide_eq_true (by omega), cond_true, Z9, hb2, Option.bind_some, impl_besideV fa.2.1 fb.2.1, Option.bind_some, hh, Option.bind_some, ht, cond_false, hw2])
    (fun g t' hI2 => by
     rw [Zbh, decide_eq_false (Int.lt_irrefl _), cond_false, hw]
     simp) (s := t) (Nat.le_refl _)
   refine .inr ⟨t ++ (br.filter fun b => holds (a ++ b) s.fE).map (a ++ ·), ?_, ?_, by simp [joinRows]⟩
   ·have := List.length_filter_le (fun b => holds (a ++ b) s.fE) br
    rw [List.length_append, List.length_map]; omega
   ·rw [Zau, decide_eq_true (by omega), cond_true, Z9, ha, Option.bind_some, hb, Option.bind_some]
    exact hin)
  (fun f t hI => by rw [Zau, decide_eq_false (Int.lt_irrefl _), cond_false, joinRows, List.flatMap_nil, List.append_nil]) (s := []) (Nat.zero_le _)
 exact this
theorem step_rows {ts : List Zh} {ms : List Ze} {acc : List (List (List Za))} {s : Zf} {m : Ze} (hts : SmTs ts) (ht : tabsOk ts = true) (hs : SmS s) (ha : Acc ms acc) (h : stepMade ts ms s = some m) (hm : m.fMost ≤ 300) :
  impl_Step_rows_L2 s ts acc = some (stepRows s ts acc) ∧ RowsIn m (stepRows s ts acc) := by
 obtain ⟨k, A, B, N, E, L⟩ := s
 obtain ⟨sl, sp, sn⟩ := hs
 simp only at sl sp sn
 by_cases k1 : k = 1
 ·subst k1
  unfold stepMade at h
  obtain ⟨c, h1, h2⟩ := Option.map_eq_some_iff.1 h
  unfold stepCols at h1
  obtain ⟨_, h1⟩ := bifN h1
  have h1 : (bif inR N 0 ((ts.length : Int) - 1) then (getI ts N).map (·.fColumns) else none) = some c := h1
  obtain ⟨h1, h3⟩ := bifN h1
  obtain ⟨t, g1, rfl⟩ := Option.map_eq_some_iff.1 h3
  have e : stepRows ⟨1, A, B, N, E, L⟩ ts acc = t.fRows := by
   show ((getI ts N).map (·.fRows)).getD [] = _
   rw [g1]; rfl
  have hmem := getI_mem g1
  unfold tabsOk at ht
  simp only [Bool.and_eq_true, List.all_eq_true] at ht
  have htt := ht.1 t hmem
  unfold tabOk rowsOk at htt
  simp only [Bool.and_eq_true, List.all_eq_true, decide_eq_true_eq] at htt
  rw [e]
  refine ⟨?_, ?_⟩
  ·show ((getI ts N).bind fun v2 => some v2.fRows) = _
   rw [g1]; rfl
  ·rw [← h2]
   exact ⟨htt.2.1, fun r hr => ⟨htt.2.2 r hr, (hts.2 t hmem).2.2 r hr⟩, by show (t.fRows.length : Int) ≤ 6; omega, by show (6 : Int) ≤ 300; omega⟩
 obtain ⟨a, b, c, g1, g2, h1, rfl⟩ := made_parts h (beq_eq_false_iff_ne.2 k1)
 obtain ⟨q1, r1⟩ := ha.get g1
 obtain ⟨q2, r2⟩ := ha.get g2
 have l1 := r1.l
 have l2 := r2.l
 have b1 := r1.m
 have b2 := r2.m
 have z1 : (0 : Int) ≤ a.fMost := by omega
 have z2 : (0 : Int) ≤ b.fMost := by omega
 by_cases k2 : k = 2
 ·subst k2
  have h1 : (bif exprKind a.fColumns E == 3 then some a.fColumns else none) = some c := h1
  obtain ⟨he, h1⟩ := bifN h1
  cases h1
  have he := eq_of_beq he
  refine ⟨?_, ?_⟩
  ·show ((getI acc A).bind fun v5 => Zaz ⟨2, A, B, N, E, L⟩ v5 FUEL 0 []) = some ((rowsAt acc A).filter (holds · E))
   rw [q1, Option.bind_some, rows_where r1 he sp]
  ·show RowsIn ⟨a.fColumns, a.fMost⟩ ((rowsAt acc A).filter (holds · E))
   exact ⟨r1.c, fun r hr => r1.f r (List.mem_filter.1 hr).1, by have := List.length_filter_le (holds · E) (rowsAt acc A); simp only; omega, b1⟩
 by_cases k3 : k = 3
 ·subst k3
  have h1 : takeRun a.fColumns L [] = some c := h1
  obtain ⟨t1, t2, t3⟩ := take_spec h1
  rw [List.nil_append] at t3
  subst t3
  rw [List.length_map] at t1
  refine ⟨?_, ?_⟩
  ·show ((getI acc A).bind fun v22 => Zbe ⟨3, A, B, N, E, L⟩ v22 FUEL 0 []) = some ((rowsAt acc A).map fun r => L.map (atV r))
   rw [q1, Option.bind_some, rows_take r1 t2 t1]
  ·show RowsIn ⟨L.map (colAt a.fColumns), a.fMost⟩ ((rowsAt acc A).map fun r => L.map (atV r))
   refine ⟨?_, fun r hr => ?_, by rw [List.length_map]; exact l1, b1⟩
   ·have hc := r1.c
    unfold colsOk at hc ⊢
    simp only [Bool.and_eq_true, List.all_eq_true, decide_eq_true_eq, List.length_map] at hc ⊢
    refine ⟨fun x hx => ?_, t1⟩
    obtain ⟨n, hn, rfl⟩ := List.mem_map.1 hx
    obtain ⟨x, hx, hxm⟩ := inR_get (t2 n hn)
    have : colAt a.fColumns n = x := by unfold colAt; rw [hx]; rfl
    rw [this]
    exact hc.1 x hxm
   ·obtain ⟨q, hq, rfl⟩ := List.mem_map.1 hr
    obtain ⟨f1, f2⟩ := r1.f q hq
    refine ⟨fits_take f1 t2 t1, by rw [List.length_map]; omega, fun v hv => ?_⟩
    obtain ⟨n, hn, rfl⟩ := List.mem_map.1 hv
    exact f2.2 _ (getI_mem (fits_at f1 (t2 n hn)).1)
 by_cases k4 : k = 4
 ·subst k4
  have h1 : (bif decide ((a.fColumns ++ b.fColumns).length ≤ 4) && exprKind (a.fColumns ++ b.fColumns) E == 3 then some (a.fColumns ++ b.fColumns) else none) = some c := h1
  obtain ⟨he, h1⟩ := bifN h1
  cases h1
  simp only [Bool.and_eq_true] at he
  have he := eq_of_beq he.2
  have hc := (run_start he).2.1
  have hmul : a.fMost * b.fMost ≤ 300 * 300 := Int.mul_le_mul b1 b2 z2 (by omega)
  have hmul0 : 0 ≤ a.fMost * b.fMost := Int.mul_nonneg z1 z2
  have hm : w64 (a.fMost * b.fMost) ≤ 300 := hm
  rw [w64_of (by omega) (by omega)] at hm
  refine ⟨?_, ?_⟩
  ·show ((getI acc A).bind fun v38 => Zau ⟨4, A, B, N, E, L⟩ acc v38 FUEL 0 []) = some (joinRows (rowsAt acc A) (rowsAt acc B) E)
   rw [q1, Option.bind_some, rows_join r1 r2 q2 he sp]
  ·show RowsIn ⟨a.fColumns ++ b.fColumns, w64 (a.fMost * b.fMost)⟩ (joinRows (rowsAt acc A) (rowsAt acc B) E)
   rw [w64_of (by omega) (by omega)]
   refine ⟨hc, fun r hr => ?_, ?_, hm⟩
   ·unfold joinRows at hr
    obtain ⟨x, hx, hr⟩ := List.mem_flatMap.1 hr
    obtain ⟨y, hy, rfl⟩ := List.mem_map.1 hr
    exact pair_fit2 hc (r1.f x hx) (r2.f y (List.mem_filter.1 hy).1)
   ·have := joinRows_len (rowsAt acc A) (rowsAt acc B) E
    have h2 : (((rowsAt acc A).length * (rowsAt acc B).length : Nat) : Int) ≤ a.fMost * b.fMost := by
     rw [Int.natCast_mul]
     exact Int.mul_le_mul l1 l2 (by omega) z1
    show ((joinRows (rowsAt acc A) (rowsAt acc B) E).length : Int) ≤ a.fMost * b.fMost
    omega
 by_cases k5 : k = 5
 ·subst k5
  have h1 : (bif a.fColumns.length == b.fColumns.length then bothCols (a.fColumns.zip b.fColumns) else none) = some c := h1
  obtain ⟨hl, h1⟩ := bifN h1
  obtain ⟨s1, s2, s3⟩ := both_spec (eq_of_beq hl) h1
  have hm : w64 (a.fMost + b.fMost) ≤ 300 := hm
  rw [w64_of (by omega) (by omega)] at hm
  have n1 := r1.len
  have n2 := r2.len
  have hkb : c.map (·.fKind) = b.fColumns.map (·.fKind) := by
   have : ∀ {xs ys u : List Zb}, xs.length = ys.length → bothCols (xs.zip ys) = some u → u.map (·.fKind) = ys.map (·.fKind) := by
    intro xs
    induction xs with
    | nil =>
     intro ys u hl h
     cases ys with
     | nil => cases h; rfl
     | cons y ys => cases hl
    | cons x xs ih =>
     intro ys u hl h
     cases ys with
     | nil => cases hl
     | cons y ys =>
      unfold bothCols at h
      obtain ⟨hk, h⟩ := bifN h
      obtain ⟨u, hu, rfl⟩ := Option.map_eq_some_iff.1 h
      have := ih (by simpa using hl) hu
      simp [this, eq_of_beq hk]
   exact this (eq_of_beq hl) h1
  refine ⟨?_, ?_⟩
  ·show ((getI acc A).bind fun v68 => (getI acc B).bind fun v70 => (Zal [v68, v70]).bind fun v72 => some v72) = some (rowsAt acc A ++ rowsAt acc B)
   rw [q1, Option.bind_some, q2, Option.bind_some, impl_concatR (by omega) (by omega)]
   rfl
  ·show RowsIn ⟨c, w64 (a.fMost + b.fMost)⟩ (rowsAt acc A ++ rowsAt acc B)
   rw [w64_of (by omega) (by omega)]
   refine ⟨(kinds_cols s1).trans r1.c, fun r hr => ?_, by rw [List.length_append]; simp only; omega, hm⟩
   rcases List.mem_append.1 hr with hr | hr
   ·exact ⟨fits_both s1 (s2 r) (r1.f r hr).1, (r1.f r hr).2⟩
   ·exact ⟨fits_both hkb (s3 r) (r2.f r hr).1, (r2.f r hr).2⟩
 by_cases k6 : k = 6
 ·subst k6
  have h1 : some a.fColumns = some c := h1
  cases h1
  refine ⟨?_, ?_⟩
  ·show ((getI acc A).bind fun v75 => (impl_RowsOnce v75).bind fun v77 => some v77) = some (once (rowsAt acc A))
   rw [q1, Option.bind_some, impl_once r1.sm]
   rfl
  ·show RowsIn ⟨a.fColumns, a.fMost⟩ (once (rowsAt acc A))
   refine ⟨r1.c, fun r hr => r1.f r (once_mem hr), ?_, b1⟩
   have := onceGo_len (rowsAt acc A) []
   unfold once
   simp only [List.length_nil, Nat.zero_add] at this ⊢
   omega
 ·exfalso
  unfold stepOf at h1
  simp only at h1
  rw [beq_eq_false_iff_ne.2 k2, beq_eq_false_iff_ne.2 k3, beq_eq_false_iff_ne.2 k4, beq_eq_false_iff_ne.2 k5, beq_eq_false_iff_ne.2 k6] at h1
  cases h1
def rowsRun (ts : List Zh) : List Zf → List (List (List Za)) → List (List (List Za))
 | [], acc => acc
 | s :: ss, acc => rowsRun ts ss (acc ++ [stepRows s ts acc])
theorem Acc.snoc {ms : List Ze} {acc : List (List (List Za))} {m : Ze} {rs : List (List Za)} (h : Acc ms acc) (hr : RowsIn m rs) : Acc (ms ++ [m]) (acc ++ [rs]) := by
 refine ⟨by simp [h.l], fun i m' rs' h1 h2 => ?_⟩
 by_cases hi : i < ms.length
 ·rw [List.getElem?_append_left hi] at h1
  rw [List.getElem?_append_left (by rw [h.l]; exact hi)] at h2
  exact h.r i m' rs' h1 h2
 ·rw [List.getElem?_append_right (by omega)] at h1
  rw [List.getElem?_append_right (by rw [h.l]; omega), h.l] at h2
  have e : i - ms.length = 0 := Classical.byContradiction fun e => by
   rw [List.getElem?_eq_none (by simp; omega)] at h1
   cases h1
  rw [e] at h1 h2
  cases h1
  cases h2
  exact hr
theorem run_acc {ts : List Zh} (hts : SmTs ts) (ht : tabsOk ts = true) : ∀ {ss : List Zf} {ms ms' : List Ze} {acc : List (List (List Za))}, (∀ s ∈ ss, SmS s) → Acc ms acc → planRun ts ss ms = some ms' → Acc ms' (rowsRun ts ss acc)
 | [], ms, ms', acc, _, ha, h => by
  unfold planRun at h
  cases h
  exact ha
 | s :: ss, ms, ms', acc, hs, ha, h => by
  unfold planRun at h
  cases h1 : stepMade ts ms s with
  | none => rw [h1] at h; cases h
  | some m =>
   rw [h1] at h
   simp only at h
   cases hm : decide (m.fMost > 300) with
   | true => rw [hm] at h; cases h
   | false =>
    rw [hm, cond_false] at h
    have hm := of_decide_eq_false hm
    have := step_rows hts ht (hs s (by simp)) ha h1 (by omega)
    exact run_acc (ss := ss) hts ht (fun s hm => hs s (by simp [hm])) (ha.snoc this.2) h
end Go.D
set_option linter.unusedVariables false
namespace Go.D
theorem rows_copy {rs : List (List Za)} (h : SmRs rs) : impl_rowsCopy rs = some rs := by
 unfold impl_rowsCopy
 have hn := h.1
 have := loop_opt (xs := rs) (L := fun f i (s : List (List Za)) => impl_rowsCopy_l0 rs f i s) (fun rest s => some (s ++ rest)) (fun i s => s.length ≤ i) (by omega)
  (fun f i s v hi hv hw hI => by
   have hs := (h.2 v (List.mem_of_getElem? hv)).1
   refine .inr ⟨s ++ [v], by simp; omega, ?_, by simp⟩
   rw [impl_rowsCopy_l0, decide_eq_true (by omega), cond_true, Z9, hv, Option.bind_some, impl_cloneV (by omega), Option.bind_some, app_lt (by simp; omega), Option.bind_some, hw])
  (fun f s hI => by rw [impl_rowsCopy_l0, decide_eq_false (Int.lt_irrefl _), cond_false, Za0, clip_id, List.append_nil]; rfl) (s := []) (Nat.le_refl _)
 exact this
theorem rowsRun_len (ts : List Zh) : ∀ (ss : List Zf) (acc : List (List (List Za))), (rowsRun ts ss acc).length = acc.length + ss.length
 | [], acc => by simp [rowsRun]
 | s :: ss, acc => by
  rw [rowsRun, rowsRun_len ts ss]
  simp; omega
theorem rowsRun_app (ts : List Zh) : ∀ (ss s2 : List Zf) (acc : List (List (List Za))), rowsRun ts (ss ++ s2) acc = rowsRun ts s2 (rowsRun ts ss acc)
 | [], s2, acc => rfl
 | s :: ss, s2, acc => by
  rw [List.cons_append, rowsRun, rowsRun, rowsRun_app ts ss s2]
theorem planRun_app (ts : List Zh) : ∀ (ss s2 : List Zf) (ms : List Ze), planRun ts (ss ++ s2) ms = (planRun ts ss ms).bind fun l => planRun ts s2 l
 | [], s2, ms => rfl
 | s :: ss, s2, ms => by
  rw [List.cons_append, planRun, planRun]
  cases stepMade ts ms s with
  | none => rfl
  | some m =>
   simp only
   cases decide (m.fMost > 300) with
   | true => rfl
   | false => exact planRun_app ts ss s2 _
def planV (ts : List Zh) (ss : List Zf) : List (List Za) := bif planOk ts ss then rowsAt (rowsRun ts ss []) ((ss.length : Int) - 1) else []
theorem acc_nil : Acc [] [] := ⟨rfl, fun i m rs h _ => by simp at h⟩
theorem plan_acc {ts : List Zh} {ss : List Zf} (hts : SmTs ts) (hss : SmSs ss) (h : planOk ts ss = true) : ∃ l m, planRun ts ss [] = some l ∧ Acc l (rowsRun ts ss []) ∧ getI l ((ss.length : Int) - 1) = some m ∧ 1 ≤ ss.length ∧ m.fColumns = planCols ts ss := by
 obtain ⟨l, m, h1, h2, h3, h4, _, h6, h7⟩ := planOk_run h
 unfold inR at h7
 simp only [Bool.and_eq_true, decide_eq_true_eq] at h7
 refine ⟨l, m, h1, run_acc hts h6 hss.2 acc_nil h1, ?_, by omega, h4.symm⟩
 rw [show (ss.length : Int) - 1 = ((ss.length - 1 : Nat) : Int) by omega, Z9, h3]
theorem planV_in {ts : List Zh} {ss : List Zf} (hts : SmTs ts) (hss : SmSs ss) (h : planOk ts ss = true) : ∃ m, RowsIn m (planV ts ss) ∧ m.fColumns = planCols ts ss := by
 obtain ⟨l, m, h1, h2, h3, h4, h5⟩ := plan_acc hts hss h
 refine ⟨m, ?_, h5⟩
 unfold planV
 rw [h]
 exact (h2.get h3).2
theorem planV_sm {ts : List Zh} {ss : List Zf} (hts : SmTs ts) (hss : SmSs ss) : SmRs (planV ts ss) := by
 cases h : planOk ts ss with
 | true => obtain ⟨m, h1, _⟩ := planV_in hts hss h; exact h1.sm
 | false =>
  unfold planV
  rw [h]
  exact ⟨Nat.zero_le _, fun r hr => by cases hr⟩
theorem impl_planV {ts : List Zh} {ss : List Zf} (hts : SmTs ts) (hss : SmSs ss) : impl_PlanRows ts ss = some (planV ts ss) := by
 unfold impl_PlanRows
 rw [impl_planOk hts hss, Option.bind_some]
 cases h : planOk ts ss with
 | false => unfold planV; rw [h]; rfl
 | true =>
  obtain ⟨l, m, h1, h2, h3, h4, h5⟩ := plan_acc hts hss h
  obtain ⟨g1, g2⟩ := h2.get h3
  have hsm := planV_sm hts hss
  have hl := hss.1
  have htb : tabsOk ts = true := by
   obtain ⟨_, _, _, _, _, _, _, h6, _⟩ := planOk_run h
   exact h6
  have e0 : planV ts ss = rowsAt (rowsRun ts ss []) ((ss.length : Int) - 1) := by unfold planV; rw [h]; rfl
  rw [Bool.not_true, cond_false]
  unfold impl_planRows
  have := loop_opt (xs := ss) (L := fun f i (s : List (List (List Za))) => impl_planRows_l0 ts ss f i s) (fun rest s => some (rowsAt (rowsRun ts rest s) ((ss.length : Int) - 1)))
   (fun i s => s.length = i ∧ rowsRun ts (ss.drop i) s = rowsRun ts ss [] ∧ ∃ ms, Acc ms s ∧ planRun ts (ss.drop i) ms = some l) (by omega)
   (fun f i s v hi hv hw hI => by
    obtain ⟨i1, i2, ms, i3, i4⟩ := hI
    have ed : ss.drop i = v :: ss.drop (i + 1) := by
     rw [List.drop_eq_getElem_cons hi]
     rw [List.getElem?_eq_getElem hi] at hv
     rw [Option.some.inj hv]
    rw [ed] at i2 i4
    unfold planRun at i4
    cases hm : stepMade ts ms v with
    | none => rw [hm] at i4; cases i4
    | some m' =>
     rw [hm] at i4
     simp only at i4
     cases hmo : decide (m'.fMost > 300) with
     | true => rw [hmo] at i4; cases i4
     | false =>
      rw [hmo, cond_false] at i4
      have hmo := of_decide_eq_false hmo
      obtain ⟨k1, k2⟩ := step_rows hts htb (hss.2 v (List.mem_of_getElem? hv)) i3 hm (by omega)
      refine .inr ⟨s ++ [stepRows v ts s], ⟨by simp [i1], by rw [rowsRun] at i2; exact i2, ms ++ [m'], i3.snoc k2, i4⟩, ?_, by rw [rowsRun]⟩
      rw [impl_planRows_l0, decide_eq_true (by omega), cond_true, Z9, hv, Option.bind_some, k1, Option.bind_some, app_lt (by simp; omega), Option.bind_some, hw])
   (fun f s hI => by
    obtain ⟨i1, i2, _⟩ := hI
    rw [List.drop_length, rowsRun] at i2
    rw [impl_planRows_l0, decide_eq_false (Int.lt_irrefl _), cond_false, w64_of (by omega) (by omega), i1, rowsRun, i2, g1, Option.bind_some, rows_copy g2.sm]
    rfl) (s := []) ⟨rfl, by rw [List.drop_zero], [], acc_nil, by rw [List.drop_zero]; exact h1⟩
  have this : impl_planRows_l0 ts ss FUEL 0 [] = some (rowsAt (rowsRun ts ss []) ((ss.length : Int) - 1)) := this
  rw [this, ← e0]
  rfl
theorem rowsAt_last (a : List (List (List Za))) (r : List (List Za)) {i : Int} (h : i = a.length) : rowsAt (a ++ [r]) i = r := by
 subst h
 unfold rowsAt
 rw [Z9, List.getElem?_append_right (Nat.le_refl _), Nat.sub_self]
 rfl
end Go.D
set_option linter.unusedVariables false
namespace Go.D
theorem PlOk.take {ts : List Zh} {ss : List Zf} (h : PlOk ts ss) {k : Nat} (hk : 1 ≤ k) : PlOk ts (ss.take k) := by
 have h1 := h.l
 have h2 := h.u
 refine ⟨by rw [List.length_take]; omega, by rw [List.length_take]; omega, fun s hs => h.s s (List.mem_of_mem_take hs), ?_⟩
 have hr := h.r
 rw [← List.take_append_drop k ss, planRun_app] at hr
 cases he : planRun ts (ss.take k) [] with
 | none => rw [he] at hr; cases hr
 | some l => rfl
theorem PlOk.ok {ts : List Zh} {ss : List Zf} (h : PlOk ts ss) (ht : TsFit ts) : planOk ts ss = true := by
 have h1 := h.l
 have h2 := h.u
 unfold planOk inR
 rw [h.r, ht.ok, decide_eq_true (by omega), decide_eq_true (by omega)]
 rfl
theorem short_fit {n : Int} {r : Zc} (h : RdOk n r) (hn : n ≤ 80000) : Wp (spec_l20Short r) fun x r' => RdOk (n + 1600) r' ∧ TsFit x.1 ∧ PlOk x.1 x.2 := by
 unfold spec_l20Short
 refine wp_then (tables_fit h (by omega)) fun ts r1 q1 => wp_then (plan_fit q1.2 q1.1 (by omega)) fun ss r2 q2 => ?_
 have h1 := q2.2.l
 have hm : minL ((ss.length : Int)) [4] = if 4 < (ss.length : Int) then 4 else (ss.length : Int) := rfl
 have hm1 : 1 ≤ minL ((ss.length : Int)) [4] ∧ minL ((ss.length : Int)) [4] ≤ ss.length := by
  rw [hm]
  split <;> omega
 refine wp_pick q2.1 (by omega) fun k r3 g3 k0 _ k1 => ?_
 have k1 : k < minL ((ss.length : Int)) [4] := k1 hm1.1
 simp only
 rw [w64_of (by omega) (by omega)]
 exact wp_front (by omega) (by omega) (wp_some ⟨g3.up (by omega), q1.2, q2.2.take (by omega)⟩)
structure TestedOk (x : (List Zh) × (List Zf) × (List Zd) × (List Zd)) : Prop where
 t : TsFit x.1
 p : PlOk x.1 x.2.1
 u : x.2.1.length ≤ 3
 a : ∃ n r r' f, RdOk n r ∧ n ≤ 5000 ∧ spec_l20Expr_f FUEL r (planCols x.1 x.2.1) 3 1 = some (x.2.2.1, r') ∧ spec_l20Expr_f FUEL r' (planCols x.1 x.2.1) 3 1 = some (x.2.2.2, f)
 ea : ExOk 100 x.2.2.1
 eb : ExOk 100 x.2.2.2
theorem draw_tested {b : List UInt8} (hb : b.length ≤ 1048576) : ∃ x, spec_DrawTested b = some x ∧ TestedOk x := by
 unfold spec_DrawTested
 have c1 : costE 1 ≤ 120 := by decide
 have l1 : lenE 1 ≤ 100 := by decide
 obtain ⟨r, e, hr⟩ := open_ok hb
 obtain ⟨x, r2, e2, q1, q2, q3⟩ := short_fit hr (by omega)
 rw [e, Option.bind_some, e2, Option.bind_some]
 have key : ∀ (k f : Nat) (ss : List Zf), ss.length ≤ k + 3 → k < f → PlOk x.1 ss → ∃ y, spec_DrawTested_l0 (x, r2) f ss = some y ∧ TestedOk y := by
  intro k
  induction k with
  | zero =>
   intro f ss hl hf hp
   obtain ⟨f, rfl⟩ : ∃ g, f = g + 1 := ⟨f - 1, by omega⟩
   have hcl := planCols_len (ts := x.1) (ss := ss)
   obtain ⟨a, r3, e3, g1, g2⟩ := expr_ok (cs := planCols x.1 ss) (by omega) 1 FUEL _ _ 3 1 (by omega) (by unfold FUEL; omega) (by omega) (by omega) q1 (by omega)
   obtain ⟨d, r4, e4, g3, g4⟩ := expr_ok (cs := planCols x.1 ss) (by omega) 1 FUEL _ _ 3 1 (by omega) (by unfold FUEL; omega) (by omega) (by omega) g1 (by omega)
   have e3' : spec_l20Expr r2 (planCols x.1 ss) 3 1 = some (a, r3) := e3
   have e4' : spec_l20Expr r3 (planCols x.1 ss) 3 1 = some (d, r4) := e4
   refine ⟨(x.1, ss, a, d), ?_, q2, hp, hl, ⟨_, _, _, _, q1, by omega, e3, e4⟩, g2.up l1, g4.up l1⟩
   rw [spec_DrawTested_l0, decide_eq_false (by omega), cond_false, spec_planCols q2.sm hp.sm, Option.bind_some, e3', Option.bind_some, e4', Option.bind_some]
  | succ k ih =>
   intro f ss hl hf hp
   by_cases h3 : ss.length ≤ k + 3
   ·exact ih f ss h3 (by omega) hp
   ·obtain ⟨f, rfl⟩ : ∃ g, f = g + 1 := ⟨f - 1, by omega⟩
    have hu := hp.u
    obtain ⟨y, h1, h2⟩ := ih f (ss.take (ss.length - 1)) (by rw [List.length_take]; omega) (by omega) (hp.take (by omega))
    refine ⟨y, ?_, h2⟩
    have e5 : slI ss none (some ((ss.length : Int) - 1)) none = some (ss.take (ss.length - 1)) := by
     unfold slI
     rw [if_pos (by simp only [Option.getD_none, Option.getD_some]; omega)]
     simp only [Option.getD_none, Option.getD_some, Int.toNat_zero, List.drop_zero]
     congr 2
     omega
    rw [spec_DrawTested_l0, decide_eq_true (by omega), cond_true, w64_of (by omega) (by omega), e5, Option.bind_some, h1]
 have hu := q3.u
 exact key 3 FUEL x.2 (by omega) (by unfold FUEL; omega) q3
abbrev stW (a : Int) (e : List Zd) : Zf := Zf.mk 2 a 0 0 e []
theorem made_where {ts : List Zh} {ms : List Ze} {m : Ze} {A : Int} {e : List Zd} (h : getI ms A = some m) : stepMade ts ms (stW A e) = bif exprKind m.fColumns e == 3 then some m else none := by
 obtain ⟨h0, h1, _⟩ := getI_spec h
 have f2 : fields (stW A e) = true := rfl
 have i1 : inR A 0 ((ms.length : Int) - 1) = true := by
  unfold inR
  rw [decide_eq_true h0, decide_eq_true (by omega)]
  rfl
 have i2 : inR 0 0 ((ms.length : Int) - 1) = true := by
  unfold inR
  rw [decide_eq_true (by omega), decide_eq_true (by omega)]
  rfl
 obtain ⟨m0, g0, _⟩ := getI_lt (xs := ms) (i := 0) (by omega) (by omega)
 unfold stepMade stepCols
 rw [f2, cond_true]
 show Option.map _ (bif inR A 0 (((ms.map (·.fColumns)).length : Int) - 1) && inR 0 0 (((ms.map (·.fColumns)).length : Int) - 1) then (getI (ms.map (·.fColumns)) A).bind fun a => (getI (ms.map (·.fColumns)) 0).bind fun b => stepOf (stW A e) a b else none) = _
 rw [List.length_map, i1, i2, getI_map, getI_map, h, g0]
 show Option.map _ (bif exprKind m.fColumns e == 3 then some m.fColumns else none) = _
 have hm : mostOf ms (stW A e) = m.fMost := by
  unfold mostOf
  simp only
  rw [h, g0]
  rfl
 rw [hm]
 cases exprKind m.fColumns e == 3 <;> rfl
end Go.D
set_option linter.unusedVariables false
namespace Go.D
def Good (cs : List Zb) (k : Int) (e : List Zd) : Prop := ∀ rest rs, exprRun cs (e ++ rest) rs = exprRun cs rest (k :: rs)
theorem run_step {cs : List Zb} {p : Zd} {ps : List Zd} {rs rs' : List Int} (h : Zad cs rs p = some rs') : exprRun cs (p :: ps) rs = exprRun cs ps rs' := by
 rw [exprRun, h]
theorem zero_nil : zeroV (Za.mk 0 0 (ByteArray.mk #[])) = true := by
 unfold zeroV
 simp [Zr, andB]
theorem kind_ne {k : Int} (h : inR k 1 3 = true) : k ≠ 0 := by rintro rfl; cases h
theorem good_val {cs : List Zb} {kd : Int} {v : Za} (hk : inR kd 1 3 = true) (hv : valOk v = true) (hf : fits ⟨kd, false⟩ v = true) : Good cs kd [Zd.mk 1 0 v] := by
 have hkd : v.fKind = kd := by
  unfold fits at hf
  simpa using hf
 intro rest rs
 refine run_step ?_
 show (bif (0 : Int) == 0 && (valOk v && !(v.fKind == 0)) then some (v.fKind :: rs) else none) = _
 rw [hv, hkd, beq_eq_false_iff_ne.2 (kind_ne hk)]
 rfl
theorem good_col {cs : List Zb} {kd k : Int} {c : Zb} (hc : getI cs k = some c) (hk : c.fKind = kd) : Good cs kd [Zd.mk 2 k (Za.mk 0 0 (ByteArray.mk #[]))] := by
 obtain ⟨h0, h1, _⟩ := getI_spec hc
 intro rest rs
 refine run_step ?_
 show (bif zeroV (Za.mk 0 0 (ByteArray.mk #[])) && inR k 0 ((cs.length : Int) - 1) then (getI cs k).map fun c => c.fKind :: rs else none) = _
 have : inR k 0 ((cs.length : Int) - 1) = true := by
  unfold inR
  rw [decide_eq_true h0, decide_eq_true (by omega)]
  rfl
 rw [zero_nil, this, hc, ← hk]
 rfl
section
variable {cs : List Zb} {a b : List Zd} {k : Int}
theorem Good.add (ha : Good cs 1 a) (hb : Good cs 1 b) : Good cs 1 (a ++ b ++ [Zd.mk 3 0 (Za.mk 0 0 (ByteArray.mk #[]))]) := fun rest rs => by
 rw [List.append_assoc, List.append_assoc, ha, hb]
 refine run_step ?_
 show (bif zeroV (Za.mk 0 0 (ByteArray.mk #[])) && (0 : Int) == 0 then _ else _) = _
 rw [zero_nil]
 rfl
theorem Good.cmp (ha : Good cs k a) (hb : Good cs k b) {n : Int} (hn : inR n 1 4 = true) : Good cs 3 (a ++ b ++ [Zd.mk 4 n (Za.mk 0 0 (ByteArray.mk #[]))]) := fun rest rs => by
 rw [List.append_assoc, List.append_assoc, ha, hb]
 refine run_step ?_
 show (bif zeroV (Za.mk 0 0 (ByteArray.mk #[])) && inR n 1 4 then (bif k == k then some (3 :: rs) else none) else none) = _
 rw [zero_nil, hn, beq_self_eq_true]
 rfl
theorem Good.both (ha : Good cs 3 a) (hb : Good cs 3 b) {n : Int} (hn : n = 5 ∨ n = 6) : Good cs 3 (a ++ b ++ [Zd.mk n 0 (Za.mk 0 0 (ByteArray.mk #[]))]) := fun rest rs => by
 rw [List.append_assoc, List.append_assoc, ha, hb]
 refine run_step ?_
 rcases hn with rfl | rfl
 ·show (bif zeroV (Za.mk 0 0 (ByteArray.mk #[])) && (0 : Int) == 0 then _ else _) = _
  rw [zero_nil]
  rfl
 ·show (bif zeroV (Za.mk 0 0 (ByteArray.mk #[])) && (0 : Int) == 0 then _ else _) = _
  rw [zero_nil]
  rfl
theorem Good.not (ha : Good cs 3 a) : Good cs 3 (a ++ [Zd.mk 7 0 (Za.mk 0 0 (ByteArray.mk #[]))]) := fun rest rs => by
 rw [List.append_assoc, ha]
 refine run_step ?_
 show (bif zeroV (Za.mk 0 0 (ByteArray.mk #[])) && (0 : Int) == 0 then _ else _) = _
 rw [zero_nil]
 rfl
theorem Good.isn (ha : Good cs k a) : Good cs 3 (a ++ [Zd.mk 8 0 (Za.mk 0 0 (ByteArray.mk #[]))]) := fun rest rs => by
 rw [List.append_assoc, ha]
 refine run_step ?_
 show (bif zeroV (Za.mk 0 0 (ByteArray.mk #[])) && (0 : Int) == 0 then _ else _) = _
 rw [zero_nil]
 rfl
theorem Good.kind (ha : Good cs k a) (hc : colsOk cs = true) (hl : a.length ≤ 12) : exprKind cs a = k := by
 have := ha [] []
 rw [List.append_nil] at this
 unfold exprKind
 rw [hc, decide_eq_true hl, Bool.and_self, cond_true, this]
 rfl
end
theorem wp_getK {α β : Type} {xs : List β} {i : Int} {f : β → Option (α × Zc)} {Q : α → Zc → Prop} (h0 : 0 ≤ i) (h1 : i < xs.length) (hk : ∀ x, getI xs i = some x → Wp (f x) Q) : Wp ((getI xs i).bind f) Q := by
 obtain ⟨x, h, hx⟩ := getI_lt h0 h1
 have := hk x h
 rw [h, Option.bind_some]
 exact this
theorem leaf_good {n : Int} {r : Zc} (h : RdOk n r) (hn : n ≤ 400000) (cs : List Zb) (hc : cs.length ≤ 100) {kd : Int} (hk : inR kd 1 3 = true) : Wp (spec_l20Leaf r cs kd) fun p r' => RdOk (n + 10) r' ∧ SmP p ∧ Good cs kd [p] := by
 unfold spec_l20Leaf
 have e0 : (ByteArray.mk #[]).size = 0 := rfl
 have j1 : ∀ (m : Int) (r : Zc) (x : Int) (K : Int → Zc → Option (Zd × Zc)) (b : Bool), RdOk m r → m ≤ n + 8 → (b = true → 0 < cs.length) → (b = true → ∀ r', RdOk (m + 2) r' → Wp (K (w64 (x + 1)) r') fun p r' => RdOk (n + 10) r' ∧ SmP p ∧ Good cs kd [p]) →
   Wp (spec_l20Leaf_j1 cs kd x r K b) fun p r' => RdOk (n + 10) r' ∧ SmP p ∧ Good cs kd [p] := by
  intro m r x K b hr hm hb hK
  unfold spec_l20Leaf_j1
  refine wp_bif (fun hbt => ?_) fun _ => wp_then (like_fit (c := ⟨kd, false⟩) hr (by omega) hk) fun v r1 hq => wp_some ⟨hq.1.up (by omega), by have := hq.2.1; unfold SmP SmV; simp only; omega, good_val hk hq.2.2.1 hq.2.2.2⟩
  have hpos := hb hbt
  refine wp_pick hr (by omega) fun k r1 g1 p0 _ p1 => wp_getK p0 (p1 (by omega)) fun c hck => ?_
  have j2 : ∀ (r2 : Zc) (b2 : Bool), (b2 = true → c.fKind = kd) → RdOk (m + 2) r2 → Wp (spec_l20Leaf_j2 x K (k, r1) b2 r2) fun p r' => RdOk (n + 10) r' ∧ SmP p ∧ Good cs kd [p] := by
   intro r2 b2 hbk h2
   unfold spec_l20Leaf_j2
   exact wp_bif (fun hb2 => wp_some ⟨h2.up (by omega), by unfold SmP SmV; simp only [e0]; omega, good_col hck (hbk hb2)⟩) fun _ => hK hbt r2 h2
  refine wp_bif (fun hck => wp_pick g1 (by omega) fun k2 r2 g2 _ _ _ => j2 _ _ (fun _ => eq_of_beq hck) (g2.up (by omega))) fun _ => j2 _ _ (fun h => by cases h) (g1.up (by omega))
 have main : ∀ (k f : Nat) (i : Nat) (r : Zc), i + k = 4 → k < f → RdOk (n + 2 * i) r → Wp (spec_l20Leaf_l0 cs kd f (i : Int) r) fun p r' => RdOk (n + 10) r' ∧ SmP p ∧ Good cs kd [p] := by
  intro k
  induction k with
  | zero =>
   intro f i r hi hf hr
   obtain ⟨f, rfl⟩ : ∃ f', f = f' + 1 := ⟨f - 1, by omega⟩
   rw [spec_l20Leaf_l0, decide_eq_false (by omega), cond_false]
   exact j1 _ _ _ _ _ hr (by omega) (fun h => by cases h) (fun h => by cases h)
  | succ k ih =>
   intro f i r hi hf hr
   obtain ⟨f, rfl⟩ : ∃ f', f = f' + 1 := ⟨f - 1, by omega⟩
   have hw : w64 ((i : Int) + 1) = ((i + 1 : Nat) : Int) := by rw [w64_of] <;> omega
   rw [spec_l20Leaf_l0, decide_eq_true (by omega), cond_true]
   refine j1 _ _ _ _ _ hr (by omega) (fun h => by have := of_decide_eq_true h; omega) (fun _ r' hr' => ?_)
   rw [hw]
   exact ih f (i + 1) r' (by omega) (by omega) (hr'.up (by omega))
 exact main 4 FUEL 0 r rfl (by unfold FUEL; omega) (h.up (by simp))
def Gx (cs : List Zb) (k : Int) (l : Nat) (e : List Zd) : Prop := ExOk l e ∧ Good cs k e
theorem in13 {k : Int} (h0 : 0 ≤ k) (h1 : k < 3) : inR (w64 (1 + k)) 1 3 = true := by
 rw [w64_of (by omega) (by omega)]
 unfold inR
 rw [decide_eq_true (by omega), decide_eq_true (by omega)]
 rfl
theorem expr_good {cs : List Zb} (hc : cs.length ≤ 100) : ∀ (d f : Nat) (n : Int) (r : Zc) (kd a : Int), inR kd 1 3 = true → d ≤ 4 → d < f → a ≤ d → -5 ≤ a → RdOk n r → n + costE d ≤ 300000 → Wp (spec_l20Expr_f f r cs kd a) fun e r' => RdOk (n + costE d) r' ∧ Gx cs kd (lenE d) e
 | d, 0, n, r, kd, a, _, _, hf, _, _, _, _ => absurd hf (Nat.not_lt_zero _)
 | 0, f + 1, n, r, kd, a, hk, _, _, ha, _, hr, hn => by
  have c0 : costE 0 = 12 := rfl
  rw [spec_l20Expr_f]
  unfold spec_l20Expr_s
  rw [decide_eq_true (by omega), cond_true]
  unfold spec_l20Expr_j0
  rw [cond_true]
  exact wp_then (leaf_good hr (by omega) cs hc hk) fun p r1 hq => wp_some ⟨hq.1.up (by omega), (ExOk.one hq.2.1).up (by simp [lenE]), hq.2.2⟩
 | d + 1, f + 1, n, r, kd, a, hk, hd, hf, ha, ha2, hr, hn => by
  have cp := costE_pos d
  have lp := lenE_pos d
  have c4 : costE d ≤ 500 := by
   match d, hd with
   | 0, _ => simp [costE]
   | 1, _ => simp [costE]
   | 2, _ => simp [costE]
   | 3, _ => simp [costE]
  have ce : costE (d + 1) = 2 * costE d + 24 := rfl
  have le : lenE (d + 1) = 2 * lenE d + 2 := rfl
  have l4 : lenE d ≤ 100 := by
   match d, hd with
   | 0, _ => simp [lenE]
   | 1, _ => simp [lenE]
   | 2, _ => simp [lenE]
   | 3, _ => simp [lenE]
  have leafE : ∀ (m : Int) (r : Zc), RdOk m r → m ≤ n + 2 → Wp ((spec_l20Leaf r cs kd).bind fun v4 => some (([v4.1] : List Zd), v4.2)) fun e r' => RdOk (n + costE (d + 1)) r' ∧ Gx cs kd (lenE (d + 1)) e := by
   intro m r hr hm
   exact wp_then (leaf_good hr (by omega) cs hc hk) fun p r1 hq => wp_some ⟨hq.1.up (by omega), (ExOk.one hq.2.1).up (by omega), hq.2.2⟩
  rw [spec_l20Expr_f]
  unfold spec_l20Expr_s
  by_cases h1 : a < 1
  ·rw [decide_eq_true h1, cond_true]
   unfold spec_l20Expr_j0
   rw [cond_true]
   exact leafE _ _ hr (by omega)
  rw [decide_eq_false h1, cond_false]
  have w1 : w64 (a - 1) = a - 1 := w64_of (by omega) (by omega)
  have w2 : w64 (a - 2) = a - 2 := w64_of (by omega) (by omega)
  have ih := fun (n : Int) (r : Zc) (k b : Int) (hk : inR k 1 3 = true) (hb : b ≤ d) (hb2 : -5 ≤ b) (hr : RdOk n r) (hn : n + costE d ≤ 300000) => expr_good hc d f n r k b hk (by omega) (by omega) hb hb2 hr hn
  refine wp_pick hr (by omega) fun k0 r0 g0 _ _ _ => ?_
  unfold spec_l20Expr_j0
  simp only [w1, w2]
  refine wp_bif (fun _ => leafE _ _ g0 (by omega)) fun _ => wp_bif (fun e1 => ?_) fun n1 => wp_bif (fun _ => leafE _ _ g0 (by omega)) fun n2 => ?_
  ·have e1 := eq_of_beq e1
   subst e1
   refine wp_then (ih _ _ 1 (a - 1) rfl (by omega) (by omega) g0 (by omega)) fun e1 r1 q1 => wp_then (leaf_good q1.1 (by omega) cs hc rfl) fun p r2 q2 => ?_
   have x1 := q1.2.1.app (ExOk.one q2.2.1)
   have x2 := x1.app (ExOk.one (smP_op 3 0))
   have l1 := q1.2.1.1
   refine wp_app (by simp; omega) (wp_app (by simp; omega) (wp_some ⟨q2.1.up (by omega), x2.up (by omega), q1.2.2.add q2.2.2⟩))
  ·have e3 : kd = 3 := by
    unfold inR at hk
    simp at hk n1 n2
    omega
   subst e3
   refine wp_pick g0 (by omega) fun k1 r1 g1 _ _ _ => wp_bif (fun _ => ?_) fun _ => wp_bif (fun _ => ?_) fun _ => wp_bif (fun _ => ?_) fun _ => ?_
   ·refine wp_then (ih _ _ 3 (a - 1) rfl (by omega) (by omega) g1 (by omega)) fun e1 r2 q1 => wp_then (ih _ _ 3 (a - 2) rfl (by omega) (by omega) q1.1 (by omega)) fun e2 r3 q2 => ?_
    have l1 := q1.2.1.1
    have l2 := q2.2.1.1
    refine wp_app (by (try simp only); omega) (wp_pick q2.1 (by omega) fun k2 r4 g4 p0 _ p1 => wp_app (by simp; omega) (wp_some ⟨g4.up (by omega), ((q1.2.1.app q2.2.1).app (ExOk.one (smP_op _ 0))).up (by omega), q1.2.2.both q2.2.2 ?_⟩))
    have p1 := p1 (by omega)
    simp only
    rw [w64_of (by omega) (by omega)]
    omega
   ·refine wp_then (ih _ _ 3 (a - 1) rfl (by omega) (by omega) g1 (by omega)) fun e1 r2 q1 => ?_
    have l1 := q1.2.1.1
    exact wp_app (by simp; omega) (wp_some ⟨q1.1.up (by omega), (q1.2.1.app (ExOk.one (smP_op _ 0))).up (by omega), q1.2.2.not⟩)
   ·refine wp_pick g1 (by omega) fun k2 r2 g2 p0 _ p1 => wp_then (ih _ _ _ (a - 1) (in13 p0 (p1 (by omega))) (by omega) (by omega) g2 (by omega)) fun e1 r3 q1 => ?_
    have l1 := q1.2.1.1
    exact wp_app (by simp; omega) (wp_some ⟨q1.1.up (by omega), (q1.2.1.app (ExOk.one (smP_op _ 0))).up (by omega), q1.2.2.isn⟩)
   ·refine wp_pick g1 (by omega) fun k2 r2 g2 p0 _ p1 => wp_then (ih _ _ _ (a - 1) (in13 p0 (p1 (by omega))) (by omega) (by omega) g2 (by omega)) fun e1 r3 q1 => wp_then (leaf_good q1.1 (by omega) cs hc (in13 p0 (p1 (by omega)))) fun p r4 q2 => ?_
    have l1 := q1.2.1.1
    refine wp_app (by simp; omega) (wp_pick q2.1 (by omega) fun k3 r5 g5 p0 _ p1 => wp_app (by simp; omega) (wp_some ⟨g5.up (by omega), ((q1.2.1.app (ExOk.one q2.2.1)).app (ExOk.one (smP_op _ _))).up (by omega), q1.2.2.cmp q2.2.2 ?_⟩))
    have p1 := p1 (by omega)
    simp only
    rw [w64_of (by omega) (by omega)]
    unfold inR
    rw [decide_eq_true (by omega), decide_eq_true (by omega)]
    rfl
end Go.D
