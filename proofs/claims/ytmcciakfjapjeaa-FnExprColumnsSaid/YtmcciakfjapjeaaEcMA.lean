import Derived.Test.YtmcciakfjapjeaaEcDXFB
import Derived.Test.YtmcciakfjapjeaaEcDXFB
import Derived.Test.YtmcciakfjapjeaaEcDShow
import Derived.ChangeArms
import Derived.ChangeShapes
import Derived.Deep.Slices
import Derived.Test.YtmcciakfjapjeaaEcDOwn3
import Derived.Test.YtmcciakfjapjeaaEcDNil
import Derived.Test.YtmcciakfjapjeaaEcDMin
import Derived.Test.YtmcciakfjapjeaaEcDPrim
import Derived.Test.YtmcciakfjapjeaaEcDXT
import Derived.OpenShut
import Derived.ReadAgain
import Derived.ProofKit
set_option linter.unusedVariables false
namespace Go.D
def spec_ValueOf_j0 (a0 : Int) (x1 : Bool) : Option T_impl_Value := bif x1 then some (T_impl_Value.mk 3 a0 (ByteArray.mk #[])) else some (T_impl_Value.mk 0 0 (ByteArray.mk #[]))
def spec_ValueOf (a0 : Int) : Option T_impl_Value := bif (a0 == 0) then spec_ValueOf_j0 a0 true else spec_ValueOf_j0 a0 (a0 == 1)
def spec_l4Sum_j0 (a0 : T_impl_Value) (a1 : T_impl_Value) (x1 : Bool) : Option T_impl_Value := bif x1 then some (T_impl_Value.mk 0 0 (ByteArray.mk #[])) else some (T_impl_Value.mk 1 (w64 (a0.fN + a1.fN)) (ByteArray.mk #[]))
def spec_l4Sum (a0 : T_impl_Value) (a1 : T_impl_Value) : Option T_impl_Value := bif (a0.fKind == 0) then spec_l4Sum_j0 a0 a1 true else bif (a1.fKind == 0) then spec_l4Sum_j0 a0 a1 true else (spec_l1In (w64 (a0.fN + a1.fN)) (-9999) 9999).bind fun v3 => spec_l4Sum_j0 a0 a1 (!v3)
def spec_l2Bool (a0 : Bool) : Option Int := bif a0 then some 1 else some 0
def spec_TruthOk (a0 : Int) : Option Bool := (spec_l1In a0 0 2).bind fun v1 => some v1
def spec_l2Sure (a0 : Int) : Option Int := (getI ([0, 2, 1] : List Int) a0).bind fun v1 => some v1
def spec_l1Less (a0 : Int) (a1 : Int) : Option Int := bif (decide (a0 < a1)) then some 1 else some 0
def spec_l1Cmp (a0 : ByteArray) (a1 : ByteArray) : Option Int := bif (Op.bytesLess a0.toList a1.toList) then some (-1) else bif (!Op.bytesLess a0.toList a1.toList && !(a0.toList == a1.toList)) then some 1 else some 0
def spec_AndOf_j0 (a0 : Int) (a1 : Int) (x1 : Bool) : Option Int := bif x1 then some (-1) else (spec_l2Sure a0).bind fun v3 => (spec_l2Sure a1).bind fun v5 => (spec_l2Sure (minL v3 [v5])).bind fun v7 => some v7
def spec_AndOf (a0 : Int) (a1 : Int) : Option Int := (spec_TruthOk a0).bind fun v9 => bif (!v9) then spec_AndOf_j0 a0 a1 true else (spec_TruthOk a1).bind fun v11 => spec_AndOf_j0 a0 a1 (!v11)
def spec_TruthOf_j0 (a0 : T_impl_Value) (x1 : Bool) : Option Int := bif x1 then some (-1) else bif (a0.fKind == 0) then some 2 else some a0.fN
def spec_TruthOf (a0 : T_impl_Value) : Option Int := (spec_ValueOk a0).bind fun v4 => bif (!v4) then spec_TruthOf_j0 a0 true else bif (a0.fKind == 1) then spec_TruthOf_j0 a0 true else spec_TruthOf_j0 a0 (a0.fKind == 2)
def spec_OrOf_j0 (a0 : Int) (a1 : Int) (x1 : Bool) : Option Int := bif x1 then some (-1) else (spec_l2Sure a0).bind fun v3 => (spec_l2Sure a1).bind fun v5 => (spec_l2Sure (maxL v3 [v5])).bind fun v7 => some v7
def spec_OrOf (a0 : Int) (a1 : Int) : Option Int := (spec_TruthOk a0).bind fun v9 => bif (!v9) then spec_OrOf_j0 a0 a1 true else (spec_TruthOk a1).bind fun v11 => spec_OrOf_j0 a0 a1 (!v11)
def spec_NotOf (a0 : Int) : Option Int := (spec_TruthOk a0).bind fun v1 => bif (!v1) then some (-1) else (spec_l2Sure a0).bind fun v4 => (spec_l2Sure (w64 (2 - v4))).bind fun v6 => some v6
def spec_ValueOrder_j0 (a0 : T_impl_Value) (a1 : T_impl_Value) (x1 : Bool) : Option Int := bif x1 then some 0 else bif (!(a0.fKind == a1.fKind)) then (spec_l1Less a1.fKind a0.fKind).bind fun v4 => some (w64 ((w64 (2 * v4)) - 1)) else bif (!(a0.fN == a1.fN)) then (spec_l1Less a1.fN a0.fN).bind fun v7 => some (w64 ((w64 (2 * v7)) - 1)) else (spec_l1Cmp a0.fS a1.fS).bind fun v9 => some v9
def spec_ValueOrder (a0 : T_impl_Value) (a1 : T_impl_Value) : Option Int := (spec_ValueOk a0).bind fun v11 => bif (!v11) then spec_ValueOrder_j0 a0 a1 true else (spec_ValueOk a1).bind fun v13 => spec_ValueOrder_j0 a0 a1 (!v13)
def spec_Compare_j1 (a0 : Int) (a1 : T_impl_Value) (a2 : T_impl_Value) (x3 : Bool) : Option Int := bif x3 then some 2 else bif (!(a1.fKind == a2.fKind)) then some (-1) else bif (a0 == 1) then (spec_ValueOrder a1 a2).bind fun v7 => (spec_l2Bool (v7 == 0)).bind fun v9 => some v9 else bif (a0 == 2) then (spec_ValueOrder a1 a2).bind fun v12 => (spec_l2Bool (!(v12 == 0))).bind fun v14 => some v14 else bif (a0 == 3) then (spec_ValueOrder a1 a2).bind fun v17 => (spec_l2Bool (decide (v17 < 0))).bind fun v19 => some v19 else (spec_ValueOrder a1 a2).bind fun v21 => (spec_l2Bool (decide (v21 ≤ 0))).bind fun v23 => some v23
def spec_Compare_j0 (a0 : Int) (a1 : T_impl_Value) (a2 : T_impl_Value) (x1 : Bool) : Option Int := bif x1 then some (-1) else bif (a1.fKind == 0) then spec_Compare_j1 a0 a1 a2 true else spec_Compare_j1 a0 a1 a2 (a2.fKind == 0)
def spec_Compare (a0 : Int) (a1 : T_impl_Value) (a2 : T_impl_Value) : Option Int := (spec_l1In a0 1 4).bind fun v26 => bif (!v26) then spec_Compare_j0 a0 a1 a2 true else (spec_ValueOk a1).bind fun v28 => bif (!v28) then spec_Compare_j0 a0 a1 a2 true else (spec_ValueOk a2).bind fun v30 => spec_Compare_j0 a0 a1 a2 (!v30)
def spec_l4Do (a0 : List T_impl_Value) (a1 : List T_impl_Value) (a2 : T_impl_Part) : Option (List T_impl_Value) := bif (a2.fKind == 1) then (app a1 ([a2.fV] : List T_impl_Value)).bind fun v2 => some v2 else bif (a2.fKind == 2) then (getI a0 a2.fN).bind fun v5 => (app a1 ([v5] : List T_impl_Value)).bind fun v7 => some v7 else bif (a2.fKind == 3) then (slI a1 none (some (w64 ((a1.length : Int) - 2))) none).bind fun v10 => (getI a1 (w64 ((a1.length : Int) - 2))).bind fun v12 => (getI a1 (w64 ((a1.length : Int) - 1))).bind fun v14 => (spec_l4Sum v12 v14).bind fun v16 => (appT a1 ([v16] : List T_impl_Value) v10.length).bind fun v18 => some v18 else bif (a2.fKind == 4) then (slI a1 none (some (w64 ((a1.length : Int) - 2))) none).bind fun v21 => (getI a1 (w64 ((a1.length : Int) - 2))).bind fun v23 => (getI a1 (w64 ((a1.length : Int) - 1))).bind fun v25 => (spec_Compare a2.fN v23 v25).bind fun v27 => (spec_ValueOf v27).bind fun v29 => (appT a1 ([v29] : List T_impl_Value) v21.length).bind fun v31 => some v31 else bif (a2.fKind == 5) then (slI a1 none (some (w64 ((a1.length : Int) - 2))) none).bind fun v34 => (getI a1 (w64 ((a1.length : Int) - 2))).bind fun v36 => (spec_TruthOf v36).bind fun v38 => (getI a1 (w64 ((a1.length : Int) - 1))).bind fun v40 => (spec_TruthOf v40).bind fun v42 => (spec_AndOf v38 v42).bind fun v44 => (spec_ValueOf v44).bind fun v46 => (appT a1 ([v46] : List T_impl_Value) v34.length).bind fun v48 => some v48 else bif (a2.fKind == 6) then (slI a1 none (some (w64 ((a1.length : Int) - 2))) none).bind fun v51 => (getI a1 (w64 ((a1.length : Int) - 2))).bind fun v53 => (spec_TruthOf v53).bind fun v55 => (getI a1 (w64 ((a1.length : Int) - 1))).bind fun v57 => (spec_TruthOf v57).bind fun v59 => (spec_OrOf v55 v59).bind fun v61 => (spec_ValueOf v61).bind fun v63 => (appT a1 ([v63] : List T_impl_Value) v51.length).bind fun v65 => some v65 else bif (a2.fKind == 7) then (slI a1 none (some (w64 ((a1.length : Int) - 1))) none).bind fun v68 => (getI a1 (w64 ((a1.length : Int) - 1))).bind fun v70 => (spec_TruthOf v70).bind fun v72 => (spec_NotOf v72).bind fun v74 => (spec_ValueOf v74).bind fun v76 => (appT a1 ([v76] : List T_impl_Value) v68.length).bind fun v78 => some v78 else (slI a1 none (some (w64 ((a1.length : Int) - 1))) none).bind fun v80 => (getI a1 (w64 ((a1.length : Int) - 1))).bind fun v82 => (spec_l2Bool (v82.fKind == 0)).bind fun v84 => (spec_ValueOf v84).bind fun v86 => (appT a1 ([v86] : List T_impl_Value) v80.length).bind fun v88 => some v88
end Go.D
set_option linter.unusedVariables false
namespace Go.D
def Rd (P : Program) (t : TypeId) (α : Type) [Enc α] (W : α → Prop) : Prop :=
 P.cellsOf t = Enc.sz α ∧ ∀ (H : Type) (enc : TypeId × Value → H) (w : World) (base : Nat) (sp : Nat → Bool) (held : Bool) (fuel : Nat) (cs : List Value) (x : DataW H × List MemPlace), DataW.trod enc P w base sp held fuel t cs = some x →
  ∃ y : α, FrL w (fun _ => False) (Enc.cells y) cs ∧ W y
def u8W (_ : UInt8) : Prop := True
def listW {α : Type} (W : α → Prop) (l : List α) : Prop := l.length ≤ 9223372036854775807 ∧ ∀ x ∈ l, W x
section
variable {P : Program}
theorem rd_u8 {t : TypeId} (ht : P.underlying t = some (.int .u8)) (hc : P.cellsOf t = 1) : Rd P t UInt8 u8W := ⟨hc, fun H enc w base sp held fuel cs x h => by
 obtain ⟨n, rfl, _, hw⟩ := DataW.trod_int ht h
 have hn : 0 ≤ n ∧ n ≤ 255 := by simpa [Lit.wf, IntKind.min, IntKind.max, IntKind.signed, IntKind.bits] using hw
 refine ⟨UInt8.ofNat n.toNat, ?_, trivial⟩
 show FrL w _ [.lit (.int .u8 (UInt8.ofNat n.toNat).toNat)] _
 simp only [FrL]
 refine ⟨_, _, rfl, ?_, rfl⟩
 simp only [Fr]
 congr 1
 rw [UInt8.toNat_ofNat']
 omega⟩
theorem eL_flat {α : Type} [Enc α] {w : World} {M : Nat → Prop} : ∀ {ys : List α} {uss : List (List Value)}, ys.length = uss.length → (∀ (i : Nat) (y : α) (us : List Value), ys[i]? = some y → uss[i]? = some us → FrL w M (Enc.cells y) us) → FrL w M (eL ys) uss.flatten
 | [], [], _, _ => by simp [eL, FrL]
 | [], _ :: _, h, _ => by simp at h
 | _ :: _, [], h, _ => by simp at h
 | y :: ys, us :: uss, h, k => by
  simp only [eL, List.flatten_cons]
  exact FrL.append (k 0 y us rfl rfl) (eL_flat (by simpa using h) fun i y' us' h1 h2 => k (i + 1) y' us' (by simpa using h1) (by simpa using h2))
theorem flat_get {sz : Nat} (hsz : 0 < sz) : ∀ {uss : List (List Value)}, (∀ us ∈ uss, us.length = sz) → ∀ {j : Nat} {v : Value}, uss.flatten[j]? = some v → ∃ us, uss[j / sz]? = some us ∧ us[j % sz]? = some v
 | [], _, j, v, h => by simp at h
 | us :: uss, hl, j, v, h => by
  have h0 : us.length = sz := hl us (by simp)
  simp only [List.flatten_cons] at h
  rcases Nat.lt_or_ge j sz with hj | hj
  ·rw [List.getElem?_append_left (by omega)] at h
   refine ⟨us, by rw [Nat.div_eq_of_lt hj]; rfl, by rw [Nat.mod_eq_of_lt hj]; exact h⟩
  ·rw [List.getElem?_append_right (by omega), h0] at h
   obtain ⟨us', h1, h2⟩ := flat_get hsz (fun us' hu => hl us' (by simp [hu])) h
   refine ⟨us', ?_, ?_⟩
   ·have : j / sz = (j - sz) / sz + 1 := by rw [Nat.div_eq_sub_div hsz hj]
    rw [this]
    simpa using h1
   ·rw [Nat.mod_eq_sub_mod hj]; exact h2
theorem rd_slice {t e : TypeId} {α : Type} [Enc α] {W : α → Prop} (ht : P.underlying t = some (.slice e)) (hc : P.cellsOf t = 1) (he : Rd P e α W) : Rd P t (List α) (listW W) := ⟨hc, fun H enc w base sp held fuel cs x h => by
 obtain ⟨hce, he⟩ := he
 have hpos : 0 < Enc.sz α := Enc.pos
 have fin : ∀ (ys : List α) (v : Value), Fr w (fun _ => False) (A ys) v → listW W ys → ∃ y : List α, FrL w (fun _ => False) (Enc.cells y) [v] ∧ listW W y := fun ys v h1 h2 => ⟨ys, by
  show FrL w _ [A ys] _
  simp only [FrL]
  exact ⟨_, _, rfl, h1, rfl⟩, h2⟩
 rcases Go.Deep.open_slice ht h with ⟨rfl, _⟩ | ⟨a, len, cap, m, n, D, Pl, rfl, hb, hl, hm, hmm, _, hx⟩
 ·exact fin [] _ (Fr.nil w _ _ hpos) ⟨by simp, by simp⟩
 ·have hcapm : cap ≤ maxI := by simpa [maxLen, maxI] using hm
  by_cases h0 : len = 0
  ·subst h0
   refine fin [] _ ?_ ⟨by simp, by simp⟩
   simp only [Fr]
   exact ⟨some a, cap, rfl, ⟨hpos, by simp [eL], by simp, hcapm, fun h => by cases h⟩, .inl rfl⟩
  ·have hlm : len ≤ m := by rw [hmm]; split <;> omega
   have hel : ∀ i, i < len → ∃ p : List Value × α, w.cells? base (a.add (i * P.cellsOf e)) (P.cellsOf e) = some p.1 ∧ FrL w (fun _ => False) (Enc.cells p.2) p.1 ∧ W p.2 := by
    intro i hi
    obtain ⟨cs', h1, h2⟩ := hx i (by omega)
    obtain ⟨y, h3, h4⟩ := he H enc w base sp held n cs' _ h2
    exact ⟨(cs', y), h1, h3, h4⟩
   obtain ⟨p0, hp0⟩ := hel 0 (by omega)
   haveI : Inhabited (List Value × α) := ⟨p0⟩
   obtain ⟨F, hF⟩ := Go.Deep.choose_lt (α := List Value × α) (p := fun i p => w.cells? base (a.add (i * P.cellsOf e)) (P.cellsOf e) = some p.1 ∧ FrL w (fun _ => False) (Enc.cells p.2) p.1 ∧ W p.2) hel
   let ys : List α := (List.range len).map fun i => (F i).2
   let uss : List (List Value) := (List.range len).map fun i => (F i).1
   have hul : ∀ us ∈ uss, us.length = Enc.sz α := by
    intro us hu
    obtain ⟨i, hi, rfl⟩ := List.mem_map.1 hu
    have := (World.cells?_some (hF i (List.mem_range.1 hi)).1).2.1
    rw [this, hce]
   have hys : ys.length = len := by simp [ys]
   have hfl : FrL w (fun _ => False) (eL ys) uss.flatten := eL_flat (by simp [ys, uss]) fun i y us h1 h2 => by
    simp only [ys, uss, List.getElem?_map] at h1 h2
    have hi : i < len := by
     cases hr : (List.range len)[i]? with
     | none => rw [hr] at h1; cases h1
     | some k => have := (List.getElem?_eq_some_iff.1 hr).1; simpa using this
    rw [List.getElem?_range hi] at h1 h2
    simp only [Option.map_some, Option.some.injEq] at h1 h2
    rw [← h1, ← h2]
    exact (hF i hi).2.1
   have hul0 : ((F 0).1).length = Enc.sz α := hul _ (List.mem_map.2 ⟨0, by simp; omega, rfl⟩)
   have h00 : ∃ v, w.cell? a = some v := by
    have h1 := (World.cells?_some (hF 0 (by omega)).1).2.2 0 (by rw [hce]; exact hpos)
    rw [List.getElem?_eq_getElem (by omega)] at h1
    refine ⟨_, Eq.trans ?_ h1⟩
    simp [Addr.add]
   obtain ⟨v00, hv00⟩ := h00
   have hspot : a.spot = none := World.cell?_spot hv00
   obtain ⟨ab, ao, as_⟩ := a
   simp only at hspot
   subst hspot
   have hcell : ∀ i j, i < len → j < Enc.sz α → w.cell? ⟨ab, ao + (i * Enc.sz α + j), none⟩ = ((F i).1)[j]? := by
    intro i j hi hj
    have := (World.cells?_some (hF i hi).1).2.2 j (by rw [hce]; exact hj)
    rw [hce] at this
    rw [← this]
    congr 1
    unfold Addr.add
    split <;> split <;> simp_all <;> omega
   refine fin ys _ ?_ ⟨by rw [hys]; simp only [maxI] at hcapm; omega, fun y hy => by
    obtain ⟨i, hi, rfl⟩ := List.mem_map.1 hy
    exact (hF i (List.mem_range.1 hi)).2.2⟩
   simp only [Fr]
   refine ⟨some ⟨ab, ao, none⟩, cap, by rw [hys], ⟨hpos, by rw [eL_len], by rw [hys]; exact hl, hcapm, fun h => by cases h⟩, .inr ⟨ab, ao, uss.flatten, rfl, World.block_lt_of_cell? _ _ hv00, fun h => h, hfl, fun j hj => ?_⟩⟩
   obtain ⟨us, h1, h2⟩ := flat_get hpos hul (List.getElem?_eq_getElem hj)
   have hi : j / Enc.sz α < len := by
    have := (List.getElem?_eq_some_iff.1 h1).1
    simpa [uss] using this
   simp only [uss, List.getElem?_map, List.getElem?_range hi, Option.map_some, Option.some.injEq] at h1
   have := hcell (j / Enc.sz α) (j % Enc.sz α) hi (Nat.mod_lt _ hpos)
   rw [h1, h2] at this
   have e1 : j / Enc.sz α * Enc.sz α + j % Enc.sz α = j := by rw [Nat.mul_comm]; exact Nat.div_add_mod j _
   rw [e1] at this
   rw [List.getElem?_eq_getElem hj, ← this]⟩
end
end Go.D
set_option linter.unusedVariables false
namespace Go.D
theorem w64_of {n : Int} (h1 : -9223372036854775808 ≤ n) (h2 : n ≤ 9223372036854775807) : w64 n = n := by
 have hm : IntKind.i64.min = -9223372036854775808 := by decide
 have hM : IntKind.i64.max = 9223372036854775807 := by decide
 simp [w64, IntKind.wrap, IntKind.signed, IntKind.bits]
 omega
theorem getI_nat {α : Type} {xs : List α} {i : Nat} : getI xs (i : Int) = xs[i]? := by
 unfold getI
 rw [if_pos (by omega), Int.toNat_natCast]
theorem getI_lt {α : Type} {xs : List α} {i : Int} (h0 : 0 ≤ i) (h1 : i < xs.length) : ∃ x, getI xs i = some x ∧ xs[i.toNat]? = some x := by
 unfold getI
 rw [if_pos h0]
 have : i.toNat < xs.length := by omega
 exact ⟨xs[i.toNat], by rw [List.getElem?_eq_getElem this], by rw [List.getElem?_eq_getElem this]⟩
theorem app_lt {α : Type} {xs ys : List α} (h : xs.length + ys.length < 68719476736) : app xs ys = some (xs ++ ys) := if_pos h
theorem succ_w {i n : Nat} (h : i < n) (hn : n ≤ 70368744177663) : w64 ((i : Int) + 1) = ((i + 1 : Nat) : Int) := by
 rw [w64_of (by omega) (by omega)]
 omega
theorem loop_all {α : Type} {xs : List α} {L : Nat → Int → Option Bool} {p : α → Bool} {fin : Bool} (hlen : xs.length ≤ 70368744177662)
  (h : ∀ (f i : Nat) (v : α), i < xs.length → xs[i]? = some v → w64 ((i : Int) + 1) = ((i + 1 : Nat) : Int) → L (f + 1) i = bif p v then L f ((i + 1 : Nat) : Int) else some false)
  (he : ∀ f, L (f + 1) (xs.length : Int) = some fin) : L FUEL 0 = some (xs.all p && fin) := by
 have main : ∀ (k f i : Nat), i + k = xs.length → k < f → L f (i : Int) = some ((xs.drop i).all p && fin) := by
  intro k
  induction k with
  | zero =>
   intro f i hi hf
   obtain ⟨f, rfl⟩ : ∃ f', f = f' + 1 := ⟨f - 1, by omega⟩
   have : i = xs.length := by omega
   subst this
   rw [he, List.drop_length]
   simp
  | succ k ih =>
   intro f i hi hf
   obtain ⟨f, rfl⟩ : ∃ f', f = f' + 1 := ⟨f - 1, by omega⟩
   have hlt : i < xs.length := by omega
   rw [h f i xs[i] hlt (List.getElem?_eq_getElem hlt) (succ_w hlt (by omega)), ih f (i + 1) (by omega) (by omega), List.drop_eq_getElem_cons hlt, List.all_cons]
   cases p xs[i] <;> simp
 have := main xs.length FUEL 0 (by omega) (by unfold FUEL; omega)
 simpa using this
theorem loop_find {α : Type} {xs : List α} {L : Nat → Int → Option Int} {p : α → Bool} (hlen : xs.length ≤ 70368744177662)
  (h : ∀ (f i : Nat) (v : α), i < xs.length → xs[i]? = some v → w64 ((i : Int) + 1) = ((i + 1 : Nat) : Int) → L (f + 1) i = bif p v then some (i : Int) else L f ((i + 1 : Nat) : Int))
  (he : ∀ f, L (f + 1) (xs.length : Int) = some (-1)) : ∃ r, L FUEL 0 = some r ∧ decide (r ≥ 0) = xs.any p := by
 have main : ∀ (k f i : Nat), i + k = xs.length → k < f → ∃ r, L f (i : Int) = some r ∧ decide (r ≥ 0) = (xs.drop i).any p := by
  intro k
  induction k with
  | zero =>
   intro f i hi hf
   obtain ⟨f, rfl⟩ : ∃ f', f = f' + 1 := ⟨f - 1, by omega⟩
   have : i = xs.length := by omega
   subst this
   rw [he, List.drop_length]
   exact ⟨_, rfl, by simp⟩
  | succ k ih =>
   intro f i hi hf
   obtain ⟨f, rfl⟩ : ∃ f', f = f' + 1 := ⟨f - 1, by omega⟩
   have hlt : i < xs.length := by omega
   rw [h f i xs[i] hlt (List.getElem?_eq_getElem hlt) (succ_w hlt (by omega)), List.drop_eq_getElem_cons hlt, List.any_cons]
   cases hp : p xs[i] with
   | true => exact ⟨_, rfl, by simp⟩
   | false =>
    obtain ⟨r, h1, h2⟩ := ih f (i + 1) (by omega) (by omega)
    exact ⟨r, h1, by simp [h2]⟩
 have := main xs.length FUEL 0 (by omega) (by unfold FUEL; omega)
 simpa using this
theorem loop_rec {α σ β : Type} {xs : List α} {L : Nat → Int → σ → Option β} (R : List α → σ → β) (Inv : Nat → σ → Prop) (hlen : xs.length ≤ 70368744177662)
  (h : ∀ (f i : Nat) (s : σ) (v : α) (rest : List α), i < xs.length → xs[i]? = some v → w64 ((i : Int) + 1) = ((i + 1 : Nat) : Int) → Inv i s →
   L (f + 1) i s = some (R (v :: rest) s) ∨ ∃ s', Inv (i + 1) s' ∧ L (f + 1) i s = L f ((i + 1 : Nat) : Int) s' ∧ R (v :: rest) s = R rest s')
  (he : ∀ f s, Inv xs.length s → L (f + 1) (xs.length : Int) s = some (R [] s)) {s : σ} (h0 : Inv 0 s) : L FUEL 0 s = some (R xs s) := by
 have main : ∀ (k f i : Nat) (s : σ), i + k = xs.length → k < f → Inv i s → L f (i : Int) s = some (R (xs.drop i) s) := by
  intro k
  induction k with
  | zero =>
   intro f i s hi hf hI
   obtain ⟨f, rfl⟩ : ∃ f', f = f' + 1 := ⟨f - 1, by omega⟩
   have : i = xs.length := by omega
   subst this
   rw [he _ _ hI, List.drop_length]
  | succ k ih =>
   intro f i s hi hf hI
   obtain ⟨f, rfl⟩ : ∃ f', f = f' + 1 := ⟨f - 1, by omega⟩
   have hlt : i < xs.length := by omega
   rw [List.drop_eq_getElem_cons hlt]
   rcases h f i s xs[i] (xs.drop (i + 1)) hlt (List.getElem?_eq_getElem hlt) (succ_w hlt (by omega)) hI with h1 | ⟨s', h1, h2, h3⟩
   ·exact h1
   ·rw [h2, h3]
    exact ih f (i + 1) s' (by omega) (by omega) h1
 have := main xs.length FUEL 0 s (by omega) (by unfold FUEL; omega) h0
 simpa using this
end Go.D
set_option linter.unusedVariables false
namespace Go.D
abbrev Sm (n : Nat) : Prop := n ≤ 2097152
def inR (a b c : Int) : Bool := decide (b ≤ a) && decide (a ≤ c)
theorem spec_in (a b c : Int) : spec_l1In a b c = some (inR a b c) := by
 unfold spec_l1In inR
 by_cases h : b ≤ a <;> simp [h]
theorem impl_in (a b c : Int) : impl_between a b c = some (inR a b c) := by
 unfold impl_between inR
 by_cases h : b ≤ a <;> simp [h]
def colsOk (cs : List T_impl_Column) : Bool := cs.all (fun c => inR c.fKind 1 3) && decide (cs.length ≤ 4)
theorem spec_colsOk {cs : List T_impl_Column} (h : Sm cs.length) : spec_ColumnsOk cs = some (colsOk cs) := by
 unfold spec_ColumnsOk colsOk
 refine loop_all (by omega) (fun f i v hi hv hw => ?_) (fun f => ?_)
 ·have : (i : Int) < cs.length := by omega
  simp only [spec_ColumnsOk_l0, this, decide_true, cond_true, getI_nat, hv, Option.bind_some, spec_in, hw]
  cases inR v.fKind 1 3 <;> rfl
 ·simp only [spec_ColumnsOk_l0, Int.lt_irrefl, decide_false, cond_false]
  congr 1
  simp only [decide_eq_decide]
  omega
theorem impl_colsAny {cs : List T_impl_Column} (h : Sm cs.length) : slices_ContainsFunc_impl_Column_impl_Column cs impl_ColumnsOk_1 = some (cs.any fun c => !(inR c.fKind 1 3)) := by
 unfold slices_ContainsFunc_impl_Column_impl_Column slices_IndexFunc_impl_Column_impl_Column
 obtain ⟨r, h1, h2⟩ := loop_find (xs := cs) (L := slices_IndexFunc_impl_Column_impl_Column_l0 cs impl_ColumnsOk_1) (p := fun c => !(inR c.fKind 1 3)) (by omega) (fun f i v hi hv hw => by
  have : (i : Int) < cs.length := by omega
  simp only [slices_IndexFunc_impl_Column_impl_Column_l0, this, decide_true, cond_true, getI_nat, hv, Option.bind_some, impl_ColumnsOk_1, impl_in, hw]) (fun f => by
  simp only [slices_IndexFunc_impl_Column_impl_Column_l0, Int.lt_irrefl, decide_false, cond_false])
 rw [h1, Option.bind_some, h2]
theorem not_any_not {α : Type} (xs : List α) (p : α → Bool) : (!(xs.any fun x => !(p x))) = xs.all p := by
 induction xs with
 | nil => rfl
 | cons x xs ih => simp [← ih]
theorem impl_colsOk {cs : List T_impl_Column} (h : Sm cs.length) : impl_ColumnsOk cs = some (colsOk cs) := by
 unfold impl_ColumnsOk colsOk
 rw [impl_colsAny h, Option.bind_some, not_any_not]
 by_cases h4 : cs.length ≤ 4
 ·have : (cs.length : Int) ≤ 4 := by omega
  simp [h4, this]
 ·have : ¬ (cs.length : Int) ≤ 4 := by omega
  simp [h4, this]
theorem cast_le6 (n : Nat) : decide ((n : Int) ≤ 6) = decide (n ≤ 6) := by
 simp only [decide_eq_decide]
 omega
theorem getB_nat {s : ByteArray} {i : Nat} : getB s (i : Int) = s.data.toList[i]? := by
 unfold getB
 rw [if_pos (by omega), Int.toNat_natCast]
 by_cases h : i < s.size
 ·rw [getElem?_pos s i h, List.getElem?_eq_getElem (by simpa using h)]
  simp only [Option.some.injEq]
  rfl
 ·rw [getElem?_neg s i h, List.getElem?_eq_none (by simpa using h)]
def letter (b : UInt8) : Bool := decide (97 ≤ b.toNat) && decide (b.toNat ≤ 122)
def textOk (s : ByteArray) : Bool := s.data.toList.all letter && decide (s.size ≤ 6)
theorem size_list (s : ByteArray) : s.data.toList.length = s.size := Array.length_toList
theorem spec_text {s : ByteArray} (h : Sm s.size) : spec_l1Text s = some (textOk s) := by
 unfold spec_l1Text textOk
 have hl := size_list s
 refine loop_all (xs := s.data.toList) (by omega) (fun f i v hi hv hw => ?_) (fun f => ?_)
 ·have : (i : Int) < s.size := by omega
  simp only [spec_l1Text_l0, this, decide_true, cond_true, getB_nat, hv, Option.bind_some, spec_l1Text_j1, hw]
  unfold letter
  by_cases h1 : (v.toNat : Int) < 97
  ·have : ¬ 97 ≤ v.toNat := by omega
   simp [h1, this]
  ·have h1' : 97 ≤ v.toNat := by omega
   by_cases h2 : (v.toNat : Int) > 122
   ·have : ¬ v.toNat ≤ 122 := by omega
    simp [h1, h1', h2, this]
   ·have : v.toNat ≤ 122 := by omega
    simp [h1, h1', h2, this]
 ·rw [hl]
  unfold spec_l1Text_l0
  rw [show decide ((s.size : Int) < (s.size : Int)) = false from decide_eq_false (Int.lt_irrefl _), cond_false, cast_le6]
theorem impl_lettersOk {s : ByteArray} (h : Sm s.size) : impl_letters s = some (s.data.toList.all letter) := by
 have hl := size_list s
 unfold impl_letters bytesOf
 rw [if_pos (by omega), Option.bind_some, ← Bool.and_true (s.data.toList.all letter)]
 refine loop_all (xs := s.data.toList) (by omega) (fun f i v hi hv hw => ?_) (fun f => ?_)
 ·have : (i : Int) < s.data.toList.length := by omega
  have hb : v.toNat < 256 := v.toNat_lt
  have h1 : w64 (v.toNat : Int) = v.toNat := w64_of (by omega) (by omega)
  simp only [impl_letters_l0, this, decide_true, cond_true, getI_nat, hv, Option.bind_some, impl_in, hw, h1]
  have : inR (v.toNat : Int) 97 122 = letter v := by
   unfold inR letter
   congr 1 <;> simp only [decide_eq_decide] <;> omega
  rw [this]
  cases letter v <;> rfl
 ·simp only [impl_letters_l0, Int.lt_irrefl, decide_false, cond_false]
def valOk (v : T_impl_Value) : Bool := bif v.fKind == 0 then v.fN == 0 && v.fS.toList == (ByteArray.mk #[]).toList else bif v.fKind == 1 then inR v.fN (-9999) 9999 && v.fS.toList == (ByteArray.mk #[]).toList else
 bif v.fKind == 2 then v.fN == 0 && textOk v.fS else bif v.fKind == 3 then inR v.fN 0 1 && v.fS.toList == (ByteArray.mk #[]).toList else false
theorem spec_value {v : T_impl_Value} (h : Sm v.fS.size) : spec_ValueOk v = some (valOk v) := by
 unfold spec_ValueOk valOk
 simp only [spec_in, spec_text h, Option.bind_some]
 cases v.fKind == 0 <;> cases v.fKind == 1 <;> cases v.fKind == 2 <;> cases v.fKind == 3 <;> cases v.fN == 0 <;> cases inR v.fN (-9999) 9999 <;> cases inR v.fN 0 1 <;> rfl
theorem impl_value {v : T_impl_Value} (h : Sm v.fS.size) : impl_Value_ok v = some (valOk v) := by
 unfold impl_Value_ok valOk
 simp only [impl_in, impl_lettersOk h, Option.bind_some]
 have e : eq_T_impl_Value v ((T_impl_Value.mk 0 0 (ByteArray.mk #[]))) = (v.fKind == 0 && (v.fN == 0 && v.fS.toList == (ByteArray.mk #[]).toList)) := rfl
 have e2 : decide ((v.fS.size : Int) ≤ 6) = decide (v.fS.size ≤ 6) := by
  simp only [decide_eq_decide]
  omega
 have e3 : textOk v.fS = (v.fS.data.toList.all letter && decide (v.fS.size ≤ 6)) := rfl
 rw [e, e2, e3]
 cases v.fKind == 0 <;> cases v.fKind == 1 <;> cases v.fKind == 2 <;> cases v.fKind == 3 <;> cases v.fN == 0 <;> cases inR v.fN (-9999) 9999 <;> cases inR v.fN 0 1 <;> cases v.fS.toList == (ByteArray.mk #[]).toList <;>
  cases decide (v.fS.size ≤ 6) <;> cases v.fS.data.toList.all letter <;> rfl
def SmV (v : T_impl_Value) : Prop := Sm v.fS.size
def SmR (r : List T_impl_Value) : Prop := Sm r.length ∧ ∀ v ∈ r, SmV v
def rowOk (r : List T_impl_Value) : Bool := r.all valOk && decide (r.length ≤ 4)
theorem impl_rowAny {r : List T_impl_Value} (h : SmR r) : slices_ContainsFunc_impl_Value_impl_Value r impl_RowOk_1 = some (r.any fun v => !(valOk v)) := by
 unfold slices_ContainsFunc_impl_Value_impl_Value slices_IndexFunc_impl_Value_impl_Value
 have hl := h.1
 obtain ⟨x, h1, h2⟩ := loop_find (xs := r) (L := slices_IndexFunc_impl_Value_impl_Value_l0 r impl_RowOk_1) (p := fun v => !(valOk v)) (by omega) (fun f i v hi hv hw => by
  have : (i : Int) < r.length := by omega
  simp only [slices_IndexFunc_impl_Value_impl_Value_l0, this, decide_true, cond_true, getI_nat, hv, Option.bind_some, impl_RowOk_1, impl_value (h.2 v (List.mem_of_getElem? hv)), hw]) (fun f => by
  simp only [slices_IndexFunc_impl_Value_impl_Value_l0, Int.lt_irrefl, decide_false, cond_false])
 rw [h1, Option.bind_some, h2]
theorem le4 {α : Type} (xs : List α) : decide ((xs.length : Int) ≤ 4) = decide (xs.length ≤ 4) := by
 simp only [decide_eq_decide]
 omega
theorem impl_rowOk {r : List T_impl_Value} (h : SmR r) : impl_RowOk r = some (rowOk r) := by
 unfold impl_RowOk rowOk
 rw [impl_rowAny h, Option.bind_some, not_any_not, le4]
 cases decide (r.length ≤ 4) <;> simp
def fits (c : T_impl_Column) (v : T_impl_Value) : Bool := v.fKind == c.fKind || (v.fKind == 0 && c.fEmpty)
def rowFits (cs : List T_impl_Column) (r : List T_impl_Value) : Bool := colsOk cs && (rowOk r && (r.length == cs.length && (r.zip cs).all fun p => fits p.2 p.1))
theorem zip_get {α β : Type} {xs : List α} {ys : List β} (h : xs.length = ys.length) {i : Nat} {p : α × β} (hp : (xs.zip ys)[i]? = some p) : xs[i]? = some p.1 ∧ ys[i]? = some p.2 := by
 rw [List.getElem?_zip_eq_some] at hp
 exact hp
theorem impl_rowFits {cs : List T_impl_Column} {r : List T_impl_Value} (hc : Sm cs.length) (h : SmR r) : impl_RowFits cs r = some (rowFits cs r) := by
 unfold impl_RowFits rowFits
 rw [impl_colsOk hc, Option.bind_some, impl_rowOk h, Option.bind_some]
 cases colsOk cs
 ·rfl
 ·cases rowOk r
  ·rfl
  ·by_cases he : r.length = cs.length
   ·have e1 : ((r.length : Int) == (cs.length : Int)) = true := by simp [he]
    have e2 : (r.length == cs.length) = true := by simp [he]
    rw [e1, e2]
    simp only [Bool.not_true, cond_false, impl_RowFits_j0, Bool.true_and]
    have hl := h.1
    have hz : (r.zip cs).length = r.length := by simp [he]
    rw [show (r.zip cs).all (fun p => fits p.2 p.1) = ((r.zip cs).all (fun p => fits p.2 p.1) && true) by simp]
    refine loop_all (xs := r.zip cs) (by omega) (fun f i p hi hp hw => ?_) (fun f => ?_)
    ·obtain ⟨p1, p2⟩ := zip_get he hp
     have : (i : Int) < r.length := by omega
     simp only [impl_RowFits_l1, this, decide_true, cond_true, getI_nat, p1, p2, Option.bind_some, impl_RowFits_j2, hw, fits]
     cases p.1.fKind == p.2.fKind <;> cases p.1.fKind == 0 <;> cases p.2.fEmpty <;> rfl
    ·rw [hz]
     simp only [impl_RowFits_l1, Int.lt_irrefl, decide_false, cond_false]
   ·have e1 : ((r.length : Int) == (cs.length : Int)) = false := by
     simp only [beq_eq_false_iff_ne, ne_eq]
     omega
    have e2 : (r.length == cs.length) = false := by simp [he]
    rw [e1, e2]
    rfl
def SmRs (rs : List (List T_impl_Value)) : Prop := Sm rs.length ∧ ∀ r ∈ rs, SmR r
def rowsOk (cs : List T_impl_Column) (rs : List (List T_impl_Value)) : Bool := colsOk cs && rs.all (rowFits cs)
end Go.D
set_option linter.unusedVariables false
namespace Go.D
theorem g2 {α : Type} {xs : List α} (a b : α) : getI (xs ++ [a, b]) (xs.length : Int) = some a := by
 rw [getI_nat]
 simp
theorem g3 {α : Type} {xs : List α} (b : α) : getI (xs ++ [b]) (xs.length : Int) = some b := by
 rw [getI_nat]
 simp
theorem wm1 : w64 (-1) = -1 := w64_of (by omega) (by omega)
section
variable {α : Type} {xs : List α} (h : xs.length ≤ 2097152)
include h
theorem g1 (a b : α) : getI (xs ++ [a, b]) (w64 (((xs ++ [a, b]).length : Int) - 1)) = some b := by
 have e : (((xs ++ [a, b]).length : Int) - 1) = ((xs.length + 1 : Nat) : Int) := by simp only [List.length_append, List.length_cons, List.length_nil]; omega
 rw [e, w64_of (by omega) (by omega), getI_nat]
 simp
theorem sl_pre {ys : List α} {n : Int} (hn : n = (xs.length : Int)) : slI (xs ++ ys) none (some n) none = some xs := by
 subst hn
 unfold slI
 rw [if_pos]
 ·simp
 ·simp only [Option.getD_none, Option.getD_some, List.length_append]
  omega
theorem sl_post {ys : List α} {n : Int} (hn : n = (xs.length : Int)) : slI (xs ++ ys) (some n) none none = some ys := by
 subst hn
 unfold slI
 rw [if_pos]
 ·simp only [Option.getD_none, Option.getD_some, Int.toNat_natCast, List.drop_left, List.length_append]
  rw [List.take_of_length_le (by omega)]
 ·simp only [Option.getD_none, Option.getD_some, List.length_append]
  omega
theorem max0 {n : Int} (hn : n = (xs.length : Int)) : maxL n [0] = (xs.length : Int) := by
 subst hn
 unfold maxL maxL
 rw [if_neg (by omega)]
theorem len2 (a b : α) : w64 (((xs ++ [a, b]).length : Int) - 2) = (xs.length : Int) := by
 rw [w64_of] <;> simp <;> omega
theorem len1 (b : α) : w64 (((xs ++ [b]).length : Int) - 1) = (xs.length : Int) := by
 rw [w64_of] <;> simp <;> omega
theorem len0 : w64 ((xs.length : Int) - 0) = (xs.length : Int) := by
 rw [w64_of] <;> omega
theorem ap_pre {ys : List α} (k : α) : appT (xs ++ ys) [k] xs.length = some (xs ++ [k]) := by
 unfold appT
 rw [if_pos (by simp; omega)]
 simp
theorem ap_all (k : α) : app xs [k] = some (xs ++ [k]) := app_lt (by simp; omega)
end
def zeroV (v : T_impl_Value) : Bool := eq_T_impl_Value v ((T_impl_Value.mk 0 0 (ByteArray.mk #[])))
def exprStep (cs : List T_impl_Column) (rs : List Int) (p : T_impl_Part) : Option (List Int) :=
 if p.fKind = 1 then bif p.fN == 0 && (valOk p.fV && !(p.fV.fKind == 0)) then some (p.fV.fKind :: rs) else none
 else if p.fKind = 2 then bif zeroV p.fV && inR p.fN 0 ((cs.length : Int) - 1) then (getI cs p.fN).map fun c => c.fKind :: rs else none
 else if p.fKind = 3 then bif zeroV p.fV && p.fN == 0 then (match rs with
  | b :: a :: r => bif b == 1 && a == 1 then some (1 :: r) else none
  | _ => none) else none
 else if p.fKind = 4 then bif zeroV p.fV && inR p.fN 1 4 then (match rs with
  | b :: a :: r => bif b == a then some (3 :: r) else none
  | _ => none) else none
 else if p.fKind = 5 ∨ p.fKind = 6 then bif zeroV p.fV && p.fN == 0 then (match rs with
  | b :: a :: r => bif b == 3 && a == 3 then some (3 :: r) else none
  | _ => none) else none
 else if p.fKind = 7 then bif zeroV p.fV && p.fN == 0 then (match rs with
  | b :: r => bif b == 3 then some (3 :: r) else none
  | _ => none) else none
 else if p.fKind = 8 then bif zeroV p.fV && p.fN == 0 then (match rs with
  | b :: r => some (3 :: r)
  | _ => none) else none
 else none
def exprRun (cs : List T_impl_Column) : List T_impl_Part → List Int → Int
 | [], rs => match rs with
  | [k] => k
  | _ => -1
 | p :: ps, rs => match exprStep cs rs p with
  | none => -1
  | some rs' => exprRun cs ps rs'
def SmP (p : T_impl_Part) : Prop := SmV p.fV
theorem exprStep_len {cs : List T_impl_Column} {rs rs' : List Int} {p : T_impl_Part} (h : exprStep cs rs p = some rs') : rs'.length ≤ rs.length + 1 := by
 unfold exprStep at h
 have hb : ∀ {c : Bool} {a : Option (List Int)}, (bif c then a else none) = some rs' → a = some rs' := fun {c a} h => by cases c <;> simp_all
 split at h
 ·have := hb h
  cases this
  simp
 split at h
 ·have := hb h
  simp only [Option.map_eq_some_iff] at this
  obtain ⟨_, _, rfl⟩ := this
  simp
 split at h
 ·have := hb h
  split at this
  ·cases hb this
   simp <;> omega
  ·cases this
 split at h
 ·have := hb h
  split at this
  ·cases hb this
   simp <;> omega
  ·cases this
 split at h
 ·have := hb h
  split at this
  ·cases hb this
   simp <;> omega
  ·cases this
 split at h
 ·have := hb h
  split at this
  ·cases hb this
   simp
  ·cases this
 split at h
 ·have := hb h
  split at this
  ·cases this
   simp
  ·cases this
 ·cases h
theorem stack_cases {α : Type} (rs : List α) : rs = [] ∨ (∃ b, rs = [b]) ∨ ∃ b a r, rs = b :: a :: r := by
 match rs with
 | [] => exact .inl rfl
 | [b] => exact .inr (.inl ⟨b, rfl⟩)
 | b :: a :: r => exact .inr (.inr ⟨b, a, r, rfl⟩)
theorem kind_cases (k : Int) : k = 1 ∨ k = 2 ∨ k = 3 ∨ k = 4 ∨ k = 5 ∨ k = 6 ∨ k = 7 ∨ k = 8 ∨ (k ≠ 1 ∧ k ≠ 2 ∧ k ≠ 3 ∧ k ≠ 4 ∧ k ≠ 5 ∧ k ≠ 6 ∧ k ≠ 7 ∧ k ≠ 8) := by omega
section
variable {α : Type} {xs : List α}
theorem gt1 (a b : α) : decide (((xs ++ [a, b]).length : Int) > 1) = true := by simp; omega
theorem gt0 (b : α) : decide (((xs ++ [b]).length : Int) > 0) = true := by simp only [List.length_append, List.length_cons, List.length_nil, decide_eq_true_eq]; omega
theorem lt2 (a b : α) : decide (((xs ++ [a, b]).length : Int) < 2) = false := by simp; omega
theorem lt1 (b : α) : decide (((xs ++ [b]).length : Int) < 1) = false := by simp; omega
theorem lt0 : decide ((xs.length : Int) < 0) = false := by simp only [decide_eq_false_iff_not]; omega
theorem rev2 (a b : α) (r : List α) : (b :: a :: r).reverse = r.reverse ++ [a, b] := by simp
theorem rev1 (b : α) (r : List α) : (b :: r).reverse = r.reverse ++ [b] := by simp
end
theorem low2 {xs : List Int} (h : xs.length ≤ 1) : slI xs none (some (maxL (w64 ((xs.length : Int) - 2)) [0])) none = some [] := by
 rw [w64_of (by omega) (by omega)]
 unfold maxL maxL
 rw [if_pos (by omega)]
 unfold slI
 simp
theorem apt0 (xs : List Int) (k : Int) : appT xs [k] ([] : List Int).length = some [k] := by
 unfold appT
 simp
theorem j2_low {xs : List Int} (h : xs.length ≤ 1) (b : Bool) : spec_l4Step_j2 xs b = some ([1], b) := by
 unfold spec_l4Step_j2
 rw [low2 h, Option.bind_some, apt0, Option.bind_some]
theorem j3_low {xs : List Int} (h : xs.length ≤ 1) (b : Bool) : spec_l4Step_j3 xs b = some ([3], b) := by
 unfold spec_l4Step_j3
 rw [low2 h, Option.bind_some, apt0, Option.bind_some]
theorem j5_low {xs : List Int} (h : xs.length ≤ 1) (b : Bool) : spec_l4Step_j5 xs b = some ([3], b) := by
 unfold spec_l4Step_j5
 rw [low2 h, Option.bind_some, apt0, Option.bind_some]
def SpecStep (cs : List T_impl_Column) (rs : List Int) (p : T_impl_Part) : Prop := match exprStep cs rs p with
 | some rs' => spec_l4Step cs rs.reverse p = some (rs'.reverse, true)
 | none => ∃ s, spec_l4Step cs rs.reverse p = some (s, false)
theorem spec_step {cs : List T_impl_Column} {rs : List Int} {p : T_impl_Part} (hc : Sm cs.length) (hr : rs.length ≤ 2000000) (hp : SmP p) : SpecStep cs rs p := by
 obtain ⟨k, n, v⟩ := p
 have hv : spec_ValueOk v = some (valOk v) := spec_value hp
 have hz : eq_T_impl_Value v ((T_impl_Value.mk 0 0 (ByteArray.mk #[]))) = zeroV v := rfl
 have hw : w64 ((cs.length : Int) - 1) = (cs.length : Int) - 1 := w64_of (by omega) (by omega)
 unfold SpecStep
 rcases kind_cases k with rfl | rfl | rfl | rfl | rfl | rfl | rfl | rfl | hk
 ·have ha : app rs.reverse [v.fKind] = some (rs.reverse ++ [v.fKind]) := ap_all (by simp; omega) _
  simp only [exprStep, spec_l4Step, spec_l4Step_j0, spec_l4Step_j1, hz, hv, hw, spec_in, Option.bind_some, ha]
  cases n == 0 <;> cases valOk v <;> cases v.fKind == 0 <;> simp
 ·simp only [exprStep, spec_l4Step, spec_l4Step_j0, hz, hw, spec_in, Option.bind_some]
  cases zeroV v
  ·simp
  ·cases hi : inR n 0 ((cs.length : Int) - 1) with
   | false => simp
   | true =>
    unfold inR at hi
    simp only [Bool.and_eq_true, decide_eq_true_eq] at hi
    obtain ⟨c, h1, h2⟩ := getI_lt (xs := cs) hi.1 (by omega)
    have ha : app rs.reverse [c.fKind] = some (rs.reverse ++ [c.fKind]) := ap_all (by simp; omega) _
    simp [h1, ha]
 ·rcases stack_cases rs with rfl | ⟨b, rfl⟩ | ⟨b, a, r, rfl⟩
  ·simp [exprStep, spec_l4Step, spec_l4Step_j0, j2_low, hz, spec_in, Option.bind]
   cases n == 0 <;> cases zeroV v <;> simp
  ·simp [exprStep, spec_l4Step, spec_l4Step_j0, j2_low, hz, spec_in, Option.bind]
   cases n == 0 <;> cases zeroV v <;> simp
  ·have hx : r.reverse.length ≤ 2097152 := by simp at hr ⊢; omega
   simp only [exprStep, spec_l4Step, spec_l4Step_j0, spec_l4Step_j2, hz, spec_in, rev2, g1 hx, len2 hx, g2, gt1, max0 hx rfl, sl_pre hx rfl, ap_pre hx, Option.bind_some]
   cases n == 0 <;> cases zeroV v <;> cases b == 1 <;> cases a == 1 <;> simp
 ·rcases stack_cases rs with rfl | ⟨b, rfl⟩ | ⟨b, a, r, rfl⟩
  ·simp [exprStep, spec_l4Step, spec_l4Step_j0, j3_low, hz, spec_in, Option.bind]
   cases inR n 1 4 <;> cases zeroV v <;> simp
  ·simp [exprStep, spec_l4Step, spec_l4Step_j0, j3_low, hz, spec_in, Option.bind]
   cases inR n 1 4 <;> cases zeroV v <;> simp
  ·have hx : r.reverse.length ≤ 2097152 := by simp at hr ⊢; omega
   simp only [exprStep, spec_l4Step, spec_l4Step_j0, spec_l4Step_j3, hz, spec_in, rev2, g1 hx, len2 hx, g2, gt1, max0 hx rfl, sl_pre hx rfl, ap_pre hx, Option.bind_some]
   cases inR n 1 4 <;> cases zeroV v <;> cases b == a <;> simp
 ·rcases stack_cases rs with rfl | ⟨b, rfl⟩ | ⟨b, a, r, rfl⟩
  ·simp [exprStep, spec_l4Step, spec_l4Step_j0, spec_l4Step_j4, j5_low, hz, spec_in, Option.bind]
   cases n == 0 <;> cases zeroV v <;> simp
  ·simp [exprStep, spec_l4Step, spec_l4Step_j0, spec_l4Step_j4, j5_low, hz, spec_in, Option.bind]
   cases n == 0 <;> cases zeroV v <;> simp
  ·have hx : r.reverse.length ≤ 2097152 := by simp at hr ⊢; omega
   simp only [exprStep, spec_l4Step, spec_l4Step_j0, spec_l4Step_j4, spec_l4Step_j5, hz, spec_in, rev2, g1 hx, len2 hx, g2, gt1, max0 hx rfl, sl_pre hx rfl, ap_pre hx, Option.bind_some]
   cases n == 0 <;> cases zeroV v <;> cases b == 3 <;> cases a == 3 <;> simp
 ·rcases stack_cases rs with rfl | ⟨b, rfl⟩ | ⟨b, a, r, rfl⟩
  ·simp [exprStep, spec_l4Step, spec_l4Step_j0, spec_l4Step_j4, j5_low, hz, spec_in, Option.bind]
   cases n == 0 <;> cases zeroV v <;> simp
  ·simp [exprStep, spec_l4Step, spec_l4Step_j0, spec_l4Step_j4, j5_low, hz, spec_in, Option.bind]
   cases n == 0 <;> cases zeroV v <;> simp
  ·have hx : r.reverse.length ≤ 2097152 := by simp at hr ⊢; omega
   simp only [exprStep, spec_l4Step, spec_l4Step_j0, spec_l4Step_j4, spec_l4Step_j5, hz, spec_in, rev2, g1 hx, len2 hx, g2, gt1, max0 hx rfl, sl_pre hx rfl, ap_pre hx, Option.bind_some]
   cases n == 0 <;> cases zeroV v <;> cases b == 3 <;> cases a == 3 <;> simp
 ·rcases rs with _ | ⟨b, r⟩
  ·simp [exprStep, spec_l4Step, spec_l4Step_j0, spec_l4Step_j4, hz]
  ·have hx : r.reverse.length ≤ 2097152 := by simp at hr ⊢; omega
   simp only [exprStep, spec_l4Step, spec_l4Step_j0, spec_l4Step_j4, hz, rev1, len1 hx, g3, gt0, max0 hx rfl, sl_pre hx rfl, ap_pre hx, Option.bind_some]
   cases n == 0 <;> cases zeroV v <;> cases hb : b == 3 <;> simp_all
 ·rcases rs with _ | ⟨b, r⟩
  ·simp [exprStep, spec_l4Step, spec_l4Step_j0, spec_l4Step_j4, hz, wm1, appT, maxL, slI]
   cases n == 0 <;> cases zeroV v <;> simp
  ·have hx : r.reverse.length ≤ 2097152 := by simp at hr ⊢; omega
   simp only [exprStep, spec_l4Step, spec_l4Step_j0, spec_l4Step_j4, hz, rev1, len1 hx, g3, gt0, max0 hx rfl, sl_pre hx rfl, ap_pre hx, Option.bind_some]
   cases n == 0 <;> cases zeroV v <;> simp
 ·obtain ⟨h1, h2, h3, h4, h5, h6, h7, h8⟩ := hk
  have b1 : (k == 1) = false := by simp [h1]
  have b2 : (k == 2) = false := by simp [h2]
  have b3 : (k == 3) = false := by simp [h3]
  have b4 : (k == 4) = false := by simp [h4]
  have b5 : (k == 5) = false := by simp [h5]
  have b6 : (k == 6) = false := by simp [h6]
  have b7 : (k == 7) = false := by simp [h7]
  have b8 : (k == 8) = false := by simp [h8]
  simp only [exprStep, h1, h2, h3, h4, h5, h6, h7, h8, if_false, or_self, spec_l4Step, spec_l4Step_j0, spec_l4Step_j4, b1, b2, b3, b4, b5, b6, b7, b8, hz]
  cases zeroV v <;> cases n == 0 <;> simp
end Go.D
set_option linter.unusedVariables false
namespace Go.D
def exprKind (cs : List T_impl_Column) (ps : List T_impl_Part) : Int := bif colsOk cs && decide (ps.length ≤ 12) then exprRun cs ps [] else -1
theorem gt12 {α : Type} (xs : List α) : decide ((xs.length : Int) > 12) = !(decide (xs.length ≤ 12)) := by
 by_cases h : xs.length ≤ 12
 ·have : ¬ (xs.length : Int) > 12 := by omega
  simp [h, this]
 ·have : (xs.length : Int) > 12 := by omega
  simp [h, this]
theorem fin_run (st : List Int) (cs : List T_impl_Column) : (bif !((st.length : Int) == 1) then some (-1) else (getI st 0).bind fun v => some v) = some (exprRun cs [] st.reverse) := by
 match st with
 | [] => rfl
 | [k] => rfl
 | a :: b :: r =>
  have e : (((a :: b :: r).length : Int) == 1) = false := by
   simp only [beq_eq_false_iff_ne, ne_eq, List.length_cons]
   omega
  rw [e]
  unfold exprRun
  split
  ·next k hk =>
   have := congrArg List.length hk
   simp at this
  ·rfl
theorem spec_exprKind {cs : List T_impl_Column} {ps : List T_impl_Part} (hc : Sm cs.length) (hl : ps.length ≤ 2097152) (hp : ∀ p ∈ ps, SmP p) : spec_ExprKind cs ps = some (exprKind cs ps) := by
 unfold spec_ExprKind exprKind
 rw [spec_colsOk hc, Option.bind_some, gt12]
 cases colsOk cs
 ·rfl
 cases h12 : decide (ps.length ≤ 12)
 ·rfl
 have h12 : ps.length ≤ 12 := of_decide_eq_true h12
 simp only [Bool.not_true, cond_false, Bool.true_and, cond_true, spec_ExprKind_j0]
 have := loop_rec (xs := ps) (L := fun f i (s : Bool × List Int) => spec_ExprKind_l1 cs ps f s.1 i s.2) (fun ps s => bif s.1 then exprRun cs ps s.2.reverse else -1) (fun i s => s.1 = true → s.2.length ≤ i) (by omega)
  (fun f i s v rest hi hv hw hI => by
   obtain ⟨ok, st⟩ := s
   have hlt : (i : Int) < ps.length := by omega
   cases ok with
   | false =>
    refine .inl ?_
    simp only [spec_ExprKind_l1, hlt, decide_true, cond_true, spec_ExprKind_j2, cond_false, Bool.not_false, spec_ExprKind_j3]
   | true =>
    have hst := hI rfl
    have hs : SpecStep cs st.reverse v := spec_step hc (by simp; simp only at hst; omega) (hp v (List.mem_of_getElem? hv))
    unfold SpecStep at hs
    simp only [List.reverse_reverse] at hs
    refine .inr ?_
    cases he : exprStep cs st.reverse v with
    | none =>
     rw [he] at hs
     obtain ⟨s', hs⟩ := hs
     refine ⟨(false, s'), (fun h => by cases h), ?_, ?_⟩
     ·simp only [spec_ExprKind_l1, hlt, decide_true, cond_true, spec_ExprKind_j2, getI_nat, hv, Option.bind_some, hs, hw]
     ·simp only [cond_true, cond_false, exprRun, he]
    | some rs' =>
     rw [he] at hs
     have hs : spec_l4Step cs st v = some (rs'.reverse, true) := hs
     refine ⟨(true, rs'.reverse), fun _ => ?_, ?_, ?_⟩
     ·have := exprStep_len he
      simp only [List.length_reverse] at this ⊢
      simp only at hst
      omega
     ·simp only [spec_ExprKind_l1, hlt, decide_true, cond_true, spec_ExprKind_j2, getI_nat, hv, Option.bind_some, hs, hw]
     ·simp only [cond_true, exprRun, he, List.reverse_reverse])
  (fun f s hI => by
   obtain ⟨ok, st⟩ := s
   simp only [spec_ExprKind_l1, Int.lt_irrefl, decide_false, cond_false, spec_ExprKind_j2]
   cases ok with
   | false => rfl
   | true =>
    simp only [Bool.not_true, cond_false, spec_ExprKind_j3, cond_true]
    exact fin_run st cs) (s := (true, [])) (fun _ => by simp)
 exact this
theorem impl_allk (k : Int) {xs : List Int} (h : xs.length ≤ 2097152) : impl_Part_kind_1 k xs = some (xs.all (· == k)) := by
 unfold impl_Part_kind_1 slices_ContainsFunc_int_int slices_IndexFunc_int_int
 obtain ⟨r, h1, h2⟩ := loop_find (xs := xs) (L := slices_IndexFunc_int_int_l0 xs (fun z0 => impl_Part_kind_1_1 z0 k)) (p := fun z => !(z == k)) (by omega) (fun f i v hi hv hw => by
  have : (i : Int) < xs.length := by omega
  simp only [slices_IndexFunc_int_int_l0, this, decide_true, cond_true, getI_nat, hv, Option.bind_some, impl_Part_kind_1_1, hw]) (fun f => by
  simp only [slices_IndexFunc_int_int_l0, Int.lt_irrefl, decide_false, cond_false])
 rw [h1, Option.bind_some, Option.bind_some, h2, not_any_not]
def ImplStep (cs : List T_impl_Column) (rs : List Int) (p : T_impl_Part) (x4 : Int) (K : Int → List Int → Option Int) : Prop :=
 ((impl_Part_takes p).bind fun v11 => (impl_Part_tells p cs).bind fun v24 => bif (!v24) then impl_ExprKind_j2 cs x4 rs.reverse K p v11 true else impl_ExprKind_j2 cs x4 rs.reverse K p v11 ((decide (((rs.reverse.length : Int)) < v11)))) =
  match exprStep cs rs p with
  | none => some (-1)
  | some rs' => K (w64 (x4 + 1)) rs'.reverse
theorem pre_all {xs : List Int} (h : xs.length ≤ 2097152) : slI xs none (some (w64 ((xs.length : Int) - 0))) none = some xs := by
 rw [len0 h]
 have := sl_pre (ys := []) h rfl
 rwa [List.append_nil] at this
theorem post_all {xs : List Int} (h : xs.length ≤ 2097152) : slI xs (some (w64 ((xs.length : Int) - 0))) none none = some [] := by
 rw [len0 h]
 have := sl_post (ys := []) h rfl
 rwa [List.append_nil] at this
theorem ap_full {xs : List Int} (h : xs.length ≤ 2097152) (k : Int) : appT xs [k] xs.length = some (xs ++ [k]) := by
 have := ap_pre (ys := []) h k
 rwa [List.append_nil] at this
theorem get0 (a b : Int) : getI [a, b] 0 = some a := rfl
theorem get1 (a b : Int) : getI [a, b] 1 = some b := rfl
theorem eq_comm_b (a b : Int) : (a == b) = (b == a) := by
 rw [Bool.eq_iff_iff, beq_iff_eq, beq_iff_eq]
 exact eq_comm
theorem impl_step {cs : List T_impl_Column} {rs : List Int} {p : T_impl_Part} {x4 : Int} {K : Int → List Int → Option Int} (hc : Sm cs.length) (hr : rs.length ≤ 2000000) (hp : SmP p) : ImplStep cs rs p x4 K := by
 obtain ⟨k, n, v⟩ := p
 have hv : impl_Value_ok v = some (valOk v) := impl_value hp
 have hz : eq_T_impl_Value v ((T_impl_Value.mk 0 0 (ByteArray.mk #[]))) = zeroV v := rfl
 have hw : w64 ((cs.length : Int) - 1) = (cs.length : Int) - 1 := w64_of (by omega) (by omega)
 have hxr : rs.reverse.length ≤ 2097152 := by simp; omega
 unfold ImplStep
 rcases kind_cases k with rfl | rfl | rfl | rfl | rfl | rfl | rfl | rfl | hk
 ·simp only [exprStep, impl_Part_takes, impl_Part_takes_j0, impl_Part_takes_j1, impl_Part_tells, impl_Part_tells_j0, impl_ExprKind_j2, hv, hz, hw, impl_in, impl_Part_kind, Option.bind_some]
  cases n == 0 <;> cases valOk v <;> cases v.fKind == 0 <;> simp [-List.length_reverse, -Int.sub_zero, -List.length_append, -List.length_cons, -List.length_nil, lt0, post_all hxr, pre_all hxr, ap_full hxr]
 ·simp only [exprStep, impl_Part_takes, impl_Part_takes_j0, impl_Part_takes_j1, impl_Part_tells, impl_Part_tells_j0, impl_ExprKind_j2, hv, hz, hw, impl_in, impl_Part_kind, Option.bind_some]
  cases zeroV v
  ·cases inR n 0 ((cs.length : Int) - 1) <;> simp [-List.length_reverse, -Int.sub_zero, -List.length_append, -List.length_cons, -List.length_nil, lt0, post_all hxr, pre_all hxr, ap_full hxr]
  ·cases hi : inR n 0 ((cs.length : Int) - 1) with
   | false => simp [-List.length_reverse, -Int.sub_zero, -List.length_append, -List.length_cons, -List.length_nil, lt0, post_all hxr, pre_all hxr, ap_full hxr]
   | true =>
    unfold inR at hi
    simp only [Bool.and_eq_true, decide_eq_true_eq] at hi
    obtain ⟨c, h1, h2⟩ := getI_lt (xs := cs) hi.1 (by omega)
    simp [-List.length_reverse, -Int.sub_zero, -List.length_append, -List.length_cons, -List.length_nil, lt0, post_all hxr, pre_all hxr, ap_full hxr, h1]
 ·rcases stack_cases rs with rfl | ⟨b, rfl⟩ | ⟨b, a, r, rfl⟩
  ·simp only [exprStep, impl_Part_takes, impl_Part_takes_j0, impl_Part_takes_j1, impl_Part_tells, impl_Part_tells_j0, impl_ExprKind_j2, hv, hz, hw, impl_in, impl_Part_kind, Option.bind_some]
   cases n == 0 <;> cases zeroV v <;> simp
  ·simp only [exprStep, impl_Part_takes, impl_Part_takes_j0, impl_Part_takes_j1, impl_Part_tells, impl_Part_tells_j0, impl_ExprKind_j2, hv, hz, hw, impl_in, impl_Part_kind, Option.bind_some]
   cases n == 0 <;> cases zeroV v <;> simp
  ·have hx : r.reverse.length ≤ 2097152 := by simp at hr ⊢; omega
   have hab : ([a, b] : List Int).length ≤ 2097152 := by simp
   simp only [exprStep, impl_Part_takes, impl_Part_takes_j0, impl_Part_takes_j1, impl_Part_tells, impl_Part_tells_j0, impl_ExprKind_j2, hv, hz, hw, impl_in, impl_Part_kind, Option.bind_some, rev2]
   cases n == 0 <;> cases zeroV v <;> cases ha : a == 1 <;> cases hb : b == 1 <;> simp [*, -List.length_reverse, -Int.sub_zero, -List.length_append, -List.length_cons, -List.length_nil, lt2, len2 hx, sl_pre hx rfl, sl_post hx rfl, ap_pre hx, impl_allk 1 hab, impl_allk 3 hab, get0, get1]
 ·rcases stack_cases rs with rfl | ⟨b, rfl⟩ | ⟨b, a, r, rfl⟩
  ·simp only [exprStep, impl_Part_takes, impl_Part_takes_j0, impl_Part_takes_j1, impl_Part_tells, impl_Part_tells_j0, impl_ExprKind_j2, hv, hz, hw, impl_in, impl_Part_kind, Option.bind_some]
   cases inR n 1 4 <;> cases zeroV v <;> simp
  ·simp only [exprStep, impl_Part_takes, impl_Part_takes_j0, impl_Part_takes_j1, impl_Part_tells, impl_Part_tells_j0, impl_ExprKind_j2, hv, hz, hw, impl_in, impl_Part_kind, Option.bind_some]
   cases inR n 1 4 <;> cases zeroV v <;> simp
  ·have hx : r.reverse.length ≤ 2097152 := by simp at hr ⊢; omega
   have hab : ([a, b] : List Int).length ≤ 2097152 := by simp
   simp only [exprStep, impl_Part_takes, impl_Part_takes_j0, impl_Part_takes_j1, impl_Part_tells, impl_Part_tells_j0, impl_ExprKind_j2, hv, hz, hw, impl_in, impl_Part_kind, Option.bind_some, rev2]
   cases inR n 1 4 <;> cases zeroV v <;> cases hb : b == a <;> simp [*, -List.length_reverse, -Int.sub_zero, -List.length_append, -List.length_cons, -List.length_nil, lt2, len2 hx, sl_pre hx rfl, sl_post hx rfl, ap_pre hx, impl_allk 1 hab, impl_allk 3 hab, get0, get1, eq_comm_b a b]
 ·rcases stack_cases rs with rfl | ⟨b, rfl⟩ | ⟨b, a, r, rfl⟩
  ·simp only [exprStep, impl_Part_takes, impl_Part_takes_j0, impl_Part_takes_j1, impl_Part_tells, impl_Part_tells_j0, impl_ExprKind_j2, hv, hz, hw, impl_in, impl_Part_kind, Option.bind_some]
   cases n == 0 <;> cases zeroV v <;> simp
  ·simp only [exprStep, impl_Part_takes, impl_Part_takes_j0, impl_Part_takes_j1, impl_Part_tells, impl_Part_tells_j0, impl_ExprKind_j2, hv, hz, hw, impl_in, impl_Part_kind, Option.bind_some]
   cases n == 0 <;> cases zeroV v <;> simp
  ·have hx : r.reverse.length ≤ 2097152 := by simp at hr ⊢; omega
   have hab : ([a, b] : List Int).length ≤ 2097152 := by simp
   simp only [exprStep, impl_Part_takes, impl_Part_takes_j0, impl_Part_takes_j1, impl_Part_tells, impl_Part_tells_j0, impl_ExprKind_j2, hv, hz, hw, impl_in, impl_Part_kind, Option.bind_some, rev2]
   cases n == 0 <;> cases zeroV v <;> cases ha : a == 3 <;> cases hb : b == 3 <;> simp [*, -List.length_reverse, -Int.sub_zero, -List.length_append, -List.length_cons, -List.length_nil, lt2, len2 hx, sl_pre hx rfl, sl_post hx rfl, ap_pre hx, impl_allk 1 hab, impl_allk 3 hab, get0, get1]
 ·rcases stack_cases rs with rfl | ⟨b, rfl⟩ | ⟨b, a, r, rfl⟩
  ·simp only [exprStep, impl_Part_takes, impl_Part_takes_j0, impl_Part_takes_j1, impl_Part_tells, impl_Part_tells_j0, impl_ExprKind_j2, hv, hz, hw, impl_in, impl_Part_kind, Option.bind_some]
   cases n == 0 <;> cases zeroV v <;> simp
  ·simp only [exprStep, impl_Part_takes, impl_Part_takes_j0, impl_Part_takes_j1, impl_Part_tells, impl_Part_tells_j0, impl_ExprKind_j2, hv, hz, hw, impl_in, impl_Part_kind, Option.bind_some]
   cases n == 0 <;> cases zeroV v <;> simp
  ·have hx : r.reverse.length ≤ 2097152 := by simp at hr ⊢; omega
   have hab : ([a, b] : List Int).length ≤ 2097152 := by simp
   simp only [exprStep, impl_Part_takes, impl_Part_takes_j0, impl_Part_takes_j1, impl_Part_tells, impl_Part_tells_j0, impl_ExprKind_j2, hv, hz, hw, impl_in, impl_Part_kind, Option.bind_some, rev2]
   cases n == 0 <;> cases zeroV v <;> cases ha : a == 3 <;> cases hb : b == 3 <;> simp [*, -List.length_reverse, -Int.sub_zero, -List.length_append, -List.length_cons, -List.length_nil, lt2, len2 hx, sl_pre hx rfl, sl_post hx rfl, ap_pre hx, impl_allk 1 hab, impl_allk 3 hab, get0, get1]
 ·rcases rs with _ | ⟨b, r⟩
  ·simp only [exprStep, impl_Part_takes, impl_Part_takes_j0, impl_Part_takes_j1, impl_Part_tells, impl_Part_tells_j0, impl_ExprKind_j2, hv, hz, hw, impl_in, impl_Part_kind, Option.bind_some]
   cases n == 0 <;> cases zeroV v <;> simp
  ·have hx : r.reverse.length ≤ 2097152 := by simp at hr ⊢; omega
   have hab : ([b] : List Int).length ≤ 2097152 := by simp
   simp only [exprStep, impl_Part_takes, impl_Part_takes_j0, impl_Part_takes_j1, impl_Part_tells, impl_Part_tells_j0, impl_ExprKind_j2, hv, hz, hw, impl_in, impl_Part_kind, Option.bind_some, rev1]
   cases n == 0 <;> cases zeroV v <;> cases hb : b == 3 <;> simp [*, -List.length_reverse, -Int.sub_zero, -List.length_append, -List.length_cons, -List.length_nil, lt1, len1 hx, sl_pre hx rfl, sl_post hx rfl, ap_pre hx, impl_allk 3 hab]
 ·rcases rs with _ | ⟨b, r⟩
  ·simp only [exprStep, impl_Part_takes, impl_Part_takes_j0, impl_Part_takes_j1, impl_Part_tells, impl_Part_tells_j0, impl_ExprKind_j2, hv, hz, hw, impl_in, impl_Part_kind, Option.bind_some]
   cases n == 0 <;> cases zeroV v <;> simp
  ·have hx : r.reverse.length ≤ 2097152 := by simp at hr ⊢; omega
   have hab : ([b] : List Int).length ≤ 2097152 := by simp
   simp only [exprStep, impl_Part_takes, impl_Part_takes_j0, impl_Part_takes_j1, impl_Part_tells, impl_Part_tells_j0, impl_ExprKind_j2, hv, hz, hw, impl_in, impl_Part_kind, Option.bind_some, rev1]
   cases n == 0 <;> cases zeroV v <;> cases hb : b == 3 <;> simp [*, -List.length_reverse, -Int.sub_zero, -List.length_append, -List.length_cons, -List.length_nil, lt1, len1 hx, sl_pre hx rfl, sl_post hx rfl, ap_pre hx, impl_allk 3 hab]
 ·obtain ⟨h1, h2, h3, h4, h5, h6, h7, h8⟩ := hk
  have b1 : (k == 1) = false := by simp [h1]
  have b2 : (k == 2) = false := by simp [h2]
  have b3 : (k == 3) = false := by simp [h3]
  have b4 : (k == 4) = false := by simp [h4]
  have b5 : (k == 5) = false := by simp [h5]
  have b6 : (k == 6) = false := by simp [h6]
  have b7 : (k == 7) = false := by simp [h7]
  have b8 : (k == 8) = false := by simp [h8]
  simp only [h1, h2, h3, h4, h5, h6, h7, h8, if_false, or_self, b1, b2, b3, b4, b5, b6, b7, b8, exprStep, impl_Part_takes, impl_Part_takes_j0, impl_Part_takes_j1, impl_Part_tells, impl_Part_tells_j0, impl_ExprKind_j2, hv, hz, hw, impl_in, impl_Part_kind, Option.bind_some]
  rfl
theorem impl_exprKind {cs : List T_impl_Column} {ps : List T_impl_Part} (hc : Sm cs.length) (hl : ps.length ≤ 2097152) (hp : ∀ p ∈ ps, SmP p) : impl_ExprKind cs ps = some (exprKind cs ps) := by
 unfold impl_ExprKind exprKind
 rw [impl_colsOk hc, Option.bind_some, gt12]
 cases colsOk cs
 ·rfl
 cases h12 : decide (ps.length ≤ 12)
 ·rfl
 have h12 : ps.length ≤ 12 := of_decide_eq_true h12
 simp only [Bool.not_true, cond_false, Bool.true_and, cond_true, impl_ExprKind_j0]
 have := loop_rec (xs := ps) (L := fun f i (s : List Int) => impl_ExprKind_l1 cs ps f i s) (fun ps s => exprRun cs ps s.reverse) (fun i s => s.length ≤ i) (by omega)
  (fun f i st v rest hi hv hw hI => by
   have hlt : (i : Int) < ps.length := by omega
   have hs : ImplStep cs st.reverse v i (impl_ExprKind_l1 cs ps f) := impl_step hc (by simp; omega) (hp v (List.mem_of_getElem? hv))
   unfold ImplStep at hs
   rw [List.reverse_reverse, hw] at hs
   have e : impl_ExprKind_l1 cs ps (f + 1) i st = match exprStep cs st.reverse v with
    | none => some (-1)
    | some rs' => impl_ExprKind_l1 cs ps f ((i + 1 : Nat) : Int) rs'.reverse := by
    rw [← hs]
    simp only [impl_ExprKind_l1, hlt, decide_true, cond_true, getI_nat, hv, Option.bind_some]
   cases he : exprStep cs st.reverse v with
   | none =>
    refine .inl ?_
    rw [he] at e
    simp only [exprRun, he]
    exact e
   | some rs' =>
    rw [he] at e
    refine .inr ⟨rs'.reverse, ?_, e, ?_⟩
    ·have := exprStep_len he
     simp only [List.length_reverse] at this ⊢
     omega
    ·simp only [exprRun, he, List.reverse_reverse])
  (fun f st hI => by
   simp only [impl_ExprKind_l1, Int.lt_irrefl, decide_false, cond_false]
   exact fin_run st cs) (s := []) (by simp)
 exact this
end Go.D
set_option linter.unusedVariables false
namespace Go.D
end Go.D
set_option linter.unusedVariables false
namespace Go.D
end Go.D
set_option linter.unusedVariables false
namespace Go.D
theorem bifSome {α : Type} {c : Bool} {a : Option α} {y : α} (h : (bif c then a else none) = some y) : c = true ∧ a = some y := by
 cases c with
 | false => cases h
 | true => exact ⟨rfl, h⟩
theorem loop_opt {α σ β : Type} {xs : List α} {L : Nat → Int → σ → Option β} (R : List α → σ → Option β) (Inv : Nat → σ → Prop) (hlen : xs.length ≤ 70368744177662)
  (h : ∀ (f i : Nat) (s : σ) (v : α), i < xs.length → xs[i]? = some v → w64 ((i : Int) + 1) = ((i + 1 : Nat) : Int) → Inv i s →
   L (f + 1) i s = R (v :: xs.drop (i + 1)) s ∨ ∃ s', Inv (i + 1) s' ∧ L (f + 1) i s = L f ((i + 1 : Nat) : Int) s' ∧ R (v :: xs.drop (i + 1)) s = R (xs.drop (i + 1)) s')
  (he : ∀ f s, Inv xs.length s → L (f + 1) (xs.length : Int) s = R [] s) {s : σ} (h0 : Inv 0 s) : L FUEL 0 s = R xs s := by
 have main : ∀ (k f i : Nat) (s : σ), i + k = xs.length → k < f → Inv i s → L f (i : Int) s = R (xs.drop i) s := by
  intro k
  induction k with
  | zero =>
   intro f i s hi hf hI
   obtain ⟨f, rfl⟩ : ∃ f', f = f' + 1 := ⟨f - 1, by omega⟩
   have : i = xs.length := by omega
   subst this
   rw [he _ _ hI, List.drop_length]
  | succ k ih =>
   intro f i s hi hf hI
   obtain ⟨f, rfl⟩ : ∃ f', f = f' + 1 := ⟨f - 1, by omega⟩
   have hlt : i < xs.length := by omega
   rw [List.drop_eq_getElem_cons hlt]
   rcases h f i s xs[i] hlt (List.getElem?_eq_getElem hlt) (succ_w hlt (by omega)) hI with h1 | ⟨s', h1, h2, h3⟩
   ·exact h1
   ·rw [h2, h3]
    exact ih f (i + 1) s' (by omega) (by omega) h1
 have := main xs.length FUEL 0 s (by omega) (by unfold FUEL; omega) h0
 simpa using this
end Go.D
set_option linter.unusedVariables false
namespace Go.D
def N0 : T_impl_Value := T_impl_Value.mk 0 0 (ByteArray.mk #[])
def sumV (a b : T_impl_Value) : T_impl_Value := bif a.fKind == 0 || (b.fKind == 0 || !(inR (w64 (a.fN + b.fN)) (-9999) 9999)) then N0 else ⟨1, w64 (a.fN + b.fN), ByteArray.mk #[]⟩
theorem spec_sum (a b : T_impl_Value) : spec_l4Sum a b = some (sumV a b) := by
 unfold spec_l4Sum sumV spec_l4Sum_j0 N0
 simp only [spec_in, Option.bind_some]
 cases a.fKind == 0 <;> cases b.fKind == 0 <;> cases inR (w64 (a.fN + b.fN)) (-9999) 9999 <;> rfl
def cmpI (a b : Int) : Int := if a < b then -1 else if a > b then 1 else 0
def cmpS (a b : ByteArray) : Int := bif Op.bytesLess a.toList b.toList then -1 else bif !Op.bytesLess a.toList b.toList && !(a.toList == b.toList) then 1 else 0
def ordV (a b : T_impl_Value) : Int := if cmpI a.fKind b.fKind ≠ 0 then cmpI a.fKind b.fKind else if cmpI a.fN b.fN ≠ 0 then cmpI a.fN b.fN else cmpS a.fS b.fS
theorem impl_cmpI (a b : Int) : cmp_Compare_int a b = some (cmpI a b) := by
 unfold cmp_Compare_int cmp_isNaN_int cmpI
 simp only [beq_self_eq_true, Bool.not_true, Option.bind_some, cond_false]
 by_cases h : a < b
 ·simp [h]
 ·by_cases h2 : a > b
  ·simp [h, h2]
  ·simp [h, h2]
theorem impl_cmpS (a b : ByteArray) : cmp_Compare_string a b = some (cmpS a b) := by
 unfold cmp_Compare_string cmp_isNaN_string cmpS
 simp only [beq_self_eq_true, Bool.not_true, Option.bind_some, cond_false]
 cases Op.bytesLess a.toList b.toList <;> cases a.toList == b.toList <;> rfl
theorem fuel4 : ∃ F, FUEL = F + 1 + 1 + 1 + 1 := by
 have h : 4 ≤ FUEL := by unfold FUEL; omega
 exact ⟨FUEL - 4, by omega⟩
theorem impl_or3 (a b c : Int) : cmp_Or_int [a, b, c] = some (if a ≠ 0 then a else if b ≠ 0 then b else c) := by
 obtain ⟨F, hF⟩ := fuel4
 unfold cmp_Or_int
 rw [hF]
 have w3 : w64 (0 + 1) = 1 := w64_of (by omega) (by omega)
 have w4 : w64 (1 + 1) = 2 := w64_of (by omega) (by omega)
 have w5 : w64 (2 + 1) = 3 := w64_of (by omega) (by omega)
 have i0 : getI [a, b, c] 0 = some a := rfl
 have i1 : getI [a, b, c] 1 = some b := rfl
 have i2 : getI [a, b, c] 2 = some c := rfl
 have l0 : decide ((0 : Int) < (([a, b, c] : List Int).length : Int)) = true := rfl
 have l1 : decide ((1 : Int) < (([a, b, c] : List Int).length : Int)) = true := rfl
 have l2 : decide ((2 : Int) < (([a, b, c] : List Int).length : Int)) = true := rfl
 have l3 : decide ((3 : Int) < (([a, b, c] : List Int).length : Int)) = false := rfl
 rw [cmp_Or_int_l0, l0, cond_true, i0, Option.bind_some, w3, cmp_Or_int_l0, l1, cond_true, i1, Option.bind_some, w4, cmp_Or_int_l0, l2, cond_true, i2, Option.bind_some, w5, cmp_Or_int_l0, l3, cond_false]
 have bf : ∀ {x : Int}, ¬ x = 0 → (x == 0) = false := fun h => by simp [h]
 by_cases ha : a = 0
 ·subst ha
  by_cases hb : b = 0
  ·subst hb
   by_cases hc : c = 0
   ·subst hc
    rfl
   ·rw [bf hc]
    simp
  ·rw [bf hb]
   simp [hb]
 ·rw [bf ha]
  simp [ha]
theorem impl_ord (a b : T_impl_Value) : impl_Value_order a b = some (ordV a b) := by
 unfold impl_Value_order
 simp only [impl_cmpI, impl_cmpS, impl_or3, Option.bind_some, ordV]
theorem spec_less (a b : Int) : (bif !(a == b) then (spec_l1Less b a).bind fun v => some (w64 (w64 (2 * v) - 1)) else none) = (if a = b then none else some (cmpI a b)) := by
 have w1 : w64 (w64 (2 * 1) - 1) = 1 := by rw [w64_of (n := 2 * 1) (by omega) (by omega), w64_of] <;> omega
 have w0 : w64 (w64 (2 * 0) - 1) = -1 := by rw [w64_of (n := 2 * 0) (by omega) (by omega), w64_of] <;> omega
 unfold spec_l1Less cmpI
 by_cases h : a = b
 ·simp [h]
 ·have e : (a == b) = false := by simp [h]
  rw [e, if_neg h, Bool.not_false, cond_true]
  by_cases h1 : b < a
  ·have : ¬ a < b := by omega
   rw [decide_eq_true h1, cond_true, Option.bind_some, w1, if_neg this, if_pos h1]
  ·have : a < b := by omega
   rw [decide_eq_false h1, cond_false, Option.bind_some, w0, if_pos this]
theorem cmpI_ne {a b : Int} (h : a ≠ b) : cmpI a b ≠ 0 := by
 unfold cmpI
 split
 ·omega
 ·split <;> omega
theorem cmpI_eq (a : Int) : cmpI a a = 0 := by simp [cmpI]
theorem spec_ord {a b : T_impl_Value} (sa : SmV a) (sb : SmV b) (ha : valOk a = true) (hb : valOk b = true) : spec_ValueOrder a b = some (ordV a b) := by
 unfold spec_ValueOrder
 rw [spec_value sa, Option.bind_some, spec_value sb, Option.bind_some, ha, hb]
 simp only [Bool.not_true, cond_false, spec_ValueOrder_j0]
 have hk := spec_less a.fKind b.fKind
 have hn := spec_less a.fN b.fN
 unfold ordV
 by_cases h1 : a.fKind = b.fKind
 ·rw [if_neg (by rw [h1, cmpI_eq]; simp)]
  by_cases h2 : a.fN = b.fN
  ·rw [if_neg (by rw [h2, cmpI_eq]; simp)]
   simp only [h1, h2, beq_self_eq_true, Bool.not_true, cond_false, spec_l1Cmp, cmpS]
   cases Op.bytesLess a.fS.toList b.fS.toList <;> cases a.fS.toList == b.fS.toList <;> rfl
  ·rw [if_pos (cmpI_ne h2)]
   rw [if_neg h2] at hn
   have e : (a.fN == b.fN) = false := by simp [h2]
   rw [e] at hn ⊢
   simp only [h1, beq_self_eq_true, Bool.not_true, cond_false]
   exact hn
 ·rw [if_pos (cmpI_ne h1)]
  rw [if_neg h1] at hk
  have e : (a.fKind == b.fKind) = false := by simp [h1]
  rw [e] at hk ⊢
  exact hk
def b2i (b : Bool) : Int := bif b then 1 else 0
theorem spec_b2i (b : Bool) : spec_l2Bool b = some (b2i b) := by cases b <;> rfl
theorem impl_b2i (b : Bool) : impl_truthIf b = some (b2i b) := by cases b <;> rfl
def cmpV (n : Int) (a b : T_impl_Value) : Int := bif inR n 1 4 && (valOk a && valOk b) then bif a.fKind == 0 || b.fKind == 0 then 2 else bif !(a.fKind == b.fKind) then -1 else
 bif n == 1 then b2i (ordV a b == 0) else bif n == 2 then b2i (!(ordV a b == 0)) else bif n == 3 then b2i (decide (ordV a b < 0)) else b2i (decide (ordV a b ≤ 0)) else -1
theorem spec_cmp {n : Int} {a b : T_impl_Value} (sa : SmV a) (sb : SmV b) : spec_Compare n a b = some (cmpV n a b) := by
 unfold spec_Compare cmpV
 rw [spec_in, Option.bind_some, spec_value sa, Option.bind_some, spec_value sb, Option.bind_some]
 cases inR n 1 4
 ·rfl
 cases ha : valOk a
 ·rfl
 cases hb : valOk b
 ·rfl
 simp only [Bool.not_true, cond_false, Bool.and_self, cond_true, spec_Compare_j0, spec_Compare_j1, spec_ord sa sb ha hb, Option.bind_some, spec_b2i]
 cases a.fKind == 0 <;> cases b.fKind == 0 <;> cases a.fKind == b.fKind <;> cases n == 1 <;> cases n == 2 <;> cases n == 3 <;> rfl
theorem in14 {n : Int} (h : inR n 1 4 = true) : n = 1 ∨ n = 2 ∨ n = 3 ∨ n = 4 := by
 unfold inR at h
 simp only [Bool.and_eq_true, decide_eq_true_eq] at h
 omega
theorem impl_cmp {n : Int} {a b : T_impl_Value} (sa : SmV a) (sb : SmV b) : impl_Compare n a b = some (cmpV n a b) := by
 unfold impl_Compare cmpV
 rw [impl_in, Option.bind_some, impl_value sa, Option.bind_some, impl_value sb, Option.bind_some]
 cases hi : inR n 1 4
 ·rfl
 cases ha : valOk a
 ·rfl
 cases hb : valOk b
 ·rfl
 simp only [Bool.not_true, cond_false, Bool.and_self, cond_true, impl_Compare_j0, impl_Compare_j1, impl_ord, Option.bind_some, impl_b2i]
 rcases in14 hi with rfl | rfl | rfl | rfl
 ·cases a.fKind == 0 <;> cases b.fKind == 0 <;> cases a.fKind == b.fKind <;> cases ordV a b == 0 <;> rfl
 ·cases a.fKind == 0 <;> cases b.fKind == 0 <;> cases a.fKind == b.fKind <;> cases ordV a b == 0 <;> rfl
 ·cases a.fKind == 0 <;> cases b.fKind == 0 <;> cases a.fKind == b.fKind <;> cases decide (ordV a b < 0) <;> rfl
 ·cases a.fKind == 0 <;> cases b.fKind == 0 <;> cases a.fKind == b.fKind <;> cases decide (ordV a b ≤ 0) <;> rfl
def ofV (n : Int) : T_impl_Value := bif inR n 0 1 then ⟨3, n, ByteArray.mk #[]⟩ else N0
theorem in01 (n : Int) : inR n 0 1 = (n == 0 || n == 1) := by
 rw [Bool.eq_iff_iff]
 unfold inR
 simp only [Bool.and_eq_true, decide_eq_true_eq, Bool.or_eq_true, beq_iff_eq]
 omega
theorem spec_of (n : Int) : spec_ValueOf n = some (ofV n) := by
 unfold spec_ValueOf spec_ValueOf_j0 ofV N0
 rw [in01]
 cases n == 0 <;> cases n == 1 <;> rfl
theorem impl_of (n : Int) : impl_ValueOf n = some (ofV n) := by
 unfold impl_ValueOf ofV N0
 rw [impl_in, Option.bind_some]
 cases inR n 0 1 <;> rfl
theorem ok_kinds {v : T_impl_Value} (h : valOk v = true) : v.fKind = 0 ∨ v.fKind = 1 ∨ v.fKind = 2 ∨ v.fKind = 3 := by
 unfold valOk at h
 cases h0 : v.fKind == 0
 ·cases h1 : v.fKind == 1
  ·cases h2 : v.fKind == 2
   ·cases h3 : v.fKind == 3
    ·rw [h0, h1, h2, h3] at h
     cases h
    ·exact .inr (.inr (.inr (by simpa using h3)))
   ·exact .inr (.inr (.inl (by simpa using h2)))
  ·exact .inr (.inl (by simpa using h1))
 ·exact .inl (by simpa using h0)
def truV (v : T_impl_Value) : Int := bif valOk v then bif v.fKind == 0 then 2 else bif v.fKind == 3 then v.fN else -1 else -1
theorem impl_tru {v : T_impl_Value} (h : SmV v) : impl_TruthOf v = some (truV v) := by
 unfold impl_TruthOf truV
 rw [impl_value h, Option.bind_some]
 cases valOk v <;> cases v.fKind == 0 <;> cases v.fKind == 3 <;> rfl
theorem spec_tru {v : T_impl_Value} (h : SmV v) : spec_TruthOf v = some (truV v) := by
 unfold spec_TruthOf truV
 rw [spec_value h, Option.bind_some]
 cases hv : valOk v
 ·rfl
 obtain ⟨k, n, s⟩ := v
 rcases ok_kinds hv with h | h | h | h <;> simp only at h <;> subst h <;> rfl
theorem in02 {n : Int} (h : inR n 0 2 = true) : n = 0 ∨ n = 1 ∨ n = 2 := by
 unfold inR at h
 simp only [Bool.and_eq_true, decide_eq_true_eq] at h
 omega
def andV (a b : Int) : Int := (impl_AndOf a b).getD 0
def orV (a b : Int) : Int := (impl_OrOf a b).getD 0
def notV (a : Int) : Int := (impl_NotOf a).getD 0
theorem and_both (a b : Int) : spec_AndOf a b = some (andV a b) ∧ impl_AndOf a b = some (andV a b) := by
 unfold andV impl_AndOf spec_AndOf impl_fold spec_TruthOk impl_TruthOk
 simp only [spec_in, impl_in, Option.bind_some]
 cases ha : inR a 0 2
 ·exact ⟨rfl, rfl⟩
 cases hb : inR b 0 2
 ·exact ⟨rfl, rfl⟩
 rcases in02 ha with rfl | rfl | rfl <;> rcases in02 hb with rfl | rfl | rfl <;> exact ⟨by decide, by decide⟩
theorem or_both (a b : Int) : spec_OrOf a b = some (orV a b) ∧ impl_OrOf a b = some (orV a b) := by
 unfold orV impl_OrOf spec_OrOf impl_fold spec_TruthOk impl_TruthOk
 simp only [spec_in, impl_in, Option.bind_some]
 cases ha : inR a 0 2
 ·exact ⟨rfl, rfl⟩
 cases hb : inR b 0 2
 ·exact ⟨rfl, rfl⟩
 rcases in02 ha with rfl | rfl | rfl <;> rcases in02 hb with rfl | rfl | rfl <;> exact ⟨by decide, by decide⟩
theorem not_both (a : Int) : spec_NotOf a = some (notV a) ∧ impl_NotOf a = some (notV a) := by
 unfold notV spec_NotOf spec_TruthOk
 simp only [spec_in, Option.bind_some]
 cases ha : inR a 0 2
 ·have h0 : (a == 0) = false := by
   cases h : a == 0 <;> simp_all [inR]
  have h1 : (a == 1) = false := by
   cases h : a == 1 <;> simp_all [inR]
  have h2 : (a == 2) = false := by
   cases h : a == 2 <;> simp_all [inR]
  unfold impl_NotOf
  rw [h0, h1, h2]
  exact ⟨rfl, rfl⟩
 rcases in02 ha with rfl | rfl | rfl <;> exact ⟨by decide, by decide⟩
end Go.D
set_option linter.unusedVariables false
namespace Go.D
def valStep (row st : List T_impl_Value) (p : T_impl_Part) : Option (List T_impl_Value) :=
 if p.fKind = 1 then some (p.fV :: st)
 else if p.fKind = 2 then (getI row p.fN).map fun v => v :: st
 else if p.fKind = 3 then (match st with | b :: a :: r => some (sumV a b :: r) | _ => none)
 else if p.fKind = 4 then (match st with | b :: a :: r => some (ofV (cmpV p.fN a b) :: r) | _ => none)
 else if p.fKind = 5 then (match st with | b :: a :: r => some (ofV (andV (truV a) (truV b)) :: r) | _ => none)
 else if p.fKind = 6 then (match st with | b :: a :: r => some (ofV (orV (truV a) (truV b)) :: r) | _ => none)
 else if p.fKind = 7 then (match st with | b :: r => some (ofV (notV (truV b)) :: r) | _ => none)
 else if p.fKind = 8 then (match st with | b :: r => some (ofV (b2i (b.fKind == 0)) :: r) | _ => none)
 else none
theorem sm_empty : Sm (ByteArray.mk #[]).size := by
 have : (ByteArray.mk #[]).size = 0 := rfl
 omega
theorem sm_sum (a b : T_impl_Value) : SmV (sumV a b) := by
 unfold sumV N0
 cases a.fKind == 0 || (b.fKind == 0 || !(inR (w64 (a.fN + b.fN)) (-9999) 9999)) <;> exact sm_empty
theorem sm_of (n : Int) : SmV (ofV n) := by
 unfold ofV N0
 cases inR n 0 1 <;> exact sm_empty
theorem v2 {rs : List Int} {st : List T_impl_Value} {b a : Int} {r : List Int} (h : rs.length = st.length) (hr : rs = b :: a :: r) : ∃ y x t, st = y :: x :: t ∧ r.length = t.length := by
 subst hr
 match st, h with
 | y :: x :: t, h => exact ⟨y, x, t, rfl, by simpa using h⟩
theorem v1 {rs : List Int} {st : List T_impl_Value} {b : Int} {r : List Int} (h : rs.length = st.length) (hr : rs = b :: r) : ∃ y t, st = y :: t ∧ r.length = t.length := by
 subst hr
 match st, h with
 | y :: t, h => exact ⟨y, t, rfl, by simpa using h⟩
structure Went (cs : List T_impl_Column) (row st : List T_impl_Value) (p : T_impl_Part) (ks' : List Int) : Prop where
 go : ∃ st', valStep row st p = some st' ∧ ks'.length = st'.length ∧ (∀ v ∈ st', SmV v) ∧ spec_l4Do row st.reverse p = some st'.reverse ∧
  ((impl_Part_takes p).bind fun v10 => (slI st.reverse (some ((w64 (((st.reverse.length : Int)) - v10)))) none none).bind fun v12 => (impl_Part_value p row v12).bind fun v14 => (slI st.reverse none (some ((w64 (((st.reverse.length : Int)) - v10)))) none).bind fun v16 => appT st.reverse (([v14] : List T_impl_Value)) v16.length) = some st'.reverse
theorem sm_cons {v : T_impl_Value} {st t : List T_impl_Value} (hv : SmV v) (h : ∀ v ∈ st, SmV v) (ht : ∀ v ∈ t, v ∈ st) : ∀ u ∈ v :: t, SmV u := by
 intro u hu
 rcases List.mem_cons.1 hu with rfl | hu
 ·exact hv
 ·exact h u (ht u hu)
section
variable {α : Type} {xs : List α} (h : xs.length ≤ 2097152)
include h
theorem preA : slI xs none (some (w64 ((xs.length : Int) - 0))) none = some xs := by
 rw [len0 h]
 have := sl_pre (ys := []) h rfl
 rwa [List.append_nil] at this
theorem postA : slI xs (some (w64 ((xs.length : Int) - 0))) none none = some [] := by
 rw [len0 h]
 have := sl_post (ys := []) h rfl
 rwa [List.append_nil] at this
theorem apA (k : α) : appT xs [k] xs.length = some (xs ++ [k]) := by
 have := ap_pre (ys := []) h k
 rwa [List.append_nil] at this
end
theorem ga {α : Type} (a b : α) : getI [a, b] 0 = some a := rfl
theorem gb {α : Type} (a b : α) : getI [a, b] 1 = some b := rfl
theorem gc {α : Type} (a : α) : getI [a] 0 = some a := rfl
theorem val_sum (a b : T_impl_Value) : (bif a.fKind == 0 then impl_Part_value_j0 a b true else bif b.fKind == 0 then impl_Part_value_j0 a b true else (impl_Value_ok ((T_impl_Value.mk 1 ((w64 (a.fN + b.fN))) (ByteArray.mk #[])))).bind fun v16 => impl_Part_value_j0 a b ((!v16))) = some (sumV a b) := by
 rw [impl_value (v := T_impl_Value.mk 1 ((w64 (a.fN + b.fN))) (ByteArray.mk #[])) sm_empty, Option.bind_some]
 have e : valOk (T_impl_Value.mk 1 ((w64 (a.fN + b.fN))) (ByteArray.mk #[])) = inR (w64 (a.fN + b.fN)) (-9999) 9999 := by
  unfold valOk
  have : ((1 : Int) == 0) = false := rfl
  simp only [this, beq_self_eq_true, cond_false, cond_true, Bool.and_true]
 rw [e]
 unfold sumV impl_Part_value_j0 N0
 cases a.fKind == 0 <;> cases b.fKind == 0 <;> cases inR (w64 (a.fN + b.fN)) (-9999) 9999 <;> rfl
theorem went {cs : List T_impl_Column} {row st : List T_impl_Value} {rs ks' : List Int} {p : T_impl_Part} (he : exprStep cs rs p = some ks') (hl : rs.length = st.length) (hs : st.length ≤ 2000000) (hc : row.length = cs.length)
  (hr : SmR row) (hst : ∀ v ∈ st, SmV v) (hp : SmP p) : Went cs row st p ks' := by
 obtain ⟨k, n, v⟩ := p
 have hx0 : st.reverse.length ≤ 2097152 := by rw [List.length_reverse]; omega
 rcases kind_cases k with rfl | rfl | rfl | rfl | rfl | rfl | rfl | rfl | hk
 ·obtain ⟨_, h2⟩ := bifSome he
  have h2 := Option.some.inj h2
  subst h2
  refine ⟨v :: st, rfl, by simp [hl], sm_cons hp hst (fun _ h => h), ?_, ?_⟩
  ·have ha : app st.reverse [v] = some (st.reverse ++ [v]) := app_lt (by rw [List.length_reverse]; simp; omega)
   simp only [spec_l4Do, ha, Option.bind_some, beq_self_eq_true, cond_true, List.reverse_cons]
  ·simp [-List.length_reverse, -Int.sub_zero, impl_Part_takes, impl_Part_takes_j0, impl_Part_takes_j1, impl_Part_value, preA hx0, postA hx0, apA hx0]
 ·obtain ⟨h1, h2⟩ := bifSome he
  simp only [Bool.and_eq_true] at h1
  have hi := h1.2
  unfold inR at hi
  simp only [Bool.and_eq_true, decide_eq_true_eq] at hi
  obtain ⟨c, hc1, hc2⟩ := getI_lt (xs := row) hi.1 (by omega)
  rw [Option.map_eq_some_iff] at h2
  obtain ⟨c', _, rfl⟩ := h2
  refine ⟨c :: st, ?_, by simp [hl], sm_cons (hr.2 c (List.mem_of_getElem? hc2)) hst (fun _ h => h), ?_, ?_⟩
  ·simp [valStep, hc1]
  ·have ha : app st.reverse [c] = some (st.reverse ++ [c]) := app_lt (by rw [List.length_reverse]; simp; omega)
   simp [spec_l4Do, hc1, ha]
  ·simp [-List.length_reverse, -Int.sub_zero, impl_Part_takes, impl_Part_takes_j0, impl_Part_takes_j1, impl_Part_value, preA hx0, postA hx0, apA hx0, hc1]
 ·obtain ⟨_, h2⟩ := bifSome he
  split at h2
  ·next b' a' r' =>
   obtain ⟨_, h2⟩ := bifSome h2
   have h2 := Option.some.inj h2
   subst h2
   obtain ⟨b, a, t, rfl, ht⟩ := v2 hl rfl
   have hx : t.reverse.length ≤ 2097152 := by simp at hs ⊢; omega
   refine ⟨sumV a b :: t, rfl, by simp [ht], sm_cons (sm_sum a b) hst (fun u hu => by simp [hu]), ?_, ?_⟩
   ·simp [-List.length_reverse, -Int.sub_zero, -List.length_append, -List.length_cons, -List.length_nil, spec_l4Do, rev2, g1 hx, len2 hx, g2, sl_pre hx rfl, ap_pre hx, spec_sum]
   ·simp [-List.length_reverse, -Int.sub_zero, -List.length_append, -List.length_cons, -List.length_nil, impl_Part_takes, impl_Part_takes_j0, impl_Part_value, rev2, len2 hx, sl_pre hx rfl, sl_post hx rfl, ap_pre hx, ga, gb, val_sum]
  ·cases h2
 ·obtain ⟨_, h2⟩ := bifSome he
  split at h2
  ·next b' a' r' =>
   obtain ⟨_, h2⟩ := bifSome h2
   have h2 := Option.some.inj h2
   subst h2
   obtain ⟨b, a, t, rfl, ht⟩ := v2 hl rfl
   have hx : t.reverse.length ≤ 2097152 := by simp at hs ⊢; omega
   have sa : SmV a := hst a (by simp)
   have sb : SmV b := hst b (by simp)
   refine ⟨ofV (cmpV n a b) :: t, rfl, by simp [ht], sm_cons (sm_of _) hst (fun u hu => by simp [hu]), ?_, ?_⟩
   ·simp [-List.length_reverse, -Int.sub_zero, -List.length_append, -List.length_cons, -List.length_nil, spec_l4Do, rev2, g1 hx, len2 hx, g2, sl_pre hx rfl, ap_pre hx, spec_cmp sa sb, spec_of]
   ·simp [-List.length_reverse, -Int.sub_zero, -List.length_append, -List.length_cons, -List.length_nil, impl_Part_takes, impl_Part_takes_j0, impl_Part_value, rev2, len2 hx, sl_pre hx rfl, sl_post hx rfl, ap_pre hx, ga, gb, impl_cmp sa sb, impl_of]
  ·cases h2
 ·obtain ⟨_, h2⟩ := bifSome he
  split at h2
  ·next b' a' r' =>
   obtain ⟨_, h2⟩ := bifSome h2
   have h2 := Option.some.inj h2
   subst h2
   obtain ⟨b, a, t, rfl, ht⟩ := v2 hl rfl
   have hx : t.reverse.length ≤ 2097152 := by simp at hs ⊢; omega
   have sa : SmV a := hst a (by simp)
   have sb : SmV b := hst b (by simp)
   refine ⟨ofV (andV (truV a) (truV b)) :: t, rfl, by simp [ht], sm_cons (sm_of _) hst (fun u hu => by simp [hu]), ?_, ?_⟩
   ·simp [-List.length_reverse, -Int.sub_zero, -List.length_append, -List.length_cons, -List.length_nil, spec_l4Do, rev2, g1 hx, len2 hx, g2, sl_pre hx rfl, ap_pre hx, spec_tru sa, spec_tru sb, (and_both _ _).1, spec_of]
   ·simp [-List.length_reverse, -Int.sub_zero, -List.length_append, -List.length_cons, -List.length_nil, impl_Part_takes, impl_Part_takes_j0, impl_Part_value, rev2, len2 hx, sl_pre hx rfl, sl_post hx rfl, ap_pre hx, ga, gb, impl_tru sa, impl_tru sb, (and_both _ _).2, impl_of]
  ·cases h2
 ·obtain ⟨_, h2⟩ := bifSome he
  split at h2
  ·next b' a' r' =>
   obtain ⟨_, h2⟩ := bifSome h2
   have h2 := Option.some.inj h2
   subst h2
   obtain ⟨b, a, t, rfl, ht⟩ := v2 hl rfl
   have hx : t.reverse.length ≤ 2097152 := by simp at hs ⊢; omega
   have sa : SmV a := hst a (by simp)
   have sb : SmV b := hst b (by simp)
   refine ⟨ofV (orV (truV a) (truV b)) :: t, rfl, by simp [ht], sm_cons (sm_of _) hst (fun u hu => by simp [hu]), ?_, ?_⟩
   ·simp [-List.length_reverse, -Int.sub_zero, -List.length_append, -List.length_cons, -List.length_nil, spec_l4Do, rev2, g1 hx, len2 hx, g2, sl_pre hx rfl, ap_pre hx, spec_tru sa, spec_tru sb, (or_both _ _).1, spec_of]
   ·simp [-List.length_reverse, -Int.sub_zero, -List.length_append, -List.length_cons, -List.length_nil, impl_Part_takes, impl_Part_takes_j0, impl_Part_value, rev2, len2 hx, sl_pre hx rfl, sl_post hx rfl, ap_pre hx, ga, gb, impl_tru sa, impl_tru sb, (or_both _ _).2, impl_of]
  ·cases h2
 ·obtain ⟨_, h2⟩ := bifSome he
  split at h2
  ·next b' r' =>
   obtain ⟨_, h2⟩ := bifSome h2
   have h2 := Option.some.inj h2
   subst h2
   obtain ⟨b, t, rfl, ht⟩ := v1 hl rfl
   have hx : t.reverse.length ≤ 2097152 := by simp at hs ⊢; omega
   have sb : SmV b := hst b (by simp)
   refine ⟨ofV (notV (truV b)) :: t, rfl, by simp [ht], sm_cons (sm_of _) hst (fun u hu => by simp [hu]), ?_, ?_⟩
   ·simp [-List.length_reverse, -Int.sub_zero, -List.length_append, -List.length_cons, -List.length_nil, spec_l4Do, rev1, len1 hx, g3, sl_pre hx rfl, ap_pre hx, spec_tru sb, (not_both _).1, spec_of]
   ·simp [-List.length_reverse, -Int.sub_zero, -List.length_append, -List.length_cons, -List.length_nil, impl_Part_takes, impl_Part_takes_j0, impl_Part_takes_j1, impl_Part_value, rev1, len1 hx, sl_pre hx rfl, sl_post hx rfl, ap_pre hx, gc, impl_tru sb, (not_both _).2, impl_of]
  ·cases h2
 ·obtain ⟨_, h2⟩ := bifSome he
  split at h2
  ·next b' r' =>
   have h2 := Option.some.inj h2
   subst h2
   obtain ⟨b, t, rfl, ht⟩ := v1 hl rfl
   have hx : t.reverse.length ≤ 2097152 := by simp at hs ⊢; omega
   refine ⟨ofV (b2i (b.fKind == 0)) :: t, rfl, by simp [ht], sm_cons (sm_of _) hst (fun u hu => by simp [hu]), ?_, ?_⟩
   ·simp [-List.length_reverse, -Int.sub_zero, -List.length_append, -List.length_cons, -List.length_nil, spec_l4Do, rev1, len1 hx, g3, sl_pre hx rfl, ap_pre hx, spec_b2i, spec_of]
   ·simp [-List.length_reverse, -Int.sub_zero, -List.length_append, -List.length_cons, -List.length_nil, impl_Part_takes, impl_Part_takes_j0, impl_Part_takes_j1, impl_Part_value, rev1, len1 hx, sl_pre hx rfl, sl_post hx rfl, ap_pre hx, gc, impl_b2i, impl_of]
  ·cases h2
 ·obtain ⟨h1, h2, h3, h4, h5, h6, h7, h8⟩ := hk
  simp only [exprStep, h1, h2, h3, h4, h5, h6, h7, h8, if_false, or_self] at he
  cases he
def valRun (row : List T_impl_Value) : List T_impl_Part → List T_impl_Value → Option T_impl_Value
 | [], st => getI st.reverse 0
 | p :: ps, st => (valStep row st p).bind fun st' => valRun row ps st'
structure Inv (cs : List T_impl_Column) (ps : List T_impl_Part) (i : Nat) (s : List T_impl_Value) : Prop where
 h : ∃ ks, exprRun cs (ps.drop i) ks = 3 ∧ ks.length = s.length ∧ s.length ≤ i ∧ ∀ v ∈ s, SmV v
theorem Inv.step {cs : List T_impl_Column} {ps : List T_impl_Part} {row : List T_impl_Value} {i : Nat} {s : List T_impl_Value} {p : T_impl_Part} (hI : Inv cs ps i s) (hi : i < ps.length) (hv : ps[i]? = some p) (hl : ps.length ≤ 2000000) (hc : row.length = cs.length) (hr : SmR row) (hp : SmP p) :
  ∃ ks', Went cs row s.reverse p ks' ∧ ∀ st', valStep row s.reverse p = some st' → ks'.length = st'.length → (∀ v ∈ st', SmV v) → Inv cs ps (i + 1) st'.reverse := by
 obtain ⟨ks, h1, h2, h3, h4⟩ := hI.h
 have e : ps.drop i = p :: ps.drop (i + 1) := by
  rw [List.drop_eq_getElem_cons hi]
  rw [List.getElem?_eq_getElem hi] at hv
  rw [Option.some.inj hv]
 rw [e] at h1
 unfold exprRun at h1
 cases he : exprStep cs ks p with
 | none => rw [he] at h1; cases h1
 | some ks' =>
  rw [he] at h1
  have h1 : exprRun cs (ps.drop (i + 1)) ks' = 3 := h1
  refine ⟨ks', went he (by rw [List.length_reverse]; exact h2) (by rw [List.length_reverse]; omega) hc hr (fun v hv => h4 v (List.mem_reverse.1 hv)) hp, fun st' _ hl' hs' => ⟨ks', h1, by rw [List.length_reverse]; exact hl', ?_, fun v hv => hs' v (List.mem_reverse.1 hv)⟩⟩
  have := exprStep_len he
  rw [List.length_reverse]
  omega
def exprVal (row : List T_impl_Value) (ps : List T_impl_Part) : T_impl_Value := (valRun row ps []).getD N0
theorem Inv.fin {cs : List T_impl_Column} {ps : List T_impl_Part} {s : List T_impl_Value} (hI : Inv cs ps ps.length s) : ∃ v, s = [v] := by
 obtain ⟨ks, h1, h2, h3, h4⟩ := hI.h
 rw [List.drop_length] at h1
 unfold exprRun at h1
 split at h1
 ·match s, h2 with
  | [v], _ => exact ⟨v, rfl⟩
 ·cases h1
def holds (row : List T_impl_Value) (ps : List T_impl_Part) : Bool := eq_T_impl_Value (exprVal row ps) (ofV 1)
end Go.D
set_option linter.unusedVariables false
namespace Go.D
theorem asc_ext : ∀ {xs ys : List Int}, xs.Pairwise (· < ·) → ys.Pairwise (· < ·) → (∀ x, x ∈ xs ↔ x ∈ ys) → xs = ys
 | [], [], _, _, _ => rfl
 | [], y :: ys, _, _, h => absurd ((h y).2 (by simp)) (by simp)
 | x :: xs, [], _, _, h => absurd ((h x).1 (by simp)) (by simp)
 | x :: xs, y :: ys, h1, h2, h => by
  rw [List.pairwise_cons] at h1 h2
  have hxy : x = y := by
   rcases List.mem_cons.1 ((h x).1 (by simp)) with e | e
   ·exact e
   ·rcases List.mem_cons.1 ((h y).2 (by simp)) with e' | e'
    ·exact e'.symm
    ·have := h2.1 x e
     have := h1.1 y e'
     omega
  subst hxy
  congr 1
  refine asc_ext h1.2 h2.2 fun z => ⟨fun hz => ?_, fun hz => ?_⟩
  ·rcases List.mem_cons.1 ((h z).1 (by simp [hz])) with e | e
   ·have := h1.1 z hz
    omega
   ·exact e
  ·rcases List.mem_cons.1 ((h z).2 (by simp [hz])) with e | e
   ·have := h2.1 z hz
    omega
   ·exact e
theorem compactUpTo_asc {d : Array Int} : ∀ (m : Nat), (∀ i j, i ≤ j → j < m → d[i]! ≤ d[j]!) → (Lib.compactUpTo d m).Pairwise (· < ·) ∧ ∀ x, x ∈ Lib.compactUpTo d m ↔ ∃ j, j < m ∧ d[j]! = x
 | 0, _ => by
  refine ⟨by simp [Lib.compactUpTo], fun x => ⟨fun h => by simp [Lib.compactUpTo] at h, ?_⟩⟩
  rintro ⟨j, hj, _⟩
  omega
 | m + 1, h => by
  obtain ⟨h1, h2⟩ := compactUpTo_asc m fun i j hi hj => h i j hi (by omega)
  rw [Lib.compactUpTo_succ]
  cases hk : Lib.keeps d m with
  | true =>
   rw [if_pos rfl]
   refine ⟨?_, fun x => ?_⟩
   ·rw [List.pairwise_append]
    refine ⟨h1, by simp, fun x hx y hy => ?_⟩
    simp only [List.mem_cons, List.not_mem_nil, or_false] at hy
    subst hy
    obtain ⟨j, hj, rfl⟩ := (h2 x).1 hx
    have hne : d[m]! ≠ d[m - 1]! := by
     unfold Lib.keeps at hk
     rcases of_decide_eq_true hk with e | e
     ·omega
     ·exact e
    have a1 := h j (m - 1) (by omega) (by omega)
    have a2 := h (m - 1) m (by omega) (by omega)
    omega
   ·rw [List.mem_append, h2]
    simp only [List.mem_cons, List.not_mem_nil, or_false]
    constructor
    ·rintro (⟨j, hj, e⟩ | e)
     ·exact ⟨j, by omega, e⟩
     ·exact ⟨m, by omega, e.symm⟩
    ·rintro ⟨j, hj, e⟩
     by_cases hjm : j = m
     ·subst hjm
      exact .inr e.symm
     ·exact .inl ⟨j, by omega, e⟩
  | false =>
   rw [if_neg (by simp), List.append_nil]
   refine ⟨h1, fun x => ?_⟩
   rw [h2]
   have hn : ¬ (m = 0 ∨ d[m]! ≠ d[m - 1]!) := by
    unfold Lib.keeps at hk
    exact of_decide_eq_false hk
   have hm : m ≠ 0 := fun e => hn (.inl e)
   have he : d[m]! = d[m - 1]! := Decidable.byContradiction fun e => hn (.inr e)
   constructor
   ·rintro ⟨j, hj, e⟩
    exact ⟨j, by omega, e⟩
   ·rintro ⟨j, hj, e⟩
    by_cases hjm : j = m
    ·subst hjm
     exact ⟨j - 1, by omega, by rw [← he]; exact e⟩
    ·exact ⟨j, by omega, e⟩
theorem compact_sort (zs : List Int) : (Lib.compact (zs.mergeSort fun x y => decide (x ≤ y))).Pairwise (· < ·) ∧ ∀ x, x ∈ Lib.compact (zs.mergeSort fun x y => decide (x ≤ y)) ↔ x ∈ zs := by
 have hs : (zs.mergeSort fun x y => decide (x ≤ y)).Pairwise fun a b => decide (a ≤ b) = true := List.pairwise_mergeSort (fun a b c h1 h2 => by simp at *; omega) (fun a b => by simp; omega) zs
 have hm : ∀ x, x ∈ (zs.mergeSort fun x y => decide (x ≤ y)) ↔ x ∈ zs := fun x => List.mem_mergeSort
 generalize (zs.mergeSort fun x y => decide (x ≤ y)) = ys at hs hm
 have hg : ∀ (j : Nat) (hj : j < ys.length), ys.toArray[j]! = ys[j] := fun j hj => by simp [hj]
 have := compactUpTo_asc (d := ys.toArray) ys.length fun i j hij hj => by
  rw [hg i (by omega), hg j hj]
  by_cases e : i = j
  ·subst e
   omega
  ·exact of_decide_eq_true (List.pairwise_iff_getElem.1 hs i j (by omega) hj (by omega))
 refine ⟨this.1, fun x => ?_⟩
 rw [← hm x]
 refine (this.2 x).trans ⟨?_, fun h => ?_⟩
 ·rintro ⟨j, hj, rfl⟩
  rw [hg j hj]
  exact List.getElem_mem hj
 ·obtain ⟨j, hj, rfl⟩ := List.getElem_of_mem h
  exact ⟨j, hj, hg j hj⟩
theorem impl_cloneI {a : List Int} (ha : a.length ≤ 4194304) : impl_clone_int a = some a := by
 unfold impl_clone_int slices_Clip_int_int
 cases h : ((a.length : Int)) == 0
 ·rw [app_lt (by simp; omega), Option.bind_some, List.nil_append, show slI a none (some (a.length : Int)) (some (a.length : Int)) = some a by simp [slI]]
  rfl
 ·have : a = [] := by
   have : (a.length : Int) = 0 := by simpa using h
   exact List.eq_nil_of_length_eq_zero (by omega)
  subst this
  rfl
def asked (e : List T_impl_Part) (k : Nat) : Bool := e.any fun p => p.fKind == 2 && p.fN == (k : Int)
def colsV (cs : List T_impl_Column) (e : List T_impl_Part) : List Int := bif decide (0 ≤ exprKind cs e) then ((List.range cs.length).filter (asked e)).map Int.ofNat else []
def colsL (e : List T_impl_Part) : List Int := (e.filter fun p => p.fKind == 2).map (·.fN)
theorem run_cols {cs : List T_impl_Column} : ∀ (ps : List T_impl_Part) (rs : List Int), 0 ≤ exprRun cs ps rs → ∀ p ∈ ps, p.fKind = 2 → 0 ≤ p.fN ∧ p.fN < cs.length
 | [], _, _, p, hp, _ => by cases hp
 | q :: ps, rs, h, p, hp, hk => by
  unfold exprRun at h
  cases he : exprStep cs rs q with
  | none =>
   rw [he] at h
   have h : (0 : Int) ≤ -1 := h
   omega
  | some rs' =>
   rw [he] at h
   rcases List.mem_cons.1 hp with rfl | hp
   ·unfold exprStep at he
    rw [if_neg (by omega), if_pos hk] at he
    obtain ⟨h1, _⟩ := bifSome he
    unfold inR at h1
    simp only [Bool.and_eq_true, decide_eq_true_eq] at h1
    omega
   ·exact run_cols ps rs' h p hp hk
theorem kind_run {cs : List T_impl_Column} {e : List T_impl_Part} (h : 0 ≤ exprKind cs e) : 0 ≤ exprRun cs e [] ∧ colsOk cs = true ∧ e.length ≤ 12 := by
 unfold exprKind at h
 cases hc : colsOk cs && decide (e.length ≤ 12) with
 | false =>
  rw [hc] at h
  have h : (0 : Int) ≤ -1 := h
  omega
 | true =>
  rw [hc, cond_true] at h
  simp only [Bool.and_eq_true, decide_eq_true_eq] at hc
  exact ⟨h, hc.1, hc.2⟩
theorem colsV_asc (cs : List T_impl_Column) (e : List T_impl_Part) : (colsV cs e).Pairwise (· < ·) := by
 unfold colsV
 cases decide (0 ≤ exprKind cs e)
 ·exact List.Pairwise.nil
 ·rw [cond_true, List.pairwise_map]
  refine (List.Pairwise.filter _ List.pairwise_lt_range).imp fun h => ?_
  exact Int.ofNat_lt.2 h
theorem colsV_mem {cs : List T_impl_Column} {e : List T_impl_Part} {x : Int} (h : x ∈ colsV cs e) : 0 ≤ x ∧ x < cs.length := by
 unfold colsV at h
 cases hk : decide (0 ≤ exprKind cs e) with
 | false =>
  rw [hk] at h
  cases h
 | true =>
  rw [hk, cond_true, List.mem_map] at h
  obtain ⟨k, hk, rfl⟩ := h
  have := List.mem_range.1 (List.mem_filter.1 hk).1
  exact ⟨Int.natCast_nonneg _, by show (k : Int) < _; omega⟩
theorem colsV_len (cs : List T_impl_Column) (e : List T_impl_Part) : (colsV cs e).length ≤ cs.length := by
 unfold colsV
 cases decide (0 ≤ exprKind cs e)
 ·exact Nat.zero_le _
 ·rw [cond_true, List.length_map]
  exact Nat.le_trans (List.length_filter_le _ _) (by simp)
theorem colsV_has {cs : List T_impl_Column} {e : List T_impl_Part} (h : 0 ≤ exprKind cs e) {k : Nat} (hk : k < cs.length) : (k : Int) ∈ colsV cs e ↔ asked e k = true := by
 unfold colsV
 rw [decide_eq_true h, cond_true, List.mem_map]
 constructor
 ·rintro ⟨j, hj, ej⟩
  have : j = k := Int.ofNat_inj.1 ej
  subst this
  exact (List.mem_filter.1 hj).2
 ·intro ha
  exact ⟨k, List.mem_filter.2 ⟨List.mem_range.2 hk, ha⟩, rfl⟩
theorem colsV_eq {cs : List T_impl_Column} {e : List T_impl_Part} (h : 0 ≤ exprKind cs e) : Lib.compact ((colsL e).mergeSort fun x y => decide (x ≤ y)) = colsV cs e := by
 obtain ⟨h1, h2⟩ := compact_sort (colsL e)
 refine asc_ext h1 (colsV_asc cs e) fun x => ?_
 rw [h2]
 unfold colsL
 rw [List.mem_map]
 constructor
 ·rintro ⟨p, hp, rfl⟩
  obtain ⟨hp1, hp2⟩ := List.mem_filter.1 hp
  have hp2 := beq_iff_eq.1 hp2
  obtain ⟨a1, a2⟩ := run_cols e [] (kind_run h).1 p hp1 hp2
  obtain ⟨k, hk⟩ := Int.eq_ofNat_of_zero_le a1
  rw [hk, colsV_has h (by omega)]
  unfold asked
  rw [List.any_eq_true]
  exact ⟨p, hp1, by simp [hp2, hk]⟩
 ·intro hx
  obtain ⟨a1, a2⟩ := colsV_mem hx
  obtain ⟨k, rfl⟩ := Int.eq_ofNat_of_zero_le a1
  rw [colsV_has h (by omega)] at hx
  unfold asked at hx
  rw [List.any_eq_true] at hx
  obtain ⟨p, hp, hq⟩ := hx
  simp only [Bool.and_eq_true, beq_iff_eq] at hq
  exact ⟨p, List.mem_filter.2 ⟨hp, by simp [hq.1]⟩, hq.2⟩
theorem spec_found {e : List T_impl_Part} (he : e.length ≤ 1000) (k : Nat) (acc : List Int) (hacc : acc.length ≤ 1000) (K : Int → List Int → Option (List Int)) :
  spec_ExprColumns_l3 e (k : Int) acc K FUEL false 0 = bif asked e k then K (w64 ((k : Int) + 1)) (acc ++ [(k : Int)]) else K (w64 ((k : Int) + 1)) acc := by
 have := loop_opt (xs := e) (L := fun f i (s : Bool) => spec_ExprColumns_l3 e (k : Int) acc K f s i) (fun rest s => bif s || asked rest k then K (w64 ((k : Int) + 1)) (acc ++ [(k : Int)]) else K (w64 ((k : Int) + 1)) acc) (fun _ _ => True) (by omega)
  (fun f i s p hi hv hw _ => by
   refine .inr ⟨s || (p.fKind == 2 && p.fN == (k : Int)), trivial, ?_, ?_⟩
   ·rw [spec_ExprColumns_l3, decide_eq_true (by omega), cond_true, getI_nat, hv]
    cases s
    ·rw [cond_false, Option.bind_some, Option.bind_some]
     cases p.fKind == 2
     ·rw [cond_false, spec_ExprColumns_j4, hw]; rfl
     ·rw [cond_true, spec_ExprColumns_j4, hw]; rfl
    ·rw [cond_true, spec_ExprColumns_j4, hw]; rfl
   ·unfold asked
    rw [List.any_cons, Bool.or_assoc])
  (fun f s _ => by
   rw [spec_ExprColumns_l3, decide_eq_false (Int.lt_irrefl _), cond_false]
   cases s
   ·rfl
   ·rw [cond_true, app_lt (by simp; omega)]; rfl) (s := false) trivial
 rw [Bool.false_or] at this
 exact this
theorem spec_cols {cs : List T_impl_Column} {e : List T_impl_Part} (hc : cs.length ≤ 100) (hl : e.length ≤ 1000) (hp : ∀ p ∈ e, SmP p) : spec_ExprColumns cs e = some (colsV cs e) := by
 unfold spec_ExprColumns
 cases hk : decide (0 ≤ exprKind cs e) with
 | false =>
  have hv : colsV cs e = [] := by
   unfold colsV
   rw [hk]
   rfl
  have hd : decide (exprKind cs e ≥ 0) = false := hk
  rw [hv, spec_ExprColumns_l0.eq_def]
  show (bif _ then _ else _) = _
  rw [spec_exprKind (by omega) (by omega) hp, Option.bind_some, hd]
  cases decide ((0 : Int) < cs.length) <;> rfl
 | true =>
  have h := of_decide_eq_true hk
  have hd : decide (exprKind cs e ≥ 0) = true := hk
  have := loop_opt (xs := cs) (L := fun f i (s : List Int) => spec_ExprColumns_l0 cs e f i s) (fun _ _ => some (colsV cs e)) (fun i s => s = ((List.range i).filter (asked e)).map Int.ofNat) (by omega)
   (fun f i s c hi hv hw hI => by
    subst hI
    have hs : (((List.range i).filter (asked e)).map Int.ofNat).length ≤ 1000 := by
     rw [List.length_map]
     have := List.length_filter_le (asked e) (List.range i)
     rw [List.length_range] at this
     omega
    refine .inr ⟨_, rfl, ?_, rfl⟩
    rw [spec_ExprColumns_l0, decide_eq_true (by omega), cond_true, spec_exprKind (by omega) (by omega) hp, Option.bind_some, hd, spec_ExprColumns_j1, cond_true, spec_found hl i _ hs, hw, List.range_succ, List.filter_append, List.map_append]
    cases ha : asked e i
    ·simp [ha]
    ·simp [ha])
   (fun f s hI => by
    subst hI
    rw [spec_ExprColumns_l0, decide_eq_false (Int.lt_irrefl _), cond_false]
    unfold colsV
    rw [hk]
    rfl) (s := []) rfl
  exact this
theorem impl_colsL {e : List T_impl_Part} (hl : e.length ≤ 1000) : impl_exprColumns e = some (Lib.compact ((colsL e).mergeSort fun x y => decide (x ≤ y))) := by
 unfold impl_exprColumns
 have := loop_opt (xs := e) (L := fun f i (s : List Int) => impl_exprColumns_l0 e f i s) (fun rest s => some (Lib.compact ((s ++ colsL rest).mergeSort fun x y => decide (x ≤ y)))) (fun i s => s.length ≤ i) (by omega)
  (fun f i s p hi hv hw hI => by
   cases hk : p.fKind == 2 with
   | false =>
    refine .inr ⟨s, by omega, ?_, ?_⟩
    ·rw [impl_exprColumns_l0, decide_eq_true (by omega), cond_true, getI_nat, hv, Option.bind_some, hk, cond_false, hw]
    ·unfold colsL
     rw [List.filter_cons, hk]
     rfl
   | true =>
    refine .inr ⟨s ++ [p.fN], by simp; omega, ?_, ?_⟩
    ·rw [impl_exprColumns_l0, decide_eq_true (by omega), cond_true, getI_nat, hv, Option.bind_some, hk, cond_true, app_lt (by simp; omega), Option.bind_some, hw]
    ·unfold colsL
     rw [List.filter_cons, hk, List.append_assoc]
     rfl)
  (fun f s hI => by
   have hc : (Lib.compact (s.mergeSort fun x y => decide (x ≤ y))).length ≤ 4194304 := by
    have : (Lib.compact (s.mergeSort fun x y => decide (x ≤ y))).length ≤ (s.mergeSort fun x y => decide (x ≤ y)).length := by
     unfold Lib.compact Lib.compactUpTo
     rw [List.length_map]
     refine Nat.le_trans (List.length_filter_le _ _) ?_
     simp
    rw [List.length_mergeSort] at this
    omega
   rw [impl_exprColumns_l0, decide_eq_false (Int.lt_irrefl _), cond_false]
   unfold sortI compactI
   rw [decide_eq_true (show s.length < 4611686018427387904 by omega), cond_true, Option.bind_some, Option.bind_some, impl_cloneI hc, Option.bind_some]
   show _ = some (Lib.compact ((s ++ []).mergeSort _))
   rw [List.append_nil]) (s := []) (Nat.le_refl _)
 rw [List.nil_append] at this
 exact this
theorem impl_cols {cs : List T_impl_Column} {e : List T_impl_Part} (hc : cs.length ≤ 100) (hl : e.length ≤ 1000) (hp : ∀ p ∈ e, SmP p) : impl_ExprColumns cs e = some (colsV cs e) := by
 unfold impl_ExprColumns
 rw [impl_exprKind (by omega) (by omega) hp, Option.bind_some]
 by_cases h : 0 ≤ exprKind cs e
 ·rw [decide_eq_false (show ¬ exprKind cs e < 0 by omega), cond_false, impl_colsL hl, Option.bind_some, colsV_eq h]
 ·rw [decide_eq_true (show exprKind cs e < 0 by omega), cond_true]
  unfold colsV
  rw [decide_eq_false h]
  rfl
end Go.D
set_option linter.unusedVariables false
namespace Go.D
structure RdOk (n : Int) (r : T_spec_l20Rd) : Prop where
 len : r.fB.length ≤ 2000
 lo : 0 ≤ r.fP
 hi : r.fP ≤ n
theorem RdOk.up {n m : Int} {r : T_spec_l20Rd} (h : RdOk n r) (hm : n ≤ m) : RdOk m r := ⟨h.len, h.lo, by have := h.hi; omega⟩
theorem remI_pos {a b : Int} (ha : 0 ≤ a) (hb : 0 < b) : ∃ k, remI a b = some k ∧ 0 ≤ k ∧ k < b := by
 unfold remI
 rw [if_neg (by omega)]
 refine ⟨_, rfl, ?_, ?_⟩
 ·rw [Int.tmod_eq_emod_of_nonneg ha]
  exact Int.emod_nonneg _ (by omega)
 ·rw [Int.tmod_eq_emod_of_nonneg ha]
  exact Int.emod_lt_of_pos _ hb
theorem quoI_pos {a b : Int} (ha : 0 ≤ a) (ha2 : a ≤ 4611686018427387904) (hb : 0 < b) : ∃ k, quoI a b = some k ∧ 0 ≤ k ∧ k ≤ a := by
 unfold quoI
 rw [if_neg (by omega), Int.tdiv_eq_ediv_of_nonneg ha]
 have h0 : 0 ≤ a / b := Int.ediv_nonneg ha (by omega)
 have h1 : a / b ≤ a := Int.ediv_le_self _ ha
 rw [w64_of (by omega) (by omega)]
 exact ⟨_, rfl, h0, h1⟩
theorem xor_w {a b : Int} (ha : 0 ≤ a) (hb : 0 ≤ b) (ha2 : a < 4611686018427387904) (hb2 : b < 4611686018427387904) : 0 ≤ w64 (((BitVec.ofInt 64 a ^^^ BitVec.ofInt 64 b).toNat : Nat) : Int) := by
 obtain ⟨m, rfl⟩ := Int.eq_ofNat_of_zero_le ha
 obtain ⟨n, rfl⟩ := Int.eq_ofNat_of_zero_le hb
 have hm : m < 2 ^ 62 := by omega
 have hn : n < 2 ^ 62 := by omega
 have e : (BitVec.ofInt 64 (m : Int) ^^^ BitVec.ofInt 64 (n : Int)).toNat = m ^^^ n := by
  rw [BitVec.toNat_xor, BitVec.ofInt_natCast, BitVec.ofInt_natCast, BitVec.toNat_ofNat, BitVec.toNat_ofNat, Nat.mod_eq_of_lt (by omega), Nat.mod_eq_of_lt (by omega)]
 rw [e]
 have := Nat.xor_lt_two_pow hm hn
 rw [w64_of (by omega) (by omega)]
 omega
theorem pick_ok {n : Int} {r : T_spec_l20Rd} (h : RdOk n r) (hn : n ≤ 1000000) (a : Int) : ∃ k r', spec_l20Rd_pick r a = some (k, r') ∧ RdOk (n + 1) r' ∧ 0 ≤ k ∧ (a < 1 → k = 0) ∧ (1 ≤ a → k < a) := by
 obtain ⟨fB, fP⟩ := r
 obtain ⟨h1, h2, h3⟩ := h
 simp only at h1 h2 h3
 have w1 : w64 (fP + 1) = fP + 1 := w64_of (by omega) (by omega)
 have w2 : w64 (fP + 1 - 1) = fP := by rw [show fP + 1 - 1 = fP by omega]; exact w64_of (by omega) (by omega)
 have hr : RdOk (n + 1) ⟨fB, fP + 1⟩ := ⟨h1, by simp only; omega, by simp only; omega⟩
 unfold spec_l20Rd_pick
 by_cases ha : a < 1
 ·rw [decide_eq_true ha, cond_true]
  unfold spec_l20Rd_pick_j0
  simp only [cond_true, w1]
  exact ⟨0, _, rfl, hr, Int.le_refl _, fun _ => rfl, fun h => by omega⟩
 rw [decide_eq_false ha, cond_false]
 unfold spec_l20Rd_pick_j0
 simp only [w1, w2]
 by_cases hl : fB.length = 0
 ·have : ((fB.length : Int) == 0) = true := by rw [hl]; rfl
  rw [this, cond_true]
  exact ⟨0, _, rfl, hr, Int.le_refl _, fun _ => rfl, fun h => by omega⟩
 have : ((fB.length : Int) == 0) = false := by
  rw [beq_eq_false_iff_ne]
  omega
 rw [this, cond_false]
 have hpos : (0 : Int) < fB.length := by omega
 by_cases hp : fP < (fB.length : Int)
 ·rw [decide_eq_true hp, cond_true]
  obtain ⟨b, hb, _⟩ := getI_lt (xs := fB) h2 hp
  have hb8 : b.toNat < 256 := b.toNat_lt
  have w3 : w64 (b.toNat : Int) = b.toNat := w64_of (by omega) (by omega)
  obtain ⟨k, hk, k0, k1⟩ := remI_pos (a := (b.toNat : Int)) (b := a) (by omega) (by omega)
  rw [hb, Option.bind_some, w3, hk, Option.bind_some]
  exact ⟨k, _, rfl, hr, k0, fun h => by omega, fun _ => k1⟩
 ·rw [decide_eq_false hp, cond_false]
  have w4 : w64 (fP * 7) = fP * 7 := w64_of (by omega) (by omega)
  have w5 : w64 (fP * 7 + 3) = fP * 7 + 3 := w64_of (by omega) (by omega)
  have w6 : w64 (fP * 29) = fP * 29 := w64_of (by omega) (by omega)
  obtain ⟨k1, e1, l1, u1⟩ := remI_pos (a := fP) (b := (fB.length : Int)) h2 hpos
  obtain ⟨b1, g1, _⟩ := getI_lt (xs := fB) l1 u1
  obtain ⟨k2, e2, l2, u2⟩ := remI_pos (a := fP * 7 + 3) (b := (fB.length : Int)) (by omega) hpos
  obtain ⟨b2, g2, _⟩ := getI_lt (xs := fB) l2 u2
  obtain ⟨k3, e3, l3, u3⟩ := quoI_pos (a := fP) (b := (fB.length : Int)) h2 (by omega) hpos
  have hb1 : b1.toNat < 256 := b1.toNat_lt
  have hb2 : b2.toNat < 256 := b2.toNat_lt
  have w7 : w64 (b1.toNat : Int) = b1.toNat := w64_of (by omega) (by omega)
  have w8 : w64 (b2.toNat : Int) = b2.toNat := w64_of (by omega) (by omega)
  have w9 : w64 ((b1.toNat : Int) * 131) = (b1.toNat : Int) * 131 := w64_of (by omega) (by omega)
  have w10 : w64 ((b2.toNat : Int) * 1117) = (b2.toNat : Int) * 1117 := w64_of (by omega) (by omega)
  have w11 : w64 ((b1.toNat : Int) * 131 + (b2.toNat : Int) * 1117) = (b1.toNat : Int) * 131 + (b2.toNat : Int) * 1117 := w64_of (by omega) (by omega)
  have w12 : w64 ((b1.toNat : Int) * 131 + (b2.toNat : Int) * 1117 + fP * 29) = (b1.toNat : Int) * 131 + (b2.toNat : Int) * 1117 + fP * 29 := w64_of (by omega) (by omega)
  have w13 : w64 (k3 * 53) = k3 * 53 := w64_of (by omega) (by omega)
  have w14 : w64 ((b1.toNat : Int) * 131 + (b2.toNat : Int) * 1117 + fP * 29 + k3 * 53) = (b1.toNat : Int) * 131 + (b2.toNat : Int) * 1117 + fP * 29 + k3 * 53 := w64_of (by omega) (by omega)
  simp only [w4, w5, w6, e1, g1, e2, g2, e3, Option.bind_some, w7, w8, w9, w10, w11, w12, w13, w14]
  generalize hx : (b1.toNat : Int) * 131 + (b2.toNat : Int) * 1117 + fP * 29 + k3 * 53 = x
  have x0 : 0 ≤ x := by omega
  have x1 : x ≤ 100000000 := by omega
  have y0 : 0 ≤ x.tdiv 64 := by rw [Int.tdiv_eq_ediv_of_nonneg x0]; omega
  have y1 : x.tdiv 64 ≤ x := by rw [Int.tdiv_eq_ediv_of_nonneg x0]; omega
  have w15 : w64 (x.tdiv 64) = x.tdiv 64 := w64_of (by omega) (by omega)
  rw [w15]
  obtain ⟨k, hk, k0, kk⟩ := remI_pos (b := a) (xor_w (a := x) (b := x.tdiv 64) x0 y0 (by omega) (by omega)) (by omega)
  rw [hk, Option.bind_some]
  exact ⟨k, _, rfl, hr, k0, fun h => by omega, fun _ => kk⟩
theorem odd_ok {n : Int} {r : T_spec_l20Rd} (h : RdOk n r) (hn : n ≤ 1000000) (a : Int) : ∃ b r', spec_l20Rd_odd r a = some (b, r') ∧ RdOk (n + 1) r' := by
 unfold spec_l20Rd_odd
 by_cases ha : a > 0
 ·obtain ⟨k, r', e, hr, _⟩ := pick_ok h hn a
  rw [decide_eq_true ha, cond_true, e, Option.bind_some]
  exact ⟨_, _, rfl, hr⟩
 ·rw [decide_eq_false ha, cond_false]
  exact ⟨_, _, rfl, h.up (by omega)⟩
theorem open_ok {b : List UInt8} (hb : b.length ≤ 1048576) : ∃ r, spec_l20Open b = some r ∧ RdOk 0 r := by
 unfold spec_l20Open spec_l20Open_j0
 by_cases h : (b.length : Int) > 2000
 ·rw [decide_eq_true h, cond_true]
  have e : slI b none (some 2000) none = some (b.take 2000) := by
   unfold slI
   rw [if_pos (by simp only [Option.getD_none, Option.getD_some]; omega)]
   simp
  rw [e, Option.bind_some]
  exact ⟨_, rfl, by simp only [List.length_take]; omega, Int.le_refl _, Int.le_refl _⟩
 ·rw [decide_eq_false h, cond_false]
  exact ⟨_, rfl, by simp only; omega, Int.le_refl _, Int.le_refl _⟩
end Go.D
set_option linter.unusedVariables false
namespace Go.D
def Wp {α : Type} (m : Option (α × T_spec_l20Rd)) (Q : α → T_spec_l20Rd → Prop) : Prop := ∃ x r, m = some (x, r) ∧ Q x r
theorem wp_some {α : Type} {x : α} {r : T_spec_l20Rd} {Q : α → T_spec_l20Rd → Prop} (h : Q x r) : Wp (some (x, r)) Q := ⟨x, r, rfl, h⟩
theorem wp_pick {α : Type} {r : T_spec_l20Rd} {a n : Int} {f : Int × T_spec_l20Rd → Option (α × T_spec_l20Rd)} {Q : α → T_spec_l20Rd → Prop} (h : RdOk n r) (hn : n ≤ 1000000)
  (hk : ∀ k r', RdOk (n + 1) r' → 0 ≤ k → (a < 1 → k = 0) → (1 ≤ a → k < a) → Wp (f (k, r')) Q) : Wp ((spec_l20Rd_pick r a).bind f) Q := by
 obtain ⟨k, r', e, h1, h2, h3, h4⟩ := pick_ok h hn a
 rw [e, Option.bind_some]
 exact hk k r' h1 h2 h3 h4
theorem wp_odd {α : Type} {r : T_spec_l20Rd} {a n : Int} {f : Bool × T_spec_l20Rd → Option (α × T_spec_l20Rd)} {Q : α → T_spec_l20Rd → Prop} (h : RdOk n r) (hn : n ≤ 1000000)
  (hk : ∀ b r', RdOk (n + 1) r' → Wp (f (b, r')) Q) : Wp ((spec_l20Rd_odd r a).bind f) Q := by
 obtain ⟨k, r', e, h1⟩ := odd_ok h hn a
 rw [e, Option.bind_some]
 exact hk k r' h1
theorem wp_bif {α : Type} {c : Bool} {a b : Option (α × T_spec_l20Rd)} {Q : α → T_spec_l20Rd → Prop} (h1 : c = true → Wp a Q) (h2 : c = false → Wp b Q) : Wp (bif c then a else b) Q := by
 cases c with
 | true => exact h1 rfl
 | false => exact h2 rfl
theorem wp_app {α β : Type} {xs ys : List β} {f : List β → Option (α × T_spec_l20Rd)} {Q : α → T_spec_l20Rd → Prop} (h : xs.length + ys.length < 68719476736) (hk : Wp (f (xs ++ ys)) Q) : Wp ((app xs ys).bind f) Q := by
 rw [app_lt h, Option.bind_some]
 exact hk
theorem wp_addS {α : Type} {a b : ByteArray} {f : ByteArray → Option (α × T_spec_l20Rd)} {Q : α → T_spec_l20Rd → Prop} (h : a.size + b.size ≤ 1000000) (hk : ∀ s, s.size = a.size + b.size → Wp (f s) Q) : Wp ((addS a b).bind f) Q := by
 have e : addS a b = some (a ++ b) := if_pos (by omega)
 rw [e, Option.bind_some]
 exact hk _ ByteArray.size_append
theorem wp_getI {α β : Type} {xs : List β} {i : Int} {f : β → Option (α × T_spec_l20Rd)} {Q : α → T_spec_l20Rd → Prop} (h0 : 0 ≤ i) (h1 : i < xs.length) (hk : ∀ x ∈ xs, Wp (f x) Q) : Wp ((getI xs i).bind f) Q := by
 obtain ⟨x, h, hx⟩ := getI_lt h0 h1
 rw [h, Option.bind_some]
 exact hk x (List.mem_of_getElem? hx)
theorem wp_then {α β : Type} {m : Option (β × T_spec_l20Rd)} {f : β × T_spec_l20Rd → Option (α × T_spec_l20Rd)} {P : β → T_spec_l20Rd → Prop} {Q : α → T_spec_l20Rd → Prop} (h : Wp m P) (hk : ∀ x r, P x r → Wp (f (x, r)) Q) : Wp (m.bind f) Q := by
 obtain ⟨x, r, e, hp⟩ := h
 rw [e, Option.bind_some]
 exact hk x r hp
theorem wp_mono {α : Type} {m : Option (α × T_spec_l20Rd)} {P Q : α → T_spec_l20Rd → Prop} (h : Wp m P) (hk : ∀ x r, P x r → Q x r) : Wp m Q := by
 obtain ⟨x, r, e, hp⟩ := h
 exact ⟨x, r, e, hk x r hp⟩
theorem loop_down {σ β : Type} {L : Nat → Int → σ → Option (β × T_spec_l20Rd)} {Q : β → T_spec_l20Rd → Prop} (Inv : Nat → σ → Prop)
  (h : ∀ (f k : Nat) (s : σ), k ≤ 1000000 → w64 (((k + 1 : Nat) : Int) - 1) = (k : Int) → Inv (k + 1) s → (∀ s', Inv k s' → Wp (L f (k : Int) s') Q) → Wp (L (f + 1) ((k + 1 : Nat) : Int) s) Q)
  (he : ∀ (f : Nat) (s : σ), Inv 0 s → Wp (L (f + 1) 0 s) Q) (k : Nat) (s : σ) (hI : Inv k s) (hk : k ≤ 1000000) : Wp (L FUEL (k : Int) s) Q := by
 have main : ∀ (k f : Nat) (s : σ), k < f → k ≤ 1000000 → Inv k s → Wp (L f (k : Int) s) Q := by
  intro k
  induction k with
  | zero =>
   intro f s hf _ hI
   obtain ⟨f, rfl⟩ : ∃ f', f = f' + 1 := ⟨f - 1, by omega⟩
   exact he f s hI
  | succ k ih =>
   intro f s hf hk hI
   obtain ⟨f, rfl⟩ : ∃ f', f = f' + 1 := ⟨f - 1, by omega⟩
   exact h f k s (by omega) (by rw [w64_of] <;> omega) hI fun s' hI' => ih f s' (by omega) (by omega) hI'
 exact main k FUEL s (by unfold FUEL; omega) hk hI
theorem columns_ok {n : Int} {r : T_spec_l20Rd} (h : RdOk n r) (hn : n ≤ 900000) (a : Int) : Wp (spec_l20Columns r a) fun cs r' => RdOk (n + 9) r' ∧ 1 ≤ cs.length ∧ cs.length ≤ 6 := by
 unfold spec_l20Columns
 refine wp_pick h (by omega) fun v r1 h1 v0 _ v1 => ?_
 have v1 := v1 (by omega)
 have e : w64 (1 + v) = ((v.toNat + 1 : Nat) : Int) := by rw [w64_of (by omega) (by omega)]; omega
 simp only
 rw [e]
 have := loop_down (L := fun f i (s : T_spec_l20Rd × List T_impl_Column) => spec_l20Columns_l0 a f i s.1 s.2) (Q := fun cs r' => RdOk (n + 9) r' ∧ 1 ≤ cs.length ∧ cs.length ≤ 6)
  (fun k s => RdOk (n + 1 + 2 * (3 - k)) s.1 ∧ s.2.length + k = v.toNat + 1)
  (fun f k s hk hw hI hrec => by
   obtain ⟨r, xs⟩ := s
   obtain ⟨hI1, hI2⟩ := hI
   simp only at hI1 hI2 ⊢
   rw [spec_l20Columns_l0, decide_eq_true (by omega), cond_true]
   refine wp_pick hI1 (by omega) fun k1 r1 h1 p0 _ p1 => ?_
   refine wp_getI p0 (by have := p1 (by omega); simp; omega) fun c hc => ?_
   refine wp_pick h1 (by omega) fun k2 r2 h2 q0 _ q1 => ?_
   refine wp_app (by simp; omega) ?_
   simp only [hw]
   exact hrec (r2, _) ⟨h2.up (by (try simp only); omega), by simp; omega⟩)
  (fun f s hI => by
   obtain ⟨r, xs⟩ := s
   obtain ⟨hI1, hI2⟩ := hI
   simp only at hI1 hI2 ⊢
   rw [spec_l20Columns_l0, decide_eq_false (by omega), cond_false]
   refine wp_odd hI1 (by omega) fun b r1 h1 => wp_bif (fun _ => ?_) fun _ => ?_
   ·refine wp_pick h1 (by omega) fun k1 r2 h2 _ _ _ => wp_app (by simp; omega) (wp_some ⟨h2.up (by omega), ?_, ?_⟩)
    ·simp
    ·simp; omega
   ·exact wp_some ⟨h1.up (by omega), by omega, by omega⟩)
  (v.toNat + 1) (r1, []) ⟨h1.up (by (try simp only); omega), by simp⟩ (by omega)
 exact this
theorem like_ok {n : Int} {r : T_spec_l20Rd} (h : RdOk n r) (hn : n ≤ 900000) (c : T_impl_Column) : Wp (spec_l20Like r c) fun v r' => RdOk (n + 2) r' ∧ v.fS.size ≤ 2 := by
 have e0 : (ByteArray.mk #[]).size = 0 := rfl
 have key : ∀ (m : Int) (r : T_spec_l20Rd) (b : Bool), RdOk m r → m ≤ n + 1 → Wp (spec_l20Like_j0 c b r) fun v r' => RdOk (n + 2) r' ∧ v.fS.size ≤ 2 := by
  intro m r b h hm
  unfold spec_l20Like_j0
  refine wp_bif (fun _ => wp_some ⟨h.up (by omega), by simp [e0]⟩) fun _ => wp_bif (fun _ => ?_) fun _ => wp_bif (fun _ => ?_) fun _ => ?_
  ·exact wp_pick h (by omega) fun k r1 h1 _ _ _ => wp_some ⟨h1.up (by omega), by simp [e0]⟩
  ·refine wp_pick h (by omega) fun k r1 h1 p0 _ p1 => wp_getI p0 (by have := p1 (by omega); simp; omega) fun s hs => wp_some ⟨h1.up (by omega), ?_⟩
   simp only [List.mem_cons, List.not_mem_nil, or_false] at hs
   rcases hs with rfl | rfl | rfl | rfl <;> decide
  ·exact wp_pick h (by omega) fun k r1 h1 _ _ _ => wp_some ⟨h1.up (by omega), by simp [e0]⟩
 unfold spec_l20Like
 refine wp_bif (fun _ => wp_pick h (by omega) fun k r1 h1 _ _ _ => key _ _ _ h1 (by omega)) fun _ => key _ _ _ h (by omega)
theorem value_j0 {n : Int} {r : T_spec_l20Rd} (h : RdOk n r) (hn : n ≤ 900000) (a : Int) {v : T_impl_Value} (hv : v.fS.size ≤ 3) : Wp (spec_l20Value_j0 a r v) fun v r' => RdOk (n + 3) r' ∧ v.fS.size ≤ 10 := by
 unfold spec_l20Value_j0
 have e1 : (ByteArray.mk #[97, 98, 99, 100, 101, 102, 103]).size = 7 := rfl
 have e2 : (ByteArray.mk #[65]).size = 1 := rfl
 refine wp_odd h (by omega) fun b r1 h1 => wp_bif (fun _ => ?_) fun _ => wp_some ⟨h1.up (by omega), by omega⟩
 refine wp_pick h1 (by omega) fun k r2 h2 _ _ _ => wp_bif (fun _ => wp_some ⟨h2.up (by omega), by simp only; omega⟩) fun _ => wp_bif (fun _ => ?_) fun _ => wp_bif (fun _ => ?_) fun _ => ?_
 ·exact wp_addS (by omega) fun s hs => wp_some ⟨h2.up (by omega), by simp only; omega⟩
 ·exact wp_pick h2 (by omega) fun k r3 h3 _ _ _ => wp_some ⟨h3.up (by omega), by simp only; omega⟩
 ·exact wp_addS (by omega) fun s hs => wp_some ⟨h2.up (by omega), by simp only; omega⟩
theorem value_ok {n : Int} {r : T_spec_l20Rd} (h : RdOk n r) (hn : n ≤ 800000) (a : Int) : Wp (spec_l20Value r a) fun v r' => RdOk (n + 9) r' ∧ v.fS.size ≤ 10 := by
 have e0 : (ByteArray.mk #[]).size = 0 := rfl
 have fin : ∀ (m : Int) (r : T_spec_l20Rd) (v : T_impl_Value), RdOk m r → m ≤ n + 6 → v.fS.size ≤ 3 → Wp (spec_l20Value_j0 a r v) fun v r' => RdOk (n + 9) r' ∧ v.fS.size ≤ 10 :=
  fun m r v h hm hv => wp_mono (value_j0 h (by omega) a hv) fun v r' hq => ⟨hq.1.up (by omega), hq.2⟩
 have j2 : ∀ (x : Int × T_spec_l20Rd) (b : Bool), RdOk (n + 1) x.2 → Wp (spec_l20Value_j2 a x b) fun v r' => RdOk (n + 9) r' ∧ v.fS.size ≤ 10 := by
  intro x b hx
  have j3 : ∀ b, Wp (spec_l20Value_j3 a x b) fun v r' => RdOk (n + 9) r' ∧ v.fS.size ≤ 10 := by
   intro b
   unfold spec_l20Value_j3
   refine wp_bif (fun _ => ?_) fun _ => wp_pick hx (by omega) fun k r1 h1 _ _ _ => fin _ _ _ h1 (by omega) (by simp [e0])
   refine wp_pick hx (by omega) fun k r1 h1 p0 _ p1 => ?_
   have p1 := p1 (by omega)
   have e : k = ((k.toNat : Nat) : Int) := by omega
   simp only
   rw [e]
   have := loop_down (L := fun f i (s : T_spec_l20Rd × T_impl_Value) => spec_l20Value_l4 a f i s.1 s.2) (Q := fun v r' => RdOk (n + 9) r' ∧ v.fS.size ≤ 10)
    (fun k s => k ≤ 3 ∧ RdOk (n + 2 + (3 - k)) s.1 ∧ s.2.fS.size + k ≤ 3)
    (fun f k s hk hw hI hrec => by
     obtain ⟨r, v⟩ := s
     obtain ⟨hI0, hI1, hI2⟩ := hI
     simp only at hI1 hI2 ⊢
     have es : ∀ b : UInt8, (ByteArray.mk (List.toArray ([b] : List UInt8))).size = 1 := fun _ => rfl
     rw [spec_l20Value_l4, decide_eq_true (by omega), cond_true]
     refine wp_pick hI1 (by omega) fun k1 r1 h1 _ _ _ => wp_addS (by rw [es]; omega) fun s hs => ?_
     rw [es] at hs
     simp only [hw]
     exact hrec (r1, _) ⟨by omega, h1.up (by omega), by simp only; omega⟩)
    (fun f s hI => by
     obtain ⟨r, v⟩ := s
     obtain ⟨hI0, hI1, hI2⟩ := hI
     simp only at hI1 hI2 ⊢
     rw [spec_l20Value_l4, decide_eq_false (by omega), cond_false]
     exact fin _ _ _ hI1 (by omega) (by omega))
    k.toNat (r1, T_impl_Value.mk 2 0 (ByteArray.mk #[])) ⟨by omega, h1.up (by omega), by simp only [e0]; omega⟩ (by omega)
   exact this
  unfold spec_l20Value_j2
  refine wp_bif (fun _ => ?_) fun _ => wp_bif (fun _ => j3 _) fun _ => j3 _
  refine wp_pick hx (by omega) fun k r1 h1 _ _ _ => wp_pick h1 (by omega) fun k2 r2 h2 _ _ _ => wp_bif (fun _ => ?_) fun _ => fin _ _ _ h2 (by omega) (by simp [e0])
  exact wp_pick h2 (by omega) fun k3 r3 h3 p0 _ p1 => wp_getI p0 (by have := p1 (by omega); simp; omega) fun x hx => fin _ _ _ h3 (by omega) (by simp [e0])
 unfold spec_l20Value
 refine wp_pick h (by omega) fun k r1 h1 _ _ _ => wp_bif (fun _ => fin _ _ _ h1 (by omega) (by simp [e0])) fun _ => wp_bif (fun _ => j2 _ _ h1) fun _ => wp_bif (fun _ => j2 _ _ h1) fun _ => j2 _ _ h1
end Go.D
set_option linter.unusedVariables false
namespace Go.D
end Go.D
set_option linter.unusedVariables false
namespace Go.D
theorem loop_up {γ σ β : Type} {xs : List γ} {L : Nat → Int → σ → Option (β × T_spec_l20Rd)} {Q : β → T_spec_l20Rd → Prop} (Inv : Nat → σ → Prop) (hlen : xs.length ≤ 1000000)
  (h : ∀ (f i : Nat) (s : σ) (v : γ), i < xs.length → xs[i]? = some v → w64 ((i : Int) + 1) = ((i + 1 : Nat) : Int) → Inv i s → (∀ s', Inv (i + 1) s' → Wp (L f ((i + 1 : Nat) : Int) s') Q) → Wp (L (f + 1) (i : Int) s) Q)
  (he : ∀ (f : Nat) (s : σ), Inv xs.length s → Wp (L (f + 1) (xs.length : Int) s) Q) (s : σ) (h0 : Inv 0 s) : Wp (L FUEL 0 s) Q := by
 have main : ∀ (k f i : Nat) (s : σ), i + k = xs.length → k < f → Inv i s → Wp (L f (i : Int) s) Q := by
  intro k
  induction k with
  | zero =>
   intro f i s hi hf hI
   obtain ⟨f, rfl⟩ : ∃ f', f = f' + 1 := ⟨f - 1, by omega⟩
   have : i = xs.length := by omega
   subst this
   exact he f s hI
  | succ k ih =>
   intro f i s hi hf hI
   obtain ⟨f, rfl⟩ : ∃ f', f = f' + 1 := ⟨f - 1, by omega⟩
   have hlt : i < xs.length := by omega
   exact h f i s xs[i] hlt (List.getElem?_eq_getElem hlt) (succ_w hlt (by omega)) hI fun s' hI' => ih f (i + 1) s' (by omega) (by omega) hI'
 exact main xs.length FUEL 0 s (by omega) (by unfold FUEL; omega) h0
def Sr (m : Nat) (row : List T_impl_Value) : Prop := row.length ≤ m ∧ ∀ v ∈ row, v.fS.size ≤ 10
theorem Sr.app {m k : Nat} {row r2 : List T_impl_Value} (h : Sr m row) (h2 : Sr k r2) : Sr (m + k) (row ++ r2) := ⟨by have := h.1; have := h2.1; rw [List.length_append]; omega, fun v hv => (List.mem_append.1 hv).elim (h.2 v) (h2.2 v)⟩
theorem Sr.one {v : T_impl_Value} (h : v.fS.size ≤ 10) : Sr 1 [v] := ⟨by simp, fun u hu => by simp at hu; subst hu; exact h⟩
theorem fit_ok {n : Int} {r : T_spec_l20Rd} (h : RdOk n r) (hn : n ≤ 700000) {cs : List T_impl_Column} (hc : cs.length ≤ 6) (a : Int) : Wp (spec_l20Fit r cs a) fun row r' => RdOk (n + 41) r' ∧ Sr 9 row := by
 unfold spec_l20Fit
 have e0 : (ByteArray.mk #[]).size = 0 := rfl
 exact loop_up (xs := cs) (L := fun f i (s : T_spec_l20Rd × List T_impl_Value) => spec_l20Fit_l0 cs a f i s.1 s.2) (Q := fun row r' => RdOk (n + 41) r' ∧ Sr 9 row)
  (fun i s => RdOk (n + 2 * i) s.1 ∧ Sr i s.2 ∧ s.2.length = i) (by omega)
  (fun f i s c hi hv hw hI hrec => by
   obtain ⟨r, row⟩ := s
   obtain ⟨h1, h2, h3⟩ := hI
   simp only at h1 h2 h3 ⊢
   rw [spec_l20Fit_l0, decide_eq_true (by omega), cond_true, getI_nat, hv, Option.bind_some]
   refine wp_then (like_ok h1 (by omega) c) fun v r1 hq => wp_app (by simp; omega) ?_
   simp only [hw]
   exact hrec (r1, _) ⟨hq.1.up (by omega), h2.app (.one (Nat.le_trans hq.2 (by omega))), by simp; omega⟩)
  (fun f s hI => by
   obtain ⟨r, row⟩ := s
   obtain ⟨h1, h2, h3⟩ := hI
   simp only at h1 h2 h3 ⊢
   have h9 : Sr 9 row := ⟨by omega, h2.2⟩
   rw [spec_l20Fit_l0, decide_eq_false (Int.lt_irrefl _), cond_false]
   refine wp_odd h1 (by omega) fun b r1 g1 => wp_bif (fun _ => ?_) fun _ => wp_some ⟨g1.up (by omega), h9⟩
   refine wp_pick g1 (by omega) fun k r2 g2 _ _ _ => wp_bif (fun _ => ?_) fun _ => wp_bif (fun _ => wp_bif (fun hp => ?_) fun _ => ?_) fun _ => ?_
   ·exact wp_app (by simp; omega) (wp_some ⟨g2.up (by omega), by have := (h2.app (.one (v := T_impl_Value.mk 0 0 (ByteArray.mk #[])) (by simp [e0]))).1; simp at this ⊢; exact ⟨by simp; omega, (h2.app (.one (v := T_impl_Value.mk 0 0 (ByteArray.mk #[])) (by simp [e0]))).2⟩⟩)
   ·have hp := of_decide_eq_true hp
    refine wp_pick g2 (by omega) fun k2 r3 g3 p0 _ p1 => wp_then (value_ok g3 (by omega) 3) fun v r4 hq => wp_getI p0 (p1 (by omega)) fun o ho => wp_some ⟨hq.1.up (by omega), ?_, ?_⟩
    ·rw [List.length_set]; omega
    ·intro u hu
     rcases List.mem_or_eq_of_mem_set hu with hu | rfl
     ·exact h2.2 u hu
     ·exact hq.2
   ·exact wp_some ⟨g2.up (by omega), h9⟩
   ·refine wp_then (value_ok g2 (by omega) 0) fun v1 r3 q1 => wp_then (value_ok q1.1 (by omega) 0) fun v2 r4 q2 => wp_then (value_ok q2.1 (by omega) 0) fun v3 r5 q3 => wp_app (by simp; omega) (wp_some ⟨q3.1.up (by omega), ?_⟩)
    have hs : Sr 3 [v1, v2, v3] := ⟨by simp, fun u hu => by
     simp only [List.mem_cons, List.not_mem_nil, or_false] at hu
     rcases hu with rfl | rfl | rfl
     ·exact q1.2
     ·exact q2.2
     ·exact q3.2⟩
    have := h2.app hs
    exact ⟨by have := this.1; simp at this ⊢; omega, this.2⟩) (r, []) ⟨h.up (by simp), ⟨by simp, fun v hv => by cases hv⟩, rfl⟩
end Go.D
set_option linter.unusedVariables false
namespace Go.D
def costE : Nat → Int
 | 0 => 12
 | d + 1 => 2 * costE d + 24
def lenE : Nat → Nat
 | 0 => 1
 | d + 1 => 2 * lenE d + 2
theorem costE_pos : ∀ d, 12 ≤ costE d
 | 0 => by simp [costE]
 | d + 1 => by have := costE_pos d; simp only [costE]; omega
theorem lenE_pos : ∀ d, 1 ≤ lenE d
 | 0 => by simp [lenE]
 | d + 1 => by simp only [lenE]; omega
def ExOk (l : Nat) (e : List T_impl_Part) : Prop := e.length ≤ l ∧ ∀ p ∈ e, SmP p
theorem ExOk.app {k l : Nat} {a b : List T_impl_Part} (h : ExOk k a) (h2 : ExOk l b) : ExOk (k + l) (a ++ b) := ⟨by have := h.1; have := h2.1; rw [List.length_append]; omega, fun v hv => (List.mem_append.1 hv).elim (h.2 v) (h2.2 v)⟩
theorem ExOk.one {p : T_impl_Part} (h : SmP p) : ExOk 1 [p] := ⟨by simp, fun u hu => by simp at hu; subst hu; exact h⟩
theorem ExOk.up {k l : Nat} {a : List T_impl_Part} (h : ExOk k a) (hl : k ≤ l) : ExOk l a := ⟨Nat.le_trans h.1 hl, h.2⟩
theorem smP_op (k n : Int) : SmP (T_impl_Part.mk k n (T_impl_Value.mk 0 0 (ByteArray.mk #[]))) := by
 have e0 : (ByteArray.mk #[]).size = 0 := rfl
 unfold SmP SmV
 simp only [e0]
 omega
end Go.D
set_option linter.unusedVariables false
namespace Go.D
end Go.D
set_option linter.unusedVariables false
namespace Go.D
end Go.D
set_option linter.unusedVariables false
namespace Go.D
open Go.Proofs
theorem rd_5 : Rd Try.prog 5 UInt8 u8W := rd_u8 Try.underlying5 (by kernel_rfl)
theorem rd_22 : Rd Try.prog 22 (List UInt8) (listW u8W) := rd_slice Try.underlying22 (by kernel_rfl) rd_5
end Go.D
set_option linter.unusedVariables false
namespace Go.D
theorem alive_ok : laws_alive = some true := by
 have e0 : (ByteArray.mk #[]).size = 0 := rfl
 unfold laws_alive impl_ValueOk
 rw [impl_value (v := T_impl_Value.mk 1 3 (ByteArray.mk #[])) (by simp [e0]), Option.bind_some, impl_value (v := T_impl_Value.mk 9 0 (ByteArray.mk #[])) (by simp [e0]), Option.bind_some]
 have h1 : valOk (T_impl_Value.mk 1 3 (ByteArray.mk #[])) = true := by simp [valOk, inR]
 have h2 : valOk (T_impl_Value.mk 9 0 (ByteArray.mk #[])) = false := by simp [valOk]
 rw [h1, h2]
 rfl
end Go.D
set_option linter.unusedVariables false
namespace Go.D
structure Sides (ca cb : List T_impl_Column) (ar br : List (List T_impl_Value)) (ps : List T_impl_Part) : Prop where
 sc : Sm ca.length
 sd : Sm cb.length
 sa : SmRs ar
 sb : SmRs br
 sl : Sm ps.length
 sp : ∀ p ∈ ps, SmP p
def ready (ca cb : List T_impl_Column) (ar br : List (List T_impl_Value)) (ps : List T_impl_Part) : Bool := rowsOk ca ar && (rowsOk cb br && (exprKind (ca ++ cb) ps == 3 && (decide (ar.length ≤ 30) && decide (br.length ≤ 30))))
section
variable {ca cb : List T_impl_Column} {ar br : List (List T_impl_Value)} {ps : List T_impl_Part} (h : Sides ca cb ar br ps) (hr : ready ca cb ar br ps = true)
include h hr
end
end Go.D
set_option linter.unusedVariables false
namespace Go.D
def Srn (n : Nat) (rows : List (List T_impl_Value)) : Prop := rows.length ≤ n ∧ ∀ r ∈ rows, Sr 9 r
theorem Srn.app {m k : Nat} {a b : List (List T_impl_Value)} (h : Srn m a) (h2 : Srn k b) : Srn (m + k) (a ++ b) := ⟨by have := h.1; have := h2.1; rw [List.length_append]; omega, fun v hv => (List.mem_append.1 hv).elim (h.2 v) (h2.2 v)⟩
theorem Srn.up {m k : Nat} {a : List (List T_impl_Value)} (h : Srn m a) (hm : m ≤ k) : Srn k a := ⟨Nat.le_trans h.1 hm, h.2⟩
abbrev PairT := (List T_impl_Column) × (List T_impl_Column) × (List (List T_impl_Value)) × (List (List T_impl_Value)) × Int × Int
structure PairOk (x : PairT) : Prop where
 a1 : 1 ≤ x.1.length
 a2 : x.1.length ≤ 6
 b1 : 1 ≤ x.2.1.length
 b2 : x.2.1.length ≤ 6
 ra : Srn 12 x.2.2.1
 rb : Srn 7 x.2.2.2.1
abbrev TestT := (List T_impl_Column) × (List T_impl_Column) × (List (List T_impl_Value)) × (List (List T_impl_Value)) × (List T_impl_Part)
structure TestOk (x : TestT) : Prop where
 a1 : 1 ≤ x.1.length
 a2 : x.1.length ≤ 6
 b1 : 1 ≤ x.2.1.length
 b2 : x.2.1.length ≤ 7
 ra : Srn 13 x.2.2.1
 rb : Srn 7 x.2.2.2.1
 ex : ExOk 100 x.2.2.2.2
end Go.D
set_option linter.unusedVariables false
namespace Go.D
def KC (cs : List T_impl_Column) : Prop := ∀ c ∈ cs, inR c.fKind 1 3 = true
theorem KC.app {a b : List T_impl_Column} (h : KC a) (h2 : KC b) : KC (a ++ b) := fun c hc => (List.mem_append.1 hc).elim (h c) (h2 c)
theorem KC.take {a : List T_impl_Column} (h : KC a) (n : Nat) : KC (a.take n) := fun c hc => h c (List.mem_of_mem_take hc)
structure FitR (cs : List T_impl_Column) (r : List T_impl_Value) : Prop where
 l : r.length = cs.length
 v : ∀ v ∈ r, valOk v = true
 z : ((r.zip cs).all fun p => fits p.2 p.1) = true
theorem FitR.rowFits {cs : List T_impl_Column} {r : List T_impl_Value} (h : FitR cs r) (hc : colsOk cs = true) : rowFits cs r = true := by
 have hl : cs.length ≤ 4 := by
  unfold colsOk at hc
  simp only [Bool.and_eq_true, decide_eq_true_eq] at hc
  exact hc.2
 unfold Go.D.rowFits rowOk
 rw [hc, h.z, List.all_eq_true.2 h.v, decide_eq_true (show r.length ≤ 4 by rw [h.l]; exact hl), h.l, beq_self_eq_true]
 rfl
theorem like_fit {n : Int} {r : T_spec_l20Rd} (h : RdOk n r) (hn : n ≤ 900000) {c : T_impl_Column} (hc : inR c.fKind 1 3 = true) : Wp (spec_l20Like r c) fun v r' => RdOk (n + 2) r' ∧ v.fS.size ≤ 2 ∧ valOk v = true ∧ fits c v = true := by
 have e0 : (ByteArray.mk #[]).size = 0 := rfl
 have key : ∀ (m : Int) (r : T_spec_l20Rd) (b : Bool), RdOk m r → m ≤ n + 1 → (b = true → c.fEmpty = true) → Wp (spec_l20Like_j0 c b r) fun v r' => RdOk (n + 2) r' ∧ v.fS.size ≤ 2 ∧ valOk v = true ∧ fits c v = true := by
  intro m r b h hm hb
  unfold spec_l20Like_j0
  refine wp_bif (fun hbt => wp_some ⟨h.up (by omega), by simp [e0], by unfold valOk; simp, ?_⟩) fun _ => wp_bif (fun hk => ?_) fun hk1 => wp_bif (fun hk => ?_) fun hk2 => ?_
  ·unfold fits; rw [hb hbt]; simp
  ·refine wp_pick h (by omega) fun k r1 h1 p0 _ p1 => wp_some ⟨h1.up (by omega), by simp [e0], ?_, ?_⟩
   ·have := p1 (by omega)
    have : inR k (-9999) 9999 = true := by unfold inR; simp; omega
    show (inR k (-9999) 9999 && _) = true
    rw [this, Bool.true_and]
    exact beq_self_eq_true _
   ·unfold fits; rw [eq_of_beq hk]; rfl
  ·refine wp_pick h (by omega) fun k r1 h1 p0 _ p1 => wp_getI p0 (by have := p1 (by omega); simp; omega) fun s hs => wp_some ⟨h1.up (by omega), ?_, ?_, ?_⟩
   ·simp only [List.mem_cons, List.not_mem_nil, or_false] at hs
    rcases hs with rfl | rfl | rfl | rfl <;> decide
   ·simp only [List.mem_cons, List.not_mem_nil, or_false] at hs
    rcases hs with rfl | rfl | rfl | rfl <;> rfl
   ·unfold fits; rw [eq_of_beq hk]; rfl
  ·refine wp_pick h (by omega) fun k r1 h1 p0 _ p1 => wp_some ⟨h1.up (by omega), by simp [e0], ?_, ?_⟩
   ·have := p1 (by omega)
    have : inR k 0 1 = true := by unfold inR; simp; omega
    show (inR k 0 1 && _) = true
    rw [this, Bool.true_and]
    exact beq_self_eq_true _
   ·have : c.fKind = 3 := by
     unfold inR at hc
     simp at hc hk1 hk2
     omega
    unfold fits; rw [this]; rfl
 unfold spec_l20Like
 refine wp_bif (fun he => wp_pick h (by omega) fun k r1 h1 _ _ _ => key _ _ _ h1 (by omega) fun _ => he) fun _ => key _ _ _ h (by omega) (fun h => by cases h)
def Fn (n : Nat) (cs : List T_impl_Column) (rows : List (List T_impl_Value)) : Prop := rows.length ≤ n ∧ ∀ r ∈ rows, Sr 9 r ∧ FitR cs r
theorem Fn.app {m k : Nat} {cs : List T_impl_Column} {a b : List (List T_impl_Value)} (h : Fn m cs a) (h2 : Fn k cs b) : Fn (m + k) cs (a ++ b) := ⟨by have := h.1; have := h2.1; rw [List.length_append]; omega, fun v hv => (List.mem_append.1 hv).elim (h.2 v) (h2.2 v)⟩
structure PairFit (x : PairT) : Prop where
 a1 : 1 ≤ x.1.length
 a2 : x.1.length ≤ 6
 b1 : 1 ≤ x.2.1.length
 b2 : x.2.1.length ≤ 6
 ka : KC x.1
 kb : KC x.2.1
 ra : Fn 12 x.1 x.2.2.1
 rb : Fn 6 x.2.1 x.2.2.2.1
structure TestFit (x : TestT) : Prop where
 a1 : 1 ≤ x.1.length
 a2 : x.1.length ≤ 6
 b1 : 1 ≤ x.2.1.length
 b2 : x.2.1.length ≤ 6
 ra : Fn 12 x.1 x.2.2.1
 rb : Fn 6 x.2.1 x.2.2.2.1
 ex : ExOk 100 x.2.2.2.2
end Go.D
set_option linter.unusedVariables false
namespace Go.D
def Good (cs : List T_impl_Column) (k : Int) (e : List T_impl_Part) : Prop := ∀ rest rs, exprRun cs (e ++ rest) rs = exprRun cs rest (k :: rs)
theorem run_step {cs : List T_impl_Column} {p : T_impl_Part} {ps : List T_impl_Part} {rs rs' : List Int} (h : exprStep cs rs p = some rs') : exprRun cs (p :: ps) rs = exprRun cs ps rs' := by
 rw [exprRun, h]
theorem zero_nil : zeroV (T_impl_Value.mk 0 0 (ByteArray.mk #[])) = true := by
 unfold zeroV
 simp [eq_T_impl_Value, andB]
theorem kind_ne {k : Int} (h : inR k 1 3 = true) : k ≠ 0 := by rintro rfl; cases h
theorem good_val {cs : List T_impl_Column} {kd : Int} {v : T_impl_Value} (hk : inR kd 1 3 = true) (hv : valOk v = true) (hf : fits ⟨kd, false⟩ v = true) : Good cs kd [T_impl_Part.mk 1 0 v] := by
 have hkd : v.fKind = kd := by
  unfold fits at hf
  simpa using hf
 intro rest rs
 refine run_step ?_
 show (bif (0 : Int) == 0 && (valOk v && !(v.fKind == 0)) then some (v.fKind :: rs) else none) = _
 rw [hv, hkd, beq_eq_false_iff_ne.2 (kind_ne hk)]
 rfl
theorem good_col {cs : List T_impl_Column} {kd k : Int} {c : T_impl_Column} (hc : getI cs k = some c) (hk : c.fKind = kd) : Good cs kd [T_impl_Part.mk 2 k (T_impl_Value.mk 0 0 (ByteArray.mk #[]))] := by
 obtain ⟨h0, h1, _⟩ := getI_spec hc
 intro rest rs
 refine run_step ?_
 show (bif zeroV (T_impl_Value.mk 0 0 (ByteArray.mk #[])) && inR k 0 ((cs.length : Int) - 1) then (getI cs k).map fun c => c.fKind :: rs else none) = _
 have : inR k 0 ((cs.length : Int) - 1) = true := by
  unfold inR
  rw [decide_eq_true h0, decide_eq_true (by omega)]
  rfl
 rw [zero_nil, this, hc, ← hk]
 rfl
section
variable {cs : List T_impl_Column} {a b : List T_impl_Part} {k : Int}
theorem Good.add (ha : Good cs 1 a) (hb : Good cs 1 b) : Good cs 1 (a ++ b ++ [T_impl_Part.mk 3 0 (T_impl_Value.mk 0 0 (ByteArray.mk #[]))]) := fun rest rs => by
 rw [List.append_assoc, List.append_assoc, ha, hb]
 refine run_step ?_
 show (bif zeroV (T_impl_Value.mk 0 0 (ByteArray.mk #[])) && (0 : Int) == 0 then _ else _) = _
 rw [zero_nil]
 rfl
theorem Good.cmp (ha : Good cs k a) (hb : Good cs k b) {n : Int} (hn : inR n 1 4 = true) : Good cs 3 (a ++ b ++ [T_impl_Part.mk 4 n (T_impl_Value.mk 0 0 (ByteArray.mk #[]))]) := fun rest rs => by
 rw [List.append_assoc, List.append_assoc, ha, hb]
 refine run_step ?_
 show (bif zeroV (T_impl_Value.mk 0 0 (ByteArray.mk #[])) && inR n 1 4 then (bif k == k then some (3 :: rs) else none) else none) = _
 rw [zero_nil, hn, beq_self_eq_true]
 rfl
theorem Good.both (ha : Good cs 3 a) (hb : Good cs 3 b) {n : Int} (hn : n = 5 ∨ n = 6) : Good cs 3 (a ++ b ++ [T_impl_Part.mk n 0 (T_impl_Value.mk 0 0 (ByteArray.mk #[]))]) := fun rest rs => by
 rw [List.append_assoc, List.append_assoc, ha, hb]
 refine run_step ?_
 rcases hn with rfl | rfl
 ·show (bif zeroV (T_impl_Value.mk 0 0 (ByteArray.mk #[])) && (0 : Int) == 0 then _ else _) = _
  rw [zero_nil]
  rfl
 ·show (bif zeroV (T_impl_Value.mk 0 0 (ByteArray.mk #[])) && (0 : Int) == 0 then _ else _) = _
  rw [zero_nil]
  rfl
theorem Good.not (ha : Good cs 3 a) : Good cs 3 (a ++ [T_impl_Part.mk 7 0 (T_impl_Value.mk 0 0 (ByteArray.mk #[]))]) := fun rest rs => by
 rw [List.append_assoc, ha]
 refine run_step ?_
 show (bif zeroV (T_impl_Value.mk 0 0 (ByteArray.mk #[])) && (0 : Int) == 0 then _ else _) = _
 rw [zero_nil]
 rfl
theorem Good.isn (ha : Good cs k a) : Good cs 3 (a ++ [T_impl_Part.mk 8 0 (T_impl_Value.mk 0 0 (ByteArray.mk #[]))]) := fun rest rs => by
 rw [List.append_assoc, ha]
 refine run_step ?_
 show (bif zeroV (T_impl_Value.mk 0 0 (ByteArray.mk #[])) && (0 : Int) == 0 then _ else _) = _
 rw [zero_nil]
 rfl
end
theorem wp_getK {α β : Type} {xs : List β} {i : Int} {f : β → Option (α × T_spec_l20Rd)} {Q : α → T_spec_l20Rd → Prop} (h0 : 0 ≤ i) (h1 : i < xs.length) (hk : ∀ x, getI xs i = some x → Wp (f x) Q) : Wp ((getI xs i).bind f) Q := by
 obtain ⟨x, h, hx⟩ := getI_lt h0 h1
 have := hk x h
 rw [h, Option.bind_some]
 exact this
theorem leaf_good {n : Int} {r : T_spec_l20Rd} (h : RdOk n r) (hn : n ≤ 400000) (cs : List T_impl_Column) (hc : cs.length ≤ 100) {kd : Int} (hk : inR kd 1 3 = true) : Wp (spec_l20Leaf r cs kd) fun p r' => RdOk (n + 10) r' ∧ SmP p ∧ Good cs kd [p] := by
 unfold spec_l20Leaf
 have e0 : (ByteArray.mk #[]).size = 0 := rfl
 have j1 : ∀ (m : Int) (r : T_spec_l20Rd) (x : Int) (K : Int → T_spec_l20Rd → Option (T_impl_Part × T_spec_l20Rd)) (b : Bool), RdOk m r → m ≤ n + 8 → (b = true → 0 < cs.length) → (b = true → ∀ r', RdOk (m + 2) r' → Wp (K (w64 (x + 1)) r') fun p r' => RdOk (n + 10) r' ∧ SmP p ∧ Good cs kd [p]) →
   Wp (spec_l20Leaf_j1 cs kd x r K b) fun p r' => RdOk (n + 10) r' ∧ SmP p ∧ Good cs kd [p] := by
  intro m r x K b hr hm hb hK
  unfold spec_l20Leaf_j1
  refine wp_bif (fun hbt => ?_) fun _ => wp_then (like_fit (c := ⟨kd, false⟩) hr (by omega) hk) fun v r1 hq => wp_some ⟨hq.1.up (by omega), by have := hq.2.1; unfold SmP SmV; simp only; omega, good_val hk hq.2.2.1 hq.2.2.2⟩
  have hpos := hb hbt
  refine wp_pick hr (by omega) fun k r1 g1 p0 _ p1 => wp_getK p0 (p1 (by omega)) fun c hck => ?_
  have j2 : ∀ (r2 : T_spec_l20Rd) (b2 : Bool), (b2 = true → c.fKind = kd) → RdOk (m + 2) r2 → Wp (spec_l20Leaf_j2 x K (k, r1) b2 r2) fun p r' => RdOk (n + 10) r' ∧ SmP p ∧ Good cs kd [p] := by
   intro r2 b2 hbk h2
   unfold spec_l20Leaf_j2
   exact wp_bif (fun hb2 => wp_some ⟨h2.up (by omega), by unfold SmP SmV; simp only [e0]; omega, good_col hck (hbk hb2)⟩) fun _ => hK hbt r2 h2
  refine wp_bif (fun hck => wp_pick g1 (by omega) fun k2 r2 g2 _ _ _ => j2 _ _ (fun _ => eq_of_beq hck) (g2.up (by omega))) fun _ => j2 _ _ (fun h => by cases h) (g1.up (by omega))
 have main : ∀ (k f : Nat) (i : Nat) (r : T_spec_l20Rd), i + k = 4 → k < f → RdOk (n + 2 * i) r → Wp (spec_l20Leaf_l0 cs kd f (i : Int) r) fun p r' => RdOk (n + 10) r' ∧ SmP p ∧ Good cs kd [p] := by
  intro k
  induction k with
  | zero =>
   intro f i r hi hf hr
   obtain ⟨f, rfl⟩ : ∃ f', f = f' + 1 := ⟨f - 1, by omega⟩
   rw [spec_l20Leaf_l0, decide_eq_false (by omega), cond_false]
   exact j1 _ _ _ _ _ hr (by omega) (fun h => by cases h) (fun h => by cases h)
  | succ k ih =>
   intro f i r hi hf hr
   obtain ⟨f, rfl⟩ : ∃ f', f = f' + 1 := ⟨f - 1, by omega⟩
   have hw : w64 ((i : Int) + 1) = ((i + 1 : Nat) : Int) := by rw [w64_of] <;> omega
   rw [spec_l20Leaf_l0, decide_eq_true (by omega), cond_true]
   refine j1 _ _ _ _ _ hr (by omega) (fun h => by have := of_decide_eq_true h; omega) (fun _ r' hr' => ?_)
   rw [hw]
   exact ih f (i + 1) r' (by omega) (by omega) (hr'.up (by omega))
 exact main 4 FUEL 0 r rfl (by unfold FUEL; omega) (h.up (by simp))
def Gx (cs : List T_impl_Column) (k : Int) (l : Nat) (e : List T_impl_Part) : Prop := ExOk l e ∧ Good cs k e
theorem in13 {k : Int} (h0 : 0 ≤ k) (h1 : k < 3) : inR (w64 (1 + k)) 1 3 = true := by
 rw [w64_of (by omega) (by omega)]
 unfold inR
 rw [decide_eq_true (by omega), decide_eq_true (by omega)]
 rfl
theorem expr_good {cs : List T_impl_Column} (hc : cs.length ≤ 100) : ∀ (d f : Nat) (n : Int) (r : T_spec_l20Rd) (kd a : Int), inR kd 1 3 = true → d ≤ 4 → d < f → a ≤ d → -5 ≤ a → RdOk n r → n + costE d ≤ 300000 → Wp (spec_l20Expr_f f r cs kd a) fun e r' => RdOk (n + costE d) r' ∧ Gx cs kd (lenE d) e
 | d, 0, n, r, kd, a, _, _, hf, _, _, _, _ => absurd hf (Nat.not_lt_zero _)
 | 0, f + 1, n, r, kd, a, hk, _, _, ha, _, hr, hn => by
  have c0 : costE 0 = 12 := rfl
  rw [spec_l20Expr_f]
  unfold spec_l20Expr_s
  rw [decide_eq_true (by omega), cond_true]
  unfold spec_l20Expr_j0
  rw [cond_true]
  exact wp_then (leaf_good hr (by omega) cs hc hk) fun p r1 hq => wp_some ⟨hq.1.up (by omega), (ExOk.one hq.2.1).up (by simp [lenE]), hq.2.2⟩
 | d + 1, f + 1, n, r, kd, a, hk, hd, hf, ha, ha2, hr, hn => by
  have cp := costE_pos d
  have lp := lenE_pos d
  have c4 : costE d ≤ 500 := by
   match d, hd with
   | 0, _ => simp [costE]
   | 1, _ => simp [costE]
   | 2, _ => simp [costE]
   | 3, _ => simp [costE]
  have ce : costE (d + 1) = 2 * costE d + 24 := rfl
  have le : lenE (d + 1) = 2 * lenE d + 2 := rfl
  have l4 : lenE d ≤ 100 := by
   match d, hd with
   | 0, _ => simp [lenE]
   | 1, _ => simp [lenE]
   | 2, _ => simp [lenE]
   | 3, _ => simp [lenE]
  have leafE : ∀ (m : Int) (r : T_spec_l20Rd), RdOk m r → m ≤ n + 2 → Wp ((spec_l20Leaf r cs kd).bind fun v4 => some (([v4.1] : List T_impl_Part), v4.2)) fun e r' => RdOk (n + costE (d + 1)) r' ∧ Gx cs kd (lenE (d + 1)) e := by
   intro m r hr hm
   exact wp_then (leaf_good hr (by omega) cs hc hk) fun p r1 hq => wp_some ⟨hq.1.up (by omega), (ExOk.one hq.2.1).up (by omega), hq.2.2⟩
  rw [spec_l20Expr_f]
  unfold spec_l20Expr_s
  by_cases h1 : a < 1
  ·rw [decide_eq_true h1, cond_true]
   unfold spec_l20Expr_j0
   rw [cond_true]
   exact leafE _ _ hr (by omega)
  rw [decide_eq_false h1, cond_false]
  have w1 : w64 (a - 1) = a - 1 := w64_of (by omega) (by omega)
  have w2 : w64 (a - 2) = a - 2 := w64_of (by omega) (by omega)
  have ih := fun (n : Int) (r : T_spec_l20Rd) (k b : Int) (hk : inR k 1 3 = true) (hb : b ≤ d) (hb2 : -5 ≤ b) (hr : RdOk n r) (hn : n + costE d ≤ 300000) => expr_good hc d f n r k b hk (by omega) (by omega) hb hb2 hr hn
  refine wp_pick hr (by omega) fun k0 r0 g0 _ _ _ => ?_
  unfold spec_l20Expr_j0
  simp only [w1, w2]
  refine wp_bif (fun _ => leafE _ _ g0 (by omega)) fun _ => wp_bif (fun e1 => ?_) fun n1 => wp_bif (fun _ => leafE _ _ g0 (by omega)) fun n2 => ?_
  ·have e1 := eq_of_beq e1
   subst e1
   refine wp_then (ih _ _ 1 (a - 1) rfl (by omega) (by omega) g0 (by omega)) fun e1 r1 q1 => wp_then (leaf_good q1.1 (by omega) cs hc rfl) fun p r2 q2 => ?_
   have x1 := q1.2.1.app (ExOk.one q2.2.1)
   have x2 := x1.app (ExOk.one (smP_op 3 0))
   have l1 := q1.2.1.1
   refine wp_app (by simp; omega) (wp_app (by simp; omega) (wp_some ⟨q2.1.up (by omega), x2.up (by omega), q1.2.2.add q2.2.2⟩))
  ·have e3 : kd = 3 := by
    unfold inR at hk
    simp at hk n1 n2
    omega
   subst e3
   refine wp_pick g0 (by omega) fun k1 r1 g1 _ _ _ => wp_bif (fun _ => ?_) fun _ => wp_bif (fun _ => ?_) fun _ => wp_bif (fun _ => ?_) fun _ => ?_
   ·refine wp_then (ih _ _ 3 (a - 1) rfl (by omega) (by omega) g1 (by omega)) fun e1 r2 q1 => wp_then (ih _ _ 3 (a - 2) rfl (by omega) (by omega) q1.1 (by omega)) fun e2 r3 q2 => ?_
    have l1 := q1.2.1.1
    have l2 := q2.2.1.1
    refine wp_app (by (try simp only); omega) (wp_pick q2.1 (by omega) fun k2 r4 g4 p0 _ p1 => wp_app (by simp; omega) (wp_some ⟨g4.up (by omega), ((q1.2.1.app q2.2.1).app (ExOk.one (smP_op _ 0))).up (by omega), q1.2.2.both q2.2.2 ?_⟩))
    have p1 := p1 (by omega)
    simp only
    rw [w64_of (by omega) (by omega)]
    omega
   ·refine wp_then (ih _ _ 3 (a - 1) rfl (by omega) (by omega) g1 (by omega)) fun e1 r2 q1 => ?_
    have l1 := q1.2.1.1
    exact wp_app (by simp; omega) (wp_some ⟨q1.1.up (by omega), (q1.2.1.app (ExOk.one (smP_op _ 0))).up (by omega), q1.2.2.not⟩)
   ·refine wp_pick g1 (by omega) fun k2 r2 g2 p0 _ p1 => wp_then (ih _ _ _ (a - 1) (in13 p0 (p1 (by omega))) (by omega) (by omega) g2 (by omega)) fun e1 r3 q1 => ?_
    have l1 := q1.2.1.1
    exact wp_app (by simp; omega) (wp_some ⟨q1.1.up (by omega), (q1.2.1.app (ExOk.one (smP_op _ 0))).up (by omega), q1.2.2.isn⟩)
   ·refine wp_pick g1 (by omega) fun k2 r2 g2 p0 _ p1 => wp_then (ih _ _ _ (a - 1) (in13 p0 (p1 (by omega))) (by omega) (by omega) g2 (by omega)) fun e1 r3 q1 => wp_then (leaf_good q1.1 (by omega) cs hc (in13 p0 (p1 (by omega)))) fun p r4 q2 => ?_
    have l1 := q1.2.1.1
    refine wp_app (by simp; omega) (wp_pick q2.1 (by omega) fun k3 r5 g5 p0 _ p1 => wp_app (by simp; omega) (wp_some ⟨g5.up (by omega), ((q1.2.1.app (ExOk.one q2.2.1)).app (ExOk.one (smP_op _ _))).up (by omega), q1.2.2.cmp q2.2.2 ?_⟩))
    have p1 := p1 (by omega)
    simp only
    rw [w64_of (by omega) (by omega)]
    unfold inR
    rw [decide_eq_true (by omega), decide_eq_true (by omega)]
    rfl
end Go.D
set_option linter.unusedVariables false
namespace Go.D
theorem good_ne' {cs : List T_impl_Column} {k : Int} {e : List T_impl_Part} (h : Good cs k e) (hk : k ≠ -1) : 1 ≤ e.length := by
 cases e with
 | nil =>
  have := h [] []
  rw [List.nil_append] at this
  exact absurd this.symm (by simpa [exprRun] using hk)
 | cons p ps => simp
theorem wild_ok {n : Int} {r : T_spec_l20Rd} {cs : List T_impl_Column} (h : RdOk n r) (hn : n ≤ 50000) (hc : cs.length ≤ 100) (a : Int) : Wp (spec_l20Wild r cs a) fun e r' => ExOk 100 e := by
 have c3 : costE 3 = 264 := rfl
 have l3 : lenE 3 = 22 := rfl
 unfold spec_l20Wild
 refine wp_pick h (by omega) fun v r1 g1 v0 _ v1 => ?_
 have v1 := v1 (by omega)
 refine wp_getI v0 (by simp; omega) fun kd hkd => ?_
 have hk : inR kd 1 3 = true := by
  simp only [List.mem_cons, List.not_mem_nil, or_false] at hkd
  rcases hkd with rfl | rfl | rfl | rfl <;> rfl
 have hne : kd ≠ -1 := by
  simp only [List.mem_cons, List.not_mem_nil, or_false] at hkd
  rcases hkd with rfl | rfl | rfl | rfl <;> decide
 refine wp_then (expr_good hc 3 FUEL _ _ kd 3 hk (by omega) (by unfold FUEL; omega) (by omega) (by omega) g1 (by omega)) fun e r2 q2 => ?_
 obtain ⟨g2, x2⟩ := q2
 have hl := good_ne' x2.2 hne
 have hu := x2.1.1
 have up : ExOk 100 e := x2.1.up (by omega)
 refine wp_odd g2 (by omega) fun o r3 g3 => wp_bif (fun _ => wp_pick g3 (by omega) fun p r4 g4 _ _ _ => wp_bif (fun _ => ?_) fun _ => wp_bif (fun _ => ?_) fun _ => ?_) fun _ => wp_some up
 ·refine wp_pick g4 (by omega) fun q r5 g5 q0 _ q1 => ?_
  have q1 : q < e.length := q1 (show (0 : Int) < e.length by omega)
  have es : slI e none (some q) none = some (e.take q.toNat) := by
   unfold slI
   rw [if_pos (by simp only [Option.getD_none, Option.getD_some]; omega)]
   simp
  simp only
  rw [es, Option.bind_some]
  exact wp_some ⟨by simp; omega, fun p hp => up.2 p (List.mem_of_mem_take hp)⟩
 ·refine wp_pick g4 (by omega) fun q r5 g5 q0 _ q1 => wp_pick g5 (by omega) fun k r6 g6 _ _ _ => wp_pick g6 (by omega) fun m r7 g7 _ _ _ => ?_
  have q1 : q < e.length := q1 (show (0 : Int) < e.length by omega)
  refine wp_getI q0 q1 fun z hz => wp_some ⟨by rw [List.length_set]; exact up.1, fun p hp => ?_⟩
  rcases List.mem_or_eq_of_mem_set hp with hp | rfl
  ·exact up.2 p hp
  ·exact smP_op _ _
 ·refine wp_then (value_ok g4 (by omega) 2) fun w r5 q5 => wp_app (show e.length + 1 < 68719476736 by omega) (wp_some ⟨by rw [List.length_append]; show e.length + 1 ≤ 100; omega, fun p hp => ?_⟩)
  rcases List.mem_append.1 hp with hp | hp
  ·exact up.2 p hp
  ·have : p = T_impl_Part.mk 1 0 w := by simpa using hp
   rw [this]
   have := q5.2
   show Sm w.fS.size
   omega
end Go.D
set_option linter.unusedVariables false
namespace Go.D
theorem toList_loop (s : ByteArray) : ∀ (k i : Nat) (r : List UInt8), i + k = s.size → ByteArray.toList.loop s i r = r.reverse ++ s.data.toList.drop i
 | 0, i, r, h => by
  rw [ByteArray.toList.loop, if_neg (by omega), List.drop_of_length_le (by rw [Array.length_toList]; show s.size ≤ i; omega), List.append_nil]
 | k + 1, i, r, h => by
  have hi : i < s.data.toList.length := by rw [Array.length_toList]; show i < s.size; omega
  rw [ByteArray.toList.loop, if_pos (by omega), toList_loop s k (i + 1) _ (by omega), List.drop_eq_getElem_cons hi, List.reverse_cons, List.append_assoc]
  congr 1
  rw [List.singleton_append]
  congr 1
  show s.data[i]! = _
  rw [getElem!_pos s.data i (by rw [Array.length_toList] at hi; exact hi)]
  simp
theorem bytes_toList (s : ByteArray) : s.toList = s.data.toList := by
 unfold ByteArray.toList
 rw [toList_loop s s.size 0 [] (by omega)]
 simp
theorem eqV_iff (a b : T_impl_Value) : eq_T_impl_Value a b = true ↔ a = b := by
 obtain ⟨k, n, s⟩ := a
 obtain ⟨k', n', s'⟩ := b
 simp only [eq_T_impl_Value, andB, Bool.and_eq_true, beq_iff_eq, T_impl_Value.mk.injEq]
 refine ⟨fun h => ?_, fun h => ?_⟩
 ·obtain ⟨h1, h2, h3⟩ := h
  refine ⟨h1, h2, ?_⟩
  rw [bytes_toList, bytes_toList] at h3
  exact ByteArray.ext (Array.toList_inj.1 h3)
 ·obtain ⟨rfl, rfl, rfl⟩ := h
  exact ⟨rfl, rfl, rfl⟩
theorem eqV_refl (a : T_impl_Value) : eq_T_impl_Value a a = true := (eqV_iff a a).2 rfl
end Go.D
set_option linter.unusedVariables false
namespace Go.D
structure InvN (cs : List T_impl_Column) (ps : List T_impl_Part) (i : Nat) (s : List T_impl_Value) : Prop where
 h : ∃ ks, 0 ≤ exprRun cs (ps.drop i) ks ∧ ks.length = s.length ∧ s.length ≤ i ∧ ∀ v ∈ s, SmV v
theorem InvN.step {cs : List T_impl_Column} {ps : List T_impl_Part} {row : List T_impl_Value} {i : Nat} {s : List T_impl_Value} {p : T_impl_Part} (hI : InvN cs ps i s) (hi : i < ps.length) (hv : ps[i]? = some p) (hl : ps.length ≤ 2000000) (hc : row.length = cs.length) (hr : SmR row) (hp : SmP p) :
  ∃ ks', Went cs row s.reverse p ks' ∧ ∀ st', valStep row s.reverse p = some st' → ks'.length = st'.length → (∀ v ∈ st', SmV v) → InvN cs ps (i + 1) st'.reverse := by
 obtain ⟨ks, h1, h2, h3, h4⟩ := hI.h
 have e : ps.drop i = p :: ps.drop (i + 1) := by
  rw [List.drop_eq_getElem_cons hi]
  rw [List.getElem?_eq_getElem hi] at hv
  rw [Option.some.inj hv]
 rw [e] at h1
 unfold exprRun at h1
 cases he : exprStep cs ks p with
 | none =>
  rw [he] at h1
  have h1 : (0 : Int) ≤ -1 := h1
  omega
 | some ks' =>
  rw [he] at h1
  have h1 : 0 ≤ exprRun cs (ps.drop (i + 1)) ks' := h1
  refine ⟨ks', went he (by rw [List.length_reverse]; exact h2) (by rw [List.length_reverse]; omega) hc hr (fun v hv => h4 v (List.mem_reverse.1 hv)) hp, fun st' _ hl' hs' => ⟨ks', h1, by rw [List.length_reverse]; exact hl', ?_, fun v hv => hs' v (List.mem_reverse.1 hv)⟩⟩
  have := exprStep_len he
  rw [List.length_reverse]
  omega
theorem InvN.fin {cs : List T_impl_Column} {ps : List T_impl_Part} {s : List T_impl_Value} (hI : InvN cs ps ps.length s) : ∃ v, s = [v] := by
 obtain ⟨ks, h1, h2, h3, h4⟩ := hI.h
 rw [List.drop_length] at h1
 unfold exprRun at h1
 split at h1
 ·match s, h2 with
  | [v], _ => exact ⟨v, rfl⟩
 ·have h1 : (0 : Int) ≤ -1 := h1
  omega
theorem impl_valN {cs : List T_impl_Column} {ps : List T_impl_Part} {row : List T_impl_Value} (h : 0 ≤ exprKind cs ps) (hc : row.length = cs.length) (hr : SmR row) (hp : ∀ p ∈ ps, SmP p) : ∃ v, valRun row ps [] = some v ∧ impl_exprValue row ps = some v := by
 obtain ⟨h1, h2, h3⟩ := kind_run h
 have h0 : InvN cs ps 0 [] := ⟨[], h1, rfl, Nat.le_refl _, fun v hv => by cases hv⟩
 have hi : impl_exprValue row ps = valRun row ps [] := by
  have := loop_opt (xs := ps) (L := fun f i (s : List T_impl_Value) => impl_exprValue_l0 row ps f i s) (fun rest s => valRun row rest s.reverse) (InvN cs ps) (by omega)
   (fun f i s v hi hv hw hI => by
    have hlt : (i : Int) < ps.length := by omega
    obtain ⟨ks', ⟨st', e1, e2, e3, _, e5⟩, hn⟩ := hI.step hi hv (by omega) hc hr (hp v (List.mem_of_getElem? hv))
    rw [List.reverse_reverse] at e5
    refine .inr ⟨st'.reverse, hn st' e1 e2 e3, ?_, ?_⟩
    ·obtain ⟨x1, g1, e5⟩ := bindS e5
     obtain ⟨x2, g2, e5⟩ := bindS e5
     obtain ⟨x3, g3, e5⟩ := bindS e5
     obtain ⟨x4, g4, e5⟩ := bindS e5
     simp only [impl_exprValue_l0, hlt, decide_true, cond_true, getI_nat, hv, Option.bind_some, g1, g2, g3, g4, e5, hw]
    ·simp only [valRun, e1, Option.bind_some, List.reverse_reverse])
   (fun f s hI => by
    obtain ⟨v, rfl⟩ := hI.fin
    simp only [impl_exprValue_l0, Int.lt_irrefl, decide_false, cond_false]
    rfl) h0
  exact this
 have key : ∀ (n i : Nat) (s : List T_impl_Value), i + n = ps.length → InvN cs ps i s → ∃ v, valRun row (ps.drop i) s.reverse = some v := by
  intro n
  induction n with
  | zero =>
   intro i s hi hI
   have : i = ps.length := by omega
   subst this
   obtain ⟨v, rfl⟩ := hI.fin
   rw [List.drop_length]
   exact ⟨v, rfl⟩
  | succ n ih =>
   intro i s hi hI
   have hlt : i < ps.length := by omega
   obtain ⟨ks', ⟨st', e1, e2, e3, _⟩, hn⟩ := hI.step hlt (List.getElem?_eq_getElem hlt) (by omega) hc hr (hp _ (List.getElem_mem hlt))
   obtain ⟨v, hv⟩ := ih (i + 1) st'.reverse (by omega) (hn st' e1 e2 e3)
   refine ⟨v, ?_⟩
   rw [List.drop_eq_getElem_cons hlt, valRun, e1, Option.bind_some]
   rwa [List.reverse_reverse] at hv
 obtain ⟨v, hv⟩ := key ps.length 0 [] (by omega) h0
 have hv : valRun row ps [] = some v := hv
 exact ⟨v, hv, hi.trans hv⟩
theorem getI_memC {α : Type} {xs : List α} {n : Int} {x : α} (h : getI xs n = some x) : x ∈ xs := by
 unfold getI at h
 split at h
 ·exact List.mem_of_getElem? h
 ·cases h
theorem part_congr {a b : List T_impl_Value} {p : T_impl_Part} (st : List T_impl_Value) (h : p.fKind = 2 → getI a p.fN = getI b p.fN) : impl_Part_value p a st = impl_Part_value p b st := by
 unfold impl_Part_value
 by_cases hk : p.fKind = 2
 ·rw [h hk]
 ·have : (p.fKind == 2) = false := by simpa using hk
  rw [this]
  rfl
theorem val_congr {a b : List T_impl_Value} {e : List T_impl_Part} (h : ∀ p ∈ e, p.fKind = 2 → getI a p.fN = getI b p.fN) : impl_exprValue a e = impl_exprValue b e := by
 have key : ∀ (f : Nat) (i : Int) (s : List T_impl_Value), impl_exprValue_l0 a e f i s = impl_exprValue_l0 b e f i s := by
  intro f
  induction f with
  | zero => exact fun i s => rfl
  | succ f ih =>
   intro i s
   rw [impl_exprValue_l0, impl_exprValue_l0]
   cases hg : getI e i with
   | none => rfl
   | some p =>
    have hp : p ∈ e := getI_memC hg
    have hq : ∀ st, impl_Part_value p a st = impl_Part_value p b st := fun st => part_congr st (h p hp)
    simp only [Option.bind_some, hq, ih]
 exact key _ _ _
def rowK (cs : List T_impl_Column) (g : Nat → Bool) (k : Nat) : T_impl_Value := match cs[k]? with
 | some c => ⟨c.fKind, bif c.fKind == 2 then 0 else bif g k then 1 else 0, ByteArray.mk #[]⟩
 | none => N0
def rowG (cs : List T_impl_Column) (g : Nat → Bool) : List T_impl_Value := (List.range cs.length).map (rowK cs g)
theorem rowG_len (cs : List T_impl_Column) (g : Nat → Bool) : (rowG cs g).length = cs.length := by simp [rowG]
theorem rowG_at {cs : List T_impl_Column} {g : Nat → Bool} {k : Nat} (hk : k < cs.length) : (rowG cs g)[k]? = some ⟨cs[k].fKind, bif cs[k].fKind == 2 then 0 else bif g k then 1 else 0, ByteArray.mk #[]⟩ := by
 unfold rowG rowK
 rw [List.getElem?_map, List.getElem?_range hk, Option.map_some, List.getElem?_eq_getElem hk]
theorem rowG_mem {cs : List T_impl_Column} {g : Nat → Bool} {v : T_impl_Value} (h : v ∈ rowG cs g) : ∃ k, ∃ hk : k < cs.length, v = ⟨cs[k].fKind, bif cs[k].fKind == 2 then 0 else bif g k then 1 else 0, ByteArray.mk #[]⟩ := by
 obtain ⟨k, hk, e⟩ := List.getElem_of_mem h
 rw [rowG_len] at hk
 have := rowG_at (g := g) hk
 rw [List.getElem?_eq_getElem (by rw [rowG_len]; exact hk)] at this
 exact ⟨k, hk, by rw [← e]; exact Option.some.inj this⟩
theorem rowG_sm {cs : List T_impl_Column} (hc : cs.length ≤ 100) (g : Nat → Bool) : SmR (rowG cs g) := by
 have e0 : (ByteArray.mk #[]).size = 0 := rfl
 refine ⟨by rw [rowG_len]; omega, fun v hv => ?_⟩
 obtain ⟨k, hk, rfl⟩ := rowG_mem hv
 unfold SmV
 simp only [e0]
 omega
theorem rowG_fits {cs : List T_impl_Column} (hk : colsOk cs = true) (g : Nat → Bool) : rowFits cs (rowG cs g) = true := by
 have hk' := hk
 unfold colsOk at hk
 simp only [Bool.and_eq_true, List.all_eq_true, decide_eq_true_eq] at hk
 obtain ⟨h1, h2⟩ := hk
 have ht : textOk (ByteArray.mk #[]) = true := by decide
 unfold rowFits rowOk
 rw [hk', Bool.true_and, rowG_len, beq_self_eq_true, Bool.true_and, decide_eq_true h2, Bool.and_true, Bool.and_eq_true, List.all_eq_true, List.all_eq_true]
 refine ⟨fun v hv => ?_, fun p hp => ?_⟩
 ·obtain ⟨k, hk, rfl⟩ := rowG_mem hv
  have hc := h1 _ (List.getElem_mem hk)
  unfold inR at hc
  simp only [Bool.and_eq_true, decide_eq_true_eq] at hc
  have : cs[k].fKind = 1 ∨ cs[k].fKind = 2 ∨ cs[k].fKind = 3 := by omega
  unfold valOk
  rcases this with e | e | e <;> rw [e] <;> cases g k <;> simp [ht, inR]
 ·obtain ⟨i, hi, e⟩ := List.getElem_of_mem hp
  have hg := zip_get (xs := rowG cs g) (ys := cs) (rowG_len _ _) (i := i) (p := p) (by rw [List.getElem?_eq_getElem hi, e])
  have hi2 : i < cs.length := by
   have := hi
   rw [List.length_zip, rowG_len, Nat.min_self] at this
   exact this
  rw [rowG_at hi2] at hg
  rw [List.getElem?_eq_getElem hi2] at hg
  unfold fits
  rw [← Option.some.inj hg.1, ← Option.some.inj hg.2]
  simp
theorem impl_value_rowG {cs : List T_impl_Column} {e : List T_impl_Part} (hc : cs.length ≤ 100) (hl : e.length ≤ 1000) (hp : ∀ p ∈ e, SmP p) {g : Nat → Bool} (hg : ∀ k, k < cs.length → asked e k = true → 0 ≤ exprKind cs e → g k = true) :
  ∃ v, impl_ExprValue cs (rowG cs fun _ => true) e = some v ∧ impl_ExprValue cs (rowG cs g) e = some v := by
 unfold impl_ExprValue
 rw [impl_exprKind (by omega) (by omega) hp, Option.bind_some, Option.bind_some]
 by_cases h : 0 ≤ exprKind cs e
 ·have hk := kind_run h
  rw [decide_eq_false (show ¬ exprKind cs e < 0 by omega), cond_false, cond_false, impl_rowFits (by omega) (rowG_sm hc _), Option.bind_some, impl_rowFits (by omega) (rowG_sm hc _), Option.bind_some, rowG_fits hk.2.1, rowG_fits hk.2.1]
  obtain ⟨v, _, hv⟩ := impl_valN h (rowG_len cs fun _ => true) (rowG_sm hc _) hp
  have hv2 : impl_exprValue (rowG cs g) e = some v := by
   rw [← hv]
   refine val_congr fun p hpe h2 => ?_
   obtain ⟨a1, a2⟩ := run_cols e [] hk.1 p hpe h2
   obtain ⟨k, hke⟩ := Int.eq_ofNat_of_zero_le a1
   have hkl : k < cs.length := by omega
   have : asked e k = true := by
    unfold asked
    rw [List.any_eq_true]
    exact ⟨p, hpe, by simp [h2, hke]⟩
   rw [hke, getI_nat, getI_nat, rowG_at hkl, rowG_at hkl, hg k hkl this h]
  refine ⟨v, ?_, ?_⟩
  ·rw [Bool.not_true, impl_ExprValue_j0, cond_false, hv, Option.bind_some]
  ·rw [Bool.not_true, impl_ExprValue_j0, cond_false, hv2, Option.bind_some]
 ·rw [decide_eq_true (show exprKind cs e < 0 by omega), cond_true, cond_true, impl_ExprValue_j0, cond_true]
  exact ⟨_, rfl, rfl⟩
theorem hasInt_eq {a : List Int} (ha : a.length ≤ 1000) (x : Int) : laws_hasInt a x = some (a.contains x) := by
 unfold laws_hasInt
 have := loop_opt (xs := a) (L := fun f i (_ : Unit) => laws_hasInt_l0 a x f i) (fun rest _ => some (rest.contains x)) (fun _ _ => True) (by omega)
  (fun f i s v hi hv hw _ => by
   cases hx : v == x with
   | true =>
    refine .inl ?_
    rw [laws_hasInt_l0, decide_eq_true (by omega), cond_true, getI_nat, hv, Option.bind_some, hx, cond_true, List.contains_cons]
    have : (x == v) = true := by simp at hx ⊢; omega
    rw [this]
    rfl
   | false =>
    refine .inr ⟨(), trivial, ?_, ?_⟩
    ·rw [laws_hasInt_l0, decide_eq_true (by omega), cond_true, getI_nat, hv, Option.bind_some, hx, cond_false, hw]
    ·rw [List.contains_cons]
     have : (x == v) = false := by simp at hx ⊢; omega
     rw [this, Bool.false_or])
  (fun f s _ => by rw [laws_hasInt_l0, decide_eq_false (Int.lt_irrefl _), cond_false]; rfl) (s := ()) trivial
 exact this
theorem sameInts_refl {a : List Int} (ha : a.length ≤ 1000) : laws_sameInts a a = some true := by
 unfold laws_sameInts
 rw [beq_self_eq_true, Bool.not_true, cond_false]
 exact loop_opt (xs := a) (L := fun f i (_ : Unit) => laws_sameInts_l0 a a f i) (fun _ _ => some true) (fun _ _ => True) (by omega)
  (fun f i s v hi hv hw _ => .inr ⟨(), trivial, by
   rw [laws_sameInts_l0, decide_eq_true (by omega), cond_true, getI_nat, hv, Option.bind_some, Option.bind_some, beq_self_eq_true, Bool.not_true, cond_false, hw], rfl⟩)
  (fun f s _ => by rw [laws_sameInts_l0, decide_eq_false (Int.lt_irrefl _), cond_false]) (s := ()) trivial
theorem draw_exprC {b : List UInt8} (hb : b.length ≤ 1048576) : ∃ cs e, spec_DrawExprColumns b = some (cs, e) ∧ cs.length ≤ 6 ∧ ExOk 100 e := by
 unfold spec_DrawExprColumns spec_l20Asked
 obtain ⟨r, e, hr⟩ := open_ok hb
 obtain ⟨cs, r2, e2, q1, _, q2⟩ := columns_ok hr (by omega) (w64 (3 * 9))
 obtain ⟨row, r3, e3, q3, _⟩ := fit_ok q1 (by omega) q2 (w64 (3 * 9))
 obtain ⟨ex, r4, e4, q4⟩ := wild_ok q3 (by omega) (cs := cs) (by omega) 9
 refine ⟨cs, ex, ?_, q2, q4⟩
 rw [e, Option.bind_some, e2, Option.bind_some]
 simp only
 rw [e3, Option.bind_some]
 simp only
 rw [e4, Option.bind_some, Option.bind_some]
theorem law_fnExprColumns {a0 : List UInt8} (w0 : listW u8W a0) : laws_FnExprColumns a0 = some true := by
 unfold laws_FnExprColumns
 by_cases hl : (a0.length : Int) > 1048576
 ·rw [decide_eq_true hl, cond_true]
 rw [decide_eq_false hl, cond_false]
 obtain ⟨cs, e, ed, hc6, he⟩ := draw_exprC (b := a0) (by omega)
 have hel := he.1
 have hcl := colsV_len cs e
 rw [ed, Option.bind_some]
 simp only
 rw [impl_cols (by omega) (by omega) he.2, Option.bind_some, spec_cols (by omega) (by omega) he.2, Option.bind_some, sameInts_refl (by omega), Option.bind_some, Bool.not_true, cond_false]
 have hasc := colsV_asc cs e
 have hmem := fun x (h : x ∈ colsV cs e) => colsV_mem h
 have hl0 := loop_opt (xs := colsV cs e) (L := fun f i (_ : Unit) => laws_FnExprColumns_l0 (cs, e) (colsV cs e) f i) (fun _ _ => laws_FnExprColumns_l2 (cs, e) (colsV cs e) FUEL 0 [] []) (fun _ _ => True) (by omega)
  (fun f i s v hi hv hw _ => by
   refine .inr ⟨(), trivial, ?_, rfl⟩
   obtain ⟨b1, b2⟩ := hmem v (List.mem_of_getElem? hv)
   have hg : getI (colsV cs e) (i : Int) = some v := by rw [getI_nat, hv]
   rw [laws_FnExprColumns_l0, decide_eq_true (by omega), cond_true, hg, Option.bind_some, Option.bind_some, decide_eq_false (show ¬ v < 0 by omega), cond_false, decide_eq_false (show ¬ v ≥ (((cs, e) : List T_impl_Column × List T_impl_Part).1.length : Int) by simp only; omega), cond_false]
   by_cases h0 : i = 0
   ·subst h0
    rw [decide_eq_false (show ¬ (((0 : Nat) : Int) > 0) by omega), cond_false, laws_FnExprColumns_j1, cond_false, hw]
   ·have hi1 : i - 1 < (colsV cs e).length := by omega
    have hw1 : w64 ((i : Int) - 1) = ((i - 1 : Nat) : Int) := by rw [w64_of (by omega) (by omega)]; omega
    have hlt : (colsV cs e)[i - 1] < v := by
     have := List.pairwise_iff_getElem.1 hasc (i - 1) i hi1 hi (by omega)
     rw [List.getElem?_eq_getElem hi] at hv
     rw [← Option.some.inj hv]
     exact this
    rw [decide_eq_true (show (i : Int) > 0 by omega), cond_true, hw1, getI_nat, List.getElem?_eq_getElem hi1, Option.bind_some, Option.bind_some, decide_eq_false (show ¬ (colsV cs e)[i - 1] ≥ v by omega), laws_FnExprColumns_j1, cond_false, hw])
  (fun f s _ => by rw [laws_FnExprColumns_l0, decide_eq_false (Int.lt_irrefl _), cond_false]) (s := ()) trivial
 refine hl0.trans ?_
 obtain ⟨v, hv1, hv2⟩ := impl_value_rowG (cs := cs) (e := e) (by omega) (by omega) he.2 (g := fun k => (colsV cs e).contains (k : Int)) fun k hk ha h => by
  show (colsV cs e).contains (k : Int) = true
  rw [List.contains_iff_mem, colsV_has h hk]
  exact ha
 have hl2 := loop_opt (xs := cs) (L := fun f i (s : List T_impl_Value × List T_impl_Value) => laws_FnExprColumns_l2 (cs, e) (colsV cs e) f i s.1 s.2) (fun _ _ => some true)
  (fun i s => s.1 = (List.range i).map (rowK cs fun _ => true) ∧ s.2 = (List.range i).map (rowK cs fun k => (colsV cs e).contains (k : Int))) (by omega)
  (fun f i s c hi hv hw hI => by
   obtain ⟨s1, s2⟩ := s
   obtain ⟨rfl, rfl⟩ := hI
   have hg : getI cs (i : Int) = some c := by rw [getI_nat, hv]
   refine .inr ⟨(_, _), ⟨rfl, rfl⟩, ?_, rfl⟩
   simp only
   rw [laws_FnExprColumns_l2, decide_eq_true (show (i : Int) < ((cs, e) : List T_impl_Column × List T_impl_Part).1.length by simp only; omega), cond_true]
   simp only [hg, Option.bind_some]
   have ha : ∀ (g : Nat → Bool) (x : T_impl_Value), app ((List.range i).map (rowK cs g)) [x] = some ((List.range i).map (rowK cs g) ++ [x]) := fun g x => app_lt (by simp; omega)
   have hr : ∀ g : Nat → Bool, (List.range (i + 1)).map (rowK cs g) = (List.range i).map (rowK cs g) ++ [⟨c.fKind, bif c.fKind == 2 then 0 else bif g i then 1 else 0, ByteArray.mk #[]⟩] := fun g => by
    rw [List.range_succ, List.map_append, List.map_cons, List.map_nil]
    unfold rowK
    rw [hv]
   have hh : laws_hasInt (colsV cs e) (i : Int) = some ((colsV cs e).contains (i : Int)) := hasInt_eq (by omega) _
   cases h2 : c.fKind == 2 with
   | true =>
    rw [cond_true, laws_FnExprColumns_j3, ha, Option.bind_some, hh, Option.bind_some]
    cases hcc : (colsV cs e).contains (i : Int) with
    | true =>
     rw [Bool.not_true, cond_false, laws_FnExprColumns_j4, ha, Option.bind_some, hw, hr, hr]
     simp only [h2, cond_true]
    | false =>
     rw [Bool.not_false, cond_true, laws_FnExprColumns_j4, ha, Option.bind_some, hw, hr, hr]
     simp only [h2, cond_true]
   | false =>
    rw [cond_false, laws_FnExprColumns_j3, ha, Option.bind_some, hh, Option.bind_some]
    cases hcc : (colsV cs e).contains (i : Int) with
    | true =>
     rw [Bool.not_true, cond_false, laws_FnExprColumns_j4, ha, Option.bind_some, hw, hr, hr]
     simp only [h2, hcc, cond_true, cond_false]
    | false =>
     rw [Bool.not_false, cond_true, laws_FnExprColumns_j4, ha, Option.bind_some, hw, hr, hr]
     simp only [h2, hcc, cond_true, cond_false])
  (fun f s hI => by
   obtain ⟨s1, s2⟩ := s
   obtain ⟨rfl, rfl⟩ := hI
   simp only
   rw [laws_FnExprColumns_l2, decide_eq_false (Int.lt_irrefl _), cond_false]
   show ((impl_ExprValue cs (rowG cs fun _ => true) e).bind fun v50 => (impl_ExprValue cs (rowG cs fun k => (colsV cs e).contains (k : Int)) e).bind fun v52 => bif (eq_T_impl_Value v50 v52) then (laws_alive).bind fun v54 => some v54 else some false) = _
   rw [hv1, Option.bind_some, hv2, Option.bind_some, alive_ok, Option.bind_some]
   rw [eqV_refl, cond_true]) (s := ([], [])) ⟨rfl, rfl⟩
 exact hl2
end Go.D
set_option linter.unusedVariables false
namespace Go.D
open Go.ChangeShapes Go.RowKit
theorem trodAll_carry {H : Type} {enc : TypeId × Value → H} {P : Program} {w w' : World} {base : Nat} {sp : Nat → Bool} {held : Bool} : ∀ {ts : List TypeId} {vs : List Value} {ds : List (DataW H)} {ps : List MemPlace},
  DataW.TrodAll enc P w base sp held ts vs ds ps → (∀ p ∈ ps, w.sameAt w' p) → DataW.TrodAll enc P w' base sp held ts vs ds ps
 | [], [], [], _, h, _ => h
 | _ :: _, _ :: _, _ :: _, _, ⟨p, q, ⟨n, hn⟩, h2, e⟩, hs =>
  ⟨p, q, ⟨n, DataW.trod_carry n _ _ _ hn fun x hx => hs x (by rw [e]; exact List.mem_append_left _ hx)⟩, trodAll_carry h2 fun x hx => hs x (by rw [e]; exact List.mem_append_right _ hx), e⟩
theorem Kept.sameAt {w w' : World} (h : Grew w w') {p : MemPlace} (hp : p.block < w.heap.size) : w.sameAt w' p := by
 have hb := h.block p.block hp (fun h => h)
 cases p with
 | cell b off =>
  show w'.cell? ⟨b, off, none⟩ = w.cell? ⟨b, off, none⟩
  unfold World.cell?
  have hb : w'.heap[b]? = w.heap[b]? := hb
  simp only [hb]
 | map b => exact hb
theorem Kept.keptBut {w w' : World} (h : Grew w w') (may : MemPlace → Prop) : w.keptBut w' may := by
 refine ⟨h.os, h.output, fun i hi => ?_⟩
 rw [h.block i hi (fun h => h)]
 cases w.heap[i]? with
 | none => trivial
 | some o => cases o <;> simp
theorem contract_of {P : Program} {fid : FuncId} {fn : Func} {s : ChangeSpec} {tb : TypeId} {H : Type} {enc : TypeId × Value → H}
  (hK : Kids P (· < P.types.size)) (hfull : ∀ t e, t < P.types.size → P.underlying t = some (.slice e) → 0 < P.cellsOf e)
  (hp : ∀ t ∈ fn.params.toList, t < P.types.size) (hv : s.vars = []) (hr : fn.resultTypes = #[tb]) (hb : P.underlying tb = some .bool)
  {n : Nat} (hn : fn.params.toList.length = n) (hs : ∀ ds : List (DataW H), ds.length = n → s.fn H ds = { results := [.lit (.bool true)], args := ds })
  {W : World} {args : Array Value} {ds gs : List (DataW H)} {before : List MemPlace}
  (hlaw : ∀ p, DataW.TrodAll enc P W 0 (fun _ => true) true fn.params.toList args.toList ds p → ∃ ins, FrL W (fun _ => False) ins args.toList ∧ OK P fid ins (B true))
  (hW : DataW.Whole enc P fn.params.toList s.vars false W args.toList ds gs before) :
  Calls P fid args W fun e W' => ∃ v, e = .returned v ∧ s.post enc P fn false true false false W args v W' := by
 have hlt := hW.lt
 have hW' := hW
 obtain ⟨p, q, hA, hV, rfl, hfz, hnd⟩ := hW
 rw [hv] at hV
 obtain ⟨rfl, rfl⟩ := trodVars_none hV
 obtain ⟨ins, h1, h2⟩ := hlaw p hA
 have hlen : ∀ {ts : List TypeId} {vs : List Value} {ds : List (DataW H)} {ps : List MemPlace}, DataW.TrodAll enc P W 0 (fun _ => true) true ts vs ds ps → ds.length = ts.length := by
  intro ts
  induction ts with
  | nil => intro vs ds ps h; obtain ⟨_, rfl, _⟩ := trodAll_nil h; rfl
  | cons t ts ih =>
   intro vs ds ps h
   obtain ⟨_, _, _, _, _, _, rfl, rfl, rfl, _, h⟩ := trodAll_cons h
   simp [ih h]
 have hds : ds.length = n := (hlen hA).trans hn
 have hc := h2.2 W args.toList (fun _ => False) (fun b h => h.elim) h1
 have ha : args.toList.toArray = args := by simp
 rw [ha] at hc
 refine hc.mono fun e W' ⟨v, fp, he, hg, ho, _⟩ => ⟨v, he, ?_⟩
 simp only [B, Ow] at ho
 obtain ⟨rfl, rfl⟩ := ho
 have hsame : ∀ x ∈ p, W.sameAt W' x := fun x hx => Kept.sameAt hg (hlt x (by simpa using hx))
 refine ⟨ds, [], p ++ [], [], p, [], hW', ?_, ?_, ?_, Kept.keptBut hg _, fun h => by cases h⟩
 ·rw [List.append_nil, hs ds hds, hr]
  exact trodAll_mk1 (shut_bool hb true)
 ·rw [List.append_nil, hs ds hds]
  exact trodAll_carry (DataW.TrodAll.respare hK hfull hp hA fun x hx => by
   have := hlt x (by simpa using hx)
   simpa using this) hsame
 ·rw [hv, List.append_nil, hs ds hds]
  rfl
end Go.D
