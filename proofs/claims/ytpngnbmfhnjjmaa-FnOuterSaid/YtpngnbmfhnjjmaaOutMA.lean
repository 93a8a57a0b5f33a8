import Derived.Test.YtpngnbmfhnjjmaaOutDXFB
import Derived.Test.YtpngnbmfhnjjmaaOutDXFB
import Derived.Test.YtpngnbmfhnjjmaaOutDShow
import Derived.ChangeArms
import Derived.ChangeShapes
import Derived.Deep.Slices
import Derived.Test.YtpngnbmfhnjjmaaOutDOwn3
import Derived.Test.YtpngnbmfhnjjmaaOutDNil
import Derived.Test.YtpngnbmfhnjjmaaOutDMin
import Derived.Test.YtpngnbmfhnjjmaaOutDXT
import Derived.OpenShut
import Derived.ReadAgain
import Derived.ProofKit
set_option linter.unusedVariables false
namespace Go.D
def spec_ValueOf_j0 (a0 : Int) (x1 : Bool) : Option T_impl_Value := bif x1 then some ((T_impl_Value.mk 3 a0 (ByteArray.mk #[]))) else some ((T_impl_Value.mk 0 0 (ByteArray.mk #[])))
def spec_ValueOf (a0 : Int) : Option T_impl_Value := bif (a0 == 0) then spec_ValueOf_j0 a0 true else spec_ValueOf_j0 a0 ((a0 == 1))
def spec_l4Sum_j0 (a0 : T_impl_Value) (a1 : T_impl_Value) (x1 : Bool) : Option T_impl_Value := bif x1 then some ((T_impl_Value.mk 0 0 (ByteArray.mk #[]))) else some ((T_impl_Value.mk 1 ((w64 (a0.fN + a1.fN))) (ByteArray.mk #[])))
def spec_l4Sum (a0 : T_impl_Value) (a1 : T_impl_Value) : Option T_impl_Value := bif (a0.fKind == 0) then spec_l4Sum_j0 a0 a1 true else bif (a1.fKind == 0) then spec_l4Sum_j0 a0 a1 true else (spec_l1In ((w64 (a0.fN + a1.fN))) (-9999) 9999).bind fun v3 => spec_l4Sum_j0 a0 a1 ((!v3))
def spec_l2Bool (a0 : Bool) : Option Int := bif a0 then some 1 else some 0
def spec_TruthOk (a0 : Int) : Option Bool := (spec_l1In a0 0 2).bind fun v1 => some v1
def spec_l2Sure (a0 : Int) : Option Int := (getI (([0, 2, 1] : List Int)) a0).bind fun v1 => some v1
def spec_l1Less (a0 : Int) (a1 : Int) : Option Int := bif (decide (a0 < a1)) then some 1 else some 0
def spec_l1Cmp (a0 : ByteArray) (a1 : ByteArray) : Option Int := bif (Op.bytesLess a0.toList a1.toList) then some (-1) else bif (!Op.bytesLess a0.toList a1.toList && !(a0.toList == a1.toList)) then some 1 else some 0
def spec_AndOf_j0 (a0 : Int) (a1 : Int) (x1 : Bool) : Option Int := bif x1 then some (-1) else (spec_l2Sure a0).bind fun v3 => (spec_l2Sure a1).bind fun v5 => (spec_l2Sure ((minL v3 [v5]))).bind fun v7 => some v7
def spec_AndOf (a0 : Int) (a1 : Int) : Option Int := (spec_TruthOk a0).bind fun v9 => bif (!v9) then spec_AndOf_j0 a0 a1 true else (spec_TruthOk a1).bind fun v11 => spec_AndOf_j0 a0 a1 ((!v11))
def spec_TruthOf_j0 (a0 : T_impl_Value) (x1 : Bool) : Option Int := bif x1 then some (-1) else bif (a0.fKind == 0) then some 2 else some a0.fN
def spec_TruthOf (a0 : T_impl_Value) : Option Int := (spec_ValueOk a0).bind fun v4 => bif (!v4) then spec_TruthOf_j0 a0 true else bif (a0.fKind == 1) then spec_TruthOf_j0 a0 true else spec_TruthOf_j0 a0 ((a0.fKind == 2))
def spec_OrOf_j0 (a0 : Int) (a1 : Int) (x1 : Bool) : Option Int := bif x1 then some (-1) else (spec_l2Sure a0).bind fun v3 => (spec_l2Sure a1).bind fun v5 => (spec_l2Sure ((maxL v3 [v5]))).bind fun v7 => some v7
def spec_OrOf (a0 : Int) (a1 : Int) : Option Int := (spec_TruthOk a0).bind fun v9 => bif (!v9) then spec_OrOf_j0 a0 a1 true else (spec_TruthOk a1).bind fun v11 => spec_OrOf_j0 a0 a1 ((!v11))
def spec_NotOf (a0 : Int) : Option Int := (spec_TruthOk a0).bind fun v1 => bif (!v1) then some (-1) else (spec_l2Sure a0).bind fun v4 => (spec_l2Sure ((w64 (2 - v4)))).bind fun v6 => some v6
def spec_ValueOrder_j0 (a0 : T_impl_Value) (a1 : T_impl_Value) (x1 : Bool) : Option Int := bif x1 then some 0 else bif (!(a0.fKind == a1.fKind)) then (spec_l1Less a1.fKind a0.fKind).bind fun v4 => some ((w64 (((w64 (2 * v4))) - 1))) else bif (!(a0.fN == a1.fN)) then (spec_l1Less a1.fN a0.fN).bind fun v7 => some ((w64 (((w64 (2 * v7))) - 1))) else (spec_l1Cmp a0.fS a1.fS).bind fun v9 => some v9
def spec_ValueOrder (a0 : T_impl_Value) (a1 : T_impl_Value) : Option Int := (spec_ValueOk a0).bind fun v11 => bif (!v11) then spec_ValueOrder_j0 a0 a1 true else (spec_ValueOk a1).bind fun v13 => spec_ValueOrder_j0 a0 a1 ((!v13))
def spec_Compare_j1 (a0 : Int) (a1 : T_impl_Value) (a2 : T_impl_Value) (x3 : Bool) : Option Int := bif x3 then some 2 else bif (!(a1.fKind == a2.fKind)) then some (-1) else bif (a0 == 1) then (spec_ValueOrder a1 a2).bind fun v7 => (spec_l2Bool ((v7 == 0))).bind fun v9 => some v9 else bif (a0 == 2) then (spec_ValueOrder a1 a2).bind fun v12 => (spec_l2Bool ((!(v12 == 0)))).bind fun v14 => some v14 else bif (a0 == 3) then (spec_ValueOrder a1 a2).bind fun v17 => (spec_l2Bool ((decide (v17 < 0)))).bind fun v19 => some v19 else (spec_ValueOrder a1 a2).bind fun v21 => (spec_l2Bool ((decide (v21 ≤ 0)))).bind fun v23 => some v23
def spec_Compare_j0 (a0 : Int) (a1 : T_impl_Value) (a2 : T_impl_Value) (x1 : Bool) : Option Int := bif x1 then some (-1) else bif (a1.fKind == 0) then spec_Compare_j1 a0 a1 a2 true else spec_Compare_j1 a0 a1 a2 ((a2.fKind == 0))
def spec_Compare (a0 : Int) (a1 : T_impl_Value) (a2 : T_impl_Value) : Option Int := (spec_l1In a0 1 4).bind fun v26 => bif (!v26) then spec_Compare_j0 a0 a1 a2 true else (spec_ValueOk a1).bind fun v28 => bif (!v28) then spec_Compare_j0 a0 a1 a2 true else (spec_ValueOk a2).bind fun v30 => spec_Compare_j0 a0 a1 a2 ((!v30))
def spec_l4Do (a0 : List T_impl_Value) (a1 : List T_impl_Value) (a2 : T_impl_Part) : Option (List T_impl_Value) := bif (a2.fKind == 1) then (app a1 (([a2.fV] : List T_impl_Value))).bind fun v2 => some v2 else bif (a2.fKind == 2) then (getI a0 a2.fN).bind fun v5 => (app a1 (([v5] : List T_impl_Value))).bind fun v7 => some v7 else bif (a2.fKind == 3) then (slI a1 none (some ((w64 (((a1.length : Int)) - 2)))) none).bind fun v10 => (getI a1 ((w64 (((a1.length : Int)) - 2)))).bind fun v12 => (getI a1 ((w64 (((a1.length : Int)) - 1)))).bind fun v14 => (spec_l4Sum v12 v14).bind fun v16 => (appT a1 (([v16] : List T_impl_Value)) v10.length).bind fun v18 => some v18 else bif (a2.fKind == 4) then (slI a1 none (some ((w64 (((a1.length : Int)) - 2)))) none).bind fun v21 => (getI a1 ((w64 (((a1.length : Int)) - 2)))).bind fun v23 => (getI a1 ((w64 (((a1.length : Int)) - 1)))).bind fun v25 => (spec_Compare a2.fN v23 v25).bind fun v27 => (spec_ValueOf v27).bind fun v29 => (appT a1 (([v29] : List T_impl_Value)) v21.length).bind fun v31 => some v31 else bif (a2.fKind == 5) then (slI a1 none (some ((w64 (((a1.length : Int)) - 2)))) none).bind fun v34 => (getI a1 ((w64 (((a1.length : Int)) - 2)))).bind fun v36 => (spec_TruthOf v36).bind fun v38 => (getI a1 ((w64 (((a1.length : Int)) - 1)))).bind fun v40 => (spec_TruthOf v40).bind fun v42 => (spec_AndOf v38 v42).bind fun v44 => (spec_ValueOf v44).bind fun v46 => (appT a1 (([v46] : List T_impl_Value)) v34.length).bind fun v48 => some v48 else bif (a2.fKind == 6) then (slI a1 none (some ((w64 (((a1.length : Int)) - 2)))) none).bind fun v51 => (getI a1 ((w64 (((a1.length : Int)) - 2)))).bind fun v53 => (spec_TruthOf v53).bind fun v55 => (getI a1 ((w64 (((a1.length : Int)) - 1)))).bind fun v57 => (spec_TruthOf v57).bind fun v59 => (spec_OrOf v55 v59).bind fun v61 => (spec_ValueOf v61).bind fun v63 => (appT a1 (([v63] : List T_impl_Value)) v51.length).bind fun v65 => some v65 else bif (a2.fKind == 7) then (slI a1 none (some ((w64 (((a1.length : Int)) - 1)))) none).bind fun v68 => (getI a1 ((w64 (((a1.length : Int)) - 1)))).bind fun v70 => (spec_TruthOf v70).bind fun v72 => (spec_NotOf v72).bind fun v74 => (spec_ValueOf v74).bind fun v76 => (appT a1 (([v76] : List T_impl_Value)) v68.length).bind fun v78 => some v78 else (slI a1 none (some ((w64 (((a1.length : Int)) - 1)))) none).bind fun v80 => (getI a1 ((w64 (((a1.length : Int)) - 1)))).bind fun v82 => (spec_l2Bool ((v82.fKind == 0))).bind fun v84 => (spec_ValueOf v84).bind fun v86 => (appT a1 (([v86] : List T_impl_Value)) v80.length).bind fun v88 => some v88
def spec_l4Value_l0 (a0 : List T_impl_Value) (a1 : List T_impl_Part) : Nat → Int → (List T_impl_Value) → Option T_impl_Value
  | 0, _, _ => none
  | f5 + 1, x3, x4 => bif (decide (x3 < ((a1.length : Int)))) then (getI a1 x3).bind fun v8 => (spec_l4Do a0 x4 v8).bind fun v10 => (spec_l4Value_l0 a0 a1 f5) ((w64 (x3 + 1))) v10 else (getI x4 ((0 : Int))).bind fun v12 => some v12
def spec_l4Value (a0 : List T_impl_Value) (a1 : List T_impl_Part) : Option T_impl_Value := spec_l4Value_l0 a0 a1 FUEL 0 (([] : List T_impl_Value))
def spec_l6Holds (a0 : List T_impl_Value) (a1 : List T_impl_Part) : Option Bool := (spec_l4Value a0 a1).bind fun v1 => (spec_ValueOf 1).bind fun v3 => some ((eq_T_impl_Value v1 v3))
end Go.D
set_option linter.unusedVariables false
namespace Go.D
def Rd (P : Program) (t : TypeId) (α : Type) [Enc α] (W : α → Prop) : Prop :=
  P.cellsOf t = Enc.sz α ∧ ∀ (H : Type) (enc : TypeId × Value → H) (w : World) (base : Nat) (sp : Nat → Bool) (held : Bool) (fuel : Nat) (cs : List Value) (x : DataW H × List MemPlace), DataW.trod enc P w base sp held fuel t cs = some x →
    ∃ y : α, FrL w (fun _ => False) (Enc.cells y) cs ∧ W y
def u8W (_ : UInt8) : Prop := True
def listW {α : Type} (W : α → Prop) (l : List α) : Prop := l.length ≤ 9223372036854775807 ∧ ∀ x ∈ l, W x
section
variable {P : Program}
theorem rd_u8 {t : TypeId} (ht : P.underlying t = some (.int .u8)) (hc : P.cellsOf t = 1) : Rd P t UInt8 u8W := ⟨hc, fun H enc w base sp held fuel cs x h => by
  obtain ⟨n, rfl, _, hw⟩ := DataW.trod_int ht h
  have hn : 0 ≤ n ∧ n ≤ 255 := by simpa [Lit.wf, IntKind.min, IntKind.max, IntKind.signed, IntKind.bits] using hw
  refine ⟨UInt8.ofNat n.toNat, ?_, trivial⟩
  show FrL w _ [.lit (.int .u8 (UInt8.ofNat n.toNat).toNat)] _
  simp only [FrL]
  refine ⟨_, _, rfl, ?_, rfl⟩
  simp only [Fr]
  congr 1
  rw [UInt8.toNat_ofNat']
  omega⟩
theorem eL_flat {α : Type} [Enc α] {w : World} {M : Nat → Prop} : ∀ {ys : List α} {uss : List (List Value)}, ys.length = uss.length → (∀ (i : Nat) (y : α) (us : List Value), ys[i]? = some y → uss[i]? = some us → FrL w M (Enc.cells y) us) → FrL w M (eL ys) uss.flatten
  | [], [], _, _ => by simp [eL, FrL]
  | [], _ :: _, h, _ => by simp at h
  | _ :: _, [], h, _ => by simp at h
  | y :: ys, us :: uss, h, k => by
    simp only [eL, List.flatten_cons]
    exact FrL.append (k 0 y us rfl rfl) (eL_flat (by simpa using h) fun i y' us' h1 h2 => k (i + 1) y' us' (by simpa using h1) (by simpa using h2))
theorem flat_get {sz : Nat} (hsz : 0 < sz) : ∀ {uss : List (List Value)}, (∀ us ∈ uss, us.length = sz) → ∀ {j : Nat} {v : Value}, uss.flatten[j]? = some v → ∃ us, uss[j / sz]? = some us ∧ us[j % sz]? = some v
  | [], _, j, v, h => by simp at h
  | us :: uss, hl, j, v, h => by
    have h0 : us.length = sz := hl us (by simp)
    simp only [List.flatten_cons] at h
    rcases Nat.lt_or_ge j sz with hj | hj
    · rw [List.getElem?_append_left (by omega)] at h
      refine ⟨us, by rw [Nat.div_eq_of_lt hj]; rfl, by rw [Nat.mod_eq_of_lt hj]; exact h⟩
    · rw [List.getElem?_append_right (by omega), h0] at h
      obtain ⟨us', h1, h2⟩ := flat_get hsz (fun us' hu => hl us' (by simp [hu])) h
      refine ⟨us', ?_, ?_⟩
      · have : j / sz = (j - sz) / sz + 1 := by rw [Nat.div_eq_sub_div hsz hj]
        rw [this]
        simpa using h1
      · rw [Nat.mod_eq_sub_mod hj]; exact h2
theorem rd_slice {t e : TypeId} {α : Type} [Enc α] {W : α → Prop} (ht : P.underlying t = some (.slice e)) (hc : P.cellsOf t = 1) (he : Rd P e α W) : Rd P t (List α) (listW W) := ⟨hc, fun H enc w base sp held fuel cs x h => by
  obtain ⟨hce, he⟩ := he
  have hpos : 0 < Enc.sz α := Enc.pos
  have fin : ∀ (ys : List α) (v : Value), Fr w (fun _ => False) (A ys) v → listW W ys → ∃ y : List α, FrL w (fun _ => False) (Enc.cells y) [v] ∧ listW W y := fun ys v h1 h2 => ⟨ys, by
    show FrL w _ [A ys] _
    simp only [FrL]
    exact ⟨_, _, rfl, h1, rfl⟩, h2⟩
  rcases Go.Deep.open_slice ht h with ⟨rfl, _⟩ | ⟨a, len, cap, m, n, D, Pl, rfl, hb, hl, hm, hmm, _, hx⟩
  · exact fin [] _ (Fr.nil w _ _ hpos) ⟨by simp, by simp⟩
  · have hcapm : cap ≤ maxI := by simpa [maxLen, maxI] using hm
    by_cases h0 : len = 0
    · subst h0
      refine fin [] _ ?_ ⟨by simp, by simp⟩
      simp only [Fr]
      exact ⟨some a, cap, rfl, ⟨hpos, by simp [eL], by simp, hcapm, fun h => by cases h⟩, .inl rfl⟩
    · have hlm : len ≤ m := by rw [hmm]; split <;> omega
      have hel : ∀ i, i < len → ∃ p : List Value × α, w.cells? base (a.add (i * P.cellsOf e)) (P.cellsOf e) = some p.1 ∧ FrL w (fun _ => False) (Enc.cells p.2) p.1 ∧ W p.2 := by
        intro i hi
        obtain ⟨cs', h1, h2⟩ := hx i (by omega)
        obtain ⟨y, h3, h4⟩ := he H enc w base sp held n cs' _ h2
        exact ⟨(cs', y), h1, h3, h4⟩
      obtain ⟨p0, hp0⟩ := hel 0 (by omega)
      haveI : Inhabited (List Value × α) := ⟨p0⟩
      obtain ⟨F, hF⟩ := Go.Deep.choose_lt (α := List Value × α) (p := fun i p => w.cells? base (a.add (i * P.cellsOf e)) (P.cellsOf e) = some p.1 ∧ FrL w (fun _ => False) (Enc.cells p.2) p.1 ∧ W p.2) hel
      let ys : List α := (List.range len).map fun i => (F i).2
      let uss : List (List Value) := (List.range len).map fun i => (F i).1
      have hul : ∀ us ∈ uss, us.length = Enc.sz α := by
        intro us hu
        obtain ⟨i, hi, rfl⟩ := List.mem_map.1 hu
        have := (World.cells?_some (hF i (List.mem_range.1 hi)).1).2.1
        rw [this, hce]
      have hys : ys.length = len := by simp [ys]
      have hfl : FrL w (fun _ => False) (eL ys) uss.flatten := eL_flat (by simp [ys, uss]) fun i y us h1 h2 => by
        simp only [ys, uss, List.getElem?_map] at h1 h2
        have hi : i < len := by
          cases hr : (List.range len)[i]? with
          | none => rw [hr] at h1; cases h1
          | some k => have := (List.getElem?_eq_some_iff.1 hr).1; simpa using this
        rw [List.getElem?_range hi] at h1 h2
        simp only [Option.map_some, Option.some.injEq] at h1 h2
        rw [← h1, ← h2]
        exact (hF i hi).2.1
      have hul0 : ((F 0).1).length = Enc.sz α := hul _ (List.mem_map.2 ⟨0, by simp; omega, rfl⟩)
      have h00 : ∃ v, w.cell? a = some v := by
        have h1 := (World.cells?_some (hF 0 (by omega)).1).2.2 0 (by rw [hce]; exact hpos)
        rw [List.getElem?_eq_getElem (by omega)] at h1
        refine ⟨_, Eq.trans ?_ h1⟩
        simp [Addr.add]
      obtain ⟨v00, hv00⟩ := h00
      have hspot : a.spot = none := World.cell?_spot hv00
      obtain ⟨ab, ao, as_⟩ := a
      simp only at hspot
      subst hspot
      have hcell : ∀ i j, i < len → j < Enc.sz α → w.cell? ⟨ab, ao + (i * Enc.sz α + j), none⟩ = ((F i).1)[j]? := by
        intro i j hi hj
        have := (World.cells?_some (hF i hi).1).2.2 j (by rw [hce]; exact hj)
        rw [hce] at this
        rw [← this]
        congr 1
        unfold Addr.add
        split <;> split <;> simp_all <;> omega
      refine fin ys _ ?_ ⟨by rw [hys]; simp only [maxI] at hcapm; omega, fun y hy => by
        obtain ⟨i, hi, rfl⟩ := List.mem_map.1 hy
        exact (hF i (List.mem_range.1 hi)).2.2⟩
      simp only [Fr]
      refine ⟨some ⟨ab, ao, none⟩, cap, by rw [hys], ⟨hpos, by rw [eL_len], by rw [hys]; exact hl, hcapm, fun h => by cases h⟩, .inr ⟨ab, ao, uss.flatten, rfl, World.block_lt_of_cell? _ _ hv00, fun h => h, hfl, fun j hj => ?_⟩⟩
      obtain ⟨us, h1, h2⟩ := flat_get hpos hul (List.getElem?_eq_getElem hj)
      have hi : j / Enc.sz α < len := by
        have := (List.getElem?_eq_some_iff.1 h1).1
        simpa [uss] using this
      simp only [uss, List.getElem?_map, List.getElem?_range hi, Option.map_some, Option.some.injEq] at h1
      have := hcell (j / Enc.sz α) (j % Enc.sz α) hi (Nat.mod_lt _ hpos)
      rw [h1, h2] at this
      have e1 : j / Enc.sz α * Enc.sz α + j % Enc.sz α = j := by rw [Nat.mul_comm]; exact Nat.div_add_mod j _
      rw [e1] at this
      rw [List.getElem?_eq_getElem hj, ← this]⟩
end
end Go.D
set_option linter.unusedVariables false
namespace Go.D
theorem w64_of {n : Int} (h1 : -9223372036854775808 ≤ n) (h2 : n ≤ 9223372036854775807) : w64 n = n := by
  have hm : IntKind.i64.min = -9223372036854775808 := by decide
  have hM : IntKind.i64.max = 9223372036854775807 := by decide
  simp [w64, IntKind.wrap, IntKind.signed, IntKind.bits]
  omega
theorem getI_nat {α : Type} {xs : List α} {i : Nat} : getI xs (i : Int) = xs[i]? := by
  unfold getI
  rw [if_pos (by omega), Int.toNat_natCast]
theorem getI_lt {α : Type} {xs : List α} {i : Int} (h0 : 0 ≤ i) (h1 : i < xs.length) : ∃ x, getI xs i = some x ∧ xs[i.toNat]? = some x := by
  unfold getI
  rw [if_pos h0]
  have : i.toNat < xs.length := by omega
  exact ⟨xs[i.toNat], by rw [List.getElem?_eq_getElem this], by rw [List.getElem?_eq_getElem this]⟩
theorem app_lt {α : Type} {xs ys : List α} (h : xs.length + ys.length < 68719476736) : app xs ys = some (xs ++ ys) := if_pos h
theorem succ_w {i n : Nat} (h : i < n) (hn : n ≤ 70368744177663) : w64 ((i : Int) + 1) = ((i + 1 : Nat) : Int) := by
  rw [w64_of (by omega) (by omega)]
  omega
theorem loop_all {α : Type} {xs : List α} {L : Nat → Int → Option Bool} {p : α → Bool} {fin : Bool} (hlen : xs.length ≤ 70368744177662)
    (h : ∀ (f i : Nat) (v : α), i < xs.length → xs[i]? = some v → w64 ((i : Int) + 1) = ((i + 1 : Nat) : Int) → L (f + 1) i = bif p v then L f ((i + 1 : Nat) : Int) else some false)
    (he : ∀ f, L (f + 1) (xs.length : Int) = some fin) : L FUEL 0 = some (xs.all p && fin) := by
  have main : ∀ (k f i : Nat), i + k = xs.length → k < f → L f (i : Int) = some ((xs.drop i).all p && fin) := by
    intro k
    induction k with
    | zero =>
      intro f i hi hf
      obtain ⟨f, rfl⟩ : ∃ f', f = f' + 1 := ⟨f - 1, by omega⟩
      have : i = xs.length := by omega
      subst this
      rw [he, List.drop_length]
      simp
    | succ k ih =>
      intro f i hi hf
      obtain ⟨f, rfl⟩ : ∃ f', f = f' + 1 := ⟨f - 1, by omega⟩
      have hlt : i < xs.length := by omega
      rw [h f i xs[i] hlt (List.getElem?_eq_getElem hlt) (succ_w hlt (by omega)), ih f (i + 1) (by omega) (by omega), List.drop_eq_getElem_cons hlt, List.all_cons]
      cases p xs[i] <;> simp
  have := main xs.length FUEL 0 (by omega) (by unfold FUEL; omega)
  simpa using this
theorem loop_find {α : Type} {xs : List α} {L : Nat → Int → Option Int} {p : α → Bool} (hlen : xs.length ≤ 70368744177662)
    (h : ∀ (f i : Nat) (v : α), i < xs.length → xs[i]? = some v → w64 ((i : Int) + 1) = ((i + 1 : Nat) : Int) → L (f + 1) i = bif p v then some (i : Int) else L f ((i + 1 : Nat) : Int))
    (he : ∀ f, L (f + 1) (xs.length : Int) = some (-1)) : ∃ r, L FUEL 0 = some r ∧ decide (r ≥ 0) = xs.any p := by
  have main : ∀ (k f i : Nat), i + k = xs.length → k < f → ∃ r, L f (i : Int) = some r ∧ decide (r ≥ 0) = (xs.drop i).any p := by
    intro k
    induction k with
    | zero =>
      intro f i hi hf
      obtain ⟨f, rfl⟩ : ∃ f', f = f' + 1 := ⟨f - 1, by omega⟩
      have : i = xs.length := by omega
      subst this
      rw [he, List.drop_length]
      exact ⟨_, rfl, by simp⟩
    | succ k ih =>
      intro f i hi hf
      obtain ⟨f, rfl⟩ : ∃ f', f = f' + 1 := ⟨f - 1, by omega⟩
      have hlt : i < xs.length := by omega
      rw [h f i xs[i] hlt (List.getElem?_eq_getElem hlt) (succ_w hlt (by omega)), List.drop_eq_getElem_cons hlt, List.any_cons]
      cases hp : p xs[i] with
      | true => exact ⟨_, rfl, by simp⟩
      | false =>
        obtain ⟨r, h1, h2⟩ := ih f (i + 1) (by omega) (by omega)
        exact ⟨r, h1, by simp [h2]⟩
  have := main xs.length FUEL 0 (by omega) (by unfold FUEL; omega)
  simpa using this
theorem loop_rec {α σ β : Type} {xs : List α} {L : Nat → Int → σ → Option β} (R : List α → σ → β) (Inv : Nat → σ → Prop) (hlen : xs.length ≤ 70368744177662)
    (h : ∀ (f i : Nat) (s : σ) (v : α) (rest : List α), i < xs.length → xs[i]? = some v → w64 ((i : Int) + 1) = ((i + 1 : Nat) : Int) → Inv i s →
      L (f + 1) i s = some (R (v :: rest) s) ∨ ∃ s', Inv (i + 1) s' ∧ L (f + 1) i s = L f ((i + 1 : Nat) : Int) s' ∧ R (v :: rest) s = R rest s')
    (he : ∀ f s, Inv xs.length s → L (f + 1) (xs.length : Int) s = some (R [] s)) {s : σ} (h0 : Inv 0 s) : L FUEL 0 s = some (R xs s) := by
  have main : ∀ (k f i : Nat) (s : σ), i + k = xs.length → k < f → Inv i s → L f (i : Int) s = some (R (xs.drop i) s) := by
    intro k
    induction k with
    | zero =>
      intro f i s hi hf hI
      obtain ⟨f, rfl⟩ : ∃ f', f = f' + 1 := ⟨f - 1, by omega⟩
      have : i = xs.length := by omega
      subst this
      rw [he _ _ hI, List.drop_length]
    | succ k ih =>
      intro f i s hi hf hI
      obtain ⟨f, rfl⟩ : ∃ f', f = f' + 1 := ⟨f - 1, by omega⟩
      have hlt : i < xs.length := by omega
      rw [List.drop_eq_getElem_cons hlt]
      rcases h f i s xs[i] (xs.drop (i + 1)) hlt (List.getElem?_eq_getElem hlt) (succ_w hlt (by omega)) hI with h1 | ⟨s', h1, h2, h3⟩
      · exact h1
      · rw [h2, h3]
        exact ih f (i + 1) s' (by omega) (by omega) h1
  have := main xs.length FUEL 0 s (by omega) (by unfold FUEL; omega) h0
  simpa using this
end Go.D
set_option linter.unusedVariables false
namespace Go.D
abbrev Sm (n : Nat) : Prop := n ≤ 2097152
def inR (a b c : Int) : Bool := decide (b ≤ a) && decide (a ≤ c)
theorem spec_in (a b c : Int) : spec_l1In a b c = some (inR a b c) := by
  unfold spec_l1In inR
  by_cases h : b ≤ a <;> simp [h]
theorem impl_in (a b c : Int) : impl_between a b c = some (inR a b c) := by
  unfold impl_between inR
  by_cases h : b ≤ a <;> simp [h]
def colsOk (cs : List T_impl_Column) : Bool := cs.all (fun c => inR c.fKind 1 3) && decide (cs.length ≤ 4)
theorem spec_colsOk {cs : List T_impl_Column} (h : Sm cs.length) : spec_ColumnsOk cs = some (colsOk cs) := by
  unfold spec_ColumnsOk colsOk
  refine loop_all (by omega) (fun f i v hi hv hw => ?_) (fun f => ?_)
  · have : (i : Int) < cs.length := by omega
    simp only [spec_ColumnsOk_l0, this, decide_true, cond_true, getI_nat, hv, Option.bind_some, spec_in, hw]
    cases inR v.fKind 1 3 <;> rfl
  · simp only [spec_ColumnsOk_l0, Int.lt_irrefl, decide_false, cond_false]
    congr 1
    simp only [decide_eq_decide]
    omega
theorem impl_colsAny {cs : List T_impl_Column} (h : Sm cs.length) : slices_ContainsFunc_impl_Column_impl_Column cs impl_ColumnsOk_1 = some (cs.any fun c => !(inR c.fKind 1 3)) := by
  unfold slices_ContainsFunc_impl_Column_impl_Column slices_IndexFunc_impl_Column_impl_Column
  obtain ⟨r, h1, h2⟩ := loop_find (xs := cs) (L := slices_IndexFunc_impl_Column_impl_Column_l0 cs impl_ColumnsOk_1) (p := fun c => !(inR c.fKind 1 3)) (by omega) (fun f i v hi hv hw => by
    have : (i : Int) < cs.length := by omega
    simp only [slices_IndexFunc_impl_Column_impl_Column_l0, this, decide_true, cond_true, getI_nat, hv, Option.bind_some, impl_ColumnsOk_1, impl_in, hw]) (fun f => by
    simp only [slices_IndexFunc_impl_Column_impl_Column_l0, Int.lt_irrefl, decide_false, cond_false])
  rw [h1, Option.bind_some, h2]
theorem not_any_not {α : Type} (xs : List α) (p : α → Bool) : (!(xs.any fun x => !(p x))) = xs.all p := by
  induction xs with
  | nil => rfl
  | cons x xs ih => simp [← ih]
theorem impl_colsOk {cs : List T_impl_Column} (h : Sm cs.length) : impl_ColumnsOk cs = some (colsOk cs) := by
  unfold impl_ColumnsOk colsOk
  rw [impl_colsAny h, Option.bind_some, not_any_not]
  by_cases h4 : cs.length ≤ 4
  · have : (cs.length : Int) ≤ 4 := by omega
    simp [h4, this]
  · have : ¬ (cs.length : Int) ≤ 4 := by omega
    simp [h4, this]
theorem cast_le6 (n : Nat) : decide ((n : Int) ≤ 6) = decide (n ≤ 6) := by
  simp only [decide_eq_decide]
  omega
theorem getB_nat {s : ByteArray} {i : Nat} : getB s (i : Int) = s.data.toList[i]? := by
  unfold getB
  rw [if_pos (by omega), Int.toNat_natCast]
  by_cases h : i < s.size
  · rw [getElem?_pos s i h, List.getElem?_eq_getElem (by simpa using h)]
    simp only [Option.some.injEq]
    rfl
  · rw [getElem?_neg s i h, List.getElem?_eq_none (by simpa using h)]
def letter (b : UInt8) : Bool := decide (97 ≤ b.toNat) && decide (b.toNat ≤ 122)
def textOk (s : ByteArray) : Bool := s.data.toList.all letter && decide (s.size ≤ 6)
theorem size_list (s : ByteArray) : s.data.toList.length = s.size := Array.length_toList
theorem spec_text {s : ByteArray} (h : Sm s.size) : spec_l1Text s = some (textOk s) := by
  unfold spec_l1Text textOk
  have hl := size_list s
  refine loop_all (xs := s.data.toList) (by omega) (fun f i v hi hv hw => ?_) (fun f => ?_)
  · have : (i : Int) < s.size := by omega
    simp only [spec_l1Text_l0, this, decide_true, cond_true, getB_nat, hv, Option.bind_some, spec_l1Text_j1, hw]
    unfold letter
    by_cases h1 : (v.toNat : Int) < 97
    · have : ¬ 97 ≤ v.toNat := by omega
      simp [h1, this]
    · have h1' : 97 ≤ v.toNat := by omega
      by_cases h2 : (v.toNat : Int) > 122
      · have : ¬ v.toNat ≤ 122 := by omega
        simp [h1, h1', h2, this]
      · have : v.toNat ≤ 122 := by omega
        simp [h1, h1', h2, this]
  · rw [hl]
    unfold spec_l1Text_l0
    rw [show decide ((s.size : Int) < (s.size : Int)) = false from decide_eq_false (Int.lt_irrefl _), cond_false, cast_le6]
theorem impl_lettersOk {s : ByteArray} (h : Sm s.size) : impl_letters s = some (s.data.toList.all letter) := by
  have hl := size_list s
  unfold impl_letters bytesOf
  rw [if_pos (by omega), Option.bind_some, ← Bool.and_true (s.data.toList.all letter)]
  refine loop_all (xs := s.data.toList) (by omega) (fun f i v hi hv hw => ?_) (fun f => ?_)
  · have : (i : Int) < s.data.toList.length := by omega
    have hb : v.toNat < 256 := v.toNat_lt
    have h1 : w64 (v.toNat : Int) = v.toNat := w64_of (by omega) (by omega)
    simp only [impl_letters_l0, this, decide_true, cond_true, getI_nat, hv, Option.bind_some, impl_in, hw, h1]
    have : inR (v.toNat : Int) 97 122 = letter v := by
      unfold inR letter
      congr 1 <;> simp only [decide_eq_decide] <;> omega
    rw [this]
    cases letter v <;> rfl
  · simp only [impl_letters_l0, Int.lt_irrefl, decide_false, cond_false]
def valOk (v : T_impl_Value) : Bool := bif v.fKind == 0 then v.fN == 0 && v.fS.toList == (ByteArray.mk #[]).toList else bif v.fKind == 1 then inR v.fN (-9999) 9999 && v.fS.toList == (ByteArray.mk #[]).toList else
  bif v.fKind == 2 then v.fN == 0 && textOk v.fS else bif v.fKind == 3 then inR v.fN 0 1 && v.fS.toList == (ByteArray.mk #[]).toList else false
theorem spec_value {v : T_impl_Value} (h : Sm v.fS.size) : spec_ValueOk v = some (valOk v) := by
  unfold spec_ValueOk valOk
  simp only [spec_in, spec_text h, Option.bind_some]
  cases v.fKind == 0 <;> cases v.fKind == 1 <;> cases v.fKind == 2 <;> cases v.fKind == 3 <;> cases v.fN == 0 <;> cases inR v.fN (-9999) 9999 <;> cases inR v.fN 0 1 <;> rfl
theorem impl_value {v : T_impl_Value} (h : Sm v.fS.size) : impl_Value_ok v = some (valOk v) := by
  unfold impl_Value_ok valOk
  simp only [impl_in, impl_lettersOk h, Option.bind_some]
  have e : eq_T_impl_Value v ((T_impl_Value.mk 0 0 (ByteArray.mk #[]))) = (v.fKind == 0 && (v.fN == 0 && v.fS.toList == (ByteArray.mk #[]).toList)) := rfl
  have e2 : decide ((v.fS.size : Int) ≤ 6) = decide (v.fS.size ≤ 6) := by
    simp only [decide_eq_decide]
    omega
  have e3 : textOk v.fS = (v.fS.data.toList.all letter && decide (v.fS.size ≤ 6)) := rfl
  rw [e, e2, e3]
  cases v.fKind == 0 <;> cases v.fKind == 1 <;> cases v.fKind == 2 <;> cases v.fKind == 3 <;> cases v.fN == 0 <;> cases inR v.fN (-9999) 9999 <;> cases inR v.fN 0 1 <;> cases v.fS.toList == (ByteArray.mk #[]).toList <;>
    cases decide (v.fS.size ≤ 6) <;> cases v.fS.data.toList.all letter <;> rfl
def SmV (v : T_impl_Value) : Prop := Sm v.fS.size
def SmR (r : List T_impl_Value) : Prop := Sm r.length ∧ ∀ v ∈ r, SmV v
def rowOk (r : List T_impl_Value) : Bool := r.all valOk && decide (r.length ≤ 4)
theorem impl_rowAny {r : List T_impl_Value} (h : SmR r) : slices_ContainsFunc_impl_Value_impl_Value r impl_RowOk_1 = some (r.any fun v => !(valOk v)) := by
  unfold slices_ContainsFunc_impl_Value_impl_Value slices_IndexFunc_impl_Value_impl_Value
  have hl := h.1
  obtain ⟨x, h1, h2⟩ := loop_find (xs := r) (L := slices_IndexFunc_impl_Value_impl_Value_l0 r impl_RowOk_1) (p := fun v => !(valOk v)) (by omega) (fun f i v hi hv hw => by
    have : (i : Int) < r.length := by omega
    simp only [slices_IndexFunc_impl_Value_impl_Value_l0, this, decide_true, cond_true, getI_nat, hv, Option.bind_some, impl_RowOk_1, impl_value (h.2 v (List.mem_of_getElem? hv)), hw]) (fun f => by
    simp only [slices_IndexFunc_impl_Value_impl_Value_l0, Int.lt_irrefl, decide_false, cond_false])
  rw [h1, Option.bind_some, h2]
theorem le4 {α : Type} (xs : List α) : decide ((xs.length : Int) ≤ 4) = decide (xs.length ≤ 4) := by
  simp only [decide_eq_decide]
  omega
theorem impl_rowOk {r : List T_impl_Value} (h : SmR r) : impl_RowOk r = some (rowOk r) := by
  unfold impl_RowOk rowOk
  rw [impl_rowAny h, Option.bind_some, not_any_not, le4]
  cases decide (r.length ≤ 4) <;> simp
def fits (c : T_impl_Column) (v : T_impl_Value) : Bool := v.fKind == c.fKind || (v.fKind == 0 && c.fEmpty)
def rowFits (cs : List T_impl_Column) (r : List T_impl_Value) : Bool := colsOk cs && (rowOk r && (r.length == cs.length && (r.zip cs).all fun p => fits p.2 p.1))
theorem zip_get {α β : Type} {xs : List α} {ys : List β} (h : xs.length = ys.length) {i : Nat} {p : α × β} (hp : (xs.zip ys)[i]? = some p) : xs[i]? = some p.1 ∧ ys[i]? = some p.2 := by
  rw [List.getElem?_zip_eq_some] at hp
  exact hp
theorem impl_rowFits {cs : List T_impl_Column} {r : List T_impl_Value} (hc : Sm cs.length) (h : SmR r) : impl_RowFits cs r = some (rowFits cs r) := by
  unfold impl_RowFits rowFits
  rw [impl_colsOk hc, Option.bind_some, impl_rowOk h, Option.bind_some]
  cases colsOk cs
  · rfl
  · cases rowOk r
    · rfl
    · by_cases he : r.length = cs.length
      · have e1 : ((r.length : Int) == (cs.length : Int)) = true := by simp [he]
        have e2 : (r.length == cs.length) = true := by simp [he]
        rw [e1, e2]
        simp only [Bool.not_true, cond_false, impl_RowFits_j0, Bool.true_and]
        have hl := h.1
        have hz : (r.zip cs).length = r.length := by simp [he]
        rw [show (r.zip cs).all (fun p => fits p.2 p.1) = ((r.zip cs).all (fun p => fits p.2 p.1) && true) by simp]
        refine loop_all (xs := r.zip cs) (by omega) (fun f i p hi hp hw => ?_) (fun f => ?_)
        · obtain ⟨p1, p2⟩ := zip_get he hp
          have : (i : Int) < r.length := by omega
          simp only [impl_RowFits_l1, this, decide_true, cond_true, getI_nat, p1, p2, Option.bind_some, impl_RowFits_j2, hw, fits]
          cases p.1.fKind == p.2.fKind <;> cases p.1.fKind == 0 <;> cases p.2.fEmpty <;> rfl
        · rw [hz]
          simp only [impl_RowFits_l1, Int.lt_irrefl, decide_false, cond_false]
      · have e1 : ((r.length : Int) == (cs.length : Int)) = false := by
          simp only [beq_eq_false_iff_ne, ne_eq]
          omega
        have e2 : (r.length == cs.length) = false := by simp [he]
        rw [e1, e2]
        rfl
def SmRs (rs : List (List T_impl_Value)) : Prop := Sm rs.length ∧ ∀ r ∈ rs, SmR r
def rowsOk (cs : List T_impl_Column) (rs : List (List T_impl_Value)) : Bool := colsOk cs && rs.all (rowFits cs)
theorem impl_rowsAny {cs : List T_impl_Column} {rs : List (List T_impl_Value)} (hc : Sm cs.length) (h : SmRs rs) : slices_ContainsFunc_impl_Value_impl_Value_s3 rs (fun z0 => impl_RowsOk_1 z0 cs) = some (rs.any fun r => !(rowFits cs r)) := by
  unfold slices_ContainsFunc_impl_Value_impl_Value_s3 slices_IndexFunc_impl_Value_impl_Value_s3
  have hl := h.1
  obtain ⟨x, h1, h2⟩ := loop_find (xs := rs) (L := slices_IndexFunc_impl_Value_impl_Value_s3_l0 rs (fun z0 => impl_RowsOk_1 z0 cs)) (p := fun r => !(rowFits cs r)) (by omega) (fun f i v hi hv hw => by
    have : (i : Int) < rs.length := by omega
    simp only [slices_IndexFunc_impl_Value_impl_Value_s3_l0, this, decide_true, cond_true, getI_nat, hv, Option.bind_some, impl_RowsOk_1, impl_rowFits hc (h.2 v (List.mem_of_getElem? hv)), hw]) (fun f => by
    simp only [slices_IndexFunc_impl_Value_impl_Value_s3_l0, Int.lt_irrefl, decide_false, cond_false])
  rw [h1, Option.bind_some, h2]
theorem impl_rowsOk {cs : List T_impl_Column} {rs : List (List T_impl_Value)} (hc : Sm cs.length) (h : SmRs rs) : impl_RowsOk cs rs = some (rowsOk cs rs) := by
  unfold impl_RowsOk rowsOk
  rw [impl_colsOk hc, Option.bind_some, impl_rowsAny hc h, Option.bind_some, not_any_not]
  cases colsOk cs <;> rfl
end Go.D
set_option linter.unusedVariables false
namespace Go.D
theorem g2 {α : Type} {xs : List α} (a b : α) : getI (xs ++ [a, b]) (xs.length : Int) = some a := by
  rw [getI_nat]
  simp
theorem g3 {α : Type} {xs : List α} (b : α) : getI (xs ++ [b]) (xs.length : Int) = some b := by
  rw [getI_nat]
  simp
theorem wm1 : w64 (-1) = -1 := w64_of (by omega) (by omega)
section
variable {α : Type} {xs : List α} (h : xs.length ≤ 2097152)
include h
theorem g1 (a b : α) : getI (xs ++ [a, b]) (w64 (((xs ++ [a, b]).length : Int) - 1)) = some b := by
  have e : (((xs ++ [a, b]).length : Int) - 1) = ((xs.length + 1 : Nat) : Int) := by simp only [List.length_append, List.length_cons, List.length_nil]; omega
  rw [e, w64_of (by omega) (by omega), getI_nat]
  simp
theorem sl_pre {ys : List α} {n : Int} (hn : n = (xs.length : Int)) : slI (xs ++ ys) none (some n) none = some xs := by
  subst hn
  unfold slI
  rw [if_pos]
  · simp
  · simp only [Option.getD_none, Option.getD_some, List.length_append]
    omega
theorem sl_post {ys : List α} {n : Int} (hn : n = (xs.length : Int)) : slI (xs ++ ys) (some n) none none = some ys := by
  subst hn
  unfold slI
  rw [if_pos]
  · simp only [Option.getD_none, Option.getD_some, Int.toNat_natCast, List.drop_left, List.length_append]
    rw [List.take_of_length_le (by omega)]
  · simp only [Option.getD_none, Option.getD_some, List.length_append]
    omega
theorem max0 {n : Int} (hn : n = (xs.length : Int)) : maxL n [0] = (xs.length : Int) := by
  subst hn
  unfold maxL maxL
  rw [if_neg (by omega)]
theorem len2 (a b : α) : w64 (((xs ++ [a, b]).length : Int) - 2) = (xs.length : Int) := by
  rw [w64_of] <;> simp <;> omega
theorem len1 (b : α) : w64 (((xs ++ [b]).length : Int) - 1) = (xs.length : Int) := by
  rw [w64_of] <;> simp <;> omega
theorem len0 : w64 ((xs.length : Int) - 0) = (xs.length : Int) := by
  rw [w64_of] <;> omega
theorem ap_pre {ys : List α} (k : α) : appT (xs ++ ys) [k] xs.length = some (xs ++ [k]) := by
  unfold appT
  rw [if_pos (by simp; omega)]
  simp
theorem ap_all (k : α) : app xs [k] = some (xs ++ [k]) := app_lt (by simp; omega)
end
def zeroV (v : T_impl_Value) : Bool := eq_T_impl_Value v ((T_impl_Value.mk 0 0 (ByteArray.mk #[])))
def exprStep (cs : List T_impl_Column) (rs : List Int) (p : T_impl_Part) : Option (List Int) :=
  if p.fKind = 1 then bif p.fN == 0 && (valOk p.fV && !(p.fV.fKind == 0)) then some (p.fV.fKind :: rs) else none
  else if p.fKind = 2 then bif zeroV p.fV && inR p.fN 0 ((cs.length : Int) - 1) then (getI cs p.fN).map fun c => c.fKind :: rs else none
  else if p.fKind = 3 then bif zeroV p.fV && p.fN == 0 then (match rs with
    | b :: a :: r => bif b == 1 && a == 1 then some (1 :: r) else none
    | _ => none) else none
  else if p.fKind = 4 then bif zeroV p.fV && inR p.fN 1 4 then (match rs with
    | b :: a :: r => bif b == a then some (3 :: r) else none
    | _ => none) else none
  else if p.fKind = 5 ∨ p.fKind = 6 then bif zeroV p.fV && p.fN == 0 then (match rs with
    | b :: a :: r => bif b == 3 && a == 3 then some (3 :: r) else none
    | _ => none) else none
  else if p.fKind = 7 then bif zeroV p.fV && p.fN == 0 then (match rs with
    | b :: r => bif b == 3 then some (3 :: r) else none
    | _ => none) else none
  else if p.fKind = 8 then bif zeroV p.fV && p.fN == 0 then (match rs with
    | b :: r => some (3 :: r)
    | _ => none) else none
  else none
def exprRun (cs : List T_impl_Column) : List T_impl_Part → List Int → Int
  | [], rs => match rs with
    | [k] => k
    | _ => -1
  | p :: ps, rs => match exprStep cs rs p with
    | none => -1
    | some rs' => exprRun cs ps rs'
def SmP (p : T_impl_Part) : Prop := SmV p.fV
theorem exprStep_len {cs : List T_impl_Column} {rs rs' : List Int} {p : T_impl_Part} (h : exprStep cs rs p = some rs') : rs'.length ≤ rs.length + 1 := by
  unfold exprStep at h
  have hb : ∀ {c : Bool} {a : Option (List Int)}, (bif c then a else none) = some rs' → a = some rs' := fun {c a} h => by cases c <;> simp_all
  split at h
  · have := hb h
    cases this
    simp
  split at h
  · have := hb h
    simp only [Option.map_eq_some_iff] at this
    obtain ⟨_, _, rfl⟩ := this
    simp
  split at h
  · have := hb h
    split at this
    · cases hb this
      simp <;> omega
    · cases this
  split at h
  · have := hb h
    split at this
    · cases hb this
      simp <;> omega
    · cases this
  split at h
  · have := hb h
    split at this
    · cases hb this
      simp <;> omega
    · cases this
  split at h
  · have := hb h
    split at this
    · cases hb this
      simp
    · cases this
  split at h
  · have := hb h
    split at this
    · cases this
      simp
    · cases this
  · cases h
theorem stack_cases {α : Type} (rs : List α) : rs = [] ∨ (∃ b, rs = [b]) ∨ ∃ b a r, rs = b :: a :: r := by
  match rs with
  | [] => exact .inl rfl
  | [b] => exact .inr (.inl ⟨b, rfl⟩)
  | b :: a :: r => exact .inr (.inr ⟨b, a, r, rfl⟩)
theorem kind_cases (k : Int) : k = 1 ∨ k = 2 ∨ k = 3 ∨ k = 4 ∨ k = 5 ∨ k = 6 ∨ k = 7 ∨ k = 8 ∨ (k ≠ 1 ∧ k ≠ 2 ∧ k ≠ 3 ∧ k ≠ 4 ∧ k ≠ 5 ∧ k ≠ 6 ∧ k ≠ 7 ∧ k ≠ 8) := by omega
section
variable {α : Type} {xs : List α}
theorem gt1 (a b : α) : decide (((xs ++ [a, b]).length : Int) > 1) = true := by simp; omega
theorem gt0 (b : α) : decide (((xs ++ [b]).length : Int) > 0) = true := by simp only [List.length_append, List.length_cons, List.length_nil, decide_eq_true_eq]; omega
theorem lt2 (a b : α) : decide (((xs ++ [a, b]).length : Int) < 2) = false := by simp; omega
theorem lt1 (b : α) : decide (((xs ++ [b]).length : Int) < 1) = false := by simp; omega
theorem lt0 : decide ((xs.length : Int) < 0) = false := by simp only [decide_eq_false_iff_not]; omega
theorem rev2 (a b : α) (r : List α) : (b :: a :: r).reverse = r.reverse ++ [a, b] := by simp
theorem rev1 (b : α) (r : List α) : (b :: r).reverse = r.reverse ++ [b] := by simp
end
theorem low2 {xs : List Int} (h : xs.length ≤ 1) : slI xs none (some (maxL (w64 ((xs.length : Int) - 2)) [0])) none = some [] := by
  rw [w64_of (by omega) (by omega)]
  unfold maxL maxL
  rw [if_pos (by omega)]
  unfold slI
  simp
theorem apt0 (xs : List Int) (k : Int) : appT xs [k] ([] : List Int).length = some [k] := by
  unfold appT
  simp
theorem j2_low {xs : List Int} (h : xs.length ≤ 1) (b : Bool) : spec_l4Step_j2 xs b = some ([1], b) := by
  unfold spec_l4Step_j2
  rw [low2 h, Option.bind_some, apt0, Option.bind_some]
theorem j3_low {xs : List Int} (h : xs.length ≤ 1) (b : Bool) : spec_l4Step_j3 xs b = some ([3], b) := by
  unfold spec_l4Step_j3
  rw [low2 h, Option.bind_some, apt0, Option.bind_some]
theorem j5_low {xs : List Int} (h : xs.length ≤ 1) (b : Bool) : spec_l4Step_j5 xs b = some ([3], b) := by
  unfold spec_l4Step_j5
  rw [low2 h, Option.bind_some, apt0, Option.bind_some]
def SpecStep (cs : List T_impl_Column) (rs : List Int) (p : T_impl_Part) : Prop := match exprStep cs rs p with
  | some rs' => spec_l4Step cs rs.reverse p = some (rs'.reverse, true)
  | none => ∃ s, spec_l4Step cs rs.reverse p = some (s, false)
theorem spec_step {cs : List T_impl_Column} {rs : List Int} {p : T_impl_Part} (hc : Sm cs.length) (hr : rs.length ≤ 2000000) (hp : SmP p) : SpecStep cs rs p := by
  obtain ⟨k, n, v⟩ := p
  have hv : spec_ValueOk v = some (valOk v) := spec_value hp
  have hz : eq_T_impl_Value v ((T_impl_Value.mk 0 0 (ByteArray.mk #[]))) = zeroV v := rfl
  have hw : w64 ((cs.length : Int) - 1) = (cs.length : Int) - 1 := w64_of (by omega) (by omega)
  unfold SpecStep
  rcases kind_cases k with rfl | rfl | rfl | rfl | rfl | rfl | rfl | rfl | hk
  · have ha : app rs.reverse [v.fKind] = some (rs.reverse ++ [v.fKind]) := ap_all (by simp; omega) _
    simp only [exprStep, spec_l4Step, spec_l4Step_j0, spec_l4Step_j1, hz, hv, hw, spec_in, Option.bind_some, ha]
    cases n == 0 <;> cases valOk v <;> cases v.fKind == 0 <;> simp
  · simp only [exprStep, spec_l4Step, spec_l4Step_j0, hz, hw, spec_in, Option.bind_some]
    cases zeroV v
    · simp
    · cases hi : inR n 0 ((cs.length : Int) - 1) with
      | false => simp
      | true =>
        unfold inR at hi
        simp only [Bool.and_eq_true, decide_eq_true_eq] at hi
        obtain ⟨c, h1, h2⟩ := getI_lt (xs := cs) hi.1 (by omega)
        have ha : app rs.reverse [c.fKind] = some (rs.reverse ++ [c.fKind]) := ap_all (by simp; omega) _
        simp [h1, ha]
  · rcases stack_cases rs with rfl | ⟨b, rfl⟩ | ⟨b, a, r, rfl⟩
    · simp [exprStep, spec_l4Step, spec_l4Step_j0, j2_low, hz, spec_in, Option.bind]
      cases n == 0 <;> cases zeroV v <;> simp
    · simp [exprStep, spec_l4Step, spec_l4Step_j0, j2_low, hz, spec_in, Option.bind]
      cases n == 0 <;> cases zeroV v <;> simp
    · have hx : r.reverse.length ≤ 2097152 := by simp at hr ⊢; omega
      simp only [exprStep, spec_l4Step, spec_l4Step_j0, spec_l4Step_j2, hz, spec_in, rev2, g1 hx, len2 hx, g2, gt1, max0 hx rfl, sl_pre hx rfl, ap_pre hx, Option.bind_some]
      cases n == 0 <;> cases zeroV v <;> cases b == 1 <;> cases a == 1 <;> simp
  · rcases stack_cases rs with rfl | ⟨b, rfl⟩ | ⟨b, a, r, rfl⟩
    · simp [exprStep, spec_l4Step, spec_l4Step_j0, j3_low, hz, spec_in, Option.bind]
      cases inR n 1 4 <;> cases zeroV v <;> simp
    · simp [exprStep, spec_l4Step, spec_l4Step_j0, j3_low, hz, spec_in, Option.bind]
      cases inR n 1 4 <;> cases zeroV v <;> simp
    · have hx : r.reverse.length ≤ 2097152 := by simp at hr ⊢; omega
      simp only [exprStep, spec_l4Step, spec_l4Step_j0, spec_l4Step_j3, hz, spec_in, rev2, g1 hx, len2 hx, g2, gt1, max0 hx rfl, sl_pre hx rfl, ap_pre hx, Option.bind_some]
      cases inR n 1 4 <;> cases zeroV v <;> cases b == a <;> simp
  · rcases stack_cases rs with rfl | ⟨b, rfl⟩ | ⟨b, a, r, rfl⟩
    · simp [exprStep, spec_l4Step, spec_l4Step_j0, spec_l4Step_j4, j5_low, hz, spec_in, Option.bind]
      cases n == 0 <;> cases zeroV v <;> simp
    · simp [exprStep, spec_l4Step, spec_l4Step_j0, spec_l4Step_j4, j5_low, hz, spec_in, Option.bind]
      cases n == 0 <;> cases zeroV v <;> simp
    · have hx : r.reverse.length ≤ 2097152 := by simp at hr ⊢; omega
      simp only [exprStep, spec_l4Step, spec_l4Step_j0, spec_l4Step_j4, spec_l4Step_j5, hz, spec_in, rev2, g1 hx, len2 hx, g2, gt1, max0 hx rfl, sl_pre hx rfl, ap_pre hx, Option.bind_some]
      cases n == 0 <;> cases zeroV v <;> cases b == 3 <;> cases a == 3 <;> simp
  · rcases stack_cases rs with rfl | ⟨b, rfl⟩ | ⟨b, a, r, rfl⟩
    · simp [exprStep, spec_l4Step, spec_l4Step_j0, spec_l4Step_j4, j5_low, hz, spec_in, Option.bind]
      cases n == 0 <;> cases zeroV v <;> simp
    · simp [exprStep, spec_l4Step, spec_l4Step_j0, spec_l4Step_j4, j5_low, hz, spec_in, Option.bind]
      cases n == 0 <;> cases zeroV v <;> simp
    · have hx : r.reverse.length ≤ 2097152 := by simp at hr ⊢; omega
      simp only [exprStep, spec_l4Step, spec_l4Step_j0, spec_l4Step_j4, spec_l4Step_j5, hz, spec_in, rev2, g1 hx, len2 hx, g2, gt1, max0 hx rfl, sl_pre hx rfl, ap_pre hx, Option.bind_some]
      cases n == 0 <;> cases zeroV v <;> cases b == 3 <;> cases a == 3 <;> simp
  · rcases rs with _ | ⟨b, r⟩
    · simp [exprStep, spec_l4Step, spec_l4Step_j0, spec_l4Step_j4, hz]
    · have hx : r.reverse.length ≤ 2097152 := by simp at hr ⊢; omega
      simp only [exprStep, spec_l4Step, spec_l4Step_j0, spec_l4Step_j4, hz, rev1, len1 hx, g3, gt0, max0 hx rfl, sl_pre hx rfl, ap_pre hx, Option.bind_some]
      cases n == 0 <;> cases zeroV v <;> cases hb : b == 3 <;> simp_all
  · rcases rs with _ | ⟨b, r⟩
    · simp [exprStep, spec_l4Step, spec_l4Step_j0, spec_l4Step_j4, hz, wm1, appT, maxL, slI]
      cases n == 0 <;> cases zeroV v <;> simp
    · have hx : r.reverse.length ≤ 2097152 := by simp at hr ⊢; omega
      simp only [exprStep, spec_l4Step, spec_l4Step_j0, spec_l4Step_j4, hz, rev1, len1 hx, g3, gt0, max0 hx rfl, sl_pre hx rfl, ap_pre hx, Option.bind_some]
      cases n == 0 <;> cases zeroV v <;> simp
  · obtain ⟨h1, h2, h3, h4, h5, h6, h7, h8⟩ := hk
    have b1 : (k == 1) = false := by simp [h1]
    have b2 : (k == 2) = false := by simp [h2]
    have b3 : (k == 3) = false := by simp [h3]
    have b4 : (k == 4) = false := by simp [h4]
    have b5 : (k == 5) = false := by simp [h5]
    have b6 : (k == 6) = false := by simp [h6]
    have b7 : (k == 7) = false := by simp [h7]
    have b8 : (k == 8) = false := by simp [h8]
    simp only [exprStep, h1, h2, h3, h4, h5, h6, h7, h8, if_false, or_self, spec_l4Step, spec_l4Step_j0, spec_l4Step_j4, b1, b2, b3, b4, b5, b6, b7, b8, hz]
    cases zeroV v <;> cases n == 0 <;> simp
end Go.D
set_option linter.unusedVariables false
namespace Go.D
def exprKind (cs : List T_impl_Column) (ps : List T_impl_Part) : Int := bif colsOk cs && decide (ps.length ≤ 12) then exprRun cs ps [] else -1
theorem gt12 {α : Type} (xs : List α) : decide ((xs.length : Int) > 12) = !(decide (xs.length ≤ 12)) := by
  by_cases h : xs.length ≤ 12
  · have : ¬ (xs.length : Int) > 12 := by omega
    simp [h, this]
  · have : (xs.length : Int) > 12 := by omega
    simp [h, this]
theorem fin_run (st : List Int) (cs : List T_impl_Column) : (bif !((st.length : Int) == 1) then some (-1) else (getI st 0).bind fun v => some v) = some (exprRun cs [] st.reverse) := by
  match st with
  | [] => rfl
  | [k] => rfl
  | a :: b :: r =>
    have e : (((a :: b :: r).length : Int) == 1) = false := by
      simp only [beq_eq_false_iff_ne, ne_eq, List.length_cons]
      omega
    rw [e]
    unfold exprRun
    split
    · next k hk =>
      have := congrArg List.length hk
      simp at this
    · rfl
theorem spec_exprKind {cs : List T_impl_Column} {ps : List T_impl_Part} (hc : Sm cs.length) (hl : ps.length ≤ 2097152) (hp : ∀ p ∈ ps, SmP p) : spec_ExprKind cs ps = some (exprKind cs ps) := by
  unfold spec_ExprKind exprKind
  rw [spec_colsOk hc, Option.bind_some, gt12]
  cases colsOk cs
  · rfl
  cases h12 : decide (ps.length ≤ 12)
  · rfl
  have h12 : ps.length ≤ 12 := of_decide_eq_true h12
  simp only [Bool.not_true, cond_false, Bool.true_and, cond_true, spec_ExprKind_j0]
  have := loop_rec (xs := ps) (L := fun f i (s : Bool × List Int) => spec_ExprKind_l1 cs ps f s.1 i s.2) (fun ps s => bif s.1 then exprRun cs ps s.2.reverse else -1) (fun i s => s.1 = true → s.2.length ≤ i) (by omega)
    (fun f i s v rest hi hv hw hI => by
      obtain ⟨ok, st⟩ := s
      have hlt : (i : Int) < ps.length := by omega
      cases ok with
      | false =>
        refine .inl ?_
        simp only [spec_ExprKind_l1, hlt, decide_true, cond_true, spec_ExprKind_j2, cond_false, Bool.not_false, spec_ExprKind_j3]
      | true =>
        have hst := hI rfl
        have hs : SpecStep cs st.reverse v := spec_step hc (by simp; simp only at hst; omega) (hp v (List.mem_of_getElem? hv))
        unfold SpecStep at hs
        simp only [List.reverse_reverse] at hs
        refine .inr ?_
        cases he : exprStep cs st.reverse v with
        | none =>
          rw [he] at hs
          obtain ⟨s', hs⟩ := hs
          refine ⟨(false, s'), (fun h => by cases h), ?_, ?_⟩
          · simp only [spec_ExprKind_l1, hlt, decide_true, cond_true, spec_ExprKind_j2, getI_nat, hv, Option.bind_some, hs, hw]
          · simp only [cond_true, cond_false, exprRun, he]
        | some rs' =>
          rw [he] at hs
          have hs : spec_l4Step cs st v = some (rs'.reverse, true) := hs
          refine ⟨(true, rs'.reverse), fun _ => ?_, ?_, ?_⟩
          · have := exprStep_len he
            simp only [List.length_reverse] at this ⊢
            simp only at hst
            omega
          · simp only [spec_ExprKind_l1, hlt, decide_true, cond_true, spec_ExprKind_j2, getI_nat, hv, Option.bind_some, hs, hw]
          · simp only [cond_true, exprRun, he, List.reverse_reverse])
    (fun f s hI => by
      obtain ⟨ok, st⟩ := s
      simp only [spec_ExprKind_l1, Int.lt_irrefl, decide_false, cond_false, spec_ExprKind_j2]
      cases ok with
      | false => rfl
      | true =>
        simp only [Bool.not_true, cond_false, spec_ExprKind_j3, cond_true]
        exact fin_run st cs) (s := (true, [])) (fun _ => by simp)
  exact this
theorem impl_allk (k : Int) {xs : List Int} (h : xs.length ≤ 2097152) : impl_Part_kind_1 k xs = some (xs.all (· == k)) := by
  unfold impl_Part_kind_1 slices_ContainsFunc_int_int slices_IndexFunc_int_int
  obtain ⟨r, h1, h2⟩ := loop_find (xs := xs) (L := slices_IndexFunc_int_int_l0 xs (fun z0 => impl_Part_kind_1_1 z0 k)) (p := fun z => !(z == k)) (by omega) (fun f i v hi hv hw => by
    have : (i : Int) < xs.length := by omega
    simp only [slices_IndexFunc_int_int_l0, this, decide_true, cond_true, getI_nat, hv, Option.bind_some, impl_Part_kind_1_1, hw]) (fun f => by
    simp only [slices_IndexFunc_int_int_l0, Int.lt_irrefl, decide_false, cond_false])
  rw [h1, Option.bind_some, Option.bind_some, h2, not_any_not]
def ImplStep (cs : List T_impl_Column) (rs : List Int) (p : T_impl_Part) (x4 : Int) (K : Int → List Int → Option Int) : Prop :=
  ((impl_Part_takes p).bind fun v11 => (impl_Part_tells p cs).bind fun v24 => bif (!v24) then impl_ExprKind_j2 cs x4 rs.reverse K p v11 true else impl_ExprKind_j2 cs x4 rs.reverse K p v11 ((decide (((rs.reverse.length : Int)) < v11)))) =
    match exprStep cs rs p with
    | none => some (-1)
    | some rs' => K (w64 (x4 + 1)) rs'.reverse
theorem pre_all {xs : List Int} (h : xs.length ≤ 2097152) : slI xs none (some (w64 ((xs.length : Int) - 0))) none = some xs := by
  rw [len0 h]
  have := sl_pre (ys := []) h rfl
  rwa [List.append_nil] at this
theorem post_all {xs : List Int} (h : xs.length ≤ 2097152) : slI xs (some (w64 ((xs.length : Int) - 0))) none none = some [] := by
  rw [len0 h]
  have := sl_post (ys := []) h rfl
  rwa [List.append_nil] at this
theorem ap_full {xs : List Int} (h : xs.length ≤ 2097152) (k : Int) : appT xs [k] xs.length = some (xs ++ [k]) := by
  have := ap_pre (ys := []) h k
  rwa [List.append_nil] at this
theorem get0 (a b : Int) : getI [a, b] 0 = some a := rfl
theorem get1 (a b : Int) : getI [a, b] 1 = some b := rfl
theorem eq_comm_b (a b : Int) : (a == b) = (b == a) := by
  rw [Bool.eq_iff_iff, beq_iff_eq, beq_iff_eq]
  exact eq_comm
theorem impl_step {cs : List T_impl_Column} {rs : List Int} {p : T_impl_Part} {x4 : Int} {K : Int → List Int → Option Int} (hc : Sm cs.length) (hr : rs.length ≤ 2000000) (hp : SmP p) : ImplStep cs rs p x4 K := by
  obtain ⟨k, n, v⟩ := p
  have hv : impl_Value_ok v = some (valOk v) := impl_value hp
  have hz : eq_T_impl_Value v ((T_impl_Value.mk 0 0 (ByteArray.mk #[]))) = zeroV v := rfl
  have hw : w64 ((cs.length : Int) - 1) = (cs.length : Int) - 1 := w64_of (by omega) (by omega)
  have hxr : rs.reverse.length ≤ 2097152 := by simp; omega
  unfold ImplStep
  rcases kind_cases k with rfl | rfl | rfl | rfl | rfl | rfl | rfl | rfl | hk
  · simp only [exprStep, impl_Part_takes, impl_Part_takes_j0, impl_Part_takes_j1, impl_Part_tells, impl_Part_tells_j0, impl_ExprKind_j2, hv, hz, hw, impl_in, impl_Part_kind, Option.bind_some]
    cases n == 0 <;> cases valOk v <;> cases v.fKind == 0 <;> simp [-List.length_reverse, -Int.sub_zero, -List.length_append, -List.length_cons, -List.length_nil, lt0, post_all hxr, pre_all hxr, ap_full hxr]
  · simp only [exprStep, impl_Part_takes, impl_Part_takes_j0, impl_Part_takes_j1, impl_Part_tells, impl_Part_tells_j0, impl_ExprKind_j2, hv, hz, hw, impl_in, impl_Part_kind, Option.bind_some]
    cases zeroV v
    · cases inR n 0 ((cs.length : Int) - 1) <;> simp [-List.length_reverse, -Int.sub_zero, -List.length_append, -List.length_cons, -List.length_nil, lt0, post_all hxr, pre_all hxr, ap_full hxr]
    · cases hi : inR n 0 ((cs.length : Int) - 1) with
      | false => simp [-List.length_reverse, -Int.sub_zero, -List.length_append, -List.length_cons, -List.length_nil, lt0, post_all hxr, pre_all hxr, ap_full hxr]
      | true =>
        unfold inR at hi
        simp only [Bool.and_eq_true, decide_eq_true_eq] at hi
        obtain ⟨c, h1, h2⟩ := getI_lt (xs := cs) hi.1 (by omega)
        simp [-List.length_reverse, -Int.sub_zero, -List.length_append, -List.length_cons, -List.length_nil, lt0, post_all hxr, pre_all hxr, ap_full hxr, h1]
  · rcases stack_cases rs with rfl | ⟨b, rfl⟩ | ⟨b, a, r, rfl⟩
    · simp only [exprStep, impl_Part_takes, impl_Part_takes_j0, impl_Part_takes_j1, impl_Part_tells, impl_Part_tells_j0, impl_ExprKind_j2, hv, hz, hw, impl_in, impl_Part_kind, Option.bind_some]
      cases n == 0 <;> cases zeroV v <;> simp
    · simp only [exprStep, impl_Part_takes, impl_Part_takes_j0, impl_Part_takes_j1, impl_Part_tells, impl_Part_tells_j0, impl_ExprKind_j2, hv, hz, hw, impl_in, impl_Part_kind, Option.bind_some]
      cases n == 0 <;> cases zeroV v <;> simp
    · have hx : r.reverse.length ≤ 2097152 := by simp at hr ⊢; omega
      have hab : ([a, b] : List Int).length ≤ 2097152 := by simp
      simp only [exprStep, impl_Part_takes, impl_Part_takes_j0, impl_Part_takes_j1, impl_Part_tells, impl_Part_tells_j0, impl_ExprKind_j2, hv, hz, hw, impl_in, impl_Part_kind, Option.bind_some, rev2]
      cases n == 0 <;> cases zeroV v <;> cases ha : a == 1 <;> cases hb : b == 1 <;> simp [*, -List.length_reverse, -Int.sub_zero, -List.length_append, -List.length_cons, -List.length_nil, lt2, len2 hx, sl_pre hx rfl, sl_post hx rfl, ap_pre hx, impl_allk 1 hab, impl_allk 3 hab, get0, get1]
  · rcases stack_cases rs with rfl | ⟨b, rfl⟩ | ⟨b, a, r, rfl⟩
    · simp only [exprStep, impl_Part_takes, impl_Part_takes_j0, impl_Part_takes_j1, impl_Part_tells, impl_Part_tells_j0, impl_ExprKind_j2, hv, hz, hw, impl_in, impl_Part_kind, Option.bind_some]
      cases inR n 1 4 <;> cases zeroV v <;> simp
    · simp only [exprStep, impl_Part_takes, impl_Part_takes_j0, impl_Part_takes_j1, impl_Part_tells, impl_Part_tells_j0, impl_ExprKind_j2, hv, hz, hw, impl_in, impl_Part_kind, Option.bind_some]
      cases inR n 1 4 <;> cases zeroV v <;> simp
    · have hx : r.reverse.length ≤ 2097152 := by simp at hr ⊢; omega
      have hab : ([a, b] : List Int).length ≤ 2097152 := by simp
      simp only [exprStep, impl_Part_takes, impl_Part_takes_j0, impl_Part_takes_j1, impl_Part_tells, impl_Part_tells_j0, impl_ExprKind_j2, hv, hz, hw, impl_in, impl_Part_kind, Option.bind_some, rev2]
      cases inR n 1 4 <;> cases zeroV v <;> cases hb : b == a <;> simp [*, -List.length_reverse, -Int.sub_zero, -List.length_append, -List.length_cons, -List.length_nil, lt2, len2 hx, sl_pre hx rfl, sl_post hx rfl, ap_pre hx, impl_allk 1 hab, impl_allk 3 hab, get0, get1, eq_comm_b a b]
  · rcases stack_cases rs with rfl | ⟨b, rfl⟩ | ⟨b, a, r, rfl⟩
    · simp only [exprStep, impl_Part_takes, impl_Part_takes_j0, impl_Part_takes_j1, impl_Part_tells, impl_Part_tells_j0, impl_ExprKind_j2, hv, hz, hw, impl_in, impl_Part_kind, Option.bind_some]
      cases n == 0 <;> cases zeroV v <;> simp
    · simp only [exprStep, impl_Part_takes, impl_Part_takes_j0, impl_Part_takes_j1, impl_Part_tells, impl_Part_tells_j0, impl_ExprKind_j2, hv, hz, hw, impl_in, impl_Part_kind, Option.bind_some]
      cases n == 0 <;> cases zeroV v <;> simp
    · have hx : r.reverse.length ≤ 2097152 := by simp at hr ⊢; omega
      have hab : ([a, b] : List Int).length ≤ 2097152 := by simp
      simp only [exprStep, impl_Part_takes, impl_Part_takes_j0, impl_Part_takes_j1, impl_Part_tells, impl_Part_tells_j0, impl_ExprKind_j2, hv, hz, hw, impl_in, impl_Part_kind, Option.bind_some, rev2]
      cases n == 0 <;> cases zeroV v <;> cases ha : a == 3 <;> cases hb : b == 3 <;> simp [*, -List.length_reverse, -Int.sub_zero, -List.length_append, -List.length_cons, -List.length_nil, lt2, len2 hx, sl_pre hx rfl, sl_post hx rfl, ap_pre hx, impl_allk 1 hab, impl_allk 3 hab, get0, get1]
  · rcases stack_cases rs with rfl | ⟨b, rfl⟩ | ⟨b, a, r, rfl⟩
    · simp only [exprStep, impl_Part_takes, impl_Part_takes_j0, impl_Part_takes_j1, impl_Part_tells, impl_Part_tells_j0, impl_ExprKind_j2, hv, hz, hw, impl_in, impl_Part_kind, Option.bind_some]
      cases n == 0 <;> cases zeroV v <;> simp
    · simp only [exprStep, impl_Part_takes, impl_Part_takes_j0, impl_Part_takes_j1, impl_Part_tells, impl_Part_tells_j0, impl_ExprKind_j2, hv, hz, hw, impl_in, impl_Part_kind, Option.bind_some]
      cases n == 0 <;> cases zeroV v <;> simp
    · have hx : r.reverse.length ≤ 2097152 := by simp at hr ⊢; omega
      have hab : ([a, b] : List Int).length ≤ 2097152 := by simp
      simp only [exprStep, impl_Part_takes, impl_Part_takes_j0, impl_Part_takes_j1, impl_Part_tells, impl_Part_tells_j0, impl_ExprKind_j2, hv, hz, hw, impl_in, impl_Part_kind, Option.bind_some, rev2]
      cases n == 0 <;> cases zeroV v <;> cases ha : a == 3 <;> cases hb : b == 3 <;> simp [*, -List.length_reverse, -Int.sub_zero, -List.length_append, -List.length_cons, -List.length_nil, lt2, len2 hx, sl_pre hx rfl, sl_post hx rfl, ap_pre hx, impl_allk 1 hab, impl_allk 3 hab, get0, get1]
  · rcases rs with _ | ⟨b, r⟩
    · simp only [exprStep, impl_Part_takes, impl_Part_takes_j0, impl_Part_takes_j1, impl_Part_tells, impl_Part_tells_j0, impl_ExprKind_j2, hv, hz, hw, impl_in, impl_Part_kind, Option.bind_some]
      cases n == 0 <;> cases zeroV v <;> simp
    · have hx : r.reverse.length ≤ 2097152 := by simp at hr ⊢; omega
      have hab : ([b] : List Int).length ≤ 2097152 := by simp
      simp only [exprStep, impl_Part_takes, impl_Part_takes_j0, impl_Part_takes_j1, impl_Part_tells, impl_Part_tells_j0, impl_ExprKind_j2, hv, hz, hw, impl_in, impl_Part_kind, Option.bind_some, rev1]
      cases n == 0 <;> cases zeroV v <;> cases hb : b == 3 <;> simp [*, -List.length_reverse, -Int.sub_zero, -List.length_append, -List.length_cons, -List.length_nil, lt1, len1 hx, sl_pre hx rfl, sl_post hx rfl, ap_pre hx, impl_allk 3 hab]
  · rcases rs with _ | ⟨b, r⟩
    · simp only [exprStep, impl_Part_takes, impl_Part_takes_j0, impl_Part_takes_j1, impl_Part_tells, impl_Part_tells_j0, impl_ExprKind_j2, hv, hz, hw, impl_in, impl_Part_kind, Option.bind_some]
      cases n == 0 <;> cases zeroV v <;> simp
    · have hx : r.reverse.length ≤ 2097152 := by simp at hr ⊢; omega
      have hab : ([b] : List Int).length ≤ 2097152 := by simp
      simp only [exprStep, impl_Part_takes, impl_Part_takes_j0, impl_Part_takes_j1, impl_Part_tells, impl_Part_tells_j0, impl_ExprKind_j2, hv, hz, hw, impl_in, impl_Part_kind, Option.bind_some, rev1]
      cases n == 0 <;> cases zeroV v <;> cases hb : b == 3 <;> simp [*, -List.length_reverse, -Int.sub_zero, -List.length_append, -List.length_cons, -List.length_nil, lt1, len1 hx, sl_pre hx rfl, sl_post hx rfl, ap_pre hx, impl_allk 3 hab]
  · obtain ⟨h1, h2, h3, h4, h5, h6, h7, h8⟩ := hk
    have b1 : (k == 1) = false := by simp [h1]
    have b2 : (k == 2) = false := by simp [h2]
    have b3 : (k == 3) = false := by simp [h3]
    have b4 : (k == 4) = false := by simp [h4]
    have b5 : (k == 5) = false := by simp [h5]
    have b6 : (k == 6) = false := by simp [h6]
    have b7 : (k == 7) = false := by simp [h7]
    have b8 : (k == 8) = false := by simp [h8]
    simp only [h1, h2, h3, h4, h5, h6, h7, h8, if_false, or_self, b1, b2, b3, b4, b5, b6, b7, b8, exprStep, impl_Part_takes, impl_Part_takes_j0, impl_Part_takes_j1, impl_Part_tells, impl_Part_tells_j0, impl_ExprKind_j2, hv, hz, hw, impl_in, impl_Part_kind, Option.bind_some]
    rfl
theorem impl_exprKind {cs : List T_impl_Column} {ps : List T_impl_Part} (hc : Sm cs.length) (hl : ps.length ≤ 2097152) (hp : ∀ p ∈ ps, SmP p) : impl_ExprKind cs ps = some (exprKind cs ps) := by
  unfold impl_ExprKind exprKind
  rw [impl_colsOk hc, Option.bind_some, gt12]
  cases colsOk cs
  · rfl
  cases h12 : decide (ps.length ≤ 12)
  · rfl
  have h12 : ps.length ≤ 12 := of_decide_eq_true h12
  simp only [Bool.not_true, cond_false, Bool.true_and, cond_true, impl_ExprKind_j0]
  have := loop_rec (xs := ps) (L := fun f i (s : List Int) => impl_ExprKind_l1 cs ps f i s) (fun ps s => exprRun cs ps s.reverse) (fun i s => s.length ≤ i) (by omega)
    (fun f i st v rest hi hv hw hI => by
      have hlt : (i : Int) < ps.length := by omega
      have hs : ImplStep cs st.reverse v i (impl_ExprKind_l1 cs ps f) := impl_step hc (by simp; omega) (hp v (List.mem_of_getElem? hv))
      unfold ImplStep at hs
      rw [List.reverse_reverse, hw] at hs
      have e : impl_ExprKind_l1 cs ps (f + 1) i st = match exprStep cs st.reverse v with
        | none => some (-1)
        | some rs' => impl_ExprKind_l1 cs ps f ((i + 1 : Nat) : Int) rs'.reverse := by
        rw [← hs]
        simp only [impl_ExprKind_l1, hlt, decide_true, cond_true, getI_nat, hv, Option.bind_some]
      cases he : exprStep cs st.reverse v with
      | none =>
        refine .inl ?_
        rw [he] at e
        simp only [exprRun, he]
        exact e
      | some rs' =>
        rw [he] at e
        refine .inr ⟨rs'.reverse, ?_, e, ?_⟩
        · have := exprStep_len he
          simp only [List.length_reverse] at this ⊢
          omega
        · simp only [exprRun, he, List.reverse_reverse])
    (fun f st hI => by
      simp only [impl_ExprKind_l1, Int.lt_irrefl, decide_false, cond_false]
      exact fin_run st cs) (s := []) (by simp)
  exact this
end Go.D
set_option linter.unusedVariables false
namespace Go.D
theorem impl_grow {n : Nat} (hn : n ≤ 4194304) : slices_Grow_impl_Column_impl_Column_n0 (n : Int) = some [] := by
  unfold slices_Grow_impl_Column_impl_Column_n0
  have h0 : w64 (0 - 0) = 0 := w64_of (by omega) (by omega)
  have h1 : w64 ((n : Int) - 0) = n := by rw [w64_of] <;> omega
  have h2 : decide ((n : Int) < 0) = false := by simp
  rw [h2, h0, h1]
  simp only [cond_false]
  by_cases hp : (n : Int) > 0
  · have h3 : decide ((n : Int) > 0) = true := decide_eq_true hp
    rw [h3, cond_true]
    unfold apzI
    rw [if_pos (by omega)]
    simp [slI]
  · have h3 : decide ((n : Int) > 0) = false := decide_eq_false hp
    rw [h3, cond_false]
theorem fuel3 : ∃ F, FUEL = F + 1 + 1 + 1 := by
  have h : 3 ≤ FUEL := by unfold FUEL; omega
  exact ⟨FUEL - 3, by omega⟩
theorem concat_l1 (F : Nat) {a b : List T_impl_Column} (ha : Sm a.length) (hb : Sm b.length) : slices_Concat_impl_Column_impl_Column_l1 [a, b] (F + 1 + 1 + 1) 0 [] = some (a ++ b) := by
  have w3 : w64 (0 + 1) = 1 := w64_of (by omega) (by omega)
  have w4 : w64 (1 + 1) = 2 := w64_of (by omega) (by omega)
  have i0 : getI [a, b] 0 = some a := rfl
  have i1 : getI [a, b] 1 = some b := rfl
  have l0 : decide ((0 : Int) < (([a, b] : List (List T_impl_Column)).length : Int)) = true := rfl
  have l1 : decide ((1 : Int) < (([a, b] : List (List T_impl_Column)).length : Int)) = true := rfl
  have l2 : decide ((2 : Int) < (([a, b] : List (List T_impl_Column)).length : Int)) = false := rfl
  rw [slices_Concat_impl_Column_impl_Column_l1, l0, cond_true, i0, Option.bind_some, app_lt (xs := ([] : List T_impl_Column)) (ys := a) (by simp; omega), Option.bind_some, List.nil_append, w3]
  rw [slices_Concat_impl_Column_impl_Column_l1, l1, cond_true, i1, Option.bind_some, app_lt (xs := a) (ys := b) (by omega), Option.bind_some, w4]
  rw [slices_Concat_impl_Column_impl_Column_l1, l2, cond_false]
theorem concat_l0 (F : Nat) {a b : List T_impl_Column} (ha : Sm a.length) (hb : Sm b.length) : slices_Concat_impl_Column_impl_Column_l0 [a, b] (F + 1 + 1 + 1) 0 0 = slices_Concat_impl_Column_impl_Column_l1 [a, b] FUEL 0 [] := by
  have w1 : w64 (0 + (a.length : Int)) = a.length := by rw [w64_of] <;> omega
  have w2 : w64 ((a.length : Int) + b.length) = ((a.length + b.length : Nat) : Int) := by rw [w64_of] <;> omega
  have w3 : w64 (0 + 1) = 1 := w64_of (by omega) (by omega)
  have w4 : w64 (1 + 1) = 2 := w64_of (by omega) (by omega)
  have n1 : decide ((a.length : Int) < 0) = false := by simp
  have n2 : decide (((a.length + b.length : Nat) : Int) < 0) = false := by
    rw [decide_eq_false_iff_not]
    omega
  have i0 : getI [a, b] 0 = some a := rfl
  have i1 : getI [a, b] 1 = some b := rfl
  have l0 : decide ((0 : Int) < (([a, b] : List (List T_impl_Column)).length : Int)) = true := rfl
  have l1 : decide ((1 : Int) < (([a, b] : List (List T_impl_Column)).length : Int)) = true := rfl
  have l2 : decide ((2 : Int) < (([a, b] : List (List T_impl_Column)).length : Int)) = false := rfl
  rw [slices_Concat_impl_Column_impl_Column_l0, l0, cond_true, i0, Option.bind_some, w1, n1, cond_false, w3]
  rw [slices_Concat_impl_Column_impl_Column_l0, l1, cond_true, i1, Option.bind_some, w2, n2, cond_false, w4]
  rw [slices_Concat_impl_Column_impl_Column_l0, l2, cond_false, impl_grow (n := a.length + b.length) (by omega), Option.bind_some]
theorem impl_concat {a b : List T_impl_Column} (ha : Sm a.length) (hb : Sm b.length) : slices_Concat_impl_Column_impl_Column [a, b] = some (a ++ b) := by
  obtain ⟨F, hF⟩ := fuel3
  have h0 := concat_l0 F ha hb
  have h1 := concat_l1 F ha hb
  rw [← hF] at h0 h1
  exact h0.trans h1
end Go.D
set_option linter.unusedVariables false
namespace Go.D
theorem impl_growV {n : Nat} (hn : n ≤ 4194304) : slices_Grow_impl_Value_impl_Value_n0 (n : Int) = some [] := by
  unfold slices_Grow_impl_Value_impl_Value_n0
  have h0 : w64 (0 - 0) = 0 := w64_of (by omega) (by omega)
  have h1 : w64 ((n : Int) - 0) = n := by rw [w64_of] <;> omega
  have h2 : decide ((n : Int) < 0) = false := by simp
  rw [h2, h0, h1]
  simp only [cond_false]
  by_cases hp : (n : Int) > 0
  · have h3 : decide ((n : Int) > 0) = true := decide_eq_true hp
    rw [h3, cond_true]
    unfold apzI
    rw [if_pos (by omega)]
    simp [slI]
  · have h3 : decide ((n : Int) > 0) = false := decide_eq_false hp
    rw [h3, cond_false]
theorem concatV_l1 (F : Nat) {a b : List T_impl_Value} (ha : Sm a.length) (hb : Sm b.length) : slices_Concat_impl_Value_impl_Value_l1 [a, b] (F + 1 + 1 + 1) 0 [] = some (a ++ b) := by
  have w3 : w64 (0 + 1) = 1 := w64_of (by omega) (by omega)
  have w4 : w64 (1 + 1) = 2 := w64_of (by omega) (by omega)
  have i0 : getI [a, b] 0 = some a := rfl
  have i1 : getI [a, b] 1 = some b := rfl
  have l0 : decide ((0 : Int) < (([a, b] : List (List T_impl_Value)).length : Int)) = true := rfl
  have l1 : decide ((1 : Int) < (([a, b] : List (List T_impl_Value)).length : Int)) = true := rfl
  have l2 : decide ((2 : Int) < (([a, b] : List (List T_impl_Value)).length : Int)) = false := rfl
  rw [slices_Concat_impl_Value_impl_Value_l1, l0, cond_true, i0, Option.bind_some, app_lt (xs := ([] : List T_impl_Value)) (ys := a) (by simp; omega), Option.bind_some, List.nil_append, w3]
  rw [slices_Concat_impl_Value_impl_Value_l1, l1, cond_true, i1, Option.bind_some, app_lt (xs := a) (ys := b) (by omega), Option.bind_some, w4]
  rw [slices_Concat_impl_Value_impl_Value_l1, l2, cond_false]
theorem concatV_l0 (F : Nat) {a b : List T_impl_Value} (ha : Sm a.length) (hb : Sm b.length) : slices_Concat_impl_Value_impl_Value_l0 [a, b] (F + 1 + 1 + 1) 0 0 = slices_Concat_impl_Value_impl_Value_l1 [a, b] FUEL 0 [] := by
  have w1 : w64 (0 + (a.length : Int)) = a.length := by rw [w64_of] <;> omega
  have w2 : w64 ((a.length : Int) + b.length) = ((a.length + b.length : Nat) : Int) := by rw [w64_of] <;> omega
  have w3 : w64 (0 + 1) = 1 := w64_of (by omega) (by omega)
  have w4 : w64 (1 + 1) = 2 := w64_of (by omega) (by omega)
  have n1 : decide ((a.length : Int) < 0) = false := by simp
  have n2 : decide (((a.length + b.length : Nat) : Int) < 0) = false := by
    rw [decide_eq_false_iff_not]
    omega
  have i0 : getI [a, b] 0 = some a := rfl
  have i1 : getI [a, b] 1 = some b := rfl
  have l0 : decide ((0 : Int) < (([a, b] : List (List T_impl_Value)).length : Int)) = true := rfl
  have l1 : decide ((1 : Int) < (([a, b] : List (List T_impl_Value)).length : Int)) = true := rfl
  have l2 : decide ((2 : Int) < (([a, b] : List (List T_impl_Value)).length : Int)) = false := rfl
  rw [slices_Concat_impl_Value_impl_Value_l0, l0, cond_true, i0, Option.bind_some, w1, n1, cond_false, w3]
  rw [slices_Concat_impl_Value_impl_Value_l0, l1, cond_true, i1, Option.bind_some, w2, n2, cond_false, w4]
  rw [slices_Concat_impl_Value_impl_Value_l0, l2, cond_false, impl_growV (n := a.length + b.length) (by omega), Option.bind_some]
theorem impl_concatV {a b : List T_impl_Value} (ha : Sm a.length) (hb : Sm b.length) : slices_Concat_impl_Value_impl_Value [a, b] = some (a ++ b) := by
  obtain ⟨F, hF⟩ := fuel3
  have h0 := concatV_l0 F ha hb
  have h1 := concatV_l1 F ha hb
  rw [← hF] at h0 h1
  exact h0.trans h1
end Go.D
set_option linter.unusedVariables false
namespace Go.D
theorem bifSome {α : Type} {c : Bool} {a : Option α} {y : α} (h : (bif c then a else none) = some y) : c = true ∧ a = some y := by
  cases c with
  | false => cases h
  | true => exact ⟨rfl, h⟩
theorem loop_opt {α σ β : Type} {xs : List α} {L : Nat → Int → σ → Option β} (R : List α → σ → Option β) (Inv : Nat → σ → Prop) (hlen : xs.length ≤ 70368744177662)
    (h : ∀ (f i : Nat) (s : σ) (v : α), i < xs.length → xs[i]? = some v → w64 ((i : Int) + 1) = ((i + 1 : Nat) : Int) → Inv i s →
      L (f + 1) i s = R (v :: xs.drop (i + 1)) s ∨ ∃ s', Inv (i + 1) s' ∧ L (f + 1) i s = L f ((i + 1 : Nat) : Int) s' ∧ R (v :: xs.drop (i + 1)) s = R (xs.drop (i + 1)) s')
    (he : ∀ f s, Inv xs.length s → L (f + 1) (xs.length : Int) s = R [] s) {s : σ} (h0 : Inv 0 s) : L FUEL 0 s = R xs s := by
  have main : ∀ (k f i : Nat) (s : σ), i + k = xs.length → k < f → Inv i s → L f (i : Int) s = R (xs.drop i) s := by
    intro k
    induction k with
    | zero =>
      intro f i s hi hf hI
      obtain ⟨f, rfl⟩ : ∃ f', f = f' + 1 := ⟨f - 1, by omega⟩
      have : i = xs.length := by omega
      subst this
      rw [he _ _ hI, List.drop_length]
    | succ k ih =>
      intro f i s hi hf hI
      obtain ⟨f, rfl⟩ : ∃ f', f = f' + 1 := ⟨f - 1, by omega⟩
      have hlt : i < xs.length := by omega
      rw [List.drop_eq_getElem_cons hlt]
      rcases h f i s xs[i] hlt (List.getElem?_eq_getElem hlt) (succ_w hlt (by omega)) hI with h1 | ⟨s', h1, h2, h3⟩
      · exact h1
      · rw [h2, h3]
        exact ih f (i + 1) s' (by omega) (by omega) h1
  have := main xs.length FUEL 0 s (by omega) (by unfold FUEL; omega) h0
  simpa using this
end Go.D
set_option linter.unusedVariables false
namespace Go.D
def N0 : T_impl_Value := T_impl_Value.mk 0 0 (ByteArray.mk #[])
def sumV (a b : T_impl_Value) : T_impl_Value := bif a.fKind == 0 || (b.fKind == 0 || !(inR (w64 (a.fN + b.fN)) (-9999) 9999)) then N0 else ⟨1, w64 (a.fN + b.fN), ByteArray.mk #[]⟩
theorem spec_sum (a b : T_impl_Value) : spec_l4Sum a b = some (sumV a b) := by
  unfold spec_l4Sum sumV spec_l4Sum_j0 N0
  simp only [spec_in, Option.bind_some]
  cases a.fKind == 0 <;> cases b.fKind == 0 <;> cases inR (w64 (a.fN + b.fN)) (-9999) 9999 <;> rfl
def cmpI (a b : Int) : Int := if a < b then -1 else if a > b then 1 else 0
def cmpS (a b : ByteArray) : Int := bif Op.bytesLess a.toList b.toList then -1 else bif !Op.bytesLess a.toList b.toList && !(a.toList == b.toList) then 1 else 0
def ordV (a b : T_impl_Value) : Int := if cmpI a.fKind b.fKind ≠ 0 then cmpI a.fKind b.fKind else if cmpI a.fN b.fN ≠ 0 then cmpI a.fN b.fN else cmpS a.fS b.fS
theorem impl_cmpI (a b : Int) : cmp_Compare_int a b = some (cmpI a b) := by
  unfold cmp_Compare_int cmp_isNaN_int cmpI
  simp only [beq_self_eq_true, Bool.not_true, Option.bind_some, cond_false]
  by_cases h : a < b
  · simp [h]
  · by_cases h2 : a > b
    · simp [h, h2]
    · simp [h, h2]
theorem impl_cmpS (a b : ByteArray) : cmp_Compare_string a b = some (cmpS a b) := by
  unfold cmp_Compare_string cmp_isNaN_string cmpS
  simp only [beq_self_eq_true, Bool.not_true, Option.bind_some, cond_false]
  cases Op.bytesLess a.toList b.toList <;> cases a.toList == b.toList <;> rfl
theorem fuel4 : ∃ F, FUEL = F + 1 + 1 + 1 + 1 := by
  have h : 4 ≤ FUEL := by unfold FUEL; omega
  exact ⟨FUEL - 4, by omega⟩
theorem impl_or3 (a b c : Int) : cmp_Or_int [a, b, c] = some (if a ≠ 0 then a else if b ≠ 0 then b else c) := by
  obtain ⟨F, hF⟩ := fuel4
  unfold cmp_Or_int
  rw [hF]
  have w3 : w64 (0 + 1) = 1 := w64_of (by omega) (by omega)
  have w4 : w64 (1 + 1) = 2 := w64_of (by omega) (by omega)
  have w5 : w64 (2 + 1) = 3 := w64_of (by omega) (by omega)
  have i0 : getI [a, b, c] 0 = some a := rfl
  have i1 : getI [a, b, c] 1 = some b := rfl
  have i2 : getI [a, b, c] 2 = some c := rfl
  have l0 : decide ((0 : Int) < (([a, b, c] : List Int).length : Int)) = true := rfl
  have l1 : decide ((1 : Int) < (([a, b, c] : List Int).length : Int)) = true := rfl
  have l2 : decide ((2 : Int) < (([a, b, c] : List Int).length : Int)) = true := rfl
  have l3 : decide ((3 : Int) < (([a, b, c] : List Int).length : Int)) = false := rfl
  rw [cmp_Or_int_l0, l0, cond_true, i0, Option.bind_some, w3, cmp_Or_int_l0, l1, cond_true, i1, Option.bind_some, w4, cmp_Or_int_l0, l2, cond_true, i2, Option.bind_some, w5, cmp_Or_int_l0, l3, cond_false]
  have bf : ∀ {x : Int}, ¬ x = 0 → (x == 0) = false := fun h => by simp [h]
  by_cases ha : a = 0
  · subst ha
    by_cases hb : b = 0
    · subst hb
      by_cases hc : c = 0
      · subst hc
        rfl
      · rw [bf hc]
        simp
    · rw [bf hb]
      simp [hb]
  · rw [bf ha]
    simp [ha]
theorem impl_ord (a b : T_impl_Value) : impl_Value_order a b = some (ordV a b) := by
  unfold impl_Value_order
  simp only [impl_cmpI, impl_cmpS, impl_or3, Option.bind_some, ordV]
theorem spec_less (a b : Int) : (bif !(a == b) then (spec_l1Less b a).bind fun v => some (w64 (w64 (2 * v) - 1)) else none) = (if a = b then none else some (cmpI a b)) := by
  have w1 : w64 (w64 (2 * 1) - 1) = 1 := by rw [w64_of (n := 2 * 1) (by omega) (by omega), w64_of] <;> omega
  have w0 : w64 (w64 (2 * 0) - 1) = -1 := by rw [w64_of (n := 2 * 0) (by omega) (by omega), w64_of] <;> omega
  unfold spec_l1Less cmpI
  by_cases h : a = b
  · simp [h]
  · have e : (a == b) = false := by simp [h]
    rw [e, if_neg h, Bool.not_false, cond_true]
    by_cases h1 : b < a
    · have : ¬ a < b := by omega
      rw [decide_eq_true h1, cond_true, Option.bind_some, w1, if_neg this, if_pos h1]
    · have : a < b := by omega
      rw [decide_eq_false h1, cond_false, Option.bind_some, w0, if_pos this]
theorem cmpI_ne {a b : Int} (h : a ≠ b) : cmpI a b ≠ 0 := by
  unfold cmpI
  split
  · omega
  · split <;> omega
theorem cmpI_eq (a : Int) : cmpI a a = 0 := by simp [cmpI]
theorem spec_ord {a b : T_impl_Value} (sa : SmV a) (sb : SmV b) (ha : valOk a = true) (hb : valOk b = true) : spec_ValueOrder a b = some (ordV a b) := by
  unfold spec_ValueOrder
  rw [spec_value sa, Option.bind_some, spec_value sb, Option.bind_some, ha, hb]
  simp only [Bool.not_true, cond_false, spec_ValueOrder_j0]
  have hk := spec_less a.fKind b.fKind
  have hn := spec_less a.fN b.fN
  unfold ordV
  by_cases h1 : a.fKind = b.fKind
  · rw [if_neg (by rw [h1, cmpI_eq]; simp)]
    by_cases h2 : a.fN = b.fN
    · rw [if_neg (by rw [h2, cmpI_eq]; simp)]
      simp only [h1, h2, beq_self_eq_true, Bool.not_true, cond_false, spec_l1Cmp, cmpS]
      cases Op.bytesLess a.fS.toList b.fS.toList <;> cases a.fS.toList == b.fS.toList <;> rfl
    · rw [if_pos (cmpI_ne h2)]
      rw [if_neg h2] at hn
      have e : (a.fN == b.fN) = false := by simp [h2]
      rw [e] at hn ⊢
      simp only [h1, beq_self_eq_true, Bool.not_true, cond_false]
      exact hn
  · rw [if_pos (cmpI_ne h1)]
    rw [if_neg h1] at hk
    have e : (a.fKind == b.fKind) = false := by simp [h1]
    rw [e] at hk ⊢
    exact hk
def b2i (b : Bool) : Int := bif b then 1 else 0
theorem spec_b2i (b : Bool) : spec_l2Bool b = some (b2i b) := by cases b <;> rfl
theorem impl_b2i (b : Bool) : impl_truthIf b = some (b2i b) := by cases b <;> rfl
def cmpV (n : Int) (a b : T_impl_Value) : Int := bif inR n 1 4 && (valOk a && valOk b) then bif a.fKind == 0 || b.fKind == 0 then 2 else bif !(a.fKind == b.fKind) then -1 else
  bif n == 1 then b2i (ordV a b == 0) else bif n == 2 then b2i (!(ordV a b == 0)) else bif n == 3 then b2i (decide (ordV a b < 0)) else b2i (decide (ordV a b ≤ 0)) else -1
theorem spec_cmp {n : Int} {a b : T_impl_Value} (sa : SmV a) (sb : SmV b) : spec_Compare n a b = some (cmpV n a b) := by
  unfold spec_Compare cmpV
  rw [spec_in, Option.bind_some, spec_value sa, Option.bind_some, spec_value sb, Option.bind_some]
  cases inR n 1 4
  · rfl
  cases ha : valOk a
  · rfl
  cases hb : valOk b
  · rfl
  simp only [Bool.not_true, cond_false, Bool.and_self, cond_true, spec_Compare_j0, spec_Compare_j1, spec_ord sa sb ha hb, Option.bind_some, spec_b2i]
  cases a.fKind == 0 <;> cases b.fKind == 0 <;> cases a.fKind == b.fKind <;> cases n == 1 <;> cases n == 2 <;> cases n == 3 <;> rfl
theorem in14 {n : Int} (h : inR n 1 4 = true) : n = 1 ∨ n = 2 ∨ n = 3 ∨ n = 4 := by
  unfold inR at h
  simp only [Bool.and_eq_true, decide_eq_true_eq] at h
  omega
theorem impl_cmp {n : Int} {a b : T_impl_Value} (sa : SmV a) (sb : SmV b) : impl_Compare n a b = some (cmpV n a b) := by
  unfold impl_Compare cmpV
  rw [impl_in, Option.bind_some, impl_value sa, Option.bind_some, impl_value sb, Option.bind_some]
  cases hi : inR n 1 4
  · rfl
  cases ha : valOk a
  · rfl
  cases hb : valOk b
  · rfl
  simp only [Bool.not_true, cond_false, Bool.and_self, cond_true, impl_Compare_j0, impl_Compare_j1, impl_ord, Option.bind_some, impl_b2i]
  rcases in14 hi with rfl | rfl | rfl | rfl
  · cases a.fKind == 0 <;> cases b.fKind == 0 <;> cases a.fKind == b.fKind <;> cases ordV a b == 0 <;> rfl
  · cases a.fKind == 0 <;> cases b.fKind == 0 <;> cases a.fKind == b.fKind <;> cases ordV a b == 0 <;> rfl
  · cases a.fKind == 0 <;> cases b.fKind == 0 <;> cases a.fKind == b.fKind <;> cases decide (ordV a b < 0) <;> rfl
  · cases a.fKind == 0 <;> cases b.fKind == 0 <;> cases a.fKind == b.fKind <;> cases decide (ordV a b ≤ 0) <;> rfl
def ofV (n : Int) : T_impl_Value := bif inR n 0 1 then ⟨3, n, ByteArray.mk #[]⟩ else N0
theorem in01 (n : Int) : inR n 0 1 = (n == 0 || n == 1) := by
  rw [Bool.eq_iff_iff]
  unfold inR
  simp only [Bool.and_eq_true, decide_eq_true_eq, Bool.or_eq_true, beq_iff_eq]
  omega
theorem spec_of (n : Int) : spec_ValueOf n = some (ofV n) := by
  unfold spec_ValueOf spec_ValueOf_j0 ofV N0
  rw [in01]
  cases n == 0 <;> cases n == 1 <;> rfl
theorem impl_of (n : Int) : impl_ValueOf n = some (ofV n) := by
  unfold impl_ValueOf ofV N0
  rw [impl_in, Option.bind_some]
  cases inR n 0 1 <;> rfl
theorem ok_kinds {v : T_impl_Value} (h : valOk v = true) : v.fKind = 0 ∨ v.fKind = 1 ∨ v.fKind = 2 ∨ v.fKind = 3 := by
  unfold valOk at h
  cases h0 : v.fKind == 0
  · cases h1 : v.fKind == 1
    · cases h2 : v.fKind == 2
      · cases h3 : v.fKind == 3
        · rw [h0, h1, h2, h3] at h
          cases h
        · exact .inr (.inr (.inr (by simpa using h3)))
      · exact .inr (.inr (.inl (by simpa using h2)))
    · exact .inr (.inl (by simpa using h1))
  · exact .inl (by simpa using h0)
def truV (v : T_impl_Value) : Int := bif valOk v then bif v.fKind == 0 then 2 else bif v.fKind == 3 then v.fN else -1 else -1
theorem impl_tru {v : T_impl_Value} (h : SmV v) : impl_TruthOf v = some (truV v) := by
  unfold impl_TruthOf truV
  rw [impl_value h, Option.bind_some]
  cases valOk v <;> cases v.fKind == 0 <;> cases v.fKind == 3 <;> rfl
theorem spec_tru {v : T_impl_Value} (h : SmV v) : spec_TruthOf v = some (truV v) := by
  unfold spec_TruthOf truV
  rw [spec_value h, Option.bind_some]
  cases hv : valOk v
  · rfl
  obtain ⟨k, n, s⟩ := v
  rcases ok_kinds hv with h | h | h | h <;> simp only at h <;> subst h <;> rfl
theorem in02 {n : Int} (h : inR n 0 2 = true) : n = 0 ∨ n = 1 ∨ n = 2 := by
  unfold inR at h
  simp only [Bool.and_eq_true, decide_eq_true_eq] at h
  omega
def andV (a b : Int) : Int := (impl_AndOf a b).getD 0
def orV (a b : Int) : Int := (impl_OrOf a b).getD 0
def notV (a : Int) : Int := (impl_NotOf a).getD 0
theorem and_both (a b : Int) : spec_AndOf a b = some (andV a b) ∧ impl_AndOf a b = some (andV a b) := by
  unfold andV impl_AndOf spec_AndOf impl_fold spec_TruthOk impl_TruthOk
  simp only [spec_in, impl_in, Option.bind_some]
  cases ha : inR a 0 2
  · exact ⟨rfl, rfl⟩
  cases hb : inR b 0 2
  · exact ⟨rfl, rfl⟩
  rcases in02 ha with rfl | rfl | rfl <;> rcases in02 hb with rfl | rfl | rfl <;> exact ⟨by decide, by decide⟩
theorem or_both (a b : Int) : spec_OrOf a b = some (orV a b) ∧ impl_OrOf a b = some (orV a b) := by
  unfold orV impl_OrOf spec_OrOf impl_fold spec_TruthOk impl_TruthOk
  simp only [spec_in, impl_in, Option.bind_some]
  cases ha : inR a 0 2
  · exact ⟨rfl, rfl⟩
  cases hb : inR b 0 2
  · exact ⟨rfl, rfl⟩
  rcases in02 ha with rfl | rfl | rfl <;> rcases in02 hb with rfl | rfl | rfl <;> exact ⟨by decide, by decide⟩
theorem not_both (a : Int) : spec_NotOf a = some (notV a) ∧ impl_NotOf a = some (notV a) := by
  unfold notV spec_NotOf spec_TruthOk
  simp only [spec_in, Option.bind_some]
  cases ha : inR a 0 2
  · have h0 : (a == 0) = false := by
      cases h : a == 0 <;> simp_all [inR]
    have h1 : (a == 1) = false := by
      cases h : a == 1 <;> simp_all [inR]
    have h2 : (a == 2) = false := by
      cases h : a == 2 <;> simp_all [inR]
    unfold impl_NotOf
    rw [h0, h1, h2]
    exact ⟨rfl, rfl⟩
  rcases in02 ha with rfl | rfl | rfl <;> exact ⟨by decide, by decide⟩
end Go.D
set_option linter.unusedVariables false
namespace Go.D
def valStep (row st : List T_impl_Value) (p : T_impl_Part) : Option (List T_impl_Value) :=
  if p.fKind = 1 then some (p.fV :: st)
  else if p.fKind = 2 then (getI row p.fN).map fun v => v :: st
  else if p.fKind = 3 then (match st with | b :: a :: r => some (sumV a b :: r) | _ => none)
  else if p.fKind = 4 then (match st with | b :: a :: r => some (ofV (cmpV p.fN a b) :: r) | _ => none)
  else if p.fKind = 5 then (match st with | b :: a :: r => some (ofV (andV (truV a) (truV b)) :: r) | _ => none)
  else if p.fKind = 6 then (match st with | b :: a :: r => some (ofV (orV (truV a) (truV b)) :: r) | _ => none)
  else if p.fKind = 7 then (match st with | b :: r => some (ofV (notV (truV b)) :: r) | _ => none)
  else if p.fKind = 8 then (match st with | b :: r => some (ofV (b2i (b.fKind == 0)) :: r) | _ => none)
  else none
theorem sm_empty : Sm (ByteArray.mk #[]).size := by
  have : (ByteArray.mk #[]).size = 0 := rfl
  omega
theorem sm_sum (a b : T_impl_Value) : SmV (sumV a b) := by
  unfold sumV N0
  cases a.fKind == 0 || (b.fKind == 0 || !(inR (w64 (a.fN + b.fN)) (-9999) 9999)) <;> exact sm_empty
theorem sm_of (n : Int) : SmV (ofV n) := by
  unfold ofV N0
  cases inR n 0 1 <;> exact sm_empty
theorem v2 {rs : List Int} {st : List T_impl_Value} {b a : Int} {r : List Int} (h : rs.length = st.length) (hr : rs = b :: a :: r) : ∃ y x t, st = y :: x :: t ∧ r.length = t.length := by
  subst hr
  match st, h with
  | y :: x :: t, h => exact ⟨y, x, t, rfl, by simpa using h⟩
theorem v1 {rs : List Int} {st : List T_impl_Value} {b : Int} {r : List Int} (h : rs.length = st.length) (hr : rs = b :: r) : ∃ y t, st = y :: t ∧ r.length = t.length := by
  subst hr
  match st, h with
  | y :: t, h => exact ⟨y, t, rfl, by simpa using h⟩
structure Went (cs : List T_impl_Column) (row st : List T_impl_Value) (p : T_impl_Part) (ks' : List Int) : Prop where
  go : ∃ st', valStep row st p = some st' ∧ ks'.length = st'.length ∧ (∀ v ∈ st', SmV v) ∧ spec_l4Do row st.reverse p = some st'.reverse ∧
    ((impl_Part_takes p).bind fun v10 => (slI st.reverse (some ((w64 (((st.reverse.length : Int)) - v10)))) none none).bind fun v12 => (impl_Part_value p row v12).bind fun v14 => (slI st.reverse none (some ((w64 (((st.reverse.length : Int)) - v10)))) none).bind fun v16 => appT st.reverse (([v14] : List T_impl_Value)) v16.length) = some st'.reverse
theorem sm_cons {v : T_impl_Value} {st t : List T_impl_Value} (hv : SmV v) (h : ∀ v ∈ st, SmV v) (ht : ∀ v ∈ t, v ∈ st) : ∀ u ∈ v :: t, SmV u := by
  intro u hu
  rcases List.mem_cons.1 hu with rfl | hu
  · exact hv
  · exact h u (ht u hu)
section
variable {α : Type} {xs : List α} (h : xs.length ≤ 2097152)
include h
theorem preA : slI xs none (some (w64 ((xs.length : Int) - 0))) none = some xs := by
  rw [len0 h]
  have := sl_pre (ys := []) h rfl
  rwa [List.append_nil] at this
theorem postA : slI xs (some (w64 ((xs.length : Int) - 0))) none none = some [] := by
  rw [len0 h]
  have := sl_post (ys := []) h rfl
  rwa [List.append_nil] at this
theorem apA (k : α) : appT xs [k] xs.length = some (xs ++ [k]) := by
  have := ap_pre (ys := []) h k
  rwa [List.append_nil] at this
end
theorem ga {α : Type} (a b : α) : getI [a, b] 0 = some a := rfl
theorem gb {α : Type} (a b : α) : getI [a, b] 1 = some b := rfl
theorem gc {α : Type} (a : α) : getI [a] 0 = some a := rfl
theorem val_sum (a b : T_impl_Value) : (bif a.fKind == 0 then impl_Part_value_j0 a b true else bif b.fKind == 0 then impl_Part_value_j0 a b true else (impl_Value_ok ((T_impl_Value.mk 1 ((w64 (a.fN + b.fN))) (ByteArray.mk #[])))).bind fun v16 => impl_Part_value_j0 a b ((!v16))) = some (sumV a b) := by
  rw [impl_value (v := T_impl_Value.mk 1 ((w64 (a.fN + b.fN))) (ByteArray.mk #[])) sm_empty, Option.bind_some]
  have e : valOk (T_impl_Value.mk 1 ((w64 (a.fN + b.fN))) (ByteArray.mk #[])) = inR (w64 (a.fN + b.fN)) (-9999) 9999 := by
    unfold valOk
    have : ((1 : Int) == 0) = false := rfl
    simp only [this, beq_self_eq_true, cond_false, cond_true, Bool.and_true]
  rw [e]
  unfold sumV impl_Part_value_j0 N0
  cases a.fKind == 0 <;> cases b.fKind == 0 <;> cases inR (w64 (a.fN + b.fN)) (-9999) 9999 <;> rfl
theorem went {cs : List T_impl_Column} {row st : List T_impl_Value} {rs ks' : List Int} {p : T_impl_Part} (he : exprStep cs rs p = some ks') (hl : rs.length = st.length) (hs : st.length ≤ 2000000) (hc : row.length = cs.length)
    (hr : SmR row) (hst : ∀ v ∈ st, SmV v) (hp : SmP p) : Went cs row st p ks' := by
  obtain ⟨k, n, v⟩ := p
  have hx0 : st.reverse.length ≤ 2097152 := by rw [List.length_reverse]; omega
  rcases kind_cases k with rfl | rfl | rfl | rfl | rfl | rfl | rfl | rfl | hk
  · obtain ⟨_, h2⟩ := bifSome he
    have h2 := Option.some.inj h2
    subst h2
    refine ⟨v :: st, rfl, by simp [hl], sm_cons hp hst (fun _ h => h), ?_, ?_⟩
    · have ha : app st.reverse [v] = some (st.reverse ++ [v]) := app_lt (by rw [List.length_reverse]; simp; omega)
      simp only [spec_l4Do, ha, Option.bind_some, beq_self_eq_true, cond_true, List.reverse_cons]
    · simp [-List.length_reverse, -Int.sub_zero, impl_Part_takes, impl_Part_takes_j0, impl_Part_takes_j1, impl_Part_value, preA hx0, postA hx0, apA hx0]
  · obtain ⟨h1, h2⟩ := bifSome he
    simp only [Bool.and_eq_true] at h1
    have hi := h1.2
    unfold inR at hi
    simp only [Bool.and_eq_true, decide_eq_true_eq] at hi
    obtain ⟨c, hc1, hc2⟩ := getI_lt (xs := row) hi.1 (by omega)
    rw [Option.map_eq_some_iff] at h2
    obtain ⟨c', _, rfl⟩ := h2
    refine ⟨c :: st, ?_, by simp [hl], sm_cons (hr.2 c (List.mem_of_getElem? hc2)) hst (fun _ h => h), ?_, ?_⟩
    · simp [valStep, hc1]
    · have ha : app st.reverse [c] = some (st.reverse ++ [c]) := app_lt (by rw [List.length_reverse]; simp; omega)
      simp [spec_l4Do, hc1, ha]
    · simp [-List.length_reverse, -Int.sub_zero, impl_Part_takes, impl_Part_takes_j0, impl_Part_takes_j1, impl_Part_value, preA hx0, postA hx0, apA hx0, hc1]
  · obtain ⟨_, h2⟩ := bifSome he
    split at h2
    · next b' a' r' =>
      obtain ⟨_, h2⟩ := bifSome h2
      have h2 := Option.some.inj h2
      subst h2
      obtain ⟨b, a, t, rfl, ht⟩ := v2 hl rfl
      have hx : t.reverse.length ≤ 2097152 := by simp at hs ⊢; omega
      refine ⟨sumV a b :: t, rfl, by simp [ht], sm_cons (sm_sum a b) hst (fun u hu => by simp [hu]), ?_, ?_⟩
      · simp [-List.length_reverse, -Int.sub_zero, -List.length_append, -List.length_cons, -List.length_nil, spec_l4Do, rev2, g1 hx, len2 hx, g2, sl_pre hx rfl, ap_pre hx, spec_sum]
      · simp [-List.length_reverse, -Int.sub_zero, -List.length_append, -List.length_cons, -List.length_nil, impl_Part_takes, impl_Part_takes_j0, impl_Part_value, rev2, len2 hx, sl_pre hx rfl, sl_post hx rfl, ap_pre hx, ga, gb, val_sum]
    · cases h2
  · obtain ⟨_, h2⟩ := bifSome he
    split at h2
    · next b' a' r' =>
      obtain ⟨_, h2⟩ := bifSome h2
      have h2 := Option.some.inj h2
      subst h2
      obtain ⟨b, a, t, rfl, ht⟩ := v2 hl rfl
      have hx : t.reverse.length ≤ 2097152 := by simp at hs ⊢; omega
      have sa : SmV a := hst a (by simp)
      have sb : SmV b := hst b (by simp)
      refine ⟨ofV (cmpV n a b) :: t, rfl, by simp [ht], sm_cons (sm_of _) hst (fun u hu => by simp [hu]), ?_, ?_⟩
      · simp [-List.length_reverse, -Int.sub_zero, -List.length_append, -List.length_cons, -List.length_nil, spec_l4Do, rev2, g1 hx, len2 hx, g2, sl_pre hx rfl, ap_pre hx, spec_cmp sa sb, spec_of]
      · simp [-List.length_reverse, -Int.sub_zero, -List.length_append, -List.length_cons, -List.length_nil, impl_Part_takes, impl_Part_takes_j0, impl_Part_value, rev2, len2 hx, sl_pre hx rfl, sl_post hx rfl, ap_pre hx, ga, gb, impl_cmp sa sb, impl_of]
    · cases h2
  · obtain ⟨_, h2⟩ := bifSome he
    split at h2
    · next b' a' r' =>
      obtain ⟨_, h2⟩ := bifSome h2
      have h2 := Option.some.inj h2
      subst h2
      obtain ⟨b, a, t, rfl, ht⟩ := v2 hl rfl
      have hx : t.reverse.length ≤ 2097152 := by simp at hs ⊢; omega
      have sa : SmV a := hst a (by simp)
      have sb : SmV b := hst b (by simp)
      refine ⟨ofV (andV (truV a) (truV b)) :: t, rfl, by simp [ht], sm_cons (sm_of _) hst (fun u hu => by simp [hu]), ?_, ?_⟩
      · simp [-List.length_reverse, -Int.sub_zero, -List.length_append, -List.length_cons, -List.length_nil, spec_l4Do, rev2, g1 hx, len2 hx, g2, sl_pre hx rfl, ap_pre hx, spec_tru sa, spec_tru sb, (and_both _ _).1, spec_of]
      · simp [-List.length_reverse, -Int.sub_zero, -List.length_append, -List.length_cons, -List.length_nil, impl_Part_takes, impl_Part_takes_j0, impl_Part_value, rev2, len2 hx, sl_pre hx rfl, sl_post hx rfl, ap_pre hx, ga, gb, impl_tru sa, impl_tru sb, (and_both _ _).2, impl_of]
    · cases h2
  · obtain ⟨_, h2⟩ := bifSome he
    split at h2
    · next b' a' r' =>
      obtain ⟨_, h2⟩ := bifSome h2
      have h2 := Option.some.inj h2
      subst h2
      obtain ⟨b, a, t, rfl, ht⟩ := v2 hl rfl
      have hx : t.reverse.length ≤ 2097152 := by simp at hs ⊢; omega
      have sa : SmV a := hst a (by simp)
      have sb : SmV b := hst b (by simp)
      refine ⟨ofV (orV (truV a) (truV b)) :: t, rfl, by simp [ht], sm_cons (sm_of _) hst (fun u hu => by simp [hu]), ?_, ?_⟩
      · simp [-List.length_reverse, -Int.sub_zero, -List.length_append, -List.length_cons, -List.length_nil, spec_l4Do, rev2, g1 hx, len2 hx, g2, sl_pre hx rfl, ap_pre hx, spec_tru sa, spec_tru sb, (or_both _ _).1, spec_of]
      · simp [-List.length_reverse, -Int.sub_zero, -List.length_append, -List.length_cons, -List.length_nil, impl_Part_takes, impl_Part_takes_j0, impl_Part_value, rev2, len2 hx, sl_pre hx rfl, sl_post hx rfl, ap_pre hx, ga, gb, impl_tru sa, impl_tru sb, (or_both _ _).2, impl_of]
    · cases h2
  · obtain ⟨_, h2⟩ := bifSome he
    split at h2
    · next b' r' =>
      obtain ⟨_, h2⟩ := bifSome h2
      have h2 := Option.some.inj h2
      subst h2
      obtain ⟨b, t, rfl, ht⟩ := v1 hl rfl
      have hx : t.reverse.length ≤ 2097152 := by simp at hs ⊢; omega
      have sb : SmV b := hst b (by simp)
      refine ⟨ofV (notV (truV b)) :: t, rfl, by simp [ht], sm_cons (sm_of _) hst (fun u hu => by simp [hu]), ?_, ?_⟩
      · simp [-List.length_reverse, -Int.sub_zero, -List.length_append, -List.length_cons, -List.length_nil, spec_l4Do, rev1, len1 hx, g3, sl_pre hx rfl, ap_pre hx, spec_tru sb, (not_both _).1, spec_of]
      · simp [-List.length_reverse, -Int.sub_zero, -List.length_append, -List.length_cons, -List.length_nil, impl_Part_takes, impl_Part_takes_j0, impl_Part_takes_j1, impl_Part_value, rev1, len1 hx, sl_pre hx rfl, sl_post hx rfl, ap_pre hx, gc, impl_tru sb, (not_both _).2, impl_of]
    · cases h2
  · obtain ⟨_, h2⟩ := bifSome he
    split at h2
    · next b' r' =>
      have h2 := Option.some.inj h2
      subst h2
      obtain ⟨b, t, rfl, ht⟩ := v1 hl rfl
      have hx : t.reverse.length ≤ 2097152 := by simp at hs ⊢; omega
      refine ⟨ofV (b2i (b.fKind == 0)) :: t, rfl, by simp [ht], sm_cons (sm_of _) hst (fun u hu => by simp [hu]), ?_, ?_⟩
      · simp [-List.length_reverse, -Int.sub_zero, -List.length_append, -List.length_cons, -List.length_nil, spec_l4Do, rev1, len1 hx, g3, sl_pre hx rfl, ap_pre hx, spec_b2i, spec_of]
      · simp [-List.length_reverse, -Int.sub_zero, -List.length_append, -List.length_cons, -List.length_nil, impl_Part_takes, impl_Part_takes_j0, impl_Part_takes_j1, impl_Part_value, rev1, len1 hx, sl_pre hx rfl, sl_post hx rfl, ap_pre hx, gc, impl_b2i, impl_of]
    · cases h2
  · obtain ⟨h1, h2, h3, h4, h5, h6, h7, h8⟩ := hk
    simp only [exprStep, h1, h2, h3, h4, h5, h6, h7, h8, if_false, or_self] at he
    cases he
def valRun (row : List T_impl_Value) : List T_impl_Part → List T_impl_Value → Option T_impl_Value
  | [], st => getI st.reverse 0
  | p :: ps, st => (valStep row st p).bind fun st' => valRun row ps st'
structure Inv (cs : List T_impl_Column) (ps : List T_impl_Part) (i : Nat) (s : List T_impl_Value) : Prop where
  h : ∃ ks, exprRun cs (ps.drop i) ks = 3 ∧ ks.length = s.length ∧ s.length ≤ i ∧ ∀ v ∈ s, SmV v
theorem Inv.step {cs : List T_impl_Column} {ps : List T_impl_Part} {row : List T_impl_Value} {i : Nat} {s : List T_impl_Value} {p : T_impl_Part} (hI : Inv cs ps i s) (hi : i < ps.length) (hv : ps[i]? = some p) (hl : ps.length ≤ 2000000) (hc : row.length = cs.length) (hr : SmR row) (hp : SmP p) :
    ∃ ks', Went cs row s.reverse p ks' ∧ ∀ st', valStep row s.reverse p = some st' → ks'.length = st'.length → (∀ v ∈ st', SmV v) → Inv cs ps (i + 1) st'.reverse := by
  obtain ⟨ks, h1, h2, h3, h4⟩ := hI.h
  have e : ps.drop i = p :: ps.drop (i + 1) := by
    rw [List.drop_eq_getElem_cons hi]
    rw [List.getElem?_eq_getElem hi] at hv
    rw [Option.some.inj hv]
  rw [e] at h1
  unfold exprRun at h1
  cases he : exprStep cs ks p with
  | none => rw [he] at h1; cases h1
  | some ks' =>
    rw [he] at h1
    have h1 : exprRun cs (ps.drop (i + 1)) ks' = 3 := h1
    refine ⟨ks', went he (by rw [List.length_reverse]; exact h2) (by rw [List.length_reverse]; omega) hc hr (fun v hv => h4 v (List.mem_reverse.1 hv)) hp, fun st' _ hl' hs' => ⟨ks', h1, by rw [List.length_reverse]; exact hl', ?_, fun v hv => hs' v (List.mem_reverse.1 hv)⟩⟩
    have := exprStep_len he
    rw [List.length_reverse]
    omega
def exprVal (row : List T_impl_Value) (ps : List T_impl_Part) : T_impl_Value := (valRun row ps []).getD N0
theorem Inv.fin {cs : List T_impl_Column} {ps : List T_impl_Part} {s : List T_impl_Value} (hI : Inv cs ps ps.length s) : ∃ v, s = [v] := by
  obtain ⟨ks, h1, h2, h3, h4⟩ := hI.h
  rw [List.drop_length] at h1
  unfold exprRun at h1
  split at h1
  · match s, h2 with
    | [v], _ => exact ⟨v, rfl⟩
  · cases h1
theorem run_start {cs : List T_impl_Column} {ps : List T_impl_Part} (h : exprKind cs ps = 3) : exprRun cs ps [] = 3 ∧ colsOk cs = true ∧ ps.length ≤ 12 := by
  unfold exprKind at h
  cases hc : colsOk cs && decide (ps.length ≤ 12) with
  | false => rw [hc] at h; cases h
  | true =>
    rw [hc, cond_true] at h
    simp only [Bool.and_eq_true, decide_eq_true_eq] at hc
    exact ⟨h, hc.1, hc.2⟩
theorem spec_val {cs : List T_impl_Column} {ps : List T_impl_Part} {row : List T_impl_Value} (h : exprKind cs ps = 3) (hc : row.length = cs.length) (hr : SmR row) (hp : ∀ p ∈ ps, SmP p) : ∃ v, valRun row ps [] = some v ∧ spec_l4Value row ps = some v ∧ impl_exprValue row ps = some v := by
  obtain ⟨h1, h2, h3⟩ := run_start h
  have h0 : Inv cs ps 0 [] := ⟨[], h1, rfl, Nat.le_refl _, fun v hv => by cases hv⟩
  have hs : spec_l4Value row ps = valRun row ps [] := by
    have := loop_opt (xs := ps) (L := fun f i (s : List T_impl_Value) => spec_l4Value_l0 row ps f i s) (fun rest s => valRun row rest s.reverse) (Inv cs ps) (by omega)
      (fun f i s v hi hv hw hI => by
        have hlt : (i : Int) < ps.length := by omega
        obtain ⟨ks', ⟨st', e1, e2, e3, e4, _⟩, hn⟩ := hI.step hi hv (by omega) hc hr (hp v (List.mem_of_getElem? hv))
        rw [List.reverse_reverse] at e4
        refine .inr ⟨st'.reverse, hn st' e1 e2 e3, ?_, ?_⟩
        · simp only [spec_l4Value_l0, hlt, decide_true, cond_true, getI_nat, hv, Option.bind_some, e4, hw]
        · simp only [valRun, e1, Option.bind_some, List.reverse_reverse])
      (fun f s hI => by
        obtain ⟨v, rfl⟩ := hI.fin
        simp only [spec_l4Value_l0, Int.lt_irrefl, decide_false, cond_false]
        rfl) h0
    exact this
  have hi : impl_exprValue row ps = valRun row ps [] := by
    have := loop_opt (xs := ps) (L := fun f i (s : List T_impl_Value) => impl_exprValue_l0 row ps f i s) (fun rest s => valRun row rest s.reverse) (Inv cs ps) (by omega)
      (fun f i s v hi hv hw hI => by
        have hlt : (i : Int) < ps.length := by omega
        obtain ⟨ks', ⟨st', e1, e2, e3, _, e5⟩, hn⟩ := hI.step hi hv (by omega) hc hr (hp v (List.mem_of_getElem? hv))
        rw [List.reverse_reverse] at e5
        refine .inr ⟨st'.reverse, hn st' e1 e2 e3, ?_, ?_⟩
        · obtain ⟨x1, g1, e5⟩ := bindS e5
          obtain ⟨x2, g2, e5⟩ := bindS e5
          obtain ⟨x3, g3, e5⟩ := bindS e5
          obtain ⟨x4, g4, e5⟩ := bindS e5
          simp only [impl_exprValue_l0, hlt, decide_true, cond_true, getI_nat, hv, Option.bind_some, g1, g2, g3, g4, e5, hw]
        · simp only [valRun, e1, Option.bind_some, List.reverse_reverse])
      (fun f s hI => by
        obtain ⟨v, rfl⟩ := hI.fin
        simp only [impl_exprValue_l0, Int.lt_irrefl, decide_false, cond_false]
        rfl) h0
    exact this
  have key : ∀ (n i : Nat) (s : List T_impl_Value), i + n = ps.length → Inv cs ps i s → ∃ v, valRun row (ps.drop i) s.reverse = some v := by
    intro n
    induction n with
    | zero =>
      intro i s hi hI
      have : i = ps.length := by omega
      subst this
      obtain ⟨v, rfl⟩ := hI.fin
      rw [List.drop_length]
      exact ⟨v, rfl⟩
    | succ n ih =>
      intro i s hi hI
      have hlt : i < ps.length := by omega
      obtain ⟨ks', ⟨st', e1, e2, e3, _⟩, hn⟩ := hI.step hlt (List.getElem?_eq_getElem hlt) (by omega) hc hr (hp _ (List.getElem_mem hlt))
      obtain ⟨v, hv⟩ := ih (i + 1) st'.reverse (by omega) (hn st' e1 e2 e3)
      refine ⟨v, ?_⟩
      rw [List.drop_eq_getElem_cons hlt, valRun, e1, Option.bind_some]
      rwa [List.reverse_reverse] at hv
  obtain ⟨v, hv⟩ := key ps.length 0 [] (by omega) h0
  have hv : valRun row ps [] = some v := hv
  exact ⟨v, hv, hs.trans hv, hi.trans hv⟩
def holds (row : List T_impl_Value) (ps : List T_impl_Part) : Bool := eq_T_impl_Value (exprVal row ps) (ofV 1)
theorem both_holds {cs : List T_impl_Column} {ps : List T_impl_Part} {row : List T_impl_Value} (h : exprKind cs ps = 3) (hc : row.length = cs.length) (hr : SmR row) (hp : ∀ p ∈ ps, SmP p) : spec_l6Holds row ps = some (holds row ps) ∧ impl_exprHolds row ps = some (holds row ps) := by
  obtain ⟨v, h1, h2, h3⟩ := spec_val h hc hr hp
  unfold spec_l6Holds impl_exprHolds holds exprVal
  rw [h1, h2, h3]
  simp only [Option.bind_some, spec_of, impl_of, Option.getD_some, and_self]
end Go.D
set_option linter.unusedVariables false
namespace Go.D
abbrev F3 := Bool × Bool × Bool
def sf (f : F3) : T_spec_l24Fact := ⟨f.1, f.2.1, f.2.2⟩
def mf (f : F3) : T_impl_must := ⟨f.1, f.2.1, f.2.2⟩
def fAnd (a b : F3) : F3 := ((a.2.1 || b.2.1) && (a.2.2 && b.2.2), a.2.1 || b.2.1, a.2.2 && b.2.2)
def fOr (a b : F3) : F3 := ((a.2.1 && b.2.1) && (a.2.2 || b.2.2), a.2.1 && b.2.1, a.2.2 || b.2.2)
def fAll (b : Bool) : F3 := (b, b, b)
def fStep (frm : Int) (st : List F3) (p : T_impl_Part) : Option (List F3) :=
  if p.fKind = 1 then some ((false, p.fV.fKind == 3 && p.fV.fN == 0, p.fV.fKind == 3 && p.fV.fN == 1) :: st)
  else if p.fKind = 2 then some (fAll (decide (p.fN ≥ frm)) :: st)
  else if p.fKind = 3 then (match st with | b :: a :: r => some (fAll (a.1 || b.1) :: r) | _ => none)
  else if p.fKind = 4 then (match st with | b :: a :: r => some (fAll (a.1 || b.1) :: r) | _ => none)
  else if p.fKind = 5 then (match st with | b :: a :: r => some (fAnd a b :: r) | _ => none)
  else if p.fKind = 6 then (match st with | b :: a :: r => some (fOr a b :: r) | _ => none)
  else if p.fKind = 7 then (match st with | b :: r => some ((b.1, b.2.2, b.2.1) :: r) | _ => none)
  else if p.fKind = 8 then (match st with | b :: r => some ((false, false, b.1) :: r) | _ => none)
  else none
theorem fv2 {rs : List Int} {st : List F3} {b a : Int} {r : List Int} (h : rs.length = st.length) (hr : rs = b :: a :: r) : ∃ y x t, st = y :: x :: t ∧ r.length = t.length := by
  subst hr
  match st, h with
  | y :: x :: t, h => exact ⟨y, x, t, rfl, by simpa using h⟩
theorem fv1 {rs : List Int} {st : List F3} {b : Int} {r : List Int} (h : rs.length = st.length) (hr : rs = b :: r) : ∃ y t, st = y :: t ∧ r.length = t.length := by
  subst hr
  match st, h with
  | y :: t, h => exact ⟨y, t, rfl, by simpa using h⟩
structure WentF (frm : Int) (st : List F3) (p : T_impl_Part) (ks' : List Int) : Prop where
  go : ∃ st', fStep frm st p = some st' ∧ ks'.length = st'.length ∧ spec_l24Next (st.reverse.map sf) p frm = some (st'.reverse.map sf) ∧
    ((impl_Part_takes p).bind fun v12 => (slI (st.reverse.map mf) (some ((w64 ((((st.reverse.map mf).length : Int)) - v12)))) none none).bind fun v14 => (impl_Part_find p v14 frm).bind fun v16 => (slI (st.reverse.map mf) none (some ((w64 ((((st.reverse.map mf).length : Int)) - v12)))) none).bind fun v18 => appT (st.reverse.map mf) (([v16] : List T_impl_must)) v18.length) = some (st'.reverse.map mf)
theorem revm2 {α β : Type} (g : α → β) (a b : α) (r : List α) : (b :: a :: r).reverse.map g = r.reverse.map g ++ [g a, g b] := by simp
theorem revm1 {α β : Type} (g : α → β) (b : α) (r : List α) : (b :: r).reverse.map g = r.reverse.map g ++ [g b] := by simp
theorem empty_of {v : T_impl_Value} (h : valOk v = true) (hk : v.fKind = 3) : v.fS.toList = (ByteArray.mk #[]).toList := by
  unfold valOk at h
  rw [hk] at h
  simp only [show ((3 : Int) == 0) = false from rfl, show ((3 : Int) == 1) = false from rfl, show ((3 : Int) == 2) = false from rfl, cond_false, beq_self_eq_true, cond_true, Bool.and_eq_true, beq_iff_eq] at h
  exact h.2
theorem eq_of_truth {v : T_impl_Value} {n : Int} (h : valOk v = true) (hn : n = 0 ∨ n = 1) : eq_T_impl_Value v (ofV n) = (v.fKind == 3 && v.fN == n) := by
  have e : ofV n = ⟨3, n, ByteArray.mk #[]⟩ := by
    unfold ofV
    rcases hn with rfl | rfl <;> rfl
  rw [e]
  simp only [eq_T_impl_Value, andB]
  cases hk : v.fKind == 3 with
  | false => rfl
  | true =>
    have := empty_of h (by simpa using hk)
    rw [this, beq_self_eq_true, Bool.and_true]
theorem find_two (k n : Int) (v : T_impl_Value) (a b : F3) (frm : Int) : (k = 3 ∨ k = 4 → impl_Part_find ⟨k, n, v⟩ [mf a, mf b] frm = some (mf (fAll (a.1 || b.1)))) ∧ (k = 5 → impl_Part_find ⟨k, n, v⟩ [mf a, mf b] frm = some (mf (fAnd a b))) ∧ (k = 6 → impl_Part_find ⟨k, n, v⟩ [mf a, mf b] frm = some (mf (fOr a b))) := by
  have i0 : getI [mf a, mf b] 0 = some (mf a) := rfl
  have i1 : getI [mf a, mf b] 1 = some (mf b) := rfl
  refine ⟨fun h => ?_, fun h => ?_, fun h => ?_⟩
  · rcases h with rfl | rfl
    · simp only [impl_Part_find, show ((3 : Int) == 1) = false from rfl, show ((3 : Int) == 2) = false from rfl, beq_self_eq_true, cond_false, cond_true, impl_Part_find_j0, i0, i1, Option.bind_some, impl_Part_find_j1]
      obtain ⟨a1, a2⟩ := a
      cases a1 <;> rfl
    · simp only [impl_Part_find, show ((4 : Int) == 1) = false from rfl, show ((4 : Int) == 2) = false from rfl, show ((4 : Int) == 3) = false from rfl, beq_self_eq_true, cond_false, cond_true, impl_Part_find_j0, i0, i1, Option.bind_some, impl_Part_find_j1]
      obtain ⟨a1, a2⟩ := a
      cases a1 <;> rfl
  · subst h
    simp only [impl_Part_find, show ((5 : Int) == 1) = false from rfl, show ((5 : Int) == 2) = false from rfl, show ((5 : Int) == 3) = false from rfl, show ((5 : Int) == 4) = false from rfl, beq_self_eq_true, cond_false, cond_true, impl_Part_find_j0, i0, i1, Option.bind_some, impl_Part_find_j2]
    obtain ⟨a1, a2, a3⟩ := a
    obtain ⟨b1, b2, b3⟩ := b
    cases a2 <;> cases a3 <;> cases b2 <;> cases b3 <;> rfl
  · subst h
    simp only [impl_Part_find, show ((6 : Int) == 1) = false from rfl, show ((6 : Int) == 2) = false from rfl, show ((6 : Int) == 3) = false from rfl, show ((6 : Int) == 4) = false from rfl, show ((6 : Int) == 5) = false from rfl, beq_self_eq_true, cond_false, cond_true, impl_Part_find_j0, i0, i1, Option.bind_some, impl_Part_find_j5]
    obtain ⟨a1, a2, a3⟩ := a
    obtain ⟨b1, b2, b3⟩ := b
    cases a2 <;> cases a3 <;> cases b2 <;> cases b3 <;> rfl
theorem find_one (n : Int) (v : T_impl_Value) (b : F3) (frm : Int) : impl_Part_find ⟨7, n, v⟩ [mf b] frm = some (mf (b.1, b.2.2, b.2.1)) ∧ impl_Part_find ⟨8, n, v⟩ [mf b] frm = some (mf (false, false, b.1)) := ⟨rfl, rfl⟩
section
variable {xs : List T_spec_l24Fact} (h : xs.length ≤ 2097152) (a b : F3)
include h
theorem next_two (n : Int) (v : T_impl_Value) (frm : Int) (k : Int) : (k = 3 ∨ k = 4 → spec_l24Next (xs ++ [sf a, sf b]) ⟨k, n, v⟩ frm = some (xs ++ [sf (fAll (a.1 || b.1))])) ∧ (k = 5 → spec_l24Next (xs ++ [sf a, sf b]) ⟨k, n, v⟩ frm = some (xs ++ [sf (fAnd a b)])) ∧ (k = 6 → spec_l24Next (xs ++ [sf a, sf b]) ⟨k, n, v⟩ frm = some (xs ++ [sf (fOr a b)])) := by
  have e1 : getI (xs ++ [sf a, sf b]) (w64 (((xs ++ [sf a, sf b]).length : Int) - 1)) = some (sf b) := g1 h _ _
  have e2 : getI (xs ++ [sf a, sf b]) (w64 (((xs ++ [sf a, sf b]).length : Int) - 2)) = some (sf a) := by rw [len2 h]; exact g2 _ _
  have e3 : slI (xs ++ [sf a, sf b]) none (some (w64 (((xs ++ [sf a, sf b]).length : Int) - 2))) none = some xs := by rw [len2 h]; exact sl_pre h rfl
  have e4 : ∀ k, appT (xs ++ [sf a, sf b]) [k] xs.length = some (xs ++ [k]) := fun k => ap_pre h k
  refine ⟨fun hk => ?_, fun hk => ?_, fun hk => ?_⟩
  · have : spec_l24Next_j2 (xs ++ [sf a, sf b]) ⟨k, n, v⟩ true = some (xs ++ [sf (fAll (a.1 || b.1))]) := by
      simp only [spec_l24Next_j2, cond_true, e1, e2, Option.bind_some, spec_l24Next_j3, e3, e4]
      obtain ⟨a1, a2⟩ := a
      obtain ⟨b1, b2⟩ := b
      cases a1 <;> cases b1 <;> rfl
    rcases hk with rfl | rfl
    · exact this
    · exact this
  · subst hk
    simp only [spec_l24Next, show ((5 : Int) == 1) = false from rfl, show ((5 : Int) == 2) = false from rfl, show ((5 : Int) == 3) = false from rfl, show ((5 : Int) == 4) = false from rfl, beq_self_eq_true, cond_false, cond_true, spec_l24Next_j2, e1, e2, Option.bind_some, spec_l24Next_j4, spec_l24Next_j5, spec_l24Next_j6, e3, e4]
    obtain ⟨a1, a2, a3⟩ := a
    obtain ⟨b1, b2, b3⟩ := b
    cases a2 <;> cases a3 <;> cases b2 <;> cases b3 <;> rfl
  · subst hk
    simp only [spec_l24Next, show ((6 : Int) == 1) = false from rfl, show ((6 : Int) == 2) = false from rfl, show ((6 : Int) == 3) = false from rfl, show ((6 : Int) == 4) = false from rfl, show ((6 : Int) == 5) = false from rfl, beq_self_eq_true, cond_false, cond_true, spec_l24Next_j2, e1, e2, Option.bind_some, spec_l24Next_j7, spec_l24Next_j8, spec_l24Next_j9, e3, e4]
    obtain ⟨a1, a2, a3⟩ := a
    obtain ⟨b1, b2, b3⟩ := b
    cases a2 <;> cases a3 <;> cases b2 <;> cases b3 <;> rfl
theorem next_one (n : Int) (v : T_impl_Value) (frm : Int) : spec_l24Next (xs ++ [sf b]) ⟨7, n, v⟩ frm = some (xs ++ [sf (b.1, b.2.2, b.2.1)]) ∧ spec_l24Next (xs ++ [sf b]) ⟨8, n, v⟩ frm = some (xs ++ [sf (false, false, b.1)]) := by
  have e1 : getI (xs ++ [sf b]) (w64 (((xs ++ [sf b]).length : Int) - 1)) = some (sf b) := by rw [len1 h]; exact g3 _
  have e3 : slI (xs ++ [sf b]) none (some (w64 (((xs ++ [sf b]).length : Int) - 1))) none = some xs := by rw [len1 h]; exact sl_pre h rfl
  have e4 : ∀ k, appT (xs ++ [sf b]) [k] xs.length = some (xs ++ [k]) := fun k => ap_pre h k
  refine ⟨?_, ?_⟩
  · simp only [spec_l24Next, show ((7 : Int) == 1) = false from rfl, show ((7 : Int) == 2) = false from rfl, show ((7 : Int) == 3) = false from rfl, show ((7 : Int) == 4) = false from rfl, show ((7 : Int) == 5) = false from rfl, show ((7 : Int) == 6) = false from rfl, beq_self_eq_true, cond_false, cond_true, spec_l24Next_j2, e1, Option.bind_some, e3, e4]
    rfl
  · simp only [spec_l24Next, show ((8 : Int) == 1) = false from rfl, show ((8 : Int) == 2) = false from rfl, show ((8 : Int) == 3) = false from rfl, show ((8 : Int) == 4) = false from rfl, show ((8 : Int) == 5) = false from rfl, show ((8 : Int) == 6) = false from rfl, show ((8 : Int) == 7) = false from rfl, cond_false, spec_l24Next_j2, e1, Option.bind_some, e3, e4]
    rfl
end
theorem wentF {cs : List T_impl_Column} {st : List F3} {rs ks' : List Int} {p : T_impl_Part} (frm : Int) (he : exprStep cs rs p = some ks') (hl : rs.length = st.length) (hs : st.length ≤ 2000000) : WentF frm st p ks' := by
  obtain ⟨k, n, v⟩ := p
  have hx0 : (st.reverse.map mf).length ≤ 2097152 := by rw [List.length_map, List.length_reverse]; omega
  rcases kind_cases k with rfl | rfl | rfl | rfl | rfl | rfl | rfl | rfl | hk
  · obtain ⟨h1, h2⟩ := bifSome he
    have h2 := Option.some.inj h2
    subst h2
    simp only [Bool.and_eq_true] at h1
    have hv := h1.2.1
    have e0 := eq_of_truth (n := 0) hv (.inl rfl)
    have e1 := eq_of_truth (n := 1) hv (.inr rfl)
    refine ⟨_, rfl, by simp [hl], ?_, ?_⟩
    · have ha : ∀ f : F3, app (st.reverse.map sf) [sf f] = some ((f :: st).reverse.map sf) := fun f => by
        rw [app_lt (by rw [List.length_map, List.length_reverse]; simp; omega)]; simp
      simp only [spec_l24Next, beq_self_eq_true, cond_true, spec_l24Next_j0, spec_l24Next_j1]
      cases v.fKind == 3
      · simp only [cond_false, Bool.false_and]
        exact (by rw [show (T_spec_l24Fact.mk false false false) = sf (false, false, false) from rfl, ha]; rfl)
      · simp only [cond_true, Bool.true_and]
        exact (by rw [show (T_spec_l24Fact.mk false (v.fN == 0) (v.fN == 1)) = sf (false, v.fN == 0, v.fN == 1) from rfl, ha]; rfl)
    · have hf : impl_Part_find ⟨1, n, v⟩ [] frm = some (mf (false, v.fKind == 3 && v.fN == 0, v.fKind == 3 && v.fN == 1)) := by
        simp only [impl_Part_find, beq_self_eq_true, cond_true, impl_of, Option.bind_some, e0, e1]
        rfl
      simp [-List.length_reverse, -List.length_map, -List.map_reverse, -Int.sub_zero, impl_Part_takes, impl_Part_takes_j0, impl_Part_takes_j1, preA hx0, postA hx0, apA hx0, hf]
  · obtain ⟨h1, h2⟩ := bifSome he
    rw [Option.map_eq_some_iff] at h2
    obtain ⟨c', _, rfl⟩ := h2
    refine ⟨_, rfl, by simp [hl], ?_, ?_⟩
    · have ha : ∀ f : F3, app (st.reverse.map sf) [sf f] = some ((f :: st).reverse.map sf) := fun f => by
        rw [app_lt (by rw [List.length_map, List.length_reverse]; simp; omega)]; simp
      simp only [spec_l24Next, show ((2 : Int) == 1) = false from rfl, beq_self_eq_true, cond_true, cond_false]
      cases decide (n ≥ frm)
      · exact (by rw [cond_false, show (T_spec_l24Fact.mk false false false) = sf (fAll false) from rfl, ha]; rfl)
      · exact (by rw [cond_true, show (T_spec_l24Fact.mk true true true) = sf (fAll true) from rfl, ha]; rfl)
    · have hf : impl_Part_find ⟨2, n, v⟩ [] frm = some (mf (fAll (decide (n ≥ frm)))) := rfl
      simp [-List.length_reverse, -List.length_map, -List.map_reverse, -Int.sub_zero, impl_Part_takes, impl_Part_takes_j0, impl_Part_takes_j1, preA hx0, postA hx0, apA hx0, hf]
  · obtain ⟨_, h2⟩ := bifSome he
    split at h2
    · next b' a' r' =>
      obtain ⟨_, h2⟩ := bifSome h2
      have h2 := Option.some.inj h2
      subst h2
      obtain ⟨b, a, t, rfl, ht⟩ := fv2 hl rfl
      have hx : (t.reverse.map mf).length ≤ 2097152 := by simp at hs ⊢; omega
      have hy : (t.reverse.map sf).length ≤ 2097152 := by simp at hs ⊢; omega
      refine ⟨_, rfl, by simp [ht], ?_, ?_⟩
      · rw [revm2, (next_two hy a b n v frm 3).1 (.inl rfl), revm1]
      · simp [-List.length_reverse, -List.length_map, -List.map_reverse, -Int.sub_zero, -List.length_append, -List.length_cons, -List.length_nil, impl_Part_takes, impl_Part_takes_j0, revm2, revm1, len2 hx, sl_pre hx rfl, sl_post hx rfl, ap_pre hx, (find_two 3 n v a b frm).1 (.inl rfl)]
    · cases h2
  · obtain ⟨_, h2⟩ := bifSome he
    split at h2
    · next b' a' r' =>
      obtain ⟨_, h2⟩ := bifSome h2
      have h2 := Option.some.inj h2
      subst h2
      obtain ⟨b, a, t, rfl, ht⟩ := fv2 hl rfl
      have hx : (t.reverse.map mf).length ≤ 2097152 := by simp at hs ⊢; omega
      have hy : (t.reverse.map sf).length ≤ 2097152 := by simp at hs ⊢; omega
      refine ⟨_, rfl, by simp [ht], ?_, ?_⟩
      · rw [revm2, (next_two hy a b n v frm 4).1 (.inr rfl), revm1]
      · simp [-List.length_reverse, -List.length_map, -List.map_reverse, -Int.sub_zero, -List.length_append, -List.length_cons, -List.length_nil, impl_Part_takes, impl_Part_takes_j0, revm2, revm1, len2 hx, sl_pre hx rfl, sl_post hx rfl, ap_pre hx, (find_two 4 n v a b frm).1 (.inr rfl)]
    · cases h2
  · obtain ⟨_, h2⟩ := bifSome he
    split at h2
    · next b' a' r' =>
      obtain ⟨_, h2⟩ := bifSome h2
      have h2 := Option.some.inj h2
      subst h2
      obtain ⟨b, a, t, rfl, ht⟩ := fv2 hl rfl
      have hx : (t.reverse.map mf).length ≤ 2097152 := by simp at hs ⊢; omega
      have hy : (t.reverse.map sf).length ≤ 2097152 := by simp at hs ⊢; omega
      refine ⟨_, rfl, by simp [ht], ?_, ?_⟩
      · rw [revm2, (next_two hy a b n v frm 5).2.1 rfl, revm1]
      · simp [-List.length_reverse, -List.length_map, -List.map_reverse, -Int.sub_zero, -List.length_append, -List.length_cons, -List.length_nil, impl_Part_takes, impl_Part_takes_j0, revm2, revm1, len2 hx, sl_pre hx rfl, sl_post hx rfl, ap_pre hx, (find_two 5 n v a b frm).2.1 rfl]
    · cases h2
  · obtain ⟨_, h2⟩ := bifSome he
    split at h2
    · next b' a' r' =>
      obtain ⟨_, h2⟩ := bifSome h2
      have h2 := Option.some.inj h2
      subst h2
      obtain ⟨b, a, t, rfl, ht⟩ := fv2 hl rfl
      have hx : (t.reverse.map mf).length ≤ 2097152 := by simp at hs ⊢; omega
      have hy : (t.reverse.map sf).length ≤ 2097152 := by simp at hs ⊢; omega
      refine ⟨_, rfl, by simp [ht], ?_, ?_⟩
      · rw [revm2, (next_two hy a b n v frm 6).2.2 rfl, revm1]
      · simp [-List.length_reverse, -List.length_map, -List.map_reverse, -Int.sub_zero, -List.length_append, -List.length_cons, -List.length_nil, impl_Part_takes, impl_Part_takes_j0, revm2, revm1, len2 hx, sl_pre hx rfl, sl_post hx rfl, ap_pre hx, (find_two 6 n v a b frm).2.2 rfl]
    · cases h2
  · obtain ⟨_, h2⟩ := bifSome he
    split at h2
    · next b' r' =>
      obtain ⟨_, h2⟩ := bifSome h2
      have h2 := Option.some.inj h2
      subst h2
      obtain ⟨b, t, rfl, ht⟩ := fv1 hl rfl
      have hx : (t.reverse.map mf).length ≤ 2097152 := by simp at hs ⊢; omega
      have hy : (t.reverse.map sf).length ≤ 2097152 := by simp at hs ⊢; omega
      refine ⟨_, rfl, by simp [ht], ?_, ?_⟩
      · rw [revm1, (next_one hy b n v frm).1, revm1]
      · simp [-List.length_reverse, -List.length_map, -List.map_reverse, -Int.sub_zero, -List.length_append, -List.length_cons, -List.length_nil, impl_Part_takes, impl_Part_takes_j0, impl_Part_takes_j1, revm1, len1 hx, sl_pre hx rfl, sl_post hx rfl, ap_pre hx, (find_one n v b frm).1]
    · cases h2
  · obtain ⟨_, h2⟩ := bifSome he
    split at h2
    · next b' r' =>
      have h2 := Option.some.inj h2
      subst h2
      obtain ⟨b, t, rfl, ht⟩ := fv1 hl rfl
      have hx : (t.reverse.map mf).length ≤ 2097152 := by simp at hs ⊢; omega
      have hy : (t.reverse.map sf).length ≤ 2097152 := by simp at hs ⊢; omega
      refine ⟨_, rfl, by simp [ht], ?_, ?_⟩
      · rw [revm1, (next_one hy b n v frm).2, revm1]
      · simp [-List.length_reverse, -List.length_map, -List.map_reverse, -Int.sub_zero, -List.length_append, -List.length_cons, -List.length_nil, impl_Part_takes, impl_Part_takes_j0, impl_Part_takes_j1, revm1, len1 hx, sl_pre hx rfl, sl_post hx rfl, ap_pre hx, (find_one n v b frm).2]
    · cases h2
  · obtain ⟨h1, h2, h3, h4, h5, h6, h7, h8⟩ := hk
    simp only [exprStep, h1, h2, h3, h4, h5, h6, h7, h8, if_false, or_self] at he
    cases he
end Go.D
set_option linter.unusedVariables false
namespace Go.D
def fRun (frm : Int) : List T_impl_Part → List F3 → Option F3
  | [], st => getI st.reverse 0
  | p :: ps, st => (fStep frm st p).bind fun st' => fRun frm ps st'
def rejects (cs : List T_impl_Column) (ps : List T_impl_Part) (frm : Int) : Bool := exprKind cs ps == 3 && ((fRun frm ps []).getD (false, false, false)).2.1
structure InvF (cs : List T_impl_Column) (ps : List T_impl_Part) (i : Nat) (s : List F3) : Prop where
  h : ∃ ks, exprRun cs (ps.drop i) ks = 3 ∧ ks.length = s.length ∧ s.length ≤ i
theorem InvF.step {cs : List T_impl_Column} {ps : List T_impl_Part} {i : Nat} {s : List F3} {p : T_impl_Part} (hI : InvF cs ps i s) (hi : i < ps.length) (hv : ps[i]? = some p) (hl : ps.length ≤ 2000000) (frm : Int) :
    ∃ ks', WentF frm s.reverse p ks' ∧ ∀ st' : List F3, ks'.length = st'.length → InvF cs ps (i + 1) st'.reverse := by
  obtain ⟨ks, h1, h2, h3⟩ := hI.h
  have e : ps.drop i = p :: ps.drop (i + 1) := by
    rw [List.drop_eq_getElem_cons hi]
    rw [List.getElem?_eq_getElem hi] at hv
    rw [Option.some.inj hv]
  rw [e] at h1
  unfold exprRun at h1
  cases he : exprStep cs ks p with
  | none => rw [he] at h1; cases h1
  | some ks' =>
    rw [he] at h1
    have h1 : exprRun cs (ps.drop (i + 1)) ks' = 3 := h1
    refine ⟨ks', wentF frm he (by rw [List.length_reverse]; exact h2) (by rw [List.length_reverse]; omega), fun st' hl' => ⟨ks', h1, by rw [List.length_reverse]; exact hl', ?_⟩⟩
    have := exprStep_len he
    rw [List.length_reverse]
    omega
theorem InvF.fin {cs : List T_impl_Column} {ps : List T_impl_Part} {s : List F3} (hI : InvF cs ps ps.length s) : ∃ v, s = [v] := by
  obtain ⟨ks, h1, h2, h3⟩ := hI.h
  rw [List.drop_length] at h1
  unfold exprRun at h1
  split at h1
  · match s, h2 with
    | [v], _ => exact ⟨v, rfl⟩
  · cases h1
theorem both_run {cs : List T_impl_Column} {ps : List T_impl_Part} (h : exprKind cs ps = 3) (frm : Int) : ∃ f, fRun frm ps [] = some f ∧ spec_Rejects_l0 ps frm FUEL 0 [] = some f.2.1 ∧ impl_Rejects_l0 ps frm FUEL 0 [] = some f.2.1 := by
  obtain ⟨h1, h2, h3⟩ := run_start h
  have h0 : InvF cs ps 0 [] := ⟨[], h1, rfl, Nat.le_refl _⟩
  have hs : spec_Rejects_l0 ps frm FUEL 0 [] = (fRun frm ps []).map fun f => f.2.1 := by
    have := loop_opt (xs := ps) (L := fun f i (s : List F3) => spec_Rejects_l0 ps frm f i (s.map sf)) (fun rest s => (fRun frm rest s.reverse).map fun f => f.2.1) (InvF cs ps) (by omega)
      (fun f i s v hi hv hw hI => by
        have hlt : (i : Int) < ps.length := by omega
        obtain ⟨ks', ⟨st', e1, e2, e4, _⟩, hn⟩ := hI.step hi hv (by omega) frm
        rw [List.reverse_reverse] at e4
        refine .inr ⟨st'.reverse, hn st' e2, ?_, ?_⟩
        · simp only [spec_Rejects_l0, hlt, decide_true, cond_true, getI_nat, hv, Option.bind_some, e4, hw]
        · simp only [fRun, e1, Option.bind_some, List.reverse_reverse])
      (fun f s hI => by
        obtain ⟨v, rfl⟩ := hI.fin
        simp only [spec_Rejects_l0, Int.lt_irrefl, decide_false, cond_false]
        rfl) h0
    exact this
  have hi : impl_Rejects_l0 ps frm FUEL 0 [] = (fRun frm ps []).map fun f => f.2.1 := by
    have := loop_opt (xs := ps) (L := fun f i (s : List F3) => impl_Rejects_l0 ps frm f i (s.map mf)) (fun rest s => (fRun frm rest s.reverse).map fun f => f.2.1) (InvF cs ps) (by omega)
      (fun f i s v hi hv hw hI => by
        have hlt : (i : Int) < ps.length := by omega
        obtain ⟨ks', ⟨st', e1, e2, _, e5⟩, hn⟩ := hI.step hi hv (by omega) frm
        rw [List.reverse_reverse] at e5
        refine .inr ⟨st'.reverse, hn st' e2, ?_, ?_⟩
        · obtain ⟨x1, g1, e5⟩ := bindS e5
          obtain ⟨x2, g2, e5⟩ := bindS e5
          obtain ⟨x3, g3, e5⟩ := bindS e5
          obtain ⟨x4, g4, e5⟩ := bindS e5
          simp only [impl_Rejects_l0, hlt, decide_true, cond_true, getI_nat, hv, Option.bind_some, g1, g2, g3, g4, e5, hw]
        · simp only [fRun, e1, Option.bind_some, List.reverse_reverse])
      (fun f s hI => by
        obtain ⟨v, rfl⟩ := hI.fin
        simp only [impl_Rejects_l0, Int.lt_irrefl, decide_false, cond_false]
        rfl) h0
    exact this
  have key : ∀ (n i : Nat) (s : List F3), i + n = ps.length → InvF cs ps i s → ∃ v, fRun frm (ps.drop i) s.reverse = some v := by
    intro n
    induction n with
    | zero =>
      intro i s hi hI
      have : i = ps.length := by omega
      subst this
      obtain ⟨v, rfl⟩ := hI.fin
      rw [List.drop_length]
      exact ⟨v, rfl⟩
    | succ n ih =>
      intro i s hi hI
      have hlt : i < ps.length := by omega
      obtain ⟨ks', ⟨st', e1, e2, _⟩, hn⟩ := hI.step hlt (List.getElem?_eq_getElem hlt) (by omega) frm
      obtain ⟨v, hv⟩ := ih (i + 1) st'.reverse (by omega) (hn st' e2)
      refine ⟨v, ?_⟩
      rw [List.drop_eq_getElem_cons hlt, fRun, e1, Option.bind_some]
      rwa [List.reverse_reverse] at hv
  obtain ⟨v, hv⟩ := key ps.length 0 [] (by omega) h0
  have hv : fRun frm ps [] = some v := hv
  rw [hv] at hs hi
  exact ⟨v, hv, hs, hi⟩
theorem both_rejects {cs : List T_impl_Column} {ps : List T_impl_Part} (hc : cs.length ≤ 2097152) (hp : Sm ps.length) (sp : ∀ p ∈ ps, SmP p) (frm : Int) : spec_Rejects cs ps frm = some (rejects cs ps frm) ∧ impl_Rejects cs ps frm = some (rejects cs ps frm) := by
  unfold spec_Rejects impl_Rejects rejects
  rw [spec_exprKind hc hp sp, impl_exprKind hc hp sp, Option.bind_some, Option.bind_some]
  cases hk : exprKind cs ps == 3 with
  | false => exact ⟨rfl, rfl⟩
  | true =>
    obtain ⟨f, h1, h2, h3⟩ := both_run (eq_of_beq hk) frm
    rw [h1]
    exact ⟨h2, h3⟩
structure FV (f : F3) (v : T_impl_Value) : Prop where
  n : f.1 = true → v.fKind = 0
  t : f.2.1 = true → truV v ≠ 1
  f : f.2.2 = true → truV v ≠ 0
theorem tru_none {v : T_impl_Value} (h : v.fKind = 0) : truV v ≠ 1 ∧ truV v ≠ 0 := by
  unfold truV
  rw [h]
  cases valOk v
  · exact ⟨(by decide : (-1 : Int) ≠ 1), (by decide : (-1 : Int) ≠ 0)⟩
  · exact ⟨(by decide : (2 : Int) ≠ 1), (by decide : (2 : Int) ≠ 0)⟩
theorem fv_all {b : Bool} {v : T_impl_Value} (h : b = true → v.fKind = 0) : FV (fAll b) v := ⟨h, fun e => (tru_none (h e)).1, fun e => (tru_none (h e)).2⟩
theorem of_one : ofV 1 = ⟨3, 1, ByteArray.mk #[]⟩ := rfl
theorem of_nil : ofV 0 = ⟨3, 0, ByteArray.mk #[]⟩ := rfl
theorem of_out {n : Int} (h : n ≠ 0 ∧ n ≠ 1) : ofV n = N0 := by
  unfold ofV
  rw [in01, beq_eq_false_iff_ne.2 h.1, beq_eq_false_iff_ne.2 h.2]
  rfl
theorem tru_of1 : truV (ofV 1) = 1 := by
  rw [of_one]; unfold truV valOk; simp [inR]
theorem tru_of0 : truV (ofV 0) = 0 := by
  rw [of_nil]; unfold truV valOk; simp [inR]
theorem fv_of {f : F3} {n : Int} (h1 : f.1 = true → n ≠ 0 ∧ n ≠ 1) (h2 : f.2.1 = true → n ≠ 1) (h3 : f.2.2 = true → n ≠ 0) : FV f (ofV n) := by
  by_cases e1 : n = 1
  · subst e1
    exact ⟨fun h => absurd rfl (h1 h).2, fun h => absurd rfl (h2 h), fun _ => by rw [tru_of1]; decide⟩
  by_cases e0 : n = 0
  · subst e0
    exact ⟨fun h => absurd rfl (h1 h).1, fun _ => by rw [tru_of0]; decide, fun h => absurd rfl (h3 h)⟩
  rw [of_out ⟨e0, e1⟩]
  exact ⟨fun _ => rfl, fun _ => (tru_none rfl).1, fun _ => (tru_none rfl).2⟩
theorem and_in {a b : Int} : (andV a b = 1 → a = 1 ∧ b = 1) ∧ (andV a b = 0 → a = 0 ∨ b = 0) := by
  unfold andV impl_AndOf impl_fold impl_TruthOk
  simp only [impl_in, Option.bind_some]
  cases ha : inR a 0 2
  · exact ⟨fun h => (by cases h), fun h => by cases h⟩
  cases hb : inR b 0 2
  · exact ⟨fun h => (by cases h), fun h => by cases h⟩
  rcases in02 ha with rfl | rfl | rfl <;> rcases in02 hb with rfl | rfl | rfl <;> decide
theorem or_in {a b : Int} : (orV a b = 1 → a = 1 ∨ b = 1) ∧ (orV a b = 0 → a = 0 ∧ b = 0) := by
  unfold orV impl_OrOf impl_fold impl_TruthOk
  simp only [impl_in, Option.bind_some]
  cases ha : inR a 0 2
  · exact ⟨fun h => (by cases h), fun h => by cases h⟩
  cases hb : inR b 0 2
  · exact ⟨fun h => (by cases h), fun h => by cases h⟩
  rcases in02 ha with rfl | rfl | rfl <;> rcases in02 hb with rfl | rfl | rfl <;> decide
theorem not_in {a : Int} : (notV a = 1 → a = 0) ∧ (notV a = 0 → a = 1) := by
  unfold notV impl_NotOf
  cases h0 : a == 0
  · cases h1 : a == 1
    · cases a == 2 <;> exact ⟨fun h => (by cases h), fun h => by cases h⟩
    · exact ⟨fun h => (by cases h), fun _ => eq_of_beq h1⟩
  · exact ⟨fun _ => eq_of_beq h0, fun h => by cases h⟩
def FS : List F3 → List T_impl_Value → Prop
  | [], [] => True
  | f :: fs, v :: vs => FV f v ∧ FS fs vs
  | _, _ => False
theorem fs_step {frm : Int} {row : List T_impl_Value} (hr : ∀ n v, n ≥ frm → getI row n = some v → v.fKind = 0) {p : T_impl_Part} {st st' : List F3} {vs vs' : List T_impl_Value} (h : FS st vs) (hf : fStep frm st p = some st') (hv : valStep row vs p = some vs') : FS st' vs' := by
  obtain ⟨k, n, v⟩ := p
  rcases kind_cases k with rfl | rfl | rfl | rfl | rfl | rfl | rfl | rfl | hk
  · have hf := Option.some.inj hf
    have hv := Option.some.inj hv
    subst hf hv
    refine ⟨⟨fun h => (by cases h), fun h => ?_, fun h => ?_⟩, h⟩
    · simp only [Bool.and_eq_true, beq_iff_eq] at h
      unfold truV
      rw [h.1, h.2]
      cases valOk v <;> decide
    · simp only [Bool.and_eq_true, beq_iff_eq] at h
      unfold truV
      rw [h.1, h.2]
      cases valOk v <;> decide
  · have hf := Option.some.inj hf
    have hv : (getI row n).map (fun v => v :: vs) = some vs' := hv
    obtain ⟨u, hu, rfl⟩ := Option.map_eq_some_iff.1 hv
    subst hf
    exact ⟨fv_all fun e => hr n u (of_decide_eq_true e) hu, h⟩
  · match st, vs, h with
    | [], [], _ => cases hf
    | [_], [_], _ => cases hf
    | y :: x :: t, b :: a :: r, ⟨hb, ha, ht⟩ =>
      have hf := Option.some.inj hf
      have hv := Option.some.inj hv
      subst hf hv
      refine ⟨fv_all fun e => ?_, ht⟩
      simp only [Bool.or_eq_true] at e
      unfold sumV
      rcases e with e | e
      · rw [ha.n e]; rfl
      · rw [hb.n e]
        simp [N0]
  · match st, vs, h with
    | [], [], _ => cases hf
    | [_], [_], _ => cases hf
    | y :: x :: t, b :: a :: r, ⟨hb, ha, ht⟩ =>
      have hf := Option.some.inj hf
      have hv := Option.some.inj hv
      subst hf hv
      refine ⟨fv_all fun e => ?_, ht⟩
      simp only [Bool.or_eq_true] at e
      have : (a.fKind == 0 || b.fKind == 0) = true := by
        rcases e with e | e
        · rw [ha.n e]; rfl
        · rw [hb.n e]; simp
      rw [of_out]
      · rfl
      · unfold cmpV
        simp only [this, cond_true]
        cases inR n 1 4 && (valOk a && valOk b) <;> decide
  · match st, vs, h with
    | [], [], _ => cases hf
    | [_], [_], _ => cases hf
    | y :: x :: t, b :: a :: r, ⟨hb, ha, ht⟩ =>
      have hf := Option.some.inj hf
      have hv := Option.some.inj hv
      subst hf hv
      have t1 : (x.2.1 || y.2.1) = true → andV (truV a) (truV b) ≠ 1 := fun e h => by
        obtain ⟨h1, h2⟩ := and_in.1 h
        rcases Bool.or_eq_true _ _ ▸ e with e | e
        · exact ha.t e h1
        · exact hb.t e h2
      have t0 : (x.2.2 && y.2.2) = true → andV (truV a) (truV b) ≠ 0 := fun e h => by
        have e := Bool.and_eq_true _ _ ▸ e
        rcases and_in.2 h with h | h
        · exact ha.f e.1 h
        · exact hb.f e.2 h
      exact ⟨fv_of (fun e => by
        have e := Bool.and_eq_true _ _ ▸ e
        exact ⟨t0 e.2, t1 e.1⟩) t1 t0, ht⟩
  · match st, vs, h with
    | [], [], _ => cases hf
    | [_], [_], _ => cases hf
    | y :: x :: t, b :: a :: r, ⟨hb, ha, ht⟩ =>
      have hf := Option.some.inj hf
      have hv := Option.some.inj hv
      subst hf hv
      have t1 : (x.2.1 && y.2.1) = true → orV (truV a) (truV b) ≠ 1 := fun e h => by
        have e := Bool.and_eq_true _ _ ▸ e
        rcases or_in.1 h with h | h
        · exact ha.t e.1 h
        · exact hb.t e.2 h
      have t0 : (x.2.2 || y.2.2) = true → orV (truV a) (truV b) ≠ 0 := fun e h => by
        obtain ⟨h1, h2⟩ := or_in.2 h
        rcases Bool.or_eq_true _ _ ▸ e with e | e
        · exact ha.f e h1
        · exact hb.f e h2
      exact ⟨fv_of (fun e => by
        have e := Bool.and_eq_true _ _ ▸ e
        exact ⟨t0 e.2, t1 e.1⟩) t1 t0, ht⟩
  · match st, vs, h with
    | [], [], _ => cases hf
    | y :: t, b :: r, ⟨hb, ht⟩ =>
      have hf := Option.some.inj hf
      have hv := Option.some.inj hv
      subst hf hv
      refine ⟨fv_of (fun e => ?_) (fun e h => hb.f e (not_in.1 h)) (fun e h => hb.t e (not_in.2 h)), ht⟩
      have := tru_none (hb.n e)
      exact ⟨fun h => this.1 (not_in.2 h), fun h => this.2 (not_in.1 h)⟩
  · match st, vs, h with
    | [], [], _ => cases hf
    | y :: t, b :: r, ⟨hb, ht⟩ =>
      have hf := Option.some.inj hf
      have hv := Option.some.inj hv
      subst hf hv
      refine ⟨fv_of (fun e => (by cases e)) (fun e => (by cases e)) (fun e => ?_), ht⟩
      rw [hb.n e]
      decide
  · obtain ⟨h1, h2, h3, h4, h5, h6, h7, h8⟩ := hk
    simp only [fStep, h1, h2, h3, h4, h5, h6, h7, h8, if_false] at hf
    cases hf
theorem fs_last : ∀ {st : List F3} {vs : List T_impl_Value} {f : F3} {v : T_impl_Value}, FS st vs → getI st.reverse 0 = some f → getI vs.reverse 0 = some v → FV f v
  | [], [], _, _, _, h, _ => by cases h
  | [x], [y], f, v, h, h1, h2 => by
    have h1 := Option.some.inj h1
    have h2 := Option.some.inj h2
    exact h1 ▸ h2 ▸ h.1
  | x :: x2 :: xs, y :: y2 :: ys, f, v, h, h1, h2 => by
    refine fs_last (st := x2 :: xs) (vs := y2 :: ys) h.2 ?_ ?_
    · rw [← h1]
      show (x2 :: xs).reverse[0]? = (x :: x2 :: xs).reverse[0]?
      rw [List.reverse_cons (a := x), List.getElem?_append_left (by simp)]
    · rw [← h2]
      show (y2 :: ys).reverse[0]? = (y :: y2 :: ys).reverse[0]?
      rw [List.reverse_cons (a := y), List.getElem?_append_left (by simp)]
  | [_], _ :: _ :: _, _, _, h, _, _ => h.2.elim
  | _ :: _ :: _, [_], _, _, h, _, _ => h.2.elim
theorem fs_run {frm : Int} {row : List T_impl_Value} (hr : ∀ n v, n ≥ frm → getI row n = some v → v.fKind = 0) : ∀ {ps : List T_impl_Part} {st : List F3} {vs : List T_impl_Value} {f : F3} {v : T_impl_Value}, FS st vs → fRun frm ps st = some f → valRun row ps vs = some v → FV f v
  | [], st, vs, f, v, h, h1, h2 => fs_last h h1 h2
  | p :: ps, st, vs, f, v, h, h1, h2 => by
    rw [fRun] at h1
    rw [valRun] at h2
    obtain ⟨st', e1, h1⟩ := bindS h1
    obtain ⟨vs', e2, h2⟩ := bindS h2
    exact fs_run hr (fs_step hr h e1 e2) h1 h2
theorem tru_eq {v : T_impl_Value} (h : eq_T_impl_Value v (ofV 1) = true) : truV v = 1 := by
  rw [of_one] at h
  simp only [eq_T_impl_Value, andB, Bool.and_eq_true, beq_iff_eq] at h
  obtain ⟨h1, h2, h3⟩ := h
  unfold truV valOk
  rw [h1, h2, h3]
  simp [inR]
theorem rejects_no {cs : List T_impl_Column} {ps : List T_impl_Part} {frm : Int} {row : List T_impl_Value} (h : rejects cs ps frm = true) (hc : row.length = cs.length) (hr : SmR row) (hp : ∀ p ∈ ps, SmP p) (hn : ∀ n v, n ≥ frm → getI row n = some v → v.fKind = 0) : holds row ps = false := by
  unfold rejects at h
  simp only [Bool.and_eq_true] at h
  have hk := eq_of_beq h.1
  obtain ⟨f, h1, _⟩ := both_run hk frm
  obtain ⟨v, h2, _⟩ := spec_val hk hc hr hp
  have hv := fs_run hn (st := []) (vs := []) trivial h1 h2
  rw [h1] at h
  unfold holds exprVal
  rw [h2]
  cases he : eq_T_impl_Value v (ofV 1) with
  | false => exact he
  | true => exact absurd (tru_eq he) (hv.t h.2)
end Go.D
set_option linter.unusedVariables false
namespace Go.D
theorem app_nilV {α : Type} {a : List α} (h : Sm a.length) : app [] a = some a := app_lt (by simp; omega)
theorem clip_id {α : Type} (a : List α) : slI a none (some (a.length : Int)) (some (a.length : Int)) = some a := by simp [slI]
structure Sides (ca cb : List T_impl_Column) (ar br : List (List T_impl_Value)) (ps : List T_impl_Part) : Prop where
  sc : Sm ca.length
  sd : Sm cb.length
  sa : SmRs ar
  sb : SmRs br
  sl : Sm ps.length
  sp : ∀ p ∈ ps, SmP p
def ready (ca cb : List T_impl_Column) (ar br : List (List T_impl_Value)) (ps : List T_impl_Part) : Bool := rowsOk ca ar && (rowsOk cb br && (exprKind (ca ++ cb) ps == 3 && (decide (ar.length ≤ 30) && decide (br.length ≤ 30))))
theorem le30 {α : Type} (xs : List α) : decide ((xs.length : Int) ≤ 30) = decide (xs.length ≤ 30) := by
  simp only [decide_eq_decide]
  omega
theorem spec_kindC {ca cb : List T_impl_Column} {ps : List T_impl_Part} (hc : Sm ca.length) (hd : Sm cb.length) (hl : ca.length + cb.length ≤ 2097152) (hp : Sm ps.length) (sp : ∀ p ∈ ps, SmP p) : spec_ExprKind (ca ++ cb) ps = some (exprKind (ca ++ cb) ps) ∧ impl_ExprKind (ca ++ cb) ps = some (exprKind (ca ++ cb) ps) :=
  ⟨spec_exprKind (by rw [List.length_append]; exact hl) hp sp, impl_exprKind (by rw [List.length_append]; exact hl) hp sp⟩
theorem rowsOk_cols {c : List T_impl_Column} {rs : List (List T_impl_Value)} (h : rowsOk c rs = true) : colsOk c = true ∧ c.length ≤ 4 ∧ ∀ r ∈ rs, r.length = c.length := by
  unfold rowsOk at h
  simp only [Bool.and_eq_true, List.all_eq_true] at h
  refine ⟨h.1, ?_, fun r hr => ?_⟩
  · have := h.1
    unfold colsOk at this
    simp only [Bool.and_eq_true, decide_eq_true_eq] at this
    exact this.2
  · have := h.2 r hr
    unfold rowFits at this
    simp only [Bool.and_eq_true, beq_iff_eq] at this
    exact this.2.2.1
theorem kind_cols {ca cb : List T_impl_Column} {ps : List T_impl_Part} (h : (exprKind (ca ++ cb) ps == 3) = true) : ca.length + cb.length ≤ 4 := by
  have h := eq_of_beq h
  have := (run_start h).2.1
  unfold colsOk at this
  simp only [Bool.and_eq_true, decide_eq_true_eq, List.length_append] at this
  exact this.2
theorem impl_ready {ca cb : List T_impl_Column} {ar br : List (List T_impl_Value)} {ps : List T_impl_Part} (h : Sides ca cb ar br ps) : impl_testOk ca cb ar br ps = some (ready ca cb ar br ps) := by
  have hc := h.sc
  have hd := h.sd
  unfold impl_testOk impl_sidesOk ready
  rw [impl_colsOk h.sc, Option.bind_some, impl_colsOk h.sd, Option.bind_some, impl_rowsOk h.sc h.sa, Option.bind_some, impl_rowsOk h.sd h.sb, Option.bind_some, le30, le30, impl_concat h.sc h.sd]
  have w : w64 ((ca.length : Int) + cb.length) = ((ca.length + cb.length : Nat) : Int) := by rw [w64_of] <;> omega
  rw [w]
  cases ha : rowsOk ca ar
  · cases colsOk ca <;> cases colsOk cb <;> cases decide (((ca.length + cb.length : Nat) : Int) ≤ 4) <;> cases decide (ar.length ≤ 30) <;> cases decide (br.length ≤ 30) <;> rfl
  cases hb : rowsOk cb br
  · cases colsOk ca <;> cases colsOk cb <;> cases decide (((ca.length + cb.length : Nat) : Int) ≤ 4) <;> cases decide (ar.length ≤ 30) <;> cases decide (br.length ≤ 30) <;> rfl
  rw [(rowsOk_cols ha).1, (rowsOk_cols hb).1]
  have la := (rowsOk_cols ha).2.1
  have lb := (rowsOk_cols hb).2.1
  have hk := (spec_kindC h.sc h.sd (by omega) h.sl h.sp).2
  cases hx : exprKind (ca ++ cb) ps == 3 with
  | true =>
    have := kind_cols hx
    have e : decide (((ca.length + cb.length : Nat) : Int) ≤ 4) = true := decide_eq_true (by omega)
    rw [e]
    cases decide (ar.length ≤ 30) <;> cases decide (br.length ≤ 30) <;> simp [hk] <;> simpa using hx
  | false =>
    cases decide (((ca.length + cb.length : Nat) : Int) ≤ 4) <;> cases decide (ar.length ≤ 30) <;> cases decide (br.length ≤ 30) <;> simp [hk] <;> simpa using hx
section
variable {ca cb : List T_impl_Column} {ar br : List (List T_impl_Value)} {ps : List T_impl_Part} (h : Sides ca cb ar br ps) (hr : ready ca cb ar br ps = true)
include h hr
omit h in
theorem ready_rows : (∀ a ∈ ar, a.length = ca.length) ∧ (∀ b ∈ br, b.length = cb.length) ∧ exprKind (ca ++ cb) ps = 3 ∧ ar.length ≤ 30 ∧ br.length ≤ 30 ∧ ca.length + cb.length ≤ 4 := by
  unfold ready at hr
  simp only [Bool.and_eq_true, decide_eq_true_eq] at hr
  obtain ⟨h1, h2, h3, h4, h5⟩ := hr
  exact ⟨(rowsOk_cols h1).2.2, (rowsOk_cols h2).2.2, eq_of_beq h3, h4, h5, kind_cols h3⟩
theorem pair_holds {a b : List T_impl_Value} (ha : a ∈ ar) (hb : b ∈ br) : spec_l6Holds (a ++ b) ps = some (holds (a ++ b) ps) ∧ impl_exprHolds (a ++ b) ps = some (holds (a ++ b) ps) := by
  obtain ⟨r1, r2, r3, _, _, r4⟩ := ready_rows hr
  have ea := r1 a ha
  have eb := r2 b hb
  refine both_holds r3 (by rw [List.length_append, List.length_append, ea, eb]) ⟨by rw [List.length_append]; omega, fun v hv => ?_⟩ h.sp
  rcases List.mem_append.1 hv with hv | hv
  · exact (h.sa.2 a ha).2 v hv
  · exact (h.sb.2 b hb).2 v hv
end
def has (br : List (List T_impl_Value)) (ps : List T_impl_Part) (a : List T_impl_Value) : Bool := br.any fun b => holds (a ++ b) ps
end Go.D
set_option linter.unusedVariables false
namespace Go.D
theorem len_beqN (m n : Nat) : ((m : Int) == (n : Int)) = (m == n) := by
  cases h : m == n with
  | true => have : m = n := by simpa using h
            subst this; simp
  | false => have : m ≠ n := by simpa using h
             simp; omega
theorem toList_loop (s : ByteArray) : ∀ (k i : Nat) (r : List UInt8), i + k = s.size → ByteArray.toList.loop s i r = r.reverse ++ s.data.toList.drop i
  | 0, i, r, h => by
    rw [ByteArray.toList.loop, if_neg (by omega), List.drop_of_length_le (by rw [Array.length_toList]; show s.size ≤ i; omega), List.append_nil]
  | k + 1, i, r, h => by
    have hi : i < s.data.toList.length := by rw [Array.length_toList]; show i < s.size; omega
    rw [ByteArray.toList.loop, if_pos (by omega), toList_loop s k (i + 1) _ (by omega), List.drop_eq_getElem_cons hi, List.reverse_cons, List.append_assoc]
    congr 1
    rw [List.singleton_append]
    congr 1
    show s.data[i]! = _
    rw [getElem!_pos s.data i (by rw [Array.length_toList] at hi; exact hi)]
    simp
theorem bytes_toList (s : ByteArray) : s.toList = s.data.toList := by
  unfold ByteArray.toList
  rw [toList_loop s s.size 0 [] (by omega)]
  simp
theorem eqV_iff (a b : T_impl_Value) : eq_T_impl_Value a b = true ↔ a = b := by
  obtain ⟨k, n, s⟩ := a
  obtain ⟨k', n', s'⟩ := b
  simp only [eq_T_impl_Value, andB, Bool.and_eq_true, beq_iff_eq, T_impl_Value.mk.injEq]
  refine ⟨fun h => ?_, fun h => ?_⟩
  · obtain ⟨h1, h2, h3⟩ := h
    refine ⟨h1, h2, ?_⟩
    rw [bytes_toList, bytes_toList] at h3
    exact ByteArray.ext (Array.toList_inj.1 h3)
  · obtain ⟨rfl, rfl, rfl⟩ := h
    exact ⟨rfl, rfl, rfl⟩
def rowEq (a b : List T_impl_Value) : Bool := a.length == b.length && (a.zip b).all fun p => eq_T_impl_Value p.1 p.2
theorem zip_eq : ∀ {a b : List T_impl_Value}, a.length = b.length → (((a.zip b).all fun p => eq_T_impl_Value p.1 p.2) = true ↔ a = b)
  | [], [], _ => by simp
  | x :: xs, [], h => by simp at h
  | [], y :: ys, h => by simp at h
  | x :: xs, y :: ys, h => by
    have := zip_eq (a := xs) (b := ys) (by simpa using h)
    simp only [List.zip_cons_cons, List.all_cons, Bool.and_eq_true, this, eqV_iff, List.cons.injEq]
theorem rowEq_iff {a b : List T_impl_Value} : rowEq a b = true ↔ a = b := by
  unfold rowEq
  rw [Bool.and_eq_true, beq_iff_eq]
  refine ⟨fun h => (zip_eq h.1).1 h.2, fun h => ?_⟩
  have hl : a.length = b.length := by rw [h]
  exact ⟨hl, (zip_eq hl).2 h⟩
theorem rowEq_refl (a : List T_impl_Value) : rowEq a a = true := rowEq_iff.2 rfl
theorem loop_two {α : Type} {xs ys : List α} {L : Nat → Int → Option Bool} {p : α → α → Bool} (hlen : xs.length ≤ 70368744177662) (he : xs.length = ys.length)
    (h : ∀ (f i : Nat) (x y : α), i < xs.length → xs[i]? = some x → ys[i]? = some y → w64 ((i : Int) + 1) = ((i + 1 : Nat) : Int) → L (f + 1) i = bif p x y then L f ((i + 1 : Nat) : Int) else some false)
    (hz : ∀ f, L (f + 1) (xs.length : Int) = some true) : L FUEL 0 = some ((xs.zip ys).all fun q => p q.1 q.2) := by
  have hl : (xs.zip ys).length = xs.length := by rw [List.length_zip]; omega
  have := loop_all (xs := xs.zip ys) (L := L) (p := fun q => p q.1 q.2) (fin := true) (by omega) (fun f i v hi hv hw => by
    obtain ⟨h1, h2⟩ := zip_get he hv
    exact h f i v.1 v.2 (by omega) h1 h2 hw) (fun f => by rw [hl]; exact hz f)
  rw [this, Bool.and_true]
theorem laws_sameRow_ok {a b : List T_impl_Value} (h : a.length ≤ 70368744177662) : laws_sameRow a b = some (rowEq a b) := by
  unfold laws_sameRow rowEq
  have e : ((a.length : Int) == (b.length : Int)) = (a.length == b.length) := len_beqN _ _
  rw [e]
  cases hl : a.length == b.length with
  | false => rfl
  | true =>
    rw [Bool.not_true, cond_false, Bool.true_and]
    refine loop_two (L := fun f i => laws_sameRow_l0 a b f i) h (by simpa using hl) (fun f i x y hi hx hy hw => ?_) (fun f => ?_)
    · rw [laws_sameRow_l0, decide_eq_true (by omega), cond_true, getI_nat, hx, Option.bind_some, getI_nat, hy, Option.bind_some, hw]
      cases eq_T_impl_Value x y <;> rfl
    · rw [laws_sameRow_l0, decide_eq_false (Int.lt_irrefl _), cond_false]
theorem laws_sameRows_ok {a b : List (List T_impl_Value)} (h : SmRs a) : laws_sameRows a b = some (a.length == b.length && (a.zip b).all fun p => rowEq p.1 p.2) := by
  unfold laws_sameRows
  have e : ((a.length : Int) == (b.length : Int)) = (a.length == b.length) := len_beqN _ _
  have h1 := h.1
  rw [e]
  cases hl : a.length == b.length with
  | false => rfl
  | true =>
    rw [Bool.not_true, cond_false, Bool.true_and]
    refine loop_two (L := fun f i => laws_sameRows_l0 a b f i) (by omega) (by simpa using hl) (fun f i x y hi hx hy hw => ?_) (fun f => ?_)
    · have hs := (h.2 x (List.mem_of_getElem? hx)).1
      rw [laws_sameRows_l0, decide_eq_true (by omega), cond_true, getI_nat, hx, Option.bind_some, getI_nat, hy, Option.bind_some, laws_sameRow_ok (by omega), Option.bind_some, hw]
      cases rowEq x y <;> rfl
    · rw [laws_sameRows_l0, decide_eq_false (Int.lt_irrefl _), cond_false]
theorem laws_sameRows_refl {a : List (List T_impl_Value)} (h : SmRs a) : laws_sameRows a a = some true := by
  rw [laws_sameRows_ok h, beq_self_eq_true, Bool.true_and]
  congr 1
  rw [List.all_eq_true]
  intro p hp
  obtain ⟨i, hi, rfl⟩ := List.mem_iff_getElem.1 hp
  rw [List.getElem_zip]
  exact rowEq_refl _
theorem alive_t : laws_alive = some true := by
  have e0 : (ByteArray.mk #[]).size = 0 := rfl
  unfold laws_alive impl_ValueOk
  rw [impl_value (v := T_impl_Value.mk 1 3 (ByteArray.mk #[])) (by simp [e0]), Option.bind_some, impl_value (v := T_impl_Value.mk 9 0 (ByteArray.mk #[])) (by simp [e0]), Option.bind_some]
  have h1 : valOk (T_impl_Value.mk 1 3 (ByteArray.mk #[])) = true := by simp [valOk, inR]
  have h2 : valOk (T_impl_Value.mk 9 0 (ByteArray.mk #[])) = false := by simp [valOk]
  rw [h1, h2]
  rfl
end Go.D
set_option linter.unusedVariables false
namespace Go.D
def pairs (br : List (List T_impl_Value)) (ps : List T_impl_Part) (a : List T_impl_Value) : List (List T_impl_Value) := (br.filter fun b => holds (a ++ b) ps).map (a ++ ·)
def bare (n : Nat) (a : List T_impl_Value) : List T_impl_Value := a ++ List.replicate n N0
def leftOf (n : Nat) (br : List (List T_impl_Value)) (ps : List T_impl_Part) (a : List T_impl_Value) : List (List T_impl_Value) := pairs br ps a ++ (bif !(has br ps a) then [bare n a] else [])
theorem pairs_len (br : List (List T_impl_Value)) (ps : List T_impl_Part) (a : List T_impl_Value) : (pairs br ps a).length ≤ br.length := by
  unfold pairs
  rw [List.length_map]
  exact List.length_filter_le _ _
theorem pairs_zero {br : List (List T_impl_Value)} {ps : List T_impl_Part} {a : List T_impl_Value} : has br ps a = false ↔ (pairs br ps a).length = 0 := by
  unfold pairs has
  rw [List.length_map, List.length_eq_zero_iff, List.filter_eq_nil_iff, List.any_eq_false]
theorem leftOf_len (n : Nat) (br : List (List T_impl_Value)) (ps : List T_impl_Part) (a : List T_impl_Value) : (leftOf n br ps a).length ≤ br.length + 1 := by
  have := pairs_len br ps a
  unfold leftOf
  cases has br ps a <;> simp <;> omega
theorem mkI_nat {n : Nat} (h : Sm n) : mkI (n : Int) N0 = some (List.replicate n N0) := by
  unfold mkI
  rw [if_pos (by omega), Int.toNat_natCast]
section
variable {ca cb : List T_impl_Column} {ar br : List (List T_impl_Value)} {ps : List T_impl_Part} (h : Sides ca cb ar br ps) (hr : ready ca cb ar br ps = true)
include h hr
end
def leftV (ca cb : List T_impl_Column) (ar br : List (List T_impl_Value)) (ps : List T_impl_Part) : List (List T_impl_Value) := bif ready ca cb ar br ps then ar.flatMap (leftOf cb.length br ps) else []
theorem flat_len {α β : Type} (f : α → List β) (n : Nat) : ∀ (xs : List α), (∀ x ∈ xs, (f x).length ≤ n) → (xs.flatMap f).length ≤ xs.length * n
  | [], _ => Nat.zero_le _
  | x :: xs, h => by
    have h1 := h x (by simp)
    have h2 := flat_len f n xs fun y hy => h y (by simp [hy])
    rw [List.flatMap_cons, List.length_append, List.length_cons, Nat.add_mul]
    omega
end Go.D
set_option linter.unusedVariables false
namespace Go.D
end Go.D
set_option linter.unusedVariables false
namespace Go.D
theorem impl_cloneV {a : List T_impl_Value} (ha : a.length ≤ 4194304) : impl_clone_impl_Value a = some a := by
  unfold impl_clone_impl_Value slices_Clip_impl_Value_impl_Value
  cases h : ((a.length : Int)) == 0
  · rw [app_lt (by simp; omega), Option.bind_some, List.nil_append, clip_id]
    rfl
  · have : a = [] := by
      have : (a.length : Int) = 0 := by simpa using h
      exact List.eq_nil_of_length_eq_zero (by omega)
    subst this
    rfl
theorem impl_besideV {a b : List T_impl_Value} (ha : Sm a.length) (hb : Sm b.length) : impl_beside a b = some (a ++ b) := by
  unfold impl_beside
  rw [impl_concatV ha hb, Option.bind_some, impl_cloneV (by rw [List.length_append]; omega), Option.bind_some]
section
variable {ca cb : List T_impl_Column} {ar br : List (List T_impl_Value)} {ps : List T_impl_Part} (h : Sides ca cb ar br ps) (hr : ready ca cb ar br ps = true)
include h hr
theorem impl_partnersV {a : List T_impl_Value} (ha : a ∈ ar) : impl_partners a br ps = some ((br.filter fun b => holds (a ++ b) ps).map (a ++ ·)) := by
  have hl := (ready_rows hr).2.2.2.2.1
  unfold impl_partners
  have := loop_opt (xs := br) (L := fun f i (s : List (List T_impl_Value)) => impl_partners_l0 a br ps f i s) (fun rest s => some (s ++ (rest.filter fun b => holds (a ++ b) ps).map (a ++ ·))) (fun i s => s.length ≤ i) (by omega)
    (fun f i s b hi hb hw hI => by
      have hlt : (i : Int) < br.length := by omega
      have hm := List.mem_of_getElem? hb
      have hh := (pair_holds h hr ha hm).2
      have hj := impl_besideV (h.sa.2 a ha).1 (h.sb.2 b hm).1
      cases hx : holds (a ++ b) ps with
      | true =>
        rw [hx] at hh
        refine .inr ⟨s ++ [a ++ b], by simp; omega, ?_, ?_⟩
        · simp only [impl_partners_l0, hlt, decide_true, cond_true, getI_nat, hb, Option.bind_some, hj, hh, app_lt (xs := s) (ys := [a ++ b]) (by simp; omega), hw]
        · simp [hx]
      | false =>
        rw [hx] at hh
        refine .inr ⟨s, by omega, ?_, ?_⟩
        · simp only [impl_partners_l0, hlt, decide_true, cond_true, cond_false, getI_nat, hb, Option.bind_some, hj, hh, hw]
        · simp [hx])
    (fun f s hI => by simp only [impl_partners_l0, Int.lt_irrefl, decide_false, cond_false, List.filter_nil, List.map_nil, List.append_nil]) (s := []) (Nat.le_refl _)
  exact this
end
end Go.D
set_option linter.unusedVariables false
namespace Go.D
section
variable {ca cb : List T_impl_Column} {ar br : List (List T_impl_Value)} {ps : List T_impl_Part} (h : Sides ca cb ar br ps)
include h
end
end Go.D
set_option linter.unusedVariables false
namespace Go.D
theorem SmRs.app {a b : List (List T_impl_Value)} (ha : SmRs a) (hb : SmRs b) (h : a.length + b.length ≤ 2097152) : SmRs (a ++ b) := ⟨by rw [List.length_append]; exact h, fun r hr => (List.mem_append.1 hr).elim (ha.2 r) (hb.2 r)⟩
theorem fits_parts {cs : List T_impl_Column} {r : List T_impl_Value} (h : rowFits cs r = true) : colsOk cs = true ∧ rowOk r = true ∧ r.length = cs.length ∧ ((r.zip cs).all fun p => fits p.2 p.1) = true := by
  unfold rowFits at h
  simp only [Bool.and_eq_true, beq_iff_eq] at h
  exact ⟨h.1, h.2.1, h.2.2.1, h.2.2.2⟩
theorem fits_app {ca cb : List T_impl_Column} {a b : List T_impl_Value} (hc : colsOk (ca ++ cb) = true) (ha : rowFits ca a = true) (hb : rowFits cb b = true) : rowFits (ca ++ cb) (a ++ b) = true := by
  obtain ⟨a1, a2, a3, a4⟩ := fits_parts ha
  obtain ⟨b1, b2, b3, b4⟩ := fits_parts hb
  have hl : (ca ++ cb).length ≤ 4 := by
    unfold colsOk at hc
    simp only [Bool.and_eq_true, decide_eq_true_eq] at hc
    exact hc.2
  unfold rowOk at a2 b2
  simp only [Bool.and_eq_true, decide_eq_true_eq] at a2 b2
  unfold rowFits rowOk
  simp only [Bool.and_eq_true, beq_iff_eq, decide_eq_true_eq, List.length_append, List.all_append] at hl ⊢
  refine ⟨hc, ⟨⟨a2.1, b2.1⟩, by omega⟩, by omega, ?_⟩
  rw [List.zip_append a3, List.all_append, a4, b4]
  rfl
theorem impl_exprHoldsP {cs : List T_impl_Column} {row : List T_impl_Value} {ps : List T_impl_Part} (hc : Sm cs.length) (hr : SmR row) (hl : Sm ps.length) (hp : ∀ p ∈ ps, SmP p) : impl_ExprHolds cs row ps = some (exprKind cs ps == 3 && (rowFits cs row && holds row ps)) := by
  unfold impl_ExprHolds
  rw [impl_exprKind hc hl hp, Option.bind_some]
  cases hk : exprKind cs ps == 3 with
  | false => rfl
  | true =>
    rw [cond_true, impl_rowFits hc hr, Option.bind_some, Bool.true_and]
    cases hf : rowFits cs row with
    | false => rfl
    | true =>
      rw [cond_true, (both_holds (by simpa using hk) (fits_parts hf).2.2.1 hr hp).2]
      rfl
end Go.D
set_option linter.unusedVariables false
namespace Go.D
section
variable {ca cb : List T_impl_Column} {ar br : List (List T_impl_Value)} {ps : List T_impl_Part} (h : Sides ca cb ar br ps) (hr : ready ca cb ar br ps = true)
include h hr
omit hr in
theorem bare_implN {a : List T_impl_Value} (ha : a ∈ ar) : impl_beside a (List.replicate cb.length N0) = some (bare cb.length a) := by
  rw [impl_besideV (h.sa.2 a ha).1 (by rw [List.length_replicate]; exact h.sd)]
  rfl
theorem impl_leftN : impl_LeftRows_l0 cb ar br ps FUEL 0 [] = some (ar.flatMap (leftOf cb.length br ps)) := by
  have hl := (ready_rows hr).2.2.2.1
  have hlb := (ready_rows hr).2.2.2.2.1
  have hmk : mkI (cb.length : Int) (T_impl_Value.mk 0 0 (ByteArray.mk #[])) = some (List.replicate cb.length N0) := mkI_nat h.sd
  have := loop_opt (xs := ar) (L := fun f i (s : List (List T_impl_Value)) => impl_LeftRows_l0 cb ar br ps f i s) (fun rest s => some (s ++ rest.flatMap (leftOf cb.length br ps))) (fun i s => s.length ≤ i * 31) (by omega)
    (fun f i s a hi ha hw hI => by
      have hlt : (i : Int) < ar.length := by omega
      have hm := List.mem_of_getElem? ha
      have hb0 := bare_implN h hm
      have hp : impl_partners a br ps = some (pairs br ps a) := impl_partnersV h hr hm
      have hlen := leftOf_len cb.length br ps a
      have hap : app s (leftOf cb.length br ps a) = some (s ++ leftOf cb.length br ps a) := app_lt (by omega)
      refine .inr ⟨s ++ leftOf cb.length br ps a, by rw [List.length_append]; omega, ?_, by simp⟩
      cases hx : has br ps a with
      | true =>
        have hz : (((pairs br ps a).length : Int) == 0) = false := by
          rw [beq_eq_false_iff_ne]
          intro e
          have := pairs_zero.2 (show (pairs br ps a).length = 0 by omega)
          rw [hx] at this
          cases this
        have e1 : leftOf cb.length br ps a = pairs br ps a := by
          unfold leftOf
          rw [hx]
          simp
        rw [e1] at hap ⊢
        simp only [impl_LeftRows_l0, hlt, decide_true, cond_true, cond_false, getI_nat, ha, Option.bind_some, hp, hz, impl_LeftRows_j1, hap, hw]
      | false =>
        have hz0 := pairs_zero.1 hx
        have hz : (((pairs br ps a).length : Int) == 0) = true := by
          rw [hz0]
          rfl
        have e1 : leftOf cb.length br ps a = [bare cb.length a] := by
          unfold leftOf
          rw [hx, List.length_eq_zero_iff.1 hz0]
          rfl
        rw [e1] at hap ⊢
        simp only [impl_LeftRows_l0, hlt, decide_true, cond_true, getI_nat, ha, Option.bind_some, hp, hz, hmk, hb0, impl_LeftRows_j1, hap, hw])
    (fun f s hI => by simp only [impl_LeftRows_l0, Int.lt_irrefl, decide_false, cond_false, slices_Clip_impl_Value_impl_Value_s3, clip_id, Option.bind_some, List.flatMap_nil, List.append_nil]) (s := []) (Nat.zero_le _)
  exact this
end
theorem impl_leftR {ca cb : List T_impl_Column} {ar br : List (List T_impl_Value)} {ps : List T_impl_Part} (h : Sides ca cb ar br ps) : impl_LeftRows ca cb ar br ps = some (leftV ca cb ar br ps) := by
  unfold impl_LeftRows leftV
  rw [impl_ready h, Option.bind_some]
  cases hr : ready ca cb ar br ps
  · rfl
  · rw [Bool.not_true, cond_false, cond_true, impl_leftN h hr]
def freeC (c : T_impl_Column) : T_impl_Column := ⟨c.fKind, true⟩
def leftCs (ca cb : List T_impl_Column) : List T_impl_Column := bif colsOk ca && (colsOk cb && decide (ca.length + cb.length ≤ 4)) then ca ++ cb.map freeC else []
theorem impl_cloneC {a : List T_impl_Column} (ha : a.length ≤ 4194304) : impl_clone_impl_Column a = some a := by
  unfold impl_clone_impl_Column slices_Clip_impl_Column_impl_Column
  cases h : ((a.length : Int)) == 0
  · rw [app_lt (by simp; omega), Option.bind_some, List.nil_append, clip_id]
    rfl
  · have : a = [] := by
      have : (a.length : Int) = 0 := by simpa using h
      exact List.eq_nil_of_length_eq_zero (by omega)
    subst this
    rfl
theorem impl_cloneCR {a : List T_impl_Column} (ha : a.length ≤ 4194304) : impl_clone_impl_Column_R a = some a := by
  unfold impl_clone_impl_Column_R slices_Clip_impl_Column_impl_Column_R
  cases h : ((a.length : Int)) == 0
  · rw [app_lt (by simp; omega), Option.bind_some, List.nil_append, clip_id]
    rfl
  · have : a = [] := by
      have : (a.length : Int) = 0 := by simpa using h
      exact List.eq_nil_of_length_eq_zero (by omega)
    subst this
    rfl
theorem impl_leftCs {ca cb : List T_impl_Column} (h1 : Sm ca.length) (h2 : Sm cb.length) : impl_LeftColumns ca cb = some (leftCs ca cb) := by
  unfold impl_LeftColumns leftCs
  rw [impl_colsOk h1, Option.bind_some]
  cases ha : colsOk ca with
  | false => rfl
  | true =>
  rw [Bool.not_true, cond_false, impl_colsOk h2, Option.bind_some]
  cases hb : colsOk cb with
  | false => rfl
  | true =>
  rw [Bool.not_true, cond_false, w64_of (by omega) (by omega)]
  unfold impl_LeftColumns_j0
  by_cases hl : ca.length + cb.length ≤ 4
  · rw [decide_eq_false (show ¬ ((ca.length : Int) + cb.length > 4) by omega), cond_false, impl_cloneCR (by omega), Option.bind_some, decide_eq_true hl]
    have := loop_opt (xs := cb) (L := fun f i (s : List T_impl_Column) => impl_LeftColumns_l1 cb f i s) (fun rest s => some (s ++ rest.map freeC)) (fun i s => s.length ≤ 4 + i) (by omega)
      (fun f i s c hi hc hw hI => by
        refine .inr ⟨s ++ [freeC c], by simp; omega, ?_, by simp⟩
        rw [impl_LeftColumns_l1, decide_eq_true (by omega), cond_true, getI_nat, hc, Option.bind_some, app_lt (by simp; omega), Option.bind_some, hw]
        rfl)
      (fun f s hI => by
        rw [impl_LeftColumns_l1, decide_eq_false (Int.lt_irrefl _), cond_false, impl_cloneC (by omega), Option.bind_some, List.map_nil, List.append_nil]) (s := ca) (by omega)
    exact this
  · rw [decide_eq_true (show ((ca.length : Int) + cb.length > 4) by omega), cond_true, decide_eq_false hl]
    rfl
theorem fits_free {c : T_impl_Column} {v : T_impl_Value} (h : fits c v = true) : fits (freeC c) v = true := by
  unfold fits freeC at *
  simp only [Bool.or_eq_true, Bool.and_eq_true] at h ⊢
  exact h.imp id fun h => ⟨h.1, trivial⟩
theorem zip_free : ∀ {cs : List T_impl_Column} {r : List T_impl_Value}, ((r.zip cs).all fun p => fits p.2 p.1) = true → ((r.zip (cs.map freeC)).all fun p => fits p.2 p.1) = true
  | [], r, h => by simp
  | c :: cs, [], h => by simp
  | c :: cs, v :: r, h => by
    simp only [List.zip_cons_cons, List.all_cons, Bool.and_eq_true] at h
    simp only [List.map_cons, List.zip_cons_cons, List.all_cons, Bool.and_eq_true]
    exact ⟨fits_free h.1, zip_free h.2⟩
theorem zip_none : ∀ {cs : List T_impl_Column} {n : Nat}, (((List.replicate n N0).zip (cs.map freeC)).all fun p => fits p.2 p.1) = true
  | [], n => by simp
  | c :: cs, 0 => by simp
  | c :: cs, n + 1 => by
    rw [List.replicate_succ, List.map_cons, List.zip_cons_cons, List.all_cons, zip_none]
    simp [fits, freeC, N0]
theorem colsOk_free {cs : List T_impl_Column} (h : colsOk cs = true) : colsOk (cs.map freeC) = true := by
  unfold colsOk at *
  simp only [Bool.and_eq_true, List.all_map, List.length_map] at *
  exact ⟨by rw [← h.1]; rfl, h.2⟩
theorem colsOk_app {a b : List T_impl_Column} (ha : colsOk a = true) (hb : colsOk b = true) (h : a.length + b.length ≤ 4) : colsOk (a ++ b) = true := by
  unfold colsOk at *
  simp only [Bool.and_eq_true, List.all_append, List.length_append, decide_eq_true_eq] at *
  exact ⟨⟨ha.1, hb.1⟩, h⟩
theorem val_none : valOk N0 = true := by
  unfold valOk N0
  simp
theorem fits_freeR {cs : List T_impl_Column} {r : List T_impl_Value} (h : rowFits cs r = true) : rowFits (cs.map freeC) r = true := by
  obtain ⟨h1, h2, h3, h4⟩ := fits_parts h
  unfold rowFits
  simp only [Bool.and_eq_true, beq_iff_eq, List.length_map]
  exact ⟨colsOk_free h1, h2, h3, zip_free h4⟩
theorem fits_none {cs : List T_impl_Column} (h : colsOk cs = true) : rowFits (cs.map freeC) (List.replicate cs.length N0) = true := by
  have hl : cs.length ≤ 4 := by
    unfold colsOk at h
    simp only [Bool.and_eq_true, decide_eq_true_eq] at h
    exact h.2
  unfold rowFits rowOk
  simp only [Bool.and_eq_true, beq_iff_eq, List.length_map, List.length_replicate, decide_eq_true_eq]
  refine ⟨colsOk_free h, ⟨?_, hl⟩, trivial, zip_none⟩
  rw [List.all_eq_true]
  intro v hv
  rw [List.eq_of_mem_replicate hv]
  exact val_none
end Go.D
set_option linter.unusedVariables false
namespace Go.D
theorem flat_congr {α β : Type} {f g : α → List β} : ∀ {xs : List α}, (∀ x ∈ xs, f x = g x) → xs.flatMap f = xs.flatMap g
  | [], _ => rfl
  | x :: xs, h => by
    rw [List.flatMap_cons, List.flatMap_cons, h x (by simp), flat_congr fun y hy => h y (by simp [hy])]
theorem leftOf_mem {n : Nat} {br : List (List T_impl_Value)} {ps : List T_impl_Part} {a r : List T_impl_Value} (h : r ∈ leftOf n br ps a) : (∃ b ∈ br, r = a ++ b) ∨ r = bare n a := by
  unfold leftOf at h
  rcases List.mem_append.1 h with h | h
  · unfold pairs at h
    obtain ⟨b, hb, rfl⟩ := List.mem_map.1 h
    exact .inl ⟨b, (List.mem_filter.1 hb).1, rfl⟩
  · cases hh : has br ps a with
    | true => rw [hh] at h; cases h
    | false => rw [hh] at h; exact .inr (by simpa using h)
theorem rows_fitL {cs : List T_impl_Column} {rs : List (List T_impl_Value)} (h : rowsOk cs rs = true) {r : List T_impl_Value} (hr : r ∈ rs) : rowFits cs r = true := by
  unfold rowsOk at h
  simp only [Bool.and_eq_true] at h
  exact List.all_eq_true.1 h.2 r hr
section
variable {ca cb : List T_impl_Column} {ar br : List (List T_impl_Value)} {ps : List T_impl_Part} (hr : ready ca cb ar br ps = true)
include hr
theorem leftV_eq : leftV ca cb ar br ps = ar.flatMap (leftOf cb.length br ps) := by
  unfold leftV
  rw [hr, cond_true]
theorem ready_both : rowsOk ca ar = true ∧ rowsOk cb br = true := by
  unfold ready at hr
  simp only [Bool.and_eq_true] at hr
  exact ⟨hr.1, hr.2.1⟩
theorem left_cols : leftCs ca cb = ca ++ cb.map freeC ∧ colsOk (ca ++ cb.map freeC) = true ∧ colsOk cb = true := by
  obtain ⟨h1, h2⟩ := ready_both hr
  have hl := (ready_rows hr).2.2.2.2.2
  have c1 := (rowsOk_cols h1).1
  have c2 := (rowsOk_cols h2).1
  unfold leftCs
  rw [c1, c2, decide_eq_true hl]
  exact ⟨rfl, colsOk_app c1 (colsOk_free c2) (by rw [List.length_map]; exact hl), rfl⟩
theorem left_fit {r : List T_impl_Value} (hm : r ∈ leftV ca cb ar br ps) : rowFits (ca ++ cb.map freeC) r = true := by
  obtain ⟨h1, h2⟩ := ready_both hr
  obtain ⟨_, c1, c2⟩ := left_cols hr
  rw [leftV_eq hr] at hm
  obtain ⟨a, ha, hm⟩ := List.mem_flatMap.1 hm
  rcases leftOf_mem hm with ⟨b, hb, rfl⟩ | rfl
  · exact fits_app c1 (rows_fitL h1 ha) (fits_freeR (rows_fitL h2 hb))
  · exact fits_app c1 (rows_fitL h1 ha) (fits_none c2)
theorem leftV_sm (h : Sides ca cb ar br ps) : SmRs (leftV ca cb ar br ps) := by
  have e0 : (ByteArray.mk #[]).size = 0 := rfl
  obtain ⟨r1, r2, _, r3, r4, r5⟩ := ready_rows hr
  rw [leftV_eq hr]
  refine ⟨?_, fun r hm => ?_⟩
  · have := flat_len (leftOf cb.length br ps) 31 ar fun a _ => by have := leftOf_len cb.length br ps a; omega
    omega
  · obtain ⟨a, ha, hm⟩ := List.mem_flatMap.1 hm
    have hsa := h.sa.2 a ha
    have la := r1 a ha
    rcases leftOf_mem hm with ⟨b, hb, rfl⟩ | rfl
    · have hsb := h.sb.2 b hb
      have lb := r2 b hb
      exact ⟨by rw [List.length_append]; omega, fun v hv => (List.mem_append.1 hv).elim (hsa.2 v) (hsb.2 v)⟩
    · refine ⟨by unfold bare; rw [List.length_append, List.length_replicate]; omega, fun v hv => ?_⟩
      rcases List.mem_append.1 hv with hv | hv
      · exact hsa.2 v hv
      · rw [List.eq_of_mem_replicate hv]
        unfold SmV N0
        simp only [e0]
        omega
end
end Go.D
set_option linter.unusedVariables false
namespace Go.D
structure RdOk (n : Int) (r : T_spec_l20Rd) : Prop where
  len : r.fB.length ≤ 2000
  lo : 0 ≤ r.fP
  hi : r.fP ≤ n
theorem RdOk.up {n m : Int} {r : T_spec_l20Rd} (h : RdOk n r) (hm : n ≤ m) : RdOk m r := ⟨h.len, h.lo, by have := h.hi; omega⟩
theorem remI_pos {a b : Int} (ha : 0 ≤ a) (hb : 0 < b) : ∃ k, remI a b = some k ∧ 0 ≤ k ∧ k < b := by
  unfold remI
  rw [if_neg (by omega)]
  refine ⟨_, rfl, ?_, ?_⟩
  · rw [Int.tmod_eq_emod_of_nonneg ha]
    exact Int.emod_nonneg _ (by omega)
  · rw [Int.tmod_eq_emod_of_nonneg ha]
    exact Int.emod_lt_of_pos _ hb
theorem quoI_pos {a b : Int} (ha : 0 ≤ a) (ha2 : a ≤ 4611686018427387904) (hb : 0 < b) : ∃ k, quoI a b = some k ∧ 0 ≤ k ∧ k ≤ a := by
  unfold quoI
  rw [if_neg (by omega), Int.tdiv_eq_ediv_of_nonneg ha]
  have h0 : 0 ≤ a / b := Int.ediv_nonneg ha (by omega)
  have h1 : a / b ≤ a := Int.ediv_le_self _ ha
  rw [w64_of (by omega) (by omega)]
  exact ⟨_, rfl, h0, h1⟩
theorem xor_w {a b : Int} (ha : 0 ≤ a) (hb : 0 ≤ b) (ha2 : a < 4611686018427387904) (hb2 : b < 4611686018427387904) : 0 ≤ w64 (((BitVec.ofInt 64 a ^^^ BitVec.ofInt 64 b).toNat : Nat) : Int) := by
  obtain ⟨m, rfl⟩ := Int.eq_ofNat_of_zero_le ha
  obtain ⟨n, rfl⟩ := Int.eq_ofNat_of_zero_le hb
  have hm : m < 2 ^ 62 := by omega
  have hn : n < 2 ^ 62 := by omega
  have e : (BitVec.ofInt 64 (m : Int) ^^^ BitVec.ofInt 64 (n : Int)).toNat = m ^^^ n := by
    rw [BitVec.toNat_xor, BitVec.ofInt_natCast, BitVec.ofInt_natCast, BitVec.toNat_ofNat, BitVec.toNat_ofNat, Nat.mod_eq_of_lt (by omega), Nat.mod_eq_of_lt (by omega)]
  rw [e]
  have := Nat.xor_lt_two_pow hm hn
  rw [w64_of (by omega) (by omega)]
  omega
theorem pick_ok {n : Int} {r : T_spec_l20Rd} (h : RdOk n r) (hn : n ≤ 1000000) (a : Int) : ∃ k r', spec_l20Rd_pick r a = some (k, r') ∧ RdOk (n + 1) r' ∧ 0 ≤ k ∧ (a < 1 → k = 0) ∧ (1 ≤ a → k < a) := by
  obtain ⟨fB, fP⟩ := r
  obtain ⟨h1, h2, h3⟩ := h
  simp only at h1 h2 h3
  have w1 : w64 (fP + 1) = fP + 1 := w64_of (by omega) (by omega)
  have w2 : w64 (fP + 1 - 1) = fP := by rw [show fP + 1 - 1 = fP by omega]; exact w64_of (by omega) (by omega)
  have hr : RdOk (n + 1) ⟨fB, fP + 1⟩ := ⟨h1, by simp only; omega, by simp only; omega⟩
  unfold spec_l20Rd_pick
  by_cases ha : a < 1
  · rw [decide_eq_true ha, cond_true]
    unfold spec_l20Rd_pick_j0
    simp only [cond_true, w1]
    exact ⟨0, _, rfl, hr, Int.le_refl _, fun _ => rfl, fun h => by omega⟩
  rw [decide_eq_false ha, cond_false]
  unfold spec_l20Rd_pick_j0
  simp only [w1, w2]
  by_cases hl : fB.length = 0
  · have : ((fB.length : Int) == 0) = true := by rw [hl]; rfl
    rw [this, cond_true]
    exact ⟨0, _, rfl, hr, Int.le_refl _, fun _ => rfl, fun h => by omega⟩
  have : ((fB.length : Int) == 0) = false := by
    rw [beq_eq_false_iff_ne]
    omega
  rw [this, cond_false]
  have hpos : (0 : Int) < fB.length := by omega
  by_cases hp : fP < (fB.length : Int)
  · rw [decide_eq_true hp, cond_true]
    obtain ⟨b, hb, _⟩ := getI_lt (xs := fB) h2 hp
    have hb8 : b.toNat < 256 := b.toNat_lt
    have w3 : w64 (b.toNat : Int) = b.toNat := w64_of (by omega) (by omega)
    obtain ⟨k, hk, k0, k1⟩ := remI_pos (a := (b.toNat : Int)) (b := a) (by omega) (by omega)
    rw [hb, Option.bind_some, w3, hk, Option.bind_some]
    exact ⟨k, _, rfl, hr, k0, fun h => by omega, fun _ => k1⟩
  · rw [decide_eq_false hp, cond_false]
    have w4 : w64 (fP * 7) = fP * 7 := w64_of (by omega) (by omega)
    have w5 : w64 (fP * 7 + 3) = fP * 7 + 3 := w64_of (by omega) (by omega)
    have w6 : w64 (fP * 29) = fP * 29 := w64_of (by omega) (by omega)
    obtain ⟨k1, e1, l1, u1⟩ := remI_pos (a := fP) (b := (fB.length : Int)) h2 hpos
    obtain ⟨b1, g1, _⟩ := getI_lt (xs := fB) l1 u1
    obtain ⟨k2, e2, l2, u2⟩ := remI_pos (a := fP * 7 + 3) (b := (fB.length : Int)) (by omega) hpos
    obtain ⟨b2, g2, _⟩ := getI_lt (xs := fB) l2 u2
    obtain ⟨k3, e3, l3, u3⟩ := quoI_pos (a := fP) (b := (fB.length : Int)) h2 (by omega) hpos
    have hb1 : b1.toNat < 256 := b1.toNat_lt
    have hb2 : b2.toNat < 256 := b2.toNat_lt
    have w7 : w64 (b1.toNat : Int) = b1.toNat := w64_of (by omega) (by omega)
    have w8 : w64 (b2.toNat : Int) = b2.toNat := w64_of (by omega) (by omega)
    have w9 : w64 ((b1.toNat : Int) * 131) = (b1.toNat : Int) * 131 := w64_of (by omega) (by omega)
    have w10 : w64 ((b2.toNat : Int) * 1117) = (b2.toNat : Int) * 1117 := w64_of (by omega) (by omega)
    have w11 : w64 ((b1.toNat : Int) * 131 + (b2.toNat : Int) * 1117) = (b1.toNat : Int) * 131 + (b2.toNat : Int) * 1117 := w64_of (by omega) (by omega)
    have w12 : w64 ((b1.toNat : Int) * 131 + (b2.toNat : Int) * 1117 + fP * 29) = (b1.toNat : Int) * 131 + (b2.toNat : Int) * 1117 + fP * 29 := w64_of (by omega) (by omega)
    have w13 : w64 (k3 * 53) = k3 * 53 := w64_of (by omega) (by omega)
    have w14 : w64 ((b1.toNat : Int) * 131 + (b2.toNat : Int) * 1117 + fP * 29 + k3 * 53) = (b1.toNat : Int) * 131 + (b2.toNat : Int) * 1117 + fP * 29 + k3 * 53 := w64_of (by omega) (by omega)
    simp only [w4, w5, w6, e1, g1, e2, g2, e3, Option.bind_some, w7, w8, w9, w10, w11, w12, w13, w14]
    generalize hx : (b1.toNat : Int) * 131 + (b2.toNat : Int) * 1117 + fP * 29 + k3 * 53 = x
    have x0 : 0 ≤ x := by omega
    have x1 : x ≤ 100000000 := by omega
    have y0 : 0 ≤ x.tdiv 64 := by rw [Int.tdiv_eq_ediv_of_nonneg x0]; omega
    have y1 : x.tdiv 64 ≤ x := by rw [Int.tdiv_eq_ediv_of_nonneg x0]; omega
    have w15 : w64 (x.tdiv 64) = x.tdiv 64 := w64_of (by omega) (by omega)
    rw [w15]
    obtain ⟨k, hk, k0, kk⟩ := remI_pos (b := a) (xor_w (a := x) (b := x.tdiv 64) x0 y0 (by omega) (by omega)) (by omega)
    rw [hk, Option.bind_some]
    exact ⟨k, _, rfl, hr, k0, fun h => by omega, fun _ => kk⟩
theorem open_ok {b : List UInt8} (hb : b.length ≤ 1048576) : ∃ r, spec_l20Open b = some r ∧ RdOk 0 r := by
  unfold spec_l20Open spec_l20Open_j0
  by_cases h : (b.length : Int) > 2000
  · rw [decide_eq_true h, cond_true]
    have e : slI b none (some 2000) none = some (b.take 2000) := by
      unfold slI
      rw [if_pos (by simp only [Option.getD_none, Option.getD_some]; omega)]
      simp
    rw [e, Option.bind_some]
    exact ⟨_, rfl, by simp only [List.length_take]; omega, Int.le_refl _, Int.le_refl _⟩
  · rw [decide_eq_false h, cond_false]
    exact ⟨_, rfl, by simp only; omega, Int.le_refl _, Int.le_refl _⟩
end Go.D
set_option linter.unusedVariables false
namespace Go.D
def Wp {α : Type} (m : Option (α × T_spec_l20Rd)) (Q : α → T_spec_l20Rd → Prop) : Prop := ∃ x r, m = some (x, r) ∧ Q x r
theorem wp_some {α : Type} {x : α} {r : T_spec_l20Rd} {Q : α → T_spec_l20Rd → Prop} (h : Q x r) : Wp (some (x, r)) Q := ⟨x, r, rfl, h⟩
theorem wp_pick {α : Type} {r : T_spec_l20Rd} {a n : Int} {f : Int × T_spec_l20Rd → Option (α × T_spec_l20Rd)} {Q : α → T_spec_l20Rd → Prop} (h : RdOk n r) (hn : n ≤ 1000000)
    (hk : ∀ k r', RdOk (n + 1) r' → 0 ≤ k → (a < 1 → k = 0) → (1 ≤ a → k < a) → Wp (f (k, r')) Q) : Wp ((spec_l20Rd_pick r a).bind f) Q := by
  obtain ⟨k, r', e, h1, h2, h3, h4⟩ := pick_ok h hn a
  rw [e, Option.bind_some]
  exact hk k r' h1 h2 h3 h4
theorem wp_bif {α : Type} {c : Bool} {a b : Option (α × T_spec_l20Rd)} {Q : α → T_spec_l20Rd → Prop} (h1 : c = true → Wp a Q) (h2 : c = false → Wp b Q) : Wp (bif c then a else b) Q := by
  cases c with
  | true => exact h1 rfl
  | false => exact h2 rfl
theorem wp_app {α β : Type} {xs ys : List β} {f : List β → Option (α × T_spec_l20Rd)} {Q : α → T_spec_l20Rd → Prop} (h : xs.length + ys.length < 68719476736) (hk : Wp (f (xs ++ ys)) Q) : Wp ((app xs ys).bind f) Q := by
  rw [app_lt h, Option.bind_some]
  exact hk
theorem wp_getI {α β : Type} {xs : List β} {i : Int} {f : β → Option (α × T_spec_l20Rd)} {Q : α → T_spec_l20Rd → Prop} (h0 : 0 ≤ i) (h1 : i < xs.length) (hk : ∀ x ∈ xs, Wp (f x) Q) : Wp ((getI xs i).bind f) Q := by
  obtain ⟨x, h, hx⟩ := getI_lt h0 h1
  rw [h, Option.bind_some]
  exact hk x (List.mem_of_getElem? hx)
theorem wp_then {α β : Type} {m : Option (β × T_spec_l20Rd)} {f : β × T_spec_l20Rd → Option (α × T_spec_l20Rd)} {P : β → T_spec_l20Rd → Prop} {Q : α → T_spec_l20Rd → Prop} (h : Wp m P) (hk : ∀ x r, P x r → Wp (f (x, r)) Q) : Wp (m.bind f) Q := by
  obtain ⟨x, r, e, hp⟩ := h
  rw [e, Option.bind_some]
  exact hk x r hp
theorem loop_down {σ β : Type} {L : Nat → Int → σ → Option (β × T_spec_l20Rd)} {Q : β → T_spec_l20Rd → Prop} (Inv : Nat → σ → Prop)
    (h : ∀ (f k : Nat) (s : σ), k ≤ 1000000 → w64 (((k + 1 : Nat) : Int) - 1) = (k : Int) → Inv (k + 1) s → (∀ s', Inv k s' → Wp (L f (k : Int) s') Q) → Wp (L (f + 1) ((k + 1 : Nat) : Int) s) Q)
    (he : ∀ (f : Nat) (s : σ), Inv 0 s → Wp (L (f + 1) 0 s) Q) (k : Nat) (s : σ) (hI : Inv k s) (hk : k ≤ 1000000) : Wp (L FUEL (k : Int) s) Q := by
  have main : ∀ (k f : Nat) (s : σ), k < f → k ≤ 1000000 → Inv k s → Wp (L f (k : Int) s) Q := by
    intro k
    induction k with
    | zero =>
      intro f s hf _ hI
      obtain ⟨f, rfl⟩ : ∃ f', f = f' + 1 := ⟨f - 1, by omega⟩
      exact he f s hI
    | succ k ih =>
      intro f s hf hk hI
      obtain ⟨f, rfl⟩ : ∃ f', f = f' + 1 := ⟨f - 1, by omega⟩
      exact h f k s (by omega) (by rw [w64_of] <;> omega) hI fun s' hI' => ih f s' (by omega) (by omega) hI'
  exact main k FUEL s (by unfold FUEL; omega) hk hI
theorem like_ok {n : Int} {r : T_spec_l20Rd} (h : RdOk n r) (hn : n ≤ 900000) (c : T_impl_Column) : Wp (spec_l20Like r c) fun v r' => RdOk (n + 2) r' ∧ v.fS.size ≤ 2 := by
  have e0 : (ByteArray.mk #[]).size = 0 := rfl
  have key : ∀ (m : Int) (r : T_spec_l20Rd) (b : Bool), RdOk m r → m ≤ n + 1 → Wp (spec_l20Like_j0 c b r) fun v r' => RdOk (n + 2) r' ∧ v.fS.size ≤ 2 := by
    intro m r b h hm
    unfold spec_l20Like_j0
    refine wp_bif (fun _ => wp_some ⟨h.up (by omega), by simp [e0]⟩) fun _ => wp_bif (fun _ => ?_) fun _ => wp_bif (fun _ => ?_) fun _ => ?_
    · exact wp_pick h (by omega) fun k r1 h1 _ _ _ => wp_some ⟨h1.up (by omega), by simp [e0]⟩
    · refine wp_pick h (by omega) fun k r1 h1 p0 _ p1 => wp_getI p0 (by have := p1 (by omega); simp; omega) fun s hs => wp_some ⟨h1.up (by omega), ?_⟩
      simp only [List.mem_cons, List.not_mem_nil, or_false] at hs
      rcases hs with rfl | rfl | rfl | rfl <;> decide
    · exact wp_pick h (by omega) fun k r1 h1 _ _ _ => wp_some ⟨h1.up (by omega), by simp [e0]⟩
  unfold spec_l20Like
  refine wp_bif (fun _ => wp_pick h (by omega) fun k r1 h1 _ _ _ => key _ _ _ h1 (by omega)) fun _ => key _ _ _ h (by omega)
end Go.D
set_option linter.unusedVariables false
namespace Go.D
end Go.D
set_option linter.unusedVariables false
namespace Go.D
theorem loop_up {γ σ β : Type} {xs : List γ} {L : Nat → Int → σ → Option (β × T_spec_l20Rd)} {Q : β → T_spec_l20Rd → Prop} (Inv : Nat → σ → Prop) (hlen : xs.length ≤ 1000000)
    (h : ∀ (f i : Nat) (s : σ) (v : γ), i < xs.length → xs[i]? = some v → w64 ((i : Int) + 1) = ((i + 1 : Nat) : Int) → Inv i s → (∀ s', Inv (i + 1) s' → Wp (L f ((i + 1 : Nat) : Int) s') Q) → Wp (L (f + 1) (i : Int) s) Q)
    (he : ∀ (f : Nat) (s : σ), Inv xs.length s → Wp (L (f + 1) (xs.length : Int) s) Q) (s : σ) (h0 : Inv 0 s) : Wp (L FUEL 0 s) Q := by
  have main : ∀ (k f i : Nat) (s : σ), i + k = xs.length → k < f → Inv i s → Wp (L f (i : Int) s) Q := by
    intro k
    induction k with
    | zero =>
      intro f i s hi hf hI
      obtain ⟨f, rfl⟩ : ∃ f', f = f' + 1 := ⟨f - 1, by omega⟩
      have : i = xs.length := by omega
      subst this
      exact he f s hI
    | succ k ih =>
      intro f i s hi hf hI
      obtain ⟨f, rfl⟩ : ∃ f', f = f' + 1 := ⟨f - 1, by omega⟩
      have hlt : i < xs.length := by omega
      exact h f i s xs[i] hlt (List.getElem?_eq_getElem hlt) (succ_w hlt (by omega)) hI fun s' hI' => ih f (i + 1) s' (by omega) (by omega) hI'
  exact main xs.length FUEL 0 s (by omega) (by unfold FUEL; omega) h0
def Sr (m : Nat) (row : List T_impl_Value) : Prop := row.length ≤ m ∧ ∀ v ∈ row, v.fS.size ≤ 10
theorem Sr.sm {m : Nat} {row : List T_impl_Value} (h : Sr m row) (hm : m ≤ 1000) : SmR row := ⟨by have := h.1; omega, fun v hv => by have := h.2 v hv; unfold SmV; omega⟩
theorem Sr.app {m k : Nat} {row r2 : List T_impl_Value} (h : Sr m row) (h2 : Sr k r2) : Sr (m + k) (row ++ r2) := ⟨by have := h.1; have := h2.1; rw [List.length_append]; omega, fun v hv => (List.mem_append.1 hv).elim (h.2 v) (h2.2 v)⟩
theorem Sr.one {v : T_impl_Value} (h : v.fS.size ≤ 10) : Sr 1 [v] := ⟨by simp, fun u hu => by simp at hu; subst hu; exact h⟩
theorem own_ok {a : List T_impl_Value} (ha : Sr 9 a) : spec_l3Own a = some a := by
  unfold spec_l3Own
  rw [app_lt (by have := ha.1; simp; omega), List.nil_append, Option.bind_some]
end Go.D
set_option linter.unusedVariables false
namespace Go.D
theorem leaf_ok {n : Int} {r : T_spec_l20Rd} (h : RdOk n r) (hn : n ≤ 400000) (cs : List T_impl_Column) (hc : cs.length ≤ 100) (kd : Int) : Wp (spec_l20Leaf r cs kd) fun p r' => RdOk (n + 10) r' ∧ SmP p := by
  unfold spec_l20Leaf
  have e0 : (ByteArray.mk #[]).size = 0 := rfl
  have j1 : ∀ (m : Int) (r : T_spec_l20Rd) (x : Int) (K : Int → T_spec_l20Rd → Option (T_impl_Part × T_spec_l20Rd)) (b : Bool), RdOk m r → m ≤ n + 8 → (b = true → 0 < cs.length) → (b = true → ∀ r', RdOk (m + 2) r' → Wp (K (w64 (x + 1)) r') fun p r' => RdOk (n + 10) r' ∧ SmP p) →
      Wp (spec_l20Leaf_j1 cs kd x r K b) fun p r' => RdOk (n + 10) r' ∧ SmP p := by
    intro m r x K b hr hm hb hK
    unfold spec_l20Leaf_j1
    refine wp_bif (fun hbt => ?_) fun _ => wp_then (like_ok hr (by omega) _) fun v r1 hq => wp_some ⟨hq.1.up (by omega), by have := hq.2; unfold SmP SmV; simp only; omega⟩
    have hpos := hb hbt
    refine wp_pick hr (by omega) fun k r1 g1 p0 _ p1 => wp_getI p0 (p1 (by omega)) fun c _ => ?_
    have j2 : ∀ (r2 : T_spec_l20Rd) (b2 : Bool), RdOk (m + 2) r2 → Wp (spec_l20Leaf_j2 x K (k, r1) b2 r2) fun p r' => RdOk (n + 10) r' ∧ SmP p := by
      intro r2 b2 h2
      unfold spec_l20Leaf_j2
      exact wp_bif (fun _ => wp_some ⟨h2.up (by omega), by unfold SmP SmV; simp only [e0]; omega⟩) fun _ => hK hbt r2 h2
    refine wp_bif (fun _ => wp_pick g1 (by omega) fun k2 r2 g2 _ _ _ => j2 _ _ (g2.up (by omega))) fun _ => j2 _ _ (g1.up (by omega))
  have main : ∀ (k f : Nat) (i : Nat) (r : T_spec_l20Rd), i + k = 4 → k < f → RdOk (n + 2 * i) r → Wp (spec_l20Leaf_l0 cs kd f (i : Int) r) fun p r' => RdOk (n + 10) r' ∧ SmP p := by
    intro k
    induction k with
    | zero =>
      intro f i r hi hf hr
      obtain ⟨f, rfl⟩ : ∃ f', f = f' + 1 := ⟨f - 1, by omega⟩
      rw [spec_l20Leaf_l0, decide_eq_false (by omega), cond_false]
      exact j1 _ _ _ _ _ hr (by omega) (fun h => by cases h) (fun h => by cases h)
    | succ k ih =>
      intro f i r hi hf hr
      obtain ⟨f, rfl⟩ : ∃ f', f = f' + 1 := ⟨f - 1, by omega⟩
      have hw : w64 ((i : Int) + 1) = ((i + 1 : Nat) : Int) := by rw [w64_of] <;> omega
      rw [spec_l20Leaf_l0, decide_eq_true (by omega), cond_true]
      refine j1 _ _ _ _ _ hr (by omega) (fun h => by have := of_decide_eq_true h; omega) (fun _ r' hr' => ?_)
      rw [hw]
      exact ih f (i + 1) r' (by omega) (by omega) (hr'.up (by omega))
  exact main 4 FUEL 0 r rfl (by unfold FUEL; omega) (h.up (by simp))
def costE : Nat → Int
  | 0 => 12
  | d + 1 => 2 * costE d + 24
def lenE : Nat → Nat
  | 0 => 1
  | d + 1 => 2 * lenE d + 2
theorem costE_pos : ∀ d, 12 ≤ costE d
  | 0 => by simp [costE]
  | d + 1 => by have := costE_pos d; simp only [costE]; omega
theorem lenE_pos : ∀ d, 1 ≤ lenE d
  | 0 => by simp [lenE]
  | d + 1 => by simp only [lenE]; omega
def ExOk (l : Nat) (e : List T_impl_Part) : Prop := e.length ≤ l ∧ ∀ p ∈ e, SmP p
theorem ExOk.app {k l : Nat} {a b : List T_impl_Part} (h : ExOk k a) (h2 : ExOk l b) : ExOk (k + l) (a ++ b) := ⟨by have := h.1; have := h2.1; rw [List.length_append]; omega, fun v hv => (List.mem_append.1 hv).elim (h.2 v) (h2.2 v)⟩
theorem ExOk.one {p : T_impl_Part} (h : SmP p) : ExOk 1 [p] := ⟨by simp, fun u hu => by simp at hu; subst hu; exact h⟩
theorem ExOk.up {k l : Nat} {a : List T_impl_Part} (h : ExOk k a) (hl : k ≤ l) : ExOk l a := ⟨Nat.le_trans h.1 hl, h.2⟩
theorem smP_op (k n : Int) : SmP (T_impl_Part.mk k n (T_impl_Value.mk 0 0 (ByteArray.mk #[]))) := by
  have e0 : (ByteArray.mk #[]).size = 0 := rfl
  unfold SmP SmV
  simp only [e0]
  omega
theorem expr_ok {cs : List T_impl_Column} (hc : cs.length ≤ 100) : ∀ (d f : Nat) (n : Int) (r : T_spec_l20Rd) (kd a : Int), d ≤ 4 → d < f → a ≤ d → -5 ≤ a → RdOk n r → n + costE d ≤ 300000 → Wp (spec_l20Expr_f f r cs kd a) fun e r' => RdOk (n + costE d) r' ∧ ExOk (lenE d) e
  | d, 0, n, r, kd, a, _, hf, _, _, _, _ => absurd hf (Nat.not_lt_zero _)
  | 0, f + 1, n, r, kd, a, _, _, ha, _, hr, hn => by
    have c0 : costE 0 = 12 := rfl
    rw [spec_l20Expr_f]
    unfold spec_l20Expr_s
    rw [decide_eq_true (by omega), cond_true]
    unfold spec_l20Expr_j0
    rw [cond_true]
    exact wp_then (leaf_ok hr (by omega) cs hc kd) fun p r1 hq => wp_some ⟨hq.1.up (by omega), (ExOk.one hq.2).up (by simp [lenE])⟩
  | d + 1, f + 1, n, r, kd, a, hd, hf, ha, ha2, hr, hn => by
    have cp := costE_pos d
    have lp := lenE_pos d
    have c4 : costE d ≤ 500 := by
      match d, hd with
      | 0, _ => simp [costE]
      | 1, _ => simp [costE]
      | 2, _ => simp [costE]
      | 3, _ => simp [costE]
    have ce : costE (d + 1) = 2 * costE d + 24 := rfl
    have le : lenE (d + 1) = 2 * lenE d + 2 := rfl
    have l4 : lenE d ≤ 100 := by
      match d, hd with
      | 0, _ => simp [lenE]
      | 1, _ => simp [lenE]
      | 2, _ => simp [lenE]
      | 3, _ => simp [lenE]
    have leafE : ∀ (m : Int) (r : T_spec_l20Rd) (k : Int), RdOk m r → m ≤ n + 2 → Wp ((spec_l20Leaf r cs k).bind fun v4 => some (([v4.1] : List T_impl_Part), v4.2)) fun e r' => RdOk (n + costE (d + 1)) r' ∧ ExOk (lenE (d + 1)) e := by
      intro m r k hr hm
      exact wp_then (leaf_ok hr (by omega) cs hc k) fun p r1 hq => wp_some ⟨hq.1.up (by omega), (ExOk.one hq.2).up (by omega)⟩
    rw [spec_l20Expr_f]
    unfold spec_l20Expr_s
    by_cases h1 : a < 1
    · rw [decide_eq_true h1, cond_true]
      unfold spec_l20Expr_j0
      rw [cond_true]
      exact leafE _ _ _ hr (by omega)
    rw [decide_eq_false h1, cond_false]
    have w1 : w64 (a - 1) = a - 1 := w64_of (by omega) (by omega)
    have w2 : w64 (a - 2) = a - 2 := w64_of (by omega) (by omega)
    have ih := fun (n : Int) (r : T_spec_l20Rd) (k b : Int) (hb : b ≤ d) (hb2 : -5 ≤ b) (hr : RdOk n r) (hn : n + costE d ≤ 300000) => expr_ok hc d f n r k b (by omega) (by omega) hb hb2 hr hn
    refine wp_pick hr (by omega) fun k0 r0 g0 _ _ _ => ?_
    unfold spec_l20Expr_j0
    simp only [w1, w2]
    refine wp_bif (fun _ => leafE _ _ _ g0 (by omega)) fun _ => wp_bif (fun _ => ?_) fun _ => wp_bif (fun _ => leafE _ _ _ g0 (by omega)) fun _ => ?_
    · refine wp_then (ih _ _ kd (a - 1) (by omega) (by omega) g0 (by omega)) fun e1 r1 q1 => wp_then (leaf_ok q1.1 (by omega) cs hc kd) fun p r2 q2 => ?_
      have x1 := q1.2.app (ExOk.one q2.2)
      have x2 := x1.app (ExOk.one (smP_op 3 0))
      have l1 := q1.2.1
      refine wp_app (by simp; omega) (wp_app (by simp; omega) (wp_some ⟨q2.1.up (by omega), x2.up (by omega)⟩))
    · refine wp_pick g0 (by omega) fun k1 r1 g1 _ _ _ => wp_bif (fun _ => ?_) fun _ => wp_bif (fun _ => ?_) fun _ => wp_bif (fun _ => ?_) fun _ => ?_
      · refine wp_then (ih _ _ 3 (a - 1) (by omega) (by omega) g1 (by omega)) fun e1 r2 q1 => wp_then (ih _ _ 3 (a - 2) (by omega) (by omega) q1.1 (by omega)) fun e2 r3 q2 => ?_
        have l1 := q1.2.1
        have l2 := q2.2.1
        refine wp_app (by (try simp only); omega) (wp_pick q2.1 (by omega) fun k2 r4 g4 _ _ _ => wp_app (by simp; omega) (wp_some ⟨g4.up (by omega), ((q1.2.app q2.2).app (ExOk.one (smP_op _ 0))).up (by omega)⟩))
      · refine wp_then (ih _ _ 3 (a - 1) (by omega) (by omega) g1 (by omega)) fun e1 r2 q1 => ?_
        have l1 := q1.2.1
        exact wp_app (by simp; omega) (wp_some ⟨q1.1.up (by omega), (q1.2.app (ExOk.one (smP_op _ 0))).up (by omega)⟩)
      · refine wp_pick g1 (by omega) fun k2 r2 g2 _ _ _ => wp_then (ih _ _ _ (a - 1) (by omega) (by omega) g2 (by omega)) fun e1 r3 q1 => ?_
        have l1 := q1.2.1
        exact wp_app (by simp; omega) (wp_some ⟨q1.1.up (by omega), (q1.2.app (ExOk.one (smP_op _ 0))).up (by omega)⟩)
      · refine wp_pick g1 (by omega) fun k2 r2 g2 _ _ _ => wp_then (ih _ _ _ (a - 1) (by omega) (by omega) g2 (by omega)) fun e1 r3 q1 => wp_then (leaf_ok q1.1 (by omega) cs hc _) fun p r4 q2 => ?_
        have l1 := q1.2.1
        refine wp_app (by simp; omega) (wp_pick q2.1 (by omega) fun k3 r5 g5 _ _ _ => wp_app (by simp; omega) (wp_some ⟨g5.up (by omega), ((q1.2.app (ExOk.one q2.2)).app (ExOk.one (smP_op _ _))).up (by omega)⟩))
end Go.D
set_option linter.unusedVariables false
namespace Go.D
theorem wp_front {α β : Type} {xs : List β} {n : Int} {f : List β → Option (α × T_spec_l20Rd)} {Q : α → T_spec_l20Rd → Prop} (h0 : 0 ≤ n) (h1 : n ≤ xs.length) (hk : Wp (f (xs.take n.toNat)) Q) : Wp ((slI xs none (some n) none).bind f) Q := by
  have e : slI xs none (some n) none = some (xs.take n.toNat) := by
    unfold slI
    rw [if_pos (by simp only [Option.getD_none, Option.getD_some]; omega)]
    simp
  rw [e, Option.bind_some]
  exact hk
theorem wp_rem {α : Type} {a b : Int} {f : Int → Option (α × T_spec_l20Rd)} {Q : α → T_spec_l20Rd → Prop} (ha : 0 ≤ a) (hb : 0 < b) (hk : ∀ k, 0 ≤ k → k < b → Wp (f k) Q) : Wp ((remI a b).bind f) Q := by
  obtain ⟨k, e, h0, h1⟩ := remI_pos ha hb
  rw [e, Option.bind_some]
  exact hk k h0 h1
theorem wp_appT {α β : Type} {xs ys : List β} {f : List β → Option (α × T_spec_l20Rd)} {Q : α → T_spec_l20Rd → Prop} (h : xs.length + ys.length < 68719476736) (hk : Wp (f (xs ++ ys)) Q) : Wp ((appT xs ys xs.length).bind f) Q := by
  have e : appT xs ys xs.length = some (xs ++ ys) := by
    unfold appT
    rw [if_pos h, List.take_length]
  rw [e, Option.bind_some]
  exact hk
theorem fitL_l0 (cs : List T_impl_Column) (a : Int) : ∀ f, spec_l20Fit_L1_l0 cs a f = spec_l20Fit_l0 cs a f
  | 0 => by funext i r row; rfl
  | f + 1 => by funext i r row; rw [spec_l20Fit_L1_l0, spec_l20Fit_l0, fitL_l0 cs a f]
theorem fitL : spec_l20Fit_L1 = spec_l20Fit := by
  funext r cs a
  unfold spec_l20Fit_L1 spec_l20Fit
  rw [fitL_l0]
theorem bagL_j2 : spec_l20Bag_L1_j2 = spec_l20Bag_j2 := by
  funext cs a i rows K b r
  unfold spec_l20Bag_L1_j2 spec_l20Bag_j2
  rw [fitL]
  rfl
theorem bagL_l0 (cs : List T_impl_Column) (a : Int) : ∀ f, spec_l20Bag_L1_l0 cs a f = spec_l20Bag_l0 cs a f
  | 0 => by funext i r row; rfl
  | f + 1 => by funext i r row; rw [spec_l20Bag_L1_l0, spec_l20Bag_l0, bagL_l0 cs a f, bagL_j2]
theorem bagL : spec_l20Bag_L1 = spec_l20Bag := by
  funext r cs a
  unfold spec_l20Bag_L1 spec_l20Bag
  rw [bagL_l0]
def Srn (n : Nat) (rows : List (List T_impl_Value)) : Prop := rows.length ≤ n ∧ ∀ r ∈ rows, Sr 9 r
theorem Srn.app {m k : Nat} {a b : List (List T_impl_Value)} (h : Srn m a) (h2 : Srn k b) : Srn (m + k) (a ++ b) := ⟨by have := h.1; have := h2.1; rw [List.length_append]; omega, fun v hv => (List.mem_append.1 hv).elim (h.2 v) (h2.2 v)⟩
theorem Srn.up {m k : Nat} {a : List (List T_impl_Value)} (h : Srn m a) (hm : m ≤ k) : Srn k a := ⟨Nat.le_trans h.1 hm, h.2⟩
theorem Srn.sm {m : Nat} {a : List (List T_impl_Value)} (h : Srn m a) (hm : m ≤ 1000) : SmRs a := ⟨by have := h.1; omega, fun r hr => (h.2 r hr).sm (by omega)⟩
abbrev PairT := (List T_impl_Column) × (List T_impl_Column) × (List (List T_impl_Value)) × (List (List T_impl_Value)) × Int × Int
structure PairOk (x : PairT) : Prop where
  a1 : 1 ≤ x.1.length
  a2 : x.1.length ≤ 6
  b1 : 1 ≤ x.2.1.length
  b2 : x.2.1.length ≤ 6
  ra : Srn 12 x.2.2.1
  rb : Srn 7 x.2.2.2.1
abbrev TestT := (List T_impl_Column) × (List T_impl_Column) × (List (List T_impl_Value)) × (List (List T_impl_Value)) × (List T_impl_Part)
structure TestOk (x : TestT) : Prop where
  a1 : 1 ≤ x.1.length
  a2 : x.1.length ≤ 6
  b1 : 1 ≤ x.2.1.length
  b2 : x.2.1.length ≤ 7
  ra : Srn 13 x.2.2.1
  rb : Srn 7 x.2.2.2.1
  ex : ExOk 100 x.2.2.2.2
theorem TestOk.sides {x : TestT} (h : TestOk x) : Sides x.1 x.2.1 x.2.2.1 x.2.2.2.1 x.2.2.2.2 :=
  ⟨by have := h.a2; omega, by have := h.b2; omega, h.ra.sm (by omega), h.rb.sm (by omega), by have := h.ex.1; omega, h.ex.2⟩
end Go.D
set_option linter.unusedVariables false
namespace Go.D
theorem wp_odd0 {α : Type} {r : T_spec_l20Rd} {f : Bool × T_spec_l20Rd → Option (α × T_spec_l20Rd)} {Q : α → T_spec_l20Rd → Prop} (hk : Wp (f (false, r)) Q) : Wp ((spec_l20Rd_odd r 0).bind f) Q := hk
def KC (cs : List T_impl_Column) : Prop := ∀ c ∈ cs, inR c.fKind 1 3 = true
theorem KC.app {a b : List T_impl_Column} (h : KC a) (h2 : KC b) : KC (a ++ b) := fun c hc => (List.mem_append.1 hc).elim (h c) (h2 c)
theorem KC.take {a : List T_impl_Column} (h : KC a) (n : Nat) : KC (a.take n) := fun c hc => h c (List.mem_of_mem_take hc)
theorem KC.set {a : List T_impl_Column} (h : KC a) (i : Nat) {c : T_impl_Column} (hc : inR c.fKind 1 3 = true) : KC (a.set i c) := fun d hd => (List.mem_or_eq_of_mem_set hd).elim (h d) fun e => e ▸ hc
structure FitR (cs : List T_impl_Column) (r : List T_impl_Value) : Prop where
  l : r.length = cs.length
  v : ∀ v ∈ r, valOk v = true
  z : ((r.zip cs).all fun p => fits p.2 p.1) = true
theorem FitR.snoc {cs : List T_impl_Column} {r : List T_impl_Value} {i : Nat} {c : T_impl_Column} {v : T_impl_Value} (h : FitR (cs.take i) r) (hc : cs[i]? = some c) (hv : valOk v = true) (hf : fits c v = true) : FitR (cs.take (i + 1)) (r ++ [v]) := by
  have e : cs.take (i + 1) = cs.take i ++ [c] := by rw [List.take_add_one, hc]; rfl
  rw [e]
  refine ⟨by rw [List.length_append, List.length_append, h.l]; rfl, fun u hu => ?_, ?_⟩
  · rcases List.mem_append.1 hu with hu | hu
    · exact h.v u hu
    · have : u = v := by simpa using hu
      rw [this]; exact hv
  · rw [List.zip_append h.l, List.all_append, h.z]
    simpa using hf
theorem FitR.rowFits {cs : List T_impl_Column} {r : List T_impl_Value} (h : FitR cs r) (hc : colsOk cs = true) : rowFits cs r = true := by
  have hl : cs.length ≤ 4 := by
    unfold colsOk at hc
    simp only [Bool.and_eq_true, decide_eq_true_eq] at hc
    exact hc.2
  unfold Go.D.rowFits rowOk
  rw [hc, h.z, List.all_eq_true.2 h.v, decide_eq_true (show r.length ≤ 4 by rw [h.l]; exact hl), h.l, beq_self_eq_true]
  rfl
theorem columns_fit {n : Int} {r : T_spec_l20Rd} (h : RdOk n r) (hn : n ≤ 900000) : Wp (spec_l20Columns r 0) fun cs r' => RdOk (n + 9) r' ∧ (1 ≤ cs.length ∧ cs.length ≤ 6) ∧ KC cs := by
  unfold spec_l20Columns
  refine wp_pick h (by omega) fun v r1 h1 v0 _ v1 => ?_
  have v1 := v1 (by omega)
  have e : w64 (1 + v) = ((v.toNat + 1 : Nat) : Int) := by rw [w64_of (by omega) (by omega)]; omega
  simp only
  rw [e]
  have := loop_down (L := fun f i (s : T_spec_l20Rd × List T_impl_Column) => spec_l20Columns_l0 0 f i s.1 s.2) (Q := fun cs r' => RdOk (n + 9) r' ∧ (1 ≤ cs.length ∧ cs.length ≤ 6) ∧ KC cs)
    (fun k s => RdOk (n + 1 + 2 * (3 - k)) s.1 ∧ s.2.length + k = v.toNat + 1 ∧ KC s.2)
    (fun f k s hk hw hI hrec => by
      obtain ⟨r, xs⟩ := s
      obtain ⟨hI1, hI2, hI3⟩ := hI
      simp only at hI1 hI2 hI3 ⊢
      rw [spec_l20Columns_l0, decide_eq_true (by omega), cond_true]
      refine wp_pick hI1 (by omega) fun k1 r1 h1 p0 _ p1 => ?_
      refine wp_getI p0 (by have := p1 (by omega); simp; omega) fun c hc => ?_
      refine wp_pick h1 (by omega) fun k2 r2 h2 q0 _ q1 => ?_
      refine wp_app (by simp; omega) ?_
      simp only [hw]
      refine hrec (r2, _) ⟨h2.up (by (try simp only); omega), by simp; omega, hI3.app fun d hd => ?_⟩
      have : d = T_impl_Column.mk c (decide (k2 > 0)) := by simpa using hd
      subst this
      simp only [List.mem_cons, List.not_mem_nil, or_false] at hc
      rcases hc with rfl | rfl | rfl | rfl <;> rfl)
    (fun f s hI => by
      obtain ⟨r, xs⟩ := s
      obtain ⟨hI1, hI2, hI3⟩ := hI
      simp only at hI1 hI2 hI3 ⊢
      rw [spec_l20Columns_l0, decide_eq_false (by omega), cond_false]
      exact wp_odd0 (wp_some ⟨hI1.up (by omega), ⟨by omega, by omega⟩, hI3⟩))
    (v.toNat + 1) (r1, []) ⟨h1.up (by (try simp only); omega), by simp, fun c hc => by cases hc⟩ (by omega)
  exact this
theorem like_fit {n : Int} {r : T_spec_l20Rd} (h : RdOk n r) (hn : n ≤ 900000) {c : T_impl_Column} (hc : inR c.fKind 1 3 = true) : Wp (spec_l20Like r c) fun v r' => RdOk (n + 2) r' ∧ v.fS.size ≤ 2 ∧ valOk v = true ∧ fits c v = true := by
  have e0 : (ByteArray.mk #[]).size = 0 := rfl
  have key : ∀ (m : Int) (r : T_spec_l20Rd) (b : Bool), RdOk m r → m ≤ n + 1 → (b = true → c.fEmpty = true) → Wp (spec_l20Like_j0 c b r) fun v r' => RdOk (n + 2) r' ∧ v.fS.size ≤ 2 ∧ valOk v = true ∧ fits c v = true := by
    intro m r b h hm hb
    unfold spec_l20Like_j0
    refine wp_bif (fun hbt => wp_some ⟨h.up (by omega), by simp [e0], by unfold valOk; simp, ?_⟩) fun _ => wp_bif (fun hk => ?_) fun hk1 => wp_bif (fun hk => ?_) fun hk2 => ?_
    · unfold fits; rw [hb hbt]; simp
    · refine wp_pick h (by omega) fun k r1 h1 p0 _ p1 => wp_some ⟨h1.up (by omega), by simp [e0], ?_, ?_⟩
      · have := p1 (by omega)
        have : inR k (-9999) 9999 = true := by unfold inR; simp; omega
        show (inR k (-9999) 9999 && _) = true
        rw [this, Bool.true_and]
        exact beq_self_eq_true _
      · unfold fits; rw [eq_of_beq hk]; rfl
    · refine wp_pick h (by omega) fun k r1 h1 p0 _ p1 => wp_getI p0 (by have := p1 (by omega); simp; omega) fun s hs => wp_some ⟨h1.up (by omega), ?_, ?_, ?_⟩
      · simp only [List.mem_cons, List.not_mem_nil, or_false] at hs
        rcases hs with rfl | rfl | rfl | rfl <;> decide
      · simp only [List.mem_cons, List.not_mem_nil, or_false] at hs
        rcases hs with rfl | rfl | rfl | rfl <;> rfl
      · unfold fits; rw [eq_of_beq hk]; rfl
    · refine wp_pick h (by omega) fun k r1 h1 p0 _ p1 => wp_some ⟨h1.up (by omega), by simp [e0], ?_, ?_⟩
      · have := p1 (by omega)
        have : inR k 0 1 = true := by unfold inR; simp; omega
        show (inR k 0 1 && _) = true
        rw [this, Bool.true_and]
        exact beq_self_eq_true _
      · have : c.fKind = 3 := by
          unfold inR at hc
          simp at hc hk1 hk2
          omega
        unfold fits; rw [this]; rfl
  unfold spec_l20Like
  refine wp_bif (fun he => wp_pick h (by omega) fun k r1 h1 _ _ _ => key _ _ _ h1 (by omega) fun _ => he) fun _ => key _ _ _ h (by omega) (fun h => by cases h)
theorem row_fit {n : Int} {r : T_spec_l20Rd} (h : RdOk n r) (hn : n ≤ 700000) {cs : List T_impl_Column} (hc : cs.length ≤ 6) (hk : KC cs) : Wp (spec_l20Fit r cs 0) fun row r' => RdOk (n + 41) r' ∧ Sr 9 row ∧ FitR cs row := by
  unfold spec_l20Fit
  have e0 : (ByteArray.mk #[]).size = 0 := rfl
  exact loop_up (xs := cs) (L := fun f i (s : T_spec_l20Rd × List T_impl_Value) => spec_l20Fit_l0 cs 0 f i s.1 s.2) (Q := fun row r' => RdOk (n + 41) r' ∧ Sr 9 row ∧ FitR cs row)
    (fun i s => RdOk (n + 2 * i) s.1 ∧ Sr i s.2 ∧ s.2.length = i ∧ FitR (cs.take i) s.2) (by omega)
    (fun f i s c hi hv hw hI hrec => by
      obtain ⟨r, row⟩ := s
      obtain ⟨h1, h2, h3, h4⟩ := hI
      simp only at h1 h2 h3 h4 ⊢
      rw [spec_l20Fit_l0, decide_eq_true (by omega), cond_true, getI_nat, hv, Option.bind_some]
      refine wp_then (like_fit h1 (by omega) (hk c (List.mem_of_getElem? hv))) fun v r1 hq => wp_app (by simp; omega) ?_
      simp only [hw]
      exact hrec (r1, _) ⟨hq.1.up (by omega), h2.app (.one (Nat.le_trans hq.2.1 (by omega))), by simp; omega, h4.snoc hv hq.2.2.1 hq.2.2.2⟩)
    (fun f s hI => by
      obtain ⟨r, row⟩ := s
      obtain ⟨h1, h2, h3, h4⟩ := hI
      simp only at h1 h2 h3 h4 ⊢
      rw [List.take_length] at h4
      rw [spec_l20Fit_l0, decide_eq_false (Int.lt_irrefl _), cond_false]
      exact wp_odd0 (wp_some ⟨h1.up (by omega), ⟨by omega, h2.2⟩, h4⟩)) (r, []) ⟨h.up (by simp), ⟨by simp, fun v hv => by cases hv⟩, rfl, ⟨rfl, fun v hv => (by cases hv), rfl⟩⟩
def Fn (n : Nat) (cs : List T_impl_Column) (rows : List (List T_impl_Value)) : Prop := rows.length ≤ n ∧ ∀ r ∈ rows, Sr 9 r ∧ FitR cs r
theorem Fn.srn {n : Nat} {cs : List T_impl_Column} {rows : List (List T_impl_Value)} (h : Fn n cs rows) : Srn n rows := ⟨h.1, fun r hr => (h.2 r hr).1⟩
theorem Fn.app {m k : Nat} {cs : List T_impl_Column} {a b : List (List T_impl_Value)} (h : Fn m cs a) (h2 : Fn k cs b) : Fn (m + k) cs (a ++ b) := ⟨by have := h.1; have := h2.1; rw [List.length_append]; omega, fun v hv => (List.mem_append.1 hv).elim (h.2 v) (h2.2 v)⟩
theorem Fn.rows {n : Nat} {cs : List T_impl_Column} {rows : List (List T_impl_Value)} (h : Fn n cs rows) (hc : colsOk cs = true) : rowsOk cs rows = true := by
  unfold rowsOk
  rw [hc, List.all_eq_true.2 fun r hr => (h.2 r hr).2.rowFits hc]
  rfl
theorem bag_fit {n : Int} {r : T_spec_l20Rd} (h : RdOk n r) (hn : n ≤ 600000) {cs : List T_impl_Column} (hc : cs.length ≤ 6) (hk : KC cs) : Wp (spec_l20Bag r cs 0) fun rows r' => RdOk (n + 260) r' ∧ Fn 6 cs rows := by
  unfold spec_l20Bag
  refine wp_pick h (by omega) fun v r1 h1 v0 _ v1 => ?_
  have v1 := v1 (by omega)
  have e : v = ((v.toNat : Nat) : Int) := by omega
  simp only
  rw [e]
  exact loop_down (L := fun f i (s : T_spec_l20Rd × List (List T_impl_Value)) => spec_l20Bag_l0 cs 0 f i s.1 s.2) (Q := fun rows r' => RdOk (n + 260) r' ∧ Fn 6 cs rows)
    (fun k s => k ≤ 6 ∧ RdOk (n + 1 + 43 * (6 - k)) s.1 ∧ s.2.length + k ≤ 6 ∧ ∀ r ∈ s.2, Sr 9 r ∧ FitR cs r)
    (fun f k s hkk hw hI hrec => by
      obtain ⟨r, rows⟩ := s
      obtain ⟨i0, i1, i2, i3⟩ := hI
      simp only at i1 i2 i3 ⊢
      have add : ∀ (m : Int) (r' : T_spec_l20Rd) (row : List T_impl_Value), RdOk m r' → m ≤ n + 1 + 43 * (6 - (k + 1 : Nat)) + 43 → (Sr 9 row ∧ FitR cs row) → Wp (spec_l20Bag_j1 ((k + 1 : Nat) : Int) (spec_l20Bag_l0 cs 0 f) r' (rows ++ [row])) fun rows r' => RdOk (n + 260) r' ∧ Fn 6 cs rows := by
        intro m r' row hr hm hs
        unfold spec_l20Bag_j1
        rw [hw]
        refine hrec (r', _) ⟨by omega, hr.up (by omega), by simp; omega, fun u hu => ?_⟩
        rcases List.mem_append.1 hu with hu | hu
        · exact i3 u hu
        · have : u = row := by simpa using hu
          rw [this]; exact hs
      have j2 : ∀ (m : Int) (r' : T_spec_l20Rd) (b : Bool), RdOk m r' → m ≤ n + 1 + 43 * (6 - (k + 1 : Nat)) + 1 → (b = true → 0 < rows.length) → Wp (spec_l20Bag_j2 cs 0 ((k + 1 : Nat) : Int) rows (spec_l20Bag_l0 cs 0 f) b r') fun rows r' => RdOk (n + 260) r' ∧ Fn 6 cs rows := by
        intro m r' b hr hm hb
        unfold spec_l20Bag_j2
        refine wp_bif (fun hbt => ?_) fun _ => ?_
        · have := hb hbt
          refine wp_pick hr (by omega) fun k2 r3 g3 p0 _ p1 => wp_getI p0 (p1 (by omega)) fun row hrow => ?_
          rw [own_ok (i3 row hrow).1, Option.bind_some]
          exact wp_app (by simp; omega) (add _ _ _ g3 (by omega) (i3 row hrow))
        · exact wp_then (row_fit hr (by omega) hc hk) fun row r3 hq => wp_app (by simp; omega) (add _ _ _ hq.1 (by omega) hq.2)
      rw [spec_l20Bag_l0, decide_eq_true (by omega), cond_true]
      refine wp_bif (fun hp => ?_) fun _ => j2 _ _ _ i1 (by omega) (fun h => by cases h)
      have hp := of_decide_eq_true hp
      exact wp_pick i1 (by omega) fun k2 r3 g3 _ _ _ => j2 _ _ _ g3 (by omega) (fun _ => by omega))
    (fun f s hI => by
      obtain ⟨r, rows⟩ := s
      obtain ⟨i0, i1, i2, i3⟩ := hI
      simp only at i1 i2 i3 ⊢
      rw [spec_l20Bag_l0, decide_eq_false (by omega), cond_false]
      exact wp_some ⟨i1.up (by omega), by omega, i3⟩)
    v.toNat (r1, []) ⟨by omega, h1.up (by omega), by simp; omega, fun r hr => by cases hr⟩ (by omega)
structure PairFit (x : PairT) : Prop where
  a1 : 1 ≤ x.1.length
  a2 : x.1.length ≤ 6
  b1 : 1 ≤ x.2.1.length
  b2 : x.2.1.length ≤ 6
  ka : KC x.1
  kb : KC x.2.1
  ra : Fn 12 x.1 x.2.2.1
  rb : Fn 6 x.2.1 x.2.2.2.1
theorem pair_fit {n : Int} {r : T_spec_l20Rd} (h : RdOk n r) (hn : n ≤ 100000) : Wp (spec_l20Pair r 0) fun x r' => RdOk (n + 900) r' ∧ PairFit x := by
  unfold spec_l20Pair
  simp only [bagL]
  refine wp_then (columns_fit h (by omega)) fun c1 r1 q1 => wp_pick q1.1 (by omega) fun k1 r2 g2 l1 _ _ => wp_rem l1 (by have := q1.2.1.1; simp only; omega) fun k2 l2 u2 => ?_
  obtain ⟨_, ⟨hc1, hc2⟩, hkc⟩ := q1
  simp only at u2
  rw [w64_of (by omega) (by omega)]
  refine wp_front (by omega) (by simp only; omega) ?_
  generalize hca : c1.take (1 + k2).toNat = ca
  have a1 : 1 ≤ ca.length := by rw [← hca, List.length_take]; omega
  have a2 : ca.length ≤ 6 := by rw [← hca, List.length_take]; omega
  have ka : KC ca := by rw [← hca]; exact hkc.take _
  refine wp_then (columns_fit g2 (by omega)) fun c2 r3 q3 => wp_pick q3.1 (by omega) fun k3 r4 g4 l3 _ _ => wp_rem l3 (by have := q3.2.1.1; simp only; omega) fun k4 l4 u4 => ?_
  obtain ⟨_, ⟨hd1, hd2⟩, hkd⟩ := q3
  simp only at u4
  rw [w64_of (by omega) (by omega)]
  refine wp_front (by omega) (by simp only; omega) ?_
  generalize hcb : c2.take (1 + k4).toNat = cb
  have b1 : 1 ≤ cb.length := by rw [← hcb, List.length_take]; omega
  have b2 : cb.length ≤ 6 := by rw [← hcb, List.length_take]; omega
  have kb : KC cb := by rw [← hcb]; exact hkd.take _
  refine wp_pick g4 (by omega) fun i r5 g5 li _ ui => wp_pick g5 (by omega) fun j r6 g6 lj _ uj => wp_getI li (ui (by omega)) fun ci hci => wp_getI lj (uj (by omega)) fun cj _ => ?_
  have b3 : (cb.set j.toNat (({ cj with fKind := ci.fKind } : T_impl_Column))).length = cb.length := List.length_set
  have k3 : KC (cb.set j.toNat (({ cj with fKind := ci.fKind } : T_impl_Column))) := kb.set _ (ka ci hci)
  refine wp_then (bag_fit g6 (by omega) a2 ka) fun ra r7 q7 => wp_then (bag_fit q7.1 (by omega) a2 ka) fun rb r8 q8 => wp_app (by have := q7.2.1; have := q8.2.1; simp only; omega) (wp_then (bag_fit q8.1 (by omega) (by rw [b3]; exact b2) k3) fun rc r9 q9 => wp_odd0 ?_)
  unfold spec_l20Pair_j0
  exact wp_some ⟨q9.1.up (by omega), a1, a2, by simp only [b3]; exact b1, by simp only [b3]; exact b2, ka, k3, Fn.app (m := 6) (k := 6) q7.2 q8.2, q9.2⟩
structure TestFit (x : TestT) : Prop where
  a1 : 1 ≤ x.1.length
  a2 : x.1.length ≤ 6
  b1 : 1 ≤ x.2.1.length
  b2 : x.2.1.length ≤ 6
  ra : Fn 12 x.1 x.2.2.1
  rb : Fn 6 x.2.1 x.2.2.2.1
  ex : ExOk 100 x.2.2.2.2
theorem TestFit.sides {x : TestT} (h : TestFit x) : Sides x.1 x.2.1 x.2.2.1 x.2.2.2.1 x.2.2.2.2 :=
  ⟨by have := h.a2; omega, by have := h.b2; omega, h.ra.srn.sm (by omega), h.rb.srn.sm (by omega), by have := h.ex.1; omega, h.ex.2⟩
theorem test_fit {n : Int} {r : T_spec_l20Rd} (h : RdOk n r) (hn : n ≤ 90000) : Wp (spec_l20Test r 0) fun x r' => RdOk (n + 1500) r' ∧ TestFit x := by
  unfold spec_l20Test
  have c2 : costE 2 = 120 := rfl
  have l2 : lenE 2 = 10 := rfl
  refine wp_then (pair_fit h (by omega)) fun p r1 q1 => ?_
  obtain ⟨g1, hp⟩ := q1
  have ha := hp.a2
  have hb := hp.b2
  simp only
  refine wp_app (by simp; omega) (wp_appT (by simp; omega) (wp_then (expr_ok (d := 2) (by simp; omega) FUEL _ _ 3 2 (by omega) (by unfold FUEL; omega) (by omega) (by omega) g1 (by omega)) fun e r2 q2 => wp_odd0 ?_))
  obtain ⟨g2, he⟩ := q2
  unfold spec_l20Test_j0
  exact wp_some ⟨g2.up (by omega), hp.a1, hp.a2, hp.b1, hp.b2, hp.ra, hp.rb, he.up (by omega)⟩
end Go.D
set_option linter.unusedVariables false
namespace Go.D
theorem kinds_get {cs ds : List T_impl_Column} (h : cs.map (·.fKind) = ds.map (·.fKind)) (n : Int) : (getI cs n).map (·.fKind) = (getI ds n).map (·.fKind) := by
  unfold getI
  by_cases h0 : 0 ≤ n
  · rw [if_pos h0, if_pos h0, ← List.getElem?_map, ← List.getElem?_map, h]
  · rw [if_neg h0, if_neg h0]
theorem kinds_len {cs ds : List T_impl_Column} (h : cs.map (·.fKind) = ds.map (·.fKind)) : cs.length = ds.length := by
  have := congrArg List.length h
  rwa [List.length_map, List.length_map] at this
theorem kinds_step {cs ds : List T_impl_Column} (h : cs.map (·.fKind) = ds.map (·.fKind)) (rs : List Int) (p : T_impl_Part) : exprStep cs rs p = exprStep ds rs p := by
  have e : ∀ n, (getI cs n).map (fun c => c.fKind :: rs) = (getI ds n).map (fun c => c.fKind :: rs) := fun n => by
    have := congrArg (Option.map (· :: rs)) (kinds_get h n)
    rwa [Option.map_map, Option.map_map] at this
  unfold exprStep
  rw [kinds_len h, e]
theorem kinds_run {cs ds : List T_impl_Column} (h : cs.map (·.fKind) = ds.map (·.fKind)) : ∀ (ps : List T_impl_Part) (rs : List Int), exprRun cs ps rs = exprRun ds ps rs
  | [], rs => rfl
  | p :: ps, rs => by
    unfold exprRun
    rw [kinds_step h]
    cases exprStep ds rs p with
    | none => rfl
    | some rs' => exact kinds_run h ps rs'
theorem kinds_cols {cs ds : List T_impl_Column} (h : cs.map (·.fKind) = ds.map (·.fKind)) : colsOk cs = colsOk ds := by
  unfold colsOk
  have : ∀ xs : List T_impl_Column, xs.all (fun c => inR c.fKind 1 3) = (xs.map (·.fKind)).all fun k => inR k 1 3 := fun xs => by
    rw [List.all_map]; rfl
  rw [this, this, h, kinds_len h]
theorem kinds_kind {cs ds : List T_impl_Column} (h : cs.map (·.fKind) = ds.map (·.fKind)) (ps : List T_impl_Part) : exprKind cs ps = exprKind ds ps := by
  unfold exprKind
  rw [kinds_cols h, kinds_run h]
theorem free_kinds (ca cb : List T_impl_Column) : (ca ++ cb.map freeC).map (·.fKind) = (ca ++ cb).map (·.fKind) := by
  rw [List.map_append, List.map_append, List.map_map]
  rfl
theorem spec_empty {cs : List T_impl_Column} (h : Sm cs.length) : spec_l24Empty cs = some (cs.map freeC) := by
  unfold spec_l24Empty
  rw [app_nilV h, Option.bind_some]
  have := loop_opt (xs := cs) (L := fun f i (s : List T_impl_Column) => spec_l24Empty_l0 f i s) (fun rest s => some (cs.map freeC)) (fun i s => s = (cs.take i).map freeC ++ cs.drop i) (by omega)
    (fun f i s v hi hv hw hI => by
      have hlen : s.length = cs.length := by rw [hI]; simp; omega
      have hg : getI s (i : Int) = some v := by
        rw [getI_nat, hI, List.getElem?_append_right (by simp; omega)]
        simp [List.length_take, Nat.min_eq_left (Nat.le_of_lt hi), hv]
      refine .inr ⟨s.set i (freeC v), ?_, ?_, rfl⟩
      · rw [hI, List.set_append_right _ _ (by simp; omega), List.length_map, List.length_take, Nat.min_eq_left (Nat.le_of_lt hi), Nat.sub_self, List.take_add_one, hv, List.drop_eq_getElem_cons hi, List.set_cons_zero]
        simp
      · rw [spec_l24Empty_l0, hlen, decide_eq_true (by omega), cond_true, hg, Option.bind_some, hw, Int.toNat_natCast]
        rfl)
    (fun f s hI => by
      rw [List.take_length, List.drop_length, List.append_nil] at hI
      have hlen : s.length = cs.length := by rw [hI, List.length_map]
      rw [spec_l24Empty_l0, hlen, decide_eq_false (Int.lt_irrefl _), cond_false, hI]) (s := cs) (by simp)
  exact this
theorem spec_leftCs {ca cb : List T_impl_Column} (h1 : Sm ca.length) (h2 : Sm cb.length) : spec_LeftColumns ca cb = some (leftCs ca cb) := by
  unfold spec_LeftColumns leftCs
  rw [app_nilV h1, Option.bind_some, spec_empty h2, Option.bind_some, app_lt (by rw [List.length_map]; omega), Option.bind_some, spec_colsOk h1, Option.bind_some]
  cases ha : colsOk ca with
  | false => rfl
  | true =>
  rw [Bool.not_true, cond_false, spec_colsOk h2, Option.bind_some]
  cases hb : colsOk cb with
  | false => rfl
  | true =>
  rw [Bool.not_true, cond_false]
  unfold spec_LeftColumns_j0
  rw [List.length_append, List.length_map]
  by_cases hl : ca.length + cb.length ≤ 4
  · rw [decide_eq_true hl, decide_eq_false (by omega)]
    rfl
  · rw [decide_eq_false hl, decide_eq_true (by omega)]
    rfl
theorem leftCs_len (ca cb : List T_impl_Column) : (leftCs ca cb).length ≤ 4 := by
  unfold leftCs
  cases h : colsOk ca && (colsOk cb && decide (ca.length + cb.length ≤ 4)) with
  | false => simp
  | true =>
    simp only [Bool.and_eq_true, decide_eq_true_eq] at h
    rw [cond_true, List.length_append, List.length_map]
    exact h.2.2
abbrev OutT := (List T_impl_Column) × (List T_impl_Column) × (List (List T_impl_Value)) × (List (List T_impl_Value)) × (List T_impl_Part) × (List T_impl_Part)
theorem draw_outer {b : List UInt8} (hb : b.length ≤ 1048576) : ∃ x, spec_DrawOuter b = some x ∧ TestFit (x.1, x.2.1, x.2.2.1, x.2.2.2.1, x.2.2.2.2.1) ∧ ExOk 100 x.2.2.2.2.2 := by
  unfold spec_DrawOuter
  have c2 : costE 2 = 120 := rfl
  have l2 : lenE 2 = 10 := rfl
  obtain ⟨r, e, hr⟩ := open_ok hb
  obtain ⟨x, r2, e2, q1, q2⟩ := test_fit hr (by omega)
  have hs := q2.sides
  rw [e, Option.bind_some, e2, Option.bind_some, spec_leftCs hs.sc hs.sd, Option.bind_some]
  obtain ⟨t, r3, e3, g1, g2⟩ := expr_ok (cs := leftCs x.1 x.2.1) (by have := leftCs_len x.1 x.2.1; omega) 2 FUEL _ _ 3 2 (by omega) (by unfold FUEL; omega) (by omega) (by omega) q1 (by omega)
  have e3 : spec_l20Expr r2 (leftCs x.1 x.2.1) 3 2 = some (t, r3) := e3
  exact ⟨_, by rw [e3, Option.bind_some], q2, ExOk.up g2 (by rw [l2]; omega)⟩
def HB (cs : List T_impl_Column) (ps : List T_impl_Part) (r : List T_impl_Value) : Bool := exprKind cs ps == 3 && (rowFits cs r && holds r ps)
theorem held_rows {cs : List T_impl_Column} {ps : List T_impl_Part} {rs : List (List T_impl_Value)} (hc : Sm cs.length) (hr : SmRs rs) (hl : Sm ps.length) (hp : ∀ p ∈ ps, SmP p) : laws_heldRows cs rs ps = some (rs.filter (HB cs ps)) := by
  unfold laws_heldRows
  have hn := hr.1
  have := loop_opt (xs := rs) (L := fun f i (s : List (List T_impl_Value)) => laws_heldRows_l0 cs rs ps f i s) (fun rest s => some (s ++ rest.filter (HB cs ps))) (fun i s => s.length ≤ i) (by omega)
    (fun f i s v hi hv hw hI => by
      have he : impl_ExprHolds cs v ps = some (HB cs ps v) := impl_exprHoldsP hc (hr.2 v (List.mem_of_getElem? hv)) hl hp
      cases hb : HB cs ps v with
      | true =>
        refine .inr ⟨s ++ [v], by simp; omega, ?_, by rw [List.filter_cons, hb]; simp⟩
        rw [laws_heldRows_l0, decide_eq_true (by omega), cond_true, getI_nat, hv, Option.bind_some, he, Option.bind_some, hb, cond_true, Option.bind_some, app_lt (by simp; omega), Option.bind_some, laws_heldRows_j1, hw]
      | false =>
        refine .inr ⟨s, by omega, ?_, by rw [List.filter_cons, hb]; simp⟩
        rw [laws_heldRows_l0, decide_eq_true (by omega), cond_true, getI_nat, hv, Option.bind_some, he, Option.bind_some, hb, cond_false, laws_heldRows_j1, hw])
    (fun f s hI => by rw [laws_heldRows_l0, decide_eq_false (Int.lt_irrefl _), cond_false, List.filter_nil, List.append_nil]) (s := []) (Nat.le_refl _)
  exact this
def innerOf (cs : List T_impl_Column) (e t : List T_impl_Part) (br : List (List T_impl_Value)) (a : List T_impl_Value) : List (List T_impl_Value) := (br.filter fun b => HB cs e (a ++ b) && HB cs t (a ++ b)).map (a ++ ·)
theorem innerOf_len (cs : List T_impl_Column) (e t : List T_impl_Part) (br : List (List T_impl_Value)) (a : List T_impl_Value) : (innerOf cs e t br a).length ≤ br.length := by
  unfold innerOf
  rw [List.length_map]
  exact List.length_filter_le _ _
theorem inner_nil {cs : List T_impl_Column} {e t : List T_impl_Part} {br : List (List T_impl_Value)} {a : List T_impl_Value} (h : ∀ b ∈ br, HB cs e (a ++ b) = false) : innerOf cs e t br a = [] := by
  unfold innerOf
  rw [List.filter_eq_nil_iff.2 fun b hb => by rw [h b hb]; simp]
  rfl
theorem bare_kind {n frm : Nat} {a : List T_impl_Value} (ha : a.length = frm) (i : Int) (v : T_impl_Value) (hi : i ≥ (frm : Int)) (hv : getI (bare n a) i = some v) : v.fKind = 0 := by
  have e : i = ((i.toNat : Nat) : Int) := by omega
  rw [e, getI_nat] at hv
  unfold bare at hv
  rw [List.getElem?_append_right (by omega)] at hv
  rw [List.eq_of_mem_replicate (List.mem_of_getElem? hv)]
  rfl
section
variable {ca cb : List T_impl_Column} {ar br : List (List T_impl_Value)} {e t : List T_impl_Part} (h : TestFit (ca, cb, ar, br, e)) (ht : ExOk 100 t) (hj : rejects (leftCs ca cb) t (ca.length : Int) = true)
include h ht hj
theorem outer_same : (leftV ca cb ar br e).filter (HB (leftCs ca cb) t) = ar.flatMap (innerOf (leftCs ca cb) e t br) := by
  have hs := h.sides
  have hsa := hs.sa
  have none : ready ca cb ar br e = false → (∀ a ∈ ar, ∀ b ∈ br, HB (leftCs ca cb) e (a ++ b) = false) → (leftV ca cb ar br e).filter (HB (leftCs ca cb) t) = ar.flatMap (innerOf (leftCs ca cb) e t br) := fun hr hb => by
    have e1 : leftV ca cb ar br e = [] := by unfold leftV; rw [hr]; rfl
    rw [e1, flat_congr (g := fun _ => []) fun a ha => inner_nil (hb a ha)]
    simp
  cases hc : colsOk ca && (colsOk cb && decide (ca.length + cb.length ≤ 4)) with
  | false =>
    have e0 : leftCs ca cb = [] := by unfold leftCs; rw [hc]; rfl
    refine none ?_ fun a ha b hb => ?_
    · cases hr : ready ca cb ar br e with
      | false => rfl
      | true =>
        obtain ⟨h1, h2⟩ := ready_both hr
        rw [(rowsOk_cols h1).1, (rowsOk_cols h2).1, decide_eq_true (ready_rows hr).2.2.2.2.2] at hc
        cases hc
    · have hl := (h.ra.2 a ha).2.l
      have h1 := h.a1
      simp only at hl h1
      unfold HB
      have : rowFits (leftCs ca cb) (a ++ b) = false := by
        rw [e0]
        unfold rowFits
        have : ((a ++ b).length == ([] : List T_impl_Column).length) = false := by
          rw [List.length_append, beq_eq_false_iff_ne]
          simp only [List.length_nil]
          omega
        rw [this]
        simp
      rw [this]
      simp
  | true =>
    have hc' := hc
    simp only [Bool.and_eq_true, decide_eq_true_eq] at hc'
    obtain ⟨c1, c2, c3⟩ := hc'
    have e0 : leftCs ca cb = ca ++ cb.map freeC := by unfold leftCs; rw [hc]; rfl
    have ek : exprKind (leftCs ca cb) e = exprKind (ca ++ cb) e := by rw [e0]; exact kinds_kind (free_kinds ca cb) e
    cases hk : exprKind (ca ++ cb) e == 3 with
    | false =>
      refine none ?_ fun a ha b hb => ?_
      · unfold ready
        rw [hk]
        simp
      · unfold HB
        rw [ek, hk]
        rfl
    | true =>
      have hr : ready ca cb ar br e = true := by
        have n1 := h.ra.1
        have n2 := h.rb.1
        simp only at n1 n2
        unfold ready
        rw [h.ra.rows c1, h.rb.rows c2, hk, decide_eq_true (show ar.length ≤ 30 by omega), decide_eq_true (show br.length ≤ 30 by omega)]
        rfl
      have hj' := hj
      unfold rejects at hj'
      simp only [Bool.and_eq_true] at hj'
      have kt := hj'.1
      have r1 := (ready_rows hr).1
      have r2 := (ready_rows hr).2.1
      have lenL : (leftCs ca cb).length = ca.length + cb.length := by rw [e0, List.length_append, List.length_map]
      rw [leftV_eq hr, List.filter_flatMap]
      refine flat_congr fun a ha => ?_
      have hq : ∀ r ∈ leftOf cb.length br e a, HB (leftCs ca cb) t r = holds r t := fun r hm => by
        have : r ∈ leftV ca cb ar br e := by
          rw [leftV_eq hr]
          exact List.mem_flatMap.2 ⟨a, ha, hm⟩
        have := left_fit hr this
        unfold HB
        rw [e0] at kt ⊢
        rw [kt, this]
        rfl
      have hb : (bif !(has br e a) then [bare cb.length a] else []).filter (fun r => holds r t) = [] := by
        have hno : holds (bare cb.length a) t = false := by
          refine rejects_no hj ?_ ?_ ht.2 fun n v hn hv => bare_kind (r1 a ha) n v hn hv
          · unfold bare
            rw [lenL, List.length_append, List.length_replicate, r1 a ha]
          · have hsm := leftV_sm hr hs
            have e00 : (ByteArray.mk #[]).size = 0 := rfl
            have sa := hs.sa.2 a ha
            refine ⟨?_, fun v hv => ?_⟩
            · unfold bare
              rw [List.length_append, List.length_replicate, r1 a ha]
              omega
            · unfold bare at hv
              rcases List.mem_append.1 hv with hv | hv
              · exact sa.2 v hv
              · rw [List.eq_of_mem_replicate hv]
                unfold SmV N0
                simp only [e00]
                omega
        cases has br e a
        · show [bare cb.length a].filter _ = []
          rw [List.filter_cons, hno]
          rfl
        · rfl
      rw [List.filter_congr (q := fun r => holds r t) hq]
      unfold leftOf
      rw [List.filter_append, hb, List.append_nil]
      unfold pairs innerOf
      rw [List.filter_map, List.filter_filter]
      refine congrArg _ (List.filter_congr fun b hbm => ?_)
      have hf : rowFits (leftCs ca cb) (a ++ b) = true := by
        rw [e0]
        refine fits_app (left_cols hr).2.1 ((h.ra.2 a ha).2.rowFits c1) (fits_freeR ((h.rb.2 b hbm).2.rowFits c2))
      unfold HB
      rw [ek, hk, kt, hf]
      simp only [Bool.true_and, Function.comp]
      exact Bool.and_comm _ _
end
theorem law_fnOuter {a0 : List UInt8} (w0 : listW u8W a0) : laws_FnOuter a0 = some true := by
  unfold laws_FnOuter
  by_cases hl : (a0.length : Int) > 1048576
  · rw [decide_eq_true hl, cond_true]
  rw [decide_eq_false hl, cond_false]
  obtain ⟨x, e, hx, ht⟩ := draw_outer (b := a0) (by omega)
  have hs := hx.sides
  simp only at hs
  have hcl := leftCs_len x.1 x.2.1
  have htl := ht.1
  have bj := both_rejects (cs := leftCs x.1 x.2.1) (ps := x.2.2.2.2.2) (by omega) (by omega) ht.2 (x.1.length : Int)
  rw [e, Option.bind_some, impl_leftCs hs.sc hs.sd, Option.bind_some, bj.2, Option.bind_some, bj.1, Option.bind_some, beq_self_eq_true, Bool.not_true, cond_false]
  cases hj : rejects (leftCs x.1 x.2.1) x.2.2.2.2.2 (x.1.length : Int) with
  | false => rw [Bool.not_false, cond_true, alive_t]; rfl
  | true =>
  rw [Bool.not_true, cond_false]
  have n1 := hx.ra.1
  have n2 := hx.rb.1
  have hm1 := hx.a2
  have hm2 := hx.b2
  simp only at n1 n2 hm1 hm2
  have hsl : SmRs (leftV x.1 x.2.1 x.2.2.1 x.2.2.2.1 x.2.2.2.2.1) := by
    cases hr : ready x.1 x.2.1 x.2.2.1 x.2.2.2.1 x.2.2.2.2.1 with
    | true => exact leftV_sm hr hs
    | false =>
      unfold leftV
      rw [hr]
      exact ⟨Nat.zero_le _, fun r hr => by cases hr⟩
  have same := outer_same hx ht hj
  have hsi : SmRs (x.2.2.1.flatMap (innerOf (leftCs x.1 x.2.1) x.2.2.2.2.1 x.2.2.2.2.2 x.2.2.2.1)) := by
    rw [← same]
    exact ⟨Nat.le_trans (List.length_filter_le _ _) hsl.1, fun r hr => hsl.2 r (List.mem_filter.1 hr).1⟩
  have := loop_opt (xs := x.2.2.1) (L := fun f i (s : List (List T_impl_Value)) => laws_FnOuter_l0 x (leftCs x.1 x.2.1) f i s) (fun rest s => some true)
    (fun i s => s = (x.2.2.1.take i).flatMap (innerOf (leftCs x.1 x.2.1) x.2.2.2.2.1 x.2.2.2.2.2 x.2.2.2.1)) (by omega)
    (fun f i s a hi ha hw hI => by
      have hma := List.mem_of_getElem? ha
      have sa := hs.sa.2 a hma
      have la := (hx.ra.2 a hma).1.1
      have hsb : s.length ≤ 12 * 6 := by
        rw [hI]
        have := flat_len (innerOf (leftCs x.1 x.2.1) x.2.2.2.2.1 x.2.2.2.2.2 x.2.2.2.1) 6 (x.2.2.1.take i) fun a _ => Nat.le_trans (innerOf_len _ _ _ _ a) n2
        have := List.length_take_le i x.2.2.1
        omega
      have hin := loop_opt (xs := x.2.2.2.1) (L := fun g j (s : List (List T_impl_Value)) => laws_FnOuter_l1 x (leftCs x.1 x.2.1) i (laws_FnOuter_l0 x (leftCs x.1 x.2.1) f) g j s)
        (fun rest s' => laws_FnOuter_l0 x (leftCs x.1 x.2.1) f ((i + 1 : Nat) : Int) (s' ++ innerOf (leftCs x.1 x.2.1) x.2.2.2.2.1 x.2.2.2.2.2 rest a)) (fun j s' => s'.length ≤ 72 + j) (by omega)
        (fun g j s' b hj2 hb hw2 hI2 => by
          have hmb := List.mem_of_getElem? hb
          have sb := hs.sb.2 b hmb
          have lb := (hx.rb.2 b hmb).1.1
          have sab : SmR (a ++ b) := ⟨by rw [List.length_append]; omega, fun v hv => (List.mem_append.1 hv).elim (sa.2 v) (sb.2 v)⟩
          have he : impl_ExprHolds (leftCs x.1 x.2.1) (a ++ b) x.2.2.2.2.1 = some (HB (leftCs x.1 x.2.1) x.2.2.2.2.1 (a ++ b)) := impl_exprHoldsP (by omega) sab hs.sl hs.sp
          have hh : impl_ExprHolds (leftCs x.1 x.2.1) (a ++ b) x.2.2.2.2.2 = some (HB (leftCs x.1 x.2.1) x.2.2.2.2.2 (a ++ b)) := impl_exprHoldsP (by omega) sab (by omega) ht.2
          have go : laws_FnOuter_l1 x (leftCs x.1 x.2.1) i (laws_FnOuter_l0 x (leftCs x.1 x.2.1) f) (g + 1) j s' = laws_FnOuter_j3 j s' (laws_FnOuter_l1 x (leftCs x.1 x.2.1) i (laws_FnOuter_l0 x (leftCs x.1 x.2.1) f) g) (a ++ b) (HB (leftCs x.1 x.2.1) x.2.2.2.2.1 (a ++ b) && HB (leftCs x.1 x.2.1) x.2.2.2.2.2 (a ++ b)) := by
            rw [laws_FnOuter_l1, decide_eq_true (by omega), cond_true, getI_nat, ha, Option.bind_some, app_lt (by simp; omega), Option.bind_some, List.nil_append, getI_nat, hb, Option.bind_some, app_lt (by omega), Option.bind_some, he, Option.bind_some]
            cases HB (leftCs x.1 x.2.1) x.2.2.2.2.1 (a ++ b) with
            | false => rfl
            | true => rw [cond_true, hh]; rfl
          cases hp : HB (leftCs x.1 x.2.1) x.2.2.2.2.1 (a ++ b) && HB (leftCs x.1 x.2.1) x.2.2.2.2.2 (a ++ b) with
          | true =>
            refine .inr ⟨s' ++ [a ++ b], by simp; omega, ?_, ?_⟩
            · rw [go, hp, laws_FnOuter_j3, cond_true, app_lt (by simp; omega), Option.bind_some, laws_FnOuter_j2, hw2]
            · unfold innerOf
              rw [List.filter_cons, hp]
              simp
          | false =>
            refine .inr ⟨s', by omega, ?_, ?_⟩
            · rw [go, hp, laws_FnOuter_j3, cond_false, laws_FnOuter_j2, hw2]
            · unfold innerOf
              rw [List.filter_cons, hp]
              simp)
        (fun g s' hI2 => by
          rw [laws_FnOuter_l1, decide_eq_false (Int.lt_irrefl _), cond_false, hw]
          unfold innerOf
          rw [List.filter_nil, List.map_nil, List.append_nil]) (s := s) (by omega)
      refine .inr ⟨s ++ innerOf (leftCs x.1 x.2.1) x.2.2.2.2.1 x.2.2.2.2.2 x.2.2.2.1 a, ?_, ?_, rfl⟩
      · rw [List.take_add_one, ha, List.flatMap_append, ← hI]
        simp
      · rw [laws_FnOuter_l0, decide_eq_true (by omega), cond_true]
        exact hin)
    (fun f s hI => by
      rw [List.take_length] at hI
      rw [laws_FnOuter_l0, decide_eq_false (Int.lt_irrefl _), cond_false, impl_leftR hs, Option.bind_some, held_rows (by omega) hsl (by omega) ht.2, Option.bind_some, same, hI, laws_sameRows_refl hsi, Option.bind_some, cond_true, alive_t]
      rfl) (s := []) rfl
  exact this
end Go.D
set_option linter.unusedVariables false
namespace Go.D
open Go.Proofs
theorem rd_5 : Rd Try.prog 5 UInt8 u8W := rd_u8 Try.underlying5 (by kernel_rfl)
theorem rd_22 : Rd Try.prog 22 (List UInt8) (listW u8W) := rd_slice Try.underlying22 (by kernel_rfl) rd_5
end Go.D
set_option linter.unusedVariables false
namespace Go.D
open Go.ChangeShapes Go.RowKit
theorem trodAll_carry {H : Type} {enc : TypeId × Value → H} {P : Program} {w w' : World} {base : Nat} {sp : Nat → Bool} {held : Bool} : ∀ {ts : List TypeId} {vs : List Value} {ds : List (DataW H)} {ps : List MemPlace},
    DataW.TrodAll enc P w base sp held ts vs ds ps → (∀ p ∈ ps, w.sameAt w' p) → DataW.TrodAll enc P w' base sp held ts vs ds ps
  | [], [], [], _, h, _ => h
  | _ :: _, _ :: _, _ :: _, _, ⟨p, q, ⟨n, hn⟩, h2, e⟩, hs =>
    ⟨p, q, ⟨n, DataW.trod_carry n _ _ _ hn fun x hx => hs x (by rw [e]; exact List.mem_append_left _ hx)⟩, trodAll_carry h2 fun x hx => hs x (by rw [e]; exact List.mem_append_right _ hx), e⟩
theorem Kept.sameAt {w w' : World} (h : Grew w w') {p : MemPlace} (hp : p.block < w.heap.size) : w.sameAt w' p := by
  have hb := h.block p.block hp (fun h => h)
  cases p with
  | cell b off =>
    show w'.cell? ⟨b, off, none⟩ = w.cell? ⟨b, off, none⟩
    unfold World.cell?
    have hb : w'.heap[b]? = w.heap[b]? := hb
    simp only [hb]
  | map b => exact hb
theorem Kept.keptBut {w w' : World} (h : Grew w w') (may : MemPlace → Prop) : w.keptBut w' may := by
  refine ⟨h.os, h.output, fun i hi => ?_⟩
  rw [h.block i hi (fun h => h)]
  cases w.heap[i]? with
  | none => trivial
  | some o => cases o <;> simp
theorem contract_of {P : Program} {fid : FuncId} {fn : Func} {s : ChangeSpec} {tb : TypeId} {H : Type} {enc : TypeId × Value → H}
    (hK : Kids P (· < P.types.size)) (hfull : ∀ t e, t < P.types.size → P.underlying t = some (.slice e) → 0 < P.cellsOf e)
    (hp : ∀ t ∈ fn.params.toList, t < P.types.size) (hv : s.vars = []) (hr : fn.resultTypes = #[tb]) (hb : P.underlying tb = some .bool)
    {n : Nat} (hn : fn.params.toList.length = n) (hs : ∀ ds : List (DataW H), ds.length = n → s.fn H ds = { results := [.lit (.bool true)], args := ds })
    {W : World} {args : Array Value} {ds gs : List (DataW H)} {before : List MemPlace}
    (hlaw : ∀ p, DataW.TrodAll enc P W 0 (fun _ => true) true fn.params.toList args.toList ds p → ∃ ins, FrL W (fun _ => False) ins args.toList ∧ OK P fid ins (B true))
    (hW : DataW.Whole enc P fn.params.toList s.vars false W args.toList ds gs before) :
    Calls P fid args W fun e W' => ∃ v, e = .returned v ∧ s.post enc P fn false true false false W args v W' := by
  have hlt := hW.lt
  have hW' := hW
  obtain ⟨p, q, hA, hV, rfl, hfz, hnd⟩ := hW
  rw [hv] at hV
  obtain ⟨rfl, rfl⟩ := trodVars_none hV
  obtain ⟨ins, h1, h2⟩ := hlaw p hA
  have hlen : ∀ {ts : List TypeId} {vs : List Value} {ds : List (DataW H)} {ps : List MemPlace}, DataW.TrodAll enc P W 0 (fun _ => true) true ts vs ds ps → ds.length = ts.length := by
    intro ts
    induction ts with
    | nil => intro vs ds ps h; obtain ⟨_, rfl, _⟩ := trodAll_nil h; rfl
    | cons t ts ih =>
      intro vs ds ps h
      obtain ⟨_, _, _, _, _, _, rfl, rfl, rfl, _, h⟩ := trodAll_cons h
      simp [ih h]
  have hds : ds.length = n := (hlen hA).trans hn
  have hc := h2.2 W args.toList (fun _ => False) (fun b h => h.elim) h1
  have ha : args.toList.toArray = args := by simp
  rw [ha] at hc
  refine hc.mono fun e W' ⟨v, fp, he, hg, ho, _⟩ => ⟨v, he, ?_⟩
  simp only [B, Ow] at ho
  obtain ⟨rfl, rfl⟩ := ho
  have hsame : ∀ x ∈ p, W.sameAt W' x := fun x hx => Kept.sameAt hg (hlt x (by simpa using hx))
  refine ⟨ds, [], p ++ [], [], p, [], hW', ?_, ?_, ?_, Kept.keptBut hg _, fun h => by cases h⟩
  · rw [List.append_nil, hs ds hds, hr]
    exact trodAll_mk1 (shut_bool hb true)
  · rw [List.append_nil, hs ds hds]
    exact trodAll_carry (DataW.TrodAll.respare hK hfull hp hA fun x hx => by
      have := hlt x (by simpa using hx)
      simpa using this) hsame
  · rw [hv, List.append_nil, hs ds hds]
    rfl
end Go.D
