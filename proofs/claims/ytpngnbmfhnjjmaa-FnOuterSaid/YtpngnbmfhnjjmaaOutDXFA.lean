import Derived.Test.YtpngnbmfhnjjmaaOutDXT
import Derived.KernelRfl
set_option linter.unusedVariables false
set_option linter.unusedSimpArgs false
namespace Go.D
open Go.Proofs
def laws_sameRow_l0 (a0 : List T_impl_Value) (a1 : List T_impl_Value) : Nat → Int → Option Bool
  | 0, _ => none
  | f3 + 1, x2 => bif (decide (x2 < ((a0.length : Int)))) then (getI a0 x2).bind fun v6 => (getI a1 x2).bind fun v8 => bif (!(eq_T_impl_Value v6 v8)) then some false else (laws_sameRow_l0 a0 a1 f3) ((w64 (x2 + 1))) else some true
def laws_sameRow (a0 : List T_impl_Value) (a1 : List T_impl_Value) : Option Bool := bif (!(((a0.length : Int)) == ((a1.length : Int)))) then some false else laws_sameRow_l0 a0 a1 FUEL 0
theorem ok_laws_sameRow {a0 : List T_impl_Value} {a1 : List T_impl_Value} {y : Bool} (h : laws_sameRow a0 a1 = some y) : OK Try.prog 17 [A a0, A a1] (B y) := by
  refine ow Try.func17 fun Γ hX => ?_
  unfold laws_sameRow at h
  refine srve 26 [(0, A a0), (1, A a1)] [] ?_
  refine pwp_seq ?_
  refine srve 26 [(0, A a0), (1, A a1), (10, B ((!(((a0.length : Int)) == ((a1.length : Int))))))] [] ?_
  refine pc h (fun h => ?_) (fun h => ?_)
  refine srve 26 [(4, B false)] [] ?_
  cases h
  exact pwp_ret rz
  refine pwp_skip ?_
  refine pwp_seq ?_
  refine srve 26 [(0, A a0), (1, A a1), (5, I 0)] [] ?_
  refine pwp_block ?_
  refine pwp_loop (ι := Nat × Int) (fun (f3, x2) => (⟨26, [(0, A a0), (1, A a1), (5, I x2)], []⟩ : St)) (fun (f3, x2) => laws_sameRow_l0 a0 a1 f3 x2 = some y) Prod.fst (FUEL, 0) h (it [0, 1, 5]) ?_
  rintro ⟨f3, x2⟩ h
  dsimp only at h ⊢
  rcases f3 with _ | f3
  cases h
  rw [laws_sameRow_l0] at h
  refine pwp_seq ?_
  refine srve 26 [(0, A a0), (1, A a1), (5, I x2), (14, B ((decide (x2 < ((a0.length : Int))))))] [] ?_
  refine pc h (fun h => ?_) (fun h => ?_)
  refine pwp_skip ?_
  refine pwp_seq ?_
  refine pwp_block ?_
  refine pwp_seq ?_
  refine ip 26 [(0, A a0), (1, A a1), (5, I x2)] [] ?_
  refine pN 9 ?_
  refine qv [] trivial 2 26 [(18, I x2), (17, A a0), (0, A a0), (1, A a1), (5, I x2)] [] ?_
  obtain ⟨v6, hv7, h⟩ := bindS h
  refine qX (some 19) (pf v6 0) 26 [(19, pf v6 0), (0, A a0), (1, A a1), (5, I x2)] [] (fun Γ' hΓ => CoreE.of_y (idxV_sound τ_ok (by kernel_rfl) hv7)) trivial ?_
  refine qv [] trivial 3 26 [(22, I x2), (21, A a1), (20, E v6), (0, A a0), (1, A a1), (5, I x2)] [] ?_
  obtain ⟨v8, hv9, h⟩ := bindS h
  refine qX (some 23) (pf v8 0) 26 [(23, pf v8 0), (20, E v6), (0, A a0), (1, A a1), (5, I x2)] [] (fun Γ' hΓ => CoreE.of_y (idxV_sound τ_ok (by kernel_rfl) hv9)) trivial ?_
  refine qvn [] trivial 2 26 [(0, A a0), (1, A a1), (5, I x2), (25, B ((!(eq_T_impl_Value v6 v8))))] [] ?_
  refine pc h (fun h => ?_) (fun h => ?_)
  refine srve 26 [(4, B false)] [] ?_
  cases h
  exact pwp_ret rz
  refine pwp_skip ?_
  refine rve 26 [(0, A a0), (1, A a1), (5, I ((w64 (x2 + 1))))] [] ?_
  exact ⟨(f3, (w64 (x2 + 1))), h, Nat.lt_succ_self _, it [0, 1, 5]⟩
  refine pwp_exit ?_
  refine srve 26 [(4, B true)] [] ?_
  cases h
  exact pwp_ret rz
def spec_l20Open_j0 (x1 : List UInt8) : Option T_spec_l20Rd := some ((T_spec_l20Rd.mk x1 0))
def spec_l20Open (a0 : List UInt8) : Option T_spec_l20Rd := bif (decide (((a0.length : Int)) > 2000)) then (slI a0 none (some 2000) none).bind fun v3 => spec_l20Open_j0 v3 else spec_l20Open_j0 a0
theorem ok_spec_l20Open {a0 : List UInt8} {y : T_spec_l20Rd} (h : spec_l20Open a0 = some y) : OK Try.prog 27 [A a0] (.obox (Enc.cells y) 0) := by
  refine ow Try.func27 fun Γ hX => ?_
  unfold spec_l20Open at h
  refine srveM [10] 11 [(0, A a0)] [] ?_
  refine pwp_seq ?_
  refine pwp_join (σ := (List UInt8)) (fun x1 => (⟨11, [(0, A x1)], []⟩ : St)) (fun x1 => spec_l20Open_j0 x1 = some y) ?_ ?_
  refine srveM [10] 11 [(0, A a0), (5, B ((decide (((a0.length : Int)) > 2000))))] [] ?_
  refine pc h (fun h => ?_) (fun h => ?_)
  refine rvM [10] 1 11 [(6, A a0)] [] ?_
  obtain ⟨v3, hv4, h⟩ := bindS h
  refine opsP_slc τ_ok 7 hv4 (by kernel_rfl) ?_
  refine veM [10] 1 11 [(0, A v3)] [] ?_
  exact ⟨v3, h, it [0]⟩
  refine pwp_skip ?_
  exact ⟨a0, h, it [0]⟩
  rintro x1 h
  unfold spec_l20Open_j0 at h
  refine srveM [10] 11 [(2, .ptr 0 0 0)] [some ⟨0, Enc.cells ((T_spec_l20Rd.mk x1 0))⟩] ?_
  have h := si h
  subst h
  exact pwp_ret (rt (.ptr 0 0 0) (OutP.box (v := 0) (by kernel_rfl)))
def impl_Part_takes_j1 (x3 : Bool) : Option Int := bif x3 then some 1 else some 0
def impl_Part_takes_j0 (a0 : T_impl_Part) (x1 : Bool) : Option Int := bif x1 then some 2 else bif (a0.fKind == 7) then impl_Part_takes_j1 ((a0.fKind == 7)) else impl_Part_takes_j1 ((a0.fKind == 8))
def impl_Part_takes (a0 : T_impl_Part) : Option Int := bif (a0.fKind == 3) then impl_Part_takes_j0 a0 ((a0.fKind == 3)) else bif (a0.fKind == 4) then impl_Part_takes_j0 a0 ((a0.fKind == 4)) else bif (a0.fKind == 5) then impl_Part_takes_j0 a0 ((a0.fKind == 5)) else impl_Part_takes_j0 a0 ((a0.fKind == 6))
theorem ok_impl_Part_takes {a0 : T_impl_Part} {y : Int} (h : impl_Part_takes a0 = some y) : OK Try.prog 34 [E a0] (I y) := by
  refine ow Try.func34 fun Γ hX => ?_
  unfold impl_Part_takes at h
  refine srve 13 [(1, pf a0 0)] [] ?_
  refine pwp_seq ?_
  refine srve 13 [(4, I a0.fKind)] [] ?_
  refine pwp_block ?_
  refine pwp_seq ?_
  refine pwp_join (σ := Bool) (fun x1 => (⟨13, [(4, I a0.fKind), (5, B x1)], []⟩ : St)) (fun x1 => impl_Part_takes_j0 a0 x1 = some y) ?_ ?_
  refine srve 13 [(4, I a0.fKind), (5, B ((a0.fKind == 3)))] [] ?_
  refine pc h (fun h => ?_) (fun h => ?_)
  refine pwp_skip ?_
  exact ⟨(a0.fKind == 3), h, it [4, 5]⟩
  refine srve 13 [(4, I a0.fKind), (5, B ((a0.fKind == 4)))] [] ?_
  refine pc h (fun h => ?_) (fun h => ?_)
  refine pwp_skip ?_
  exact ⟨(a0.fKind == 4), h, it [4, 5]⟩
  refine srve 13 [(4, I a0.fKind), (5, B ((a0.fKind == 5)))] [] ?_
  refine pc h (fun h => ?_) (fun h => ?_)
  refine pwp_skip ?_
  exact ⟨(a0.fKind == 5), h, it [4, 5]⟩
  refine rve 13 [(4, I a0.fKind), (5, B ((a0.fKind == 6)))] [] ?_
  exact ⟨(a0.fKind == 6), h, it [4, 5]⟩
  rintro x1 h
  unfold impl_Part_takes_j0 at h
  refine pc h (fun h => ?_) (fun h => ?_)
  refine srve 13 [(2, I 2)] [] ?_
  cases h
  exact pwp_ret rz
  refine pwp_seq ?_
  refine pwp_join (σ := Bool) (fun x3 => (⟨13, [(10, B x3)], []⟩ : St)) (fun x3 => impl_Part_takes_j1 x3 = some y) ?_ ?_
  refine srve 13 [(4, I a0.fKind), (10, B ((a0.fKind == 7)))] [] ?_
  refine pc h (fun h => ?_) (fun h => ?_)
  refine pwp_skip ?_
  exact ⟨(a0.fKind == 7), h, it [10]⟩
  refine rve 13 [(10, B ((a0.fKind == 8)))] [] ?_
  exact ⟨(a0.fKind == 8), h, it [10]⟩
  rintro x3 h
  unfold impl_Part_takes_j1 at h
  refine pc h (fun h => ?_) (fun h => ?_)
  refine srve 13 [(2, I 1)] [] ?_
  cases h
  exact pwp_ret rz
  refine pwp_skip ?_
  refine srve 13 [(2, I 0)] [] ?_
  cases h
  exact pwp_ret rz
def spec_l24Next_j1 (a0 : List T_spec_l24Fact) (x2 : Bool) (x3 : Bool) : Option (List T_spec_l24Fact) := (app a0 (([(T_spec_l24Fact.mk false x2 x3)] : List T_spec_l24Fact))).bind fun v4 => some v4
def spec_l24Next_j0 (a0 : List T_spec_l24Fact) (a1 : T_impl_Part) (x2 : Bool) : Option (List T_spec_l24Fact) := bif (a1.fV.fKind == 3) then spec_l24Next_j1 a0 x2 ((a1.fV.fN == 1)) else spec_l24Next_j1 a0 x2 false
def spec_l24Next_j3 (a0 : List T_spec_l24Fact) (x20 : Bool) : Option (List T_spec_l24Fact) := bif x20 then (slI a0 none (some ((w64 (((a0.length : Int)) - 2)))) none).bind fun v22 => (appT a0 (([(T_spec_l24Fact.mk true true true)] : List T_spec_l24Fact)) v22.length).bind fun v24 => some v24 else (slI a0 none (some ((w64 (((a0.length : Int)) - 2)))) none).bind fun v26 => (appT a0 (([(T_spec_l24Fact.mk false false false)] : List T_spec_l24Fact)) v26.length).bind fun v28 => some v28
def spec_l24Next_j6 (a0 : List T_spec_l24Fact) (x37 : Bool) (x40 : Bool) (x41 : Bool) : Option (List T_spec_l24Fact) := (slI a0 none (some ((w64 (((a0.length : Int)) - 2)))) none).bind fun v42 => (appT a0 (([{ ((T_spec_l24Fact.mk false x37 x40)) with fNone := x41 }] : List T_spec_l24Fact)) v42.length).bind fun v44 => some v44
def spec_l24Next_j5 (a0 : List T_spec_l24Fact) (x37 : Bool) (x40 : Bool) : Option (List T_spec_l24Fact) := bif (T_spec_l24Fact.mk false x37 x40).fNotT then spec_l24Next_j6 a0 x37 x40 ((T_spec_l24Fact.mk false x37 x40).fNotF) else spec_l24Next_j6 a0 x37 x40 false
def spec_l24Next_j4 (a0 : List T_spec_l24Fact) (x37 : Bool) : Option (List T_spec_l24Fact) := (getI a0 ((w64 (((a0.length : Int)) - 2)))).bind fun v38 => bif v38.fNotF then (getI a0 ((w64 (((a0.length : Int)) - 1)))).bind fun v49 => spec_l24Next_j5 a0 x37 v49.fNotF else spec_l24Next_j5 a0 x37 false
def spec_l24Next_j9 (a0 : List T_spec_l24Fact) (x59 : Bool) (x62 : Bool) (x63 : Bool) : Option (List T_spec_l24Fact) := (slI a0 none (some ((w64 (((a0.length : Int)) - 2)))) none).bind fun v64 => (appT a0 (([{ ((T_spec_l24Fact.mk false x59 x62)) with fNone := x63 }] : List T_spec_l24Fact)) v64.length).bind fun v66 => some v66
def spec_l24Next_j8 (a0 : List T_spec_l24Fact) (x59 : Bool) (x62 : Bool) : Option (List T_spec_l24Fact) := bif (T_spec_l24Fact.mk false x59 x62).fNotT then spec_l24Next_j9 a0 x59 x62 ((T_spec_l24Fact.mk false x59 x62).fNotF) else spec_l24Next_j9 a0 x59 x62 false
def spec_l24Next_j7 (a0 : List T_spec_l24Fact) (x59 : Bool) : Option (List T_spec_l24Fact) := (getI a0 ((w64 (((a0.length : Int)) - 2)))).bind fun v60 => bif v60.fNotF then spec_l24Next_j8 a0 x59 true else (getI a0 ((w64 (((a0.length : Int)) - 1)))).bind fun v71 => spec_l24Next_j8 a0 x59 v71.fNotF
def spec_l24Next_j2 (a0 : List T_spec_l24Fact) (a1 : T_impl_Part) (x16 : Bool) : Option (List T_spec_l24Fact) := bif x16 then (getI a0 ((w64 (((a0.length : Int)) - 2)))).bind fun v18 => bif v18.fNone then spec_l24Next_j3 a0 true else (getI a0 ((w64 (((a0.length : Int)) - 1)))).bind fun v31 => spec_l24Next_j3 a0 v31.fNone else bif (a1.fKind == 5) then (getI a0 ((w64 (((a0.length : Int)) - 2)))).bind fun v35 => bif v35.fNotT then spec_l24Next_j4 a0 true else (getI a0 ((w64 (((a0.length : Int)) - 1)))).bind fun v53 => spec_l24Next_j4 a0 v53.fNotT else bif (a1.fKind == 6) then (getI a0 ((w64 (((a0.length : Int)) - 2)))).bind fun v57 => bif v57.fNotT then (getI a0 ((w64 (((a0.length : Int)) - 1)))).bind fun v75 => spec_l24Next_j7 a0 v75.fNotT else spec_l24Next_j7 a0 false else bif (a1.fKind == 7) then (slI a0 none (some ((w64 (((a0.length : Int)) - 1)))) none).bind fun v79 => (getI a0 ((w64 (((a0.length : Int)) - 1)))).bind fun v81 => (getI a0 ((w64 (((a0.length : Int)) - 1)))).bind fun v83 => (getI a0 ((w64 (((a0.length : Int)) - 1)))).bind fun v85 => (appT a0 (([(T_spec_l24Fact.mk v81.fNone v83.fNotF v85.fNotT)] : List T_spec_l24Fact)) v79.length).bind fun v87 => some v87 else (slI a0 none (some ((w64 (((a0.length : Int)) - 1)))) none).bind fun v89 => (getI a0 ((w64 (((a0.length : Int)) - 1)))).bind fun v91 => (appT a0 (([(T_spec_l24Fact.mk false false v91.fNone)] : List T_spec_l24Fact)) v89.length).bind fun v93 => some v93
def spec_l24Next (a0 : List T_spec_l24Fact) (a1 : T_impl_Part) (a2 : Int) : Option (List T_spec_l24Fact) := bif (a1.fKind == 1) then bif (a1.fV.fKind == 3) then spec_l24Next_j0 a0 a1 ((a1.fV.fN == 0)) else spec_l24Next_j0 a0 a1 false else bif (a1.fKind == 2) then bif (decide (a1.fN ≥ a2)) then (app a0 (([(T_spec_l24Fact.mk true true true)] : List T_spec_l24Fact))).bind fun v12 => some v12 else (app a0 (([(T_spec_l24Fact.mk false false false)] : List T_spec_l24Fact))).bind fun v14 => some v14 else bif (a1.fKind == 3) then spec_l24Next_j2 a0 a1 ((a1.fKind == 3)) else spec_l24Next_j2 a0 a1 ((a1.fKind == 4))
theorem ok_spec_l24Next {a0 : List T_spec_l24Fact} {a1 : T_impl_Part} {a2 : Int} {y : List T_spec_l24Fact} (h : spec_l24Next a0 a1 a2 = some y) : OKm Try.prog 37 [O a0, E a1, I a2] (O y) := by
  refine OKm_of_pwp (sl := [rf 0 0 3 a0, E a1, I a2]) (bs := [⟨0, eL a0⟩]) τ_ok Try.func37 rfl (by kernel_rfl) rfl (by kernel_rfl) fun Γ hX => ?_
  refine pwp_imp (Imp.to (st' := ⟨217, [(0, rf 0 0 3 a0), (1, E a1), (2, I a2)], [sl 0 a0]⟩) [0, 1, 2] (by kernel_rfl)) ?_
  unfold spec_l24Next at h
  refine srveM [8, 9, 10] 217 [(0, rf 0 0 3 a0), (2, I a2), (4, pf a1 0)] [sl 0 a0] ?_
  refine srveM [8, 9, 10] 217 [(0, rf 0 0 3 a0), (2, I a2), (4, pf a1 0), (7, I ((a0.length : Int)))] [sl 0 a0] ?_
  refine srveM [8, 9, 10] 217 [(0, rf 0 0 3 a0), (2, I a2), (4, pf a1 0), (7, I ((a0.length : Int))), (8, .ptr 1 0 0)] [sl 0 a0, some ⟨0, Enc.cells ((T_spec_l24Fact.mk true true true))⟩] ?_
  refine pwp_seq ?_
  refine srveM [8, 9, 10] 217 [(0, rf 0 0 3 a0), (2, I a2), (4, pf a1 0), (7, I ((a0.length : Int))), (8, .ptr 1 0 0), (15, I a1.fKind)] [sl 0 a0, some ⟨0, Enc.cells ((T_spec_l24Fact.mk true true true))⟩] ?_
  refine pwp_block ?_
  refine srveM [8, 9, 10] 217 [(0, rf 0 0 3 a0), (2, I a2), (4, pf a1 0), (7, I ((a0.length : Int))), (8, .ptr 1 0 0), (15, I a1.fKind), (16, B ((a1.fKind == 1)))] [sl 0 a0, some ⟨0, Enc.cells ((T_spec_l24Fact.mk true true true))⟩] ?_
  refine pc h (fun h => ?_) (fun h => ?_)
  refine srvM [8, 9, 10] 6 217 [(4, pf a1 0), (18, rf 0 0 3 a0), (23, B ((a1.fV.fKind == 3)))] [sl 0 a0, some ⟨0, Enc.cells ((T_spec_l24Fact.mk true true true))⟩] ?_
  refine opsP_join (σ := Bool) 11 (fun x2 => (⟨217, [(4, pf a1 0), (18, rf 0 0 3 a0), (28, B x2)], [sl 0 a0, some ⟨0, Enc.cells ((T_spec_l24Fact.mk true true true))⟩]⟩ : St)) (fun x2 => spec_l24Next_j0 a0 a1 x2 = some y) (fun J8 => ?_) ?_
  rcases fk ((a1.fV.fKind == 3)) with hc9 | hc9
  replace h := bT hc9 h
  rw [hc9]
  refine vM [8, 9, 10] 5 217 [(4, pf a1 0), (18, rf 0 0 3 a0), (28, B ((a1.fV.fN == 0)))] [sl 0 a0, some ⟨0, Enc.cells ((T_spec_l24Fact.mk true true true))⟩] ?_
  exact opsP_imp (it [4, 18, 28]) (J8 ((a1.fV.fN == 0)) h)
  replace h := bF hc9 h
  rw [hc9]
  refine vM [8, 9, 10] 5 217 [(4, pf a1 0), (18, rf 0 0 3 a0), (28, B false)] [sl 0 a0, some ⟨0, Enc.cells ((T_spec_l24Fact.mk true true true))⟩] ?_
  exact opsP_imp (it [4, 18, 28]) (J8 false h)
  rintro x2 h
  unfold spec_l24Next_j0 at h
  refine vM [8, 9, 10] 5 217 [(4, pf a1 0), (18, rf 0 0 3 a0), (28, B x2), (33, B ((a1.fV.fKind == 3)))] [sl 0 a0, some ⟨0, Enc.cells ((T_spec_l24Fact.mk true true true))⟩] ?_
  refine opsP_join (σ := Bool) 21 (fun x3 => (⟨217, [(18, rf 0 0 3 a0), (28, B x2), (38, B x3)], [sl 0 a0, some ⟨0, Enc.cells ((T_spec_l24Fact.mk true true true))⟩]⟩ : St)) (fun x3 => spec_l24Next_j1 a0 x2 x3 = some y) (fun J6 => ?_) ?_
  rcases fk ((a1.fV.fKind == 3)) with hc7 | hc7
  replace h := bT hc7 h
  rw [hc7]
  refine vM [8, 9, 10] 5 217 [(18, rf 0 0 3 a0), (28, B x2), (38, B ((a1.fV.fN == 1)))] [sl 0 a0, some ⟨0, Enc.cells ((T_spec_l24Fact.mk true true true))⟩] ?_
  exact opsP_imp (it [18, 28, 38]) (J6 ((a1.fV.fN == 1)) h)
  replace h := bF hc7 h
  rw [hc7]
  refine vM [8, 9, 10] 5 217 [(18, rf 0 0 3 a0), (28, B x2), (38, B false)] [sl 0 a0, some ⟨0, Enc.cells ((T_spec_l24Fact.mk true true true))⟩] ?_
  exact opsP_imp (it [18, 28, 38]) (J6 false h)
  rintro x3 h
  unfold spec_l24Next_j1 at h
  refine vM [8, 9, 10] 2 217 [(18, rf 0 0 3 a0), (40, .arr 3 (([(T_spec_l24Fact.mk false x2 x3)] : List T_spec_l24Fact)).length (eL ([(T_spec_l24Fact.mk false x2 x3)] : List T_spec_l24Fact)) true)] [sl 0 a0, some ⟨0, Enc.cells ((T_spec_l24Fact.mk true true true))⟩] ?_
  obtain ⟨v4, hv5, h⟩ := bindS h
  refine opsP_app τ_ok 41 0 0 (nx hX) hv5 (by kernel_rfl) ?_
  refine veM [8, 9, 10] 1 217 [(6, rf 0 1 3 v4)] [sl 1 v4, some ⟨0, Enc.cells ((T_spec_l24Fact.mk true true true))⟩] ?_
  have h := si h
  subst h
  exact pwp_ret (rt (rf 0 1 3 v4) (OutP.list (v := 1) (by kernel_rfl)))
  refine srveM [8, 9, 10] 217 [(0, rf 0 0 3 a0), (2, I a2), (4, pf a1 0), (7, I ((a0.length : Int))), (8, .ptr 1 0 0), (15, I a1.fKind), (42, B ((a1.fKind == 2)))] [sl 0 a0, some ⟨0, Enc.cells ((T_spec_l24Fact.mk true true true))⟩] ?_
  refine pc h (fun h => ?_) (fun h => ?_)
  refine pwp_seq ?_
  refine srveM [8, 9, 10] 217 [(0, rf 0 0 3 a0), (8, .ptr 1 0 0), (47, B ((decide (a1.fN ≥ a2))))] [sl 0 a0, some ⟨0, Enc.cells ((T_spec_l24Fact.mk true true true))⟩] ?_
  refine pc h (fun h => ?_) (fun h => ?_)
  refine srvM [8, 9, 10] 3 217 [(48, rf 0 0 3 a0), (50, .arr 3 (([(T_spec_l24Fact.mk true true true)] : List T_spec_l24Fact)).length (eL ([(T_spec_l24Fact.mk true true true)] : List T_spec_l24Fact)) true)] [sl 0 a0, some ⟨0, Enc.cells ((T_spec_l24Fact.mk true true true))⟩] ?_
  obtain ⟨v12, hv13, h⟩ := bindS h
  refine opsP_app τ_ok 51 0 0 (nx hX) hv13 (by kernel_rfl) ?_
  refine veM [8, 9, 10] 1 217 [(6, rf 0 1 3 v12)] [sl 1 v12, some ⟨0, Enc.cells ((T_spec_l24Fact.mk true true true))⟩] ?_
  have h := si h
  subst h
  exact pwp_ret (rt (rf 0 1 3 v12) (OutP.list (v := 1) (by kernel_rfl)))
  refine pwp_skip ?_
  refine srvM [8, 9, 10] 3 217 [(52, rf 0 0 3 a0), (54, .arr 3 (([(T_spec_l24Fact.mk false false false)] : List T_spec_l24Fact)).length (eL ([(T_spec_l24Fact.mk false false false)] : List T_spec_l24Fact)) true)] [sl 0 a0, some ⟨0, Enc.cells ((T_spec_l24Fact.mk true true true))⟩] ?_
  obtain ⟨v14, hv15, h⟩ := bindS h
  refine opsP_app τ_ok 55 0 0 (nx hX) hv15 (by kernel_rfl) ?_
  refine veM [8, 9, 10] 1 217 [(6, rf 0 1 3 v14)] [sl 1 v14, some ⟨0, Enc.cells ((T_spec_l24Fact.mk true true true))⟩] ?_
  have h := si h
  subst h
  exact pwp_ret (rt (rf 0 1 3 v14) (OutP.list (v := 1) (by kernel_rfl)))
  refine pwp_seq ?_
  refine pwp_join (σ := Bool) (fun x16 => (⟨217, [(0, rf 0 0 3 a0), (7, I ((a0.length : Int))), (8, .ptr 1 0 0), (15, I a1.fKind), (56, B x16)], [sl 0 a0, some ⟨0, Enc.cells ((T_spec_l24Fact.mk true true true))⟩]⟩ : St)) (fun x16 => spec_l24Next_j2 a0 a1 x16 = some y) ?_ ?_
  refine srveM [8, 9, 10] 217 [(0, rf 0 0 3 a0), (7, I ((a0.length : Int))), (8, .ptr 1 0 0), (15, I a1.fKind), (56, B ((a1.fKind == 3)))] [sl 0 a0, some ⟨0, Enc.cells ((T_spec_l24Fact.mk true true true))⟩] ?_
  refine pc h (fun h => ?_) (fun h => ?_)
  refine pwp_skip ?_
  exact ⟨(a1.fKind == 3), h, it [0, 7, 8, 15, 56]⟩
  refine rveM [8, 9, 10] 217 [(0, rf 0 0 3 a0), (7, I ((a0.length : Int))), (8, .ptr 1 0 0), (15, I a1.fKind), (56, B ((a1.fKind == 4)))] [sl 0 a0, some ⟨0, Enc.cells ((T_spec_l24Fact.mk true true true))⟩] ?_
  exact ⟨(a1.fKind == 4), h, it [0, 7, 8, 15, 56]⟩
  rintro x16 h
  unfold spec_l24Next_j2 at h
  refine pc h (fun h => ?_) (fun h => ?_)
  refine pwp_seq ?_
  refine srvM [8, 9, 10] 3 217 [(0, rf 0 0 3 a0), (7, I ((a0.length : Int))), (8, .ptr 1 0 0), (59, rf 0 0 3 a0), (61, I ((w64 (((a0.length : Int)) - 2))))] [sl 0 a0, some ⟨0, Enc.cells ((T_spec_l24Fact.mk true true true))⟩] ?_
  obtain ⟨v18, hv19, h⟩ := bindS h
  refine opsP_idr τ_ok 62 0 0 a0.length hv19 rfl (by kernel_rfl) ?_
  refine vM [8, 9, 10] 1 217 [(0, rf 0 0 3 a0), (7, I ((a0.length : Int))), (8, .ptr 1 0 0), (63, .ptr 0 0 (((w64 (((a0.length : Int)) - 2))).toNat * 3))] [sl 0 a0, some ⟨0, Enc.cells ((T_spec_l24Fact.mk true true true))⟩] ?_
  refine opsP_lde (r := B v18.fNone) τ_ok 64 4 0 hv19 (by kernel_rfl) (by kernel_rfl) ?_
  refine vM [8, 9, 10] 1 217 [(0, rf 0 0 3 a0), (7, I ((a0.length : Int))), (8, .ptr 1 0 0), (65, B v18.fNone)] [sl 0 a0, some ⟨0, Enc.cells ((T_spec_l24Fact.mk true true true))⟩] ?_
  refine opsP_join (σ := Bool) 14 (fun x20 => (⟨217, [(0, rf 0 0 3 a0), (7, I ((a0.length : Int))), (8, .ptr 1 0 0), (72, B x20)], [sl 0 a0, some ⟨0, Enc.cells ((T_spec_l24Fact.mk true true true))⟩]⟩ : St)) (fun x20 => spec_l24Next_j3 a0 x20 = some y) (fun J30 => ?_) ?_
  rcases Bool.eq_false_or_eq_true v18.fNone with hc33 | hc33
  replace h := bT hc33 h
  rw [hc33]
  refine vM [8, 9, 10] 7 217 [(0, rf 0 0 3 a0), (7, I ((a0.length : Int))), (8, .ptr 1 0 0), (72, B true)] [sl 0 a0, some ⟨0, Enc.cells ((T_spec_l24Fact.mk true true true))⟩] ?_
  exact opsP_imp (it [0, 7, 8, 72]) (J30 true h)
  replace h := bF hc33 h
  rw [hc33]
  refine vM [8, 9, 10] 3 217 [(0, rf 0 0 3 a0), (7, I ((a0.length : Int))), (8, .ptr 1 0 0), (65, B false), (66, rf 0 0 3 a0), (68, I ((w64 (((a0.length : Int)) - 1))))] [sl 0 a0, some ⟨0, Enc.cells ((T_spec_l24Fact.mk true true true))⟩] ?_
  obtain ⟨v31, hv32, h⟩ := bindS h
  refine opsP_idr τ_ok 69 0 0 a0.length hv32 rfl (by kernel_rfl) ?_
  refine vM [8, 9, 10] 1 217 [(0, rf 0 0 3 a0), (7, I ((a0.length : Int))), (8, .ptr 1 0 0), (65, B false), (70, .ptr 0 0 (((w64 (((a0.length : Int)) - 1))).toNat * 3))] [sl 0 a0, some ⟨0, Enc.cells ((T_spec_l24Fact.mk true true true))⟩] ?_
  refine opsP_lde (r := B v31.fNone) τ_ok 71 4 0 hv32 (by kernel_rfl) (by kernel_rfl) ?_
  refine vM [8, 9, 10] 1 217 [(0, rf 0 0 3 a0), (7, I ((a0.length : Int))), (8, .ptr 1 0 0), (72, B v31.fNone)] [sl 0 a0, some ⟨0, Enc.cells ((T_spec_l24Fact.mk true true true))⟩] ?_
  exact opsP_imp (it [0, 7, 8, 72]) (J30 v31.fNone h)
  rintro x20 h
  unfold spec_l24Next_j3 at h
  refine veM [8, 9, 10] 0 217 [(0, rf 0 0 3 a0), (7, I ((a0.length : Int))), (8, .ptr 1 0 0), (72, B x20)] [sl 0 a0, some ⟨0, Enc.cells ((T_spec_l24Fact.mk true true true))⟩] ?_
  refine pc h (fun h => ?_) (fun h => ?_)
  refine pwp_seq ?_
  refine ip 217 [(0, rf 0 0 3 a0), (7, I ((a0.length : Int))), (8, .ptr 1 0 0)] [sl 0 a0, some ⟨0, Enc.cells ((T_spec_l24Fact.mk true true true))⟩] ?_
  refine pwp_any ([[0], [], [], [0], [1], [], [0], [0]]) ([[], [], [], [], [], [], [0], []]) rfl (by kernel_rfl) ?_
  refine qvM [8, 9, 10] [0] (hL trivial) 1 217 [(73, rf 0 0 3 a0), (7, I ((a0.length : Int))), (8, .ptr 1 0 0)] [sl 0 a0, some ⟨0, Enc.cells ((T_spec_l24Fact.mk true true true))⟩] ?_
  refine qvM [8, 9, 10] [] trivial 2 217 [(75, I ((w64 (((a0.length : Int)) - 2)))), (73, rf 0 0 3 a0), (8, .ptr 1 0 0)] [sl 0 a0, some ⟨0, Enc.cells ((T_spec_l24Fact.mk true true true))⟩] ?_
  obtain ⟨v22, hv23, h⟩ := bindS h
  refine qX (some 76) (rf 0 0 3 v22) 217 [(76, rf 0 0 3 v22), (8, .ptr 1 0 0)] [sl 0 a0, some ⟨0, Enc.cells ((T_spec_l24Fact.mk true true true))⟩] (fun Γ' hΓ => CoreE.of_y (slrV_sound (n := a0.length) τ_ok (by kernel_rfl) rfl hv23)) (hL trivial) ?_
  refine qvM [8, 9, 10] [1] (hB trivial) 1 217 [(77, E ((T_spec_l24Fact.mk true true true))), (76, rf 0 0 3 v22)] [sl 0 a0, some ⟨0, Enc.cells ((T_spec_l24Fact.mk true true true))⟩] ?_
  refine qvM [8, 9, 10] [] trivial 1 217 [(78, .arr 3 (([(T_spec_l24Fact.mk true true true)] : List T_spec_l24Fact)).length (eL ([(T_spec_l24Fact.mk true true true)] : List T_spec_l24Fact)) true), (76, rf 0 0 3 v22)] [sl 0 a0, some ⟨0, Enc.cells ((T_spec_l24Fact.mk true true true))⟩] ?_
  obtain ⟨v24, hv25, h⟩ := bindS h
  refine qX (some 79) (rf 0 1 3 v24) 217 [(79, rf 0 1 3 v24)] [sl 1 v24, some ⟨0, Enc.cells ((T_spec_l24Fact.mk true true true))⟩] (fun Γ' hΓ => app_E τ_ok 79 0 0 v22.length (ny hΓ hX) hv25 (slI_le hv23) (by kernel_rfl)) (hL trivial) ?_
  refine qvnM [8, 9, 10] [0] (hL trivial) 1 217 [(6, rf 0 1 3 v24)] [sl 1 v24, some ⟨0, Enc.cells ((T_spec_l24Fact.mk true true true))⟩] ?_
  have h := si h
  subst h
  exact pwp_ret (rt (rf 0 1 3 v24) (OutP.list (v := 1) (by kernel_rfl)))
  refine pwp_skip ?_
  refine srvM [8, 9, 10] 3 217 [(80, rf 0 0 3 a0), (82, I ((w64 (((a0.length : Int)) - 2))))] [sl 0 a0, some ⟨0, Enc.cells ((T_spec_l24Fact.mk true true true))⟩] ?_
  obtain ⟨v26, hv27, h⟩ := bindS h
  refine opsP_slr τ_ok 83 0 0 a0.length hv27 rfl (by kernel_rfl) ?_
  refine vM [8, 9, 10] 2 217 [(83, rf 0 0 3 v26), (85, .arr 3 (([(T_spec_l24Fact.mk false false false)] : List T_spec_l24Fact)).length (eL ([(T_spec_l24Fact.mk false false false)] : List T_spec_l24Fact)) true)] [sl 0 a0, some ⟨0, Enc.cells ((T_spec_l24Fact.mk true true true))⟩] ?_
  obtain ⟨v28, hv29, h⟩ := bindS h
  refine opsP_apt τ_ok 86 0 0 v26.length (nx hX) hv29 (slI_le hv27) (by kernel_rfl) ?_
  refine veM [8, 9, 10] 1 217 [(6, rf 0 1 3 v28)] [sl 1 v28, some ⟨0, Enc.cells ((T_spec_l24Fact.mk true true true))⟩] ?_
  have h := si h
  subst h
  exact pwp_ret (rt (rf 0 1 3 v28) (OutP.list (v := 1) (by kernel_rfl)))
  refine srveM [8, 9, 10] 217 [(0, rf 0 0 3 a0), (7, I ((a0.length : Int))), (15, I a1.fKind), (87, B ((a1.fKind == 5)))] [sl 0 a0, some ⟨0, Enc.cells ((T_spec_l24Fact.mk true true true))⟩] ?_
  refine pc h (fun h => ?_) (fun h => ?_)
  refine pwp_seq ?_
  refine ip 217 [(0, rf 0 0 3 a0), (7, I ((a0.length : Int)))] [sl 0 a0, some ⟨0, Enc.cells ((T_spec_l24Fact.mk true true true))⟩] ?_
  refine pwp_imp (Imp.ghosts 1 (st' := ⟨217, [(0, rf 0 0 3 a0), (7, I ((a0.length : Int)))], [sl 0 a0, some ⟨0, Enc.cells ((T_spec_l24Fact.mk true true true))⟩, some ⟨0, []⟩]⟩) (by kernel_rfl)) ?_
  refine pwp_any ([[0], [], [], [0], [0], [0], [], [0], [], [], [0], [0], [0], [], [0], [], [], [0], [0], [0], [], [0], [], [], [0], [0], [0], [], [], [2], [2]]) ([[], [], [], [], [], [], [], [], [], [], [], [], [], [], [], [], [], [], [], [], [], [], [], [], [], [], [], [], [], [2], [2]]) rfl (by kernel_rfl) ?_
  refine qvM [8, 9, 10] [0] (hL trivial) 1 217 [(89, rf 0 0 3 a0), (0, rf 0 0 3 a0), (7, I ((a0.length : Int)))] [sl 0 a0, some ⟨0, Enc.cells ((T_spec_l24Fact.mk true true true))⟩, some ⟨0, []⟩] ?_
  refine qvM [8, 9, 10] [] trivial 2 217 [(91, I ((w64 (((a0.length : Int)) - 2)))), (89, rf 0 0 3 a0), (0, rf 0 0 3 a0), (7, I ((a0.length : Int)))] [sl 0 a0, some ⟨0, Enc.cells ((T_spec_l24Fact.mk true true true))⟩, some ⟨0, []⟩] ?_
  obtain ⟨v35, hv36, h⟩ := bindS h
  refine qX (some 92) (.ptr 0 0 (((w64 (((a0.length : Int)) - 2))).toNat * 3)) 217 [(92, .ptr 0 0 (((w64 (((a0.length : Int)) - 2))).toNat * 3)), (0, rf 0 0 3 a0), (7, I ((a0.length : Int)))] [sl 0 a0, some ⟨0, Enc.cells ((T_spec_l24Fact.mk true true true))⟩, some ⟨0, []⟩] (fun Γ' hΓ => CoreE.of_y (idrV_sound (n := a0.length) τ_ok (by kernel_rfl) hv36 rfl)) (hL trivial) ?_
  refine qvM [8, 9, 10] [0] (hL trivial) 1 217 [(93, .ptr 0 0 (((w64 (((a0.length : Int)) - 2))).toNat * 3 + 1)), (0, rf 0 0 3 a0), (7, I ((a0.length : Int)))] [sl 0 a0, some ⟨0, Enc.cells ((T_spec_l24Fact.mk true true true))⟩, some ⟨0, []⟩] ?_
  refine qX (some 94) (B v35.fNotT) 217 [(94, B v35.fNotT), (0, rf 0 0 3 a0), (7, I ((a0.length : Int)))] [sl 0 a0, some ⟨0, Enc.cells ((T_spec_l24Fact.mk true true true))⟩, some ⟨0, []⟩] (fun Γ' hΓ => CoreE.of_y (ldeV_sound (t := 4) (o' := 1) (r := B v35.fNotT) τ_ok hv36 (by kernel_rfl) (by kernel_rfl))) (hL trivial) ?_
  refine qvM [8, 9, 10] [] trivial 1 217 [(95, B v35.fNotT), (0, rf 0 0 3 a0), (7, I ((a0.length : Int)))] [sl 0 a0, some ⟨0, Enc.cells ((T_spec_l24Fact.mk true true true))⟩, some ⟨0, []⟩] ?_
  refine qA_join (σ := Bool) 14 17 (fun x37 => (⟨217, [(102, B x37), (0, rf 0 0 3 a0), (7, I ((a0.length : Int)))], [sl 0 a0, some ⟨0, Enc.cells ((T_spec_l24Fact.mk true true true))⟩, some ⟨0, []⟩]⟩ : St)) (fun x37 => spec_l24Next_j4 a0 x37 = some y) (fun J52 => ?_) ?_
  rcases Bool.eq_false_or_eq_true v35.fNotT with hc55 | hc55
  replace h := bT hc55 h
  rw [hc55]
  refine qvM [8, 9, 10] [0] (hL trivial) 1 217 [(96, .lit undef), (95, B true), (0, rf 0 0 3 a0), (7, I ((a0.length : Int)))] [sl 0 a0, some ⟨0, Enc.cells ((T_spec_l24Fact.mk true true true))⟩, some ⟨0, []⟩] ?_
  refine qvM [8, 9, 10] [] trivial 2 217 [(98, .lit undef), (96, .lit undef), (95, B true), (0, rf 0 0 3 a0), (7, I ((a0.length : Int)))] [sl 0 a0, some ⟨0, Enc.cells ((T_spec_l24Fact.mk true true true))⟩, some ⟨0, []⟩] ?_
  refine qvM [8, 9, 10] [0] (hL trivial) 3 217 [(101, .lit undef), (95, B true), (0, rf 0 0 3 a0), (7, I ((a0.length : Int)))] [sl 0 a0, some ⟨0, Enc.cells ((T_spec_l24Fact.mk true true true))⟩, some ⟨0, []⟩] ?_
  refine qvM [8, 9, 10] [] trivial 1 217 [(102, B true), (0, rf 0 0 3 a0), (7, I ((a0.length : Int)))] [sl 0 a0, some ⟨0, Enc.cells ((T_spec_l24Fact.mk true true true))⟩, some ⟨0, []⟩] ?_
  exact J52 true h
  replace h := bF hc55 h
  rw [hc55]
  refine qvM [8, 9, 10] [0] (hL trivial) 1 217 [(96, rf 0 0 3 a0), (95, B false), (0, rf 0 0 3 a0), (7, I ((a0.length : Int)))] [sl 0 a0, some ⟨0, Enc.cells ((T_spec_l24Fact.mk true true true))⟩, some ⟨0, []⟩] ?_
  refine qvM [8, 9, 10] [] trivial 2 217 [(98, I ((w64 (((a0.length : Int)) - 1)))), (96, rf 0 0 3 a0), (95, B false), (0, rf 0 0 3 a0), (7, I ((a0.length : Int)))] [sl 0 a0, some ⟨0, Enc.cells ((T_spec_l24Fact.mk true true true))⟩, some ⟨0, []⟩] ?_
  obtain ⟨v53, hv54, h⟩ := bindS h
  refine qX (some 99) (.ptr 0 0 (((w64 (((a0.length : Int)) - 1))).toNat * 3)) 217 [(99, .ptr 0 0 (((w64 (((a0.length : Int)) - 1))).toNat * 3)), (95, B false), (0, rf 0 0 3 a0), (7, I ((a0.length : Int)))] [sl 0 a0, some ⟨0, Enc.cells ((T_spec_l24Fact.mk true true true))⟩, some ⟨0, []⟩] (fun Γ' hΓ => CoreE.of_y (idrV_sound (n := a0.length) τ_ok (by kernel_rfl) hv54 rfl)) (hL trivial) ?_
  refine qvM [8, 9, 10] [0] (hL trivial) 1 217 [(100, .ptr 0 0 (((w64 (((a0.length : Int)) - 1))).toNat * 3 + 1)), (95, B false), (0, rf 0 0 3 a0), (7, I ((a0.length : Int)))] [sl 0 a0, some ⟨0, Enc.cells ((T_spec_l24Fact.mk true true true))⟩, some ⟨0, []⟩] ?_
  refine qX (some 101) (B v53.fNotT) 217 [(101, B v53.fNotT), (95, B false), (0, rf 0 0 3 a0), (7, I ((a0.length : Int)))] [sl 0 a0, some ⟨0, Enc.cells ((T_spec_l24Fact.mk true true true))⟩, some ⟨0, []⟩] (fun Γ' hΓ => CoreE.of_y (ldeV_sound (t := 4) (o' := 1) (r := B v53.fNotT) τ_ok hv54 (by kernel_rfl) (by kernel_rfl))) (hL trivial) ?_
  refine qvM [8, 9, 10] [] trivial 1 217 [(102, B v53.fNotT), (0, rf 0 0 3 a0), (7, I ((a0.length : Int)))] [sl 0 a0, some ⟨0, Enc.cells ((T_spec_l24Fact.mk true true true))⟩, some ⟨0, []⟩] ?_
  exact J52 v53.fNotT h
  rintro x37 h
  unfold spec_l24Next_j4 at h
  refine qvM [8, 9, 10] [0] (hL trivial) 1 217 [(103, rf 0 0 3 a0), (102, B x37), (0, rf 0 0 3 a0), (7, I ((a0.length : Int)))] [sl 0 a0, some ⟨0, Enc.cells ((T_spec_l24Fact.mk true true true))⟩, some ⟨0, []⟩] ?_
  refine qvM [8, 9, 10] [] trivial 2 217 [(105, I ((w64 (((a0.length : Int)) - 2)))), (103, rf 0 0 3 a0), (102, B x37), (0, rf 0 0 3 a0), (7, I ((a0.length : Int)))] [sl 0 a0, some ⟨0, Enc.cells ((T_spec_l24Fact.mk true true true))⟩, some ⟨0, []⟩] ?_
  obtain ⟨v38, hv39, h⟩ := bindS h
  refine qX (some 106) (.ptr 0 0 (((w64 (((a0.length : Int)) - 2))).toNat * 3)) 217 [(106, .ptr 0 0 (((w64 (((a0.length : Int)) - 2))).toNat * 3)), (102, B x37), (0, rf 0 0 3 a0), (7, I ((a0.length : Int)))] [sl 0 a0, some ⟨0, Enc.cells ((T_spec_l24Fact.mk true true true))⟩, some ⟨0, []⟩] (fun Γ' hΓ => CoreE.of_y (idrV_sound (n := a0.length) τ_ok (by kernel_rfl) hv39 rfl)) (hL trivial) ?_
  refine qvM [8, 9, 10] [0] (hL trivial) 1 217 [(107, .ptr 0 0 (((w64 (((a0.length : Int)) - 2))).toNat * 3 + 2)), (102, B x37), (0, rf 0 0 3 a0), (7, I ((a0.length : Int)))] [sl 0 a0, some ⟨0, Enc.cells ((T_spec_l24Fact.mk true true true))⟩, some ⟨0, []⟩] ?_
  refine qX (some 108) (B v38.fNotF) 217 [(108, B v38.fNotF), (102, B x37), (0, rf 0 0 3 a0), (7, I ((a0.length : Int)))] [sl 0 a0, some ⟨0, Enc.cells ((T_spec_l24Fact.mk true true true))⟩, some ⟨0, []⟩] (fun Γ' hΓ => CoreE.of_y (ldeV_sound (t := 4) (o' := 2) (r := B v38.fNotF) τ_ok hv39 (by kernel_rfl) (by kernel_rfl))) (hL trivial) ?_
  refine qvM [8, 9, 10] [] trivial 1 217 [(109, B v38.fNotF), (102, B x37), (0, rf 0 0 3 a0), (7, I ((a0.length : Int)))] [sl 0 a0, some ⟨0, Enc.cells ((T_spec_l24Fact.mk true true true))⟩, some ⟨0, []⟩] ?_
  refine qA_join (σ := Bool) 28 3 (fun x40 => (⟨217, [(116, B x40), (102, B x37), (0, rf 0 0 3 a0), (7, I ((a0.length : Int)))], [sl 0 a0, some ⟨0, Enc.cells ((T_spec_l24Fact.mk true true true))⟩, some ⟨0, []⟩]⟩ : St)) (fun x40 => spec_l24Next_j5 a0 x37 x40 = some y) (fun J48 => ?_) ?_
  rcases Bool.eq_false_or_eq_true v38.fNotF with hc51 | hc51
  replace h := bT hc51 h
  rw [hc51]
  refine qvM [8, 9, 10] [0] (hL trivial) 1 217 [(110, rf 0 0 3 a0), (109, B true), (102, B x37), (0, rf 0 0 3 a0), (7, I ((a0.length : Int)))] [sl 0 a0, some ⟨0, Enc.cells ((T_spec_l24Fact.mk true true true))⟩, some ⟨0, []⟩] ?_
  refine qvM [8, 9, 10] [] trivial 2 217 [(112, I ((w64 (((a0.length : Int)) - 1)))), (110, rf 0 0 3 a0), (109, B true), (102, B x37), (0, rf 0 0 3 a0), (7, I ((a0.length : Int)))] [sl 0 a0, some ⟨0, Enc.cells ((T_spec_l24Fact.mk true true true))⟩, some ⟨0, []⟩] ?_
  obtain ⟨v49, hv50, h⟩ := bindS h
  refine qX (some 113) (.ptr 0 0 (((w64 (((a0.length : Int)) - 1))).toNat * 3)) 217 [(113, .ptr 0 0 (((w64 (((a0.length : Int)) - 1))).toNat * 3)), (109, B true), (102, B x37), (0, rf 0 0 3 a0), (7, I ((a0.length : Int)))] [sl 0 a0, some ⟨0, Enc.cells ((T_spec_l24Fact.mk true true true))⟩, some ⟨0, []⟩] (fun Γ' hΓ => CoreE.of_y (idrV_sound (n := a0.length) τ_ok (by kernel_rfl) hv50 rfl)) (hL trivial) ?_
  refine qvM [8, 9, 10] [0] (hL trivial) 1 217 [(114, .ptr 0 0 (((w64 (((a0.length : Int)) - 1))).toNat * 3 + 2)), (109, B true), (102, B x37), (0, rf 0 0 3 a0), (7, I ((a0.length : Int)))] [sl 0 a0, some ⟨0, Enc.cells ((T_spec_l24Fact.mk true true true))⟩, some ⟨0, []⟩] ?_
  refine qX (some 115) (B v49.fNotF) 217 [(115, B v49.fNotF), (109, B true), (102, B x37), (0, rf 0 0 3 a0), (7, I ((a0.length : Int)))] [sl 0 a0, some ⟨0, Enc.cells ((T_spec_l24Fact.mk true true true))⟩, some ⟨0, []⟩] (fun Γ' hΓ => CoreE.of_y (ldeV_sound (t := 4) (o' := 2) (r := B v49.fNotF) τ_ok hv50 (by kernel_rfl) (by kernel_rfl))) (hL trivial) ?_
  refine qvM [8, 9, 10] [] trivial 1 217 [(116, B v49.fNotF), (102, B x37), (0, rf 0 0 3 a0), (7, I ((a0.length : Int)))] [sl 0 a0, some ⟨0, Enc.cells ((T_spec_l24Fact.mk true true true))⟩, some ⟨0, []⟩] ?_
  exact J48 v49.fNotF h
  replace h := bF hc51 h
  rw [hc51]
  refine qvM [8, 9, 10] [0] (hL trivial) 1 217 [(110, .lit undef), (109, B false), (102, B x37), (0, rf 0 0 3 a0), (7, I ((a0.length : Int)))] [sl 0 a0, some ⟨0, Enc.cells ((T_spec_l24Fact.mk true true true))⟩, some ⟨0, []⟩] ?_
  refine qvM [8, 9, 10] [] trivial 2 217 [(112, .lit undef), (110, .lit undef), (109, B false), (102, B x37), (0, rf 0 0 3 a0), (7, I ((a0.length : Int)))] [sl 0 a0, some ⟨0, Enc.cells ((T_spec_l24Fact.mk true true true))⟩, some ⟨0, []⟩] ?_
  refine qvM [8, 9, 10] [0] (hL trivial) 3 217 [(115, .lit undef), (109, B false), (102, B x37), (0, rf 0 0 3 a0), (7, I ((a0.length : Int)))] [sl 0 a0, some ⟨0, Enc.cells ((T_spec_l24Fact.mk true true true))⟩, some ⟨0, []⟩] ?_
  refine qvM [8, 9, 10] [] trivial 1 217 [(116, B false), (102, B x37), (0, rf 0 0 3 a0), (7, I ((a0.length : Int)))] [sl 0 a0, some ⟨0, Enc.cells ((T_spec_l24Fact.mk true true true))⟩, some ⟨0, []⟩] ?_
  exact J48 false h
  rintro x40 h
  unfold spec_l24Next_j5 at h
  refine qvM [8, 9, 10] [] trivial 1 217 [(117, E ((T_spec_l24Fact.mk false x37 x40))), (0, rf 0 0 3 a0), (7, I ((a0.length : Int)))] [sl 0 a0, some ⟨0, Enc.cells ((T_spec_l24Fact.mk true true true))⟩, some ⟨0, []⟩] ?_
  refine qX (Hm' := [none, none, some ⟨1, Enc.cells ((T_spec_l24Fact.mk false false false))⟩]) (some 9) (.ptr 2 1 0) 217 [(9, .ptr 2 1 0), (117, E ((T_spec_l24Fact.mk false x37 x40))), (0, rf 0 0 3 a0), (7, I ((a0.length : Int)))] [sl 0 a0, some ⟨0, Enc.cells ((T_spec_l24Fact.mk true true true))⟩, some ⟨1, Enc.cells ((T_spec_l24Fact.mk false false false))⟩] (fun Γ' hΓ => alc_E (blk := ⟨0, []⟩) τ_ok [8, 9, 10] 9 2 0 (ny hΓ hX) (by kernel_rfl) (by kernel_rfl)) (hB trivial) ?_
  refine qX (Hm' := [none, none, some ⟨1, Enc.cells ((T_spec_l24Fact.mk false x37 x40))⟩]) none (.any) 217 [(9, .ptr 2 1 0), (0, rf 0 0 3 a0), (7, I ((a0.length : Int)))] [sl 0 a0, some ⟨0, Enc.cells ((T_spec_l24Fact.mk true true true))⟩, some ⟨1, Enc.cells ((T_spec_l24Fact.mk false x37 x40))⟩] (fun Γ' hΓ => sto_E τ_ok 2 1 (by kernel_rfl)) (hB trivial) ?_
  refine qn 217 [(0, rf 0 0 3 a0), (7, I ((a0.length : Int))), (9, .ptr 2 1 0)] [sl 0 a0, some ⟨0, Enc.cells ((T_spec_l24Fact.mk true true true))⟩, some ⟨1, Enc.cells ((T_spec_l24Fact.mk false x37 x40))⟩] ?_
  refine srvM [8, 9, 10] 3 217 [(0, rf 0 0 3 a0), (7, I ((a0.length : Int))), (9, .ptr 2 1 0), (120, B ((T_spec_l24Fact.mk false x37 x40).fNotT))] [sl 0 a0, some ⟨0, Enc.cells ((T_spec_l24Fact.mk true true true))⟩, some ⟨1, Enc.cells ((T_spec_l24Fact.mk false x37 x40))⟩] ?_
  refine opsP_join (σ := Bool) 6 (fun x41 => (⟨217, [(0, rf 0 0 3 a0), (7, I ((a0.length : Int))), (9, .ptr 2 1 0), (123, B x41)], [sl 0 a0, some ⟨0, Enc.cells ((T_spec_l24Fact.mk true true true))⟩, some ⟨1, Enc.cells ((T_spec_l24Fact.mk false x37 x40))⟩]⟩ : St)) (fun x41 => spec_l24Next_j6 a0 x37 x40 x41 = some y) (fun J46 => ?_) ?_
  rcases fk ((T_spec_l24Fact.mk false x37 x40).fNotT) with hc47 | hc47
  replace h := bT hc47 h
  rw [hc47]
  refine vM [8, 9, 10] 3 217 [(0, rf 0 0 3 a0), (7, I ((a0.length : Int))), (9, .ptr 2 1 0), (123, B ((T_spec_l24Fact.mk false x37 x40).fNotF))] [sl 0 a0, some ⟨0, Enc.cells ((T_spec_l24Fact.mk true true true))⟩, some ⟨1, Enc.cells ((T_spec_l24Fact.mk false x37 x40))⟩] ?_
  exact opsP_imp (it [0, 7, 9, 123]) (J46 ((T_spec_l24Fact.mk false x37 x40).fNotF) h)
  replace h := bF hc47 h
  rw [hc47]
  refine vM [8, 9, 10] 3 217 [(0, rf 0 0 3 a0), (7, I ((a0.length : Int))), (9, .ptr 2 1 0), (123, B false)] [sl 0 a0, some ⟨0, Enc.cells ((T_spec_l24Fact.mk true true true))⟩, some ⟨1, Enc.cells ((T_spec_l24Fact.mk false x37 x40))⟩] ?_
  exact opsP_imp (it [0, 7, 9, 123]) (J46 false h)
  rintro x41 h
  unfold spec_l24Next_j6 at h
  refine veM [8, 9, 10] 2 217 [(0, rf 0 0 3 a0), (7, I ((a0.length : Int))), (9, .ptr 2 1 0)] [sl 0 a0, some ⟨0, Enc.cells ((T_spec_l24Fact.mk true true true))⟩, some ⟨1, Enc.cells ({ ((T_spec_l24Fact.mk false x37 x40)) with fNone := x41 })⟩] ?_
  refine pwp_seq ?_
  refine ip 217 [(0, rf 0 0 3 a0), (7, I ((a0.length : Int))), (9, .ptr 2 1 0)] [sl 0 a0, some ⟨0, Enc.cells ((T_spec_l24Fact.mk true true true))⟩, some ⟨1, Enc.cells ({ ((T_spec_l24Fact.mk false x37 x40)) with fNone := x41 })⟩] ?_
  refine pwp_any ([[0], [], [], [0], [2], [], [0], [0]]) ([[], [], [], [], [], [], [0], []]) rfl (by kernel_rfl) ?_
  refine qvM [8, 9, 10] [0] (hL trivial) 1 217 [(125, rf 0 0 3 a0), (7, I ((a0.length : Int))), (9, .ptr 2 1 0)] [sl 0 a0, some ⟨0, Enc.cells ((T_spec_l24Fact.mk true true true))⟩, some ⟨1, Enc.cells ({ ((T_spec_l24Fact.mk false x37 x40)) with fNone := x41 })⟩] ?_
  refine qvM [8, 9, 10] [] trivial 2 217 [(127, I ((w64 (((a0.length : Int)) - 2)))), (125, rf 0 0 3 a0), (9, .ptr 2 1 0)] [sl 0 a0, some ⟨0, Enc.cells ((T_spec_l24Fact.mk true true true))⟩, some ⟨1, Enc.cells ({ ((T_spec_l24Fact.mk false x37 x40)) with fNone := x41 })⟩] ?_
  obtain ⟨v42, hv43, h⟩ := bindS h
  refine qX (some 128) (rf 0 0 3 v42) 217 [(128, rf 0 0 3 v42), (9, .ptr 2 1 0)] [sl 0 a0, some ⟨0, Enc.cells ((T_spec_l24Fact.mk true true true))⟩, some ⟨1, Enc.cells ({ ((T_spec_l24Fact.mk false x37 x40)) with fNone := x41 })⟩] (fun Γ' hΓ => CoreE.of_y (slrV_sound (n := a0.length) τ_ok (by kernel_rfl) rfl hv43)) (hL trivial) ?_
  refine qvM [8, 9, 10] [2] (hB trivial) 1 217 [(129, E ({ ((T_spec_l24Fact.mk false x37 x40)) with fNone := x41 })), (128, rf 0 0 3 v42)] [sl 0 a0, some ⟨0, Enc.cells ((T_spec_l24Fact.mk true true true))⟩, some ⟨1, Enc.cells ({ ((T_spec_l24Fact.mk false x37 x40)) with fNone := x41 })⟩] ?_
  refine qvM [8, 9, 10] [] trivial 1 217 [(130, .arr 3 (([{ ((T_spec_l24Fact.mk false x37 x40)) with fNone := x41 }] : List T_spec_l24Fact)).length (eL ([{ ((T_spec_l24Fact.mk false x37 x40)) with fNone := x41 }] : List T_spec_l24Fact)) true), (128, rf 0 0 3 v42)] [sl 0 a0, some ⟨0, Enc.cells ((T_spec_l24Fact.mk true true true))⟩, some ⟨1, Enc.cells ({ ((T_spec_l24Fact.mk false x37 x40)) with fNone := x41 })⟩] ?_
  obtain ⟨v44, hv45, h⟩ := bindS h
  refine qX (some 131) (rf 0 1 3 v44) 217 [(131, rf 0 1 3 v44)] [sl 1 v44, some ⟨0, Enc.cells ((T_spec_l24Fact.mk true true true))⟩, some ⟨1, Enc.cells ({ ((T_spec_l24Fact.mk false x37 x40)) with fNone := x41 })⟩] (fun Γ' hΓ => app_E τ_ok 131 0 0 v42.length (ny hΓ hX) hv45 (slI_le hv43) (by kernel_rfl)) (hL trivial) ?_
  refine qvnM [8, 9, 10] [0] (hL trivial) 1 217 [(6, rf 0 1 3 v44)] [sl 1 v44, some ⟨0, Enc.cells ((T_spec_l24Fact.mk true true true))⟩, some ⟨1, Enc.cells ({ ((T_spec_l24Fact.mk false x37 x40)) with fNone := x41 })⟩] ?_
  have h := si h
  subst h
  exact pwp_ret (rt (rf 0 1 3 v44) (OutP.list (v := 1) (by kernel_rfl)))
  refine srveM [8, 9, 10] 217 [(0, rf 0 0 3 a0), (7, I ((a0.length : Int))), (15, I a1.fKind), (132, B ((a1.fKind == 6)))] [sl 0 a0, some ⟨0, Enc.cells ((T_spec_l24Fact.mk true true true))⟩] ?_
  refine pc h (fun h => ?_) (fun h => ?_)
  refine pwp_seq ?_
  refine ip 217 [(0, rf 0 0 3 a0), (7, I ((a0.length : Int)))] [sl 0 a0, some ⟨0, Enc.cells ((T_spec_l24Fact.mk true true true))⟩] ?_
  refine pwp_imp (Imp.ghosts 1 (st' := ⟨217, [(0, rf 0 0 3 a0), (7, I ((a0.length : Int)))], [sl 0 a0, some ⟨0, Enc.cells ((T_spec_l24Fact.mk true true true))⟩, some ⟨0, []⟩]⟩) (by kernel_rfl)) ?_
  refine pwp_any ([[0], [], [], [0], [0], [0], [], [0], [], [], [0], [0], [0], [], [0], [], [], [0], [0], [0], [], [0], [], [], [0], [0], [0], [], [], [2], [2]]) ([[], [], [], [], [], [], [], [], [], [], [], [], [], [], [], [], [], [], [], [], [], [], [], [], [], [], [], [], [], [2], [2]]) rfl (by kernel_rfl) ?_
  refine qvM [8, 9, 10] [0] (hL trivial) 1 217 [(134, rf 0 0 3 a0), (0, rf 0 0 3 a0), (7, I ((a0.length : Int)))] [sl 0 a0, some ⟨0, Enc.cells ((T_spec_l24Fact.mk true true true))⟩, some ⟨0, []⟩] ?_
  refine qvM [8, 9, 10] [] trivial 2 217 [(136, I ((w64 (((a0.length : Int)) - 2)))), (134, rf 0 0 3 a0), (0, rf 0 0 3 a0), (7, I ((a0.length : Int)))] [sl 0 a0, some ⟨0, Enc.cells ((T_spec_l24Fact.mk true true true))⟩, some ⟨0, []⟩] ?_
  obtain ⟨v57, hv58, h⟩ := bindS h
  refine qX (some 137) (.ptr 0 0 (((w64 (((a0.length : Int)) - 2))).toNat * 3)) 217 [(137, .ptr 0 0 (((w64 (((a0.length : Int)) - 2))).toNat * 3)), (0, rf 0 0 3 a0), (7, I ((a0.length : Int)))] [sl 0 a0, some ⟨0, Enc.cells ((T_spec_l24Fact.mk true true true))⟩, some ⟨0, []⟩] (fun Γ' hΓ => CoreE.of_y (idrV_sound (n := a0.length) τ_ok (by kernel_rfl) hv58 rfl)) (hL trivial) ?_
  refine qvM [8, 9, 10] [0] (hL trivial) 1 217 [(138, .ptr 0 0 (((w64 (((a0.length : Int)) - 2))).toNat * 3 + 1)), (0, rf 0 0 3 a0), (7, I ((a0.length : Int)))] [sl 0 a0, some ⟨0, Enc.cells ((T_spec_l24Fact.mk true true true))⟩, some ⟨0, []⟩] ?_
  refine qX (some 139) (B v57.fNotT) 217 [(139, B v57.fNotT), (0, rf 0 0 3 a0), (7, I ((a0.length : Int)))] [sl 0 a0, some ⟨0, Enc.cells ((T_spec_l24Fact.mk true true true))⟩, some ⟨0, []⟩] (fun Γ' hΓ => CoreE.of_y (ldeV_sound (t := 4) (o' := 1) (r := B v57.fNotT) τ_ok hv58 (by kernel_rfl) (by kernel_rfl))) (hL trivial) ?_
  refine qvM [8, 9, 10] [] trivial 1 217 [(140, B v57.fNotT), (0, rf 0 0 3 a0), (7, I ((a0.length : Int)))] [sl 0 a0, some ⟨0, Enc.cells ((T_spec_l24Fact.mk true true true))⟩, some ⟨0, []⟩] ?_
  refine qA_join (σ := Bool) 14 17 (fun x59 => (⟨217, [(147, B x59), (0, rf 0 0 3 a0), (7, I ((a0.length : Int)))], [sl 0 a0, some ⟨0, Enc.cells ((T_spec_l24Fact.mk true true true))⟩, some ⟨0, []⟩]⟩ : St)) (fun x59 => spec_l24Next_j7 a0 x59 = some y) (fun J74 => ?_) ?_
  rcases Bool.eq_false_or_eq_true v57.fNotT with hc77 | hc77
  replace h := bT hc77 h
  rw [hc77]
  refine qvM [8, 9, 10] [0] (hL trivial) 1 217 [(141, rf 0 0 3 a0), (140, B true), (0, rf 0 0 3 a0), (7, I ((a0.length : Int)))] [sl 0 a0, some ⟨0, Enc.cells ((T_spec_l24Fact.mk true true true))⟩, some ⟨0, []⟩] ?_
  refine qvM [8, 9, 10] [] trivial 2 217 [(143, I ((w64 (((a0.length : Int)) - 1)))), (141, rf 0 0 3 a0), (140, B true), (0, rf 0 0 3 a0), (7, I ((a0.length : Int)))] [sl 0 a0, some ⟨0, Enc.cells ((T_spec_l24Fact.mk true true true))⟩, some ⟨0, []⟩] ?_
  obtain ⟨v75, hv76, h⟩ := bindS h
  refine qX (some 144) (.ptr 0 0 (((w64 (((a0.length : Int)) - 1))).toNat * 3)) 217 [(144, .ptr 0 0 (((w64 (((a0.length : Int)) - 1))).toNat * 3)), (140, B true), (0, rf 0 0 3 a0), (7, I ((a0.length : Int)))] [sl 0 a0, some ⟨0, Enc.cells ((T_spec_l24Fact.mk true true true))⟩, some ⟨0, []⟩] (fun Γ' hΓ => CoreE.of_y (idrV_sound (n := a0.length) τ_ok (by kernel_rfl) hv76 rfl)) (hL trivial) ?_
  refine qvM [8, 9, 10] [0] (hL trivial) 1 217 [(145, .ptr 0 0 (((w64 (((a0.length : Int)) - 1))).toNat * 3 + 1)), (140, B true), (0, rf 0 0 3 a0), (7, I ((a0.length : Int)))] [sl 0 a0, some ⟨0, Enc.cells ((T_spec_l24Fact.mk true true true))⟩, some ⟨0, []⟩] ?_
  refine qX (some 146) (B v75.fNotT) 217 [(146, B v75.fNotT), (140, B true), (0, rf 0 0 3 a0), (7, I ((a0.length : Int)))] [sl 0 a0, some ⟨0, Enc.cells ((T_spec_l24Fact.mk true true true))⟩, some ⟨0, []⟩] (fun Γ' hΓ => CoreE.of_y (ldeV_sound (t := 4) (o' := 1) (r := B v75.fNotT) τ_ok hv76 (by kernel_rfl) (by kernel_rfl))) (hL trivial) ?_
  refine qvM [8, 9, 10] [] trivial 1 217 [(147, B v75.fNotT), (0, rf 0 0 3 a0), (7, I ((a0.length : Int)))] [sl 0 a0, some ⟨0, Enc.cells ((T_spec_l24Fact.mk true true true))⟩, some ⟨0, []⟩] ?_
  exact J74 v75.fNotT h
  replace h := bF hc77 h
  rw [hc77]
  refine qvM [8, 9, 10] [0] (hL trivial) 1 217 [(141, .lit undef), (140, B false), (0, rf 0 0 3 a0), (7, I ((a0.length : Int)))] [sl 0 a0, some ⟨0, Enc.cells ((T_spec_l24Fact.mk true true true))⟩, some ⟨0, []⟩] ?_
  refine qvM [8, 9, 10] [] trivial 2 217 [(143, .lit undef), (141, .lit undef), (140, B false), (0, rf 0 0 3 a0), (7, I ((a0.length : Int)))] [sl 0 a0, some ⟨0, Enc.cells ((T_spec_l24Fact.mk true true true))⟩, some ⟨0, []⟩] ?_
  refine qvM [8, 9, 10] [0] (hL trivial) 3 217 [(146, .lit undef), (140, B false), (0, rf 0 0 3 a0), (7, I ((a0.length : Int)))] [sl 0 a0, some ⟨0, Enc.cells ((T_spec_l24Fact.mk true true true))⟩, some ⟨0, []⟩] ?_
  refine qvM [8, 9, 10] [] trivial 1 217 [(147, B false), (0, rf 0 0 3 a0), (7, I ((a0.length : Int)))] [sl 0 a0, some ⟨0, Enc.cells ((T_spec_l24Fact.mk true true true))⟩, some ⟨0, []⟩] ?_
  exact J74 false h
  rintro x59 h
  unfold spec_l24Next_j7 at h
  refine qvM [8, 9, 10] [0] (hL trivial) 1 217 [(148, rf 0 0 3 a0), (147, B x59), (0, rf 0 0 3 a0), (7, I ((a0.length : Int)))] [sl 0 a0, some ⟨0, Enc.cells ((T_spec_l24Fact.mk true true true))⟩, some ⟨0, []⟩] ?_
  refine qvM [8, 9, 10] [] trivial 2 217 [(150, I ((w64 (((a0.length : Int)) - 2)))), (148, rf 0 0 3 a0), (147, B x59), (0, rf 0 0 3 a0), (7, I ((a0.length : Int)))] [sl 0 a0, some ⟨0, Enc.cells ((T_spec_l24Fact.mk true true true))⟩, some ⟨0, []⟩] ?_
  obtain ⟨v60, hv61, h⟩ := bindS h
  refine qX (some 151) (.ptr 0 0 (((w64 (((a0.length : Int)) - 2))).toNat * 3)) 217 [(151, .ptr 0 0 (((w64 (((a0.length : Int)) - 2))).toNat * 3)), (147, B x59), (0, rf 0 0 3 a0), (7, I ((a0.length : Int)))] [sl 0 a0, some ⟨0, Enc.cells ((T_spec_l24Fact.mk true true true))⟩, some ⟨0, []⟩] (fun Γ' hΓ => CoreE.of_y (idrV_sound (n := a0.length) τ_ok (by kernel_rfl) hv61 rfl)) (hL trivial) ?_
  refine qvM [8, 9, 10] [0] (hL trivial) 1 217 [(152, .ptr 0 0 (((w64 (((a0.length : Int)) - 2))).toNat * 3 + 2)), (147, B x59), (0, rf 0 0 3 a0), (7, I ((a0.length : Int)))] [sl 0 a0, some ⟨0, Enc.cells ((T_spec_l24Fact.mk true true true))⟩, some ⟨0, []⟩] ?_
  refine qX (some 153) (B v60.fNotF) 217 [(153, B v60.fNotF), (147, B x59), (0, rf 0 0 3 a0), (7, I ((a0.length : Int)))] [sl 0 a0, some ⟨0, Enc.cells ((T_spec_l24Fact.mk true true true))⟩, some ⟨0, []⟩] (fun Γ' hΓ => CoreE.of_y (ldeV_sound (t := 4) (o' := 2) (r := B v60.fNotF) τ_ok hv61 (by kernel_rfl) (by kernel_rfl))) (hL trivial) ?_
  refine qvM [8, 9, 10] [] trivial 1 217 [(154, B v60.fNotF), (147, B x59), (0, rf 0 0 3 a0), (7, I ((a0.length : Int)))] [sl 0 a0, some ⟨0, Enc.cells ((T_spec_l24Fact.mk true true true))⟩, some ⟨0, []⟩] ?_
  refine qA_join (σ := Bool) 28 3 (fun x62 => (⟨217, [(161, B x62), (147, B x59), (0, rf 0 0 3 a0), (7, I ((a0.length : Int)))], [sl 0 a0, some ⟨0, Enc.cells ((T_spec_l24Fact.mk true true true))⟩, some ⟨0, []⟩]⟩ : St)) (fun x62 => spec_l24Next_j8 a0 x59 x62 = some y) (fun J70 => ?_) ?_
  rcases Bool.eq_false_or_eq_true v60.fNotF with hc73 | hc73
  replace h := bT hc73 h
  rw [hc73]
  refine qvM [8, 9, 10] [0] (hL trivial) 1 217 [(155, .lit undef), (154, B true), (147, B x59), (0, rf 0 0 3 a0), (7, I ((a0.length : Int)))] [sl 0 a0, some ⟨0, Enc.cells ((T_spec_l24Fact.mk true true true))⟩, some ⟨0, []⟩] ?_
  refine qvM [8, 9, 10] [] trivial 2 217 [(157, .lit undef), (155, .lit undef), (154, B true), (147, B x59), (0, rf 0 0 3 a0), (7, I ((a0.length : Int)))] [sl 0 a0, some ⟨0, Enc.cells ((T_spec_l24Fact.mk true true true))⟩, some ⟨0, []⟩] ?_
  refine qvM [8, 9, 10] [0] (hL trivial) 3 217 [(160, .lit undef), (154, B true), (147, B x59), (0, rf 0 0 3 a0), (7, I ((a0.length : Int)))] [sl 0 a0, some ⟨0, Enc.cells ((T_spec_l24Fact.mk true true true))⟩, some ⟨0, []⟩] ?_
  refine qvM [8, 9, 10] [] trivial 1 217 [(161, B true), (147, B x59), (0, rf 0 0 3 a0), (7, I ((a0.length : Int)))] [sl 0 a0, some ⟨0, Enc.cells ((T_spec_l24Fact.mk true true true))⟩, some ⟨0, []⟩] ?_
  exact J70 true h
  replace h := bF hc73 h
  rw [hc73]
  refine qvM [8, 9, 10] [0] (hL trivial) 1 217 [(155, rf 0 0 3 a0), (154, B false), (147, B x59), (0, rf 0 0 3 a0), (7, I ((a0.length : Int)))] [sl 0 a0, some ⟨0, Enc.cells ((T_spec_l24Fact.mk true true true))⟩, some ⟨0, []⟩] ?_
  refine qvM [8, 9, 10] [] trivial 2 217 [(157, I ((w64 (((a0.length : Int)) - 1)))), (155, rf 0 0 3 a0), (154, B false), (147, B x59), (0, rf 0 0 3 a0), (7, I ((a0.length : Int)))] [sl 0 a0, some ⟨0, Enc.cells ((T_spec_l24Fact.mk true true true))⟩, some ⟨0, []⟩] ?_
  obtain ⟨v71, hv72, h⟩ := bindS h
  refine qX (some 158) (.ptr 0 0 (((w64 (((a0.length : Int)) - 1))).toNat * 3)) 217 [(158, .ptr 0 0 (((w64 (((a0.length : Int)) - 1))).toNat * 3)), (154, B false), (147, B x59), (0, rf 0 0 3 a0), (7, I ((a0.length : Int)))] [sl 0 a0, some ⟨0, Enc.cells ((T_spec_l24Fact.mk true true true))⟩, some ⟨0, []⟩] (fun Γ' hΓ => CoreE.of_y (idrV_sound (n := a0.length) τ_ok (by kernel_rfl) hv72 rfl)) (hL trivial) ?_
  refine qvM [8, 9, 10] [0] (hL trivial) 1 217 [(159, .ptr 0 0 (((w64 (((a0.length : Int)) - 1))).toNat * 3 + 2)), (154, B false), (147, B x59), (0, rf 0 0 3 a0), (7, I ((a0.length : Int)))] [sl 0 a0, some ⟨0, Enc.cells ((T_spec_l24Fact.mk true true true))⟩, some ⟨0, []⟩] ?_
  refine qX (some 160) (B v71.fNotF) 217 [(160, B v71.fNotF), (154, B false), (147, B x59), (0, rf 0 0 3 a0), (7, I ((a0.length : Int)))] [sl 0 a0, some ⟨0, Enc.cells ((T_spec_l24Fact.mk true true true))⟩, some ⟨0, []⟩] (fun Γ' hΓ => CoreE.of_y (ldeV_sound (t := 4) (o' := 2) (r := B v71.fNotF) τ_ok hv72 (by kernel_rfl) (by kernel_rfl))) (hL trivial) ?_
  refine qvM [8, 9, 10] [] trivial 1 217 [(161, B v71.fNotF), (147, B x59), (0, rf 0 0 3 a0), (7, I ((a0.length : Int)))] [sl 0 a0, some ⟨0, Enc.cells ((T_spec_l24Fact.mk true true true))⟩, some ⟨0, []⟩] ?_
  exact J70 v71.fNotF h
  rintro x62 h
  unfold spec_l24Next_j8 at h
  refine qvM [8, 9, 10] [] trivial 1 217 [(162, E ((T_spec_l24Fact.mk false x59 x62))), (0, rf 0 0 3 a0), (7, I ((a0.length : Int)))] [sl 0 a0, some ⟨0, Enc.cells ((T_spec_l24Fact.mk true true true))⟩, some ⟨0, []⟩] ?_
  refine qX (Hm' := [none, none, some ⟨1, Enc.cells ((T_spec_l24Fact.mk false false false))⟩]) (some 10) (.ptr 2 1 0) 217 [(10, .ptr 2 1 0), (162, E ((T_spec_l24Fact.mk false x59 x62))), (0, rf 0 0 3 a0), (7, I ((a0.length : Int)))] [sl 0 a0, some ⟨0, Enc.cells ((T_spec_l24Fact.mk true true true))⟩, some ⟨1, Enc.cells ((T_spec_l24Fact.mk false false false))⟩] (fun Γ' hΓ => alc_E (blk := ⟨0, []⟩) τ_ok [8, 9, 10] 10 2 0 (ny hΓ hX) (by kernel_rfl) (by kernel_rfl)) (hB trivial) ?_
  refine qX (Hm' := [none, none, some ⟨1, Enc.cells ((T_spec_l24Fact.mk false x59 x62))⟩]) none (.any) 217 [(10, .ptr 2 1 0), (0, rf 0 0 3 a0), (7, I ((a0.length : Int)))] [sl 0 a0, some ⟨0, Enc.cells ((T_spec_l24Fact.mk true true true))⟩, some ⟨1, Enc.cells ((T_spec_l24Fact.mk false x59 x62))⟩] (fun Γ' hΓ => sto_E τ_ok 2 1 (by kernel_rfl)) (hB trivial) ?_
  refine qn 217 [(0, rf 0 0 3 a0), (7, I ((a0.length : Int))), (10, .ptr 2 1 0)] [sl 0 a0, some ⟨0, Enc.cells ((T_spec_l24Fact.mk true true true))⟩, some ⟨1, Enc.cells ((T_spec_l24Fact.mk false x59 x62))⟩] ?_
  refine srvM [8, 9, 10] 3 217 [(0, rf 0 0 3 a0), (7, I ((a0.length : Int))), (10, .ptr 2 1 0), (165, B ((T_spec_l24Fact.mk false x59 x62).fNotT))] [sl 0 a0, some ⟨0, Enc.cells ((T_spec_l24Fact.mk true true true))⟩, some ⟨1, Enc.cells ((T_spec_l24Fact.mk false x59 x62))⟩] ?_
  refine opsP_join (σ := Bool) 6 (fun x63 => (⟨217, [(0, rf 0 0 3 a0), (7, I ((a0.length : Int))), (10, .ptr 2 1 0), (168, B x63)], [sl 0 a0, some ⟨0, Enc.cells ((T_spec_l24Fact.mk true true true))⟩, some ⟨1, Enc.cells ((T_spec_l24Fact.mk false x59 x62))⟩]⟩ : St)) (fun x63 => spec_l24Next_j9 a0 x59 x62 x63 = some y) (fun J68 => ?_) ?_
  rcases fk ((T_spec_l24Fact.mk false x59 x62).fNotT) with hc69 | hc69
  replace h := bT hc69 h
  rw [hc69]
  refine vM [8, 9, 10] 3 217 [(0, rf 0 0 3 a0), (7, I ((a0.length : Int))), (10, .ptr 2 1 0), (168, B ((T_spec_l24Fact.mk false x59 x62).fNotF))] [sl 0 a0, some ⟨0, Enc.cells ((T_spec_l24Fact.mk true true true))⟩, some ⟨1, Enc.cells ((T_spec_l24Fact.mk false x59 x62))⟩] ?_
  exact opsP_imp (it [0, 7, 10, 168]) (J68 ((T_spec_l24Fact.mk false x59 x62).fNotF) h)
  replace h := bF hc69 h
  rw [hc69]
  refine vM [8, 9, 10] 3 217 [(0, rf 0 0 3 a0), (7, I ((a0.length : Int))), (10, .ptr 2 1 0), (168, B false)] [sl 0 a0, some ⟨0, Enc.cells ((T_spec_l24Fact.mk true true true))⟩, some ⟨1, Enc.cells ((T_spec_l24Fact.mk false x59 x62))⟩] ?_
  exact opsP_imp (it [0, 7, 10, 168]) (J68 false h)
  rintro x63 h
  unfold spec_l24Next_j9 at h
  refine veM [8, 9, 10] 2 217 [(0, rf 0 0 3 a0), (7, I ((a0.length : Int))), (10, .ptr 2 1 0)] [sl 0 a0, some ⟨0, Enc.cells ((T_spec_l24Fact.mk true true true))⟩, some ⟨1, Enc.cells ({ ((T_spec_l24Fact.mk false x59 x62)) with fNone := x63 })⟩] ?_
  refine pwp_seq ?_
  refine ip 217 [(0, rf 0 0 3 a0), (7, I ((a0.length : Int))), (10, .ptr 2 1 0)] [sl 0 a0, some ⟨0, Enc.cells ((T_spec_l24Fact.mk true true true))⟩, some ⟨1, Enc.cells ({ ((T_spec_l24Fact.mk false x59 x62)) with fNone := x63 })⟩] ?_
  refine pwp_any ([[0], [], [], [0], [2], [], [0], [0]]) ([[], [], [], [], [], [], [0], []]) rfl (by kernel_rfl) ?_
  refine qvM [8, 9, 10] [0] (hL trivial) 1 217 [(170, rf 0 0 3 a0), (7, I ((a0.length : Int))), (10, .ptr 2 1 0)] [sl 0 a0, some ⟨0, Enc.cells ((T_spec_l24Fact.mk true true true))⟩, some ⟨1, Enc.cells ({ ((T_spec_l24Fact.mk false x59 x62)) with fNone := x63 })⟩] ?_
  refine qvM [8, 9, 10] [] trivial 2 217 [(172, I ((w64 (((a0.length : Int)) - 2)))), (170, rf 0 0 3 a0), (10, .ptr 2 1 0)] [sl 0 a0, some ⟨0, Enc.cells ((T_spec_l24Fact.mk true true true))⟩, some ⟨1, Enc.cells ({ ((T_spec_l24Fact.mk false x59 x62)) with fNone := x63 })⟩] ?_
  obtain ⟨v64, hv65, h⟩ := bindS h
  refine qX (some 173) (rf 0 0 3 v64) 217 [(173, rf 0 0 3 v64), (10, .ptr 2 1 0)] [sl 0 a0, some ⟨0, Enc.cells ((T_spec_l24Fact.mk true true true))⟩, some ⟨1, Enc.cells ({ ((T_spec_l24Fact.mk false x59 x62)) with fNone := x63 })⟩] (fun Γ' hΓ => CoreE.of_y (slrV_sound (n := a0.length) τ_ok (by kernel_rfl) rfl hv65)) (hL trivial) ?_
  refine qvM [8, 9, 10] [2] (hB trivial) 1 217 [(174, E ({ ((T_spec_l24Fact.mk false x59 x62)) with fNone := x63 })), (173, rf 0 0 3 v64)] [sl 0 a0, some ⟨0, Enc.cells ((T_spec_l24Fact.mk true true true))⟩, some ⟨1, Enc.cells ({ ((T_spec_l24Fact.mk false x59 x62)) with fNone := x63 })⟩] ?_
  refine qvM [8, 9, 10] [] trivial 1 217 [(175, .arr 3 (([{ ((T_spec_l24Fact.mk false x59 x62)) with fNone := x63 }] : List T_spec_l24Fact)).length (eL ([{ ((T_spec_l24Fact.mk false x59 x62)) with fNone := x63 }] : List T_spec_l24Fact)) true), (173, rf 0 0 3 v64)] [sl 0 a0, some ⟨0, Enc.cells ((T_spec_l24Fact.mk true true true))⟩, some ⟨1, Enc.cells ({ ((T_spec_l24Fact.mk false x59 x62)) with fNone := x63 })⟩] ?_
  obtain ⟨v66, hv67, h⟩ := bindS h
  refine qX (some 176) (rf 0 1 3 v66) 217 [(176, rf 0 1 3 v66)] [sl 1 v66, some ⟨0, Enc.cells ((T_spec_l24Fact.mk true true true))⟩, some ⟨1, Enc.cells ({ ((T_spec_l24Fact.mk false x59 x62)) with fNone := x63 })⟩] (fun Γ' hΓ => app_E τ_ok 176 0 0 v64.length (ny hΓ hX) hv67 (slI_le hv65) (by kernel_rfl)) (hL trivial) ?_
  refine qvnM [8, 9, 10] [0] (hL trivial) 1 217 [(6, rf 0 1 3 v66)] [sl 1 v66, some ⟨0, Enc.cells ((T_spec_l24Fact.mk true true true))⟩, some ⟨1, Enc.cells ({ ((T_spec_l24Fact.mk false x59 x62)) with fNone := x63 })⟩] ?_
  have h := si h
  subst h
  exact pwp_ret (rt (rf 0 1 3 v66) (OutP.list (v := 1) (by kernel_rfl)))
  refine srveM [8, 9, 10] 217 [(0, rf 0 0 3 a0), (7, I ((a0.length : Int))), (177, B ((a1.fKind == 7)))] [sl 0 a0, some ⟨0, Enc.cells ((T_spec_l24Fact.mk true true true))⟩] ?_
  refine pc h (fun h => ?_) (fun h => ?_)
  refine pwp_seq ?_
  refine ip 217 [(0, rf 0 0 3 a0), (7, I ((a0.length : Int)))] [sl 0 a0, some ⟨0, Enc.cells ((T_spec_l24Fact.mk true true true))⟩] ?_
  refine pwp_any ([[0], [], [], [0], [0], [], [], [0], [0], [0], [0], [], [], [0], [0], [0], [0], [], [], [0], [0], [0], [], [], [0], [0]]) ([[], [], [], [], [], [], [], [], [], [], [], [], [], [], [], [], [], [], [], [], [], [], [], [], [0], []]) rfl (by kernel_rfl) ?_
  refine qvM [8, 9, 10] [0] (hL trivial) 1 217 [(179, rf 0 0 3 a0), (0, rf 0 0 3 a0), (7, I ((a0.length : Int)))] [sl 0 a0, some ⟨0, Enc.cells ((T_spec_l24Fact.mk true true true))⟩] ?_
  refine qvM [8, 9, 10] [] trivial 2 217 [(181, I ((w64 (((a0.length : Int)) - 1)))), (179, rf 0 0 3 a0), (0, rf 0 0 3 a0), (7, I ((a0.length : Int)))] [sl 0 a0, some ⟨0, Enc.cells ((T_spec_l24Fact.mk true true true))⟩] ?_
  obtain ⟨v79, hv80, h⟩ := bindS h
  refine qX (some 182) (rf 0 0 3 v79) 217 [(182, rf 0 0 3 v79), (0, rf 0 0 3 a0), (7, I ((a0.length : Int)))] [sl 0 a0, some ⟨0, Enc.cells ((T_spec_l24Fact.mk true true true))⟩] (fun Γ' hΓ => CoreE.of_y (slrV_sound (n := a0.length) τ_ok (by kernel_rfl) rfl hv80)) (hL trivial) ?_
  refine qvM [8, 9, 10] [0] (hL trivial) 1 217 [(183, rf 0 0 3 a0), (182, rf 0 0 3 v79), (0, rf 0 0 3 a0), (7, I ((a0.length : Int)))] [sl 0 a0, some ⟨0, Enc.cells ((T_spec_l24Fact.mk true true true))⟩] ?_
  refine qvM [8, 9, 10] [] trivial 2 217 [(185, I ((w64 (((a0.length : Int)) - 1)))), (183, rf 0 0 3 a0), (182, rf 0 0 3 v79), (0, rf 0 0 3 a0), (7, I ((a0.length : Int)))] [sl 0 a0, some ⟨0, Enc.cells ((T_spec_l24Fact.mk true true true))⟩] ?_
  obtain ⟨v81, hv82, h⟩ := bindS h
  refine qX (some 186) (.ptr 0 0 (((w64 (((a0.length : Int)) - 1))).toNat * 3)) 217 [(186, .ptr 0 0 (((w64 (((a0.length : Int)) - 1))).toNat * 3)), (182, rf 0 0 3 v79), (0, rf 0 0 3 a0), (7, I ((a0.length : Int)))] [sl 0 a0, some ⟨0, Enc.cells ((T_spec_l24Fact.mk true true true))⟩] (fun Γ' hΓ => CoreE.of_y (idrV_sound (n := a0.length) τ_ok (by kernel_rfl) hv82 rfl)) (hL trivial) ?_
  refine qvM [8, 9, 10] [0] (hL trivial) 1 217 [(187, .ptr 0 0 (((w64 (((a0.length : Int)) - 1))).toNat * 3)), (182, rf 0 0 3 v79), (0, rf 0 0 3 a0), (7, I ((a0.length : Int)))] [sl 0 a0, some ⟨0, Enc.cells ((T_spec_l24Fact.mk true true true))⟩] ?_
  refine qX (some 188) (B v81.fNone) 217 [(188, B v81.fNone), (182, rf 0 0 3 v79), (0, rf 0 0 3 a0), (7, I ((a0.length : Int)))] [sl 0 a0, some ⟨0, Enc.cells ((T_spec_l24Fact.mk true true true))⟩] (fun Γ' hΓ => CoreE.of_y (ldeV_sound (t := 4) (o' := 0) (r := B v81.fNone) τ_ok hv82 (by kernel_rfl) (by kernel_rfl))) (hL trivial) ?_
  refine qvM [8, 9, 10] [0] (hL trivial) 1 217 [(189, rf 0 0 3 a0), (188, B v81.fNone), (182, rf 0 0 3 v79), (0, rf 0 0 3 a0), (7, I ((a0.length : Int)))] [sl 0 a0, some ⟨0, Enc.cells ((T_spec_l24Fact.mk true true true))⟩] ?_
  refine qvM [8, 9, 10] [] trivial 2 217 [(191, I ((w64 (((a0.length : Int)) - 1)))), (189, rf 0 0 3 a0), (188, B v81.fNone), (182, rf 0 0 3 v79), (0, rf 0 0 3 a0), (7, I ((a0.length : Int)))] [sl 0 a0, some ⟨0, Enc.cells ((T_spec_l24Fact.mk true true true))⟩] ?_
  obtain ⟨v83, hv84, h⟩ := bindS h
  refine qX (some 192) (.ptr 0 0 (((w64 (((a0.length : Int)) - 1))).toNat * 3)) 217 [(192, .ptr 0 0 (((w64 (((a0.length : Int)) - 1))).toNat * 3)), (188, B v81.fNone), (182, rf 0 0 3 v79), (0, rf 0 0 3 a0), (7, I ((a0.length : Int)))] [sl 0 a0, some ⟨0, Enc.cells ((T_spec_l24Fact.mk true true true))⟩] (fun Γ' hΓ => CoreE.of_y (idrV_sound (n := a0.length) τ_ok (by kernel_rfl) hv84 rfl)) (hL trivial) ?_
  refine qvM [8, 9, 10] [0] (hL trivial) 1 217 [(193, .ptr 0 0 (((w64 (((a0.length : Int)) - 1))).toNat * 3 + 2)), (188, B v81.fNone), (182, rf 0 0 3 v79), (0, rf 0 0 3 a0), (7, I ((a0.length : Int)))] [sl 0 a0, some ⟨0, Enc.cells ((T_spec_l24Fact.mk true true true))⟩] ?_
  refine qX (some 194) (B v83.fNotF) 217 [(194, B v83.fNotF), (188, B v81.fNone), (182, rf 0 0 3 v79), (0, rf 0 0 3 a0), (7, I ((a0.length : Int)))] [sl 0 a0, some ⟨0, Enc.cells ((T_spec_l24Fact.mk true true true))⟩] (fun Γ' hΓ => CoreE.of_y (ldeV_sound (t := 4) (o' := 2) (r := B v83.fNotF) τ_ok hv84 (by kernel_rfl) (by kernel_rfl))) (hL trivial) ?_
  refine qvM [8, 9, 10] [0] (hL trivial) 1 217 [(195, rf 0 0 3 a0), (194, B v83.fNotF), (188, B v81.fNone), (182, rf 0 0 3 v79), (7, I ((a0.length : Int)))] [sl 0 a0, some ⟨0, Enc.cells ((T_spec_l24Fact.mk true true true))⟩] ?_
  refine qvM [8, 9, 10] [] trivial 2 217 [(197, I ((w64 (((a0.length : Int)) - 1)))), (195, rf 0 0 3 a0), (194, B v83.fNotF), (188, B v81.fNone), (182, rf 0 0 3 v79)] [sl 0 a0, some ⟨0, Enc.cells ((T_spec_l24Fact.mk true true true))⟩] ?_
  obtain ⟨v85, hv86, h⟩ := bindS h
  refine qX (some 198) (.ptr 0 0 (((w64 (((a0.length : Int)) - 1))).toNat * 3)) 217 [(198, .ptr 0 0 (((w64 (((a0.length : Int)) - 1))).toNat * 3)), (194, B v83.fNotF), (188, B v81.fNone), (182, rf 0 0 3 v79)] [sl 0 a0, some ⟨0, Enc.cells ((T_spec_l24Fact.mk true true true))⟩] (fun Γ' hΓ => CoreE.of_y (idrV_sound (n := a0.length) τ_ok (by kernel_rfl) hv86 rfl)) (hL trivial) ?_
  refine qvM [8, 9, 10] [0] (hL trivial) 1 217 [(199, .ptr 0 0 (((w64 (((a0.length : Int)) - 1))).toNat * 3 + 1)), (194, B v83.fNotF), (188, B v81.fNone), (182, rf 0 0 3 v79)] [sl 0 a0, some ⟨0, Enc.cells ((T_spec_l24Fact.mk true true true))⟩] ?_
  refine qX (some 200) (B v85.fNotT) 217 [(200, B v85.fNotT), (194, B v83.fNotF), (188, B v81.fNone), (182, rf 0 0 3 v79)] [sl 0 a0, some ⟨0, Enc.cells ((T_spec_l24Fact.mk true true true))⟩] (fun Γ' hΓ => CoreE.of_y (ldeV_sound (t := 4) (o' := 1) (r := B v85.fNotT) τ_ok hv86 (by kernel_rfl) (by kernel_rfl))) (hL trivial) ?_
  refine qvM [8, 9, 10] [] trivial 2 217 [(202, .arr 3 (([(T_spec_l24Fact.mk v81.fNone v83.fNotF v85.fNotT)] : List T_spec_l24Fact)).length (eL ([(T_spec_l24Fact.mk v81.fNone v83.fNotF v85.fNotT)] : List T_spec_l24Fact)) true), (182, rf 0 0 3 v79)] [sl 0 a0, some ⟨0, Enc.cells ((T_spec_l24Fact.mk true true true))⟩] ?_
  obtain ⟨v87, hv88, h⟩ := bindS h
  refine qX (some 203) (rf 0 1 3 v87) 217 [(203, rf 0 1 3 v87)] [sl 1 v87, some ⟨0, Enc.cells ((T_spec_l24Fact.mk true true true))⟩] (fun Γ' hΓ => app_E τ_ok 203 0 0 v79.length (ny hΓ hX) hv88 (slI_le hv80) (by kernel_rfl)) (hL trivial) ?_
  refine qvnM [8, 9, 10] [0] (hL trivial) 1 217 [(6, rf 0 1 3 v87)] [sl 1 v87, some ⟨0, Enc.cells ((T_spec_l24Fact.mk true true true))⟩] ?_
  have h := si h
  subst h
  exact pwp_ret (rt (rf 0 1 3 v87) (OutP.list (v := 1) (by kernel_rfl)))
  refine pwp_skip ?_
  refine pwp_seq ?_
  refine ip 217 [(0, rf 0 0 3 a0), (7, I ((a0.length : Int)))] [sl 0 a0, some ⟨0, Enc.cells ((T_spec_l24Fact.mk true true true))⟩] ?_
  refine pwp_any ([[0], [], [], [0], [0], [], [], [0], [0], [0], [], [], [0], [0]]) ([[], [], [], [], [], [], [], [], [], [], [], [], [0], []]) rfl (by kernel_rfl) ?_
  refine qvM [8, 9, 10] [0] (hL trivial) 1 217 [(204, rf 0 0 3 a0), (0, rf 0 0 3 a0), (7, I ((a0.length : Int)))] [sl 0 a0, some ⟨0, Enc.cells ((T_spec_l24Fact.mk true true true))⟩] ?_
  refine qvM [8, 9, 10] [] trivial 2 217 [(206, I ((w64 (((a0.length : Int)) - 1)))), (204, rf 0 0 3 a0), (0, rf 0 0 3 a0), (7, I ((a0.length : Int)))] [sl 0 a0, some ⟨0, Enc.cells ((T_spec_l24Fact.mk true true true))⟩] ?_
  obtain ⟨v89, hv90, h⟩ := bindS h
  refine qX (some 207) (rf 0 0 3 v89) 217 [(207, rf 0 0 3 v89), (0, rf 0 0 3 a0), (7, I ((a0.length : Int)))] [sl 0 a0, some ⟨0, Enc.cells ((T_spec_l24Fact.mk true true true))⟩] (fun Γ' hΓ => CoreE.of_y (slrV_sound (n := a0.length) τ_ok (by kernel_rfl) rfl hv90)) (hL trivial) ?_
  refine qvM [8, 9, 10] [0] (hL trivial) 1 217 [(208, rf 0 0 3 a0), (207, rf 0 0 3 v89), (7, I ((a0.length : Int)))] [sl 0 a0, some ⟨0, Enc.cells ((T_spec_l24Fact.mk true true true))⟩] ?_
  refine qvM [8, 9, 10] [] trivial 2 217 [(210, I ((w64 (((a0.length : Int)) - 1)))), (208, rf 0 0 3 a0), (207, rf 0 0 3 v89)] [sl 0 a0, some ⟨0, Enc.cells ((T_spec_l24Fact.mk true true true))⟩] ?_
  obtain ⟨v91, hv92, h⟩ := bindS h
  refine qX (some 211) (.ptr 0 0 (((w64 (((a0.length : Int)) - 1))).toNat * 3)) 217 [(211, .ptr 0 0 (((w64 (((a0.length : Int)) - 1))).toNat * 3)), (207, rf 0 0 3 v89)] [sl 0 a0, some ⟨0, Enc.cells ((T_spec_l24Fact.mk true true true))⟩] (fun Γ' hΓ => CoreE.of_y (idrV_sound (n := a0.length) τ_ok (by kernel_rfl) hv92 rfl)) (hL trivial) ?_
  refine qvM [8, 9, 10] [0] (hL trivial) 1 217 [(212, .ptr 0 0 (((w64 (((a0.length : Int)) - 1))).toNat * 3)), (207, rf 0 0 3 v89)] [sl 0 a0, some ⟨0, Enc.cells ((T_spec_l24Fact.mk true true true))⟩] ?_
  refine qX (some 213) (B v91.fNone) 217 [(213, B v91.fNone), (207, rf 0 0 3 v89)] [sl 0 a0, some ⟨0, Enc.cells ((T_spec_l24Fact.mk true true true))⟩] (fun Γ' hΓ => CoreE.of_y (ldeV_sound (t := 4) (o' := 0) (r := B v91.fNone) τ_ok hv92 (by kernel_rfl) (by kernel_rfl))) (hL trivial) ?_
  refine qvM [8, 9, 10] [] trivial 2 217 [(215, .arr 3 (([(T_spec_l24Fact.mk false false v91.fNone)] : List T_spec_l24Fact)).length (eL ([(T_spec_l24Fact.mk false false v91.fNone)] : List T_spec_l24Fact)) true), (207, rf 0 0 3 v89)] [sl 0 a0, some ⟨0, Enc.cells ((T_spec_l24Fact.mk true true true))⟩] ?_
  obtain ⟨v93, hv94, h⟩ := bindS h
  refine qX (some 216) (rf 0 1 3 v93) 217 [(216, rf 0 1 3 v93)] [sl 1 v93, some ⟨0, Enc.cells ((T_spec_l24Fact.mk true true true))⟩] (fun Γ' hΓ => app_E τ_ok 216 0 0 v89.length (ny hΓ hX) hv94 (slI_le hv90) (by kernel_rfl)) (hL trivial) ?_
  refine qvnM [8, 9, 10] [0] (hL trivial) 1 217 [(6, rf 0 1 3 v93)] [sl 1 v93, some ⟨0, Enc.cells ((T_spec_l24Fact.mk true true true))⟩] ?_
  have h := si h
  subst h
  exact pwp_ret (rt (rf 0 1 3 v93) (OutP.list (v := 1) (by kernel_rfl)))
def slices_Clip_impl_Value_impl_Value_s3 (a0 : List (List T_impl_Value)) : Option (List (List T_impl_Value)) := (slI a0 none (some ((a0.length : Int))) (some ((a0.length : Int)))).bind fun v1 => some v1
theorem ok_slices_Clip_impl_Value_impl_Value_s3 {a0 : List (List T_impl_Value)} {y : List (List T_impl_Value)} (h : slices_Clip_impl_Value_impl_Value_s3 a0 = some y) : OK Try.prog 44 [A a0] (A y) := by
  refine ow Try.func44 fun Γ hX => ?_
  unfold slices_Clip_impl_Value_impl_Value_s3 at h
  refine srve 9 [(0, A a0)] [] ?_
  refine srv 5 9 [(3, A a0), (5, I ((a0.length : Int))), (7, I ((a0.length : Int)))] [] ?_
  obtain ⟨v1, hv2, h⟩ := bindS h
  refine opsP_slc τ_ok 8 hv2 (by kernel_rfl) ?_
  refine ve 1 9 [(2, A v1)] [] ?_
  cases h
  exact pwp_ret rz
def spec_l20Rd_pick_j0 (a0 : T_spec_l20Rd) (a1 : Int) (x1 : Bool) : Option (Int × T_spec_l20Rd) := bif x1 then some (0, { a0 with fP := (w64 (a0.fP + 1)) }) else bif (decide (((w64 ((({ a0 with fP := (w64 (a0.fP + 1)) } : T_spec_l20Rd).fP) - 1))) < (((({ a0 with fP := (w64 (a0.fP + 1)) } : T_spec_l20Rd).fB).length : Int)))) then (getI (({ a0 with fP := (w64 (a0.fP + 1)) } : T_spec_l20Rd).fB) ((w64 ((({ a0 with fP := (w64 (a0.fP + 1)) } : T_spec_l20Rd).fP) - 1)))).bind fun v4 => (remI ((w64 (v4.toNat : Int))) a1).bind fun v6 => some (v6, { a0 with fP := (w64 (a0.fP + 1)) }) else (remI ((w64 ((({ a0 with fP := (w64 (a0.fP + 1)) } : T_spec_l20Rd).fP) - 1))) (((({ a0 with fP := (w64 (a0.fP + 1)) } : T_spec_l20Rd).fB).length : Int))).bind fun v8 => (getI (({ a0 with fP := (w64 (a0.fP + 1)) } : T_spec_l20Rd).fB) v8).bind fun v10 => (remI ((w64 (((w64 (((w64 ((({ a0 with fP := (w64 (a0.fP + 1)) } : T_spec_l20Rd).fP) - 1))) * 7))) + 3))) (((({ a0 with fP := (w64 (a0.fP + 1)) } : T_spec_l20Rd).fB).length : Int))).bind fun v12 => (getI (({ a0 with fP := (w64 (a0.fP + 1)) } : T_spec_l20Rd).fB) v12).bind fun v14 => (quoI ((w64 ((({ a0 with fP := (w64 (a0.fP + 1)) } : T_spec_l20Rd).fP) - 1))) (((({ a0 with fP := (w64 (a0.fP + 1)) } : T_spec_l20Rd).fB).length : Int))).bind fun v16 => (remI ((w64 ((BitVec.ofInt 64 ((w64 (((w64 (((w64 (((w64 (((w64 (v10.toNat : Int))) * 131))) + ((w64 (((w64 (v14.toNat : Int))) * 1117)))))) + ((w64 (((w64 ((({ a0 with fP := (w64 (a0.fP + 1)) } : T_spec_l20Rd).fP) - 1))) * 29)))))) + ((w64 (v16 * 53)))))) ^^^ BitVec.ofInt 64 ((w64 (((w64 (((w64 (((w64 (((w64 (((w64 (v10.toNat : Int))) * 131))) + ((w64 (((w64 (v14.toNat : Int))) * 1117)))))) + ((w64 (((w64 ((({ a0 with fP := (w64 (a0.fP + 1)) } : T_spec_l20Rd).fP) - 1))) * 29)))))) + ((w64 (v16 * 53)))))).tdiv 64)))).toNat : Int))) a1).bind fun v18 => some (v18, { a0 with fP := (w64 (a0.fP + 1)) })
def spec_l20Rd_pick (a0 : T_spec_l20Rd) (a1 : Int) : Option (Int × T_spec_l20Rd) := bif (decide (a1 < 1)) then spec_l20Rd_pick_j0 a0 a1 true else spec_l20Rd_pick_j0 a0 a1 (((((({ a0 with fP := (w64 (a0.fP + 1)) } : T_spec_l20Rd).fB).length : Int)) == 0))
theorem ok_spec_l20Rd_pick {a0 : T_spec_l20Rd} {a1 : Int} {y : Int × T_spec_l20Rd} (h : spec_l20Rd_pick a0 a1 = some y) : OKb Try.prog 53 (Enc.cells a0) [I a1] (I y.1) (Enc.cells y.2) := by
  refine OKb_of_pwp τ_ok Try.func53 rfl (by kernel_rfl) rfl (Enc.frz _) (Enc.frz _) fun Γ hQ => ?_
  unfold spec_l20Rd_pick at h
  refine srve 99 [(0, .ptr 0 0 0), (1, I a1)] [sc 0 a0] ?_
  refine srve 99 [(0, .ptr 0 0 0), (1, I a1)] [some ⟨0, Enc.cells ({ a0 with fP := (w64 (a0.fP + 1)) })⟩] ?_
  refine pwp_seq ?_
  refine pwp_seq ?_
  refine pwp_join (σ := Bool) (fun x1 => (⟨99, [(0, .ptr 0 0 0), (1, I a1), (24, B x1)], [some ⟨0, Enc.cells ({ a0 with fP := (w64 (a0.fP + 1)) })⟩]⟩ : St)) (fun x1 => spec_l20Rd_pick_j0 a0 a1 x1 = some y) ?_ ?_
  refine rv 3 99 [(0, .ptr 0 0 0), (1, I a1), (17, B ((decide (a1 < 1))))] [some ⟨0, Enc.cells ({ a0 with fP := (w64 (a0.fP + 1)) })⟩] ?_
  rcases fk ((decide (a1 < 1))) with hc20 | hc20
  replace h := bT hc20 h
  rw [hc20]
  refine ve 7 99 [(0, .ptr 0 0 0), (1, I a1), (24, B true)] [some ⟨0, Enc.cells ({ a0 with fP := (w64 (a0.fP + 1)) })⟩] ?_
  exact ⟨true, h, it [0, 1, 24]⟩
  replace h := bF hc20 h
  rw [hc20]
  refine ve 7 99 [(0, .ptr 0 0 0), (1, I a1), (24, B (((((({ a0 with fP := (w64 (a0.fP + 1)) } : T_spec_l20Rd).fB).length : Int)) == 0)))] [some ⟨0, Enc.cells ({ a0 with fP := (w64 (a0.fP + 1)) })⟩] ?_
  exact ⟨((((({ a0 with fP := (w64 (a0.fP + 1)) } : T_spec_l20Rd).fB).length : Int)) == 0), h, it [0, 1, 24]⟩
  rintro x1 h
  unfold spec_l20Rd_pick_j0 at h
  refine pc h (fun h => ?_) (fun h => ?_)
  refine srve 99 [(4, I 0)] [some ⟨0, Enc.cells ({ a0 with fP := (w64 (a0.fP + 1)) })⟩] ?_
  have h := si h
  subst h
  exact pwp_ret ⟨.inr rfl, I 0, _, 0, by kernel_rfl, (OutP.frz (by kernel_rfl)), by decide, by decide, by kernel_rfl⟩
  refine pwp_skip ?_
  refine srve 99 [(0, .ptr 0 0 0), (1, I a1), (5, I ((w64 ((({ a0 with fP := (w64 (a0.fP + 1)) } : T_spec_l20Rd).fP) - 1))))] [some ⟨0, Enc.cells ({ a0 with fP := (w64 (a0.fP + 1)) })⟩] ?_
  refine pwp_seq ?_
  refine srve 99 [(0, .ptr 0 0 0), (1, I a1), (5, I ((w64 ((({ a0 with fP := (w64 (a0.fP + 1)) } : T_spec_l20Rd).fP) - 1)))), (36, B ((decide (((w64 ((({ a0 with fP := (w64 (a0.fP + 1)) } : T_spec_l20Rd).fP) - 1))) < (((({ a0 with fP := (w64 (a0.fP + 1)) } : T_spec_l20Rd).fB).length : Int))))))] [some ⟨0, Enc.cells ({ a0 with fP := (w64 (a0.fP + 1)) })⟩] ?_
  refine pc h (fun h => ?_) (fun h => ?_)
  refine srv 5 99 [(1, I a1), (40, A (({ a0 with fP := (w64 (a0.fP + 1)) } : T_spec_l20Rd).fB)), (41, I ((w64 ((({ a0 with fP := (w64 (a0.fP + 1)) } : T_spec_l20Rd).fP) - 1))))] [some ⟨0, Enc.cells ({ a0 with fP := (w64 (a0.fP + 1)) })⟩] ?_
  obtain ⟨v4, hv5, h⟩ := bindS h
  refine opsP_idx τ_ok 42 hv5 (by kernel_rfl) ?_
  refine v 3 99 [(44, I ((w64 (v4.toNat : Int)))), (45, I a1)] [some ⟨0, Enc.cells ({ a0 with fP := (w64 (a0.fP + 1)) })⟩] ?_
  obtain ⟨v6, hv7, h⟩ := bindS h
  refine opsP_div τ_ok (r := true) 46 hv7 (by kernel_rfl) ?_
  refine ve 1 99 [(4, I v6)] [some ⟨0, Enc.cells ({ a0 with fP := (w64 (a0.fP + 1)) })⟩] ?_
  have h := si h
  subst h
  exact pwp_ret ⟨.inr rfl, I v6, _, 0, by kernel_rfl, (OutP.frz (by kernel_rfl)), by decide, by decide, by kernel_rfl⟩
  refine pwp_skip ?_
  refine pwp_seq ?_
  refine ip 99 [(0, .ptr 0 0 0), (1, I a1), (5, I ((w64 ((({ a0 with fP := (w64 (a0.fP + 1)) } : T_spec_l20Rd).fP) - 1))))] [some ⟨0, Enc.cells ({ a0 with fP := (w64 (a0.fP + 1)) })⟩] ?_
  refine pwp_any ([[0], [0], [0], [0], [], [0], [0], [0], [0], [], [], [], [], [], [], [0], [0], [0], [0], [], [], [], [0], [0], [0], [0], [], [], [], [], [], [], [], [], [], [], [], [0], [0], [0], [0], [], [], [], [], []]) ([[], [], [], [], [], [], [], [], [], [], [], [], [], [], [], [], [], [], [], [], [], [], [], [], [], [], [], [], [], [], [], [], [], [], [], [], [], [], [], [], [], [], [], [], [], []]) rfl (by kernel_rfl) ?_
  refine qv [0] (hB trivial) 4 99 [(50, A (({ a0 with fP := (w64 (a0.fP + 1)) } : T_spec_l20Rd).fB)), (0, .ptr 0 0 0), (1, I a1), (5, I ((w64 ((({ a0 with fP := (w64 (a0.fP + 1)) } : T_spec_l20Rd).fP) - 1))))] [some ⟨0, Enc.cells ({ a0 with fP := (w64 (a0.fP + 1)) })⟩] ?_
  refine qv [] trivial 1 99 [(51, I ((w64 ((({ a0 with fP := (w64 (a0.fP + 1)) } : T_spec_l20Rd).fP) - 1)))), (50, A (({ a0 with fP := (w64 (a0.fP + 1)) } : T_spec_l20Rd).fB)), (0, .ptr 0 0 0), (1, I a1), (5, I ((w64 ((({ a0 with fP := (w64 (a0.fP + 1)) } : T_spec_l20Rd).fP) - 1))))] [some ⟨0, Enc.cells ({ a0 with fP := (w64 (a0.fP + 1)) })⟩] ?_
  refine qv [0] (hB trivial) 4 99 [(55, A (({ a0 with fP := (w64 (a0.fP + 1)) } : T_spec_l20Rd).fB)), (51, I ((w64 ((({ a0 with fP := (w64 (a0.fP + 1)) } : T_spec_l20Rd).fP) - 1)))), (50, A (({ a0 with fP := (w64 (a0.fP + 1)) } : T_spec_l20Rd).fB)), (0, .ptr 0 0 0), (1, I a1), (5, I ((w64 ((({ a0 with fP := (w64 (a0.fP + 1)) } : T_spec_l20Rd).fP) - 1))))] [some ⟨0, Enc.cells ({ a0 with fP := (w64 (a0.fP + 1)) })⟩] ?_
  refine qv [] trivial 1 99 [(56, I (((({ a0 with fP := (w64 (a0.fP + 1)) } : T_spec_l20Rd).fB).length : Int))), (51, I ((w64 ((({ a0 with fP := (w64 (a0.fP + 1)) } : T_spec_l20Rd).fP) - 1)))), (50, A (({ a0 with fP := (w64 (a0.fP + 1)) } : T_spec_l20Rd).fB)), (0, .ptr 0 0 0), (1, I a1), (5, I ((w64 ((({ a0 with fP := (w64 (a0.fP + 1)) } : T_spec_l20Rd).fP) - 1))))] [some ⟨0, Enc.cells ({ a0 with fP := (w64 (a0.fP + 1)) })⟩] ?_
  obtain ⟨v8, hv9, h⟩ := bindS h
  refine qX (some 57) (I v8) 99 [(57, I v8), (50, A (({ a0 with fP := (w64 (a0.fP + 1)) } : T_spec_l20Rd).fB)), (0, .ptr 0 0 0), (1, I a1), (5, I ((w64 ((({ a0 with fP := (w64 (a0.fP + 1)) } : T_spec_l20Rd).fP) - 1))))] [some ⟨0, Enc.cells ({ a0 with fP := (w64 (a0.fP + 1)) })⟩] (fun Γ' hΓ => CoreE.of_y (divV_sound (r := true) τ_ok (by kernel_rfl) hv9)) trivial ?_
  obtain ⟨v10, hv11, h⟩ := bindS h
  refine qX (some 58) (pf v10 0) 99 [(58, pf v10 0), (0, .ptr 0 0 0), (1, I a1), (5, I ((w64 ((({ a0 with fP := (w64 (a0.fP + 1)) } : T_spec_l20Rd).fP) - 1))))] [some ⟨0, Enc.cells ({ a0 with fP := (w64 (a0.fP + 1)) })⟩] (fun Γ' hΓ => CoreE.of_y (idxV_sound τ_ok (by kernel_rfl) hv11)) trivial ?_
  refine qv [] trivial 3 99 [(61, I ((w64 (((w64 (v10.toNat : Int))) * 131)))), (0, .ptr 0 0 0), (1, I a1), (5, I ((w64 ((({ a0 with fP := (w64 (a0.fP + 1)) } : T_spec_l20Rd).fP) - 1))))] [some ⟨0, Enc.cells ({ a0 with fP := (w64 (a0.fP + 1)) })⟩] ?_
  refine qv [0] (hB trivial) 4 99 [(65, A (({ a0 with fP := (w64 (a0.fP + 1)) } : T_spec_l20Rd).fB)), (61, I ((w64 (((w64 (v10.toNat : Int))) * 131)))), (0, .ptr 0 0 0), (1, I a1), (5, I ((w64 ((({ a0 with fP := (w64 (a0.fP + 1)) } : T_spec_l20Rd).fP) - 1))))] [some ⟨0, Enc.cells ({ a0 with fP := (w64 (a0.fP + 1)) })⟩] ?_
  refine qv [] trivial 3 99 [(68, I ((w64 (((w64 (((w64 ((({ a0 with fP := (w64 (a0.fP + 1)) } : T_spec_l20Rd).fP) - 1))) * 7))) + 3)))), (65, A (({ a0 with fP := (w64 (a0.fP + 1)) } : T_spec_l20Rd).fB)), (61, I ((w64 (((w64 (v10.toNat : Int))) * 131)))), (0, .ptr 0 0 0), (1, I a1), (5, I ((w64 ((({ a0 with fP := (w64 (a0.fP + 1)) } : T_spec_l20Rd).fP) - 1))))] [some ⟨0, Enc.cells ({ a0 with fP := (w64 (a0.fP + 1)) })⟩] ?_
  refine qv [0] (hB trivial) 4 99 [(72, A (({ a0 with fP := (w64 (a0.fP + 1)) } : T_spec_l20Rd).fB)), (68, I ((w64 (((w64 (((w64 ((({ a0 with fP := (w64 (a0.fP + 1)) } : T_spec_l20Rd).fP) - 1))) * 7))) + 3)))), (65, A (({ a0 with fP := (w64 (a0.fP + 1)) } : T_spec_l20Rd).fB)), (61, I ((w64 (((w64 (v10.toNat : Int))) * 131)))), (0, .ptr 0 0 0), (1, I a1), (5, I ((w64 ((({ a0 with fP := (w64 (a0.fP + 1)) } : T_spec_l20Rd).fP) - 1))))] [some ⟨0, Enc.cells ({ a0 with fP := (w64 (a0.fP + 1)) })⟩] ?_
  refine qv [] trivial 1 99 [(73, I (((({ a0 with fP := (w64 (a0.fP + 1)) } : T_spec_l20Rd).fB).length : Int))), (68, I ((w64 (((w64 (((w64 ((({ a0 with fP := (w64 (a0.fP + 1)) } : T_spec_l20Rd).fP) - 1))) * 7))) + 3)))), (65, A (({ a0 with fP := (w64 (a0.fP + 1)) } : T_spec_l20Rd).fB)), (61, I ((w64 (((w64 (v10.toNat : Int))) * 131)))), (0, .ptr 0 0 0), (1, I a1), (5, I ((w64 ((({ a0 with fP := (w64 (a0.fP + 1)) } : T_spec_l20Rd).fP) - 1))))] [some ⟨0, Enc.cells ({ a0 with fP := (w64 (a0.fP + 1)) })⟩] ?_
  obtain ⟨v12, hv13, h⟩ := bindS h
  refine qX (some 74) (I v12) 99 [(74, I v12), (65, A (({ a0 with fP := (w64 (a0.fP + 1)) } : T_spec_l20Rd).fB)), (61, I ((w64 (((w64 (v10.toNat : Int))) * 131)))), (0, .ptr 0 0 0), (1, I a1), (5, I ((w64 ((({ a0 with fP := (w64 (a0.fP + 1)) } : T_spec_l20Rd).fP) - 1))))] [some ⟨0, Enc.cells ({ a0 with fP := (w64 (a0.fP + 1)) })⟩] (fun Γ' hΓ => CoreE.of_y (divV_sound (r := true) τ_ok (by kernel_rfl) hv13)) trivial ?_
  obtain ⟨v14, hv15, h⟩ := bindS h
  refine qX (some 75) (pf v14 0) 99 [(75, pf v14 0), (61, I ((w64 (((w64 (v10.toNat : Int))) * 131)))), (0, .ptr 0 0 0), (1, I a1), (5, I ((w64 ((({ a0 with fP := (w64 (a0.fP + 1)) } : T_spec_l20Rd).fP) - 1))))] [some ⟨0, Enc.cells ({ a0 with fP := (w64 (a0.fP + 1)) })⟩] (fun Γ' hΓ => CoreE.of_y (idxV_sound τ_ok (by kernel_rfl) hv15)) trivial ?_
  refine qv [] trivial 8 99 [(83, I ((w64 ((({ a0 with fP := (w64 (a0.fP + 1)) } : T_spec_l20Rd).fP) - 1)))), (82, I ((w64 (((w64 (((w64 (((w64 (v10.toNat : Int))) * 131))) + ((w64 (((w64 (v14.toNat : Int))) * 1117)))))) + ((w64 (((w64 ((({ a0 with fP := (w64 (a0.fP + 1)) } : T_spec_l20Rd).fP) - 1))) * 29))))))), (0, .ptr 0 0 0), (1, I a1)] [some ⟨0, Enc.cells ({ a0 with fP := (w64 (a0.fP + 1)) })⟩] ?_
  refine qv [0] (hB trivial) 4 99 [(87, A (({ a0 with fP := (w64 (a0.fP + 1)) } : T_spec_l20Rd).fB)), (83, I ((w64 ((({ a0 with fP := (w64 (a0.fP + 1)) } : T_spec_l20Rd).fP) - 1)))), (82, I ((w64 (((w64 (((w64 (((w64 (v10.toNat : Int))) * 131))) + ((w64 (((w64 (v14.toNat : Int))) * 1117)))))) + ((w64 (((w64 ((({ a0 with fP := (w64 (a0.fP + 1)) } : T_spec_l20Rd).fP) - 1))) * 29))))))), (1, I a1)] [some ⟨0, Enc.cells ({ a0 with fP := (w64 (a0.fP + 1)) })⟩] ?_
  refine qv [] trivial 1 99 [(88, I (((({ a0 with fP := (w64 (a0.fP + 1)) } : T_spec_l20Rd).fB).length : Int))), (83, I ((w64 ((({ a0 with fP := (w64 (a0.fP + 1)) } : T_spec_l20Rd).fP) - 1)))), (82, I ((w64 (((w64 (((w64 (((w64 (v10.toNat : Int))) * 131))) + ((w64 (((w64 (v14.toNat : Int))) * 1117)))))) + ((w64 (((w64 ((({ a0 with fP := (w64 (a0.fP + 1)) } : T_spec_l20Rd).fP) - 1))) * 29))))))), (1, I a1)] [some ⟨0, Enc.cells ({ a0 with fP := (w64 (a0.fP + 1)) })⟩] ?_
  obtain ⟨v16, hv17, h⟩ := bindS h
  refine qX (some 89) (I v16) 99 [(89, I v16), (82, I ((w64 (((w64 (((w64 (((w64 (v10.toNat : Int))) * 131))) + ((w64 (((w64 (v14.toNat : Int))) * 1117)))))) + ((w64 (((w64 ((({ a0 with fP := (w64 (a0.fP + 1)) } : T_spec_l20Rd).fP) - 1))) * 29))))))), (1, I a1)] [some ⟨0, Enc.cells ({ a0 with fP := (w64 (a0.fP + 1)) })⟩] (fun Γ' hΓ => CoreE.of_y (divV_sound (r := false) τ_ok (by kernel_rfl) hv17)) trivial ?_
  refine qvn [] trivial 3 99 [(1, I a1), (6, I ((w64 (((w64 (((w64 (((w64 (((w64 (v10.toNat : Int))) * 131))) + ((w64 (((w64 (v14.toNat : Int))) * 1117)))))) + ((w64 (((w64 ((({ a0 with fP := (w64 (a0.fP + 1)) } : T_spec_l20Rd).fP) - 1))) * 29)))))) + ((w64 (v16 * 53)))))))] [some ⟨0, Enc.cells ({ a0 with fP := (w64 (a0.fP + 1)) })⟩] ?_
  refine srve 99 [(1, I a1), (6, I ((w64 ((BitVec.ofInt 64 ((w64 (((w64 (((w64 (((w64 (((w64 (v10.toNat : Int))) * 131))) + ((w64 (((w64 (v14.toNat : Int))) * 1117)))))) + ((w64 (((w64 ((({ a0 with fP := (w64 (a0.fP + 1)) } : T_spec_l20Rd).fP) - 1))) * 29)))))) + ((w64 (v16 * 53)))))) ^^^ BitVec.ofInt 64 ((w64 (((w64 (((w64 (((w64 (((w64 (((w64 (v10.toNat : Int))) * 131))) + ((w64 (((w64 (v14.toNat : Int))) * 1117)))))) + ((w64 (((w64 ((({ a0 with fP := (w64 (a0.fP + 1)) } : T_spec_l20Rd).fP) - 1))) * 29)))))) + ((w64 (v16 * 53)))))).tdiv 64)))).toNat : Int))))] [some ⟨0, Enc.cells ({ a0 with fP := (w64 (a0.fP + 1)) })⟩] ?_
  refine srv 2 99 [(96, I ((w64 ((BitVec.ofInt 64 ((w64 (((w64 (((w64 (((w64 (((w64 (v10.toNat : Int))) * 131))) + ((w64 (((w64 (v14.toNat : Int))) * 1117)))))) + ((w64 (((w64 ((({ a0 with fP := (w64 (a0.fP + 1)) } : T_spec_l20Rd).fP) - 1))) * 29)))))) + ((w64 (v16 * 53)))))) ^^^ BitVec.ofInt 64 ((w64 (((w64 (((w64 (((w64 (((w64 (((w64 (v10.toNat : Int))) * 131))) + ((w64 (((w64 (v14.toNat : Int))) * 1117)))))) + ((w64 (((w64 ((({ a0 with fP := (w64 (a0.fP + 1)) } : T_spec_l20Rd).fP) - 1))) * 29)))))) + ((w64 (v16 * 53)))))).tdiv 64)))).toNat : Int)))), (97, I a1)] [some ⟨0, Enc.cells ({ a0 with fP := (w64 (a0.fP + 1)) })⟩] ?_
  obtain ⟨v18, hv19, h⟩ := bindS h
  refine opsP_div τ_ok (r := true) 98 hv19 (by kernel_rfl) ?_
  refine ve 1 99 [(4, I v18)] [some ⟨0, Enc.cells ({ a0 with fP := (w64 (a0.fP + 1)) })⟩] ?_
  have h := si h
  subst h
  exact pwp_ret ⟨.inr rfl, I v18, _, 0, by kernel_rfl, (OutP.frz (by kernel_rfl)), by decide, by decide, by kernel_rfl⟩
def impl_between (a0 : Int) (a1 : Int) (a2 : Int) : Option Bool := bif (decide (a0 ≥ a1)) then some ((decide (a0 ≤ a2))) else some false
theorem ok_impl_between {a0 : Int} {a1 : Int} {a2 : Int} {y : Bool} (h : impl_between a0 a1 a2 = some y) : OK Try.prog 54 [I a0, I a1, I a2] (B y) := by
  refine ow Try.func54 fun Γ hX => ?_
  unfold impl_between at h
  refine srve 15 [(0, I a0), (1, I a1), (2, I a2)] [] ?_
  refine srv 4 15 [(0, I a0), (2, I a2), (10, B ((decide (a0 ≥ a1))))] [] ?_
  rcases fk ((decide (a0 ≥ a1))) with hc1 | hc1
  replace h := bT hc1 h
  rw [hc1]
  refine ve 5 15 [(6, B ((decide (a0 ≤ a2))))] [] ?_
  cases h
  exact pwp_ret rz
  replace h := bF hc1 h
  rw [hc1]
  refine ve 5 15 [(6, B false)] [] ?_
  cases h
  exact pwp_ret rz
def spec_l1In (a0 : Int) (a1 : Int) (a2 : Int) : Option Bool := bif (decide (a0 ≥ a1)) then some ((decide (a0 ≤ a2))) else some false
theorem ok_spec_l1In {a0 : Int} {a1 : Int} {a2 : Int} {y : Bool} (h : spec_l1In a0 a1 a2 = some y) : OK Try.prog 57 [I a0, I a1, I a2] (B y) := by
  refine ow Try.func57 fun Γ hX => ?_
  unfold spec_l1In at h
  refine srve 15 [(0, I a0), (1, I a1), (2, I a2)] [] ?_
  refine srv 4 15 [(0, I a0), (2, I a2), (10, B ((decide (a0 ≥ a1))))] [] ?_
  rcases fk ((decide (a0 ≥ a1))) with hc1 | hc1
  replace h := bT hc1 h
  rw [hc1]
  refine ve 5 15 [(6, B ((decide (a0 ≤ a2))))] [] ?_
  cases h
  exact pwp_ret rz
  replace h := bF hc1 h
  rw [hc1]
  refine ve 5 15 [(6, B false)] [] ?_
  cases h
  exact pwp_ret rz
def spec_l20Rd_odd (a0 : T_spec_l20Rd) (a1 : Int) : Option (Bool × T_spec_l20Rd) := bif (decide (a1 > 0)) then (spec_l20Rd_pick a0 a1).bind fun v1 => some (((v1.1 == ((w64 (a1 - 1))))), v1.2) else some (false, a0)
theorem ok_spec_l20Rd_odd {a0 : T_spec_l20Rd} {a1 : Int} {y : Bool × T_spec_l20Rd} (h : spec_l20Rd_odd a0 a1 = some y) : OKb Try.prog 71 (Enc.cells a0) [I a1] (B y.1) (Enc.cells y.2) := by
  refine OKb_of_pwp τ_ok Try.func71 rfl (by kernel_rfl) rfl (Enc.frz _) (Enc.frz _) fun Γ hQ => ?_
  unfold spec_l20Rd_odd at h
  refine srve 15 [(0, .ptr 0 0 0), (1, I a1)] [sc 0 a0] ?_
  refine srv 3 15 [(0, .ptr 0 0 0), (1, I a1), (7, B ((decide (a1 > 0))))] [sc 0 a0] ?_
  rcases fk ((decide (a1 > 0))) with hc3 | hc3
  replace h := bT hc3 h
  rw [hc3]
  refine v 2 15 [(1, I a1), (7, B true), (8, .ptr 0 0 0), (9, I a1)] [sc 0 a0] ?_
  obtain ⟨v1, hv2, h⟩ := bindS h
  refine cB 10 0 0 (ok_spec_l20Rd_pick hv2) ?_
  refine ve 5 15 [(4, B ((v1.1 == ((w64 (a1 - 1))))))] [sc 0 v1.2] ?_
  have h := si h
  subst h
  exact pwp_ret ⟨.inr rfl, B ((v1.1 == ((w64 (a1 - 1))))), _, 0, by kernel_rfl, (OutP.frz (by kernel_rfl)), by decide, by decide, by kernel_rfl⟩
  replace h := bF hc3 h
  rw [hc3]
  refine ve 8 15 [(4, B false)] [sc 0 a0] ?_
  have h := si h
  subst h
  exact pwp_ret ⟨.inr rfl, B false, _, 0, by kernel_rfl, (OutP.frz (by kernel_rfl)), by decide, by decide, by kernel_rfl⟩
def spec_l24Empty_l0 : Nat → Int → (List T_impl_Column) → Option (List T_impl_Column)
  | 0, _, _ => none
  | f6 + 1, x4, x5 => bif (decide (x4 < ((x5.length : Int)))) then (getI x5 x4).bind fun v9 => (spec_l24Empty_l0 f6) ((w64 (x4 + 1))) ((x5.set x4.toNat (({ v9 with fEmpty := true } : T_impl_Column)))) else some x5
def spec_l24Empty (a0 : List T_impl_Column) : Option (List T_impl_Column) := (app (([] : List T_impl_Column)) a0).bind fun v1 => spec_l24Empty_l0 FUEL 0 v1
theorem ok_spec_l24Empty {a0 : List T_impl_Column} {y : List T_impl_Column} (h : spec_l24Empty a0 = some y) : OK Try.prog 73 [A a0] (O y) := by
  refine ow Try.func73 fun Γ hX => ?_
  unfold spec_l24Empty at h
  refine srve 19 [(0, A a0)] [] ?_
  refine srv 2 19 [(5, .arr 2 0 (eL ([] : List T_impl_Column)) true), (6, A a0)] [] ?_
  refine opsP_thaw 5 2 (by kernel_rfl) ?_
  obtain ⟨v1, hv2, h⟩ := bindS h
  refine opsP_app τ_ok 7 0 0 (nx hX) hv2 (by kernel_rfl) ?_
  refine ve 1 19 [(3, rf 0 1 2 v1)] [sl 1 v1] ?_
  refine pwp_seq ?_
  refine srve 19 [(3, rf 0 1 2 v1), (4, I 0)] [sl 1 v1] ?_
  refine pwp_block ?_
  refine pwp_loop (ι := Nat × Int × (List T_impl_Column)) (fun (f6, x4, x5) => (⟨19, [(3, rf 0 0 2 x5), (4, I x4)], [sl 0 x5]⟩ : St)) (fun (f6, x4, x5) => spec_l24Empty_l0 f6 x4 x5 = some y) Prod.fst (FUEL, 0, v1) h ((it (st' := ⟨19, [(3, rf 0 1 2 v1), (4, I 0)], [sl 1 v1]⟩) [3, 4]).trans (Imp.reverS 0 1 (eL v1) [3, 4] (by kernel_rfl) (by exact (And.intro (eL_frz _) trivial)) (by kernel_rfl))) ?_
  rintro ⟨f6, x4, x5⟩ h
  dsimp only at h ⊢
  rcases f6 with _ | f6
  cases h
  rw [spec_l24Empty_l0] at h
  refine pwp_seq ?_
  refine srve 19 [(3, rf 0 0 2 x5), (4, I x4), (11, B ((decide (x4 < ((x5.length : Int))))))] [sl 0 x5] ?_
  refine pc h (fun h => ?_) (fun h => ?_)
  refine pwp_skip ?_
  refine pwp_seq ?_
  refine pwp_block ?_
  refine rv 2 19 [(3, rf 0 0 2 x5), (4, I x4), (14, rf 0 0 2 x5), (15, I x4)] [sl 0 x5] ?_
  obtain ⟨v9, hv10, h⟩ := bindS h
  refine opsP_idr τ_ok 16 0 0 x5.length hv10 rfl (by kernel_rfl) ?_
  refine v 1 19 [(3, rf 0 0 2 x5), (4, I x4), (17, .ptr 0 0 (x4.toNat * 2 + 1))] [sl 0 x5] ?_
  refine opsP_ste (vs := [B true]) τ_ok 4 0 0 1 (({ v9 with fEmpty := true } : T_impl_Column)) hv10 (by kernel_rfl) (by kernel_rfl) (by kernel_rfl) (renC (ren_ref (List.length_set ..).symm) (renC trivial (renC trivial renC0))) ?_
  refine ve 0 19 [(3, .ref 0 0 0 2 ((x5.set x4.toNat (({ v9 with fEmpty := true } : T_impl_Column)))).length false), (4, I x4)] [some ⟨0, eL ((x5.set x4.toNat (({ v9 with fEmpty := true } : T_impl_Column))))⟩] ?_
  refine rve 19 [(3, .ref 0 0 0 2 ((x5.set x4.toNat (({ v9 with fEmpty := true } : T_impl_Column)))).length false), (4, I ((w64 (x4 + 1))))] [some ⟨0, eL ((x5.set x4.toNat (({ v9 with fEmpty := true } : T_impl_Column))))⟩] ?_
  exact ⟨(f6, (w64 (x4 + 1)), (x5.set x4.toNat (({ v9 with fEmpty := true } : T_impl_Column)))), h, Nat.lt_succ_self _, it [3, 4]⟩
  refine pwp_exit ?_
  refine srve 19 [(2, rf 0 0 2 x5)] [sl 0 x5] ?_
  have h := si h
  subst h
  exact pwp_ret (rt (rf 0 0 2 x5) (OutP.list (v := 0) (by kernel_rfl)))
def spec_ColumnsOk_l0 (a0 : List T_impl_Column) : Nat → Int → Option Bool
  | 0, _ => none
  | f2 + 1, x1 => bif (decide (x1 < ((a0.length : Int)))) then (getI a0 x1).bind fun v5 => (spec_l1In v5.fKind 1 3).bind fun v7 => bif (!v7) then some false else (spec_ColumnsOk_l0 a0 f2) ((w64 (x1 + 1))) else some ((decide (((a0.length : Int)) ≤ 4)))
def spec_ColumnsOk (a0 : List T_impl_Column) : Option Bool := spec_ColumnsOk_l0 a0 FUEL 0
theorem ok_spec_ColumnsOk {a0 : List T_impl_Column} {y : Bool} (h : spec_ColumnsOk a0 = some y) : OK Try.prog 74 [A a0] (B y) := by
  refine ow Try.func74 fun Γ hX => ?_
  unfold spec_ColumnsOk at h
  refine srve 20 [(0, A a0)] [] ?_
  refine pwp_seq ?_
  refine srve 20 [(0, A a0), (3, I 0)] [] ?_
  refine pwp_block ?_
  refine pwp_loop (ι := Nat × Int) (fun (f2, x1) => (⟨20, [(0, A a0), (3, I x1)], []⟩ : St)) (fun (f2, x1) => spec_ColumnsOk_l0 a0 f2 x1 = some y) Prod.fst (FUEL, 0) h (it [0, 3]) ?_
  rintro ⟨f2, x1⟩ h
  dsimp only at h ⊢
  rcases f2 with _ | f2
  cases h
  rw [spec_ColumnsOk_l0] at h
  refine pwp_seq ?_
  refine srve 20 [(0, A a0), (3, I x1), (7, B ((decide (x1 < ((a0.length : Int))))))] [] ?_
  refine pc h (fun h => ?_) (fun h => ?_)
  refine pwp_skip ?_
  refine pwp_seq ?_
  refine pwp_block ?_
  refine srv 2 20 [(0, A a0), (3, I x1), (10, A a0), (11, I x1)] [] ?_
  obtain ⟨v5, hv6, h⟩ := bindS h
  refine opsP_idx τ_ok 12 hv6 (by kernel_rfl) ?_
  refine v 2 20 [(0, A a0), (3, I x1), (14, I v5.fKind)] [] ?_
  obtain ⟨v7, hv8, h⟩ := bindS h
  refine cF 15 (ok_spec_l1In hv8) ?_
  refine ve 1 20 [(0, A a0), (3, I x1), (16, B ((!v7)))] [] ?_
  refine pc h (fun h => ?_) (fun h => ?_)
  refine srve 20 [(2, B false)] [] ?_
  cases h
  exact pwp_ret rz
  refine pwp_skip ?_
  refine rve 20 [(0, A a0), (3, I ((w64 (x1 + 1))))] [] ?_
  exact ⟨(f2, (w64 (x1 + 1))), h, Nat.lt_succ_self _, it [0, 3]⟩
  refine pwp_exit ?_
  refine srve 20 [(2, B ((decide (((a0.length : Int)) ≤ 4))))] [] ?_
  cases h
  exact pwp_ret rz
def impl_ColumnsOk_1 (a0 : T_impl_Column) : Option Bool := (impl_between a0.fKind 1 3).bind fun v1 => some ((!v1))
theorem ok_impl_ColumnsOk_1 {a0 : T_impl_Column} {y : Bool} (h : impl_ColumnsOk_1 a0 = some y) : OK Try.prog 76 [E a0] (B y) := by
  refine ow Try.func76 fun Γ hX => ?_
  unfold impl_ColumnsOk_1 at h
  refine srve 7 [(1, pf a0 0)] [] ?_
  refine srv 2 7 [(4, I a0.fKind)] [] ?_
  obtain ⟨v1, hv2, h⟩ := bindS h
  refine cF 5 (ok_impl_between hv2) ?_
  refine ve 2 7 [(2, B ((!v1)))] [] ?_
  cases h
  exact pwp_ret rz
def slices_Clip_impl_Column_impl_Column (a0 : List T_impl_Column) : Option (List T_impl_Column) := (slI a0 none (some ((a0.length : Int))) (some ((a0.length : Int)))).bind fun v1 => some v1
theorem ok_slices_Clip_impl_Column_impl_Column {a0 : List T_impl_Column} {y : List T_impl_Column} (h : slices_Clip_impl_Column_impl_Column a0 = some y) : OK Try.prog 77 [A a0] (A y) := by
  refine ow Try.func77 fun Γ hX => ?_
  unfold slices_Clip_impl_Column_impl_Column at h
  refine srve 9 [(0, A a0)] [] ?_
  refine srv 5 9 [(3, A a0), (5, I ((a0.length : Int))), (7, I ((a0.length : Int)))] [] ?_
  obtain ⟨v1, hv2, h⟩ := bindS h
  refine opsP_slc τ_ok 8 hv2 (by kernel_rfl) ?_
  refine ve 1 9 [(2, A v1)] [] ?_
  cases h
  exact pwp_ret rz
def impl_ValueOf (a0 : Int) : Option T_impl_Value := (impl_between a0 0 1).bind fun v1 => bif (!v1) then some ((T_impl_Value.mk 0 0 (ByteArray.mk #[]))) else some ((T_impl_Value.mk 3 a0 (ByteArray.mk #[])))
theorem ok_impl_ValueOf {a0 : Int} {y : T_impl_Value} (h : impl_ValueOf a0 = some y) : OK Try.prog 80 [I a0] (E y) := by
  refine ow Try.func80 fun Γ hX => ?_
  unfold impl_ValueOf at h
  refine srveM [2] 9 [(0, I a0), (2, .ptr 0 0 0)] [some ⟨0, Enc.cells ((T_impl_Value.mk 0 0 (ByteArray.mk #[])))⟩] ?_
  refine pwp_seq ?_
  refine srvM [2] 1 9 [(0, I a0), (2, .ptr 0 0 0), (3, I a0)] [some ⟨0, Enc.cells ((T_impl_Value.mk 0 0 (ByteArray.mk #[])))⟩] ?_
  obtain ⟨v1, hv2, h⟩ := bindS h
  refine cF 4 (ok_impl_between hv2) ?_
  refine veM [2] 1 9 [(0, I a0), (2, .ptr 0 0 0), (5, B ((!v1)))] [some ⟨0, Enc.cells ((T_impl_Value.mk 0 0 (ByteArray.mk #[])))⟩] ?_
  refine pc h (fun h => ?_) (fun h => ?_)
  refine srveM [2] 9 [(2, .ptr 0 0 0)] [some ⟨0, Enc.cells ((T_impl_Value.mk 0 0 (ByteArray.mk #[])))⟩] ?_
  cases h
  exact pwp_ret rz
  refine pwp_skip ?_
  refine srveM [2] 9 [(2, .ptr 0 0 0)] [some ⟨0, Enc.cells ((T_impl_Value.mk 3 a0 (ByteArray.mk #[])))⟩] ?_
  cases h
  exact pwp_ret rz
def spec_l20Columns_l0 (a1 : Int) : Nat → Int → T_spec_l20Rd → (List T_impl_Column) → Option ((List T_impl_Column) × T_spec_l20Rd)
  | 0, _, _, _ => none
  | f8 + 1, x5, x6, x7 => bif (decide (x5 > 0)) then (spec_l20Rd_pick x6 4).bind fun v11 => (getI (([1, 1, 2, 3] : List Int)) v11.1).bind fun v13 => (spec_l20Rd_pick v11.2 3).bind fun v15 => (app x7 (([(T_impl_Column.mk v13 ((decide (v15.1 > 0))))] : List T_impl_Column))).bind fun v17 => (spec_l20Columns_l0 a1 f8) ((w64 (x5 - 1))) v15.2 v17 else (spec_l20Rd_odd x6 a1).bind fun v19 => bif v19.1 then (spec_l20Rd_pick v19.2 6).bind fun v22 => (app x7 (([(T_impl_Column.mk ((w64 (v22.1 - 1))) false), (T_impl_Column.mk 1 false), (T_impl_Column.mk 1 false)] : List T_impl_Column))).bind fun v24 => some (v24, v22.2) else some (x7, v19.2)
def spec_l20Columns (a0 : T_spec_l20Rd) (a1 : Int) : Option ((List T_impl_Column) × T_spec_l20Rd) := (spec_l20Rd_pick a0 3).bind fun v1 => spec_l20Columns_l0 a1 FUEL ((w64 (1 + v1.1))) v1.2 (([] : List T_impl_Column))
theorem ok_spec_l20Columns {a0 : T_spec_l20Rd} {a1 : Int} {y : (List T_impl_Column) × T_spec_l20Rd} (h : spec_l20Columns a0 a1 = some y) : OKb Try.prog 87 (Enc.cells a0) [I a1] (O y.1) (Enc.cells y.2) := by
  refine OKb_of_pwp τ_ok Try.func87 rfl (by kernel_rfl) rfl (Enc.frz _) (Enc.frz _) fun Γ hQ => ?_
  unfold spec_l20Columns at h
  refine srve 40 [(0, .ptr 0 0 0), (1, I a1)] [sc 0 a0] ?_
  refine srve 40 [(0, .ptr 0 0 0), (1, I a1), (5, .arr 2 0 (eL ([] : List T_impl_Column)) true)] [sc 0 a0] ?_
  refine pwp_seq ?_
  refine srv 1 40 [(0, .ptr 0 0 0), (1, I a1), (5, .arr 2 0 (eL ([] : List T_impl_Column)) true), (8, .ptr 0 0 0)] [sc 0 a0] ?_
  obtain ⟨v1, hv2, h⟩ := bindS h
  refine cB 9 0 0 (ok_spec_l20Rd_pick hv2) ?_
  refine ve 2 40 [(0, .ptr 0 0 0), (1, I a1), (5, .arr 2 0 (eL ([] : List T_impl_Column)) true), (6, I ((w64 (1 + v1.1))))] [sc 0 v1.2] ?_
  refine pwp_block ?_
  refine pwp_loop (ι := Nat × Int × T_spec_l20Rd × (List T_impl_Column)) (fun (f8, x5, x6, x7) => (⟨40, [(0, .ptr 0 0 0), (1, I a1), (5, rf 1 0 2 x7), (6, I x5)], [sc 0 x6, sl 0 x7]⟩ : St)) (fun (f8, x5, x6, x7) => spec_l20Columns_l0 a1 f8 x5 x6 x7 = some y) Prod.fst (FUEL, (w64 (1 + v1.1)), v1.2, ([] : List T_impl_Column)) h (Imp.thawS 5 [0, 1, 5, 6] (by kernel_rfl)) ?_
  rintro ⟨f8, x5, x6, x7⟩ h
  dsimp only at h ⊢
  rcases f8 with _ | f8
  cases h
  rw [spec_l20Columns_l0] at h
  refine pwp_seq ?_
  refine srve 40 [(0, .ptr 0 0 0), (1, I a1), (5, rf 1 0 2 x7), (6, I x5), (12, B ((decide (x5 > 0))))] [sc 0 x6, sl 0 x7] ?_
  refine pc h (fun h => ?_) (fun h => ?_)
  refine pwp_skip ?_
  refine pwp_seq ?_
  refine pwp_block ?_
  refine ip 40 [(0, .ptr 0 0 0), (1, I a1), (5, rf 1 0 2 x7), (6, I x5)] [sc 0 x6, sl 0 x7] ?_
  refine pwp_any ([[1], [], [], [0], [], [], [], [0], [], [], [], [1], [1]]) ([[], [], [], [0], [], [], [], [0], [], [], [], [1], []]) rfl (by kernel_rfl) ?_
  refine qv [1] (hL trivial) 1 40 [(15, rf 1 0 2 x7), (0, .ptr 0 0 0), (1, I a1), (5, rf 1 0 2 x7), (6, I x5)] [sc 0 x6, sl 0 x7] ?_
  refine qv [] trivial 1 40 [(16, .arr 1 (([1, 1, 2, 3] : List Int)).length (eL ([1, 1, 2, 3] : List Int)) true), (15, rf 1 0 2 x7), (0, .ptr 0 0 0), (1, I a1), (5, rf 1 0 2 x7), (6, I x5)] [sc 0 x6, sl 0 x7] ?_
  refine qA_mv (⟨40, [(17, .ptr 0 0 0), (16, .arr 1 (([1, 1, 2, 3] : List Int)).length (eL ([1, 1, 2, 3] : List Int)) true), (15, rf 1 0 2 x7), (0, .ptr 0 0 0), (1, I a1), (5, rf 1 0 2 x7), (6, I x5)], [sc 0 x6, sl 0 x7]⟩) (by kernel_rfl) rfl ?_
  obtain ⟨v11, hv12, h⟩ := bindS h
  refine qX (some 18) (I v11.1) 40 [(18, I v11.1), (16, .arr 1 (([1, 1, 2, 3] : List Int)).length (eL ([1, 1, 2, 3] : List Int)) true), (15, rf 1 0 2 x7), (0, .ptr 0 0 0), (1, I a1), (5, rf 1 0 2 x7), (6, I x5)] [sc 0 v11.2, sl 0 x7] (fun Γ' hΓ => callB_E τ 18 0 0 (ok_spec_l20Rd_pick hv12) (FzTo.frz rfl) rfl (by kernel_rfl)) (hB trivial) ?_
  obtain ⟨v13, hv14, h⟩ := bindS h
  refine qX (some 19) (pf v13 0) 40 [(19, pf v13 0), (15, rf 1 0 2 x7), (0, .ptr 0 0 0), (1, I a1), (5, rf 1 0 2 x7), (6, I x5)] [sc 0 v11.2, sl 0 x7] (fun Γ' hΓ => CoreE.of_y (idxV_sound τ_ok (by kernel_rfl) hv14)) trivial ?_
  refine qv [] trivial 1 40 [(20, I v13), (15, rf 1 0 2 x7), (0, .ptr 0 0 0), (1, I a1), (5, rf 1 0 2 x7), (6, I x5)] [sc 0 v11.2, sl 0 x7] ?_
  refine qA_mv (⟨40, [(21, .ptr 0 0 0), (20, I v13), (15, rf 1 0 2 x7), (0, .ptr 0 0 0), (1, I a1), (5, rf 1 0 2 x7), (6, I x5)], [sc 0 v11.2, sl 0 x7]⟩) (by kernel_rfl) rfl ?_
  obtain ⟨v15, hv16, h⟩ := bindS h
  refine qX (some 22) (I v15.1) 40 [(22, I v15.1), (20, I v13), (15, rf 1 0 2 x7), (0, .ptr 0 0 0), (1, I a1), (5, rf 1 0 2 x7), (6, I x5)] [sc 0 v15.2, sl 0 x7] (fun Γ' hΓ => callB_E τ 22 0 0 (ok_spec_l20Rd_pick hv16) (FzTo.frz rfl) rfl (by kernel_rfl)) (hB trivial) ?_
  refine qv [] trivial 3 40 [(25, .arr 2 (([(T_impl_Column.mk v13 ((decide (v15.1 > 0))))] : List T_impl_Column)).length (eL ([(T_impl_Column.mk v13 ((decide (v15.1 > 0))))] : List T_impl_Column)) true), (15, rf 1 0 2 x7), (0, .ptr 0 0 0), (1, I a1), (5, rf 1 0 2 x7), (6, I x5)] [sc 0 v15.2, sl 0 x7] ?_
  obtain ⟨v17, hv18, h⟩ := bindS h
  refine qX (some 26) (rf 1 1 2 v17) 40 [(26, rf 1 1 2 v17), (0, .ptr 0 0 0), (1, I a1), (5, rf 1 0 2 x7), (6, I x5)] [sc 0 v15.2, sl 1 v17] (fun Γ' hΓ => app_Ew τ_ok 26 1 0 (by first | exact py hΓ hQ | exact pky hΓ hQ) hv18 (by kernel_rfl)) (hL trivial) ?_
  refine qvn [1] (hL trivial) 1 40 [(0, .ptr 0 0 0), (1, I a1), (5, rf 1 1 2 v17), (6, I x5)] [sc 0 v15.2, sl 1 v17] ?_
  refine rve 40 [(0, .ptr 0 0 0), (1, I a1), (5, rf 1 1 2 v17), (6, I ((w64 (x5 - 1))))] [sc 0 v15.2, sl 1 v17] ?_
  exact ⟨(f8, (w64 (x5 - 1)), v15.2, v17), h, Nat.lt_succ_self _, (it (st' := ⟨40, [(0, .ptr 0 0 0), (1, I a1), (5, rf 1 1 2 v17), (6, I ((w64 (x5 - 1))))], [sc 0 v15.2, sl 1 v17]⟩) [0, 1, 5, 6]).trans (Imp.reverS 1 1 (eL v17) [0, 1, 5, 6] (by kernel_rfl) (by exact (And.intro (rfl) (And.intro (eL_frz _) trivial))) (by kernel_rfl))⟩
  refine pwp_exit ?_
  refine pwp_seq ?_
  refine srv 2 40 [(0, .ptr 0 0 0), (5, rf 1 0 2 x7), (27, .ptr 0 0 0), (28, I a1)] [sc 0 x6, sl 0 x7] ?_
  obtain ⟨v19, hv20, h⟩ := bindS h
  refine cB 29 0 0 (ok_spec_l20Rd_odd hv20) ?_
  refine ve 0 40 [(0, .ptr 0 0 0), (5, rf 1 0 2 x7), (29, B v19.1)] [sc 0 v19.2, sl 0 x7] ?_
  refine pc h (fun h => ?_) (fun h => ?_)
  refine rv 2 40 [(30, rf 1 0 2 x7), (31, .ptr 0 0 0)] [sc 0 v19.2, sl 0 x7] ?_
  obtain ⟨v22, hv23, h⟩ := bindS h
  refine cB 32 0 0 (ok_spec_l20Rd_pick hv23) ?_
  refine v 5 40 [(30, rf 1 0 2 x7), (37, .arr 2 (([(T_impl_Column.mk ((w64 (v22.1 - 1))) false), (T_impl_Column.mk 1 false), (T_impl_Column.mk 1 false)] : List T_impl_Column)).length (eL ([(T_impl_Column.mk ((w64 (v22.1 - 1))) false), (T_impl_Column.mk 1 false), (T_impl_Column.mk 1 false)] : List T_impl_Column)) true)] [sc 0 v22.2, sl 0 x7] ?_
  obtain ⟨v24, hv25, h⟩ := bindS h
  refine opsP_app τ_ok 38 1 0 (pn hQ) hv25 (by kernel_rfl) ?_
  refine ve 1 40 [(5, rf 1 1 2 v24)] [sc 0 v22.2, sl 1 v24] ?_
  refine srve 40 [(4, rf 1 1 2 v24)] [sc 0 v22.2, sl 1 v24] ?_
  have h := si h
  subst h
  exact pwp_ret ⟨.inr rfl, rf 1 1 2 v24, _, 0, by kernel_rfl, (OutP.list (v := 1) (by kernel_rfl)), by decide, by decide, by kernel_rfl⟩
  refine pwp_skip ?_
  refine srve 40 [(4, rf 1 0 2 x7)] [sc 0 v19.2, sl 0 x7] ?_
  have h := si h
  subst h
  exact pwp_ret ⟨.inr rfl, rf 1 0 2 x7, _, 0, by kernel_rfl, (OutP.list (v := 0) (by kernel_rfl)), by decide, by decide, by kernel_rfl⟩
def spec_l20Value_j1 (x3 : T_spec_l20Rd) (x4 : T_impl_Value) : Option (T_impl_Value × T_spec_l20Rd) := some (x4, x3)
def spec_l20Value_j0 (a1 : Int) (x1 : T_spec_l20Rd) (x2 : T_impl_Value) : Option (T_impl_Value × T_spec_l20Rd) := (spec_l20Rd_odd x1 a1).bind fun v5 => bif v5.1 then (spec_l20Rd_pick v5.2 4).bind fun v8 => bif (v8.1 == 0) then spec_l20Value_j1 v8.2 ({ x2 with fN := 10000 }) else bif (v8.1 == 1) then (addS x2.fS ((ByteArray.mk #[97, 98, 99, 100, 101, 102, 103]))).bind fun v12 => spec_l20Value_j1 v8.2 ({ x2 with fS := v12 }) else bif (v8.1 == 2) then (spec_l20Rd_pick v8.2 7).bind fun v15 => spec_l20Value_j1 v15.2 ({ x2 with fKind := (w64 (v15.1 - 1)) }) else (addS x2.fS ((ByteArray.mk #[65]))).bind fun v17 => spec_l20Value_j1 v8.2 ({ x2 with fS := v17 }) else spec_l20Value_j1 v5.2 x2
def spec_l20Value_l4 (a1 : Int) : Nat → Int → T_spec_l20Rd → T_impl_Value → Option (T_impl_Value × T_spec_l20Rd)
  | 0, _, _, _ => none
  | f43 + 1, x40, x41, x42 => bif (decide (x40 > 0)) then (spec_l20Rd_pick x41 3).bind fun v46 => (addS x42.fS ((ByteArray.mk (List.toArray (([(u8 ((w64 (97 + v46.1))))] : List UInt8)))))).bind fun v48 => (spec_l20Value_l4 a1 f43) ((w64 (x40 - 1))) v46.2 ({ x42 with fS := v48 }) else spec_l20Value_j0 a1 x41 x42
def spec_l20Value_j3 (a1 : Int) (v19 : Int × T_spec_l20Rd) (x33 : Bool) : Option (T_impl_Value × T_spec_l20Rd) := bif x33 then (spec_l20Rd_pick v19.2 4).bind fun v35 => spec_l20Value_l4 a1 FUEL v35.1 v35.2 ((T_impl_Value.mk 2 0 (ByteArray.mk #[]))) else (spec_l20Rd_pick v19.2 2).bind fun v50 => spec_l20Value_j0 a1 v50.2 ((T_impl_Value.mk 3 v50.1 (ByteArray.mk #[])))
def spec_l20Value_j2 (a1 : Int) (v19 : Int × T_spec_l20Rd) (x22 : Bool) : Option (T_impl_Value × T_spec_l20Rd) := bif x22 then (spec_l20Rd_pick v19.2 7).bind fun v24 => (spec_l20Rd_pick v24.2 8).bind fun v26 => bif (v26.1 == 0) then (spec_l20Rd_pick v26.2 5).bind fun v29 => (getI (([9999, -9999, 255, 256, -256] : List Int)) v29.1).bind fun v31 => spec_l20Value_j0 a1 v29.2 ({ ((T_impl_Value.mk 1 ((w64 (v24.1 - 3))) (ByteArray.mk #[]))) with fN := v31 }) else spec_l20Value_j0 a1 v26.2 ((T_impl_Value.mk 1 ((w64 (v24.1 - 3))) (ByteArray.mk #[]))) else bif (v19.1 == 4) then spec_l20Value_j3 a1 v19 ((v19.1 == 4)) else spec_l20Value_j3 a1 v19 ((v19.1 == 5))
def spec_l20Value (a0 : T_spec_l20Rd) (a1 : Int) : Option (T_impl_Value × T_spec_l20Rd) := (spec_l20Rd_pick a0 7).bind fun v19 => bif (v19.1 == 0) then spec_l20Value_j0 a1 v19.2 ((T_impl_Value.mk 0 0 (ByteArray.mk #[]))) else bif (v19.1 == 1) then spec_l20Value_j2 a1 v19 ((v19.1 == 1)) else bif (v19.1 == 2) then spec_l20Value_j2 a1 v19 ((v19.1 == 2)) else spec_l20Value_j2 a1 v19 ((v19.1 == 3))
theorem ok_spec_l20Value {a0 : T_spec_l20Rd} {a1 : Int} {y : T_impl_Value × T_spec_l20Rd} (h : spec_l20Value a0 a1 = some y) : OKb Try.prog 90 (Enc.cells a0) [I a1] (E y.1) (Enc.cells y.2) := by
  refine OKb_of_pwp τ_ok Try.func90 rfl (by kernel_rfl) rfl (Enc.frz _) (Enc.frz _) fun Γ hQ => ?_
  unfold spec_l20Value at h
  refine srveM [4, 5] 77 [(0, .ptr 0 0 0), (1, I a1), (4, .ptr 1 0 0)] [sc 0 a0, some ⟨0, Enc.cells ((T_impl_Value.mk 0 0 (ByteArray.mk #[])))⟩] ?_
  refine srveM [4, 5] 77 [(0, .ptr 0 0 0), (1, I a1), (4, .ptr 1 0 0), (5, .ptr 2 0 0)] [sc 0 a0, some ⟨0, Enc.cells ((T_impl_Value.mk 0 0 (ByteArray.mk #[])))⟩, some ⟨0, Enc.cells ((T_impl_Value.mk 0 0 (ByteArray.mk #[])))⟩] ?_
  refine pwp_seq ?_
  refine pwp_join (σ := T_spec_l20Rd × T_impl_Value) (fun (x1, x2) => (⟨77, [(0, .ptr 0 0 0), (1, I a1), (4, .ptr 1 0 0), (5, .ptr 2 0 0)], [sc 0 x1, some ⟨0, Enc.cells ((T_impl_Value.mk 0 0 (ByteArray.mk #[])))⟩, sc 0 x2]⟩ : St)) (fun (x1, x2) => spec_l20Value_j0 a1 x1 x2 = some y) ?_ ?_
  refine srvM [4, 5] 1 77 [(0, .ptr 0 0 0), (1, I a1), (4, .ptr 1 0 0), (5, .ptr 2 0 0), (8, .ptr 0 0 0)] [sc 0 a0, some ⟨0, Enc.cells ((T_impl_Value.mk 0 0 (ByteArray.mk #[])))⟩, some ⟨0, Enc.cells ((T_impl_Value.mk 0 0 (ByteArray.mk #[])))⟩] ?_
  obtain ⟨v19, hv20, h⟩ := bindS h
  refine cB 9 0 0 (ok_spec_l20Rd_pick hv20) ?_
  refine veM [4, 5] 0 77 [(0, .ptr 0 0 0), (1, I a1), (4, .ptr 1 0 0), (5, .ptr 2 0 0), (9, I v19.1)] [sc 0 v19.2, some ⟨0, Enc.cells ((T_impl_Value.mk 0 0 (ByteArray.mk #[])))⟩, some ⟨0, Enc.cells ((T_impl_Value.mk 0 0 (ByteArray.mk #[])))⟩] ?_
  refine pwp_block ?_
  refine srveM [4, 5] 77 [(0, .ptr 0 0 0), (1, I a1), (4, .ptr 1 0 0), (5, .ptr 2 0 0), (9, I v19.1), (13, B ((v19.1 == 0)))] [sc 0 v19.2, some ⟨0, Enc.cells ((T_impl_Value.mk 0 0 (ByteArray.mk #[])))⟩, some ⟨0, Enc.cells ((T_impl_Value.mk 0 0 (ByteArray.mk #[])))⟩] ?_
  refine pc h (fun h => ?_) (fun h => ?_)
  refine pwp_skip ?_
  exact ⟨(v19.2, (T_impl_Value.mk 0 0 (ByteArray.mk #[]))), h, it [0, 1, 4, 5]⟩
  refine pwp_seq ?_
  refine pwp_join (σ := Bool) (fun x22 => (⟨77, [(0, .ptr 0 0 0), (1, I a1), (4, .ptr 1 0 0), (5, .ptr 2 0 0), (9, I v19.1), (15, B x22)], [sc 0 v19.2, some ⟨0, Enc.cells ((T_impl_Value.mk 0 0 (ByteArray.mk #[])))⟩, some ⟨0, Enc.cells ((T_impl_Value.mk 0 0 (ByteArray.mk #[])))⟩]⟩ : St)) (fun x22 => spec_l20Value_j2 a1 v19 x22 = some y) ?_ ?_
  refine srveM [4, 5] 77 [(0, .ptr 0 0 0), (1, I a1), (4, .ptr 1 0 0), (5, .ptr 2 0 0), (9, I v19.1), (15, B ((v19.1 == 1)))] [sc 0 v19.2, some ⟨0, Enc.cells ((T_impl_Value.mk 0 0 (ByteArray.mk #[])))⟩, some ⟨0, Enc.cells ((T_impl_Value.mk 0 0 (ByteArray.mk #[])))⟩] ?_
  refine pc h (fun h => ?_) (fun h => ?_)
  refine pwp_skip ?_
  exact ⟨(v19.1 == 1), h, it [0, 1, 4, 5, 9, 15]⟩
  refine srveM [4, 5] 77 [(0, .ptr 0 0 0), (1, I a1), (4, .ptr 1 0 0), (5, .ptr 2 0 0), (9, I v19.1), (15, B ((v19.1 == 2)))] [sc 0 v19.2, some ⟨0, Enc.cells ((T_impl_Value.mk 0 0 (ByteArray.mk #[])))⟩, some ⟨0, Enc.cells ((T_impl_Value.mk 0 0 (ByteArray.mk #[])))⟩] ?_
  refine pc h (fun h => ?_) (fun h => ?_)
  refine pwp_skip ?_
  exact ⟨(v19.1 == 2), h, it [0, 1, 4, 5, 9, 15]⟩
  refine rveM [4, 5] 77 [(0, .ptr 0 0 0), (1, I a1), (4, .ptr 1 0 0), (5, .ptr 2 0 0), (9, I v19.1), (15, B ((v19.1 == 3)))] [sc 0 v19.2, some ⟨0, Enc.cells ((T_impl_Value.mk 0 0 (ByteArray.mk #[])))⟩, some ⟨0, Enc.cells ((T_impl_Value.mk 0 0 (ByteArray.mk #[])))⟩] ?_
  exact ⟨(v19.1 == 3), h, it [0, 1, 4, 5, 9, 15]⟩
  rintro x22 h
  unfold spec_l20Value_j2 at h
  refine pc h (fun h => ?_) (fun h => ?_)
  refine srvM [4, 5] 1 77 [(0, .ptr 0 0 0), (1, I a1), (4, .ptr 1 0 0), (5, .ptr 2 0 0), (19, .ptr 0 0 0)] [sc 0 v19.2, some ⟨0, Enc.cells ((T_impl_Value.mk 0 0 (ByteArray.mk #[])))⟩, some ⟨0, Enc.cells ((T_impl_Value.mk 0 0 (ByteArray.mk #[])))⟩] ?_
  obtain ⟨v24, hv25, h⟩ := bindS h
  refine cB 20 0 0 (ok_spec_l20Rd_pick hv25) ?_
  refine veM [4, 5] 3 77 [(0, .ptr 0 0 0), (1, I a1), (4, .ptr 1 0 0), (5, .ptr 2 0 0)] [sc 0 v24.2, some ⟨0, Enc.cells ((T_impl_Value.mk 0 0 (ByteArray.mk #[])))⟩, some ⟨0, Enc.cells ((T_impl_Value.mk 1 ((w64 (v24.1 - 3))) (ByteArray.mk #[])))⟩] ?_
  refine srvM [4, 5] 1 77 [(0, .ptr 0 0 0), (1, I a1), (4, .ptr 1 0 0), (5, .ptr 2 0 0), (23, .ptr 0 0 0)] [sc 0 v24.2, some ⟨0, Enc.cells ((T_impl_Value.mk 0 0 (ByteArray.mk #[])))⟩, some ⟨0, Enc.cells ((T_impl_Value.mk 1 ((w64 (v24.1 - 3))) (ByteArray.mk #[])))⟩] ?_
  obtain ⟨v26, hv27, h⟩ := bindS h
  refine cB 24 0 0 (ok_spec_l20Rd_pick hv27) ?_
  refine veM [4, 5] 1 77 [(0, .ptr 0 0 0), (1, I a1), (4, .ptr 1 0 0), (5, .ptr 2 0 0), (25, B ((v26.1 == 0)))] [sc 0 v26.2, some ⟨0, Enc.cells ((T_impl_Value.mk 0 0 (ByteArray.mk #[])))⟩, some ⟨0, Enc.cells ((T_impl_Value.mk 1 ((w64 (v24.1 - 3))) (ByteArray.mk #[])))⟩] ?_
  refine pc h (fun h => ?_) (fun h => ?_)
  refine rvM [4, 5] 2 77 [(0, .ptr 0 0 0), (1, I a1), (4, .ptr 1 0 0), (5, .ptr 2 0 0), (26, .arr 1 (([9999, -9999, 255, 256, -256] : List Int)).length (eL ([9999, -9999, 255, 256, -256] : List Int)) true), (27, .ptr 0 0 0)] [sc 0 v26.2, some ⟨0, Enc.cells ((T_impl_Value.mk 0 0 (ByteArray.mk #[])))⟩, some ⟨0, Enc.cells ((T_impl_Value.mk 1 ((w64 (v24.1 - 3))) (ByteArray.mk #[])))⟩] ?_
  obtain ⟨v29, hv30, h⟩ := bindS h
  refine cB 28 0 0 (ok_spec_l20Rd_pick hv30) ?_
  obtain ⟨v31, hv32, h⟩ := bindS h
  refine opsP_idx τ_ok 29 hv32 (by kernel_rfl) ?_
  refine veM [4, 5] 3 77 [(0, .ptr 0 0 0), (1, I a1), (4, .ptr 1 0 0), (5, .ptr 2 0 0)] [sc 0 v29.2, some ⟨0, Enc.cells ((T_impl_Value.mk 0 0 (ByteArray.mk #[])))⟩, some ⟨0, Enc.cells ({ ((T_impl_Value.mk 1 ((w64 (v24.1 - 3))) (ByteArray.mk #[]))) with fN := v31 })⟩] ?_
  exact ⟨(v29.2, { ((T_impl_Value.mk 1 ((w64 (v24.1 - 3))) (ByteArray.mk #[]))) with fN := v31 }), h, it [0, 1, 4, 5]⟩
  refine pwp_skip ?_
  exact ⟨(v26.2, (T_impl_Value.mk 1 ((w64 (v24.1 - 3))) (ByteArray.mk #[]))), h, it [0, 1, 4, 5]⟩
  refine pwp_seq ?_
  refine pwp_join (σ := Bool) (fun x33 => (⟨77, [(0, .ptr 0 0 0), (1, I a1), (4, .ptr 1 0 0), (5, .ptr 2 0 0), (32, B x33)], [sc 0 v19.2, some ⟨0, Enc.cells ((T_impl_Value.mk 0 0 (ByteArray.mk #[])))⟩, some ⟨0, Enc.cells ((T_impl_Value.mk 0 0 (ByteArray.mk #[])))⟩]⟩ : St)) (fun x33 => spec_l20Value_j3 a1 v19 x33 = some y) ?_ ?_
  refine srveM [4, 5] 77 [(0, .ptr 0 0 0), (1, I a1), (4, .ptr 1 0 0), (5, .ptr 2 0 0), (9, I v19.1), (32, B ((v19.1 == 4)))] [sc 0 v19.2, some ⟨0, Enc.cells ((T_impl_Value.mk 0 0 (ByteArray.mk #[])))⟩, some ⟨0, Enc.cells ((T_impl_Value.mk 0 0 (ByteArray.mk #[])))⟩] ?_
  refine pc h (fun h => ?_) (fun h => ?_)
  refine pwp_skip ?_
  exact ⟨(v19.1 == 4), h, it [0, 1, 4, 5, 32]⟩
  refine rveM [4, 5] 77 [(0, .ptr 0 0 0), (1, I a1), (4, .ptr 1 0 0), (5, .ptr 2 0 0), (32, B ((v19.1 == 5)))] [sc 0 v19.2, some ⟨0, Enc.cells ((T_impl_Value.mk 0 0 (ByteArray.mk #[])))⟩, some ⟨0, Enc.cells ((T_impl_Value.mk 0 0 (ByteArray.mk #[])))⟩] ?_
  exact ⟨(v19.1 == 5), h, it [0, 1, 4, 5, 32]⟩
  rintro x33 h
  unfold spec_l20Value_j3 at h
  refine pc h (fun h => ?_) (fun h => ?_)
  refine srveM [4, 5] 77 [(0, .ptr 0 0 0), (1, I a1), (4, .ptr 1 0 0), (5, .ptr 2 0 0)] [sc 0 v19.2, some ⟨0, Enc.cells ((T_impl_Value.mk 0 0 (ByteArray.mk #[])))⟩, some ⟨0, Enc.cells ((T_impl_Value.mk 2 0 (ByteArray.mk #[])))⟩] ?_
  refine srvM [4, 5] 1 77 [(0, .ptr 0 0 0), (1, I a1), (4, .ptr 1 0 0), (5, .ptr 2 0 0), (36, .ptr 0 0 0)] [sc 0 v19.2, some ⟨0, Enc.cells ((T_impl_Value.mk 0 0 (ByteArray.mk #[])))⟩, some ⟨0, Enc.cells ((T_impl_Value.mk 2 0 (ByteArray.mk #[])))⟩] ?_
  obtain ⟨v35, hv36, h⟩ := bindS h
  refine cB 37 0 0 (ok_spec_l20Rd_pick hv36) ?_
  refine veM [4, 5] 1 77 [(0, .ptr 0 0 0), (1, I a1), (4, .ptr 1 0 0), (5, .ptr 2 0 0), (6, I v35.1)] [sc 0 v35.2, some ⟨0, Enc.cells ((T_impl_Value.mk 0 0 (ByteArray.mk #[])))⟩, some ⟨0, Enc.cells ((T_impl_Value.mk 2 0 (ByteArray.mk #[])))⟩] ?_
  refine pwp_block ?_
  refine pwp_loop (ι := Nat × Int × T_spec_l20Rd × T_impl_Value) (fun (f43, x40, x41, x42) => (⟨77, [(0, .ptr 0 0 0), (1, I a1), (4, .ptr 1 0 0), (5, .ptr 2 0 0), (6, I x40)], [sc 0 x41, some ⟨0, Enc.cells ((T_impl_Value.mk 0 0 (ByteArray.mk #[])))⟩, sc 0 x42]⟩ : St)) (fun (f43, x40, x41, x42) => spec_l20Value_l4 a1 f43 x40 x41 x42 = some y) Prod.fst (FUEL, v35.1, v35.2, (T_impl_Value.mk 2 0 (ByteArray.mk #[]))) h (it [0, 1, 4, 5, 6]) ?_
  rintro ⟨f43, x40, x41, x42⟩ h
  dsimp only at h ⊢
  rcases f43 with _ | f43
  cases h
  rw [spec_l20Value_l4] at h
  refine pwp_seq ?_
  refine srveM [4, 5] 77 [(0, .ptr 0 0 0), (1, I a1), (4, .ptr 1 0 0), (5, .ptr 2 0 0), (6, I x40), (39, B ((decide (x40 > 0))))] [sc 0 x41, some ⟨0, Enc.cells ((T_impl_Value.mk 0 0 (ByteArray.mk #[])))⟩, sc 0 x42] ?_
  refine pc h (fun h => ?_) (fun h => ?_)
  refine pwp_skip ?_
  refine pwp_seq ?_
  refine pwp_block ?_
  refine ip 77 [(0, .ptr 0 0 0), (1, I a1), (4, .ptr 1 0 0), (5, .ptr 2 0 0), (6, I x40)] [sc 0 x41, some ⟨0, Enc.cells ((T_impl_Value.mk 0 0 (ByteArray.mk #[])))⟩, sc 0 x42] ?_
  refine pwp_any ([[2], [2], [0], [0], [], [], [], [], [], [2], [2]]) ([[], [], [], [0], [], [], [], [], [], [], [2]]) rfl (by kernel_rfl) ?_
  refine qvM [4, 5] [2] (hB trivial) 2 77 [(43, S x42.fS), (0, .ptr 0 0 0), (1, I a1), (4, .ptr 1 0 0), (5, .ptr 2 0 0), (6, I x40)] [sc 0 x41, some ⟨0, Enc.cells ((T_impl_Value.mk 0 0 (ByteArray.mk #[])))⟩, sc 0 x42] ?_
  refine qvM [4, 5] [0] (hB trivial) 1 77 [(44, .ptr 0 0 0), (43, S x42.fS), (0, .ptr 0 0 0), (1, I a1), (4, .ptr 1 0 0), (5, .ptr 2 0 0), (6, I x40)] [sc 0 x41, some ⟨0, Enc.cells ((T_impl_Value.mk 0 0 (ByteArray.mk #[])))⟩, sc 0 x42] ?_
  obtain ⟨v46, hv47, h⟩ := bindS h
  refine qX (some 45) (I v46.1) 77 [(45, I v46.1), (43, S x42.fS), (0, .ptr 0 0 0), (1, I a1), (4, .ptr 1 0 0), (5, .ptr 2 0 0), (6, I x40)] [sc 0 v46.2, some ⟨0, Enc.cells ((T_impl_Value.mk 0 0 (ByteArray.mk #[])))⟩, sc 0 x42] (fun Γ' hΓ => callB_E τ 45 0 0 (ok_spec_l20Rd_pick hv47) (FzTo.frz rfl) rfl (by kernel_rfl)) (hB trivial) ?_
  refine qvM [4, 5] [] trivial 1 77 [(46, I ((w64 (97 + v46.1)))), (43, S x42.fS), (0, .ptr 0 0 0), (1, I a1), (4, .ptr 1 0 0), (5, .ptr 2 0 0), (6, I x40)] [sc 0 v46.2, some ⟨0, Enc.cells ((T_impl_Value.mk 0 0 (ByteArray.mk #[])))⟩, sc 0 x42] ?_
  refine qX (some 47) (.lit (.int .u8 ((u8 ((w64 (97 + v46.1))))).toNat)) 77 [(47, .lit (.int .u8 ((u8 ((w64 (97 + v46.1))))).toNat)), (43, S x42.fS), (0, .ptr 0 0 0), (1, I a1), (4, .ptr 1 0 0), (5, .ptr 2 0 0), (6, I x40)] [sc 0 v46.2, some ⟨0, Enc.cells ((T_impl_Value.mk 0 0 (ByteArray.mk #[])))⟩, sc 0 x42] (fun Γ' hΓ => CoreE.of_y (cv8V_sound (n := (w64 (97 + v46.1))) τ_ok (by kernel_rfl))) trivial ?_
  refine qvM [4, 5] [] trivial 1 77 [(48, .arr 1 (([(u8 ((w64 (97 + v46.1))))] : List UInt8)).length (eL ([(u8 ((w64 (97 + v46.1))))] : List UInt8)) true), (43, S x42.fS), (0, .ptr 0 0 0), (1, I a1), (4, .ptr 1 0 0), (5, .ptr 2 0 0), (6, I x40)] [sc 0 v46.2, some ⟨0, Enc.cells ((T_impl_Value.mk 0 0 (ByteArray.mk #[])))⟩, sc 0 x42] ?_
  refine qX (some 49) (S ((ByteArray.mk (List.toArray (([(u8 ((w64 (97 + v46.1))))] : List UInt8)))))) 77 [(49, S ((ByteArray.mk (List.toArray (([(u8 ((w64 (97 + v46.1))))] : List UInt8)))))), (43, S x42.fS), (0, .ptr 0 0 0), (1, I a1), (4, .ptr 1 0 0), (5, .ptr 2 0 0), (6, I x40)] [sc 0 v46.2, some ⟨0, Enc.cells ((T_impl_Value.mk 0 0 (ByteArray.mk #[])))⟩, sc 0 x42] (fun Γ' hΓ => CoreE.of_y (cvsV_sound (l := ([(u8 ((w64 (97 + v46.1))))] : List UInt8)) τ_ok (by kernel_rfl))) trivial ?_
  obtain ⟨v48, hv49, h⟩ := bindS h
  refine qX (some 50) (S v48) 77 [(50, S v48), (0, .ptr 0 0 0), (1, I a1), (4, .ptr 1 0 0), (5, .ptr 2 0 0), (6, I x40)] [sc 0 v46.2, some ⟨0, Enc.cells ((T_impl_Value.mk 0 0 (ByteArray.mk #[])))⟩, sc 0 x42] (fun Γ' hΓ => CoreE.of_y (adsV_sound τ_ok (by kernel_rfl) hv49)) trivial ?_
  refine qvM [4, 5] [2] (hB trivial) 1 77 [(51, .ptr 2 0 2), (50, S v48), (0, .ptr 0 0 0), (1, I a1), (4, .ptr 1 0 0), (5, .ptr 2 0 0), (6, I x40)] [sc 0 v46.2, some ⟨0, Enc.cells ((T_impl_Value.mk 0 0 (ByteArray.mk #[])))⟩, sc 0 x42] ?_
  refine qX (Hm' := [none, none, some ⟨0, Enc.cells ({ x42 with fS := v48 })⟩]) none (.any) 77 [(0, .ptr 0 0 0), (1, I a1), (4, .ptr 1 0 0), (5, .ptr 2 0 0), (6, I x40)] [sc 0 v46.2, some ⟨0, Enc.cells ((T_impl_Value.mk 0 0 (ByteArray.mk #[])))⟩, some ⟨0, Enc.cells ({ x42 with fS := v48 })⟩] (fun Γ' hΓ => sto_E τ_ok 2 0 (by kernel_rfl)) (hB trivial) ?_
  refine qn 77 [(0, .ptr 0 0 0), (1, I a1), (4, .ptr 1 0 0), (5, .ptr 2 0 0), (6, I x40)] [sc 0 v46.2, some ⟨0, Enc.cells ((T_impl_Value.mk 0 0 (ByteArray.mk #[])))⟩, some ⟨0, Enc.cells ({ x42 with fS := v48 })⟩] ?_
  refine rveM [4, 5] 77 [(0, .ptr 0 0 0), (1, I a1), (4, .ptr 1 0 0), (5, .ptr 2 0 0), (6, I ((w64 (x40 - 1))))] [sc 0 v46.2, some ⟨0, Enc.cells ((T_impl_Value.mk 0 0 (ByteArray.mk #[])))⟩, some ⟨0, Enc.cells ({ x42 with fS := v48 })⟩] ?_
  exact ⟨(f43, (w64 (x40 - 1)), v46.2, { x42 with fS := v48 }), h, Nat.lt_succ_self _, it [0, 1, 4, 5, 6]⟩
  refine pwp_exit ?_
  exact ⟨(x41, x42), h, it [0, 1, 4, 5]⟩
  refine rvM [4, 5] 1 77 [(0, .ptr 0 0 0), (1, I a1), (4, .ptr 1 0 0), (5, .ptr 2 0 0), (10, .ptr 0 0 0)] [sc 0 v19.2, some ⟨0, Enc.cells ((T_impl_Value.mk 0 0 (ByteArray.mk #[])))⟩, some ⟨0, Enc.cells ((T_impl_Value.mk 0 0 (ByteArray.mk #[])))⟩] ?_
  obtain ⟨v50, hv51, h⟩ := bindS h
  refine cB 11 0 0 (ok_spec_l20Rd_pick hv51) ?_
  refine veM [4, 5] 2 77 [(0, .ptr 0 0 0), (1, I a1), (4, .ptr 1 0 0), (5, .ptr 2 0 0)] [sc 0 v50.2, some ⟨0, Enc.cells ((T_impl_Value.mk 0 0 (ByteArray.mk #[])))⟩, some ⟨0, Enc.cells ((T_impl_Value.mk 3 v50.1 (ByteArray.mk #[])))⟩] ?_
  exact ⟨(v50.2, (T_impl_Value.mk 3 v50.1 (ByteArray.mk #[]))), h, it [0, 1, 4, 5]⟩
  rintro ⟨x1, x2⟩ h
  dsimp only at h ⊢
  unfold spec_l20Value_j0 at h
  refine pwp_seq ?_
  refine pwp_join (σ := T_spec_l20Rd × T_impl_Value) (fun (x3, x4) => (⟨77, [(4, .ptr 1 0 0), (5, .ptr 2 0 0)], [sc 0 x3, some ⟨0, Enc.cells ((T_impl_Value.mk 0 0 (ByteArray.mk #[])))⟩, sc 0 x4]⟩ : St)) (fun (x3, x4) => spec_l20Value_j1 x3 x4 = some y) ?_ ?_
  refine srvM [4, 5] 2 77 [(0, .ptr 0 0 0), (4, .ptr 1 0 0), (5, .ptr 2 0 0), (52, .ptr 0 0 0), (53, I a1)] [sc 0 x1, some ⟨0, Enc.cells ((T_impl_Value.mk 0 0 (ByteArray.mk #[])))⟩, sc 0 x2] ?_
  obtain ⟨v5, hv6, h⟩ := bindS h
  refine cB 54 0 0 (ok_spec_l20Rd_odd hv6) ?_
  refine veM [4, 5] 0 77 [(0, .ptr 0 0 0), (4, .ptr 1 0 0), (5, .ptr 2 0 0), (54, B v5.1)] [sc 0 v5.2, some ⟨0, Enc.cells ((T_impl_Value.mk 0 0 (ByteArray.mk #[])))⟩, sc 0 x2] ?_
  refine pc h (fun h => ?_) (fun h => ?_)
  refine srvM [4, 5] 1 77 [(0, .ptr 0 0 0), (4, .ptr 1 0 0), (5, .ptr 2 0 0), (55, .ptr 0 0 0)] [sc 0 v5.2, some ⟨0, Enc.cells ((T_impl_Value.mk 0 0 (ByteArray.mk #[])))⟩, sc 0 x2] ?_
  obtain ⟨v8, hv9, h⟩ := bindS h
  refine cB 56 0 0 (ok_spec_l20Rd_pick hv9) ?_
  refine veM [4, 5] 0 77 [(0, .ptr 0 0 0), (4, .ptr 1 0 0), (5, .ptr 2 0 0), (56, I v8.1)] [sc 0 v8.2, some ⟨0, Enc.cells ((T_impl_Value.mk 0 0 (ByteArray.mk #[])))⟩, sc 0 x2] ?_
  refine pwp_block ?_
  refine srveM [4, 5] 77 [(0, .ptr 0 0 0), (4, .ptr 1 0 0), (5, .ptr 2 0 0), (56, I v8.1), (61, B ((v8.1 == 0)))] [sc 0 v8.2, some ⟨0, Enc.cells ((T_impl_Value.mk 0 0 (ByteArray.mk #[])))⟩, sc 0 x2] ?_
  refine pc h (fun h => ?_) (fun h => ?_)
  refine rveM [4, 5] 77 [(4, .ptr 1 0 0), (5, .ptr 2 0 0)] [sc 0 v8.2, some ⟨0, Enc.cells ((T_impl_Value.mk 0 0 (ByteArray.mk #[])))⟩, some ⟨0, Enc.cells ({ x2 with fN := 10000 })⟩] ?_
  exact ⟨(v8.2, { x2 with fN := 10000 }), h, it [4, 5]⟩
  refine srveM [4, 5] 77 [(0, .ptr 0 0 0), (4, .ptr 1 0 0), (5, .ptr 2 0 0), (56, I v8.1), (64, B ((v8.1 == 1)))] [sc 0 v8.2, some ⟨0, Enc.cells ((T_impl_Value.mk 0 0 (ByteArray.mk #[])))⟩, sc 0 x2] ?_
  refine pc h (fun h => ?_) (fun h => ?_)
  refine rvM [4, 5] 2 77 [(4, .ptr 1 0 0), (5, .ptr 2 0 0), (67, S x2.fS)] [sc 0 v8.2, some ⟨0, Enc.cells ((T_impl_Value.mk 0 0 (ByteArray.mk #[])))⟩, sc 0 x2] ?_
  obtain ⟨v12, hv13, h⟩ := bindS h
  refine opsP_ads τ_ok 68 hv13 (by kernel_rfl) ?_
  refine veM [4, 5] 2 77 [(4, .ptr 1 0 0), (5, .ptr 2 0 0)] [sc 0 v8.2, some ⟨0, Enc.cells ((T_impl_Value.mk 0 0 (ByteArray.mk #[])))⟩, some ⟨0, Enc.cells ({ x2 with fS := v12 })⟩] ?_
  exact ⟨(v8.2, { x2 with fS := v12 }), h, it [4, 5]⟩
  refine srveM [4, 5] 77 [(0, .ptr 0 0 0), (4, .ptr 1 0 0), (5, .ptr 2 0 0), (70, B ((v8.1 == 2)))] [sc 0 v8.2, some ⟨0, Enc.cells ((T_impl_Value.mk 0 0 (ByteArray.mk #[])))⟩, sc 0 x2] ?_
  refine pc h (fun h => ?_) (fun h => ?_)
  refine rvM [4, 5] 1 77 [(4, .ptr 1 0 0), (5, .ptr 2 0 0), (72, .ptr 0 0 0)] [sc 0 v8.2, some ⟨0, Enc.cells ((T_impl_Value.mk 0 0 (ByteArray.mk #[])))⟩, sc 0 x2] ?_
  obtain ⟨v15, hv16, h⟩ := bindS h
  refine cB 73 0 0 (ok_spec_l20Rd_pick hv16) ?_
  refine veM [4, 5] 3 77 [(4, .ptr 1 0 0), (5, .ptr 2 0 0)] [sc 0 v15.2, some ⟨0, Enc.cells ((T_impl_Value.mk 0 0 (ByteArray.mk #[])))⟩, some ⟨0, Enc.cells ({ x2 with fKind := (w64 (v15.1 - 1)) })⟩] ?_
  exact ⟨(v15.2, { x2 with fKind := (w64 (v15.1 - 1)) }), h, it [4, 5]⟩
  refine rvM [4, 5] 2 77 [(4, .ptr 1 0 0), (5, .ptr 2 0 0), (58, S x2.fS)] [sc 0 v8.2, some ⟨0, Enc.cells ((T_impl_Value.mk 0 0 (ByteArray.mk #[])))⟩, sc 0 x2] ?_
  obtain ⟨v17, hv18, h⟩ := bindS h
  refine opsP_ads τ_ok 59 hv18 (by kernel_rfl) ?_
  refine veM [4, 5] 2 77 [(4, .ptr 1 0 0), (5, .ptr 2 0 0)] [sc 0 v8.2, some ⟨0, Enc.cells ((T_impl_Value.mk 0 0 (ByteArray.mk #[])))⟩, some ⟨0, Enc.cells ({ x2 with fS := v17 })⟩] ?_
  exact ⟨(v8.2, { x2 with fS := v17 }), h, it [4, 5]⟩
  refine pwp_skip ?_
  exact ⟨(v5.2, x2), h, it [4, 5]⟩
  rintro ⟨x3, x4⟩ h
  dsimp only at h ⊢
  unfold spec_l20Value_j1 at h
  refine srveM [4, 5] 77 [(4, .ptr 1 0 0)] [sc 0 x3, sc 0 x4, sc 0 x4] ?_
  have h := si h
  subst h
  exact pwp_ret ⟨.inr rfl, E x4, _, 0, by kernel_rfl, (OutP.frz (by kernel_rfl)), by decide, by decide, by kernel_rfl⟩
def spec_l3Own (a0 : List T_impl_Value) : Option (List T_impl_Value) := (app (([] : List T_impl_Value)) a0).bind fun v1 => some v1
theorem ok_spec_l3Own {a0 : List T_impl_Value} {y : List T_impl_Value} (h : spec_l3Own a0 = some y) : OK Try.prog 104 [A a0] (O y) := by
  refine ow Try.func104 fun Γ hX => ?_
  unfold spec_l3Own at h
  refine srve 6 [(0, A a0)] [] ?_
  refine srv 2 6 [(3, .arr 3 0 (eL ([] : List T_impl_Value)) true), (4, A a0)] [] ?_
  refine opsP_thaw 3 3 (by kernel_rfl) ?_
  obtain ⟨v1, hv2, h⟩ := bindS h
  refine opsP_app τ_ok 5 0 0 (nx hX) hv2 (by kernel_rfl) ?_
  refine ve 1 6 [(2, rf 0 1 3 v1)] [sl 1 v1] ?_
  have h := si h
  subst h
  exact pwp_ret (rt (rf 0 1 3 v1) (OutP.list (v := 1) (by kernel_rfl)))
def slices_IndexFunc_impl_Value_impl_Value_s3_l0 (a0 : List (List T_impl_Value)) (a1 : (List T_impl_Value) → Option Bool) : Nat → Int → Option Int
  | 0, _ => none
  | f2 + 1, x1 => bif (decide (x1 < ((a0.length : Int)))) then (getI a0 x1).bind fun v5 => (a1 v5).bind fun v7 => bif v7 then some x1 else (slices_IndexFunc_impl_Value_impl_Value_s3_l0 a0 a1 f2) ((w64 (x1 + 1))) else some (-1)
def slices_IndexFunc_impl_Value_impl_Value_s3 (a0 : List (List T_impl_Value)) (a1 : (List T_impl_Value) → Option Bool) : Option Int := slices_IndexFunc_impl_Value_impl_Value_s3_l0 a0 a1 FUEL 0
theorem ok_slices_IndexFunc_impl_Value_impl_Value_s3 {a0 : List (List T_impl_Value)} {g1 : FuncId} {c1 : List V} (hz1 : frzL c1 = true) {a1 : (List T_impl_Value) → Option Bool} (hp1 : ∀ x0 y, a1 x0 = some y → OK Try.prog g1 ([A x0] ++ c1) (B y)) {y : Int} (h : slices_IndexFunc_impl_Value_impl_Value_s3 a0 a1 = some y) : OK Try.prog 111 [A a0, .fn g1 c1] (I y) := by
  refine ow Try.func111 fun Γ hX => ?_
  unfold slices_IndexFunc_impl_Value_impl_Value_s3 at h
  refine srve 19 [(0, A a0), (1, .fn g1 c1)] [] ?_
  refine pwp_seq ?_
  refine srve 19 [(0, A a0), (1, .fn g1 c1), (7, I ((a0.length : Int))), (8, I 0)] [] ?_
  refine pwp_block ?_
  refine pwp_loop (ι := Nat × Int) (fun (f2, x1) => (⟨19, [(0, A a0), (1, .fn g1 c1), (7, I ((a0.length : Int))), (8, I x1)], []⟩ : St)) (fun (f2, x1) => slices_IndexFunc_impl_Value_impl_Value_s3_l0 a0 a1 f2 x1 = some y) Prod.fst (FUEL, 0) h (it [0, 1, 7, 8]) ?_
  rintro ⟨f2, x1⟩ h
  dsimp only at h ⊢
  rcases f2 with _ | f2
  cases h
  rw [slices_IndexFunc_impl_Value_impl_Value_s3_l0] at h
  refine srve 19 [(0, A a0), (1, .fn g1 c1), (7, I ((a0.length : Int))), (8, I x1), (9, B ((decide (x1 < ((a0.length : Int))))))] [] ?_
  refine pwp_seq ?_
  refine pc h (fun h => ?_) (fun h => ?_)
  refine pwp_skip ?_
  refine pwp_seq ?_
  refine pwp_block ?_
  refine srve 19 [(0, A a0), (1, .fn g1 c1), (5, I x1), (7, I ((a0.length : Int))), (8, I x1)] [] ?_
  refine srv 3 19 [(0, A a0), (1, .fn g1 c1), (5, I x1), (7, I ((a0.length : Int))), (8, I x1), (11, .fn g1 c1), (12, A a0), (13, I x1)] [] ?_
  obtain ⟨v5, hv6, h⟩ := bindS h
  refine opsP_idx τ_ok 14 hv6 (by kernel_rfl) ?_
  refine v 1 19 [(0, A a0), (1, .fn g1 c1), (5, I x1), (7, I ((a0.length : Int))), (8, I x1), (11, .fn g1 c1), (15, A v5)] [] ?_
  obtain ⟨v7, hv8, h⟩ := bindS h
  refine opsP_callF τ 16 (hp1 _ _ hv8) (FzTo.frz rfl) (frz_app (xs := [A v5]) rfl hz1) (by kernel_rfl) ?_
  refine ve 0 19 [(0, A a0), (1, .fn g1 c1), (5, I x1), (7, I ((a0.length : Int))), (8, I x1), (16, B v7)] [] ?_
  refine pc h (fun h => ?_) (fun h => ?_)
  refine srve 19 [(4, I x1)] [] ?_
  cases h
  exact pwp_ret rz
  refine pwp_skip ?_
  refine rve 19 [(0, A a0), (1, .fn g1 c1), (7, I ((a0.length : Int))), (8, I ((w64 (x1 + 1))))] [] ?_
  exact ⟨(f2, (w64 (x1 + 1))), h, Nat.lt_succ_self _, it [0, 1, 7, 8]⟩
  refine pwp_exit ?_
  refine srve 19 [(4, I (-1))] [] ?_
  cases h
  exact pwp_ret rz
def spec_l20Like_j0 (a1 : T_impl_Column) (x1 : Bool) (x2 : T_spec_l20Rd) : Option (T_impl_Value × T_spec_l20Rd) := bif x1 then some (((T_impl_Value.mk 0 0 (ByteArray.mk #[]))), x2) else bif (a1.fKind == 1) then (spec_l20Rd_pick x2 4).bind fun v5 => some (((T_impl_Value.mk 1 v5.1 (ByteArray.mk #[]))), v5.2) else bif (a1.fKind == 2) then (spec_l20Rd_pick x2 4).bind fun v8 => (getI (([(ByteArray.mk #[]), (ByteArray.mk #[97]), (ByteArray.mk #[98]), (ByteArray.mk #[97, 98])] : List ByteArray)) v8.1).bind fun v10 => some (((T_impl_Value.mk 2 0 v10)), v8.2) else (spec_l20Rd_pick x2 2).bind fun v12 => some (((T_impl_Value.mk 3 v12.1 (ByteArray.mk #[]))), v12.2)
def spec_l20Like (a0 : T_spec_l20Rd) (a1 : T_impl_Column) : Option (T_impl_Value × T_spec_l20Rd) := bif a1.fEmpty then (spec_l20Rd_pick a0 5).bind fun v14 => spec_l20Like_j0 a1 ((v14.1 == 0)) v14.2 else spec_l20Like_j0 a1 false a0
theorem ok_spec_l20Like {a0 : T_spec_l20Rd} {a1 : T_impl_Column} {y : T_impl_Value × T_spec_l20Rd} (h : spec_l20Like a0 a1 = some y) : OKb Try.prog 118 (Enc.cells a0) [E a1] (E y.1) (Enc.cells y.2) := by
  refine OKb_of_pwp τ_ok Try.func118 rfl (by kernel_rfl) rfl (Enc.frz _) (Enc.frz _) fun Γ hQ => ?_
  unfold spec_l20Like at h
  refine srveM [4] 31 [(0, .ptr 0 0 0), (3, pf a1 0), (4, .ptr 1 0 0)] [sc 0 a0, some ⟨0, Enc.cells ((T_impl_Value.mk 0 0 (ByteArray.mk #[])))⟩] ?_
  refine pwp_seq ?_
  refine pwp_seq ?_
  refine pwp_join (σ := Bool × T_spec_l20Rd) (fun (x1, x2) => (⟨31, [(0, .ptr 0 0 0), (3, pf a1 0), (4, .ptr 1 0 0), (11, B x1)], [sc 0 x2, some ⟨0, Enc.cells ((T_impl_Value.mk 0 0 (ByteArray.mk #[])))⟩]⟩ : St)) (fun (x1, x2) => spec_l20Like_j0 a1 x1 x2 = some y) ?_ ?_
  refine rvM [4] 3 31 [(0, .ptr 0 0 0), (3, pf a1 0), (4, .ptr 1 0 0), (7, B a1.fEmpty)] [sc 0 a0, some ⟨0, Enc.cells ((T_impl_Value.mk 0 0 (ByteArray.mk #[])))⟩] ?_
  rcases Bool.eq_false_or_eq_true a1.fEmpty with hc16 | hc16
  replace h := bT hc16 h
  rw [hc16]
  refine vM [4] 1 31 [(0, .ptr 0 0 0), (3, pf a1 0), (4, .ptr 1 0 0), (7, B true), (8, .ptr 0 0 0)] [sc 0 a0, some ⟨0, Enc.cells ((T_impl_Value.mk 0 0 (ByteArray.mk #[])))⟩] ?_
  obtain ⟨v14, hv15, h⟩ := bindS h
  refine cB 9 0 0 (ok_spec_l20Rd_pick hv15) ?_
  refine veM [4] 2 31 [(0, .ptr 0 0 0), (3, pf a1 0), (4, .ptr 1 0 0), (11, B ((v14.1 == 0)))] [sc 0 v14.2, some ⟨0, Enc.cells ((T_impl_Value.mk 0 0 (ByteArray.mk #[])))⟩] ?_
  exact ⟨((v14.1 == 0), v14.2), h, it [0, 3, 4, 11]⟩
  replace h := bF hc16 h
  rw [hc16]
  refine veM [4] 4 31 [(0, .ptr 0 0 0), (3, pf a1 0), (4, .ptr 1 0 0), (11, B false)] [sc 0 a0, some ⟨0, Enc.cells ((T_impl_Value.mk 0 0 (ByteArray.mk #[])))⟩] ?_
  exact ⟨(false, a0), h, it [0, 3, 4, 11]⟩
  rintro ⟨x1, x2⟩ h
  dsimp only at h ⊢
  unfold spec_l20Like_j0 at h
  refine pc h (fun h => ?_) (fun h => ?_)
  refine srveM [4] 31 [(4, .ptr 1 0 0)] [sc 0 x2, some ⟨0, Enc.cells ((T_impl_Value.mk 0 0 (ByteArray.mk #[])))⟩] ?_
  have h := si h
  subst h
  exact pwp_ret ⟨.inr rfl, E ((T_impl_Value.mk 0 0 (ByteArray.mk #[]))), _, 0, by kernel_rfl, (OutP.frz (by kernel_rfl)), by decide, by decide, by kernel_rfl⟩
  refine pwp_skip ?_
  refine pwp_seq ?_
  refine srveM [4] 31 [(0, .ptr 0 0 0), (4, .ptr 1 0 0), (14, I a1.fKind)] [sc 0 x2, some ⟨0, Enc.cells ((T_impl_Value.mk 0 0 (ByteArray.mk #[])))⟩] ?_
  refine pwp_block ?_
  refine srveM [4] 31 [(0, .ptr 0 0 0), (4, .ptr 1 0 0), (14, I a1.fKind), (15, B ((a1.fKind == 1)))] [sc 0 x2, some ⟨0, Enc.cells ((T_impl_Value.mk 0 0 (ByteArray.mk #[])))⟩] ?_
  refine pc h (fun h => ?_) (fun h => ?_)
  refine srvM [4] 1 31 [(4, .ptr 1 0 0), (17, .ptr 0 0 0)] [sc 0 x2, some ⟨0, Enc.cells ((T_impl_Value.mk 0 0 (ByteArray.mk #[])))⟩] ?_
  obtain ⟨v5, hv6, h⟩ := bindS h
  refine cB 18 0 0 (ok_spec_l20Rd_pick hv6) ?_
  refine veM [4] 2 31 [(4, .ptr 1 0 0)] [sc 0 v5.2, some ⟨0, Enc.cells ((T_impl_Value.mk 1 v5.1 (ByteArray.mk #[])))⟩] ?_
  have h := si h
  subst h
  exact pwp_ret ⟨.inr rfl, E ((T_impl_Value.mk 1 v5.1 (ByteArray.mk #[]))), _, 0, by kernel_rfl, (OutP.frz (by kernel_rfl)), by decide, by decide, by kernel_rfl⟩
  refine srveM [4] 31 [(0, .ptr 0 0 0), (4, .ptr 1 0 0), (20, B ((a1.fKind == 2)))] [sc 0 x2, some ⟨0, Enc.cells ((T_impl_Value.mk 0 0 (ByteArray.mk #[])))⟩] ?_
  refine pc h (fun h => ?_) (fun h => ?_)
  refine srvM [4] 2 31 [(4, .ptr 1 0 0), (22, .arr 1 (([(ByteArray.mk #[]), (ByteArray.mk #[97]), (ByteArray.mk #[98]), (ByteArray.mk #[97, 98])] : List ByteArray)).length (eL ([(ByteArray.mk #[]), (ByteArray.mk #[97]), (ByteArray.mk #[98]), (ByteArray.mk #[97, 98])] : List ByteArray)) true), (23, .ptr 0 0 0)] [sc 0 x2, some ⟨0, Enc.cells ((T_impl_Value.mk 0 0 (ByteArray.mk #[])))⟩] ?_
  obtain ⟨v8, hv9, h⟩ := bindS h
  refine cB 24 0 0 (ok_spec_l20Rd_pick hv9) ?_
  obtain ⟨v10, hv11, h⟩ := bindS h
  refine opsP_idx τ_ok 25 hv11 (by kernel_rfl) ?_
  refine veM [4] 3 31 [(4, .ptr 1 0 0)] [sc 0 v8.2, some ⟨0, Enc.cells ((T_impl_Value.mk 2 0 v10))⟩] ?_
  have h := si h
  subst h
  exact pwp_ret ⟨.inr rfl, E ((T_impl_Value.mk 2 0 v10)), _, 0, by kernel_rfl, (OutP.frz (by kernel_rfl)), by decide, by decide, by kernel_rfl⟩
  refine pwp_skip ?_
  refine srvM [4] 1 31 [(4, .ptr 1 0 0), (28, .ptr 0 0 0)] [sc 0 x2, some ⟨0, Enc.cells ((T_impl_Value.mk 0 0 (ByteArray.mk #[])))⟩] ?_
  obtain ⟨v12, hv13, h⟩ := bindS h
  refine cB 29 0 0 (ok_spec_l20Rd_pick hv13) ?_
  refine veM [4] 2 31 [(4, .ptr 1 0 0)] [sc 0 v12.2, some ⟨0, Enc.cells ((T_impl_Value.mk 3 v12.1 (ByteArray.mk #[])))⟩] ?_
  have h := si h
  subst h
  exact pwp_ret ⟨.inr rfl, E ((T_impl_Value.mk 3 v12.1 (ByteArray.mk #[]))), _, 0, by kernel_rfl, (OutP.frz (by kernel_rfl)), by decide, by decide, by kernel_rfl⟩
def slices_IndexFunc_impl_Column_impl_Column_l0 (a0 : List T_impl_Column) (a1 : T_impl_Column → Option Bool) : Nat → Int → Option Int
  | 0, _ => none
  | f2 + 1, x1 => bif (decide (x1 < ((a0.length : Int)))) then (getI a0 x1).bind fun v5 => (a1 v5).bind fun v7 => bif v7 then some x1 else (slices_IndexFunc_impl_Column_impl_Column_l0 a0 a1 f2) ((w64 (x1 + 1))) else some (-1)
def slices_IndexFunc_impl_Column_impl_Column (a0 : List T_impl_Column) (a1 : T_impl_Column → Option Bool) : Option Int := slices_IndexFunc_impl_Column_impl_Column_l0 a0 a1 FUEL 0
theorem ok_slices_IndexFunc_impl_Column_impl_Column {a0 : List T_impl_Column} {g1 : FuncId} {c1 : List V} (hz1 : frzL c1 = true) {a1 : T_impl_Column → Option Bool} (hp1 : ∀ x0 y, a1 x0 = some y → OK Try.prog g1 ([E x0] ++ c1) (B y)) {y : Int} (h : slices_IndexFunc_impl_Column_impl_Column a0 a1 = some y) : OK Try.prog 119 [A a0, .fn g1 c1] (I y) := by
  refine ow Try.func119 fun Γ hX => ?_
  unfold slices_IndexFunc_impl_Column_impl_Column at h
  refine srve 19 [(0, A a0), (1, .fn g1 c1)] [] ?_
  refine pwp_seq ?_
  refine srve 19 [(0, A a0), (1, .fn g1 c1), (7, I ((a0.length : Int))), (8, I 0)] [] ?_
  refine pwp_block ?_
  refine pwp_loop (ι := Nat × Int) (fun (f2, x1) => (⟨19, [(0, A a0), (1, .fn g1 c1), (7, I ((a0.length : Int))), (8, I x1)], []⟩ : St)) (fun (f2, x1) => slices_IndexFunc_impl_Column_impl_Column_l0 a0 a1 f2 x1 = some y) Prod.fst (FUEL, 0) h (it [0, 1, 7, 8]) ?_
  rintro ⟨f2, x1⟩ h
  dsimp only at h ⊢
  rcases f2 with _ | f2
  cases h
  rw [slices_IndexFunc_impl_Column_impl_Column_l0] at h
  refine srve 19 [(0, A a0), (1, .fn g1 c1), (7, I ((a0.length : Int))), (8, I x1), (9, B ((decide (x1 < ((a0.length : Int))))))] [] ?_
  refine pwp_seq ?_
  refine pc h (fun h => ?_) (fun h => ?_)
  refine pwp_skip ?_
  refine pwp_seq ?_
  refine pwp_block ?_
  refine srve 19 [(0, A a0), (1, .fn g1 c1), (5, I x1), (7, I ((a0.length : Int))), (8, I x1)] [] ?_
  refine srv 3 19 [(0, A a0), (1, .fn g1 c1), (5, I x1), (7, I ((a0.length : Int))), (8, I x1), (11, .fn g1 c1), (12, A a0), (13, I x1)] [] ?_
  obtain ⟨v5, hv6, h⟩ := bindS h
  refine opsP_idx τ_ok 14 hv6 (by kernel_rfl) ?_
  refine v 1 19 [(0, A a0), (1, .fn g1 c1), (5, I x1), (7, I ((a0.length : Int))), (8, I x1), (11, .fn g1 c1), (15, E v5)] [] ?_
  obtain ⟨v7, hv8, h⟩ := bindS h
  refine opsP_callF τ 16 (hp1 _ _ hv8) (FzTo.frz rfl) (frz_app (xs := [E v5]) rfl hz1) (by kernel_rfl) ?_
  refine ve 0 19 [(0, A a0), (1, .fn g1 c1), (5, I x1), (7, I ((a0.length : Int))), (8, I x1), (16, B v7)] [] ?_
  refine pc h (fun h => ?_) (fun h => ?_)
  refine srve 19 [(4, I x1)] [] ?_
  cases h
  exact pwp_ret rz
  refine pwp_skip ?_
  refine rve 19 [(0, A a0), (1, .fn g1 c1), (7, I ((a0.length : Int))), (8, I ((w64 (x1 + 1))))] [] ?_
  exact ⟨(f2, (w64 (x1 + 1))), h, Nat.lt_succ_self _, it [0, 1, 7, 8]⟩
  refine pwp_exit ?_
  refine srve 19 [(4, I (-1))] [] ?_
  cases h
  exact pwp_ret rz
def impl_Part_kind_1_1 (a0 : Int) (b0 : Int) : Option Bool := some ((!(a0 == b0)))
theorem ok_impl_Part_kind_1_1 {a0 : Int} {b0 : Int} {y : Bool} (h : impl_Part_kind_1_1 a0 b0 = some y) : OK Try.prog 122 [I a0, pf b0 0] (B y) := by
  refine ow Try.func122 fun Γ hX => ?_
  unfold impl_Part_kind_1_1 at h
  refine srve 7 [(0, I a0), (1, pf b0 0)] [] ?_
  refine srve 7 [(3, B ((!(a0 == b0))))] [] ?_
  cases h
  exact pwp_ret rz
def impl_letters_l0 (v1 : List UInt8) : Nat → Int → Option Bool
  | 0, _ => none
  | f4 + 1, x3 => bif (decide (x3 < ((v1.length : Int)))) then (getI v1 x3).bind fun v7 => (impl_between ((w64 (v7.toNat : Int))) 97 122).bind fun v9 => bif (!v9) then some false else (impl_letters_l0 v1 f4) ((w64 (x3 + 1))) else some true
def impl_letters (a0 : ByteArray) : Option Bool := (bytesOf a0).bind fun v1 => impl_letters_l0 v1 FUEL 0
theorem ok_impl_letters {a0 : ByteArray} {y : Bool} (h : impl_letters a0 = some y) : OK Try.prog 124 [S a0] (B y) := by
  refine ow Try.func124 fun Γ hX => ?_
  unfold impl_letters at h
  refine srve 17 [(0, S a0)] [] ?_
  refine pwp_seq ?_
  refine srv 1 17 [(5, S a0)] [] ?_
  obtain ⟨v1, hv2, h⟩ := bindS h
  refine opsP_cvb τ_ok 6 hv2 (by kernel_rfl) ?_
  refine ve 2 17 [(6, A v1), (7, I ((v1.length : Int))), (8, I 0)] [] ?_
  refine pwp_block ?_
  refine pwp_loop (ι := Nat × Int) (fun (f4, x3) => (⟨17, [(6, A v1), (7, I ((v1.length : Int))), (8, I x3)], []⟩ : St)) (fun (f4, x3) => impl_letters_l0 v1 f4 x3 = some y) Prod.fst (FUEL, 0) h (it [6, 7, 8]) ?_
  rintro ⟨f4, x3⟩ h
  dsimp only at h ⊢
  rcases f4 with _ | f4
  cases h
  rw [impl_letters_l0] at h
  refine srve 17 [(6, A v1), (7, I ((v1.length : Int))), (8, I x3), (9, B ((decide (x3 < ((v1.length : Int))))))] [] ?_
  refine pwp_seq ?_
  refine pc h (fun h => ?_) (fun h => ?_)
  refine pwp_skip ?_
  refine pwp_seq ?_
  refine pwp_block ?_
  refine pwp_seq ?_
  refine pwp_region ?_
  obtain ⟨v7, hv8, h⟩ := bindS h
  refine opsP_idx τ_ok 10 hv8 (by kernel_rfl) ?_
  refine ve 2 17 [(4, .lit (.int .u8 (v7).toNat)), (6, A v1), (7, I ((v1.length : Int))), (8, I x3)] [] ?_
  refine srv 2 17 [(6, A v1), (7, I ((v1.length : Int))), (8, I x3), (13, I ((w64 (v7.toNat : Int))))] [] ?_
  obtain ⟨v9, hv10, h⟩ := bindS h
  refine cF 14 (ok_impl_between hv10) ?_
  refine ve 1 17 [(6, A v1), (7, I ((v1.length : Int))), (8, I x3), (15, B ((!v9)))] [] ?_
  refine pc h (fun h => ?_) (fun h => ?_)
  refine srve 17 [(2, B false)] [] ?_
  cases h
  exact pwp_ret rz
  refine pwp_skip ?_
  refine rve 17 [(6, A v1), (7, I ((v1.length : Int))), (8, I ((w64 (x3 + 1))))] [] ?_
  exact ⟨(f4, (w64 (x3 + 1))), h, Nat.lt_succ_self _, it [6, 7, 8]⟩
  refine pwp_exit ?_
  refine srve 17 [(2, B true)] [] ?_
  cases h
  exact pwp_ret rz
def slices_Clip_impl_Value_impl_Value (a0 : List T_impl_Value) : Option (List T_impl_Value) := (slI a0 none (some ((a0.length : Int))) (some ((a0.length : Int)))).bind fun v1 => some v1
theorem ok_slices_Clip_impl_Value_impl_Value {a0 : List T_impl_Value} {y : List T_impl_Value} (h : slices_Clip_impl_Value_impl_Value a0 = some y) : OK Try.prog 127 [A a0] (A y) := by
  refine ow Try.func127 fun Γ hX => ?_
  unfold slices_Clip_impl_Value_impl_Value at h
  refine srve 9 [(0, A a0)] [] ?_
  refine srv 5 9 [(3, A a0), (5, I ((a0.length : Int))), (7, I ((a0.length : Int)))] [] ?_
  obtain ⟨v1, hv2, h⟩ := bindS h
  refine opsP_slc τ_ok 8 hv2 (by kernel_rfl) ?_
  refine ve 1 9 [(2, A v1)] [] ?_
  cases h
  exact pwp_ret rz
def impl_NotOf (a0 : Int) : Option Int := bif (a0 == 0) then some 1 else bif (a0 == 1) then some 0 else bif (a0 == 2) then some 2 else some (-1)
theorem ok_impl_NotOf {a0 : Int} {y : Int} (h : impl_NotOf a0 = some y) : OK Try.prog 135 [I a0] (I y) := by
  refine ow Try.func135 fun Γ hX => ?_
  unfold impl_NotOf at h
  refine srve 10 [(0, I a0)] [] ?_
  refine pwp_seq ?_
  refine srve 10 [(3, I a0)] [] ?_
  refine pwp_block ?_
  refine srve 10 [(3, I a0), (4, B ((a0 == 0)))] [] ?_
  refine pc h (fun h => ?_) (fun h => ?_)
  refine srve 10 [(2, I 1)] [] ?_
  cases h
  exact pwp_ret rz
  refine srve 10 [(3, I a0), (6, B ((a0 == 1)))] [] ?_
  refine pc h (fun h => ?_) (fun h => ?_)
  refine srve 10 [(2, I 0)] [] ?_
  cases h
  exact pwp_ret rz
  refine srve 10 [(8, B ((a0 == 2)))] [] ?_
  refine pc h (fun h => ?_) (fun h => ?_)
  refine srve 10 [(2, I 2)] [] ?_
  cases h
  exact pwp_ret rz
  refine pwp_skip ?_
  refine srve 10 [(2, I (-1))] [] ?_
  cases h
  exact pwp_ret rz
def impl_truthIf (a0 : Bool) : Option Int := bif a0 then some 1 else some 0
theorem ok_impl_truthIf {a0 : Bool} {y : Int} (h : impl_truthIf a0 = some y) : OK Try.prog 136 [B a0] (I y) := by
  refine ow Try.func136 fun Γ hX => ?_
  unfold impl_truthIf at h
  refine srve 4 [(0, B a0)] [] ?_
  refine pwp_seq ?_
  refine srve 4 [(3, B a0)] [] ?_
  refine pc h (fun h => ?_) (fun h => ?_)
  refine srve 4 [(2, I 1)] [] ?_
  cases h
  exact pwp_ret rz
  refine pwp_skip ?_
  refine srve 4 [(2, I 0)] [] ?_
  cases h
  exact pwp_ret rz
def slices_IndexFunc_impl_Value_impl_Value_l0 (a0 : List T_impl_Value) (a1 : T_impl_Value → Option Bool) : Nat → Int → Option Int
  | 0, _ => none
  | f2 + 1, x1 => bif (decide (x1 < ((a0.length : Int)))) then (getI a0 x1).bind fun v5 => (a1 v5).bind fun v7 => bif v7 then some x1 else (slices_IndexFunc_impl_Value_impl_Value_l0 a0 a1 f2) ((w64 (x1 + 1))) else some (-1)
def slices_IndexFunc_impl_Value_impl_Value (a0 : List T_impl_Value) (a1 : T_impl_Value → Option Bool) : Option Int := slices_IndexFunc_impl_Value_impl_Value_l0 a0 a1 FUEL 0
theorem ok_slices_IndexFunc_impl_Value_impl_Value {a0 : List T_impl_Value} {g1 : FuncId} {c1 : List V} (hz1 : frzL c1 = true) {a1 : T_impl_Value → Option Bool} (hp1 : ∀ x0 y, a1 x0 = some y → OK Try.prog g1 ([E x0] ++ c1) (B y)) {y : Int} (h : slices_IndexFunc_impl_Value_impl_Value a0 a1 = some y) : OK Try.prog 152 [A a0, .fn g1 c1] (I y) := by
  refine ow Try.func152 fun Γ hX => ?_
  unfold slices_IndexFunc_impl_Value_impl_Value at h
  refine srve 19 [(0, A a0), (1, .fn g1 c1)] [] ?_
  refine pwp_seq ?_
  refine srve 19 [(0, A a0), (1, .fn g1 c1), (7, I ((a0.length : Int))), (8, I 0)] [] ?_
  refine pwp_block ?_
  refine pwp_loop (ι := Nat × Int) (fun (f2, x1) => (⟨19, [(0, A a0), (1, .fn g1 c1), (7, I ((a0.length : Int))), (8, I x1)], []⟩ : St)) (fun (f2, x1) => slices_IndexFunc_impl_Value_impl_Value_l0 a0 a1 f2 x1 = some y) Prod.fst (FUEL, 0) h (it [0, 1, 7, 8]) ?_
  rintro ⟨f2, x1⟩ h
  dsimp only at h ⊢
  rcases f2 with _ | f2
  cases h
  rw [slices_IndexFunc_impl_Value_impl_Value_l0] at h
  refine srve 19 [(0, A a0), (1, .fn g1 c1), (7, I ((a0.length : Int))), (8, I x1), (9, B ((decide (x1 < ((a0.length : Int))))))] [] ?_
  refine pwp_seq ?_
  refine pc h (fun h => ?_) (fun h => ?_)
  refine pwp_skip ?_
  refine pwp_seq ?_
  refine pwp_block ?_
  refine srve 19 [(0, A a0), (1, .fn g1 c1), (5, I x1), (7, I ((a0.length : Int))), (8, I x1)] [] ?_
  refine srv 3 19 [(0, A a0), (1, .fn g1 c1), (5, I x1), (7, I ((a0.length : Int))), (8, I x1), (11, .fn g1 c1), (12, A a0), (13, I x1)] [] ?_
  obtain ⟨v5, hv6, h⟩ := bindS h
  refine opsP_idx τ_ok 14 hv6 (by kernel_rfl) ?_
  refine v 1 19 [(0, A a0), (1, .fn g1 c1), (5, I x1), (7, I ((a0.length : Int))), (8, I x1), (11, .fn g1 c1), (15, E v5)] [] ?_
  obtain ⟨v7, hv8, h⟩ := bindS h
  refine opsP_callF τ 16 (hp1 _ _ hv8) (FzTo.frz rfl) (frz_app (xs := [E v5]) rfl hz1) (by kernel_rfl) ?_
  refine ve 0 19 [(0, A a0), (1, .fn g1 c1), (5, I x1), (7, I ((a0.length : Int))), (8, I x1), (16, B v7)] [] ?_
  refine pc h (fun h => ?_) (fun h => ?_)
  refine srve 19 [(4, I x1)] [] ?_
  cases h
  exact pwp_ret rz
  refine pwp_skip ?_
  refine rve 19 [(0, A a0), (1, .fn g1 c1), (7, I ((a0.length : Int))), (8, I ((w64 (x1 + 1))))] [] ?_
  exact ⟨(f2, (w64 (x1 + 1))), h, Nat.lt_succ_self _, it [0, 1, 7, 8]⟩
  refine pwp_exit ?_
  refine srve 19 [(4, I (-1))] [] ?_
  cases h
  exact pwp_ret rz
def cmp_Or_int_l0 (a0 : List Int) : Nat → Int → Option Int
  | 0, _ => none
  | f2 + 1, x1 => bif (decide (x1 < ((a0.length : Int)))) then (getI a0 x1).bind fun v5 => bif (!(v5 == 0)) then some v5 else (cmp_Or_int_l0 a0 f2) ((w64 (x1 + 1))) else some 0
def cmp_Or_int (a0 : List Int) : Option Int := cmp_Or_int_l0 a0 FUEL 0
theorem ok_cmp_Or_int {a0 : List Int} {y : Int} (h : cmp_Or_int a0 = some y) : OK Try.prog 153 [A a0] (I y) := by
  refine ow Try.func153 fun Γ hX => ?_
  unfold cmp_Or_int at h
  refine srve 18 [(0, A a0)] [] ?_
  refine srve 18 [(0, A a0), (3, I 0)] [] ?_
  refine pwp_seq ?_
  refine srve 18 [(3, I 0), (6, A a0), (7, I ((a0.length : Int))), (8, I 0)] [] ?_
  refine pwp_block ?_
  refine pwp_loop (ι := Nat × Int) (fun (f2, x1) => (⟨18, [(3, I 0), (6, A a0), (7, I ((a0.length : Int))), (8, I x1)], []⟩ : St)) (fun (f2, x1) => cmp_Or_int_l0 a0 f2 x1 = some y) Prod.fst (FUEL, 0) h (it [3, 6, 7, 8]) ?_
  rintro ⟨f2, x1⟩ h
  dsimp only at h ⊢
  rcases f2 with _ | f2
  cases h
  rw [cmp_Or_int_l0] at h
  refine srve 18 [(3, I 0), (6, A a0), (7, I ((a0.length : Int))), (8, I x1), (9, B ((decide (x1 < ((a0.length : Int))))))] [] ?_
  refine pwp_seq ?_
  refine pc h (fun h => ?_) (fun h => ?_)
  refine pwp_skip ?_
  refine pwp_seq ?_
  refine pwp_block ?_
  refine pwp_seq ?_
  refine pwp_region ?_
  obtain ⟨v5, hv6, h⟩ := bindS h
  refine opsP_idx τ_ok 10 hv6 (by kernel_rfl) ?_
  refine ve 2 18 [(3, I 0), (5, I v5), (6, A a0), (7, I ((a0.length : Int))), (8, I x1)] [] ?_
  refine srve 18 [(3, I 0), (5, I v5), (6, A a0), (7, I ((a0.length : Int))), (8, I x1), (14, B ((!(v5 == 0))))] [] ?_
  refine pc h (fun h => ?_) (fun h => ?_)
  refine srve 18 [(2, I v5)] [] ?_
  cases h
  exact pwp_ret rz
  refine pwp_skip ?_
  refine rve 18 [(3, I 0), (6, A a0), (7, I ((a0.length : Int))), (8, I ((w64 (x1 + 1))))] [] ?_
  exact ⟨(f2, (w64 (x1 + 1))), h, Nat.lt_succ_self _, it [3, 6, 7, 8]⟩
  refine pwp_exit ?_
  refine srve 18 [(2, I 0)] [] ?_
  cases h
  exact pwp_ret rz
def slices_IndexFunc_int_int_l0 (a0 : List Int) (a1 : Int → Option Bool) : Nat → Int → Option Int
  | 0, _ => none
  | f2 + 1, x1 => bif (decide (x1 < ((a0.length : Int)))) then (getI a0 x1).bind fun v5 => (a1 v5).bind fun v7 => bif v7 then some x1 else (slices_IndexFunc_int_int_l0 a0 a1 f2) ((w64 (x1 + 1))) else some (-1)
def slices_IndexFunc_int_int (a0 : List Int) (a1 : Int → Option Bool) : Option Int := slices_IndexFunc_int_int_l0 a0 a1 FUEL 0
theorem ok_slices_IndexFunc_int_int {a0 : List Int} {g1 : FuncId} {c1 : List V} (hz1 : frzL c1 = true) {a1 : Int → Option Bool} (hp1 : ∀ x0 y, a1 x0 = some y → OK Try.prog g1 ([I x0] ++ c1) (B y)) {y : Int} (h : slices_IndexFunc_int_int a0 a1 = some y) : OK Try.prog 158 [A a0, .fn g1 c1] (I y) := by
  refine ow Try.func158 fun Γ hX => ?_
  unfold slices_IndexFunc_int_int at h
  refine srve 19 [(0, A a0), (1, .fn g1 c1)] [] ?_
  refine pwp_seq ?_
  refine srve 19 [(0, A a0), (1, .fn g1 c1), (7, I ((a0.length : Int))), (8, I 0)] [] ?_
  refine pwp_block ?_
  refine pwp_loop (ι := Nat × Int) (fun (f2, x1) => (⟨19, [(0, A a0), (1, .fn g1 c1), (7, I ((a0.length : Int))), (8, I x1)], []⟩ : St)) (fun (f2, x1) => slices_IndexFunc_int_int_l0 a0 a1 f2 x1 = some y) Prod.fst (FUEL, 0) h (it [0, 1, 7, 8]) ?_
  rintro ⟨f2, x1⟩ h
  dsimp only at h ⊢
  rcases f2 with _ | f2
  cases h
  rw [slices_IndexFunc_int_int_l0] at h
  refine srve 19 [(0, A a0), (1, .fn g1 c1), (7, I ((a0.length : Int))), (8, I x1), (9, B ((decide (x1 < ((a0.length : Int))))))] [] ?_
  refine pwp_seq ?_
  refine pc h (fun h => ?_) (fun h => ?_)
  refine pwp_skip ?_
  refine pwp_seq ?_
  refine pwp_block ?_
  refine srve 19 [(0, A a0), (1, .fn g1 c1), (5, I x1), (7, I ((a0.length : Int))), (8, I x1)] [] ?_
  refine srv 3 19 [(0, A a0), (1, .fn g1 c1), (5, I x1), (7, I ((a0.length : Int))), (8, I x1), (11, .fn g1 c1), (12, A a0), (13, I x1)] [] ?_
  obtain ⟨v5, hv6, h⟩ := bindS h
  refine opsP_idx τ_ok 14 hv6 (by kernel_rfl) ?_
  refine v 1 19 [(0, A a0), (1, .fn g1 c1), (5, I x1), (7, I ((a0.length : Int))), (8, I x1), (11, .fn g1 c1), (15, I v5)] [] ?_
  obtain ⟨v7, hv8, h⟩ := bindS h
  refine opsP_callF τ 16 (hp1 _ _ hv8) (FzTo.frz rfl) (frz_app (xs := [I v5]) rfl hz1) (by kernel_rfl) ?_
  refine ve 0 19 [(0, A a0), (1, .fn g1 c1), (5, I x1), (7, I ((a0.length : Int))), (8, I x1), (16, B v7)] [] ?_
  refine pc h (fun h => ?_) (fun h => ?_)
  refine srve 19 [(4, I x1)] [] ?_
  cases h
  exact pwp_ret rz
  refine pwp_skip ?_
  refine rve 19 [(0, A a0), (1, .fn g1 c1), (7, I ((a0.length : Int))), (8, I ((w64 (x1 + 1))))] [] ?_
  exact ⟨(f2, (w64 (x1 + 1))), h, Nat.lt_succ_self _, it [0, 1, 7, 8]⟩
  refine pwp_exit ?_
  refine srve 19 [(4, I (-1))] [] ?_
  cases h
  exact pwp_ret rz
def spec_l1Text_j1 (x1 : Int) (K3 : Int → Option Bool) (x5 : Bool) : Option Bool := bif x5 then some false else K3 ((w64 (x1 + 1)))
def spec_l1Text_l0 (a0 : ByteArray) : Nat → Int → Option Bool
  | 0, _ => none
  | f2 + 1, x1 => bif (decide (x1 < ((a0.size : Int)))) then (getB a0 x1).bind fun v7 => bif (decide ((v7.toNat : Int) < 97)) then spec_l1Text_j1 x1 (spec_l1Text_l0 a0 f2) true else (getB a0 x1).bind fun v9 => spec_l1Text_j1 x1 (spec_l1Text_l0 a0 f2) ((decide ((v9.toNat : Int) > 122))) else some ((decide (((a0.size : Int)) ≤ 6)))
def spec_l1Text (a0 : ByteArray) : Option Bool := spec_l1Text_l0 a0 FUEL 0
theorem ok_spec_l1Text {a0 : ByteArray} {y : Bool} (h : spec_l1Text a0 = some y) : OK Try.prog 159 [S a0] (B y) := by
  refine ow Try.func159 fun Γ hX => ?_
  unfold spec_l1Text at h
  refine srve 23 [(0, S a0)] [] ?_
  refine pwp_seq ?_
  refine srve 23 [(0, S a0), (3, I 0)] [] ?_
  refine pwp_block ?_
  refine pwp_loop (ι := Nat × Int) (fun (f2, x1) => (⟨23, [(0, S a0), (3, I x1)], []⟩ : St)) (fun (f2, x1) => spec_l1Text_l0 a0 f2 x1 = some y) Prod.fst (FUEL, 0) h (it [0, 3]) ?_
  rintro ⟨f2, x1⟩ h
  dsimp only at h ⊢
  rcases f2 with _ | f2
  cases h
  rw [spec_l1Text_l0] at h
  refine pwp_seq ?_
  refine srve 23 [(0, S a0), (3, I x1), (7, B ((decide (x1 < ((a0.size : Int))))))] [] ?_
  refine pc h (fun h => ?_) (fun h => ?_)
  refine pwp_skip ?_
  refine pwp_seq ?_
  refine pwp_block ?_
  refine pwp_seq ?_
  refine pwp_join (σ := Bool) (fun x5 => (⟨23, [(0, S a0), (3, I x1), (19, B x5)], []⟩ : St)) (fun x5 => spec_l1Text_j1 x1 (spec_l1Text_l0 a0 f2) x5 = some y) ?_ ?_
  refine rv 2 23 [(0, S a0), (3, I x1), (10, S a0), (11, I x1)] [] ?_
  obtain ⟨v7, hv8, h⟩ := bindS h
  refine opsP_byt τ_ok 12 hv8 (by kernel_rfl) ?_
  refine v 2 23 [(0, S a0), (3, I x1), (14, B ((decide ((v7.toNat : Int) < 97))))] [] ?_
  rcases fk ((decide ((v7.toNat : Int) < 97))) with hc11 | hc11
  replace h := bT hc11 h
  rw [hc11]
  refine ve 5 23 [(0, S a0), (3, I x1), (15, .lit undef), (16, .lit undef), (17, .lit undef), (18, .lit undef), (19, B true)] [] ?_
  exact ⟨true, h, it [0, 3, 19]⟩
  replace h := bF hc11 h
  rw [hc11]
  refine v 2 23 [(0, S a0), (3, I x1), (14, B false), (15, S a0), (16, I x1)] [] ?_
  obtain ⟨v9, hv10, h⟩ := bindS h
  refine opsP_byt τ_ok 17 hv10 (by kernel_rfl) ?_
  refine ve 2 23 [(0, S a0), (3, I x1), (15, S a0), (16, I x1), (17, .lit (.int .u8 (v9).toNat)), (18, B ((decide ((v9.toNat : Int) > 122)))), (19, B ((decide ((v9.toNat : Int) > 122))))] [] ?_
  exact ⟨(decide ((v9.toNat : Int) > 122)), h, it [0, 3, 19]⟩
  rintro x5 h
  unfold spec_l1Text_j1 at h
  refine pc h (fun h => ?_) (fun h => ?_)
  refine srve 23 [(2, B false)] [] ?_
  cases h
  exact pwp_ret rz
  refine pwp_skip ?_
  refine rve 23 [(0, S a0), (3, I ((w64 (x1 + 1))))] [] ?_
  exact ⟨(f2, (w64 (x1 + 1))), h, Nat.lt_succ_self _, it [0, 3]⟩
  refine pwp_exit ?_
  refine srve 23 [(2, B ((decide (((a0.size : Int)) ≤ 6))))] [] ?_
  cases h
  exact pwp_ret rz
def cmp_isNaN_int (a0 : Int) : Option Bool := some ((!(a0 == a0)))
theorem ok_cmp_isNaN_int {a0 : Int} {y : Bool} (h : cmp_isNaN_int a0 = some y) : OK Try.prog 166 [I a0] (B y) := by
  refine ow Try.func166 fun Γ hX => ?_
  unfold cmp_isNaN_int at h
  refine srve 6 [(0, I a0)] [] ?_
  refine srve 6 [(2, B ((!(a0 == a0))))] [] ?_
  cases h
  exact pwp_ret rz
def impl_TruthOk (a0 : Int) : Option Bool := (impl_between a0 0 2).bind fun v1 => some v1
theorem ok_impl_TruthOk {a0 : Int} {y : Bool} (h : impl_TruthOk a0 = some y) : OK Try.prog 168 [I a0] (B y) := by
  refine ow Try.func168 fun Γ hX => ?_
  unfold impl_TruthOk at h
  refine srve 5 [(0, I a0)] [] ?_
  refine srv 1 5 [(3, I a0)] [] ?_
  obtain ⟨v1, hv2, h⟩ := bindS h
  refine cF 4 (ok_impl_between hv2) ?_
  refine ve 1 5 [(2, B v1)] [] ?_
  cases h
  exact pwp_ret rz
def cmp_isNaN_string (a0 : ByteArray) : Option Bool := some ((!(a0.toList == a0.toList)))
theorem ok_cmp_isNaN_string {a0 : ByteArray} {y : Bool} (h : cmp_isNaN_string a0 = some y) : OK Try.prog 171 [S a0] (B y) := by
  refine ow Try.func171 fun Γ hX => ?_
  unfold cmp_isNaN_string at h
  refine srve 6 [(0, S a0)] [] ?_
  refine srve 6 [(2, B ((!(a0.toList == a0.toList))))] [] ?_
  cases h
  exact pwp_ret rz
def laws_sameRows_l0 (a0 : List (List T_impl_Value)) (a1 : List (List T_impl_Value)) : Nat → Int → Option Bool
  | 0, _ => none
  | f3 + 1, x2 => bif (decide (x2 < ((a0.length : Int)))) then (getI a0 x2).bind fun v6 => (getI a1 x2).bind fun v8 => (laws_sameRow v6 v8).bind fun v10 => bif (!v10) then some false else (laws_sameRows_l0 a0 a1 f3) ((w64 (x2 + 1))) else some true
def laws_sameRows (a0 : List (List T_impl_Value)) (a1 : List (List T_impl_Value)) : Option Bool := bif (!(((a0.length : Int)) == ((a1.length : Int)))) then some false else laws_sameRows_l0 a0 a1 FUEL 0
theorem ok_laws_sameRows {a0 : List (List T_impl_Value)} {a1 : List (List T_impl_Value)} {y : Bool} (h : laws_sameRows a0 a1 = some y) : OK Try.prog 12 [A a0, A a1] (B y) := by
  refine ow Try.func12 fun Γ hX => ?_
  unfold laws_sameRows at h
  refine srve 27 [(0, A a0), (1, A a1)] [] ?_
  refine pwp_seq ?_
  refine srve 27 [(0, A a0), (1, A a1), (10, B ((!(((a0.length : Int)) == ((a1.length : Int))))))] [] ?_
  refine pc h (fun h => ?_) (fun h => ?_)
  refine srve 27 [(4, B false)] [] ?_
  cases h
  exact pwp_ret rz
  refine pwp_skip ?_
  refine pwp_seq ?_
  refine srve 27 [(0, A a0), (1, A a1), (5, I 0)] [] ?_
  refine pwp_block ?_
  refine pwp_loop (ι := Nat × Int) (fun (f3, x2) => (⟨27, [(0, A a0), (1, A a1), (5, I x2)], []⟩ : St)) (fun (f3, x2) => laws_sameRows_l0 a0 a1 f3 x2 = some y) Prod.fst (FUEL, 0) h (it [0, 1, 5]) ?_
  rintro ⟨f3, x2⟩ h
  dsimp only at h ⊢
  rcases f3 with _ | f3
  cases h
  rw [laws_sameRows_l0] at h
  refine pwp_seq ?_
  refine srve 27 [(0, A a0), (1, A a1), (5, I x2), (14, B ((decide (x2 < ((a0.length : Int))))))] [] ?_
  refine pc h (fun h => ?_) (fun h => ?_)
  refine pwp_skip ?_
  refine pwp_seq ?_
  refine pwp_block ?_
  refine pwp_seq ?_
  refine ip 27 [(0, A a0), (1, A a1), (5, I x2)] [] ?_
  refine pN 10 ?_
  refine qv [] trivial 2 27 [(18, I x2), (17, A a0), (0, A a0), (1, A a1), (5, I x2)] [] ?_
  obtain ⟨v6, hv7, h⟩ := bindS h
  refine qX (some 19) (pf v6 0) 27 [(19, pf v6 0), (0, A a0), (1, A a1), (5, I x2)] [] (fun Γ' hΓ => CoreE.of_y (idxV_sound τ_ok (by kernel_rfl) hv7)) trivial ?_
  refine qv [] trivial 3 27 [(22, I x2), (21, A a1), (20, A v6), (0, A a0), (1, A a1), (5, I x2)] [] ?_
  obtain ⟨v8, hv9, h⟩ := bindS h
  refine qX (some 23) (pf v8 0) 27 [(23, pf v8 0), (20, A v6), (0, A a0), (1, A a1), (5, I x2)] [] (fun Γ' hΓ => CoreE.of_y (idxV_sound τ_ok (by kernel_rfl) hv9)) trivial ?_
  refine qv [] trivial 1 27 [(24, A v8), (20, A v6), (0, A a0), (1, A a1), (5, I x2)] [] ?_
  obtain ⟨v10, hv11, h⟩ := bindS h
  refine qX (some 25) (B v10) 27 [(25, B v10), (0, A a0), (1, A a1), (5, I x2)] [] (fun Γ' hΓ => CoreE.of_g (callV_sound (τ := τ) (by kernel_rfl) rfl (ok_laws_sameRow hv11) (FzTo.frz rfl))) trivial ?_
  refine qvn [] trivial 1 27 [(0, A a0), (1, A a1), (5, I x2), (26, B ((!v10)))] [] ?_
  refine pc h (fun h => ?_) (fun h => ?_)
  refine srve 27 [(4, B false)] [] ?_
  cases h
  exact pwp_ret rz
  refine pwp_skip ?_
  refine rve 27 [(0, A a0), (1, A a1), (5, I ((w64 (x2 + 1))))] [] ?_
  exact ⟨(f3, (w64 (x2 + 1))), h, Nat.lt_succ_self _, it [0, 1, 5]⟩
  refine pwp_exit ?_
  refine srve 27 [(4, B true)] [] ?_
  cases h
  exact pwp_ret rz
def spec_LeftColumns_j0 (v5 : List T_impl_Column) (x7 : Bool) : Option (List T_impl_Column) := bif x7 then some (([] : List T_impl_Column)) else some v5
def spec_LeftColumns (a0 : List T_impl_Column) (a1 : List T_impl_Column) : Option (List T_impl_Column) := (app (([] : List T_impl_Column)) a0).bind fun v1 => (spec_l24Empty a1).bind fun v3 => (app v1 v3).bind fun v5 => (spec_ColumnsOk a0).bind fun v9 => bif (!v9) then spec_LeftColumns_j0 v5 true else (spec_ColumnsOk a1).bind fun v11 => bif (!v11) then spec_LeftColumns_j0 v5 true else spec_LeftColumns_j0 v5 ((decide (((v5.length : Int)) > 4)))
theorem ok_spec_LeftColumns {a0 : List T_impl_Column} {a1 : List T_impl_Column} {y : List T_impl_Column} (h : spec_LeftColumns a0 a1 = some y) : OK Try.prog 30 [A a0, A a1] (O y) := by
  refine ow Try.func30 fun Γ hX => ?_
  unfold spec_LeftColumns at h
  refine srve 27 [(0, A a0), (1, A a1)] [] ?_
  refine srv 2 27 [(0, A a0), (1, A a1), (6, .arr 2 0 (eL ([] : List T_impl_Column)) true), (7, A a0)] [] ?_
  refine opsP_thaw 6 2 (by kernel_rfl) ?_
  obtain ⟨v1, hv2, h⟩ := bindS h
  refine opsP_app τ_ok 8 0 0 (nx hX) hv2 (by kernel_rfl) ?_
  refine v 1 27 [(0, A a0), (1, A a1), (8, rf 0 1 2 v1), (9, A a1)] [sl 1 v1] ?_
  obtain ⟨v3, hv4, h⟩ := bindS h
  refine cFo 10 (ok_spec_l24Empty hv4) ?_
  obtain ⟨v5, hv6, h⟩ := bindS h
  refine opsP_app τ_ok 11 0 1 (nx hX) hv6 (by kernel_rfl) ?_
  refine ve 1 27 [(0, A a0), (1, A a1), (5, rf 0 2 2 v5)] [sl 2 v5] ?_
  refine pwp_seq ?_
  refine pwp_seq ?_
  refine pwp_join (σ := Bool) (fun x7 => (⟨27, [(5, rf 0 0 2 v5), (24, B x7)], [sl 0 v5]⟩ : St)) (fun x7 => spec_LeftColumns_j0 v5 x7 = some y) ?_ ?_
  refine rv 1 27 [(1, A a1), (5, rf 0 2 2 v5), (12, A a0)] [sl 2 v5] ?_
  obtain ⟨v9, hv10, h⟩ := bindS h
  refine cF 13 (ok_spec_ColumnsOk hv10) ?_
  refine v 2 27 [(1, A a1), (5, rf 0 2 2 v5), (15, B ((!v9)))] [sl 2 v5] ?_
  rcases fk ((!v9)) with hc14 | hc14
  replace h := bT hc14 h
  rw [hc14]
  refine ve 9 27 [(5, rf 0 2 2 v5), (24, B true)] [sl 2 v5] ?_
  exact ⟨true, h, (it (st' := ⟨27, [(5, rf 0 2 2 v5), (24, B true)], [sl 2 v5]⟩) [5, 24]).trans (Imp.reverS 0 2 (eL v5) [5, 24] (by kernel_rfl) (by exact (And.intro (eL_frz _) trivial)) (by kernel_rfl))⟩
  replace h := bF hc14 h
  rw [hc14]
  refine v 1 27 [(5, rf 0 2 2 v5), (15, B false), (16, A a1)] [sl 2 v5] ?_
  obtain ⟨v11, hv12, h⟩ := bindS h
  refine cF 17 (ok_spec_ColumnsOk hv12) ?_
  refine v 3 27 [(5, rf 0 2 2 v5), (20, B ((!v11)))] [sl 2 v5] ?_
  rcases fk ((!v11)) with hc13 | hc13
  replace h := bT hc13 h
  rw [hc13]
  refine ve 4 27 [(5, rf 0 2 2 v5), (24, B true)] [sl 2 v5] ?_
  exact ⟨true, h, (it (st' := ⟨27, [(5, rf 0 2 2 v5), (24, B true)], [sl 2 v5]⟩) [5, 24]).trans (Imp.reverS 0 2 (eL v5) [5, 24] (by kernel_rfl) (by exact (And.intro (eL_frz _) trivial)) (by kernel_rfl))⟩
  replace h := bF hc13 h
  rw [hc13]
  refine ve 4 27 [(5, rf 0 2 2 v5), (24, B ((decide (((v5.length : Int)) > 4))))] [sl 2 v5] ?_
  exact ⟨(decide (((v5.length : Int)) > 4)), h, (it (st' := ⟨27, [(5, rf 0 2 2 v5), (24, B ((decide (((v5.length : Int)) > 4))))], [sl 2 v5]⟩) [5, 24]).trans (Imp.reverS 0 2 (eL v5) [5, 24] (by kernel_rfl) (by exact (And.intro (eL_frz _) trivial)) (by kernel_rfl))⟩
  rintro x7 h
  unfold spec_LeftColumns_j0 at h
  refine pc h (fun h => ?_) (fun h => ?_)
  refine srve 27 [(4, .arr 2 0 (eL ([] : List T_impl_Column)) true)] [sl 0 v5] ?_
  refine ip 27 [(4, .arr 2 0 (eL ([] : List T_impl_Column)) true)] [sl 0 v5] ?_
  refine pwp_imp (Imp.thawS (st' := ⟨27, [(4, .ref 1 0 0 2 (([] : List T_impl_Column)).length false)], [sl 0 v5, some ⟨0, eL (([] : List T_impl_Column))⟩]⟩) 4 [4] (by kernel_rfl)) ?_
  have h := si h
  subst h
  exact pwp_ret (rt (.ref 1 0 0 2 (([] : List T_impl_Column)).length false) (OutP.list (v := 0) (by kernel_rfl)))
  refine pwp_skip ?_
  refine srve 27 [(4, rf 0 0 2 v5)] [sl 0 v5] ?_
  have h := si h
  subst h
  exact pwp_ret (rt (rf 0 0 2 v5) (OutP.list (v := 0) (by kernel_rfl)))
def impl_clone_impl_Column (a0 : List T_impl_Column) : Option (List T_impl_Column) := bif (((a0.length : Int)) == 0) then some (([] : List T_impl_Column)) else (app [] a0).bind fun v2 => (slices_Clip_impl_Column_impl_Column v2).bind fun v4 => some v4
theorem ok_impl_clone_impl_Column {a0 : List T_impl_Column} {y : List T_impl_Column} (h : impl_clone_impl_Column a0 = some y) : OK Try.prog 32 [A a0] (A y) := by
  refine ow Try.func32 fun Γ hX => ?_
  unfold impl_clone_impl_Column at h
  refine srve 9 [(0, A a0)] [] ?_
  refine pwp_seq ?_
  refine srve 9 [(0, A a0), (5, B ((((a0.length : Int)) == 0)))] [] ?_
  refine pc h (fun h => ?_) (fun h => ?_)
  refine srve 9 [(2, .arr 2 0 (eL ([] : List T_impl_Column)) true)] [] ?_
  refine ip 9 [(2, .arr 2 0 (eL ([] : List T_impl_Column)) true)] [] ?_
  refine pwp_imp (Imp.unfS (st' := ⟨9, [(2, A (([] : List T_impl_Column)))], []⟩) 2 [2] (by kernel_rfl)) ?_
  cases h
  exact pwp_ret rz
  refine pwp_skip ?_
  refine srv 1 9 [(6, A a0)] [] ?_
  obtain ⟨v2, hv3, h⟩ := bindS h
  refine opsP_apn τ_ok 7 0 (nx hX) hv3 (by kernel_rfl) ?_
  refine v 0 9 [(7, rf 0 1 2 v2)] [sl 1 v2] ?_
  refine opsP_imp ((Imp.freezeB (v := 1) (cs := eL v2) (st' := ⟨9, [(7, A v2)], [none]⟩) 0 1 (nx hX) (by kernel_rfl) (eL_frz _) (wholeC (whole_is (eL_len v2).symm) wholeC0) (HpRel.key HpRel.nil) (by kernel_rfl) rfl (nx hX))) ?_
  obtain ⟨v4, hv5, h⟩ := bindS h
  refine cF 8 (ok_slices_Clip_impl_Column_impl_Column hv5) ?_
  refine ve 1 9 [(2, A v4)] [none] ?_
  cases h
  exact pwp_ret rz
def impl_Part_find_j1 (x11 : Bool) : Option T_impl_must := some ((T_impl_must.mk x11 x11 x11))
def impl_Part_find_j4 (x19 : Bool) (x22 : Bool) (x23 : Bool) : Option T_impl_must := some ({ ((T_impl_must.mk false x19 x22)) with fNone := x23 })
def impl_Part_find_j3 (x19 : Bool) (x22 : Bool) : Option T_impl_must := bif (T_impl_must.mk false x19 x22).fNotTrue then impl_Part_find_j4 x19 x22 ((T_impl_must.mk false x19 x22).fNotFalse) else impl_Part_find_j4 x19 x22 false
def impl_Part_find_j2 (a1 : List T_impl_must) (x19 : Bool) : Option T_impl_must := (getI a1 0).bind fun v20 => bif v20.fNotFalse then (getI a1 1).bind fun v27 => impl_Part_find_j3 x19 v27.fNotFalse else impl_Part_find_j3 x19 false
def impl_Part_find_j7 (x37 : Bool) (x40 : Bool) (x41 : Bool) : Option T_impl_must := some ({ ((T_impl_must.mk false x37 x40)) with fNone := x41 })
def impl_Part_find_j6 (x37 : Bool) (x40 : Bool) : Option T_impl_must := bif (T_impl_must.mk false x37 x40).fNotTrue then impl_Part_find_j7 x37 x40 ((T_impl_must.mk false x37 x40).fNotFalse) else impl_Part_find_j7 x37 x40 false
def impl_Part_find_j5 (a1 : List T_impl_must) (x37 : Bool) : Option T_impl_must := (getI a1 0).bind fun v38 => bif v38.fNotFalse then impl_Part_find_j6 x37 true else (getI a1 1).bind fun v45 => impl_Part_find_j6 x37 v45.fNotFalse
def impl_Part_find_j0 (a0 : T_impl_Part) (a1 : List T_impl_must) (x7 : Bool) : Option T_impl_must := bif x7 then (getI a1 0).bind fun v9 => bif v9.fNone then impl_Part_find_j1 true else (getI a1 1).bind fun v13 => impl_Part_find_j1 v13.fNone else bif (a0.fKind == 5) then (getI a1 0).bind fun v17 => bif v17.fNotTrue then impl_Part_find_j2 a1 true else (getI a1 1).bind fun v31 => impl_Part_find_j2 a1 v31.fNotTrue else bif (a0.fKind == 6) then (getI a1 0).bind fun v35 => bif v35.fNotTrue then (getI a1 1).bind fun v49 => impl_Part_find_j5 a1 v49.fNotTrue else impl_Part_find_j5 a1 false else bif (a0.fKind == 7) then (getI a1 0).bind fun v53 => (getI a1 0).bind fun v55 => (getI a1 0).bind fun v57 => some ((T_impl_must.mk v53.fNone v55.fNotFalse v57.fNotTrue)) else (getI a1 0).bind fun v59 => some ((T_impl_must.mk false false v59.fNone))
def impl_Part_find (a0 : T_impl_Part) (a1 : List T_impl_must) (a2 : Int) : Option T_impl_must := bif (a0.fKind == 1) then (impl_ValueOf 0).bind fun v2 => (impl_ValueOf 1).bind fun v4 => some ((T_impl_must.mk false ((eq_T_impl_Value a0.fV v2)) ((eq_T_impl_Value a0.fV v4)))) else bif (a0.fKind == 2) then some ((T_impl_must.mk ((decide (a0.fN ≥ a2))) ((decide (a0.fN ≥ a2))) ((decide (a0.fN ≥ a2))))) else bif (a0.fKind == 3) then impl_Part_find_j0 a0 a1 ((a0.fKind == 3)) else impl_Part_find_j0 a0 a1 ((a0.fKind == 4))
theorem ok_impl_Part_find {a0 : T_impl_Part} {a1 : List T_impl_must} {a2 : Int} {y : T_impl_must} (h : impl_Part_find a0 a1 a2 = some y) : OK Try.prog 35 [E a0, A a1, I a2] (E y) := by
  refine ow Try.func35 fun Γ hX => ?_
  unfold impl_Part_find at h
  refine srveM [6, 8, 9] 137 [(1, A a1), (2, I a2), (3, pf a0 0), (6, .ptr 0 0 0)] [some ⟨0, Enc.cells ((T_impl_must.mk false false false))⟩] ?_
  refine pwp_seq ?_
  refine srveM [6, 8, 9] 137 [(1, A a1), (2, I a2), (3, pf a0 0), (6, .ptr 0 0 0), (11, I a0.fKind)] [some ⟨0, Enc.cells ((T_impl_must.mk false false false))⟩] ?_
  refine pwp_block ?_
  refine srveM [6, 8, 9] 137 [(1, A a1), (2, I a2), (3, pf a0 0), (6, .ptr 0 0 0), (11, I a0.fKind), (12, B ((a0.fKind == 1)))] [some ⟨0, Enc.cells ((T_impl_must.mk false false false))⟩] ?_
  refine pc h (fun h => ?_) (fun h => ?_)
  refine pwp_seq ?_
  refine ip 137 [(3, pf a0 0), (6, .ptr 0 0 0)] [some ⟨0, Enc.cells ((T_impl_must.mk false false false))⟩] ?_
  refine pwp_any ([[], [], [], [], [], [], [], [], [], [0]]) ([[], [], [], [], [], [], [], [], [], [0]]) rfl (by kernel_rfl) ?_
  refine qvM [6, 8, 9] [] trivial 2 137 [(15, E a0.fV), (3, pf a0 0), (6, .ptr 0 0 0)] [some ⟨0, Enc.cells ((T_impl_must.mk false false false))⟩] ?_
  obtain ⟨v2, hv3, h⟩ := bindS h
  refine qX (some 16) (E v2) 137 [(16, E v2), (15, E a0.fV), (3, pf a0 0), (6, .ptr 0 0 0)] [some ⟨0, Enc.cells ((T_impl_must.mk false false false))⟩] (fun Γ' hΓ => CoreE.of_g (callV_sound (τ := τ) (by kernel_rfl) rfl (ok_impl_ValueOf hv3) (FzTo.frz rfl))) trivial ?_
  refine qvM [6, 8, 9] [] trivial 3 137 [(19, E a0.fV), (17, B ((eq_T_impl_Value a0.fV v2))), (6, .ptr 0 0 0)] [some ⟨0, Enc.cells ((T_impl_must.mk false false false))⟩] ?_
  obtain ⟨v4, hv5, h⟩ := bindS h
  refine qX (some 20) (E v4) 137 [(20, E v4), (19, E a0.fV), (17, B ((eq_T_impl_Value a0.fV v2))), (6, .ptr 0 0 0)] [some ⟨0, Enc.cells ((T_impl_must.mk false false false))⟩] (fun Γ' hΓ => CoreE.of_g (callV_sound (τ := τ) (by kernel_rfl) rfl (ok_impl_ValueOf hv5) (FzTo.frz rfl))) trivial ?_
  refine qvM [6, 8, 9] [] trivial 2 137 [(22, E ((T_impl_must.mk false ((eq_T_impl_Value a0.fV v2)) ((eq_T_impl_Value a0.fV v4))))), (6, .ptr 0 0 0)] [some ⟨0, Enc.cells ((T_impl_must.mk false false false))⟩] ?_
  refine qX (Hm' := [some ⟨0, Enc.cells ((T_impl_must.mk false ((eq_T_impl_Value a0.fV v2)) ((eq_T_impl_Value a0.fV v4))))⟩]) none (.any) 137 [(6, .ptr 0 0 0)] [some ⟨0, Enc.cells ((T_impl_must.mk false ((eq_T_impl_Value a0.fV v2)) ((eq_T_impl_Value a0.fV v4))))⟩] (fun Γ' hΓ => sto_E τ_ok 0 0 (by kernel_rfl)) (hB trivial) ?_
  refine qn 137 [(6, .ptr 0 0 0)] [some ⟨0, Enc.cells ((T_impl_must.mk false ((eq_T_impl_Value a0.fV v2)) ((eq_T_impl_Value a0.fV v4))))⟩] ?_
  cases h
  exact pwp_ret rz
  refine srveM [6, 8, 9] 137 [(1, A a1), (2, I a2), (3, pf a0 0), (6, .ptr 0 0 0), (11, I a0.fKind), (23, B ((a0.fKind == 2)))] [some ⟨0, Enc.cells ((T_impl_must.mk false false false))⟩] ?_
  refine pc h (fun h => ?_) (fun h => ?_)
  refine srveM [6, 8, 9] 137 [(6, .ptr 0 0 0)] [some ⟨0, Enc.cells ((T_impl_must.mk ((decide (a0.fN ≥ a2))) ((decide (a0.fN ≥ a2))) ((decide (a0.fN ≥ a2)))))⟩] ?_
  cases h
  exact pwp_ret rz
  refine pwp_seq ?_
  refine pwp_join (σ := Bool) (fun x7 => (⟨137, [(1, A a1), (6, .ptr 0 0 0), (11, I a0.fKind), (38, B x7)], [some ⟨0, Enc.cells ((T_impl_must.mk false false false))⟩]⟩ : St)) (fun x7 => impl_Part_find_j0 a0 a1 x7 = some y) ?_ ?_
  refine srveM [6, 8, 9] 137 [(1, A a1), (6, .ptr 0 0 0), (11, I a0.fKind), (38, B ((a0.fKind == 3)))] [some ⟨0, Enc.cells ((T_impl_must.mk false false false))⟩] ?_
  refine pc h (fun h => ?_) (fun h => ?_)
  refine pwp_skip ?_
  exact ⟨(a0.fKind == 3), h, it [1, 6, 11, 38]⟩
  refine rveM [6, 8, 9] 137 [(1, A a1), (6, .ptr 0 0 0), (11, I a0.fKind), (38, B ((a0.fKind == 4)))] [some ⟨0, Enc.cells ((T_impl_must.mk false false false))⟩] ?_
  exact ⟨(a0.fKind == 4), h, it [1, 6, 11, 38]⟩
  rintro x7 h
  unfold impl_Part_find_j0 at h
  refine pc h (fun h => ?_) (fun h => ?_)
  refine srvM [6, 8, 9] 1 137 [(1, A a1), (6, .ptr 0 0 0), (41, A a1)] [some ⟨0, Enc.cells ((T_impl_must.mk false false false))⟩] ?_
  obtain ⟨v9, hv10, h⟩ := bindS h
  refine opsP_idx τ_ok 42 hv10 (by kernel_rfl) ?_
  refine vM [6, 8, 9] 3 137 [(1, A a1), (6, .ptr 0 0 0), (45, B v9.fNone)] [some ⟨0, Enc.cells ((T_impl_must.mk false false false))⟩] ?_
  refine opsP_join (σ := Bool) 10 (fun x11 => (⟨137, [(6, .ptr 0 0 0), (50, B x11)], [some ⟨0, Enc.cells ((T_impl_must.mk false false false))⟩]⟩ : St)) (fun x11 => impl_Part_find_j1 x11 = some y) (fun J12 => ?_) ?_
  rcases Bool.eq_false_or_eq_true v9.fNone with hc15 | hc15
  replace h := bT hc15 h
  rw [hc15]
  refine vM [6, 8, 9] 5 137 [(6, .ptr 0 0 0), (50, B true)] [some ⟨0, Enc.cells ((T_impl_must.mk false false false))⟩] ?_
  exact opsP_imp (it [6, 50]) (J12 true h)
  replace h := bF hc15 h
  rw [hc15]
  refine vM [6, 8, 9] 1 137 [(6, .ptr 0 0 0), (45, B false), (46, A a1)] [some ⟨0, Enc.cells ((T_impl_must.mk false false false))⟩] ?_
  obtain ⟨v13, hv14, h⟩ := bindS h
  refine opsP_idx τ_ok 47 hv14 (by kernel_rfl) ?_
  refine vM [6, 8, 9] 3 137 [(6, .ptr 0 0 0), (50, B v13.fNone)] [some ⟨0, Enc.cells ((T_impl_must.mk false false false))⟩] ?_
  exact opsP_imp (it [6, 50]) (J12 v13.fNone h)
  rintro x11 h
  unfold impl_Part_find_j1 at h
  refine veM [6, 8, 9] 1 137 [(6, .ptr 0 0 0), (7, B x11)] [some ⟨0, Enc.cells ((T_impl_must.mk false false false))⟩] ?_
  refine srveM [6, 8, 9] 137 [(6, .ptr 0 0 0)] [some ⟨0, Enc.cells ((T_impl_must.mk x11 x11 x11))⟩] ?_
  cases h
  exact pwp_ret rz
  refine srveM [6, 8, 9] 137 [(1, A a1), (6, .ptr 0 0 0), (11, I a0.fKind), (55, B ((a0.fKind == 5)))] [some ⟨0, Enc.cells ((T_impl_must.mk false false false))⟩] ?_
  refine pc h (fun h => ?_) (fun h => ?_)
  refine pwp_seq ?_
  refine ip 137 [(1, A a1), (6, .ptr 0 0 0)] [some ⟨0, Enc.cells ((T_impl_must.mk false false false))⟩] ?_
  refine pwp_imp (Imp.ghosts 1 (st' := ⟨137, [(1, A a1), (6, .ptr 0 0 0)], [some ⟨0, Enc.cells ((T_impl_must.mk false false false))⟩, some ⟨0, []⟩]⟩) (by kernel_rfl)) ?_
  refine pwp_any ([[], [], [], [], [], [], [], [], [], [], [], [], [], [], [], [], [], [], [], [], [], [1], [1]]) ([[], [], [], [], [], [], [], [], [], [], [], [], [], [], [], [], [], [], [], [], [], [1], [1]]) rfl (by kernel_rfl) ?_
  refine qvM [6, 8, 9] [] trivial 1 137 [(57, A a1), (1, A a1), (6, .ptr 0 0 0)] [some ⟨0, Enc.cells ((T_impl_must.mk false false false))⟩, some ⟨0, []⟩] ?_
  obtain ⟨v17, hv18, h⟩ := bindS h
  refine qX (some 58) (pf v17 0) 137 [(58, pf v17 0), (1, A a1), (6, .ptr 0 0 0)] [some ⟨0, Enc.cells ((T_impl_must.mk false false false))⟩, some ⟨0, []⟩] (fun Γ' hΓ => CoreE.of_y (idxV_sound τ_ok (by kernel_rfl) hv18)) trivial ?_
  refine qvM [6, 8, 9] [] trivial 3 137 [(61, B v17.fNotTrue), (1, A a1), (6, .ptr 0 0 0)] [some ⟨0, Enc.cells ((T_impl_must.mk false false false))⟩, some ⟨0, []⟩] ?_
  refine qA_join (σ := Bool) 10 13 (fun x19 => (⟨137, [(66, B x19), (1, A a1), (6, .ptr 0 0 0)], [some ⟨0, Enc.cells ((T_impl_must.mk false false false))⟩, some ⟨0, []⟩]⟩ : St)) (fun x19 => impl_Part_find_j2 a1 x19 = some y) (fun J30 => ?_) ?_
  rcases Bool.eq_false_or_eq_true v17.fNotTrue with hc33 | hc33
  replace h := bT hc33 h
  rw [hc33]
  refine qvM [6, 8, 9] [] trivial 5 137 [(66, B true), (1, A a1), (6, .ptr 0 0 0)] [some ⟨0, Enc.cells ((T_impl_must.mk false false false))⟩, some ⟨0, []⟩] ?_
  exact J30 true h
  replace h := bF hc33 h
  rw [hc33]
  refine qvM [6, 8, 9] [] trivial 1 137 [(62, A a1), (61, B false), (1, A a1), (6, .ptr 0 0 0)] [some ⟨0, Enc.cells ((T_impl_must.mk false false false))⟩, some ⟨0, []⟩] ?_
  obtain ⟨v31, hv32, h⟩ := bindS h
  refine qX (some 63) (pf v31 0) 137 [(63, pf v31 0), (61, B false), (1, A a1), (6, .ptr 0 0 0)] [some ⟨0, Enc.cells ((T_impl_must.mk false false false))⟩, some ⟨0, []⟩] (fun Γ' hΓ => CoreE.of_y (idxV_sound τ_ok (by kernel_rfl) hv32)) trivial ?_
  refine qvM [6, 8, 9] [] trivial 3 137 [(66, B v31.fNotTrue), (1, A a1), (6, .ptr 0 0 0)] [some ⟨0, Enc.cells ((T_impl_must.mk false false false))⟩, some ⟨0, []⟩] ?_
  exact J30 v31.fNotTrue h
  rintro x19 h
  unfold impl_Part_find_j2 at h
  refine qvM [6, 8, 9] [] trivial 1 137 [(67, A a1), (66, B x19), (1, A a1), (6, .ptr 0 0 0)] [some ⟨0, Enc.cells ((T_impl_must.mk false false false))⟩, some ⟨0, []⟩] ?_
  obtain ⟨v20, hv21, h⟩ := bindS h
  refine qX (some 68) (pf v20 0) 137 [(68, pf v20 0), (66, B x19), (1, A a1), (6, .ptr 0 0 0)] [some ⟨0, Enc.cells ((T_impl_must.mk false false false))⟩, some ⟨0, []⟩] (fun Γ' hΓ => CoreE.of_y (idxV_sound τ_ok (by kernel_rfl) hv21)) trivial ?_
  refine qvM [6, 8, 9] [] trivial 3 137 [(71, B v20.fNotFalse), (66, B x19), (1, A a1), (6, .ptr 0 0 0)] [some ⟨0, Enc.cells ((T_impl_must.mk false false false))⟩, some ⟨0, []⟩] ?_
  refine qA_join (σ := Bool) 20 3 (fun x22 => (⟨137, [(76, B x22), (66, B x19), (6, .ptr 0 0 0)], [some ⟨0, Enc.cells ((T_impl_must.mk false false false))⟩, some ⟨0, []⟩]⟩ : St)) (fun x22 => impl_Part_find_j3 x19 x22 = some y) (fun J26 => ?_) ?_
  rcases Bool.eq_false_or_eq_true v20.fNotFalse with hc29 | hc29
  replace h := bT hc29 h
  rw [hc29]
  refine qvM [6, 8, 9] [] trivial 1 137 [(72, A a1), (71, B true), (66, B x19), (6, .ptr 0 0 0)] [some ⟨0, Enc.cells ((T_impl_must.mk false false false))⟩, some ⟨0, []⟩] ?_
  obtain ⟨v27, hv28, h⟩ := bindS h
  refine qX (some 73) (pf v27 0) 137 [(73, pf v27 0), (71, B true), (66, B x19), (6, .ptr 0 0 0)] [some ⟨0, Enc.cells ((T_impl_must.mk false false false))⟩, some ⟨0, []⟩] (fun Γ' hΓ => CoreE.of_y (idxV_sound τ_ok (by kernel_rfl) hv28)) trivial ?_
  refine qvM [6, 8, 9] [] trivial 3 137 [(76, B v27.fNotFalse), (66, B x19), (6, .ptr 0 0 0)] [some ⟨0, Enc.cells ((T_impl_must.mk false false false))⟩, some ⟨0, []⟩] ?_
  exact J26 v27.fNotFalse h
  replace h := bF hc29 h
  rw [hc29]
  refine qvM [6, 8, 9] [] trivial 5 137 [(76, B false), (66, B x19), (6, .ptr 0 0 0)] [some ⟨0, Enc.cells ((T_impl_must.mk false false false))⟩, some ⟨0, []⟩] ?_
  exact J26 false h
  rintro x22 h
  unfold impl_Part_find_j3 at h
  refine qvM [6, 8, 9] [] trivial 1 137 [(77, E ((T_impl_must.mk false x19 x22))), (6, .ptr 0 0 0)] [some ⟨0, Enc.cells ((T_impl_must.mk false false false))⟩, some ⟨0, []⟩] ?_
  refine qX (Hm' := [none, some ⟨1, Enc.cells ((T_impl_must.mk false false false))⟩]) (some 8) (.ptr 1 1 0) 137 [(8, .ptr 1 1 0), (77, E ((T_impl_must.mk false x19 x22))), (6, .ptr 0 0 0)] [some ⟨0, Enc.cells ((T_impl_must.mk false false false))⟩, some ⟨1, Enc.cells ((T_impl_must.mk false false false))⟩] (fun Γ' hΓ => alc_E (blk := ⟨0, []⟩) τ_ok [6, 8, 9] 8 1 0 (ny hΓ hX) (by kernel_rfl) (by kernel_rfl)) (hB trivial) ?_
  refine qX (Hm' := [none, some ⟨1, Enc.cells ((T_impl_must.mk false x19 x22))⟩]) none (.any) 137 [(8, .ptr 1 1 0), (6, .ptr 0 0 0)] [some ⟨0, Enc.cells ((T_impl_must.mk false false false))⟩, some ⟨1, Enc.cells ((T_impl_must.mk false x19 x22))⟩] (fun Γ' hΓ => sto_E τ_ok 1 1 (by kernel_rfl)) (hB trivial) ?_
  refine qn 137 [(6, .ptr 0 0 0), (8, .ptr 1 1 0)] [some ⟨0, Enc.cells ((T_impl_must.mk false false false))⟩, some ⟨1, Enc.cells ((T_impl_must.mk false x19 x22))⟩] ?_
  refine srvM [6, 8, 9] 3 137 [(6, .ptr 0 0 0), (8, .ptr 1 1 0), (80, B ((T_impl_must.mk false x19 x22).fNotTrue))] [some ⟨0, Enc.cells ((T_impl_must.mk false false false))⟩, some ⟨1, Enc.cells ((T_impl_must.mk false x19 x22))⟩] ?_
  refine opsP_join (σ := Bool) 6 (fun x23 => (⟨137, [(6, .ptr 0 0 0), (8, .ptr 1 1 0), (83, B x23)], [some ⟨0, Enc.cells ((T_impl_must.mk false false false))⟩, some ⟨1, Enc.cells ((T_impl_must.mk false x19 x22))⟩]⟩ : St)) (fun x23 => impl_Part_find_j4 x19 x22 x23 = some y) (fun J24 => ?_) ?_
  rcases fk ((T_impl_must.mk false x19 x22).fNotTrue) with hc25 | hc25
  replace h := bT hc25 h
  rw [hc25]
  refine vM [6, 8, 9] 3 137 [(6, .ptr 0 0 0), (8, .ptr 1 1 0), (83, B ((T_impl_must.mk false x19 x22).fNotFalse))] [some ⟨0, Enc.cells ((T_impl_must.mk false false false))⟩, some ⟨1, Enc.cells ((T_impl_must.mk false x19 x22))⟩] ?_
  exact opsP_imp (it [6, 8, 83]) (J24 ((T_impl_must.mk false x19 x22).fNotFalse) h)
  replace h := bF hc25 h
  rw [hc25]
  refine vM [6, 8, 9] 3 137 [(6, .ptr 0 0 0), (8, .ptr 1 1 0), (83, B false)] [some ⟨0, Enc.cells ((T_impl_must.mk false false false))⟩, some ⟨1, Enc.cells ((T_impl_must.mk false x19 x22))⟩] ?_
  exact opsP_imp (it [6, 8, 83]) (J24 false h)
  rintro x23 h
  unfold impl_Part_find_j4 at h
  refine veM [6, 8, 9] 2 137 [(6, .ptr 0 0 0), (8, .ptr 1 1 0)] [some ⟨0, Enc.cells ((T_impl_must.mk false false false))⟩, some ⟨1, Enc.cells ({ ((T_impl_must.mk false x19 x22)) with fNone := x23 })⟩] ?_
  refine srveM [6, 8, 9] 137 [(6, .ptr 0 0 0)] [some ⟨0, Enc.cells ({ ((T_impl_must.mk false x19 x22)) with fNone := x23 })⟩, some ⟨1, Enc.cells ({ ((T_impl_must.mk false x19 x22)) with fNone := x23 })⟩] ?_
  cases h
  exact pwp_ret rz
  refine srveM [6, 8, 9] 137 [(1, A a1), (6, .ptr 0 0 0), (11, I a0.fKind), (86, B ((a0.fKind == 6)))] [some ⟨0, Enc.cells ((T_impl_must.mk false false false))⟩] ?_
  refine pc h (fun h => ?_) (fun h => ?_)
  refine pwp_seq ?_
  refine ip 137 [(1, A a1), (6, .ptr 0 0 0)] [some ⟨0, Enc.cells ((T_impl_must.mk false false false))⟩] ?_
  refine pwp_imp (Imp.ghosts 1 (st' := ⟨137, [(1, A a1), (6, .ptr 0 0 0)], [some ⟨0, Enc.cells ((T_impl_must.mk false false false))⟩, some ⟨0, []⟩]⟩) (by kernel_rfl)) ?_
  refine pwp_any ([[], [], [], [], [], [], [], [], [], [], [], [], [], [], [], [], [], [], [], [], [], [1], [1]]) ([[], [], [], [], [], [], [], [], [], [], [], [], [], [], [], [], [], [], [], [], [], [1], [1]]) rfl (by kernel_rfl) ?_
  refine qvM [6, 8, 9] [] trivial 1 137 [(88, A a1), (1, A a1), (6, .ptr 0 0 0)] [some ⟨0, Enc.cells ((T_impl_must.mk false false false))⟩, some ⟨0, []⟩] ?_
  obtain ⟨v35, hv36, h⟩ := bindS h
  refine qX (some 89) (pf v35 0) 137 [(89, pf v35 0), (1, A a1), (6, .ptr 0 0 0)] [some ⟨0, Enc.cells ((T_impl_must.mk false false false))⟩, some ⟨0, []⟩] (fun Γ' hΓ => CoreE.of_y (idxV_sound τ_ok (by kernel_rfl) hv36)) trivial ?_
  refine qvM [6, 8, 9] [] trivial 3 137 [(92, B v35.fNotTrue), (1, A a1), (6, .ptr 0 0 0)] [some ⟨0, Enc.cells ((T_impl_must.mk false false false))⟩, some ⟨0, []⟩] ?_
  refine qA_join (σ := Bool) 10 13 (fun x37 => (⟨137, [(97, B x37), (1, A a1), (6, .ptr 0 0 0)], [some ⟨0, Enc.cells ((T_impl_must.mk false false false))⟩, some ⟨0, []⟩]⟩ : St)) (fun x37 => impl_Part_find_j5 a1 x37 = some y) (fun J48 => ?_) ?_
  rcases Bool.eq_false_or_eq_true v35.fNotTrue with hc51 | hc51
  replace h := bT hc51 h
  rw [hc51]
  refine qvM [6, 8, 9] [] trivial 1 137 [(93, A a1), (92, B true), (1, A a1), (6, .ptr 0 0 0)] [some ⟨0, Enc.cells ((T_impl_must.mk false false false))⟩, some ⟨0, []⟩] ?_
  obtain ⟨v49, hv50, h⟩ := bindS h
  refine qX (some 94) (pf v49 0) 137 [(94, pf v49 0), (92, B true), (1, A a1), (6, .ptr 0 0 0)] [some ⟨0, Enc.cells ((T_impl_must.mk false false false))⟩, some ⟨0, []⟩] (fun Γ' hΓ => CoreE.of_y (idxV_sound τ_ok (by kernel_rfl) hv50)) trivial ?_
  refine qvM [6, 8, 9] [] trivial 3 137 [(97, B v49.fNotTrue), (1, A a1), (6, .ptr 0 0 0)] [some ⟨0, Enc.cells ((T_impl_must.mk false false false))⟩, some ⟨0, []⟩] ?_
  exact J48 v49.fNotTrue h
  replace h := bF hc51 h
  rw [hc51]
  refine qvM [6, 8, 9] [] trivial 5 137 [(97, B false), (1, A a1), (6, .ptr 0 0 0)] [some ⟨0, Enc.cells ((T_impl_must.mk false false false))⟩, some ⟨0, []⟩] ?_
  exact J48 false h
  rintro x37 h
  unfold impl_Part_find_j5 at h
  refine qvM [6, 8, 9] [] trivial 1 137 [(98, A a1), (97, B x37), (1, A a1), (6, .ptr 0 0 0)] [some ⟨0, Enc.cells ((T_impl_must.mk false false false))⟩, some ⟨0, []⟩] ?_
  obtain ⟨v38, hv39, h⟩ := bindS h
  refine qX (some 99) (pf v38 0) 137 [(99, pf v38 0), (97, B x37), (1, A a1), (6, .ptr 0 0 0)] [some ⟨0, Enc.cells ((T_impl_must.mk false false false))⟩, some ⟨0, []⟩] (fun Γ' hΓ => CoreE.of_y (idxV_sound τ_ok (by kernel_rfl) hv39)) trivial ?_
  refine qvM [6, 8, 9] [] trivial 3 137 [(102, B v38.fNotFalse), (97, B x37), (1, A a1), (6, .ptr 0 0 0)] [some ⟨0, Enc.cells ((T_impl_must.mk false false false))⟩, some ⟨0, []⟩] ?_
  refine qA_join (σ := Bool) 20 3 (fun x40 => (⟨137, [(107, B x40), (97, B x37), (6, .ptr 0 0 0)], [some ⟨0, Enc.cells ((T_impl_must.mk false false false))⟩, some ⟨0, []⟩]⟩ : St)) (fun x40 => impl_Part_find_j6 x37 x40 = some y) (fun J44 => ?_) ?_
  rcases Bool.eq_false_or_eq_true v38.fNotFalse with hc47 | hc47
  replace h := bT hc47 h
  rw [hc47]
  refine qvM [6, 8, 9] [] trivial 5 137 [(107, B true), (97, B x37), (6, .ptr 0 0 0)] [some ⟨0, Enc.cells ((T_impl_must.mk false false false))⟩, some ⟨0, []⟩] ?_
  exact J44 true h
  replace h := bF hc47 h
  rw [hc47]
  refine qvM [6, 8, 9] [] trivial 1 137 [(103, A a1), (102, B false), (97, B x37), (6, .ptr 0 0 0)] [some ⟨0, Enc.cells ((T_impl_must.mk false false false))⟩, some ⟨0, []⟩] ?_
  obtain ⟨v45, hv46, h⟩ := bindS h
  refine qX (some 104) (pf v45 0) 137 [(104, pf v45 0), (102, B false), (97, B x37), (6, .ptr 0 0 0)] [some ⟨0, Enc.cells ((T_impl_must.mk false false false))⟩, some ⟨0, []⟩] (fun Γ' hΓ => CoreE.of_y (idxV_sound τ_ok (by kernel_rfl) hv46)) trivial ?_
  refine qvM [6, 8, 9] [] trivial 3 137 [(107, B v45.fNotFalse), (97, B x37), (6, .ptr 0 0 0)] [some ⟨0, Enc.cells ((T_impl_must.mk false false false))⟩, some ⟨0, []⟩] ?_
  exact J44 v45.fNotFalse h
  rintro x40 h
  unfold impl_Part_find_j6 at h
  refine qvM [6, 8, 9] [] trivial 1 137 [(108, E ((T_impl_must.mk false x37 x40))), (6, .ptr 0 0 0)] [some ⟨0, Enc.cells ((T_impl_must.mk false false false))⟩, some ⟨0, []⟩] ?_
  refine qX (Hm' := [none, some ⟨1, Enc.cells ((T_impl_must.mk false false false))⟩]) (some 9) (.ptr 1 1 0) 137 [(9, .ptr 1 1 0), (108, E ((T_impl_must.mk false x37 x40))), (6, .ptr 0 0 0)] [some ⟨0, Enc.cells ((T_impl_must.mk false false false))⟩, some ⟨1, Enc.cells ((T_impl_must.mk false false false))⟩] (fun Γ' hΓ => alc_E (blk := ⟨0, []⟩) τ_ok [6, 8, 9] 9 1 0 (ny hΓ hX) (by kernel_rfl) (by kernel_rfl)) (hB trivial) ?_
  refine qX (Hm' := [none, some ⟨1, Enc.cells ((T_impl_must.mk false x37 x40))⟩]) none (.any) 137 [(9, .ptr 1 1 0), (6, .ptr 0 0 0)] [some ⟨0, Enc.cells ((T_impl_must.mk false false false))⟩, some ⟨1, Enc.cells ((T_impl_must.mk false x37 x40))⟩] (fun Γ' hΓ => sto_E τ_ok 1 1 (by kernel_rfl)) (hB trivial) ?_
  refine qn 137 [(6, .ptr 0 0 0), (9, .ptr 1 1 0)] [some ⟨0, Enc.cells ((T_impl_must.mk false false false))⟩, some ⟨1, Enc.cells ((T_impl_must.mk false x37 x40))⟩] ?_
  refine srvM [6, 8, 9] 3 137 [(6, .ptr 0 0 0), (9, .ptr 1 1 0), (111, B ((T_impl_must.mk false x37 x40).fNotTrue))] [some ⟨0, Enc.cells ((T_impl_must.mk false false false))⟩, some ⟨1, Enc.cells ((T_impl_must.mk false x37 x40))⟩] ?_
  refine opsP_join (σ := Bool) 6 (fun x41 => (⟨137, [(6, .ptr 0 0 0), (9, .ptr 1 1 0), (114, B x41)], [some ⟨0, Enc.cells ((T_impl_must.mk false false false))⟩, some ⟨1, Enc.cells ((T_impl_must.mk false x37 x40))⟩]⟩ : St)) (fun x41 => impl_Part_find_j7 x37 x40 x41 = some y) (fun J42 => ?_) ?_
  rcases fk ((T_impl_must.mk false x37 x40).fNotTrue) with hc43 | hc43
  replace h := bT hc43 h
  rw [hc43]
  refine vM [6, 8, 9] 3 137 [(6, .ptr 0 0 0), (9, .ptr 1 1 0), (114, B ((T_impl_must.mk false x37 x40).fNotFalse))] [some ⟨0, Enc.cells ((T_impl_must.mk false false false))⟩, some ⟨1, Enc.cells ((T_impl_must.mk false x37 x40))⟩] ?_
  exact opsP_imp (it [6, 9, 114]) (J42 ((T_impl_must.mk false x37 x40).fNotFalse) h)
  replace h := bF hc43 h
  rw [hc43]
  refine vM [6, 8, 9] 3 137 [(6, .ptr 0 0 0), (9, .ptr 1 1 0), (114, B false)] [some ⟨0, Enc.cells ((T_impl_must.mk false false false))⟩, some ⟨1, Enc.cells ((T_impl_must.mk false x37 x40))⟩] ?_
  exact opsP_imp (it [6, 9, 114]) (J42 false h)
  rintro x41 h
  unfold impl_Part_find_j7 at h
  refine veM [6, 8, 9] 2 137 [(6, .ptr 0 0 0), (9, .ptr 1 1 0)] [some ⟨0, Enc.cells ((T_impl_must.mk false false false))⟩, some ⟨1, Enc.cells ({ ((T_impl_must.mk false x37 x40)) with fNone := x41 })⟩] ?_
  refine srveM [6, 8, 9] 137 [(6, .ptr 0 0 0)] [some ⟨0, Enc.cells ({ ((T_impl_must.mk false x37 x40)) with fNone := x41 })⟩, some ⟨1, Enc.cells ({ ((T_impl_must.mk false x37 x40)) with fNone := x41 })⟩] ?_
  cases h
  exact pwp_ret rz
  refine srveM [6, 8, 9] 137 [(1, A a1), (6, .ptr 0 0 0), (117, B ((a0.fKind == 7)))] [some ⟨0, Enc.cells ((T_impl_must.mk false false false))⟩] ?_
  refine pc h (fun h => ?_) (fun h => ?_)
  refine pwp_seq ?_
  refine ip 137 [(1, A a1), (6, .ptr 0 0 0)] [some ⟨0, Enc.cells ((T_impl_must.mk false false false))⟩] ?_
  refine pwp_any ([[], [], [], [], [], [], [], [], [], [], [], [], [], [0]]) ([[], [], [], [], [], [], [], [], [], [], [], [], [], [0]]) rfl (by kernel_rfl) ?_
  refine qvM [6, 8, 9] [] trivial 1 137 [(119, A a1), (1, A a1), (6, .ptr 0 0 0)] [some ⟨0, Enc.cells ((T_impl_must.mk false false false))⟩] ?_
  obtain ⟨v53, hv54, h⟩ := bindS h
  refine qX (some 120) (pf v53 0) 137 [(120, pf v53 0), (1, A a1), (6, .ptr 0 0 0)] [some ⟨0, Enc.cells ((T_impl_must.mk false false false))⟩] (fun Γ' hΓ => CoreE.of_y (idxV_sound τ_ok (by kernel_rfl) hv54)) trivial ?_
  refine qvM [6, 8, 9] [] trivial 3 137 [(123, A a1), (122, B v53.fNone), (1, A a1), (6, .ptr 0 0 0)] [some ⟨0, Enc.cells ((T_impl_must.mk false false false))⟩] ?_
  obtain ⟨v55, hv56, h⟩ := bindS h
  refine qX (some 124) (pf v55 0) 137 [(124, pf v55 0), (122, B v53.fNone), (1, A a1), (6, .ptr 0 0 0)] [some ⟨0, Enc.cells ((T_impl_must.mk false false false))⟩] (fun Γ' hΓ => CoreE.of_y (idxV_sound τ_ok (by kernel_rfl) hv56)) trivial ?_
  refine qvM [6, 8, 9] [] trivial 3 137 [(127, A a1), (126, B v55.fNotFalse), (122, B v53.fNone), (6, .ptr 0 0 0)] [some ⟨0, Enc.cells ((T_impl_must.mk false false false))⟩] ?_
  obtain ⟨v57, hv58, h⟩ := bindS h
  refine qX (some 128) (pf v57 0) 137 [(128, pf v57 0), (126, B v55.fNotFalse), (122, B v53.fNone), (6, .ptr 0 0 0)] [some ⟨0, Enc.cells ((T_impl_must.mk false false false))⟩] (fun Γ' hΓ => CoreE.of_y (idxV_sound τ_ok (by kernel_rfl) hv58)) trivial ?_
  refine qvM [6, 8, 9] [] trivial 3 137 [(131, E ((T_impl_must.mk v53.fNone v55.fNotFalse v57.fNotTrue))), (6, .ptr 0 0 0)] [some ⟨0, Enc.cells ((T_impl_must.mk false false false))⟩] ?_
  refine qX (Hm' := [some ⟨0, Enc.cells ((T_impl_must.mk v53.fNone v55.fNotFalse v57.fNotTrue))⟩]) none (.any) 137 [(6, .ptr 0 0 0)] [some ⟨0, Enc.cells ((T_impl_must.mk v53.fNone v55.fNotFalse v57.fNotTrue))⟩] (fun Γ' hΓ => sto_E τ_ok 0 0 (by kernel_rfl)) (hB trivial) ?_
  refine qn 137 [(6, .ptr 0 0 0)] [some ⟨0, Enc.cells ((T_impl_must.mk v53.fNone v55.fNotFalse v57.fNotTrue))⟩] ?_
  cases h
  exact pwp_ret rz
  refine pwp_skip ?_
  refine srvM [6, 8, 9] 1 137 [(6, .ptr 0 0 0), (132, A a1)] [some ⟨0, Enc.cells ((T_impl_must.mk false false false))⟩] ?_
  obtain ⟨v59, hv60, h⟩ := bindS h
  refine opsP_idx τ_ok 133 hv60 (by kernel_rfl) ?_
  refine veM [6, 8, 9] 4 137 [(6, .ptr 0 0 0)] [some ⟨0, Enc.cells ((T_impl_must.mk false false v59.fNone))⟩] ?_
  cases h
  exact pwp_ret rz
def spec_l20Leaf_j2 (x3 : Int) (K6 : Int → T_spec_l20Rd → Option (T_impl_Part × T_spec_l20Rd)) (v9 : Int × T_spec_l20Rd) (x11 : Bool) (x12 : T_spec_l20Rd) : Option (T_impl_Part × T_spec_l20Rd) := bif x11 then some (((T_impl_Part.mk 2 v9.1 (T_impl_Value.mk 0 0 (ByteArray.mk #[])))), x12) else K6 ((w64 (x3 + 1))) x12
def spec_l20Leaf_j1 (a1 : List T_impl_Column) (a2 : Int) (x3 : Int) (x4 : T_spec_l20Rd) (K6 : Int → T_spec_l20Rd → Option (T_impl_Part × T_spec_l20Rd)) (x7 : Bool) : Option (T_impl_Part × T_spec_l20Rd) := bif x7 then (spec_l20Rd_pick x4 ((a1.length : Int))).bind fun v9 => (getI a1 v9.1).bind fun v14 => bif (v14.fKind == a2) then (spec_l20Rd_pick v9.2 3).bind fun v16 => spec_l20Leaf_j2 x3 K6 v9 ((decide (v16.1 > 0))) v16.2 else spec_l20Leaf_j2 x3 K6 v9 false v9.2 else (spec_l20Like x4 ((T_impl_Column.mk a2 false))).bind fun v19 => some (((T_impl_Part.mk 1 0 v19.1)), v19.2)
def spec_l20Leaf_l0 (a1 : List T_impl_Column) (a2 : Int) : Nat → Int → T_spec_l20Rd → Option (T_impl_Part × T_spec_l20Rd)
  | 0, _, _ => none
  | f5 + 1, x3, x4 => bif (decide (x3 < 4)) then spec_l20Leaf_j1 a1 a2 x3 x4 (spec_l20Leaf_l0 a1 a2 f5) ((decide (((a1.length : Int)) > 0))) else spec_l20Leaf_j1 a1 a2 x3 x4 (spec_l20Leaf_l0 a1 a2 f5) false
def spec_l20Leaf (a0 : T_spec_l20Rd) (a1 : List T_impl_Column) (a2 : Int) : Option (T_impl_Part × T_spec_l20Rd) := spec_l20Leaf_l0 a1 a2 FUEL 0 a0
theorem ok_spec_l20Leaf {a0 : T_spec_l20Rd} {a1 : List T_impl_Column} {a2 : Int} {y : T_impl_Part × T_spec_l20Rd} (h : spec_l20Leaf a0 a1 a2 = some y) : OKb Try.prog 72 (Enc.cells a0) [A a1, I a2] (E y.1) (Enc.cells y.2) := by
  refine OKb_of_pwp τ_ok Try.func72 rfl (by kernel_rfl) rfl (Enc.frz _) (Enc.frz _) fun Γ hQ => ?_
  unfold spec_l20Leaf at h
  refine srveM [6] 41 [(0, .ptr 0 0 0), (1, A a1), (2, I a2), (6, .ptr 1 0 0)] [sc 0 a0, some ⟨0, Enc.cells ((T_impl_Part.mk 0 0 (T_impl_Value.mk 0 0 (ByteArray.mk #[]))))⟩] ?_
  refine pwp_seq ?_
  refine srveM [6] 41 [(0, .ptr 0 0 0), (1, A a1), (2, I a2), (6, .ptr 1 0 0), (7, I 0)] [sc 0 a0, some ⟨0, Enc.cells ((T_impl_Part.mk 0 0 (T_impl_Value.mk 0 0 (ByteArray.mk #[]))))⟩] ?_
  refine pwp_block ?_
  refine pwp_loop (ι := Nat × Int × T_spec_l20Rd) (fun (f5, x3, x4) => (⟨41, [(0, .ptr 0 0 0), (1, A a1), (2, I a2), (6, .ptr 1 0 0), (7, I x3)], [sc 0 x4, some ⟨0, Enc.cells ((T_impl_Part.mk 0 0 (T_impl_Value.mk 0 0 (ByteArray.mk #[]))))⟩]⟩ : St)) (fun (f5, x3, x4) => spec_l20Leaf_l0 a1 a2 f5 x3 x4 = some y) Prod.fst (FUEL, 0, a0) h (it [0, 1, 2, 6, 7]) ?_
  rintro ⟨f5, x3, x4⟩ h
  dsimp only at h ⊢
  rcases f5 with _ | f5
  cases h
  rw [spec_l20Leaf_l0] at h
  refine pwp_seq ?_
  refine pwp_seq ?_
  refine pwp_join (σ := Bool) (fun x7 => (⟨41, [(0, .ptr 0 0 0), (1, A a1), (2, I a2), (6, .ptr 1 0 0), (7, I x3), (15, B x7)], [sc 0 x4, some ⟨0, Enc.cells ((T_impl_Part.mk 0 0 (T_impl_Value.mk 0 0 (ByteArray.mk #[]))))⟩]⟩ : St)) (fun x7 => spec_l20Leaf_j1 a1 a2 x3 x4 (spec_l20Leaf_l0 a1 a2 f5) x7 = some y) ?_ ?_
  refine rvM [6] 3 41 [(0, .ptr 0 0 0), (1, A a1), (2, I a2), (6, .ptr 1 0 0), (7, I x3), (11, B ((decide (x3 < 4))))] [sc 0 x4, some ⟨0, Enc.cells ((T_impl_Part.mk 0 0 (T_impl_Value.mk 0 0 (ByteArray.mk #[]))))⟩] ?_
  rcases fk ((decide (x3 < 4))) with hc21 | hc21
  replace h := bT hc21 h
  rw [hc21]
  refine veM [6] 4 41 [(0, .ptr 0 0 0), (1, A a1), (2, I a2), (6, .ptr 1 0 0), (7, I x3), (12, A a1), (13, I ((a1.length : Int))), (14, B ((decide (((a1.length : Int)) > 0)))), (15, B ((decide (((a1.length : Int)) > 0))))] [sc 0 x4, some ⟨0, Enc.cells ((T_impl_Part.mk 0 0 (T_impl_Value.mk 0 0 (ByteArray.mk #[]))))⟩] ?_
  exact ⟨(decide (((a1.length : Int)) > 0)), h, it [0, 1, 2, 6, 7, 15]⟩
  replace h := bF hc21 h
  rw [hc21]
  refine veM [6] 4 41 [(0, .ptr 0 0 0), (1, A a1), (2, I a2), (6, .ptr 1 0 0), (7, I x3), (12, .lit undef), (13, .lit undef), (14, .lit undef), (15, B false)] [sc 0 x4, some ⟨0, Enc.cells ((T_impl_Part.mk 0 0 (T_impl_Value.mk 0 0 (ByteArray.mk #[]))))⟩] ?_
  exact ⟨false, h, it [0, 1, 2, 6, 7, 15]⟩
  rintro x7 h
  unfold spec_l20Leaf_j1 at h
  refine pc h (fun h => ?_) (fun h => ?_)
  refine pwp_skip ?_
  refine pwp_seq ?_
  refine pwp_block ?_
  refine srvM [6] 3 41 [(0, .ptr 0 0 0), (1, A a1), (2, I a2), (6, .ptr 1 0 0), (7, I x3), (18, .ptr 0 0 0), (20, I ((a1.length : Int)))] [sc 0 x4, some ⟨0, Enc.cells ((T_impl_Part.mk 0 0 (T_impl_Value.mk 0 0 (ByteArray.mk #[]))))⟩] ?_
  obtain ⟨v9, hv10, h⟩ := bindS h
  refine cB 21 0 0 (ok_spec_l20Rd_pick hv10) ?_
  refine veM [6] 1 41 [(0, .ptr 0 0 0), (1, A a1), (2, I a2), (6, .ptr 1 0 0), (7, I x3), (8, I v9.1)] [sc 0 v9.2, some ⟨0, Enc.cells ((T_impl_Part.mk 0 0 (T_impl_Value.mk 0 0 (ByteArray.mk #[]))))⟩] ?_
  refine pwp_seq ?_
  refine pwp_join (σ := Bool × T_spec_l20Rd) (fun (x11, x12) => (⟨41, [(0, .ptr 0 0 0), (1, A a1), (2, I a2), (6, .ptr 1 0 0), (7, I x3), (8, I v9.1), (33, B x11)], [sc 0 x12, some ⟨0, Enc.cells ((T_impl_Part.mk 0 0 (T_impl_Value.mk 0 0 (ByteArray.mk #[]))))⟩]⟩ : St)) (fun (x11, x12) => spec_l20Leaf_j2 x3 (spec_l20Leaf_l0 a1 a2 f5) v9 x11 x12 = some y) ?_ ?_
  refine rvM [6] 2 41 [(0, .ptr 0 0 0), (1, A a1), (2, I a2), (6, .ptr 1 0 0), (7, I x3), (8, I v9.1), (22, A a1), (23, I v9.1)] [sc 0 v9.2, some ⟨0, Enc.cells ((T_impl_Part.mk 0 0 (T_impl_Value.mk 0 0 (ByteArray.mk #[]))))⟩] ?_
  obtain ⟨v14, hv15, h⟩ := bindS h
  refine opsP_idx τ_ok 24 hv15 (by kernel_rfl) ?_
  refine vM [6] 5 41 [(0, .ptr 0 0 0), (1, A a1), (2, I a2), (6, .ptr 1 0 0), (7, I x3), (8, I v9.1), (29, B ((v14.fKind == a2)))] [sc 0 v9.2, some ⟨0, Enc.cells ((T_impl_Part.mk 0 0 (T_impl_Value.mk 0 0 (ByteArray.mk #[]))))⟩] ?_
  rcases fk ((v14.fKind == a2)) with hc18 | hc18
  replace h := bT hc18 h
  rw [hc18]
  refine vM [6] 1 41 [(0, .ptr 0 0 0), (1, A a1), (2, I a2), (6, .ptr 1 0 0), (7, I x3), (8, I v9.1), (29, B true), (30, .ptr 0 0 0)] [sc 0 v9.2, some ⟨0, Enc.cells ((T_impl_Part.mk 0 0 (T_impl_Value.mk 0 0 (ByteArray.mk #[]))))⟩] ?_
  obtain ⟨v16, hv17, h⟩ := bindS h
  refine cB 31 0 0 (ok_spec_l20Rd_pick hv17) ?_
  refine veM [6] 2 41 [(0, .ptr 0 0 0), (1, A a1), (2, I a2), (6, .ptr 1 0 0), (7, I x3), (8, I v9.1), (30, .ptr 0 0 0), (31, I v16.1), (32, B ((decide (v16.1 > 0)))), (33, B ((decide (v16.1 > 0))))] [sc 0 v16.2, some ⟨0, Enc.cells ((T_impl_Part.mk 0 0 (T_impl_Value.mk 0 0 (ByteArray.mk #[]))))⟩] ?_
  exact ⟨((decide (v16.1 > 0)), v16.2), h, it [0, 1, 2, 6, 7, 8, 33]⟩
  replace h := bF hc18 h
  rw [hc18]
  refine veM [6] 4 41 [(0, .ptr 0 0 0), (1, A a1), (2, I a2), (6, .ptr 1 0 0), (7, I x3), (8, I v9.1), (30, .lit undef), (31, .lit undef), (32, .lit undef), (33, B false)] [sc 0 v9.2, some ⟨0, Enc.cells ((T_impl_Part.mk 0 0 (T_impl_Value.mk 0 0 (ByteArray.mk #[]))))⟩] ?_
  exact ⟨(false, v9.2), h, it [0, 1, 2, 6, 7, 8, 33]⟩
  rintro ⟨x11, x12⟩ h
  dsimp only at h ⊢
  unfold spec_l20Leaf_j2 at h
  refine pc h (fun h => ?_) (fun h => ?_)
  refine srveM [6] 41 [(6, .ptr 1 0 0)] [sc 0 x12, some ⟨0, Enc.cells ((T_impl_Part.mk 2 v9.1 (T_impl_Value.mk 0 0 (ByteArray.mk #[]))))⟩] ?_
  have h := si h
  subst h
  exact pwp_ret ⟨.inr rfl, E ((T_impl_Part.mk 2 v9.1 (T_impl_Value.mk 0 0 (ByteArray.mk #[])))), _, 0, by kernel_rfl, (OutP.frz (by kernel_rfl)), by decide, by decide, by kernel_rfl⟩
  refine pwp_skip ?_
  refine rveM [6] 41 [(0, .ptr 0 0 0), (1, A a1), (2, I a2), (6, .ptr 1 0 0), (7, I ((w64 (x3 + 1))))] [sc 0 x12, some ⟨0, Enc.cells ((T_impl_Part.mk 0 0 (T_impl_Value.mk 0 0 (ByteArray.mk #[]))))⟩] ?_
  exact ⟨(f5, (w64 (x3 + 1)), x12), h, Nat.lt_succ_self _, it [0, 1, 2, 6, 7]⟩
  refine pwp_exit ?_
  refine srvM [6] 3 41 [(6, .ptr 1 0 0), (36, .ptr 0 0 0), (38, E ((T_impl_Column.mk a2 false)))] [sc 0 x4, some ⟨0, Enc.cells ((T_impl_Part.mk 0 0 (T_impl_Value.mk 0 0 (ByteArray.mk #[]))))⟩] ?_
  obtain ⟨v19, hv20, h⟩ := bindS h
  refine cB 39 0 0 (ok_spec_l20Like hv20) ?_
  refine veM [6] 2 41 [(6, .ptr 1 0 0)] [sc 0 v19.2, some ⟨0, Enc.cells ((T_impl_Part.mk 1 0 v19.1))⟩] ?_
  have h := si h
  subst h
  exact pwp_ret ⟨.inr rfl, E ((T_impl_Part.mk 1 0 v19.1)), _, 0, by kernel_rfl, (OutP.frz (by kernel_rfl)), by decide, by decide, by kernel_rfl⟩
def slices_ContainsFunc_impl_Column_impl_Column (a0 : List T_impl_Column) (a1 : T_impl_Column → Option Bool) : Option Bool := (slices_IndexFunc_impl_Column_impl_Column a0 a1).bind fun v1 => some ((decide (v1 ≥ 0)))
theorem ok_slices_ContainsFunc_impl_Column_impl_Column {a0 : List T_impl_Column} {g1 : FuncId} {c1 : List V} (hz1 : frzL c1 = true) {a1 : T_impl_Column → Option Bool} (hp1 : ∀ x0 y, a1 x0 = some y → OK Try.prog g1 ([E x0] ++ c1) (B y)) {y : Bool} (h : slices_ContainsFunc_impl_Column_impl_Column a0 a1 = some y) : OK Try.prog 75 [A a0, .fn g1 c1] (B y) := by
  refine ow Try.func75 fun Γ hX => ?_
  unfold slices_ContainsFunc_impl_Column_impl_Column at h
  refine srve 9 [(0, A a0), (1, .fn g1 c1)] [] ?_
  refine srv 2 9 [(5, A a0), (6, .fn g1 c1)] [] ?_
  obtain ⟨v1, hv2, h⟩ := bindS h
  refine opsP_callF τ 7 (ok_slices_IndexFunc_impl_Column_impl_Column (hz1) (hp1) hv2) (FzTo.frz rfl) (by simp only [frzL, frz, hz1, Bool.and_true]) (by kernel_rfl) ?_
  refine ve 2 9 [(4, B ((decide (v1 ≥ 0))))] [] ?_
  cases h
  exact pwp_ret rz
def impl_Value_ok (a0 : T_impl_Value) : Option Bool := bif (a0.fKind == 0) then some ((eq_T_impl_Value a0 ((T_impl_Value.mk 0 0 (ByteArray.mk #[]))))) else bif (a0.fKind == 1) then bif (a0.fS.toList == ((ByteArray.mk #[])).toList) then (impl_between a0.fN (-9999) 9999).bind fun v3 => some v3 else some false else bif (a0.fKind == 2) then bif (a0.fN == 0) then bif (decide (((a0.fS.size : Int)) ≤ 6)) then (impl_letters a0.fS).bind fun v7 => some v7 else some false else some false else bif (a0.fKind == 3) then bif (a0.fS.toList == ((ByteArray.mk #[])).toList) then (impl_between a0.fN 0 1).bind fun v12 => some v12 else some false else some false
theorem ok_impl_Value_ok {a0 : T_impl_Value} {y : Bool} (h : impl_Value_ok a0 = some y) : OK Try.prog 82 [E a0] (B y) := by
  refine ow Try.func82 fun Γ hX => ?_
  unfold impl_Value_ok at h
  refine srve 46 [(1, pf a0 0)] [] ?_
  refine pwp_seq ?_
  refine srve 46 [(1, pf a0 0), (4, I a0.fKind)] [] ?_
  refine pwp_block ?_
  refine srve 46 [(1, pf a0 0), (4, I a0.fKind), (5, B ((a0.fKind == 0)))] [] ?_
  refine pc h (fun h => ?_) (fun h => ?_)
  refine srve 46 [(2, B ((eq_T_impl_Value a0 ((T_impl_Value.mk 0 0 (ByteArray.mk #[]))))))] [] ?_
  cases h
  exact pwp_ret rz
  refine srve 46 [(1, pf a0 0), (4, I a0.fKind), (10, B ((a0.fKind == 1)))] [] ?_
  refine pc h (fun h => ?_) (fun h => ?_)
  refine srv 4 46 [(1, pf a0 0), (15, B ((a0.fS.toList == ((ByteArray.mk #[])).toList)))] [] ?_
  rcases fk ((a0.fS.toList == ((ByteArray.mk #[])).toList)) with hc5 | hc5
  replace h := bT hc5 h
  rw [hc5]
  refine v 2 46 [(15, B true), (17, I a0.fN)] [] ?_
  obtain ⟨v3, hv4, h⟩ := bindS h
  refine cF 18 (ok_impl_between hv4) ?_
  refine ve 2 46 [(2, B v3)] [] ?_
  cases h
  exact pwp_ret rz
  replace h := bF hc5 h
  rw [hc5]
  refine ve 5 46 [(2, B false)] [] ?_
  cases h
  exact pwp_ret rz
  refine srve 46 [(1, pf a0 0), (4, I a0.fKind), (20, B ((a0.fKind == 2)))] [] ?_
  refine pc h (fun h => ?_) (fun h => ?_)
  refine srv 4 46 [(1, pf a0 0), (25, B ((a0.fN == 0)))] [] ?_
  rcases fk ((a0.fN == 0)) with hc10 | hc10
  replace h := bT hc10 h
  rw [hc10]
  refine v 6 46 [(1, pf a0 0), (31, B ((decide (((a0.fS.size : Int)) ≤ 6))))] [] ?_
  rcases fk ((decide (((a0.fS.size : Int)) ≤ 6))) with hc9 | hc9
  replace h := bT hc9 h
  rw [hc9]
  refine v 2 46 [(31, B true), (33, S a0.fS)] [] ?_
  obtain ⟨v7, hv8, h⟩ := bindS h
  refine cF 34 (ok_impl_letters hv8) ?_
  refine ve 2 46 [(2, B v7)] [] ?_
  cases h
  exact pwp_ret rz
  replace h := bF hc9 h
  rw [hc9]
  refine ve 5 46 [(2, B false)] [] ?_
  cases h
  exact pwp_ret rz
  replace h := bF hc10 h
  rw [hc10]
  refine ve 11 46 [(2, B false)] [] ?_
  cases h
  exact pwp_ret rz
  refine srve 46 [(1, pf a0 0), (36, B ((a0.fKind == 3)))] [] ?_
  refine pc h (fun h => ?_) (fun h => ?_)
  refine srv 4 46 [(1, pf a0 0), (41, B ((a0.fS.toList == ((ByteArray.mk #[])).toList)))] [] ?_
  rcases fk ((a0.fS.toList == ((ByteArray.mk #[])).toList)) with hc14 | hc14
  replace h := bT hc14 h
  rw [hc14]
  refine v 2 46 [(41, B true), (43, I a0.fN)] [] ?_
  obtain ⟨v12, hv13, h⟩ := bindS h
  refine cF 44 (ok_impl_between hv13) ?_
  refine ve 2 46 [(2, B v12)] [] ?_
  cases h
  exact pwp_ret rz
  replace h := bF hc14 h
  rw [hc14]
  refine ve 5 46 [(2, B false)] [] ?_
  cases h
  exact pwp_ret rz
  refine pwp_skip ?_
  refine srve 46 [(2, B false)] [] ?_
  cases h
  exact pwp_ret rz
def impl_clone_impl_Value (a0 : List T_impl_Value) : Option (List T_impl_Value) := bif (((a0.length : Int)) == 0) then some (([] : List T_impl_Value)) else (app [] a0).bind fun v2 => (slices_Clip_impl_Value_impl_Value v2).bind fun v4 => some v4
theorem ok_impl_clone_impl_Value {a0 : List T_impl_Value} {y : List T_impl_Value} (h : impl_clone_impl_Value a0 = some y) : OK Try.prog 85 [A a0] (A y) := by
  refine ow Try.func85 fun Γ hX => ?_
  unfold impl_clone_impl_Value at h
  refine srve 9 [(0, A a0)] [] ?_
  refine pwp_seq ?_
  refine srve 9 [(0, A a0), (5, B ((((a0.length : Int)) == 0)))] [] ?_
  refine pc h (fun h => ?_) (fun h => ?_)
  refine srve 9 [(2, .arr 3 0 (eL ([] : List T_impl_Value)) true)] [] ?_
  refine ip 9 [(2, .arr 3 0 (eL ([] : List T_impl_Value)) true)] [] ?_
  refine pwp_imp (Imp.unfS (st' := ⟨9, [(2, A (([] : List T_impl_Value)))], []⟩) 2 [2] (by kernel_rfl)) ?_
  cases h
  exact pwp_ret rz
  refine pwp_skip ?_
  refine srv 1 9 [(6, A a0)] [] ?_
  obtain ⟨v2, hv3, h⟩ := bindS h
  refine opsP_apn τ_ok 7 0 (nx hX) hv3 (by kernel_rfl) ?_
  refine v 0 9 [(7, rf 0 1 3 v2)] [sl 1 v2] ?_
  refine opsP_imp ((Imp.freezeB (v := 1) (cs := eL v2) (st' := ⟨9, [(7, A v2)], [none]⟩) 0 1 (nx hX) (by kernel_rfl) (eL_frz _) (wholeC (whole_is (eL_len v2).symm) wholeC0) (HpRel.key HpRel.nil) (by kernel_rfl) rfl (nx hX))) ?_
  obtain ⟨v4, hv5, h⟩ := bindS h
  refine cF 8 (ok_slices_Clip_impl_Value_impl_Value hv5) ?_
  refine ve 1 9 [(2, A v4)] [none] ?_
  cases h
  exact pwp_ret rz
def spec_l20Fit_l0 (a1 : List T_impl_Column) (a2 : Int) : Nat → Int → T_spec_l20Rd → (List T_impl_Value) → Option ((List T_impl_Value) × T_spec_l20Rd)
  | 0, _, _, _ => none
  | f6 + 1, x3, x4, x5 => bif (decide (x3 < ((a1.length : Int)))) then (getI a1 x3).bind fun v9 => (spec_l20Like x4 v9).bind fun v11 => (app x5 (([v11.1] : List T_impl_Value))).bind fun v13 => (spec_l20Fit_l0 a1 a2 f6) ((w64 (x3 + 1))) v11.2 v13 else (spec_l20Rd_odd x4 a2).bind fun v15 => bif v15.1 then (spec_l20Rd_pick v15.2 3).bind fun v18 => bif (v18.1 == 0) then (app x5 (([(T_impl_Value.mk 0 0 (ByteArray.mk #[]))] : List T_impl_Value))).bind fun v21 => some (v21, v18.2) else bif (v18.1 == 1) then bif (decide (((x5.length : Int)) > 0)) then (spec_l20Rd_pick v18.2 ((x5.length : Int))).bind fun v25 => (spec_l20Value v25.2 3).bind fun v27 => (getI x5 v25.1).bind fun v29 => some (((x5.set v25.1.toNat v27.1)), v27.2) else some (x5, v18.2) else (spec_l20Value v18.2 0).bind fun v31 => (spec_l20Value v31.2 0).bind fun v33 => (spec_l20Value v33.2 0).bind fun v35 => (app x5 (([v31.1, v33.1, v35.1] : List T_impl_Value))).bind fun v37 => some (v37, v35.2) else some (x5, v15.2)
def spec_l20Fit (a0 : T_spec_l20Rd) (a1 : List T_impl_Column) (a2 : Int) : Option ((List T_impl_Value) × T_spec_l20Rd) := spec_l20Fit_l0 a1 a2 FUEL 0 a0 (([] : List T_impl_Value))
theorem ok_spec_l20Fit {a0 : T_spec_l20Rd} {a1 : List T_impl_Column} {a2 : Int} {y : (List T_impl_Value) × T_spec_l20Rd} (h : spec_l20Fit a0 a1 a2 = some y) : OKb Try.prog 88 (Enc.cells a0) [A a1, I a2] (O y.1) (Enc.cells y.2) := by
  refine OKb_of_pwp τ_ok Try.func88 rfl (by kernel_rfl) rfl (Enc.frz _) (Enc.frz _) fun Γ hQ => ?_
  unfold spec_l20Fit at h
  refine srve 59 [(0, .ptr 0 0 0), (1, A a1), (2, I a2)] [sc 0 a0] ?_
  refine srve 59 [(0, .ptr 0 0 0), (1, A a1), (2, I a2), (7, .arr 3 0 (eL ([] : List T_impl_Value)) true)] [sc 0 a0] ?_
  refine pwp_seq ?_
  refine srve 59 [(0, .ptr 0 0 0), (1, A a1), (2, I a2), (7, .arr 3 0 (eL ([] : List T_impl_Value)) true), (8, I 0)] [sc 0 a0] ?_
  refine pwp_block ?_
  refine pwp_loop (ι := Nat × Int × T_spec_l20Rd × (List T_impl_Value)) (fun (f6, x3, x4, x5) => (⟨59, [(0, .ptr 0 0 0), (1, A a1), (2, I a2), (7, rf 1 0 3 x5), (8, I x3)], [sc 0 x4, sl 0 x5]⟩ : St)) (fun (f6, x3, x4, x5) => spec_l20Fit_l0 a1 a2 f6 x3 x4 x5 = some y) Prod.fst (FUEL, 0, a0, ([] : List T_impl_Value)) h (Imp.thawS 7 [0, 1, 2, 7, 8] (by kernel_rfl)) ?_
  rintro ⟨f6, x3, x4, x5⟩ h
  dsimp only at h ⊢
  rcases f6 with _ | f6
  cases h
  rw [spec_l20Fit_l0] at h
  refine pwp_seq ?_
  refine srve 59 [(0, .ptr 0 0 0), (1, A a1), (2, I a2), (7, rf 1 0 3 x5), (8, I x3), (13, B ((decide (x3 < ((a1.length : Int))))))] [sc 0 x4, sl 0 x5] ?_
  refine pc h (fun h => ?_) (fun h => ?_)
  refine pwp_skip ?_
  refine pwp_seq ?_
  refine pwp_block ?_
  refine rv 4 59 [(0, .ptr 0 0 0), (1, A a1), (2, I a2), (8, I x3), (16, rf 1 0 3 x5), (17, .ptr 0 0 0), (18, A a1), (19, I x3)] [sc 0 x4, sl 0 x5] ?_
  obtain ⟨v9, hv10, h⟩ := bindS h
  refine opsP_idx τ_ok 20 hv10 (by kernel_rfl) ?_
  refine v 1 59 [(0, .ptr 0 0 0), (1, A a1), (2, I a2), (8, I x3), (16, rf 1 0 3 x5), (17, .ptr 0 0 0), (21, E v9)] [sc 0 x4, sl 0 x5] ?_
  obtain ⟨v11, hv12, h⟩ := bindS h
  refine cB 22 0 0 (ok_spec_l20Like hv12) ?_
  refine v 1 59 [(0, .ptr 0 0 0), (1, A a1), (2, I a2), (8, I x3), (16, rf 1 0 3 x5), (23, .arr 3 (([v11.1] : List T_impl_Value)).length (eL ([v11.1] : List T_impl_Value)) true)] [sc 0 v11.2, sl 0 x5] ?_
  obtain ⟨v13, hv14, h⟩ := bindS h
  refine opsP_app τ_ok 24 1 0 (pn hQ) hv14 (by kernel_rfl) ?_
  refine ve 1 59 [(0, .ptr 0 0 0), (1, A a1), (2, I a2), (7, rf 1 1 3 v13), (8, I x3)] [sc 0 v11.2, sl 1 v13] ?_
  refine rve 59 [(0, .ptr 0 0 0), (1, A a1), (2, I a2), (7, rf 1 1 3 v13), (8, I ((w64 (x3 + 1))))] [sc 0 v11.2, sl 1 v13] ?_
  exact ⟨(f6, (w64 (x3 + 1)), v11.2, v13), h, Nat.lt_succ_self _, (it (st' := ⟨59, [(0, .ptr 0 0 0), (1, A a1), (2, I a2), (7, rf 1 1 3 v13), (8, I ((w64 (x3 + 1))))], [sc 0 v11.2, sl 1 v13]⟩) [0, 1, 2, 7, 8]).trans (Imp.reverS 1 1 (eL v13) [0, 1, 2, 7, 8] (by kernel_rfl) (by exact (And.intro (rfl) (And.intro (eL_frz _) trivial))) (by kernel_rfl))⟩
  refine pwp_exit ?_
  refine pwp_seq ?_
  refine srv 2 59 [(0, .ptr 0 0 0), (7, rf 1 0 3 x5), (25, .ptr 0 0 0), (26, I a2)] [sc 0 x4, sl 0 x5] ?_
  obtain ⟨v15, hv16, h⟩ := bindS h
  refine cB 27 0 0 (ok_spec_l20Rd_odd hv16) ?_
  refine ve 0 59 [(0, .ptr 0 0 0), (7, rf 1 0 3 x5), (27, B v15.1)] [sc 0 v15.2, sl 0 x5] ?_
  refine pc h (fun h => ?_) (fun h => ?_)
  refine srv 1 59 [(0, .ptr 0 0 0), (7, rf 1 0 3 x5), (28, .ptr 0 0 0)] [sc 0 v15.2, sl 0 x5] ?_
  obtain ⟨v18, hv19, h⟩ := bindS h
  refine cB 29 0 0 (ok_spec_l20Rd_pick hv19) ?_
  refine ve 0 59 [(0, .ptr 0 0 0), (7, rf 1 0 3 x5), (29, I v18.1)] [sc 0 v18.2, sl 0 x5] ?_
  refine pwp_block ?_
  refine srve 59 [(0, .ptr 0 0 0), (7, rf 1 0 3 x5), (29, I v18.1), (39, B ((v18.1 == 0)))] [sc 0 v18.2, sl 0 x5] ?_
  refine pc h (fun h => ?_) (fun h => ?_)
  refine rv 3 59 [(41, rf 1 0 3 x5), (43, .arr 3 (([(T_impl_Value.mk 0 0 (ByteArray.mk #[]))] : List T_impl_Value)).length (eL ([(T_impl_Value.mk 0 0 (ByteArray.mk #[]))] : List T_impl_Value)) true)] [sc 0 v18.2, sl 0 x5] ?_
  obtain ⟨v21, hv22, h⟩ := bindS h
  refine opsP_app τ_ok 44 1 0 (pn hQ) hv22 (by kernel_rfl) ?_
  refine ve 1 59 [(7, rf 1 1 3 v21)] [sc 0 v18.2, sl 1 v21] ?_
  refine srve 59 [(6, rf 1 1 3 v21)] [sc 0 v18.2, sl 1 v21] ?_
  have h := si h
  subst h
  exact pwp_ret ⟨.inr rfl, rf 1 1 3 v21, _, 0, by kernel_rfl, (OutP.list (v := 1) (by kernel_rfl)), by decide, by decide, by kernel_rfl⟩
  refine srve 59 [(0, .ptr 0 0 0), (7, rf 1 0 3 x5), (45, B ((v18.1 == 1)))] [sc 0 v18.2, sl 0 x5] ?_
  refine pc h (fun h => ?_) (fun h => ?_)
  refine srve 59 [(0, .ptr 0 0 0), (7, rf 1 0 3 x5), (49, B ((decide (((x5.length : Int)) > 0))))] [sc 0 v18.2, sl 0 x5] ?_
  refine pc h (fun h => ?_) (fun h => ?_)
  refine rv 4 59 [(0, .ptr 0 0 0), (7, rf 1 0 3 x5), (50, rf 1 0 3 x5), (51, .ptr 0 0 0), (53, I ((x5.length : Int)))] [sc 0 v18.2, sl 0 x5] ?_
  obtain ⟨v25, hv26, h⟩ := bindS h
  refine cB 54 0 0 (ok_spec_l20Rd_pick hv26) ?_
  refine v 1 59 [(7, rf 1 0 3 x5), (50, rf 1 0 3 x5), (54, I v25.1), (55, .ptr 0 0 0)] [sc 0 v25.2, sl 0 x5] ?_
  obtain ⟨v27, hv28, h⟩ := bindS h
  refine cB 56 0 0 (ok_spec_l20Value hv28) ?_
  obtain ⟨v29, hv30, h⟩ := bindS h
  refine opsP_idr τ_ok 57 1 0 x5.length hv30 rfl (by kernel_rfl) ?_
  refine v 0 59 [(7, rf 1 0 3 x5), (56, E v27.1), (57, .ptr 1 0 (v25.1.toNat * 3))] [sc 0 v27.2, sl 0 x5] ?_
  refine opsP_ste (vs := [I v27.1.fKind, I v27.1.fN, S v27.1.fS]) τ_ok 45 1 0 0 v27.1 hv30 (by kernel_rfl) (by kernel_rfl) (by kernel_rfl) (renC (ren_ref (List.length_set ..).symm) (renC trivial (renC trivial renC0))) ?_
  refine ve 0 59 [(7, .ref 1 0 0 3 ((x5.set v25.1.toNat v27.1)).length false)] [sc 0 v27.2, some ⟨0, eL ((x5.set v25.1.toNat v27.1))⟩] ?_
  refine srve 59 [(6, .ref 1 0 0 3 ((x5.set v25.1.toNat v27.1)).length false)] [sc 0 v27.2, some ⟨0, eL ((x5.set v25.1.toNat v27.1))⟩] ?_
  have h := si h
  subst h
  exact pwp_ret ⟨.inr rfl, .ref 1 0 0 3 ((x5.set v25.1.toNat v27.1)).length false, _, 0, by kernel_rfl, (OutP.list (v := 0) (by kernel_rfl)), by decide, by decide, by kernel_rfl⟩
  refine pwp_skip ?_
  refine srve 59 [(6, rf 1 0 3 x5)] [sc 0 v18.2, sl 0 x5] ?_
  have h := si h
  subst h
  exact pwp_ret ⟨.inr rfl, rf 1 0 3 x5, _, 0, by kernel_rfl, (OutP.list (v := 0) (by kernel_rfl)), by decide, by decide, by kernel_rfl⟩
  refine rv 2 59 [(0, .ptr 0 0 0), (30, rf 1 0 3 x5), (31, .ptr 0 0 0)] [sc 0 v18.2, sl 0 x5] ?_
  obtain ⟨v31, hv32, h⟩ := bindS h
  refine cB 32 0 0 (ok_spec_l20Value hv32) ?_
  refine v 1 59 [(0, .ptr 0 0 0), (30, rf 1 0 3 x5), (32, E v31.1), (33, .ptr 0 0 0)] [sc 0 v31.2, sl 0 x5] ?_
  obtain ⟨v33, hv34, h⟩ := bindS h
  refine cB 34 0 0 (ok_spec_l20Value hv34) ?_
  refine v 1 59 [(30, rf 1 0 3 x5), (32, E v31.1), (34, E v33.1), (35, .ptr 0 0 0)] [sc 0 v33.2, sl 0 x5] ?_
  obtain ⟨v35, hv36, h⟩ := bindS h
  refine cB 36 0 0 (ok_spec_l20Value hv36) ?_
  refine v 1 59 [(30, rf 1 0 3 x5), (37, .arr 3 (([v31.1, v33.1, v35.1] : List T_impl_Value)).length (eL ([v31.1, v33.1, v35.1] : List T_impl_Value)) true)] [sc 0 v35.2, sl 0 x5] ?_
  obtain ⟨v37, hv38, h⟩ := bindS h
  refine opsP_app τ_ok 38 1 0 (pn hQ) hv38 (by kernel_rfl) ?_
  refine ve 1 59 [(7, rf 1 1 3 v37)] [sc 0 v35.2, sl 1 v37] ?_
  refine srve 59 [(6, rf 1 1 3 v37)] [sc 0 v35.2, sl 1 v37] ?_
  have h := si h
  subst h
  exact pwp_ret ⟨.inr rfl, rf 1 1 3 v37, _, 0, by kernel_rfl, (OutP.list (v := 1) (by kernel_rfl)), by decide, by decide, by kernel_rfl⟩
  refine pwp_skip ?_
  refine srve 59 [(6, rf 1 0 3 x5)] [sc 0 v15.2, sl 0 x5] ?_
  have h := si h
  subst h
  exact pwp_ret ⟨.inr rfl, rf 1 0 3 x5, _, 0, by kernel_rfl, (OutP.list (v := 0) (by kernel_rfl)), by decide, by decide, by kernel_rfl⟩
def slices_ContainsFunc_impl_Value_impl_Value (a0 : List T_impl_Value) (a1 : T_impl_Value → Option Bool) : Option Bool := (slices_IndexFunc_impl_Value_impl_Value a0 a1).bind fun v1 => some ((decide (v1 ≥ 0)))
theorem ok_slices_ContainsFunc_impl_Value_impl_Value {a0 : List T_impl_Value} {g1 : FuncId} {c1 : List V} (hz1 : frzL c1 = true) {a1 : T_impl_Value → Option Bool} (hp1 : ∀ x0 y, a1 x0 = some y → OK Try.prog g1 ([E x0] ++ c1) (B y)) {y : Bool} (h : slices_ContainsFunc_impl_Value_impl_Value a0 a1 = some y) : OK Try.prog 105 [A a0, .fn g1 c1] (B y) := by
  refine ow Try.func105 fun Γ hX => ?_
  unfold slices_ContainsFunc_impl_Value_impl_Value at h
  refine srve 9 [(0, A a0), (1, .fn g1 c1)] [] ?_
  refine srv 2 9 [(5, A a0), (6, .fn g1 c1)] [] ?_
  obtain ⟨v1, hv2, h⟩ := bindS h
  refine opsP_callF τ 7 (ok_slices_IndexFunc_impl_Value_impl_Value (hz1) (hp1) hv2) (FzTo.frz rfl) (by simp only [frzL, frz, hz1, Bool.and_true]) (by kernel_rfl) ?_
  refine ve 2 9 [(4, B ((decide (v1 ≥ 0))))] [] ?_
  cases h
  exact pwp_ret rz
def impl_RowOk_1 (a0 : T_impl_Value) : Option Bool := (impl_Value_ok a0).bind fun v1 => some ((!v1))
theorem ok_impl_RowOk_1 {a0 : T_impl_Value} {y : Bool} (h : impl_RowOk_1 a0 = some y) : OK Try.prog 106 [E a0] (B y) := by
  refine ow Try.func106 fun Γ hX => ?_
  unfold impl_RowOk_1 at h
  refine srve 6 [(1, pf a0 0)] [] ?_
  refine srv 1 6 [(3, E a0)] [] ?_
  obtain ⟨v1, hv2, h⟩ := bindS h
  refine cF 4 (ok_impl_Value_ok hv2) ?_
  refine ve 2 6 [(2, B ((!v1)))] [] ?_
  cases h
  exact pwp_ret rz
def slices_ContainsFunc_impl_Value_impl_Value_s3 (a0 : List (List T_impl_Value)) (a1 : (List T_impl_Value) → Option Bool) : Option Bool := (slices_IndexFunc_impl_Value_impl_Value_s3 a0 a1).bind fun v1 => some ((decide (v1 ≥ 0)))
theorem ok_slices_ContainsFunc_impl_Value_impl_Value_s3 {a0 : List (List T_impl_Value)} {g1 : FuncId} {c1 : List V} (hz1 : frzL c1 = true) {a1 : (List T_impl_Value) → Option Bool} (hp1 : ∀ x0 y, a1 x0 = some y → OK Try.prog g1 ([A x0] ++ c1) (B y)) {y : Bool} (h : slices_ContainsFunc_impl_Value_impl_Value_s3 a0 a1 = some y) : OK Try.prog 107 [A a0, .fn g1 c1] (B y) := by
  refine ow Try.func107 fun Γ hX => ?_
  unfold slices_ContainsFunc_impl_Value_impl_Value_s3 at h
  refine srve 9 [(0, A a0), (1, .fn g1 c1)] [] ?_
  refine srv 2 9 [(5, A a0), (6, .fn g1 c1)] [] ?_
  obtain ⟨v1, hv2, h⟩ := bindS h
  refine opsP_callF τ 7 (ok_slices_IndexFunc_impl_Value_impl_Value_s3 (hz1) (hp1) hv2) (FzTo.frz rfl) (by simp only [frzL, frz, hz1, Bool.and_true]) (by kernel_rfl) ?_
  refine ve 2 9 [(4, B ((decide (v1 ≥ 0))))] [] ?_
  cases h
  exact pwp_ret rz
def spec_l20Bag_j1 (x5 : Int) (K9 : Int → T_spec_l20Rd → (List (List T_impl_Value)) → Option ((List (List T_impl_Value)) × T_spec_l20Rd)) (x11 : T_spec_l20Rd) (x12 : List (List T_impl_Value)) : Option ((List (List T_impl_Value)) × T_spec_l20Rd) := K9 ((w64 (x5 - 1))) x11 x12
def spec_l20Bag_j2 (a1 : List T_impl_Column) (a2 : Int) (x5 : Int) (x7 : List (List T_impl_Value)) (K9 : Int → T_spec_l20Rd → (List (List T_impl_Value)) → Option ((List (List T_impl_Value)) × T_spec_l20Rd)) (x13 : Bool) (x14 : T_spec_l20Rd) : Option ((List (List T_impl_Value)) × T_spec_l20Rd) := bif x13 then (spec_l20Rd_pick x14 ((x7.length : Int))).bind fun v16 => (getI x7 v16.1).bind fun v18 => (spec_l3Own v18).bind fun v20 => (app x7 (([v20] : List (List T_impl_Value)))).bind fun v22 => spec_l20Bag_j1 x5 K9 v16.2 v22 else (spec_l20Fit x14 a1 a2).bind fun v24 => (app x7 (([v24.1] : List (List T_impl_Value)))).bind fun v26 => spec_l20Bag_j1 x5 K9 v24.2 v26
def spec_l20Bag_l0 (a1 : List T_impl_Column) (a2 : Int) : Nat → Int → T_spec_l20Rd → (List (List T_impl_Value)) → Option ((List (List T_impl_Value)) × T_spec_l20Rd)
  | 0, _, _, _ => none
  | f8 + 1, x5, x6, x7 => bif (decide (x5 > 0)) then bif (decide (((x7.length : Int)) > 0)) then (spec_l20Rd_pick x6 3).bind fun v28 => spec_l20Bag_j2 a1 a2 x5 x7 (spec_l20Bag_l0 a1 a2 f8) ((v28.1 == 0)) v28.2 else spec_l20Bag_j2 a1 a2 x5 x7 (spec_l20Bag_l0 a1 a2 f8) false x6 else some (x7, x6)
def spec_l20Bag (a0 : T_spec_l20Rd) (a1 : List T_impl_Column) (a2 : Int) : Option ((List (List T_impl_Value)) × T_spec_l20Rd) := (spec_l20Rd_pick a0 7).bind fun v1 => spec_l20Bag_l0 a1 a2 FUEL v1.1 v1.2 (([] : List (List T_impl_Value)))
theorem ok_spec_l20Bag {a0 : T_spec_l20Rd} {a1 : List T_impl_Column} {a2 : Int} {y : (List (List T_impl_Value)) × T_spec_l20Rd} (h : spec_l20Bag a0 a1 a2 = some y) : OKb Try.prog 117 (Enc.cells a0) [A a1, I a2] (O y.1) (Enc.cells y.2) := by
  refine OKb_of_pwp τ_ok Try.func117 rfl (by kernel_rfl) rfl (Enc.frz _) (Enc.frz _) fun Γ hQ => ?_
  unfold spec_l20Bag at h
  refine srve 43 [(0, .ptr 0 0 0), (1, A a1), (2, I a2)] [sc 0 a0] ?_
  refine srve 43 [(0, .ptr 0 0 0), (1, A a1), (2, I a2), (7, .arr 1 0 (eL ([] : List (List T_impl_Value))) true)] [sc 0 a0] ?_
  refine pwp_seq ?_
  refine srv 1 43 [(0, .ptr 0 0 0), (1, A a1), (2, I a2), (7, .arr 1 0 (eL ([] : List (List T_impl_Value))) true), (10, .ptr 0 0 0)] [sc 0 a0] ?_
  obtain ⟨v1, hv2, h⟩ := bindS h
  refine cB 11 0 0 (ok_spec_l20Rd_pick hv2) ?_
  refine ve 1 43 [(0, .ptr 0 0 0), (1, A a1), (2, I a2), (7, .arr 1 0 (eL ([] : List (List T_impl_Value))) true), (8, I v1.1)] [sc 0 v1.2] ?_
  refine pwp_block ?_
  refine pwp_loop (ι := Nat × Int × T_spec_l20Rd × (List (List T_impl_Value))) (fun (f8, x5, x6, x7) => (⟨43, [(0, .ptr 0 0 0), (1, A a1), (2, I a2), (7, rf 1 0 1 x7), (8, I x5)], [sc 0 x6, sl 0 x7]⟩ : St)) (fun (f8, x5, x6, x7) => spec_l20Bag_l0 a1 a2 f8 x5 x6 x7 = some y) Prod.fst (FUEL, v1.1, v1.2, ([] : List (List T_impl_Value))) h (Imp.thawS 7 [0, 1, 2, 7, 8] (by kernel_rfl)) ?_
  rintro ⟨f8, x5, x6, x7⟩ h
  dsimp only at h ⊢
  rcases f8 with _ | f8
  cases h
  rw [spec_l20Bag_l0] at h
  refine pwp_seq ?_
  refine srve 43 [(0, .ptr 0 0 0), (1, A a1), (2, I a2), (7, rf 1 0 1 x7), (8, I x5), (13, B ((decide (x5 > 0))))] [sc 0 x6, sl 0 x7] ?_
  refine pc h (fun h => ?_) (fun h => ?_)
  refine pwp_skip ?_
  refine pwp_seq ?_
  refine pwp_join (σ := T_spec_l20Rd × (List (List T_impl_Value))) (fun (x11, x12) => (⟨43, [(0, .ptr 0 0 0), (1, A a1), (2, I a2), (7, rf 1 0 1 x12), (8, I x5)], [sc 0 x11, sl 0 x12]⟩ : St)) (fun (x11, x12) => spec_l20Bag_j1 x5 (spec_l20Bag_l0 a1 a2 f8) x11 x12 = some y) ?_ ?_
  refine pwp_block ?_
  refine pwp_seq ?_
  refine pwp_join (σ := Bool × T_spec_l20Rd) (fun (x13, x14) => (⟨43, [(0, .ptr 0 0 0), (1, A a1), (2, I a2), (7, rf 1 0 1 x7), (8, I x5), (23, B x13)], [sc 0 x14, sl 0 x7]⟩ : St)) (fun (x13, x14) => spec_l20Bag_j2 a1 a2 x5 x7 (spec_l20Bag_l0 a1 a2 f8) x13 x14 = some y) ?_ ?_
  refine rv 4 43 [(0, .ptr 0 0 0), (1, A a1), (2, I a2), (7, rf 1 0 1 x7), (8, I x5), (19, B ((decide (((x7.length : Int)) > 0))))] [sc 0 x6, sl 0 x7] ?_
  rcases fk ((decide (((x7.length : Int)) > 0))) with hc30 | hc30
  replace h := bT hc30 h
  rw [hc30]
  refine v 1 43 [(0, .ptr 0 0 0), (1, A a1), (2, I a2), (7, rf 1 0 1 x7), (8, I x5), (19, B true), (20, .ptr 0 0 0)] [sc 0 x6, sl 0 x7] ?_
  obtain ⟨v28, hv29, h⟩ := bindS h
  refine cB 21 0 0 (ok_spec_l20Rd_pick hv29) ?_
  refine ve 2 43 [(0, .ptr 0 0 0), (1, A a1), (2, I a2), (7, rf 1 0 1 x7), (8, I x5), (20, .ptr 0 0 0), (21, I v28.1), (22, B ((v28.1 == 0))), (23, B ((v28.1 == 0)))] [sc 0 v28.2, sl 0 x7] ?_
  exact ⟨((v28.1 == 0), v28.2), h, it [0, 1, 2, 7, 8, 23]⟩
  replace h := bF hc30 h
  rw [hc30]
  refine ve 4 43 [(0, .ptr 0 0 0), (1, A a1), (2, I a2), (7, rf 1 0 1 x7), (8, I x5), (20, .lit undef), (21, .lit undef), (22, .lit undef), (23, B false)] [sc 0 x6, sl 0 x7] ?_
  exact ⟨(false, x6), h, it [0, 1, 2, 7, 8, 23]⟩
  rintro ⟨x13, x14⟩ h
  dsimp only at h ⊢
  unfold spec_l20Bag_j2 at h
  refine pc h (fun h => ?_) (fun h => ?_)
  refine rv 5 43 [(0, .ptr 0 0 0), (1, A a1), (2, I a2), (8, I x5), (24, rf 1 0 1 x7), (25, rf 1 0 1 x7), (26, .ptr 0 0 0), (28, I ((x7.length : Int)))] [sc 0 x14, sl 0 x7] ?_
  obtain ⟨v16, hv17, h⟩ := bindS h
  refine cB 29 0 0 (ok_spec_l20Rd_pick hv17) ?_
  obtain ⟨v18, hv19, h⟩ := bindS h
  refine opsP_idr τ_ok 30 1 0 x7.length hv19 rfl (by kernel_rfl) ?_
  refine opsP_lde (r := A v18) τ_ok 31 31 0 hv19 (by kernel_rfl) (by kernel_rfl) ?_
  obtain ⟨v20, hv21, h⟩ := bindS h
  refine cFo 32 (ok_spec_l3Own hv21) ?_
  refine v 1 43 [(0, .ptr 0 0 0), (1, A a1), (2, I a2), (8, I x5), (24, rf 1 0 1 x7), (33, .arr 1 (([v20] : List (List T_impl_Value))).length (eL ([v20] : List (List T_impl_Value))) true)] [sc 0 v16.2, sl 0 x7] ?_
  obtain ⟨v22, hv23, h⟩ := bindS h
  refine opsP_app τ_ok 34 1 0 (pn hQ) hv23 (by kernel_rfl) ?_
  refine ve 1 43 [(0, .ptr 0 0 0), (1, A a1), (2, I a2), (7, rf 1 1 1 v22), (8, I x5)] [sc 0 v16.2, sl 1 v22] ?_
  exact ⟨(v16.2, v22), h, (it (st' := ⟨43, [(0, .ptr 0 0 0), (1, A a1), (2, I a2), (7, rf 1 1 1 v22), (8, I x5)], [sc 0 v16.2, sl 1 v22]⟩) [0, 1, 2, 7, 8]).trans (Imp.reverS 1 1 (eL v22) [0, 1, 2, 7, 8] (by kernel_rfl) (by exact (And.intro (rfl) (And.intro (eL_frz _) trivial))) (by kernel_rfl))⟩
  refine rv 4 43 [(0, .ptr 0 0 0), (1, A a1), (2, I a2), (8, I x5), (35, rf 1 0 1 x7), (36, .ptr 0 0 0), (37, A a1), (38, I a2)] [sc 0 x14, sl 0 x7] ?_
  obtain ⟨v24, hv25, h⟩ := bindS h
  refine cBo 39 0 0 (ok_spec_l20Fit hv25) ?_
  refine v 1 43 [(0, .ptr 0 0 0), (1, A a1), (2, I a2), (8, I x5), (35, rf 1 0 1 x7), (40, .arr 1 (([v24.1] : List (List T_impl_Value))).length (eL ([v24.1] : List (List T_impl_Value))) true)] [sc 0 v24.2, sl 0 x7] ?_
  obtain ⟨v26, hv27, h⟩ := bindS h
  refine opsP_app τ_ok 41 1 0 (pn hQ) hv27 (by kernel_rfl) ?_
  refine ve 1 43 [(0, .ptr 0 0 0), (1, A a1), (2, I a2), (7, rf 1 1 1 v26), (8, I x5)] [sc 0 v24.2, sl 1 v26] ?_
  exact ⟨(v24.2, v26), h, (it (st' := ⟨43, [(0, .ptr 0 0 0), (1, A a1), (2, I a2), (7, rf 1 1 1 v26), (8, I x5)], [sc 0 v24.2, sl 1 v26]⟩) [0, 1, 2, 7, 8]).trans (Imp.reverS 1 1 (eL v26) [0, 1, 2, 7, 8] (by kernel_rfl) (by exact (And.intro (rfl) (And.intro (eL_frz _) trivial))) (by kernel_rfl))⟩
  rintro ⟨x11, x12⟩ h
  dsimp only at h ⊢
  unfold spec_l20Bag_j1 at h
  refine rve 43 [(0, .ptr 0 0 0), (1, A a1), (2, I a2), (7, rf 1 0 1 x12), (8, I ((w64 (x5 - 1))))] [sc 0 x11, sl 0 x12] ?_
  exact ⟨(f8, (w64 (x5 - 1)), x11, x12), h, Nat.lt_succ_self _, it [0, 1, 2, 7, 8]⟩
  refine pwp_exit ?_
  refine srve 43 [(6, rf 1 0 1 x7)] [sc 0 x6, sl 0 x7] ?_
  have h := si h
  subst h
  exact pwp_ret ⟨.inr rfl, rf 1 0 1 x7, _, 0, by kernel_rfl, (OutP.list (v := 0) (by kernel_rfl)), by decide, by decide, by kernel_rfl⟩
def slices_ContainsFunc_int_int (a0 : List Int) (a1 : Int → Option Bool) : Option Bool := (slices_IndexFunc_int_int a0 a1).bind fun v1 => some ((decide (v1 ≥ 0)))
theorem ok_slices_ContainsFunc_int_int {a0 : List Int} {g1 : FuncId} {c1 : List V} (hz1 : frzL c1 = true) {a1 : Int → Option Bool} (hp1 : ∀ x0 y, a1 x0 = some y → OK Try.prog g1 ([I x0] ++ c1) (B y)) {y : Bool} (h : slices_ContainsFunc_int_int a0 a1 = some y) : OK Try.prog 121 [A a0, .fn g1 c1] (B y) := by
  refine ow Try.func121 fun Γ hX => ?_
  unfold slices_ContainsFunc_int_int at h
  refine srve 9 [(0, A a0), (1, .fn g1 c1)] [] ?_
  refine srv 2 9 [(5, A a0), (6, .fn g1 c1)] [] ?_
  obtain ⟨v1, hv2, h⟩ := bindS h
  refine opsP_callF τ 7 (ok_slices_IndexFunc_int_int (hz1) (hp1) hv2) (FzTo.frz rfl) (by simp only [frzL, frz, hz1, Bool.and_true]) (by kernel_rfl) ?_
  refine ve 2 9 [(4, B ((decide (v1 ≥ 0))))] [] ?_
  cases h
  exact pwp_ret rz
def spec_ValueOk (a0 : T_impl_Value) : Option Bool := bif (a0.fKind == 0) then bif (a0.fN == 0) then some ((a0.fS.toList == ((ByteArray.mk #[])).toList)) else some false else bif (a0.fKind == 1) then (spec_l1In a0.fN (-9999) 9999).bind fun v4 => bif v4 then some ((a0.fS.toList == ((ByteArray.mk #[])).toList)) else some false else bif (a0.fKind == 2) then bif (a0.fN == 0) then (spec_l1Text a0.fS).bind fun v8 => some v8 else some false else bif (a0.fKind == 3) then (spec_l1In a0.fN 0 1).bind fun v12 => bif v12 then some ((a0.fS.toList == ((ByteArray.mk #[])).toList)) else some false else some false
theorem ok_spec_ValueOk {a0 : T_impl_Value} {y : Bool} (h : spec_ValueOk a0 = some y) : OK Try.prog 123 [E a0] (B y) := by
  refine ow Try.func123 fun Γ hX => ?_
  unfold spec_ValueOk at h
  refine srve 45 [(1, pf a0 0)] [] ?_
  refine pwp_seq ?_
  refine srve 45 [(1, pf a0 0), (4, I a0.fKind)] [] ?_
  refine pwp_block ?_
  refine srve 45 [(1, pf a0 0), (4, I a0.fKind), (5, B ((a0.fKind == 0)))] [] ?_
  refine pc h (fun h => ?_) (fun h => ?_)
  refine srv 4 45 [(1, pf a0 0), (10, B ((a0.fN == 0)))] [] ?_
  rcases fk ((a0.fN == 0)) with hc2 | hc2
  replace h := bT hc2 h
  rw [hc2]
  refine ve 5 45 [(2, B ((a0.fS.toList == ((ByteArray.mk #[])).toList)))] [] ?_
  cases h
  exact pwp_ret rz
  replace h := bF hc2 h
  rw [hc2]
  refine ve 5 45 [(2, B false)] [] ?_
  cases h
  exact pwp_ret rz
  refine srve 45 [(1, pf a0 0), (4, I a0.fKind), (15, B ((a0.fKind == 1)))] [] ?_
  refine pc h (fun h => ?_) (fun h => ?_)
  refine srv 2 45 [(1, pf a0 0), (18, I a0.fN)] [] ?_
  obtain ⟨v4, hv5, h⟩ := bindS h
  refine cF 19 (ok_spec_l1In hv5) ?_
  refine v 1 45 [(1, pf a0 0), (20, B v4)] [] ?_
  rcases Bool.eq_false_or_eq_true v4 with hc6 | hc6
  replace h := bT hc6 h
  rw [hc6]
  refine ve 5 45 [(2, B ((a0.fS.toList == ((ByteArray.mk #[])).toList)))] [] ?_
  cases h
  exact pwp_ret rz
  replace h := bF hc6 h
  rw [hc6]
  refine ve 5 45 [(2, B false)] [] ?_
  cases h
  exact pwp_ret rz
  refine srve 45 [(1, pf a0 0), (4, I a0.fKind), (25, B ((a0.fKind == 2)))] [] ?_
  refine pc h (fun h => ?_) (fun h => ?_)
  refine srv 4 45 [(1, pf a0 0), (30, B ((a0.fN == 0)))] [] ?_
  rcases fk ((a0.fN == 0)) with hc10 | hc10
  replace h := bT hc10 h
  rw [hc10]
  refine v 2 45 [(30, B true), (32, S a0.fS)] [] ?_
  obtain ⟨v8, hv9, h⟩ := bindS h
  refine cF 33 (ok_spec_l1Text hv9) ?_
  refine ve 2 45 [(2, B v8)] [] ?_
  cases h
  exact pwp_ret rz
  replace h := bF hc10 h
  rw [hc10]
  refine ve 5 45 [(2, B false)] [] ?_
  cases h
  exact pwp_ret rz
  refine srve 45 [(1, pf a0 0), (35, B ((a0.fKind == 3)))] [] ?_
  refine pc h (fun h => ?_) (fun h => ?_)
  refine srv 2 45 [(1, pf a0 0), (38, I a0.fN)] [] ?_
  obtain ⟨v12, hv13, h⟩ := bindS h
  refine cF 39 (ok_spec_l1In hv13) ?_
  refine v 1 45 [(1, pf a0 0), (40, B v12)] [] ?_
  rcases Bool.eq_false_or_eq_true v12 with hc14 | hc14
  replace h := bT hc14 h
  rw [hc14]
  refine ve 5 45 [(2, B ((a0.fS.toList == ((ByteArray.mk #[])).toList)))] [] ?_
  cases h
  exact pwp_ret rz
  replace h := bF hc14 h
  rw [hc14]
  refine ve 5 45 [(2, B false)] [] ?_
  cases h
  exact pwp_ret rz
  refine pwp_skip ?_
  refine srve 45 [(2, B false)] [] ?_
  cases h
  exact pwp_ret rz
def impl_TruthOf (a0 : T_impl_Value) : Option Int := (impl_Value_ok a0).bind fun v1 => bif (!v1) then some (-1) else bif (a0.fKind == 0) then some 2 else bif (a0.fKind == 3) then some a0.fN else some (-1)
theorem ok_impl_TruthOf {a0 : T_impl_Value} {y : Int} (h : impl_TruthOf a0 = some y) : OK Try.prog 133 [E a0] (I y) := by
  refine ow Try.func133 fun Γ hX => ?_
  unfold impl_TruthOf at h
  refine srve 17 [(1, pf a0 0)] [] ?_
  refine pwp_seq ?_
  refine pwp_block ?_
  refine srv 1 17 [(1, pf a0 0), (4, E a0)] [] ?_
  obtain ⟨v1, hv2, h⟩ := bindS h
  refine cF 5 (ok_impl_Value_ok hv2) ?_
  refine ve 2 17 [(1, pf a0 0), (3, B ((!v1)))] [] ?_
  refine pc h (fun h => ?_) (fun h => ?_)
  refine srve 17 [(2, I (-1))] [] ?_
  cases h
  exact pwp_ret rz
  refine srve 17 [(1, pf a0 0), (7, B ((a0.fKind == 0)))] [] ?_
  refine pc h (fun h => ?_) (fun h => ?_)
  refine srve 17 [(2, I 2)] [] ?_
  cases h
  exact pwp_ret rz
  refine srve 17 [(1, pf a0 0), (11, B ((a0.fKind == 3)))] [] ?_
  refine pc h (fun h => ?_) (fun h => ?_)
  refine srve 17 [(2, I a0.fN)] [] ?_
  cases h
  exact pwp_ret rz
  refine pwp_skip ?_
  refine srve 17 [(2, I (-1))] [] ?_
  cases h
  exact pwp_ret rz
def cmp_Compare_int (a0 : Int) (a1 : Int) : Option Int := (cmp_isNaN_int a0).bind fun v1 => (cmp_isNaN_int a1).bind fun v3 => bif v1 then bif v3 then some 0 else some (-1) else bif v3 then some 1 else bif (decide (a0 < a1)) then some (-1) else bif (decide (a0 > a1)) then some 1 else some 0
theorem ok_cmp_Compare_int {a0 : Int} {a1 : Int} {y : Int} (h : cmp_Compare_int a0 a1 = some y) : OK Try.prog 156 [I a0, I a1] (I y) := by
  refine ow Try.func156 fun Γ hX => ?_
  unfold cmp_Compare_int at h
  refine srve 20 [(0, I a0), (1, I a1)] [] ?_
  refine srv 1 20 [(0, I a0), (1, I a1), (7, I a0)] [] ?_
  obtain ⟨v1, hv2, h⟩ := bindS h
  refine cF 8 (ok_cmp_isNaN_int hv2) ?_
  refine ve 1 20 [(0, I a0), (1, I a1), (5, B v1)] [] ?_
  refine srv 1 20 [(0, I a0), (1, I a1), (5, B v1), (9, I a1)] [] ?_
  obtain ⟨v3, hv4, h⟩ := bindS h
  refine cF 10 (ok_cmp_isNaN_int hv4) ?_
  refine ve 1 20 [(0, I a0), (1, I a1), (5, B v1), (6, B v3)] [] ?_
  refine pwp_seq ?_
  refine srve 20 [(0, I a0), (1, I a1), (6, B v3), (11, B v1)] [] ?_
  refine pc h (fun h => ?_) (fun h => ?_)
  refine pwp_seq ?_
  refine srve 20 [(12, B v3)] [] ?_
  refine pc h (fun h => ?_) (fun h => ?_)
  refine srve 20 [(4, I 0)] [] ?_
  cases h
  exact pwp_ret rz
  refine pwp_skip ?_
  refine srve 20 [(4, I (-1))] [] ?_
  cases h
  exact pwp_ret rz
  refine pwp_skip ?_
  refine pwp_seq ?_
  refine srve 20 [(0, I a0), (1, I a1), (13, B v3)] [] ?_
  refine pc h (fun h => ?_) (fun h => ?_)
  refine srve 20 [(4, I 1)] [] ?_
  cases h
  exact pwp_ret rz
  refine pwp_skip ?_
  refine pwp_seq ?_
  refine srve 20 [(0, I a0), (1, I a1), (16, B ((decide (a0 < a1))))] [] ?_
  refine pc h (fun h => ?_) (fun h => ?_)
  refine srve 20 [(4, I (-1))] [] ?_
  cases h
  exact pwp_ret rz
  refine pwp_skip ?_
  refine pwp_seq ?_
  refine srve 20 [(19, B ((decide (a0 > a1))))] [] ?_
  refine pc h (fun h => ?_) (fun h => ?_)
  refine srve 20 [(4, I 1)] [] ?_
  cases h
  exact pwp_ret rz
  refine pwp_skip ?_
  refine srve 20 [(4, I 0)] [] ?_
  cases h
  exact pwp_ret rz
def impl_fold_j2 (a2 : Int) (x5 : Bool) : Option Int := bif x5 then some 2 else some ((w64 (1 - a2)))
def impl_fold_j1 (a0 : Int) (a1 : Int) (a2 : Int) (x3 : Bool) : Option Int := bif x3 then some a2 else bif (a0 == 2) then impl_fold_j2 a2 true else impl_fold_j2 a2 ((a1 == 2))
def impl_fold_j0 (a0 : Int) (a1 : Int) (a2 : Int) (x1 : Bool) : Option Int := bif x1 then some (-1) else bif (a0 == a2) then impl_fold_j1 a0 a1 a2 true else impl_fold_j1 a0 a1 a2 ((a1 == a2))
def impl_fold (a0 : Int) (a1 : Int) (a2 : Int) : Option Int := (impl_TruthOk a0).bind fun v9 => bif (!v9) then impl_fold_j0 a0 a1 a2 true else (impl_TruthOk a1).bind fun v11 => impl_fold_j0 a0 a1 a2 ((!v11))
theorem ok_impl_fold {a0 : Int} {a1 : Int} {a2 : Int} {y : Int} (h : impl_fold a0 a1 a2 = some y) : OK Try.prog 161 [I a0, I a1, I a2] (I y) := by
  refine ow Try.func161 fun Γ hX => ?_
  unfold impl_fold at h
  refine srve 35 [(0, I a0), (1, I a1), (2, I a2)] [] ?_
  refine pwp_seq ?_
  refine pwp_block ?_
  refine pwp_seq ?_
  refine pwp_join (σ := Bool) (fun x1 => (⟨35, [(0, I a0), (1, I a1), (2, I a2), (7, B x1)], []⟩ : St)) (fun x1 => impl_fold_j0 a0 a1 a2 x1 = some y) ?_ ?_
  refine rv 1 35 [(0, I a0), (1, I a1), (2, I a2), (8, I a0)] [] ?_
  obtain ⟨v9, hv10, h⟩ := bindS h
  refine cF 9 (ok_impl_TruthOk hv10) ?_
  refine v 2 35 [(0, I a0), (1, I a1), (2, I a2), (11, B ((!v9)))] [] ?_
  rcases fk ((!v9)) with hc13 | hc13
  replace h := bT hc13 h
  rw [hc13]
  refine ve 5 35 [(0, I a0), (1, I a1), (2, I a2), (7, B true)] [] ?_
  exact ⟨true, h, it [0, 1, 2, 7]⟩
  replace h := bF hc13 h
  rw [hc13]
  refine v 1 35 [(0, I a0), (1, I a1), (2, I a2), (11, B false), (12, I a1)] [] ?_
  obtain ⟨v11, hv12, h⟩ := bindS h
  refine cF 13 (ok_impl_TruthOk hv12) ?_
  refine ve 3 35 [(0, I a0), (1, I a1), (2, I a2), (7, B ((!v11)))] [] ?_
  exact ⟨(!v11), h, it [0, 1, 2, 7]⟩
  rintro x1 h
  unfold impl_fold_j0 at h
  refine pc h (fun h => ?_) (fun h => ?_)
  refine srve 35 [(6, I (-1))] [] ?_
  cases h
  exact pwp_ret rz
  refine pwp_seq ?_
  refine pwp_join (σ := Bool) (fun x3 => (⟨35, [(0, I a0), (1, I a1), (2, I a2), (16, B x3)], []⟩ : St)) (fun x3 => impl_fold_j1 a0 a1 a2 x3 = some y) ?_ ?_
  refine rv 4 35 [(0, I a0), (1, I a1), (2, I a2), (20, B ((a0 == a2)))] [] ?_
  rcases fk ((a0 == a2)) with hc8 | hc8
  replace h := bT hc8 h
  rw [hc8]
  refine ve 5 35 [(0, I a0), (1, I a1), (2, I a2), (16, B true)] [] ?_
  exact ⟨true, h, it [0, 1, 2, 16]⟩
  replace h := bF hc8 h
  rw [hc8]
  refine ve 5 35 [(0, I a0), (1, I a1), (2, I a2), (16, B ((a1 == a2)))] [] ?_
  exact ⟨(a1 == a2), h, it [0, 1, 2, 16]⟩
  rintro x3 h
  unfold impl_fold_j1 at h
  refine pc h (fun h => ?_) (fun h => ?_)
  refine srve 35 [(6, I a2)] [] ?_
  cases h
  exact pwp_ret rz
  refine pwp_seq ?_
  refine pwp_join (σ := Bool) (fun x5 => (⟨35, [(2, I a2), (26, B x5)], []⟩ : St)) (fun x5 => impl_fold_j2 a2 x5 = some y) ?_ ?_
  refine rv 3 35 [(1, I a1), (2, I a2), (29, B ((a0 == 2)))] [] ?_
  rcases fk ((a0 == 2)) with hc7 | hc7
  replace h := bT hc7 h
  rw [hc7]
  refine ve 4 35 [(2, I a2), (26, B true)] [] ?_
  exact ⟨true, h, it [2, 26]⟩
  replace h := bF hc7 h
  rw [hc7]
  refine ve 4 35 [(2, I a2), (26, B ((a1 == 2)))] [] ?_
  exact ⟨(a1 == 2), h, it [2, 26]⟩
  rintro x5 h
  unfold impl_fold_j2 at h
  refine pc h (fun h => ?_) (fun h => ?_)
  refine srve 35 [(6, I 2)] [] ?_
  cases h
  exact pwp_ret rz
  refine pwp_skip ?_
  refine srve 35 [(6, I ((w64 (1 - a2))))] [] ?_
  cases h
  exact pwp_ret rz
def cmp_Compare_string (a0 : ByteArray) (a1 : ByteArray) : Option Int := (cmp_isNaN_string a0).bind fun v1 => (cmp_isNaN_string a1).bind fun v3 => bif v1 then bif v3 then some 0 else some (-1) else bif v3 then some 1 else bif (Op.bytesLess a0.toList a1.toList) then some (-1) else bif (!Op.bytesLess a0.toList a1.toList && !(a0.toList == a1.toList)) then some 1 else some 0
theorem ok_cmp_Compare_string {a0 : ByteArray} {a1 : ByteArray} {y : Int} (h : cmp_Compare_string a0 a1 = some y) : OK Try.prog 165 [S a0, S a1] (I y) := by
  refine ow Try.func165 fun Γ hX => ?_
  unfold cmp_Compare_string at h
  refine srve 20 [(0, S a0), (1, S a1)] [] ?_
  refine srv 1 20 [(0, S a0), (1, S a1), (7, S a0)] [] ?_
  obtain ⟨v1, hv2, h⟩ := bindS h
  refine cF 8 (ok_cmp_isNaN_string hv2) ?_
  refine ve 1 20 [(0, S a0), (1, S a1), (5, B v1)] [] ?_
  refine srv 1 20 [(0, S a0), (1, S a1), (5, B v1), (9, S a1)] [] ?_
  obtain ⟨v3, hv4, h⟩ := bindS h
  refine cF 10 (ok_cmp_isNaN_string hv4) ?_
  refine ve 1 20 [(0, S a0), (1, S a1), (5, B v1), (6, B v3)] [] ?_
  refine pwp_seq ?_
  refine srve 20 [(0, S a0), (1, S a1), (6, B v3), (11, B v1)] [] ?_
  refine pc h (fun h => ?_) (fun h => ?_)
  refine pwp_seq ?_
  refine srve 20 [(12, B v3)] [] ?_
  refine pc h (fun h => ?_) (fun h => ?_)
  refine srve 20 [(4, I 0)] [] ?_
  cases h
  exact pwp_ret rz
  refine pwp_skip ?_
  refine srve 20 [(4, I (-1))] [] ?_
  cases h
  exact pwp_ret rz
  refine pwp_skip ?_
  refine pwp_seq ?_
  refine srve 20 [(0, S a0), (1, S a1), (13, B v3)] [] ?_
  refine pc h (fun h => ?_) (fun h => ?_)
  refine srve 20 [(4, I 1)] [] ?_
  cases h
  exact pwp_ret rz
  refine pwp_skip ?_
  refine pwp_seq ?_
  refine srve 20 [(0, S a0), (1, S a1), (16, B ((Op.bytesLess a0.toList a1.toList)))] [] ?_
  refine pc h (fun h => ?_) (fun h => ?_)
  refine srve 20 [(4, I (-1))] [] ?_
  cases h
  exact pwp_ret rz
  refine pwp_skip ?_
  refine pwp_seq ?_
  refine srve 20 [(19, B ((!Op.bytesLess a0.toList a1.toList && !(a0.toList == a1.toList))))] [] ?_
  refine pc h (fun h => ?_) (fun h => ?_)
  refine srve 20 [(4, I 1)] [] ?_
  cases h
  exact pwp_ret rz
  refine pwp_skip ?_
  refine srve 20 [(4, I 0)] [] ?_
  cases h
  exact pwp_ret rz
def slices_Grow_impl_Column_impl_Column_n0 (a1 : Int) : Option (List T_impl_Column) := bif (decide (a1 < 0)) then none else bif (decide (((w64 (a1 - ((w64 (0 - ((0 : Int)))))))) > 0)) then (apzI ((w64 (a1 - ((w64 (0 - ((0 : Int)))))))) ((T_impl_Column.mk 0 false))).bind fun v3 => (slI v3 none (some ((0 : Int))) none).bind fun v5 => some v5 else some (([] : List T_impl_Column))
theorem ok_slices_Grow_impl_Column_impl_Column_n0 {a1 : Int} {y : List T_impl_Column} (h : slices_Grow_impl_Column_impl_Column_n0 a1 = some y) : OK Try.prog 126 [.arr 2 0 (eL ([] : List T_impl_Column)) true, I a1] (O y) := by
  refine ow Try.func126 fun Γ hX => ?_
  unfold slices_Grow_impl_Column_impl_Column_n0 at h
  refine srve 27 [(0, .arr 2 0 (eL ([] : List T_impl_Column)) true), (1, I a1)] [] ?_
  refine pwp_seq ?_
  refine srve 27 [(0, .arr 2 0 (eL ([] : List T_impl_Column)) true), (1, I a1), (6, B ((decide (a1 < 0))))] [] ?_
  refine pc h (fun h => ?_) (fun h => ?_)
  cases h
  refine pwp_skip ?_
  refine pwp_seq ?_
  refine srv 2 27 [(0, .arr 2 0 (eL ([] : List T_impl_Column)) true), (8, I a1), (9, .arr 2 0 (eL ([] : List T_impl_Column)) true)] [] ?_
  refine opsP_E (dd := some 10) (x := I 0) (CoreE.of_y (capV_sound (n := 0) τ_ok (by kernel_rfl))) ?_
  refine ve 5 27 [(0, .arr 2 0 (eL ([] : List T_impl_Column)) true), (1, I ((w64 (a1 - ((w64 (0 - ((0 : Int)))))))))] [] ?_
  refine srve 27 [(0, .arr 2 0 (eL ([] : List T_impl_Column)) true), (1, I ((w64 (a1 - ((w64 (0 - ((0 : Int))))))))), (16, B ((decide (((w64 (a1 - ((w64 (0 - ((0 : Int)))))))) > 0))))] [] ?_
  refine pc h (fun h => ?_) (fun h => ?_)
  refine rv 2 27 [(0, .arr 2 0 (eL ([] : List T_impl_Column)) true), (1, I ((w64 (a1 - ((w64 (0 - ((0 : Int))))))))), (17, .arr 2 0 (eL ([] : List T_impl_Column)) true), (18, .arr 2 0 (eL ([] : List T_impl_Column)) true)] [] ?_
  refine opsP_E (dd := some 19) (x := I 0) (CoreE.of_y (capV_sound (n := 0) τ_ok (by kernel_rfl))) ?_
  refine opsP_E (dd := some 20) (x := .arr 2 0 [] true) (CoreE.of_y (slnV_sound τ_ok (by kernel_rfl))) ?_
  refine v 1 27 [(0, .arr 2 0 (eL ([] : List T_impl_Column)) true), (20, .arr 2 0 (eL ([] : List T_impl_Column)) true), (21, I ((w64 (a1 - ((w64 (0 - ((0 : Int)))))))))] [] ?_
  obtain ⟨v3, hv4, h⟩ := bindS h
  refine opsP_apz τ_ok 22 0 _ hv4 (by kernel_rfl) (by kernel_rfl) ?_
  refine v 2 27 [(22, rf 0 0 2 v3), (24, I ((0 : Int)))] [sl 0 v3] ?_
  obtain ⟨v5, hv6, h⟩ := bindS h
  refine opsP_slr τ_ok 25 0 0 v3.length hv6 rfl (by kernel_rfl) ?_
  refine ve 1 27 [(0, rf 0 0 2 v5)] [sl 0 v3] ?_
  refine srve 27 [(4, rf 0 0 2 v5)] [sl 0 v3] ?_
  refine ip 27 [(4, rf 0 0 2 v5)] [sl 0 v3] ?_
  refine pwp_imp (Imp.cut (st' := ⟨27, [(4, rf 0 0 2 v5)], [sl 0 v5]⟩) 0 0 v3 v5 (by kernel_rfl) (slI_view hv6) (by kernel_rfl)) ?_
  have h := si h
  subst h
  exact pwp_ret (rt (rf 0 0 2 v5) (OutP.list (v := 0) (by kernel_rfl)))
  refine pwp_skip ?_
  refine srve 27 [(4, .arr 2 0 (eL ([] : List T_impl_Column)) true)] [] ?_
  refine ip 27 [(4, .arr 2 0 (eL ([] : List T_impl_Column)) true)] [] ?_
  refine pwp_imp (Imp.thawS (st' := ⟨27, [(4, .ref 0 0 0 2 (([] : List T_impl_Column)).length false)], [some ⟨0, eL (([] : List T_impl_Column))⟩]⟩) 4 [4] (by kernel_rfl)) ?_
  have h := si h
  subst h
  exact pwp_ret (rt (.ref 0 0 0 2 (([] : List T_impl_Column)).length false) (OutP.list (v := 0) (by kernel_rfl)))
def slices_Grow_impl_Value_impl_Value_n0 (a1 : Int) : Option (List T_impl_Value) := bif (decide (a1 < 0)) then none else bif (decide (((w64 (a1 - ((w64 (0 - ((0 : Int)))))))) > 0)) then (apzI ((w64 (a1 - ((w64 (0 - ((0 : Int)))))))) ((T_impl_Value.mk 0 0 (ByteArray.mk #[])))).bind fun v3 => (slI v3 none (some ((0 : Int))) none).bind fun v5 => some v5 else some (([] : List T_impl_Value))
theorem ok_slices_Grow_impl_Value_impl_Value_n0 {a1 : Int} {y : List T_impl_Value} (h : slices_Grow_impl_Value_impl_Value_n0 a1 = some y) : OK Try.prog 128 [.arr 3 0 (eL ([] : List T_impl_Value)) true, I a1] (O y) := by
  refine ow Try.func128 fun Γ hX => ?_
  unfold slices_Grow_impl_Value_impl_Value_n0 at h
  refine srve 27 [(0, .arr 3 0 (eL ([] : List T_impl_Value)) true), (1, I a1)] [] ?_
  refine pwp_seq ?_
  refine srve 27 [(0, .arr 3 0 (eL ([] : List T_impl_Value)) true), (1, I a1), (6, B ((decide (a1 < 0))))] [] ?_
  refine pc h (fun h => ?_) (fun h => ?_)
  cases h
  refine pwp_skip ?_
  refine pwp_seq ?_
  refine srv 2 27 [(0, .arr 3 0 (eL ([] : List T_impl_Value)) true), (8, I a1), (9, .arr 3 0 (eL ([] : List T_impl_Value)) true)] [] ?_
  refine opsP_E (dd := some 10) (x := I 0) (CoreE.of_y (capV_sound (n := 0) τ_ok (by kernel_rfl))) ?_
  refine ve 5 27 [(0, .arr 3 0 (eL ([] : List T_impl_Value)) true), (1, I ((w64 (a1 - ((w64 (0 - ((0 : Int)))))))))] [] ?_
  refine srve 27 [(0, .arr 3 0 (eL ([] : List T_impl_Value)) true), (1, I ((w64 (a1 - ((w64 (0 - ((0 : Int))))))))), (16, B ((decide (((w64 (a1 - ((w64 (0 - ((0 : Int)))))))) > 0))))] [] ?_
  refine pc h (fun h => ?_) (fun h => ?_)
  refine rv 2 27 [(0, .arr 3 0 (eL ([] : List T_impl_Value)) true), (1, I ((w64 (a1 - ((w64 (0 - ((0 : Int))))))))), (17, .arr 3 0 (eL ([] : List T_impl_Value)) true), (18, .arr 3 0 (eL ([] : List T_impl_Value)) true)] [] ?_
  refine opsP_E (dd := some 19) (x := I 0) (CoreE.of_y (capV_sound (n := 0) τ_ok (by kernel_rfl))) ?_
  refine opsP_E (dd := some 20) (x := .arr 3 0 [] true) (CoreE.of_y (slnV_sound τ_ok (by kernel_rfl))) ?_
  refine v 1 27 [(0, .arr 3 0 (eL ([] : List T_impl_Value)) true), (20, .arr 3 0 (eL ([] : List T_impl_Value)) true), (21, I ((w64 (a1 - ((w64 (0 - ((0 : Int)))))))))] [] ?_
  obtain ⟨v3, hv4, h⟩ := bindS h
  refine opsP_apz τ_ok 22 0 _ hv4 (by kernel_rfl) (by kernel_rfl) ?_
  refine v 2 27 [(22, rf 0 0 3 v3), (24, I ((0 : Int)))] [sl 0 v3] ?_
  obtain ⟨v5, hv6, h⟩ := bindS h
  refine opsP_slr τ_ok 25 0 0 v3.length hv6 rfl (by kernel_rfl) ?_
  refine ve 1 27 [(0, rf 0 0 3 v5)] [sl 0 v3] ?_
  refine srve 27 [(4, rf 0 0 3 v5)] [sl 0 v3] ?_
  refine ip 27 [(4, rf 0 0 3 v5)] [sl 0 v3] ?_
  refine pwp_imp (Imp.cut (st' := ⟨27, [(4, rf 0 0 3 v5)], [sl 0 v5]⟩) 0 0 v3 v5 (by kernel_rfl) (slI_view hv6) (by kernel_rfl)) ?_
  have h := si h
  subst h
  exact pwp_ret (rt (rf 0 0 3 v5) (OutP.list (v := 0) (by kernel_rfl)))
  refine pwp_skip ?_
  refine srve 27 [(4, .arr 3 0 (eL ([] : List T_impl_Value)) true)] [] ?_
  refine ip 27 [(4, .arr 3 0 (eL ([] : List T_impl_Value)) true)] [] ?_
  refine pwp_imp (Imp.thawS (st' := ⟨27, [(4, .ref 0 0 0 3 (([] : List T_impl_Value)).length false)], [some ⟨0, eL (([] : List T_impl_Value))⟩]⟩) 4 [4] (by kernel_rfl)) ?_
  have h := si h
  subst h
  exact pwp_ret (rt (.ref 0 0 0 3 (([] : List T_impl_Value)).length false) (OutP.list (v := 0) (by kernel_rfl)))
def spec_l20Expr_j0 (rec0 : T_spec_l20Rd → (List T_impl_Column) → Int → Int → Option ((List T_impl_Part) × T_spec_l20Rd)) (a1 : List T_impl_Column) (a2 : Int) (a3 : Int) (x1 : Bool) (x2 : T_spec_l20Rd) : Option ((List T_impl_Part) × T_spec_l20Rd) := bif x1 then (spec_l20Leaf x2 a1 a2).bind fun v4 => some ((([v4.1] : List T_impl_Part)), v4.2) else bif (a2 == 1) then (rec0 x2 a1 a2 ((w64 (a3 - 1)))).bind fun v7 => (spec_l20Leaf v7.2 a1 a2).bind fun v9 => (app v7.1 (([v9.1] : List T_impl_Part))).bind fun v11 => (app v11 (([(T_impl_Part.mk 3 0 (T_impl_Value.mk 0 0 (ByteArray.mk #[])))] : List T_impl_Part))).bind fun v13 => some (v13, v9.2) else bif (a2 == 2) then (spec_l20Leaf x2 a1 a2).bind fun v16 => some ((([v16.1] : List T_impl_Part)), v16.2) else (spec_l20Rd_pick x2 6).bind fun v18 => bif (v18.1 == 0) then (rec0 v18.2 a1 3 ((w64 (a3 - 1)))).bind fun v21 => (rec0 v21.2 a1 3 ((w64 (a3 - 2)))).bind fun v23 => (app v21.1 v23.1).bind fun v25 => (spec_l20Rd_pick v23.2 2).bind fun v27 => (app v25 (([(T_impl_Part.mk ((w64 (5 + v27.1))) 0 (T_impl_Value.mk 0 0 (ByteArray.mk #[])))] : List T_impl_Part))).bind fun v29 => some (v29, v27.2) else bif (v18.1 == 1) then (rec0 v18.2 a1 3 ((w64 (a3 - 1)))).bind fun v32 => (app v32.1 (([(T_impl_Part.mk 7 0 (T_impl_Value.mk 0 0 (ByteArray.mk #[])))] : List T_impl_Part))).bind fun v34 => some (v34, v32.2) else bif (v18.1 == 2) then (spec_l20Rd_pick v18.2 3).bind fun v37 => (rec0 v37.2 a1 ((w64 (1 + v37.1))) ((w64 (a3 - 1)))).bind fun v39 => (app v39.1 (([(T_impl_Part.mk 8 0 (T_impl_Value.mk 0 0 (ByteArray.mk #[])))] : List T_impl_Part))).bind fun v41 => some (v41, v39.2) else (spec_l20Rd_pick v18.2 3).bind fun v43 => (rec0 v43.2 a1 ((w64 (1 + v43.1))) ((w64 (a3 - 1)))).bind fun v45 => (spec_l20Leaf v45.2 a1 ((w64 (1 + v43.1)))).bind fun v47 => (app v45.1 (([v47.1] : List T_impl_Part))).bind fun v49 => (spec_l20Rd_pick v47.2 4).bind fun v51 => (app v49 (([(T_impl_Part.mk 4 ((w64 (1 + v51.1))) (T_impl_Value.mk 0 0 (ByteArray.mk #[])))] : List T_impl_Part))).bind fun v53 => some (v53, v51.2)
def spec_l20Expr_s (rec0 : T_spec_l20Rd → (List T_impl_Column) → Int → Int → Option ((List T_impl_Part) × T_spec_l20Rd)) (a0 : T_spec_l20Rd) (a1 : List T_impl_Column) (a2 : Int) (a3 : Int) : Option ((List T_impl_Part) × T_spec_l20Rd) := bif (decide (a3 < 1)) then spec_l20Expr_j0 rec0 a1 a2 a3 true a0 else (spec_l20Rd_pick a0 4).bind fun v55 => spec_l20Expr_j0 rec0 a1 a2 a3 ((v55.1 == 0)) v55.2
def spec_l20Expr_f : Nat → T_spec_l20Rd → (List T_impl_Column) → Int → Int → Option ((List T_impl_Part) × T_spec_l20Rd)
  | 0, _, _, _, _ => none
  | f + 1, a0, a1, a2, a3 => spec_l20Expr_s (spec_l20Expr_f f) a0 a1 a2 a3
def spec_l20Expr (a0 : T_spec_l20Rd) (a1 : List T_impl_Column) (a2 : Int) (a3 : Int) : Option ((List T_impl_Part) × T_spec_l20Rd) := spec_l20Expr_f FUEL a0 a1 a2 a3
theorem ok_spec_l20Expr_s {rec0 : T_spec_l20Rd → (List T_impl_Column) → Int → Int → Option ((List T_impl_Part) × T_spec_l20Rd)} (hrec : ∀ {a0 : T_spec_l20Rd} {a1 : List T_impl_Column} {a2 : Int} {a3 : Int} {y : (List T_impl_Part) × T_spec_l20Rd}, rec0 a0 a1 a2 a3 = some y → OKb Try.prog 29 (Enc.cells a0) [A a1, I a2, I a3] (O y.1) (Enc.cells y.2)) {a0 : T_spec_l20Rd} {a1 : List T_impl_Column} {a2 : Int} {a3 : Int} {y : (List T_impl_Part) × T_spec_l20Rd} (h : spec_l20Expr_s rec0 a0 a1 a2 a3 = some y) : OKb Try.prog 29 (Enc.cells a0) [A a1, I a2, I a3] (O y.1) (Enc.cells y.2) := by
  refine OKb_of_pwp τ_ok Try.func29 rfl (by kernel_rfl) rfl (Enc.frz _) (Enc.frz _) fun Γ hQ => ?_
  unfold spec_l20Expr_s at h
  refine srve 111 [(0, .ptr 0 0 0), (1, A a1), (2, I a2), (3, I a3)] [sc 0 a0] ?_
  refine pwp_seq ?_
  refine pwp_seq ?_
  refine pwp_join (σ := Bool × T_spec_l20Rd) (fun (x1, x2) => (⟨111, [(0, .ptr 0 0 0), (1, A a1), (2, I a2), (3, I a3), (16, B x1)], [sc 0 x2]⟩ : St)) (fun (x1, x2) => spec_l20Expr_j0 rec0 a1 a2 a3 x1 x2 = some y) ?_ ?_
  refine rv 3 111 [(0, .ptr 0 0 0), (1, A a1), (2, I a2), (3, I a3), (12, B ((decide (a3 < 1))))] [sc 0 a0] ?_
  rcases fk ((decide (a3 < 1))) with hc57 | hc57
  replace h := bT hc57 h
  rw [hc57]
  refine ve 4 111 [(0, .ptr 0 0 0), (1, A a1), (2, I a2), (3, I a3), (16, B true)] [sc 0 a0] ?_
  exact ⟨(true, a0), h, it [0, 1, 2, 3, 16]⟩
  replace h := bF hc57 h
  rw [hc57]
  refine v 1 111 [(0, .ptr 0 0 0), (1, A a1), (2, I a2), (3, I a3), (12, B false), (13, .ptr 0 0 0)] [sc 0 a0] ?_
  obtain ⟨v55, hv56, h⟩ := bindS h
  refine cB 14 0 0 (ok_spec_l20Rd_pick hv56) ?_
  refine ve 2 111 [(0, .ptr 0 0 0), (1, A a1), (2, I a2), (3, I a3), (16, B ((v55.1 == 0)))] [sc 0 v55.2] ?_
  exact ⟨((v55.1 == 0), v55.2), h, it [0, 1, 2, 3, 16]⟩
  rintro ⟨x1, x2⟩ h
  dsimp only at h ⊢
  unfold spec_l20Expr_j0 at h
  refine pc h (fun h => ?_) (fun h => ?_)
  refine srv 3 111 [(17, .ptr 0 0 0), (18, A a1), (19, I a2)] [sc 0 x2] ?_
  obtain ⟨v4, hv5, h⟩ := bindS h
  refine cB 20 0 0 (ok_spec_l20Leaf hv5) ?_
  refine opsP_E (dd := some 21) (x := .ref 1 0 0 5 (([v4.1] : List T_impl_Part)).length false) (bsl_N (cells := eL (([v4.1] : List T_impl_Part))) τ_ok 21 1 (by first | exact pn hQ | exact pk hQ) (by kernel_rfl) (by kernel_rfl)) ?_
  refine ve 1 111 [(8, .ref 1 0 0 5 (([v4.1] : List T_impl_Part)).length false)] [sc 0 v4.2, some ⟨0, eL (([v4.1] : List T_impl_Part))⟩] ?_
  have h := si h
  subst h
  exact pwp_ret ⟨.inr rfl, .ref 1 0 0 5 (([v4.1] : List T_impl_Part)).length false, _, 0, by kernel_rfl, (OutP.list (v := 0) (by kernel_rfl)), by decide, by decide, by kernel_rfl⟩
  refine pwp_skip ?_
  refine pwp_seq ?_
  refine srve 111 [(0, .ptr 0 0 0), (1, A a1), (2, I a2), (3, I a3), (23, B ((a2 == 1)))] [sc 0 x2] ?_
  refine pc h (fun h => ?_) (fun h => ?_)
  refine srv 5 111 [(0, .ptr 0 0 0), (1, A a1), (2, I a2), (24, .ptr 0 0 0), (25, A a1), (26, I a2), (28, I ((w64 (a3 - 1))))] [sc 0 x2] ?_
  obtain ⟨v7, hv8, h⟩ := bindS h
  refine opsP_E (dd := some 29) (x := rf 1 0 5 v7.1) (callBN_E τ 29 0 0 1 (by first | exact pn hQ | exact pk hQ) (by decide) (hrec hv8) rfl (by kernel_rfl) (by kernel_rfl)) ?_
  refine v 3 111 [(29, rf 1 0 5 v7.1), (30, .ptr 0 0 0), (31, A a1), (32, I a2)] [sc 0 v7.2, sl 0 v7.1] ?_
  obtain ⟨v9, hv10, h⟩ := bindS h
  refine cB 33 0 0 (ok_spec_l20Leaf hv10) ?_
  refine v 1 111 [(29, rf 1 0 5 v7.1), (34, .arr 5 (([v9.1] : List T_impl_Part)).length (eL ([v9.1] : List T_impl_Part)) true)] [sc 0 v9.2, sl 0 v7.1] ?_
  obtain ⟨v11, hv12, h⟩ := bindS h
  refine opsP_app τ_ok 35 1 0 (pn hQ) hv12 (by kernel_rfl) ?_
  refine v 2 111 [(35, rf 1 1 5 v11), (37, .arr 5 (([(T_impl_Part.mk 3 0 (T_impl_Value.mk 0 0 (ByteArray.mk #[])))] : List T_impl_Part)).length (eL ([(T_impl_Part.mk 3 0 (T_impl_Value.mk 0 0 (ByteArray.mk #[])))] : List T_impl_Part)) true)] [sc 0 v9.2, sl 1 v11] ?_
  obtain ⟨v13, hv14, h⟩ := bindS h
  refine opsP_app τ_ok 38 1 1 (pn hQ) hv14 (by kernel_rfl) ?_
  refine ve 1 111 [(8, rf 1 2 5 v13)] [sc 0 v9.2, sl 2 v13] ?_
  have h := si h
  subst h
  exact pwp_ret ⟨.inr rfl, rf 1 2 5 v13, _, 0, by kernel_rfl, (OutP.list (v := 2) (by kernel_rfl)), by decide, by decide, by kernel_rfl⟩
  refine pwp_skip ?_
  refine pwp_seq ?_
  refine srve 111 [(0, .ptr 0 0 0), (1, A a1), (2, I a2), (3, I a3), (40, B ((a2 == 2)))] [sc 0 x2] ?_
  refine pc h (fun h => ?_) (fun h => ?_)
  refine srv 3 111 [(41, .ptr 0 0 0), (42, A a1), (43, I a2)] [sc 0 x2] ?_
  obtain ⟨v16, hv17, h⟩ := bindS h
  refine cB 44 0 0 (ok_spec_l20Leaf hv17) ?_
  refine opsP_E (dd := some 45) (x := .ref 1 0 0 5 (([v16.1] : List T_impl_Part)).length false) (bsl_N (cells := eL (([v16.1] : List T_impl_Part))) τ_ok 45 1 (by first | exact pn hQ | exact pk hQ) (by kernel_rfl) (by kernel_rfl)) ?_
  refine ve 1 111 [(8, .ref 1 0 0 5 (([v16.1] : List T_impl_Part)).length false)] [sc 0 v16.2, some ⟨0, eL (([v16.1] : List T_impl_Part))⟩] ?_
  have h := si h
  subst h
  exact pwp_ret ⟨.inr rfl, .ref 1 0 0 5 (([v16.1] : List T_impl_Part)).length false, _, 0, by kernel_rfl, (OutP.list (v := 0) (by kernel_rfl)), by decide, by decide, by kernel_rfl⟩
  refine pwp_skip ?_
  refine pwp_seq ?_
  refine srv 1 111 [(0, .ptr 0 0 0), (1, A a1), (3, I a3), (46, .ptr 0 0 0)] [sc 0 x2] ?_
  obtain ⟨v18, hv19, h⟩ := bindS h
  refine cB 47 0 0 (ok_spec_l20Rd_pick hv19) ?_
  refine ve 0 111 [(0, .ptr 0 0 0), (1, A a1), (3, I a3), (47, I v18.1)] [sc 0 v18.2] ?_
  refine pwp_block ?_
  refine srve 111 [(0, .ptr 0 0 0), (1, A a1), (3, I a3), (47, I v18.1), (48, B ((v18.1 == 0)))] [sc 0 v18.2] ?_
  refine pc h (fun h => ?_) (fun h => ?_)
  refine srv 4 111 [(0, .ptr 0 0 0), (1, A a1), (3, I a3), (50, .ptr 0 0 0), (51, A a1), (53, I ((w64 (a3 - 1))))] [sc 0 v18.2] ?_
  obtain ⟨v21, hv22, h⟩ := bindS h
  refine opsP_E (dd := some 54) (x := rf 1 0 5 v21.1) (callBN_E τ 54 0 0 1 (by first | exact pn hQ | exact pk hQ) (by decide) (hrec hv22) rfl (by kernel_rfl) (by kernel_rfl)) ?_
  refine v 4 111 [(0, .ptr 0 0 0), (54, rf 1 0 5 v21.1), (55, .ptr 0 0 0), (56, A a1), (58, I ((w64 (a3 - 2))))] [sc 0 v21.2, sl 0 v21.1] ?_
  obtain ⟨v23, hv24, h⟩ := bindS h
  refine cBo 59 0 0 (hrec hv24) ?_
  obtain ⟨v25, hv26, h⟩ := bindS h
  refine opsP_app τ_ok 60 1 0 (pn hQ) hv26 (by kernel_rfl) ?_
  refine v 1 111 [(60, rf 1 1 5 v25), (61, .ptr 0 0 0)] [sc 0 v23.2, sl 1 v25] ?_
  obtain ⟨v27, hv28, h⟩ := bindS h
  refine cB 62 0 0 (ok_spec_l20Rd_pick hv28) ?_
  refine v 3 111 [(60, rf 1 1 5 v25), (65, .arr 5 (([(T_impl_Part.mk ((w64 (5 + v27.1))) 0 (T_impl_Value.mk 0 0 (ByteArray.mk #[])))] : List T_impl_Part)).length (eL ([(T_impl_Part.mk ((w64 (5 + v27.1))) 0 (T_impl_Value.mk 0 0 (ByteArray.mk #[])))] : List T_impl_Part)) true)] [sc 0 v27.2, sl 1 v25] ?_
  obtain ⟨v29, hv30, h⟩ := bindS h
  refine opsP_app τ_ok 66 1 1 (pn hQ) hv30 (by kernel_rfl) ?_
  refine ve 1 111 [(8, rf 1 2 5 v29)] [sc 0 v27.2, sl 2 v29] ?_
  have h := si h
  subst h
  exact pwp_ret ⟨.inr rfl, rf 1 2 5 v29, _, 0, by kernel_rfl, (OutP.list (v := 2) (by kernel_rfl)), by decide, by decide, by kernel_rfl⟩
  refine srve 111 [(0, .ptr 0 0 0), (1, A a1), (3, I a3), (47, I v18.1), (67, B ((v18.1 == 1)))] [sc 0 v18.2] ?_
  refine pc h (fun h => ?_) (fun h => ?_)
  refine srv 4 111 [(69, .ptr 0 0 0), (70, A a1), (72, I ((w64 (a3 - 1))))] [sc 0 v18.2] ?_
  obtain ⟨v32, hv33, h⟩ := bindS h
  refine opsP_E (dd := some 73) (x := rf 1 0 5 v32.1) (callBN_E τ 73 0 0 1 (by first | exact pn hQ | exact pk hQ) (by decide) (hrec hv33) rfl (by kernel_rfl) (by kernel_rfl)) ?_
  refine v 2 111 [(73, rf 1 0 5 v32.1), (75, .arr 5 (([(T_impl_Part.mk 7 0 (T_impl_Value.mk 0 0 (ByteArray.mk #[])))] : List T_impl_Part)).length (eL ([(T_impl_Part.mk 7 0 (T_impl_Value.mk 0 0 (ByteArray.mk #[])))] : List T_impl_Part)) true)] [sc 0 v32.2, sl 0 v32.1] ?_
  obtain ⟨v34, hv35, h⟩ := bindS h
  refine opsP_app τ_ok 76 1 0 (pn hQ) hv35 (by kernel_rfl) ?_
  refine ve 1 111 [(8, rf 1 1 5 v34)] [sc 0 v32.2, sl 1 v34] ?_
  have h := si h
  subst h
  exact pwp_ret ⟨.inr rfl, rf 1 1 5 v34, _, 0, by kernel_rfl, (OutP.list (v := 1) (by kernel_rfl)), by decide, by decide, by kernel_rfl⟩
  refine srve 111 [(0, .ptr 0 0 0), (1, A a1), (3, I a3), (77, B ((v18.1 == 2)))] [sc 0 v18.2] ?_
  refine pc h (fun h => ?_) (fun h => ?_)
  refine srv 3 111 [(3, I a3), (79, .ptr 0 0 0), (80, A a1), (81, .ptr 0 0 0)] [sc 0 v18.2] ?_
  obtain ⟨v37, hv38, h⟩ := bindS h
  refine cB 82 0 0 (ok_spec_l20Rd_pick hv38) ?_
  refine v 3 111 [(79, .ptr 0 0 0), (80, A a1), (83, I ((w64 (1 + v37.1)))), (85, I ((w64 (a3 - 1))))] [sc 0 v37.2] ?_
  obtain ⟨v39, hv40, h⟩ := bindS h
  refine opsP_E (dd := some 86) (x := rf 1 0 5 v39.1) (callBN_E τ 86 0 0 1 (by first | exact pn hQ | exact pk hQ) (by decide) (hrec hv40) rfl (by kernel_rfl) (by kernel_rfl)) ?_
  refine v 2 111 [(86, rf 1 0 5 v39.1), (88, .arr 5 (([(T_impl_Part.mk 8 0 (T_impl_Value.mk 0 0 (ByteArray.mk #[])))] : List T_impl_Part)).length (eL ([(T_impl_Part.mk 8 0 (T_impl_Value.mk 0 0 (ByteArray.mk #[])))] : List T_impl_Part)) true)] [sc 0 v39.2, sl 0 v39.1] ?_
  obtain ⟨v41, hv42, h⟩ := bindS h
  refine opsP_app τ_ok 89 1 0 (pn hQ) hv42 (by kernel_rfl) ?_
  refine ve 1 111 [(8, rf 1 1 5 v41)] [sc 0 v39.2, sl 1 v41] ?_
  have h := si h
  subst h
  exact pwp_ret ⟨.inr rfl, rf 1 1 5 v41, _, 0, by kernel_rfl, (OutP.list (v := 1) (by kernel_rfl)), by decide, by decide, by kernel_rfl⟩
  refine pwp_skip ?_
  refine srv 1 111 [(0, .ptr 0 0 0), (1, A a1), (3, I a3), (90, .ptr 0 0 0)] [sc 0 v18.2] ?_
  obtain ⟨v43, hv44, h⟩ := bindS h
  refine cB 91 0 0 (ok_spec_l20Rd_pick hv44) ?_
  refine ve 2 111 [(0, .ptr 0 0 0), (1, A a1), (3, I a3), (9, I ((w64 (1 + v43.1))))] [sc 0 v43.2] ?_
  refine srv 5 111 [(0, .ptr 0 0 0), (1, A a1), (9, I ((w64 (1 + v43.1)))), (93, .ptr 0 0 0), (94, A a1), (95, I ((w64 (1 + v43.1)))), (97, I ((w64 (a3 - 1))))] [sc 0 v43.2] ?_
  obtain ⟨v45, hv46, h⟩ := bindS h
  refine opsP_E (dd := some 98) (x := rf 1 0 5 v45.1) (callBN_E τ 98 0 0 1 (by first | exact pn hQ | exact pk hQ) (by decide) (hrec hv46) rfl (by kernel_rfl) (by kernel_rfl)) ?_
  refine v 3 111 [(0, .ptr 0 0 0), (98, rf 1 0 5 v45.1), (99, .ptr 0 0 0), (100, A a1), (101, I ((w64 (1 + v43.1))))] [sc 0 v45.2, sl 0 v45.1] ?_
  obtain ⟨v47, hv48, h⟩ := bindS h
  refine cB 102 0 0 (ok_spec_l20Leaf hv48) ?_
  refine v 1 111 [(0, .ptr 0 0 0), (98, rf 1 0 5 v45.1), (103, .arr 5 (([v47.1] : List T_impl_Part)).length (eL ([v47.1] : List T_impl_Part)) true)] [sc 0 v47.2, sl 0 v45.1] ?_
  obtain ⟨v49, hv50, h⟩ := bindS h
  refine opsP_app τ_ok 104 1 0 (pn hQ) hv50 (by kernel_rfl) ?_
  refine v 1 111 [(104, rf 1 1 5 v49), (105, .ptr 0 0 0)] [sc 0 v47.2, sl 1 v49] ?_
  obtain ⟨v51, hv52, h⟩ := bindS h
  refine cB 106 0 0 (ok_spec_l20Rd_pick hv52) ?_
  refine v 3 111 [(104, rf 1 1 5 v49), (109, .arr 5 (([(T_impl_Part.mk 4 ((w64 (1 + v51.1))) (T_impl_Value.mk 0 0 (ByteArray.mk #[])))] : List T_impl_Part)).length (eL ([(T_impl_Part.mk 4 ((w64 (1 + v51.1))) (T_impl_Value.mk 0 0 (ByteArray.mk #[])))] : List T_impl_Part)) true)] [sc 0 v51.2, sl 1 v49] ?_
  obtain ⟨v53, hv54, h⟩ := bindS h
  refine opsP_app τ_ok 110 1 1 (pn hQ) hv54 (by kernel_rfl) ?_
  refine ve 1 111 [(8, rf 1 2 5 v53)] [sc 0 v51.2, sl 2 v53] ?_
  have h := si h
  subst h
  exact pwp_ret ⟨.inr rfl, rf 1 2 5 v53, _, 0, by kernel_rfl, (OutP.list (v := 2) (by kernel_rfl)), by decide, by decide, by kernel_rfl⟩
theorem ok_spec_l20Expr_f : ∀ (f : Nat) {a0 : T_spec_l20Rd} {a1 : List T_impl_Column} {a2 : Int} {a3 : Int} {y : (List T_impl_Part) × T_spec_l20Rd}, spec_l20Expr_f f a0 a1 a2 a3 = some y → OKb Try.prog 29 (Enc.cells a0) [A a1, I a2, I a3] (O y.1) (Enc.cells y.2)
  | 0, _, _, _, _, _, h => by cases h
  | f + 1, _, _, _, _, _, h => ok_spec_l20Expr_s (fun h => ok_spec_l20Expr_f f h) h
theorem ok_spec_l20Expr {a0 : T_spec_l20Rd} {a1 : List T_impl_Column} {a2 : Int} {a3 : Int} {y : (List T_impl_Part) × T_spec_l20Rd} (h : spec_l20Expr a0 a1 a2 a3 = some y) : OKb Try.prog 29 (Enc.cells a0) [A a1, I a2, I a3] (O y.1) (Enc.cells y.2) := ok_spec_l20Expr_f FUEL h
def impl_ColumnsOk (a0 : List T_impl_Column) : Option Bool := bif (decide (((a0.length : Int)) ≤ 4)) then (slices_ContainsFunc_impl_Column_impl_Column a0 impl_ColumnsOk_1).bind fun v1 => some ((!v1)) else some false
theorem ok_impl_ColumnsOk {a0 : List T_impl_Column} {y : Bool} (h : impl_ColumnsOk a0 = some y) : OK Try.prog 31 [A a0] (B y) := by
  refine ow Try.func31 fun Γ hX => ?_
  unfold impl_ColumnsOk at h
  refine srve 11 [(0, A a0)] [] ?_
  refine srv 4 11 [(0, A a0), (6, B ((decide (((a0.length : Int)) ≤ 4))))] [] ?_
  rcases fk ((decide (((a0.length : Int)) ≤ 4))) with hc3 | hc3
  replace h := bT hc3 h
  rw [hc3]
  refine v 1 11 [(6, B true), (7, A a0)] [] ?_
  obtain ⟨v1, hv2, h⟩ := bindS h
  refine cF 8 (ok_slices_ContainsFunc_impl_Column_impl_Column (rfl) (fun _ w hw => ok_impl_ColumnsOk_1 hw) hv2) ?_
  refine ve 3 11 [(2, B ((!v1)))] [] ?_
  cases h
  exact pwp_ret rz
  replace h := bF hc3 h
  rw [hc3]
  refine ve 5 11 [(2, B false)] [] ?_
  cases h
  exact pwp_ret rz
def impl_ValueOk (a0 : T_impl_Value) : Option Bool := (impl_Value_ok a0).bind fun v1 => some v1
theorem ok_impl_ValueOk {a0 : T_impl_Value} {y : Bool} (h : impl_ValueOk a0 = some y) : OK Try.prog 38 [E a0] (B y) := by
  refine ow Try.func38 fun Γ hX => ?_
  unfold impl_ValueOk at h
  refine srve 5 [(1, pf a0 0)] [] ?_
  refine srv 1 5 [(3, E a0)] [] ?_
  obtain ⟨v1, hv2, h⟩ := bindS h
  refine cF 4 (ok_impl_Value_ok hv2) ?_
  refine ve 1 5 [(2, B v1)] [] ?_
  cases h
  exact pwp_ret rz
def impl_RowOk (a0 : List T_impl_Value) : Option Bool := bif (decide (((a0.length : Int)) ≤ 4)) then (slices_ContainsFunc_impl_Value_impl_Value a0 impl_RowOk_1).bind fun v1 => some ((!v1)) else some false
theorem ok_impl_RowOk {a0 : List T_impl_Value} {y : Bool} (h : impl_RowOk a0 = some y) : OK Try.prog 61 [A a0] (B y) := by
  refine ow Try.func61 fun Γ hX => ?_
  unfold impl_RowOk at h
  refine srve 11 [(0, A a0)] [] ?_
  refine srv 4 11 [(0, A a0), (6, B ((decide (((a0.length : Int)) ≤ 4))))] [] ?_
  rcases fk ((decide (((a0.length : Int)) ≤ 4))) with hc3 | hc3
  replace h := bT hc3 h
  rw [hc3]
  refine v 1 11 [(6, B true), (7, A a0)] [] ?_
  obtain ⟨v1, hv2, h⟩ := bindS h
  refine cF 8 (ok_slices_ContainsFunc_impl_Value_impl_Value (rfl) (fun _ w hw => ok_impl_RowOk_1 hw) hv2) ?_
  refine ve 3 11 [(2, B ((!v1)))] [] ?_
  cases h
  exact pwp_ret rz
  replace h := bF hc3 h
  rw [hc3]
  refine ve 5 11 [(2, B false)] [] ?_
  cases h
  exact pwp_ret rz
def impl_Part_tells_j0 (a0 : T_impl_Part) (x14 : Bool) : Option Bool := bif x14 then bif (a0.fN == 0) then some ((eq_T_impl_Value a0.fV ((T_impl_Value.mk 0 0 (ByteArray.mk #[]))))) else some false else some false
def impl_Part_tells (a0 : T_impl_Part) (a1 : List T_impl_Column) : Option Bool := bif (a0.fKind == 1) then bif (a0.fN == 0) then (impl_Value_ok a0.fV).bind fun v2 => bif v2 then some ((!(a0.fV.fKind == 0))) else some false else some false else bif (a0.fKind == 2) then (impl_between a0.fN 0 ((w64 (((a1.length : Int)) - 1)))).bind fun v7 => bif v7 then some ((eq_T_impl_Value a0.fV ((T_impl_Value.mk 0 0 (ByteArray.mk #[]))))) else some false else bif (a0.fKind == 4) then (impl_between a0.fN 1 4).bind fun v11 => bif v11 then some ((eq_T_impl_Value a0.fV ((T_impl_Value.mk 0 0 (ByteArray.mk #[]))))) else some false else bif (a0.fKind == 3) then impl_Part_tells_j0 a0 ((a0.fKind == 3)) else bif (a0.fKind == 5) then impl_Part_tells_j0 a0 ((a0.fKind == 5)) else bif (a0.fKind == 6) then impl_Part_tells_j0 a0 ((a0.fKind == 6)) else bif (a0.fKind == 7) then impl_Part_tells_j0 a0 ((a0.fKind == 7)) else impl_Part_tells_j0 a0 ((a0.fKind == 8))
theorem ok_impl_Part_tells {a0 : T_impl_Part} {a1 : List T_impl_Column} {y : Bool} (h : impl_Part_tells a0 a1 = some y) : OK Try.prog 78 [E a0, A a1] (B y) := by
  refine ow Try.func78 fun Γ hX => ?_
  unfold impl_Part_tells at h
  refine srve 63 [(1, A a1), (2, pf a0 0)] [] ?_
  refine pwp_seq ?_
  refine srve 63 [(1, A a1), (2, pf a0 0), (6, I a0.fKind)] [] ?_
  refine pwp_block ?_
  refine srve 63 [(1, A a1), (2, pf a0 0), (6, I a0.fKind), (7, B ((a0.fKind == 1)))] [] ?_
  refine pc h (fun h => ?_) (fun h => ?_)
  refine srv 4 63 [(2, pf a0 0), (12, B ((a0.fN == 0)))] [] ?_
  rcases fk ((a0.fN == 0)) with hc5 | hc5
  replace h := bT hc5 h
  rw [hc5]
  refine v 2 63 [(2, pf a0 0), (12, B true), (14, E a0.fV)] [] ?_
  obtain ⟨v2, hv3, h⟩ := bindS h
  refine cF 15 (ok_impl_Value_ok hv3) ?_
  refine v 2 63 [(2, pf a0 0), (17, B v2)] [] ?_
  rcases Bool.eq_false_or_eq_true v2 with hc4 | hc4
  replace h := bT hc4 h
  rw [hc4]
  refine ve 6 63 [(4, B ((!(a0.fV.fKind == 0))))] [] ?_
  cases h
  exact pwp_ret rz
  replace h := bF hc4 h
  rw [hc4]
  refine ve 6 63 [(4, B false)] [] ?_
  cases h
  exact pwp_ret rz
  replace h := bF hc5 h
  rw [hc5]
  refine ve 11 63 [(4, B false)] [] ?_
  cases h
  exact pwp_ret rz
  refine srve 63 [(1, A a1), (2, pf a0 0), (6, I a0.fKind), (23, B ((a0.fKind == 2)))] [] ?_
  refine pc h (fun h => ?_) (fun h => ?_)
  refine srv 5 63 [(2, pf a0 0), (26, I a0.fN), (29, I ((w64 (((a1.length : Int)) - 1))))] [] ?_
  obtain ⟨v7, hv8, h⟩ := bindS h
  refine cF 30 (ok_impl_between hv8) ?_
  refine v 1 63 [(2, pf a0 0), (31, B v7)] [] ?_
  rcases Bool.eq_false_or_eq_true v7 with hc9 | hc9
  replace h := bT hc9 h
  rw [hc9]
  refine ve 6 63 [(4, B ((eq_T_impl_Value a0.fV ((T_impl_Value.mk 0 0 (ByteArray.mk #[]))))))] [] ?_
  cases h
  exact pwp_ret rz
  replace h := bF hc9 h
  rw [hc9]
  refine ve 6 63 [(4, B false)] [] ?_
  cases h
  exact pwp_ret rz
  refine srve 63 [(2, pf a0 0), (6, I a0.fKind), (37, B ((a0.fKind == 4)))] [] ?_
  refine pc h (fun h => ?_) (fun h => ?_)
  refine srv 2 63 [(2, pf a0 0), (40, I a0.fN)] [] ?_
  obtain ⟨v11, hv12, h⟩ := bindS h
  refine cF 41 (ok_impl_between hv12) ?_
  refine v 1 63 [(2, pf a0 0), (42, B v11)] [] ?_
  rcases Bool.eq_false_or_eq_true v11 with hc13 | hc13
  replace h := bT hc13 h
  rw [hc13]
  refine ve 6 63 [(4, B ((eq_T_impl_Value a0.fV ((T_impl_Value.mk 0 0 (ByteArray.mk #[]))))))] [] ?_
  cases h
  exact pwp_ret rz
  replace h := bF hc13 h
  rw [hc13]
  refine ve 6 63 [(4, B false)] [] ?_
  cases h
  exact pwp_ret rz
  refine pwp_seq ?_
  refine pwp_join (σ := Bool) (fun x14 => (⟨63, [(2, pf a0 0), (48, B x14)], []⟩ : St)) (fun x14 => impl_Part_tells_j0 a0 x14 = some y) ?_ ?_
  refine srve 63 [(2, pf a0 0), (6, I a0.fKind), (48, B ((a0.fKind == 3)))] [] ?_
  refine pc h (fun h => ?_) (fun h => ?_)
  refine pwp_skip ?_
  exact ⟨(a0.fKind == 3), h, it [2, 48]⟩
  refine srve 63 [(2, pf a0 0), (6, I a0.fKind), (48, B ((a0.fKind == 5)))] [] ?_
  refine pc h (fun h => ?_) (fun h => ?_)
  refine pwp_skip ?_
  exact ⟨(a0.fKind == 5), h, it [2, 48]⟩
  refine srve 63 [(2, pf a0 0), (6, I a0.fKind), (48, B ((a0.fKind == 6)))] [] ?_
  refine pc h (fun h => ?_) (fun h => ?_)
  refine pwp_skip ?_
  exact ⟨(a0.fKind == 6), h, it [2, 48]⟩
  refine srve 63 [(2, pf a0 0), (6, I a0.fKind), (48, B ((a0.fKind == 7)))] [] ?_
  refine pc h (fun h => ?_) (fun h => ?_)
  refine pwp_skip ?_
  exact ⟨(a0.fKind == 7), h, it [2, 48]⟩
  refine rve 63 [(2, pf a0 0), (48, B ((a0.fKind == 8)))] [] ?_
  exact ⟨(a0.fKind == 8), h, it [2, 48]⟩
  rintro x14 h
  unfold impl_Part_tells_j0 at h
  refine pc h (fun h => ?_) (fun h => ?_)
  refine srv 4 63 [(2, pf a0 0), (57, B ((a0.fN == 0)))] [] ?_
  rcases fk ((a0.fN == 0)) with hc16 | hc16
  replace h := bT hc16 h
  rw [hc16]
  refine ve 6 63 [(4, B ((eq_T_impl_Value a0.fV ((T_impl_Value.mk 0 0 (ByteArray.mk #[]))))))] [] ?_
  cases h
  exact pwp_ret rz
  replace h := bF hc16 h
  rw [hc16]
  refine ve 6 63 [(4, B false)] [] ?_
  cases h
  exact pwp_ret rz
  refine pwp_skip ?_
  refine srve 63 [(4, B false)] [] ?_
  cases h
  exact pwp_ret rz
def spec_l4Step_j1 (a1 : List Int) (a2 : T_impl_Part) (x4 : Bool) : Option ((List Int) × Bool) := bif x4 then some (a1, false) else (app a1 (([a2.fV.fKind] : List Int))).bind fun v6 => some (v6, true)
def spec_l4Step_j2 (a1 : List Int) (x20 : Bool) : Option ((List Int) × Bool) := (slI a1 none (some ((maxL ((w64 (((a1.length : Int)) - 2))) [0]))) none).bind fun v21 => (appT a1 (([1] : List Int)) v21.length).bind fun v23 => some (v23, x20)
def spec_l4Step_j3 (a1 : List Int) (x32 : Bool) : Option ((List Int) × Bool) := (slI a1 none (some ((maxL ((w64 (((a1.length : Int)) - 2))) [0]))) none).bind fun v33 => (appT a1 (([3] : List Int)) v33.length).bind fun v35 => some (v35, x32)
def spec_l4Step_j5 (a1 : List Int) (x47 : Bool) : Option ((List Int) × Bool) := (slI a1 none (some ((maxL ((w64 (((a1.length : Int)) - 2))) [0]))) none).bind fun v48 => (appT a1 (([3] : List Int)) v48.length).bind fun v50 => some (v50, x47)
def spec_l4Step_j4 (a1 : List Int) (a2 : T_impl_Part) (x45 : Bool) : Option ((List Int) × Bool) := bif x45 then bif (decide (((a1.length : Int)) > 1)) then (getI a1 ((w64 (((a1.length : Int)) - 1)))).bind fun v52 => bif (v52 == 3) then (getI a1 ((w64 (((a1.length : Int)) - 2)))).bind fun v54 => spec_l4Step_j5 a1 ((v54 == 3)) else spec_l4Step_j5 a1 false else spec_l4Step_j5 a1 false else bif (a2.fKind == 7) then bif (decide (((a1.length : Int)) > 0)) then (getI a1 ((w64 (((a1.length : Int)) - 1)))).bind fun v59 => some (a1, (v59 == 3)) else some (a1, false) else bif (a2.fKind == 8) then (slI a1 none (some ((maxL ((w64 (((a1.length : Int)) - 1))) [0]))) none).bind fun v63 => (appT a1 (([3] : List Int)) v63.length).bind fun v65 => some (v65, (decide (((a1.length : Int)) > 0))) else some (a1, false)
def spec_l4Step_j0 (a0 : List T_impl_Column) (a1 : List Int) (a2 : T_impl_Part) (x1 : Bool) : Option ((List Int) × Bool) := bif x1 then some (a1, false) else bif (a2.fKind == 1) then (spec_ValueOk a2.fV).bind fun v8 => bif (!v8) then spec_l4Step_j1 a1 a2 true else spec_l4Step_j1 a1 a2 ((a2.fV.fKind == 0)) else bif (a2.fKind == 2) then (spec_l1In a2.fN 0 ((w64 (((a0.length : Int)) - 1)))).bind fun v12 => bif (!v12) then some (a1, false) else (getI a0 a2.fN).bind fun v15 => (app a1 (([v15.fKind] : List Int))).bind fun v17 => some (v17, true) else bif (a2.fKind == 3) then bif (decide (((a1.length : Int)) > 1)) then (getI a1 ((w64 (((a1.length : Int)) - 1)))).bind fun v25 => bif (v25 == 1) then (getI a1 ((w64 (((a1.length : Int)) - 2)))).bind fun v27 => spec_l4Step_j2 a1 ((v27 == 1)) else spec_l4Step_j2 a1 false else spec_l4Step_j2 a1 false else bif (a2.fKind == 4) then bif (decide (((a1.length : Int)) > 1)) then (getI a1 ((w64 (((a1.length : Int)) - 1)))).bind fun v37 => (getI a1 ((w64 (((a1.length : Int)) - 2)))).bind fun v39 => bif (v37 == v39) then (spec_l1In a2.fN 1 4).bind fun v41 => spec_l4Step_j3 a1 v41 else spec_l4Step_j3 a1 false else spec_l4Step_j3 a1 false else bif (a2.fKind == 5) then spec_l4Step_j4 a1 a2 ((a2.fKind == 5)) else spec_l4Step_j4 a1 a2 ((a2.fKind == 6))
def spec_l4Step (a0 : List T_impl_Column) (a1 : List Int) (a2 : T_impl_Part) : Option ((List Int) × Bool) := bif (!(a2.fKind == 1)) then bif (!(eq_T_impl_Value a2.fV ((T_impl_Value.mk 0 0 (ByteArray.mk #[]))))) then spec_l4Step_j0 a0 a1 a2 true else bif (!(a2.fKind == 2)) then bif (!(a2.fKind == 4)) then spec_l4Step_j0 a0 a1 a2 ((!(a2.fN == 0))) else spec_l4Step_j0 a0 a1 a2 false else spec_l4Step_j0 a0 a1 a2 false else bif (!(a2.fKind == 2)) then bif (!(a2.fKind == 4)) then spec_l4Step_j0 a0 a1 a2 ((!(a2.fN == 0))) else spec_l4Step_j0 a0 a1 a2 false else spec_l4Step_j0 a0 a1 a2 false
end Go.D
