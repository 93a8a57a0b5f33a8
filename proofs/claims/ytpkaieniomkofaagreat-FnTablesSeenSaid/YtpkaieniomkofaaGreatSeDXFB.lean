import Derived.Test.YtpkaieniomkofaaGreatSeDXFA
import Derived.KernelRfl
set_option linter.unusedVariables false
set_option linter.unusedSimpArgs false
namespace Go.D
open Go.Proofs
theorem ok_spec_l20Tables {a0 : T_spec_l20Rd} {a1 : Int} {y : (List T_impl_Table) × T_spec_l20Rd} (h : spec_l20Tables a0 a1 = some y) : OKb Tryz.prog 40 (Enc.cells a0) [I a1] (O y.1) (Enc.cells y.2) := by
 refine OKb_of_pwp τ_ok Tryz.func40 rfl (by kernel_rfl) rfl (Enc.frz _) (Enc.frz _) fun Γ hQ => ?_
 unfold spec_l20Tables at h
 refine srveM [8] 73 [(0, .ptr 0 0 0), (1, I a1)] [sc 0 a0] ?_
 refine srveM [8] 73 [(0, .ptr 0 0 0), (1, I a1), (5, .arr 2 0 (eL ([] : List T_impl_Table)) true)] [sc 0 a0] ?_
 refine pwp_seq ?_
 refine srvM [8] 1 73 [(0, .ptr 0 0 0), (1, I a1), (5, .arr 2 0 (eL ([] : List T_impl_Table)) true), (10, .ptr 0 0 0)] [sc 0 a0] ?_
 obtain ⟨v1, hv2, h⟩ := bindS h
 refine cB 11 0 0 (ok_spec_l20Rd_pick hv2) ?_
 refine veM [8] 2 73 [(0, .ptr 0 0 0), (1, I a1), (5, .arr 2 0 (eL ([] : List T_impl_Table)) true), (6, I (w64 (1 + v1.1)))] [sc 0 v1.2] ?_
 refine pwp_block ?_
 refine pwp_loop (ι := Nat × Int × T_spec_l20Rd × (List T_impl_Table)) (fun (f8, x5, x6, x7) => (⟨73, [(0, .ptr 0 0 0), (1, I a1), (5, rf 1 0 2 x7), (6, I x5)], [sc 0 x6, sl 0 x7]⟩ : St)) (fun (f8, x5, x6, x7) => spec_l20Tables_l0 a1 f8 x5 x6 x7 = some y) Prod.fst (FUEL, (w64 (1 + v1.1)), v1.2, ([] : List T_impl_Table)) h (Imp.thawS 5 [0, 1, 5, 6] (by kernel_rfl)) ?_
 rintro ⟨f8, x5, x6, x7⟩ h
 dsimp only at h ⊢
 rcases f8 with _ | f8
 cases h
 rw [spec_l20Tables_l0] at h
 refine pwp_seq ?_
 refine srveM [8] 73 [(0, .ptr 0 0 0), (1, I a1), (5, rf 1 0 2 x7), (6, I x5), (14, B (decide (x5 > 0)))] [sc 0 x6, sl 0 x7] ?_
 refine pc h (fun h => ?_) (fun h => ?_)
 refine pwp_skip ?_
 refine pwp_seq ?_
 refine pwp_block ?_
 refine srvM [8] 1 73 [(0, .ptr 0 0 0), (1, I a1), (5, rf 1 0 2 x7), (6, I x5), (17, .ptr 0 0 0)] [sc 0 x6, sl 0 x7] ?_
 obtain ⟨v11, hv12, h⟩ := bindS h
 refine cBo 18 0 0 (ok_spec_l20Columns hv12) ?_
 refine veM [8] 1 73 [(0, .ptr 0 0 0), (1, I a1), (5, rf 1 0 2 x7), (6, I x5), (7, A v11.1)] [sc 0 v11.2, sl 0 x7] ?_
 refine srvM [8] 2 73 [(0, .ptr 0 0 0), (1, I a1), (5, rf 1 0 2 x7), (6, I x5), (7, A v11.1), (19, A v11.1), (20, .ptr 0 0 0)] [sc 0 v11.2, sl 0 x7] ?_
 obtain ⟨v13, hv14, h⟩ := bindS h
 refine cB 21 0 0 (ok_spec_l20Rd_pick hv14) ?_
 refine vM [8] 2 73 [(0, .ptr 0 0 0), (1, I a1), (5, rf 1 0 2 x7), (6, I x5), (19, A v11.1), (21, I v13.1), (23, I (v11.1.length : Int))] [sc 0 v13.2, sl 0 x7] ?_
 obtain ⟨v15, hv16, h⟩ := bindS h
 refine opsP_div τ_ok (r := true) 24 hv16 (by kernel_rfl) ?_
 refine vM [8] 1 73 [(0, .ptr 0 0 0), (1, I a1), (5, rf 1 0 2 x7), (6, I x5), (19, A v11.1), (25, I (w64 (1 + v15)))] [sc 0 v13.2, sl 0 x7] ?_
 obtain ⟨v17, hv18, h⟩ := bindS h
 refine opsP_slc τ_ok 26 hv18 (by kernel_rfl) ?_
 refine veM [8] 1 73 [(0, .ptr 0 0 0), (1, I a1), (5, rf 1 0 2 x7), (6, I x5), (7, A v17)] [sc 0 v13.2, sl 0 x7] ?_
 refine srvM [8] 3 73 [(0, .ptr 0 0 0), (1, I a1), (5, rf 1 0 2 x7), (6, I x5), (27, A v17), (28, .ptr 0 0 0), (29, A v17)] [sc 0 v13.2, sl 0 x7] ?_
 obtain ⟨v19, hv20, h⟩ := bindS h
 refine cBo 30 0 0 (ok_spec_l20Bag hv20) ?_
 refine veM [8] 3 73 [(0, .ptr 0 0 0), (1, I a1), (5, rf 1 0 2 x7), (6, I x5), (8, .ptr 2 0 0)] [sc 0 v19.2, sl 0 x7, some ⟨0, Enc.cells (T_impl_Table.mk v17 v19.1)⟩] ?_
 refine rvM [8] 3 73 [(0, .ptr 0 0 0), (1, I a1), (6, I x5), (32, rf 1 0 2 x7), (34, .arr 2 ([(T_impl_Table.mk v17 v19.1)] : List T_impl_Table).length (eL ([(T_impl_Table.mk v17 v19.1)] : List T_impl_Table)) true)] [sc 0 v19.2, sl 0 x7, some ⟨0, Enc.cells (T_impl_Table.mk v17 v19.1)⟩] ?_
 obtain ⟨v21, hv22, h⟩ := bindS h
 refine opsP_app τ_ok 35 1 0 (pn hQ) hv22 (by kernel_rfl) ?_
 refine veM [8] 1 73 [(0, .ptr 0 0 0), (1, I a1), (5, rf 1 1 2 v21), (6, I x5)] [sc 0 v19.2, sl 1 v21, some ⟨0, Enc.cells (T_impl_Table.mk v17 v19.1)⟩] ?_
 refine rveM [8] 73 [(0, .ptr 0 0 0), (1, I a1), (5, rf 1 1 2 v21), (6, I (w64 (x5 - 1)))] [sc 0 v19.2, sl 1 v21, some ⟨0, Enc.cells (T_impl_Table.mk v17 v19.1)⟩] ?_
 exact ⟨(f8, (w64 (x5 - 1)), v19.2, v21), h, Nat.lt_succ_self _, qt (it (st' := ⟨73, [(0, .ptr 0 0 0), (1, I a1), (5, rf 1 1 2 v21), (6, I (w64 (x5 - 1)))], [sc 0 v19.2, sl 1 v21, some ⟨0, Enc.cells (T_impl_Table.mk v17 v19.1)⟩]⟩) [0, 1, 5, 6]) (qt (Imp.truncS (st' := ⟨73, [(0, .ptr 0 0 0), (1, I a1), (5, rf 1 1 2 v21), (6, I (w64 (x5 - 1)))], [sc 0 v19.2, sl 1 v21]⟩) 2 (pl hQ) (by kernel_rfl) (allBelow_mem (by exact (And.intro rfl (And.intro rfl (And.intro rfl (And.intro rfl trivial)))))) (by exact (And.intro (rfl) (And.intro (frz_below (eL_frz _)) trivial))) (by kernel_rfl)) (Imp.reverS 1 1 (eL v21) [0, 1, 5, 6] (by kernel_rfl) (by exact (And.intro (rfl) (And.intro (eL_frz _) trivial))) (by kernel_rfl)))⟩
 refine pwp_exit ?_
 refine pwp_seq ?_
 refine srvM [8] 2 73 [(0, .ptr 0 0 0), (5, rf 1 0 2 x7), (36, .ptr 0 0 0), (37, I a1)] [sc 0 x6, sl 0 x7] ?_
 obtain ⟨v23, hv24, h⟩ := bindS h
 refine cB 38 0 0 (ok_spec_l20Rd_odd hv24) ?_
 refine veM [8] 0 73 [(0, .ptr 0 0 0), (5, rf 1 0 2 x7), (38, B v23.1)] [sc 0 v23.2, sl 0 x7] ?_
 refine pc h (fun h => ?_) (fun h => ?_)
 refine srvM [8] 1 73 [(5, rf 1 0 2 x7), (39, .ptr 0 0 0)] [sc 0 v23.2, sl 0 x7] ?_
 obtain ⟨v26, hv27, h⟩ := bindS h
 refine cB 40 0 0 (ok_spec_l20Rd_pick hv27) ?_
 refine veM [8] 0 73 [(5, rf 1 0 2 x7), (40, I v26.1)] [sc 0 v26.2, sl 0 x7] ?_
 refine pwp_block ?_
 refine srveM [8] 73 [(5, rf 1 0 2 x7), (40, I v26.1), (51, B (v26.1 == 0))] [sc 0 v26.2, sl 0 x7] ?_
 refine pc h (fun h => ?_) (fun h => ?_)
 refine rvM [8] 5 73 [(53, rf 1 0 2 x7), (57, .arr 2 ([(T_impl_Table.mk [] []), (T_impl_Table.mk [] []), (T_impl_Table.mk [] [])] : List T_impl_Table).length (eL ([(T_impl_Table.mk [] []), (T_impl_Table.mk [] []), (T_impl_Table.mk [] [])] : List T_impl_Table)) true)] [sc 0 v26.2, sl 0 x7] ?_
 obtain ⟨v29, hv30, h⟩ := bindS h
 refine opsP_app τ_ok 58 1 0 (pn hQ) hv30 (by kernel_rfl) ?_
 refine veM [8] 1 73 [(5, rf 1 1 2 v29)] [sc 0 v26.2, sl 1 v29] ?_
 refine srveM [8] 73 [(4, rf 1 1 2 v29)] [sc 0 v26.2, sl 1 v29] ?_
 have h := si h
 subst h
 exact pwp_ret ⟨.inr rfl, rf 1 1 2 v29, _, 0, by kernel_rfl, (OutP.list (v := 1) (by kernel_rfl)), by decide, by decide, by kernel_rfl⟩
 refine srveM [8] 73 [(5, rf 1 0 2 x7), (59, B (v26.1 == 1))] [sc 0 v26.2, sl 0 x7] ?_
 refine pc h (fun h => ?_) (fun h => ?_)
 cases h
 cases h
 refine pwp_skip ?_
 refine srveM [8] 73 [(4, rf 1 0 2 x7)] [sc 0 v23.2, sl 0 x7] ?_
 have h := si h
 subst h
 exact pwp_ret ⟨.inr rfl, rf 1 0 2 x7, _, 0, by kernel_rfl, (OutP.list (v := 0) (by kernel_rfl)), by decide, by decide, by kernel_rfl⟩
def spec_l20Guards_j1 (x3 : Int) (K7 : Int → T_spec_l20Rd → (List T_impl_Guard) → Option ((List T_impl_Guard) × T_spec_l20Rd)) (x9 : T_spec_l20Rd) (x10 : List T_impl_Guard) : Option ((List T_impl_Guard) × T_spec_l20Rd) := K7 (w64 (x3 + 1)) x9 x10
def spec_l20Guards_j2 (x5 : List T_impl_Guard) (x20 : Bool) (x21 : T_spec_l20Rd) : Option ((List T_impl_Guard) × T_spec_l20Rd) := bif x20 then (spec_l20Rd_pick x21 3).bind fun v23 => bif (v23.1 == 0) then (spec_l20Rd_pick v23.2 6).bind fun v26 => (getI x5 (0 : Int)).bind fun v28 => some ((x5.set (0 : Int).toNat ({ v28 with fIn := (w64 (v26.1 - 1)) } : T_impl_Guard)), v26.2) else bif (v23.1 == 1) then (getI x5 (0 : Int)).bind fun v31 => (getI x5 (0 : Int)).bind fun v33 => (spec_l20Rd_pick v23.2 (v33.fE.length : Int)).bind fun v35 => (slI v31.fE none (some v35.1) none).bind fun v37 => (getI x5 (0 : Int)).bind fun v39 => some ((x5.set (0 : Int).toNat ({ v39 with fE := v37 } : T_impl_Guard)), v35.2) else (getI x5 (0 : Int)).bind fun v41 => (app x5 ([v41] : List T_impl_Guard)).bind fun v43 => some (v43, v23.2) else some (x5, x21)
def spec_l20Guards_l0 (a1 : List T_impl_Table) (a2 : Int) : Nat → Int → T_spec_l20Rd → (List T_impl_Guard) → Option ((List T_impl_Guard) × T_spec_l20Rd)
 | 0, _, _, _ => none
 | f6 + 1, x3, x4, x5 => bif (decide (x3 < (a1.length : Int))) then (spec_l20Rd_pick x4 3).bind fun v11 => bif (decide (v11.1 > 0)) then (getI a1 x3).bind fun v14 => (spec_l20Expr v11.2 v14.fColumns 3 2).bind fun v16 => (app x5 ([(T_impl_Guard.mk x3 v16.1)] : List T_impl_Guard)).bind fun v18 => spec_l20Guards_j1 x3 (spec_l20Guards_l0 a1 a2 f6) v16.2 v18 else spec_l20Guards_j1 x3 (spec_l20Guards_l0 a1 a2 f6) v11.2 x5 else bif (decide ((x5.length : Int) > 0)) then (spec_l20Rd_odd x4 a2).bind fun v45 => spec_l20Guards_j2 x5 v45.1 v45.2 else spec_l20Guards_j2 x5 false x4
def spec_l20Guards (a0 : T_spec_l20Rd) (a1 : List T_impl_Table) (a2 : Int) : Option ((List T_impl_Guard) × T_spec_l20Rd) := spec_l20Guards_l0 a1 a2 FUEL 0 a0 ([] : List T_impl_Guard)
theorem ok_spec_l20Guards {a0 : T_spec_l20Rd} {a1 : List T_impl_Table} {a2 : Int} {y : (List T_impl_Guard) × T_spec_l20Rd} (h : spec_l20Guards a0 a1 a2 = some y) : OKb Tryz.prog 41 (Enc.cells a0) [A a1, I a2] (O y.1) (Enc.cells y.2) := by
 refine OKb_of_pwp τ_ok Tryz.func41 rfl (by kernel_rfl) rfl (Enc.frz _) (Enc.frz _) fun Γ hQ => ?_
 unfold spec_l20Guards at h
 refine srve 73 [(0, .ptr 0 0 0), (1, A a1), (2, I a2)] [sc 0 a0] ?_
 refine srve 73 [(0, .ptr 0 0 0), (1, A a1), (2, I a2), (7, .arr 2 0 (eL ([] : List T_impl_Guard)) true)] [sc 0 a0] ?_
 refine pwp_seq ?_
 refine srve 73 [(0, .ptr 0 0 0), (1, A a1), (2, I a2), (7, .arr 2 0 (eL ([] : List T_impl_Guard)) true), (8, I 0)] [sc 0 a0] ?_
 refine pwp_block ?_
 refine pwp_loop (ι := Nat × Int × T_spec_l20Rd × (List T_impl_Guard)) (fun (f6, x3, x4, x5) => (⟨73, [(0, .ptr 0 0 0), (1, A a1), (2, I a2), (7, rf 1 0 2 x5), (8, I x3)], [sc 0 x4, sl 0 x5]⟩ : St)) (fun (f6, x3, x4, x5) => spec_l20Guards_l0 a1 a2 f6 x3 x4 x5 = some y) Prod.fst (FUEL, 0, a0, ([] : List T_impl_Guard)) h (Imp.thawS 7 [0, 1, 2, 7, 8] (by kernel_rfl)) ?_
 rintro ⟨f6, x3, x4, x5⟩ h
 dsimp only at h ⊢
 rcases f6 with _ | f6
 cases h
 rw [spec_l20Guards_l0] at h
 refine pwp_seq ?_
 refine srve 73 [(0, .ptr 0 0 0), (1, A a1), (2, I a2), (7, rf 1 0 2 x5), (8, I x3), (13, B (decide (x3 < (a1.length : Int))))] [sc 0 x4, sl 0 x5] ?_
 refine pc h (fun h => ?_) (fun h => ?_)
 refine pwp_skip ?_
 refine pwp_seq ?_
 refine pwp_join (σ := T_spec_l20Rd × (List T_impl_Guard)) (fun (x9, x10) => (⟨73, [(0, .ptr 0 0 0), (1, A a1), (2, I a2), (7, rf 1 0 2 x10), (8, I x3)], [sc 0 x9, sl 0 x10]⟩ : St)) (fun (x9, x10) => spec_l20Guards_j1 x3 (spec_l20Guards_l0 a1 a2 f6) x9 x10 = some y) ?_ ?_
 refine pwp_block ?_
 refine srv 1 73 [(0, .ptr 0 0 0), (1, A a1), (2, I a2), (7, rf 1 0 2 x5), (8, I x3), (16, .ptr 0 0 0)] [sc 0 x4, sl 0 x5] ?_
 obtain ⟨v11, hv12, h⟩ := bindS h
 refine cB 17 0 0 (ok_spec_l20Rd_pick hv12) ?_
 refine ve 1 73 [(0, .ptr 0 0 0), (1, A a1), (2, I a2), (7, rf 1 0 2 x5), (8, I x3), (18, B (decide (v11.1 > 0)))] [sc 0 v11.2, sl 0 x5] ?_
 refine pc h (fun h => ?_) (fun h => ?_)
 refine rv 5 73 [(0, .ptr 0 0 0), (1, A a1), (2, I a2), (8, I x3), (19, rf 1 0 2 x5), (20, I x3), (21, .ptr 0 0 0), (22, A a1), (23, I x3)] [sc 0 v11.2, sl 0 x5] ?_
 obtain ⟨v14, hv15, h⟩ := bindS h
 refine opsP_idx τ_ok 24 hv15 (by kernel_rfl) ?_
 refine v 2 73 [(0, .ptr 0 0 0), (1, A a1), (2, I a2), (8, I x3), (19, rf 1 0 2 x5), (20, I x3), (21, .ptr 0 0 0), (26, A v14.fColumns)] [sc 0 v11.2, sl 0 x5] ?_
 obtain ⟨v16, hv17, h⟩ := bindS h
 refine cBo 27 0 0 (ok_spec_l20Expr hv17) ?_
 refine v 2 73 [(0, .ptr 0 0 0), (1, A a1), (2, I a2), (8, I x3), (19, rf 1 0 2 x5), (29, .arr 2 ([(T_impl_Guard.mk x3 v16.1)] : List T_impl_Guard).length (eL ([(T_impl_Guard.mk x3 v16.1)] : List T_impl_Guard)) true)] [sc 0 v16.2, sl 0 x5] ?_
 obtain ⟨v18, hv19, h⟩ := bindS h
 refine opsP_app τ_ok 30 1 0 (pn hQ) hv19 (by kernel_rfl) ?_
 refine ve 1 73 [(0, .ptr 0 0 0), (1, A a1), (2, I a2), (7, rf 1 1 2 v18), (8, I x3)] [sc 0 v16.2, sl 1 v18] ?_
 exact ⟨(v16.2, v18), h, (it (st' := ⟨73, [(0, .ptr 0 0 0), (1, A a1), (2, I a2), (7, rf 1 1 2 v18), (8, I x3)], [sc 0 v16.2, sl 1 v18]⟩) [0, 1, 2, 7, 8]).trans (Imp.reverS 1 1 (eL v18) [0, 1, 2, 7, 8] (by kernel_rfl) (by exact (And.intro (rfl) (And.intro (eL_frz _) trivial))) (by kernel_rfl))⟩
 refine pwp_skip ?_
 exact ⟨(v11.2, x5), h, it [0, 1, 2, 7, 8]⟩
 rintro ⟨x9, x10⟩ h
 dsimp only at h ⊢
 unfold spec_l20Guards_j1 at h
 refine rve 73 [(0, .ptr 0 0 0), (1, A a1), (2, I a2), (7, rf 1 0 2 x10), (8, I (w64 (x3 + 1)))] [sc 0 x9, sl 0 x10] ?_
 exact ⟨(f6, (w64 (x3 + 1)), x9, x10), h, Nat.lt_succ_self _, it [0, 1, 2, 7, 8]⟩
 refine pwp_exit ?_
 refine pwp_seq ?_
 refine pwp_seq ?_
 refine pwp_join (σ := Bool × T_spec_l20Rd) (fun (x20, x21) => (⟨73, [(0, .ptr 0 0 0), (7, rf 1 0 2 x5), (38, B x20)], [sc 0 x21, sl 0 x5]⟩ : St)) (fun (x20, x21) => spec_l20Guards_j2 x5 x20 x21 = some y) ?_ ?_
 refine rv 4 73 [(0, .ptr 0 0 0), (2, I a2), (7, rf 1 0 2 x5), (34, B (decide ((x5.length : Int) > 0)))] [sc 0 x4, sl 0 x5] ?_
 rcases fk (decide ((x5.length : Int) > 0)) with hc47 | hc47
 replace h := bT hc47 h
 rw [hc47]
 refine v 2 73 [(0, .ptr 0 0 0), (7, rf 1 0 2 x5), (34, B true), (35, .ptr 0 0 0), (36, I a2)] [sc 0 x4, sl 0 x5] ?_
 obtain ⟨v45, hv46, h⟩ := bindS h
 refine cB 37 0 0 (ok_spec_l20Rd_odd hv46) ?_
 refine ve 1 73 [(0, .ptr 0 0 0), (7, rf 1 0 2 x5), (38, B v45.1)] [sc 0 v45.2, sl 0 x5] ?_
 exact ⟨(v45.1, v45.2), h, it [0, 7, 38]⟩
 replace h := bF hc47 h
 rw [hc47]
 refine ve 4 73 [(0, .ptr 0 0 0), (7, rf 1 0 2 x5), (38, B false)] [sc 0 x4, sl 0 x5] ?_
 exact ⟨(false, x4), h, it [0, 7, 38]⟩
 rintro ⟨x20, x21⟩ h
 dsimp only at h ⊢
 unfold spec_l20Guards_j2 at h
 refine pc h (fun h => ?_) (fun h => ?_)
 refine srv 1 73 [(0, .ptr 0 0 0), (7, rf 1 0 2 x5), (39, .ptr 0 0 0)] [sc 0 x21, sl 0 x5] ?_
 obtain ⟨v23, hv24, h⟩ := bindS h
 refine cB 40 0 0 (ok_spec_l20Rd_pick hv24) ?_
 refine ve 0 73 [(0, .ptr 0 0 0), (7, rf 1 0 2 x5), (40, I v23.1)] [sc 0 v23.2, sl 0 x5] ?_
 refine pwp_block ?_
 refine srve 73 [(0, .ptr 0 0 0), (7, rf 1 0 2 x5), (40, I v23.1), (47, B (v23.1 == 0))] [sc 0 v23.2, sl 0 x5] ?_
 refine pc h (fun h => ?_) (fun h => ?_)
 refine rv 2 73 [(7, rf 1 0 2 x5), (49, rf 1 0 2 x5), (50, .ptr 0 0 0)] [sc 0 v23.2, sl 0 x5] ?_
 obtain ⟨v26, hv27, h⟩ := bindS h
 refine cB 51 0 0 (ok_spec_l20Rd_pick hv27) ?_
 refine v 1 73 [(7, rf 1 0 2 x5), (49, rf 1 0 2 x5), (52, I (w64 (v26.1 - 1)))] [sc 0 v26.2, sl 0 x5] ?_
 obtain ⟨v28, hv29, h⟩ := bindS h
 refine opsP_idr τ_ok 53 1 0 x5.length hv29 rfl (by kernel_rfl) ?_
 refine v 1 73 [(7, rf 1 0 2 x5), (52, I (w64 (v26.1 - 1))), (54, .ptr 1 0 ((0 : Int).toNat * 2))] [sc 0 v26.2, sl 0 x5] ?_
 refine opsP_ste (vs := [I (w64 (v26.1 - 1))]) τ_ok 3 1 0 0 ({ v28 with fIn := (w64 (v26.1 - 1)) } : T_impl_Guard) hv29 (by kernel_rfl) (by kernel_rfl) (by kernel_rfl) (renC (ren_ref (List.length_set ..).symm) (renC trivial (renC trivial renC0))) ?_
 refine ve 0 73 [(7, .ref 1 0 0 2 (x5.set (0 : Int).toNat ({ v28 with fIn := (w64 (v26.1 - 1)) } : T_impl_Guard)).length false)] [sc 0 v26.2, some ⟨0, eL (x5.set (0 : Int).toNat ({ v28 with fIn := (w64 (v26.1 - 1)) } : T_impl_Guard))⟩] ?_
 refine srve 73 [(6, .ref 1 0 0 2 (x5.set (0 : Int).toNat ({ v28 with fIn := (w64 (v26.1 - 1)) } : T_impl_Guard)).length false)] [sc 0 v26.2, some ⟨0, eL (x5.set (0 : Int).toNat ({ v28 with fIn := (w64 (v26.1 - 1)) } : T_impl_Guard))⟩] ?_
 have h := si h
 subst h
 exact pwp_ret ⟨.inr rfl, .ref 1 0 0 2 (x5.set (0 : Int).toNat ({ v28 with fIn := (w64 (v26.1 - 1)) } : T_impl_Guard)).length false, _, 0, by kernel_rfl, (OutP.list (v := 0) (by kernel_rfl)), by decide, by decide, by kernel_rfl⟩
 refine srve 73 [(0, .ptr 0 0 0), (7, rf 1 0 2 x5), (55, B (v23.1 == 1))] [sc 0 v23.2, sl 0 x5] ?_
 refine pc h (fun h => ?_) (fun h => ?_)
 refine ip 73 [(0, .ptr 0 0 0), (7, rf 1 0 2 x5)] [sc 0 v23.2, sl 0 x5] ?_
 refine pwp_any ([[1], [1], [1], [1], [1], [0], [1], [1], [1], [1], [], [0], [], [1], [1], [1]]) ([[], [], [], [], [], [], [], [], [], [], [], [0], [], [], [], [1]]) rfl (by kernel_rfl) ?_
 refine qv [1] (hL trivial) 2 73 [(58, rf 1 0 2 x5), (57, rf 1 0 2 x5), (0, .ptr 0 0 0), (7, rf 1 0 2 x5)] [sc 0 v23.2, sl 0 x5] ?_
 obtain ⟨v31, hv32, h⟩ := bindS h
 refine qX (some 59) (.ptr 1 0 ((0 : Int).toNat * 2)) 73 [(59, .ptr 1 0 ((0 : Int).toNat * 2)), (57, rf 1 0 2 x5), (0, .ptr 0 0 0), (7, rf 1 0 2 x5)] [sc 0 v23.2, sl 0 x5] (fun Γ' hΓ => CoreE.of_y (idrV_sound (n := x5.length) τ_ok (by kernel_rfl) hv32 rfl)) (hL trivial) ?_
 refine qv [1] (hL trivial) 1 73 [(60, .ptr 1 0 ((0 : Int).toNat * 2 + 1)), (57, rf 1 0 2 x5), (0, .ptr 0 0 0), (7, rf 1 0 2 x5)] [sc 0 v23.2, sl 0 x5] ?_
 refine qX (some 61) (A v31.fE) 73 [(61, A v31.fE), (57, rf 1 0 2 x5), (0, .ptr 0 0 0), (7, rf 1 0 2 x5)] [sc 0 v23.2, sl 0 x5] (fun Γ' hΓ => CoreE.of_y (ldeV_sound (t := 39) (o' := 1) (r := A v31.fE) τ_ok hv32 (by kernel_rfl) (by kernel_rfl))) (hL trivial) ?_
 refine qv [0] (hB trivial) 1 73 [(62, .ptr 0 0 0), (61, A v31.fE), (57, rf 1 0 2 x5), (7, rf 1 0 2 x5)] [sc 0 v23.2, sl 0 x5] ?_
 refine qv [1] (hL trivial) 1 73 [(63, rf 1 0 2 x5), (62, .ptr 0 0 0), (61, A v31.fE), (57, rf 1 0 2 x5), (7, rf 1 0 2 x5)] [sc 0 v23.2, sl 0 x5] ?_
 obtain ⟨v33, hv34, h⟩ := bindS h
 refine qX (some 64) (.ptr 1 0 ((0 : Int).toNat * 2)) 73 [(64, .ptr 1 0 ((0 : Int).toNat * 2)), (62, .ptr 0 0 0), (61, A v31.fE), (57, rf 1 0 2 x5), (7, rf 1 0 2 x5)] [sc 0 v23.2, sl 0 x5] (fun Γ' hΓ => CoreE.of_y (idrV_sound (n := x5.length) τ_ok (by kernel_rfl) hv34 rfl)) (hL trivial) ?_
 refine qv [1] (hL trivial) 1 73 [(65, .ptr 1 0 ((0 : Int).toNat * 2 + 1)), (62, .ptr 0 0 0), (61, A v31.fE), (57, rf 1 0 2 x5), (7, rf 1 0 2 x5)] [sc 0 v23.2, sl 0 x5] ?_
 refine qX (some 66) (A v33.fE) 73 [(66, A v33.fE), (62, .ptr 0 0 0), (61, A v31.fE), (57, rf 1 0 2 x5), (7, rf 1 0 2 x5)] [sc 0 v23.2, sl 0 x5] (fun Γ' hΓ => CoreE.of_y (ldeV_sound (t := 39) (o' := 1) (r := A v33.fE) τ_ok hv34 (by kernel_rfl) (by kernel_rfl))) (hL trivial) ?_
 refine qv [] trivial 1 73 [(67, I (v33.fE.length : Int)), (62, .ptr 0 0 0), (61, A v31.fE), (57, rf 1 0 2 x5), (7, rf 1 0 2 x5)] [sc 0 v23.2, sl 0 x5] ?_
 obtain ⟨v35, hv36, h⟩ := bindS h
 refine qX (some 68) (I v35.1) 73 [(68, I v35.1), (61, A v31.fE), (57, rf 1 0 2 x5), (7, rf 1 0 2 x5)] [sc 0 v35.2, sl 0 x5] (fun Γ' hΓ => callB_E τ 68 0 0 (ok_spec_l20Rd_pick hv36) (FzTo.frz rfl) rfl (by kernel_rfl)) (hB trivial) ?_
 obtain ⟨v37, hv38, h⟩ := bindS h
 refine qX (some 69) (A v37) 73 [(69, A v37), (57, rf 1 0 2 x5), (7, rf 1 0 2 x5)] [sc 0 v35.2, sl 0 x5] (fun Γ' hΓ => CoreE.of_y (slcV_sound τ_ok (by kernel_rfl) hv38)) trivial ?_
 obtain ⟨v39, hv40, h⟩ := bindS h
 refine qX (some 70) (.ptr 1 0 ((0 : Int).toNat * 2)) 73 [(70, .ptr 1 0 ((0 : Int).toNat * 2)), (69, A v37), (7, rf 1 0 2 x5)] [sc 0 v35.2, sl 0 x5] (fun Γ' hΓ => CoreE.of_y (idrV_sound (n := x5.length) τ_ok (by kernel_rfl) hv40 rfl)) (hL trivial) ?_
 refine qv [1] (hL trivial) 1 73 [(71, .ptr 1 0 ((0 : Int).toNat * 2 + 1)), (69, A v37), (7, rf 1 0 2 x5)] [sc 0 v35.2, sl 0 x5] ?_
 refine qX none (.any) 73 [(7, rf 1 0 2 x5)] [sc 0 v35.2, some ⟨0, eL (x5.set (0 : Int).toNat ({ v39 with fE := v37 } : T_impl_Guard))⟩] (fun Γ' hΓ => ste_E (vs := [A v37]) τ_ok 39 1 0 1 ({ v39 with fE := v37 } : T_impl_Guard) hv40 (by kernel_rfl) (by kernel_rfl) (by kernel_rfl)) (hL trivial) ?_
 refine qA_ren (st' := ⟨73, [(7, .ref 1 0 0 2 (x5.set (0 : Int).toNat ({ v39 with fE := v37 } : T_impl_Guard)).length false)], [sc 0 v35.2, some ⟨0, eL (x5.set (0 : Int).toNat ({ v39 with fE := v37 } : T_impl_Guard))⟩]⟩) 1 (x5.set (0 : Int).toNat ({ v39 with fE := v37 } : T_impl_Guard)).length (renC (ren_ref (List.length_set ..).symm) renC0) (by kernel_rfl) ?_
 refine qn 73 [(7, .ref 1 0 0 2 (x5.set (0 : Int).toNat ({ v39 with fE := v37 } : T_impl_Guard)).length false)] [sc 0 v35.2, some ⟨0, eL (x5.set (0 : Int).toNat ({ v39 with fE := v37 } : T_impl_Guard))⟩] ?_
 refine srve 73 [(6, .ref 1 0 0 2 (x5.set (0 : Int).toNat ({ v39 with fE := v37 } : T_impl_Guard)).length false)] [sc 0 v35.2, some ⟨0, eL (x5.set (0 : Int).toNat ({ v39 with fE := v37 } : T_impl_Guard))⟩] ?_
 have h := si h
 subst h
 exact pwp_ret ⟨.inr rfl, .ref 1 0 0 2 (x5.set (0 : Int).toNat ({ v39 with fE := v37 } : T_impl_Guard)).length false, _, 0, by kernel_rfl, (OutP.list (v := 0) (by kernel_rfl)), by decide, by decide, by kernel_rfl⟩
 refine rv 2 73 [(41, rf 1 0 2 x5), (42, rf 1 0 2 x5)] [sc 0 v23.2, sl 0 x5] ?_
 obtain ⟨v41, hv42, h⟩ := bindS h
 refine opsP_idr τ_ok 43 1 0 x5.length hv42 rfl (by kernel_rfl) ?_
 refine opsP_lde (r := E v41) τ_ok 44 82 0 hv42 (by kernel_rfl) (by kernel_rfl) ?_
 refine v 1 73 [(41, rf 1 0 2 x5), (45, .arr 2 ([v41] : List T_impl_Guard).length (eL ([v41] : List T_impl_Guard)) true)] [sc 0 v23.2, sl 0 x5] ?_
 obtain ⟨v43, hv44, h⟩ := bindS h
 refine opsP_app τ_ok 46 1 0 (pn hQ) hv44 (by kernel_rfl) ?_
 refine ve 1 73 [(7, rf 1 1 2 v43)] [sc 0 v23.2, sl 1 v43] ?_
 refine srve 73 [(6, rf 1 1 2 v43)] [sc 0 v23.2, sl 1 v43] ?_
 have h := si h
 subst h
 exact pwp_ret ⟨.inr rfl, rf 1 1 2 v43, _, 0, by kernel_rfl, (OutP.list (v := 1) (by kernel_rfl)), by decide, by decide, by kernel_rfl⟩
 refine pwp_skip ?_
 refine srve 73 [(6, rf 1 0 2 x5)] [sc 0 x21, sl 0 x5] ?_
 have h := si h
 subst h
 exact pwp_ret ⟨.inr rfl, rf 1 0 2 x5, _, 0, by kernel_rfl, (OutP.list (v := 0) (by kernel_rfl)), by decide, by decide, by kernel_rfl⟩
def impl_kept_l0 (a0 : List (List T_impl_Value)) (a1 : (List T_impl_Value) → Option Bool) : Nat → Int → (List (List T_impl_Value)) → Option (List (List T_impl_Value))
 | 0, _, _ => none
 | f4 + 1, x2, x3 => bif (decide (x2 < (a0.length : Int))) then (getI a0 x2).bind fun v7 => (a1 v7).bind fun v9 => bif v9 then (app x3 ([v7] : List (List T_impl_Value))).bind fun v12 => (impl_kept_l0 a0 a1 f4) (w64 (x2 + 1)) v12 else (impl_kept_l0 a0 a1 f4) (w64 (x2 + 1)) x3 else (impl_rowsCopy x3).bind fun v14 => some v14
def impl_kept (a0 : List (List T_impl_Value)) (a1 : (List T_impl_Value) → Option Bool) : Option (List (List T_impl_Value)) := impl_kept_l0 a0 a1 FUEL 0 ([] : List (List T_impl_Value))
theorem ok_impl_kept {a0 : List (List T_impl_Value)} {g1 : FuncId} {c1 : List V} (hz1 : frzL c1 = true) {a1 : (List T_impl_Value) → Option Bool} (hp1 : ∀ x0 y, a1 x0 = some y → OK Tryz.prog g1 ([A x0] ++ c1) (B y)) {y : List (List T_impl_Value)} (h : impl_kept a0 a1 = some y) : OK Tryz.prog 43 [A a0, .fn g1 c1] (A y) := by
 refine ow Tryz.func43 fun Γ hX => ?_
 unfold impl_kept at h
 refine srve 24 [(0, A a0), (1, .fn g1 c1)] [] ?_
 refine srve 24 [(0, A a0), (1, .fn g1 c1), (5, .arr 1 0 (eL ([] : List (List T_impl_Value))) true)] [] ?_
 refine pwp_seq ?_
 refine srve 24 [(1, .fn g1 c1), (5, .arr 1 0 (eL ([] : List (List T_impl_Value))) true), (8, A a0), (9, I (a0.length : Int)), (10, I 0)] [] ?_
 refine pwp_block ?_
 refine pwp_loop (ι := Nat × Int × (List (List T_impl_Value))) (fun (f4, x2, x3) => (⟨24, [(1, .fn g1 c1), (5, rf 0 0 1 x3), (8, A a0), (9, I (a0.length : Int)), (10, I x2)], [sl 0 x3]⟩ : St)) (fun (f4, x2, x3) => impl_kept_l0 a0 a1 f4 x2 x3 = some y) Prod.fst (FUEL, 0, ([] : List (List T_impl_Value))) h (Imp.thawS 5 [1, 5, 8, 9, 10] (by kernel_rfl)) ?_
 rintro ⟨f4, x2, x3⟩ h
 dsimp only at h ⊢
 rcases f4 with _ | f4
 cases h
 rw [impl_kept_l0] at h
 refine srve 24 [(1, .fn g1 c1), (5, rf 0 0 1 x3), (8, A a0), (9, I (a0.length : Int)), (10, I x2), (11, B (decide (x2 < (a0.length : Int))))] [sl 0 x3] ?_
 refine pwp_seq ?_
 refine pc h (fun h => ?_) (fun h => ?_)
 refine pwp_skip ?_
 refine pwp_seq ?_
 refine pwp_block ?_
 refine pwp_seq ?_
 refine pwp_region ?_
 obtain ⟨v7, hv8, h⟩ := bindS h
 refine opsP_idx τ_ok 12 hv8 (by kernel_rfl) ?_
 refine ve 2 24 [(1, .fn g1 c1), (5, rf 0 0 1 x3), (7, A v7), (8, A a0), (9, I (a0.length : Int)), (10, I x2)] [sl 0 x3] ?_
 refine srv 2 24 [(1, .fn g1 c1), (5, rf 0 0 1 x3), (7, A v7), (8, A a0), (9, I (a0.length : Int)), (10, I x2), (14, .fn g1 c1), (15, A v7)] [sl 0 x3] ?_
 obtain ⟨v9, hv10, h⟩ := bindS h
 refine opsP_callF τ 16 (hp1 _ _ hv10) (FzTo.frz rfl) (frz_app (xs := [A v7]) rfl hz1) (by kernel_rfl) ?_
 refine ve 0 24 [(1, .fn g1 c1), (5, rf 0 0 1 x3), (7, A v7), (8, A a0), (9, I (a0.length : Int)), (10, I x2), (16, B v9)] [sl 0 x3] ?_
 refine pc h (fun h => ?_) (fun h => ?_)
 refine rv 3 24 [(1, .fn g1 c1), (8, A a0), (9, I (a0.length : Int)), (10, I x2), (17, rf 0 0 1 x3), (19, .arr 1 ([v7] : List (List T_impl_Value)).length (eL ([v7] : List (List T_impl_Value))) true)] [sl 0 x3] ?_
 obtain ⟨v12, hv13, h⟩ := bindS h
 refine opsP_app τ_ok 20 0 0 (nx hX) hv13 (by kernel_rfl) ?_
 refine ve 1 24 [(1, .fn g1 c1), (5, rf 0 1 1 v12), (8, A a0), (9, I (a0.length : Int)), (10, I x2)] [sl 1 v12] ?_
 refine rve 24 [(1, .fn g1 c1), (5, rf 0 1 1 v12), (8, A a0), (9, I (a0.length : Int)), (10, I (w64 (x2 + 1)))] [sl 1 v12] ?_
 exact ⟨(f4, (w64 (x2 + 1)), v12), h, Nat.lt_succ_self _, qt (it (st' := ⟨24, [(1, .fn g1 c1), (5, rf 0 1 1 v12), (8, A a0), (9, I (a0.length : Int)), (10, I (w64 (x2 + 1)))], [sl 1 v12]⟩) [1, 5, 8, 9, 10]) (qt (Imp.reverF (cs := eL v12) (st' := ⟨24, [(1, .fn g1 c1), (5, rf 0 0 1 v12), (8, A a0), (9, I (a0.length : Int)), (10, I (w64 (x2 + 1)))], [sl 0 v12]⟩) 0 1 (by kernel_rfl) (qu_of_frzL (eL_frz _)) (HpRel.key HpRel.nil) (RvS.f (show frz (.fn g1 c1) = true from hz1) (RvS.c rfl (RvS.c rfl (RvS.c rfl (RvS.c rfl RvS.nil))))) (by rfl) (nx hX)) (it [1, 5, 8, 9, 10]))⟩
 refine pwp_skip ?_
 refine rve 24 [(1, .fn g1 c1), (5, rf 0 0 1 x3), (8, A a0), (9, I (a0.length : Int)), (10, I (w64 (x2 + 1)))] [sl 0 x3] ?_
 exact ⟨(f4, (w64 (x2 + 1)), x3), h, Nat.lt_succ_self _, it [1, 5, 8, 9, 10]⟩
 refine pwp_exit ?_
 refine srv 1 24 [(22, rf 0 0 1 x3)] [sl 0 x3] ?_
 refine opsP_imp (Imp.freezeB (v := 0) (cs := eL x3) (st' := ⟨24, [(22, A x3)], [none]⟩) 0 0 (nx hX) (by kernel_rfl) (eL_frz _) (wholeC (whole_is (eL_len x3).symm) wholeC0) (HpRel.key HpRel.nil) (by kernel_rfl) rfl (nx hX)) ?_
 obtain ⟨v14, hv15, h⟩ := bindS h
 refine cF 23 (ok_impl_rowsCopy hv15) ?_
 refine ve 1 24 [(4, A v14)] [none] ?_
 cases h
 exact pwp_ret rz
def impl_RowFits_j2 (x3 : Int) (K5 : Int → Option Bool) (x9 : Bool) : Option Bool := bif x9 then some false else K5 (w64 (x3 + 1))
def impl_RowFits_l1 (a0 : List T_impl_Column) (a1 : List T_impl_Value) : Nat → Int → Option Bool
 | 0, _ => none
 | f4 + 1, x3 => bif (decide (x3 < (a1.length : Int))) then (getI a1 x3).bind fun v7 => (getI a0 x3).bind fun v11 => bif (!(v7.fKind == v11.fKind)) then bif (!(v7.fKind == 0)) then impl_RowFits_j2 x3 (impl_RowFits_l1 a0 a1 f4) true else (getI a0 x3).bind fun v13 => impl_RowFits_j2 x3 (impl_RowFits_l1 a0 a1 f4) (!v13.fEmpty) else impl_RowFits_j2 x3 (impl_RowFits_l1 a0 a1 f4) false else some true
def impl_RowFits_j0 (a0 : List T_impl_Column) (a1 : List T_impl_Value) (x1 : Bool) : Option Bool := bif x1 then some false else impl_RowFits_l1 a0 a1 FUEL 0
def impl_RowFits (a0 : List T_impl_Column) (a1 : List T_impl_Value) : Option Bool := (impl_ColumnsOk a0).bind fun v17 => bif (!v17) then impl_RowFits_j0 a0 a1 true else (impl_RowOk a1).bind fun v19 => bif (!v19) then impl_RowFits_j0 a0 a1 true else impl_RowFits_j0 a0 a1 (!((a1.length : Int) == (a0.length : Int)))
theorem ok_impl_RowFits {a0 : List T_impl_Column} {a1 : List T_impl_Value} {y : Bool} (h : impl_RowFits a0 a1 = some y) : OK Tryz.prog 75 [A a0, A a1] (B y) := by
 refine ow Tryz.func75 fun Γ hX => ?_
 unfold impl_RowFits at h
 refine srveM [6] 51 [(0, A a0), (1, A a1)] [] ?_
 refine pwp_seq ?_
 refine pwp_seq ?_
 refine pwp_join (σ := Bool) (fun x1 => (⟨51, [(0, A a0), (1, A a1), (21, B x1)], []⟩ : St)) (fun x1 => impl_RowFits_j0 a0 a1 x1 = some y) ?_ ?_
 refine rvM [6] 1 51 [(0, A a0), (1, A a1), (7, A a0)] [] ?_
 obtain ⟨v17, hv18, h⟩ := bindS h
 refine cF 8 (ok_impl_ColumnsOk hv18) ?_
 refine vM [6] 2 51 [(0, A a0), (1, A a1), (10, B (!v17))] [] ?_
 rcases fk (!v17) with hc22 | hc22
 replace h := bT hc22 h
 rw [hc22]
 refine veM [6] 11 51 [(0, A a0), (1, A a1), (21, B true)] [] ?_
 exact ⟨true, h, it [0, 1, 21]⟩
 replace h := bF hc22 h
 rw [hc22]
 refine vM [6] 1 51 [(0, A a0), (1, A a1), (10, B false), (11, A a1)] [] ?_
 obtain ⟨v19, hv20, h⟩ := bindS h
 refine cF 12 (ok_impl_RowOk hv20) ?_
 refine vM [6] 3 51 [(0, A a0), (1, A a1), (15, B (!v19))] [] ?_
 rcases fk (!v19) with hc21 | hc21
 replace h := bT hc21 h
 rw [hc21]
 refine veM [6] 6 51 [(0, A a0), (1, A a1), (21, B true)] [] ?_
 exact ⟨true, h, it [0, 1, 21]⟩
 replace h := bF hc21 h
 rw [hc21]
 refine veM [6] 6 51 [(0, A a0), (1, A a1), (21, B (!((a1.length : Int) == (a0.length : Int))))] [] ?_
 exact ⟨(!((a1.length : Int) == (a0.length : Int))), h, it [0, 1, 21]⟩
 rintro x1 h
 unfold impl_RowFits_j0 at h
 refine pc h (fun h => ?_) (fun h => ?_)
 refine srveM [6] 51 [(4, B false)] [] ?_
 cases h
 exact pwp_ret rz
 refine pwp_skip ?_
 refine pwp_seq ?_
 refine srveM [6] 51 [(0, A a0), (22, A a1), (23, I (a1.length : Int)), (24, I 0)] [] ?_
 refine pwp_block ?_
 refine pwp_loop (ι := Nat × Int) (fun (f4, x3) => (⟨51, [(0, A a0), (22, A a1), (23, I (a1.length : Int)), (24, I x3)], []⟩ : St)) (fun (f4, x3) => impl_RowFits_l1 a0 a1 f4 x3 = some y) Prod.fst (FUEL, 0) h (it [0, 22, 23, 24]) ?_
 rintro ⟨f4, x3⟩ h
 dsimp only at h ⊢
 rcases f4 with _ | f4
 cases h
 rw [impl_RowFits_l1] at h
 refine srveM [6] 51 [(0, A a0), (22, A a1), (23, I (a1.length : Int)), (24, I x3), (25, B (decide (x3 < (a1.length : Int))))] [] ?_
 refine pwp_seq ?_
 refine pc h (fun h => ?_) (fun h => ?_)
 refine pwp_skip ?_
 refine pwp_seq ?_
 refine pwp_block ?_
 refine srvM [6] 1 51 [(0, A a0), (22, A a1), (23, I (a1.length : Int)), (24, I x3), (26, I x3)] [] ?_
 obtain ⟨v7, hv8, h⟩ := bindS h
 refine opsP_idx τ_ok 27 hv8 (by kernel_rfl) ?_
 refine veM [6] 4 51 [(0, A a0), (5, I x3), (6, .ptr 0 0 0), (22, A a1), (23, I (a1.length : Int)), (24, I x3)] [sc 0 v7] ?_
 refine pwp_seq ?_
 refine pwp_join (σ := Bool) (fun x9 => (⟨51, [(0, A a0), (22, A a1), (23, I (a1.length : Int)), (24, I x3), (49, B x9)], [sc 0 v7]⟩ : St)) (fun x9 => impl_RowFits_j2 x3 (impl_RowFits_l1 a0 a1 f4) x9 = some y) ?_ ?_
 refine ip 51 [(0, A a0), (5, I x3), (6, .ptr 0 0 0), (22, A a1), (23, I (a1.length : Int)), (24, I x3)] [sc 0 v7] ?_
 refine pwp_any ([[0], [0], [], [], [], [], [], [], [], [0], [0], [], [], [], [], [], [], [], [], [], []]) ([[], [], [], [], [], [], [], [], [], [], [], [], [], [], [], [], [], [], [], [], []]) rfl (by kernel_rfl) ?_
 refine qvM [6] [0] (hB trivial) 2 51 [(30, I v7.fKind), (0, A a0), (5, I x3), (6, .ptr 0 0 0), (22, A a1), (23, I (a1.length : Int)), (24, I x3)] [sc 0 v7] ?_
 refine qvM [6] [] trivial 2 51 [(32, I x3), (31, A a0), (30, I v7.fKind), (0, A a0), (5, I x3), (6, .ptr 0 0 0), (22, A a1), (23, I (a1.length : Int)), (24, I x3)] [sc 0 v7] ?_
 obtain ⟨v11, hv12, h⟩ := bindS h
 refine qX (some 33) (pf v11 0) 51 [(33, pf v11 0), (30, I v7.fKind), (0, A a0), (5, I x3), (6, .ptr 0 0 0), (22, A a1), (23, I (a1.length : Int)), (24, I x3)] [sc 0 v7] (fun Γ' hΓ => CoreE.of_y (idxV_sound τ_ok (by kernel_rfl) hv12)) trivial ?_
 refine qvM [6] [] trivial 4 51 [(37, B (!(v7.fKind == v11.fKind))), (0, A a0), (5, I x3), (6, .ptr 0 0 0), (22, A a1), (23, I (a1.length : Int)), (24, I x3)] [sc 0 v7] ?_
 rcases fk (!(v7.fKind == v11.fKind)) with hc16 | hc16
 replace h := bT hc16 h
 rw [hc16]
 refine qvM [6] [0] (hB trivial) 2 51 [(39, I v7.fKind), (38, .ptr 0 0 0), (37, B true), (0, A a0), (5, I x3), (22, A a1), (23, I (a1.length : Int)), (24, I x3)] [sc 0 v7] ?_
 refine qvM [6] [] trivial 2 51 [(41, B (!(v7.fKind == 0))), (40, B (!(v7.fKind == 0))), (39, I v7.fKind), (38, .ptr 0 0 0), (37, B true), (0, A a0), (5, I x3), (22, A a1), (23, I (a1.length : Int)), (24, I x3)] [sc 0 v7] ?_
 rcases fk (!(v7.fKind == 0)) with hc15 | hc15
 replace h := bT hc15 h
 rw [hc15]
 refine qvnM [6] [] trivial 8 51 [(0, A a0), (22, A a1), (23, I (a1.length : Int)), (24, I x3), (38, .ptr 0 0 0), (39, I v7.fKind), (40, B true), (41, B true), (42, .lit undef), (43, .lit undef), (44, .lit undef), (45, .lit undef), (46, .lit undef), (47, .lit undef), (48, B true), (49, B true)] [sc 0 v7] ?_
 exact ⟨true, h, it [0, 22, 23, 24, 49]⟩
 replace h := bF hc15 h
 rw [hc15]
 refine qvM [6] [] trivial 2 51 [(43, I x3), (42, A a0), (41, B false), (40, B false), (39, I v7.fKind), (38, .ptr 0 0 0), (37, B true), (0, A a0), (22, A a1), (23, I (a1.length : Int)), (24, I x3)] [sc 0 v7] ?_
 obtain ⟨v13, hv14, h⟩ := bindS h
 refine qX (some 44) (pf v13 0) 51 [(44, pf v13 0), (43, I x3), (42, A a0), (41, B false), (40, B false), (39, I v7.fKind), (38, .ptr 0 0 0), (37, B true), (0, A a0), (22, A a1), (23, I (a1.length : Int)), (24, I x3)] [sc 0 v7] (fun Γ' hΓ => CoreE.of_y (idxV_sound τ_ok (by kernel_rfl) hv14)) trivial ?_
 refine qvnM [6] [] trivial 5 51 [(0, A a0), (22, A a1), (23, I (a1.length : Int)), (24, I x3), (38, .ptr 0 0 0), (39, I v7.fKind), (40, B false), (41, B false), (42, A a0), (43, I x3), (44, pf v13 0), (45, pf v13 1), (46, B v13.fEmpty), (47, B (!v13.fEmpty)), (48, B (!v13.fEmpty)), (49, B (!v13.fEmpty))] [sc 0 v7] ?_
 exact ⟨(!v13.fEmpty), h, it [0, 22, 23, 24, 49]⟩
 replace h := bF hc16 h
 rw [hc16]
 refine qvM [6] [0] (hB trivial) 2 51 [(39, .lit undef), (38, .lit undef), (37, B false), (0, A a0), (5, I x3), (22, A a1), (23, I (a1.length : Int)), (24, I x3)] [sc 0 v7] ?_
 refine qvM [6] [] trivial 10 51 [(49, B false), (48, .lit undef), (47, .lit undef), (46, .lit undef), (45, .lit undef), (44, .lit undef), (43, .lit undef), (42, .lit undef), (41, .lit undef), (40, .lit undef), (39, .lit undef), (38, .lit undef), (0, A a0), (22, A a1), (23, I (a1.length : Int)), (24, I x3)] [sc 0 v7] ?_
 refine qn 51 [(0, A a0), (22, A a1), (23, I (a1.length : Int)), (24, I x3), (38, .lit undef), (39, .lit undef), (40, .lit undef), (41, .lit undef), (42, .lit undef), (43, .lit undef), (44, .lit undef), (45, .lit undef), (46, .lit undef), (47, .lit undef), (48, .lit undef), (49, B false)] [sc 0 v7] ?_
 exact ⟨false, h, it [0, 22, 23, 24, 49]⟩
 rintro x9 h
 unfold impl_RowFits_j2 at h
 refine pc h (fun h => ?_) (fun h => ?_)
 refine srveM [6] 51 [(4, B false)] [sc 0 v7] ?_
 cases h
 exact pwp_ret rz
 refine pwp_skip ?_
 refine rveM [6] 51 [(0, A a0), (22, A a1), (23, I (a1.length : Int)), (24, I (w64 (x3 + 1)))] [sc 0 v7] ?_
 exact ⟨(f4, (w64 (x3 + 1))), h, Nat.lt_succ_self _, (it (st' := ⟨51, [(0, A a0), (22, A a1), (23, I (a1.length : Int)), (24, I (w64 (x3 + 1)))], [sc 0 v7]⟩) [0, 22, 23, 24]).trans (Imp.truncS 0 (nx hX) (by kernel_rfl) (allBelow_mem (by exact (And.intro rfl (And.intro rfl (And.intro rfl (And.intro rfl trivial)))))) (by exact trivial) (by kernel_rfl))⟩
 refine pwp_exit ?_
 refine srveM [6] 51 [(4, B true)] [] ?_
 cases h
 exact pwp_ret rz
def spec_ExprKind_j3 (x6 : List Int) (x15 : Bool) : Option Int := bif x15 then some (-1) else (getI x6 (0 : Int)).bind fun v17 => some v17
def spec_ExprKind_j2 (a0 : List T_impl_Column) (a1 : List T_impl_Part) (x4 : Bool) (x5 : Int) (x6 : List Int) (K8 : Bool → Int → (List Int) → Option Int) (x9 : Bool) : Option Int := bif x9 then (getI a1 x5).bind fun v11 => (spec_l4Step a0 x6 v11).bind fun v13 => K8 v13.2 (w64 (x5 + 1)) v13.1 else bif (!x4) then spec_ExprKind_j3 x6 true else spec_ExprKind_j3 x6 (!((x6.length : Int) == 1))
def spec_ExprKind_l1 (a0 : List T_impl_Column) (a1 : List T_impl_Part) : Nat → Bool → Int → (List Int) → Option Int
 | 0, _, _, _ => none
 | f7 + 1, x4, x5, x6 => bif (decide (x5 < (a1.length : Int))) then spec_ExprKind_j2 a0 a1 x4 x5 x6 (spec_ExprKind_l1 a0 a1 f7) x4 else spec_ExprKind_j2 a0 a1 x4 x5 x6 (spec_ExprKind_l1 a0 a1 f7) false
def spec_ExprKind_j0 (a0 : List T_impl_Column) (a1 : List T_impl_Part) (x1 : Bool) : Option Int := bif x1 then some (-1) else spec_ExprKind_l1 a0 a1 FUEL true 0 ([] : List Int)
def spec_ExprKind (a0 : List T_impl_Column) (a1 : List T_impl_Part) : Option Int := (spec_ColumnsOk a0).bind fun v21 => bif (!v21) then spec_ExprKind_j0 a0 a1 true else spec_ExprKind_j0 a0 a1 (decide ((a1.length : Int) > 12))
theorem ok_spec_ExprKind {a0 : List T_impl_Column} {a1 : List T_impl_Part} {y : Int} (h : spec_ExprKind a0 a1 = some y) : OK Tryz.prog 82 [A a0, A a1] (I y) := by
 refine ow Tryz.func82 fun Γ hX => ?_
 unfold spec_ExprKind at h
 refine srve 46 [(0, A a0), (1, A a1)] [] ?_
 refine pwp_seq ?_
 refine pwp_seq ?_
 refine pwp_join (σ := Bool) (fun x1 => (⟨46, [(0, A a0), (1, A a1), (15, B x1)], []⟩ : St)) (fun x1 => spec_ExprKind_j0 a0 a1 x1 = some y) ?_ ?_
 refine rv 1 46 [(0, A a0), (1, A a1), (8, A a0)] [] ?_
 obtain ⟨v21, hv22, h⟩ := bindS h
 refine cF 9 (ok_spec_ColumnsOk hv22) ?_
 refine v 2 46 [(0, A a0), (1, A a1), (11, B (!v21))] [] ?_
 rcases fk (!v21) with hc23 | hc23
 replace h := bT hc23 h
 rw [hc23]
 refine ve 4 46 [(0, A a0), (1, A a1), (15, B true)] [] ?_
 exact ⟨true, h, it [0, 1, 15]⟩
 replace h := bF hc23 h
 rw [hc23]
 refine ve 4 46 [(0, A a0), (1, A a1), (15, B (decide ((a1.length : Int) > 12)))] [] ?_
 exact ⟨(decide ((a1.length : Int) > 12)), h, it [0, 1, 15]⟩
 rintro x1 h
 unfold spec_ExprKind_j0 at h
 refine pc h (fun h => ?_) (fun h => ?_)
 refine srve 46 [(4, I (-1))] [] ?_
 cases h
 exact pwp_ret rz
 refine pwp_skip ?_
 refine srve 46 [(0, A a0), (1, A a1), (5, .arr 1 0 (eL ([] : List Int)) true)] [] ?_
 refine srve 46 [(0, A a0), (1, A a1), (5, .arr 1 0 (eL ([] : List Int)) true), (6, B true)] [] ?_
 refine pwp_seq ?_
 refine srve 46 [(0, A a0), (1, A a1), (5, .arr 1 0 (eL ([] : List Int)) true), (6, B true), (7, I 0)] [] ?_
 refine pwp_block ?_
 refine pwp_loop (ι := Nat × Bool × Int × (List Int)) (fun (f7, x4, x5, x6) => (⟨46, [(0, A a0), (1, A a1), (5, rf 0 0 1 x6), (6, B x4), (7, I x5)], [sl 0 x6]⟩ : St)) (fun (f7, x4, x5, x6) => spec_ExprKind_l1 a0 a1 f7 x4 x5 x6 = some y) Prod.fst (FUEL, true, 0, ([] : List Int)) h (Imp.thawS 5 [0, 1, 5, 6, 7] (by kernel_rfl)) ?_
 rintro ⟨f7, x4, x5, x6⟩ h
 dsimp only at h ⊢
 rcases f7 with _ | f7
 cases h
 rw [spec_ExprKind_l1] at h
 refine pwp_seq ?_
 refine pwp_seq ?_
 refine pwp_join (σ := Bool) (fun x9 => (⟨46, [(0, A a0), (1, A a1), (5, rf 0 0 1 x6), (6, B x4), (7, I x5), (23, B x9)], [sl 0 x6]⟩ : St)) (fun x9 => spec_ExprKind_j2 a0 a1 x4 x5 x6 (spec_ExprKind_l1 a0 a1 f7) x9 = some y) ?_ ?_
 refine rv 5 46 [(0, A a0), (1, A a1), (5, rf 0 0 1 x6), (6, B x4), (7, I x5), (21, B (decide (x5 < (a1.length : Int))))] [sl 0 x6] ?_
 rcases fk (decide (x5 < (a1.length : Int))) with hc20 | hc20
 replace h := bT hc20 h
 rw [hc20]
 refine ve 2 46 [(0, A a0), (1, A a1), (5, rf 0 0 1 x6), (6, B x4), (7, I x5), (22, B x4), (23, B x4)] [sl 0 x6] ?_
 exact ⟨x4, h, it [0, 1, 5, 6, 7, 23]⟩
 replace h := bF hc20 h
 rw [hc20]
 refine ve 2 46 [(0, A a0), (1, A a1), (5, rf 0 0 1 x6), (6, B x4), (7, I x5), (22, .lit undef), (23, B false)] [sl 0 x6] ?_
 exact ⟨false, h, it [0, 1, 5, 6, 7, 23]⟩
 rintro x9 h
 unfold spec_ExprKind_j2 at h
 refine pc h (fun h => ?_) (fun h => ?_)
 refine pwp_skip ?_
 refine pwp_seq ?_
 refine pwp_block ?_
 refine rv 4 46 [(0, A a0), (1, A a1), (7, I x5), (27, A a0), (28, rf 0 0 1 x6), (29, A a1), (30, I x5)] [sl 0 x6] ?_
 obtain ⟨v11, hv12, h⟩ := bindS h
 refine opsP_idx τ_ok 31 hv12 (by kernel_rfl) ?_
 refine v 1 46 [(0, A a0), (1, A a1), (7, I x5), (27, A a0), (28, rf 0 0 1 x6), (32, E v11)] [sl 0 x6] ?_
 obtain ⟨v13, hv14, h⟩ := bindS h
 refine opsP_callM (xs := [A a0, rf 0 0 1 x6, E v11]) (x := .tup [rf 1 0 1 v13.1, B v13.2]) (bs := [⟨0, eL v13.1⟩]) τ 33 [0] (nx hX) (ok_spec_l4Step hv14) (by kernel_rfl) (OutL.cons (OutP.frz rfl) (OutL.cons (OutP.list (v := 0) (by kernel_rfl)) (OutL.cons (OutP.frz rfl) (OutL.nil _)))) (by decide) (by kernel_rfl) ?_
 refine ve 5 46 [(0, A a0), (1, A a1), (5, rf 1 0 1 v13.1), (6, B v13.2), (7, I x5)] [none, sl 0 v13.1] ?_
 refine rve 46 [(0, A a0), (1, A a1), (5, rf 1 0 1 v13.1), (6, B v13.2), (7, I (w64 (x5 + 1)))] [none, sl 0 v13.1] ?_
 exact ⟨(f7, v13.2, (w64 (x5 + 1)), v13.1), h, Nat.lt_succ_self _, qt (it (st' := ⟨46, [(0, A a0), (1, A a1), (5, rf 1 0 1 v13.1), (6, B v13.2), (7, I (w64 (x5 + 1)))], [none, sl 0 v13.1]⟩) [0, 1, 5, 6, 7]) (qt (Imp.mvS (st' := ⟨46, [(0, A a0), (1, A a1), (5, rf 0 0 1 v13.1), (6, B v13.2), (7, I (w64 (x5 + 1)))], [sl 0 v13.1, none]⟩) 1 0 [0, 1, 5, 6, 7] (nx hX) (v := 0) (cs := eL v13.1) (by kernel_rfl) (by kernel_rfl) (by exact (And.intro (eL_frz _) trivial)) (by kernel_rfl) (by kernel_rfl)) (Imp.truncS 1 (nx hX) (by kernel_rfl) (allBelow_mem (by exact (And.intro rfl (And.intro rfl (And.intro rfl (And.intro rfl (And.intro rfl trivial))))))) (by exact (And.intro (frz_below (eL_frz _)) trivial)) (by kernel_rfl)))⟩
 refine pwp_exit ?_
 refine pwp_seq ?_
 refine pwp_seq ?_
 refine pwp_join (σ := Bool) (fun x15 => (⟨46, [(5, rf 0 0 1 x6), (42, B x15)], [sl 0 x6]⟩ : St)) (fun x15 => spec_ExprKind_j3 x6 x15 = some y) ?_ ?_
 refine rv 3 46 [(5, rf 0 0 1 x6), (38, B (!x4))] [sl 0 x6] ?_
 rcases fk (!x4) with hc19 | hc19
 replace h := bT hc19 h
 rw [hc19]
 refine ve 4 46 [(5, rf 0 0 1 x6), (42, B true)] [sl 0 x6] ?_
 exact ⟨true, h, it [5, 42]⟩
 replace h := bF hc19 h
 rw [hc19]
 refine ve 4 46 [(5, rf 0 0 1 x6), (42, B (!((x6.length : Int) == 1)))] [sl 0 x6] ?_
 exact ⟨(!((x6.length : Int) == 1)), h, it [5, 42]⟩
 rintro x15 h
 unfold spec_ExprKind_j3 at h
 refine pc h (fun h => ?_) (fun h => ?_)
 refine srve 46 [(4, I (-1))] [sl 0 x6] ?_
 cases h
 exact pwp_ret rz
 refine pwp_skip ?_
 refine srv 1 46 [(43, rf 0 0 1 x6)] [sl 0 x6] ?_
 obtain ⟨v17, hv18, h⟩ := bindS h
 refine opsP_idr τ_ok 44 0 0 x6.length hv18 rfl (by kernel_rfl) ?_
 refine opsP_lde (r := I v17) τ_ok 45 3 0 hv18 (by kernel_rfl) (by kernel_rfl) ?_
 refine ve 1 46 [(4, I v17)] [sl 0 x6] ?_
 cases h
 exact pwp_ret rz
def spec_TablesOk_j1 (x1 : Int) (K3 : Int → Option Bool) (x5 : Bool) : Option Bool := bif x5 then some false else K3 (w64 (x1 + 1))
def spec_TablesOk_l0 (a0 : List T_impl_Table) : Nat → Int → Option Bool
 | 0, _ => none
 | f2 + 1, x1 => bif (decide (x1 < (a0.length : Int))) then (getI a0 x1).bind fun v7 => bif (decide ((v7.fRows.length : Int) > 6)) then spec_TablesOk_j1 x1 (spec_TablesOk_l0 a0 f2) true else (getI a0 x1).bind fun v9 => (getI a0 x1).bind fun v11 => (spec_RowsOk v9.fColumns v11.fRows).bind fun v13 => spec_TablesOk_j1 x1 (spec_TablesOk_l0 a0 f2) (!v13) else some (decide ((a0.length : Int) ≤ 3))
def spec_TablesOk (a0 : List T_impl_Table) : Option Bool := spec_TablesOk_l0 a0 FUEL 0
theorem ok_spec_TablesOk {a0 : List T_impl_Table} {y : Bool} (h : spec_TablesOk a0 = some y) : OK Tryz.prog 102 [A a0] (B y) := by
 refine ow Tryz.func102 fun Γ hX => ?_
 unfold spec_TablesOk at h
 refine srve 34 [(0, A a0)] [] ?_
 refine pwp_seq ?_
 refine srve 34 [(0, A a0), (3, I 0)] [] ?_
 refine pwp_block ?_
 refine pwp_loop (ι := Nat × Int) (fun (f2, x1) => (⟨34, [(0, A a0), (3, I x1)], []⟩ : St)) (fun (f2, x1) => spec_TablesOk_l0 a0 f2 x1 = some y) Prod.fst (FUEL, 0) h (it [0, 3]) ?_
 rintro ⟨f2, x1⟩ h
 dsimp only at h ⊢
 rcases f2 with _ | f2
 cases h
 rw [spec_TablesOk_l0] at h
 refine pwp_seq ?_
 refine srve 34 [(0, A a0), (3, I x1), (7, B (decide (x1 < (a0.length : Int))))] [] ?_
 refine pc h (fun h => ?_) (fun h => ?_)
 refine pwp_skip ?_
 refine pwp_seq ?_
 refine pwp_block ?_
 refine pwp_seq ?_
 refine pwp_join (σ := Bool) (fun x5 => (⟨34, [(0, A a0), (3, I x1), (30, B x5)], []⟩ : St)) (fun x5 => spec_TablesOk_j1 x1 (spec_TablesOk_l0 a0 f2) x5 = some y) ?_ ?_
 refine ip 34 [(0, A a0), (3, I x1)] [] ?_
 refine pN 21 ?_
 refine qv [] trivial 2 34 [(11, I x1), (10, A a0), (0, A a0), (3, I x1)] [] ?_
 obtain ⟨v7, hv8, h⟩ := bindS h
 refine qX (some 12) (pf v7 0) 34 [(12, pf v7 0), (0, A a0), (3, I x1)] [] (fun Γ' hΓ => CoreE.of_y (idxV_sound τ_ok (by kernel_rfl) hv8)) trivial ?_
 refine qv [] trivial 5 34 [(17, B (decide ((v7.fRows.length : Int) > 6))), (0, A a0), (3, I x1)] [] ?_
 rcases fk (decide ((v7.fRows.length : Int) > 6)) with hc15 | hc15
 replace h := bT hc15 h
 rw [hc15]
 refine qvn [] trivial 13 34 [(0, A a0), (3, I x1), (18, .lit undef), (19, .lit undef), (20, .lit undef), (21, .lit undef), (22, .lit undef), (23, .lit undef), (24, .lit undef), (25, .lit undef), (26, .lit undef), (27, .lit undef), (28, .lit undef), (29, .lit undef), (30, B true)] [] ?_
 exact ⟨true, h, it [0, 3, 30]⟩
 replace h := bF hc15 h
 rw [hc15]
 refine qv [] trivial 2 34 [(19, I x1), (18, A a0), (17, B false), (0, A a0), (3, I x1)] [] ?_
 obtain ⟨v9, hv10, h⟩ := bindS h
 refine qX (some 20) (pf v9 0) 34 [(20, pf v9 0), (19, I x1), (18, A a0), (17, B false), (0, A a0), (3, I x1)] [] (fun Γ' hΓ => CoreE.of_y (idxV_sound τ_ok (by kernel_rfl) hv10)) trivial ?_
 refine qv [] trivial 4 34 [(24, I x1), (23, A a0), (22, A v9.fColumns), (21, pf v9 0), (20, pf v9 0), (19, I x1), (18, A a0), (17, B false), (0, A a0), (3, I x1)] [] ?_
 obtain ⟨v11, hv12, h⟩ := bindS h
 refine qX (some 25) (pf v11 0) 34 [(25, pf v11 0), (24, I x1), (23, A a0), (22, A v9.fColumns), (21, pf v9 0), (20, pf v9 0), (19, I x1), (18, A a0), (17, B false), (0, A a0), (3, I x1)] [] (fun Γ' hΓ => CoreE.of_y (idxV_sound τ_ok (by kernel_rfl) hv12)) trivial ?_
 refine qv [] trivial 2 34 [(27, A v11.fRows), (26, pf v11 1), (25, pf v11 0), (24, I x1), (23, A a0), (22, A v9.fColumns), (21, pf v9 0), (20, pf v9 0), (19, I x1), (18, A a0), (17, B false), (0, A a0), (3, I x1)] [] ?_
 obtain ⟨v13, hv14, h⟩ := bindS h
 refine qX (some 28) (B v13) 34 [(28, B v13), (27, A v11.fRows), (26, pf v11 1), (25, pf v11 0), (24, I x1), (23, A a0), (22, A v9.fColumns), (21, pf v9 0), (20, pf v9 0), (19, I x1), (18, A a0), (17, B false), (0, A a0), (3, I x1)] [] (fun Γ' hΓ => CoreE.of_g (callV_sound (τ := τ) (by kernel_rfl) rfl (ok_spec_RowsOk hv14) (FzTo.frz rfl))) trivial ?_
 refine qvn [] trivial 2 34 [(0, A a0), (3, I x1), (18, A a0), (19, I x1), (20, pf v9 0), (21, pf v9 0), (22, A v9.fColumns), (23, A a0), (24, I x1), (25, pf v11 0), (26, pf v11 1), (27, A v11.fRows), (28, B v13), (29, B (!v13)), (30, B (!v13))] [] ?_
 exact ⟨(!v13), h, it [0, 3, 30]⟩
 rintro x5 h
 unfold spec_TablesOk_j1 at h
 refine pc h (fun h => ?_) (fun h => ?_)
 refine srve 34 [(2, B false)] [] ?_
 cases h
 exact pwp_ret rz
 refine pwp_skip ?_
 refine rve 34 [(0, A a0), (3, I (w64 (x1 + 1)))] [] ?_
 exact ⟨(f2, (w64 (x1 + 1))), h, Nat.lt_succ_self _, it [0, 3]⟩
 refine pwp_exit ?_
 refine srve 34 [(2, B (decide ((a0.length : Int) ≤ 3)))] [] ?_
 cases h
 exact pwp_ret rz
def impl_Part_kind (a0 : T_impl_Part) (a1 : List T_impl_Column) (a2 : List Int) : Option (Int × Bool) := bif (a0.fKind == 1) then some (a0.fV.fKind, true) else bif (a0.fKind == 2) then (getI a1 a0.fN).bind fun v3 => some (v3.fKind, true) else bif (a0.fKind == 3) then (impl_Part_kind_1 1 a2).bind fun v6 => some (1, v6) else bif (a0.fKind == 4) then (getI a2 0).bind fun v9 => (getI a2 1).bind fun v11 => some (3, (v9 == v11)) else bif (a0.fKind == 8) then some (3, true) else (impl_Part_kind_1 3 a2).bind fun v14 => some (3, v14)
theorem ok_impl_Part_kind {a0 : T_impl_Part} {a1 : List T_impl_Column} {a2 : List Int} {y : Int × Bool} (h : impl_Part_kind a0 a1 a2 = some y) : OK Tryz.prog 106 [E a0, A a1, A a2] (.tup [I y.1, B y.2]) := by
 refine ow Tryz.func106 fun Γ hX => ?_
 unfold impl_Part_kind at h
 refine srve 42 [(1, A a1), (3, pf a0 0), (5, pf a2 0)] [] ?_
 refine srve 42 [(1, A a1), (3, pf a0 0), (5, pf a2 0), (8, .fn 149 [pf a2 0])] [] ?_
 refine pwp_seq ?_
 refine srve 42 [(1, A a1), (3, pf a0 0), (5, pf a2 0), (8, .fn 149 [pf a2 0]), (11, I a0.fKind)] [] ?_
 refine pwp_block ?_
 refine srve 42 [(1, A a1), (3, pf a0 0), (5, pf a2 0), (8, .fn 149 [pf a2 0]), (11, I a0.fKind), (12, B (a0.fKind == 1))] [] ?_
 refine pc h (fun h => ?_) (fun h => ?_)
 refine srve 42 [(6, I a0.fV.fKind), (7, B true)] [] ?_
 have h := si h
 subst h
 exact pwp_ret (rt (.tup [I a0.fV.fKind, B true]) (OutP.tup (OutL.cons (OutP.frz (by kernel_rfl)) (OutL.cons (OutP.frz (by kernel_rfl)) (OutL.nil _)))))
 refine srve 42 [(1, A a1), (3, pf a0 0), (5, pf a2 0), (8, .fn 149 [pf a2 0]), (11, I a0.fKind), (17, B (a0.fKind == 2))] [] ?_
 refine pc h (fun h => ?_) (fun h => ?_)
 refine srv 3 42 [(19, A a1), (21, I a0.fN)] [] ?_
 obtain ⟨v3, hv4, h⟩ := bindS h
 refine opsP_idx τ_ok 22 hv4 (by kernel_rfl) ?_
 refine ve 4 42 [(6, I v3.fKind), (7, B true)] [] ?_
 have h := si h
 subst h
 exact pwp_ret (rt (.tup [I v3.fKind, B true]) (OutP.tup (OutL.cons (OutP.frz (by kernel_rfl)) (OutL.cons (OutP.frz (by kernel_rfl)) (OutL.nil _)))))
 refine srve 42 [(5, pf a2 0), (8, .fn 149 [pf a2 0]), (11, I a0.fKind), (25, B (a0.fKind == 3))] [] ?_
 refine pc h (fun h => ?_) (fun h => ?_)
 refine srv 1 42 [(27, .fn 149 [pf a2 0])] [] ?_
 obtain ⟨v6, hv7, h⟩ := bindS h
 refine cF 28 (ok_impl_Part_kind_1 hv7) ?_
 refine ve 2 42 [(6, I 1), (7, B v6)] [] ?_
 have h := si h
 subst h
 exact pwp_ret (rt (.tup [I 1, B v6]) (OutP.tup (OutL.cons (OutP.frz (by kernel_rfl)) (OutL.cons (OutP.frz (by kernel_rfl)) (OutL.nil _)))))
 refine srve 42 [(5, pf a2 0), (8, .fn 149 [pf a2 0]), (11, I a0.fKind), (29, B (a0.fKind == 4))] [] ?_
 refine pc h (fun h => ?_) (fun h => ?_)
 refine pwp_seq ?_
 refine ip 42 [(5, pf a2 0)] [] ?_
 refine pN 9 ?_
 refine qv [] trivial 1 42 [(31, A a2), (5, pf a2 0)] [] ?_
 obtain ⟨v9, hv10, h⟩ := bindS h
 refine qX (some 32) (pf v9 0) 42 [(32, pf v9 0), (5, pf a2 0)] [] (fun Γ' hΓ => CoreE.of_y (idxV_sound τ_ok (by kernel_rfl) hv10)) trivial ?_
 refine qv [] trivial 2 42 [(34, A a2), (33, I v9)] [] ?_
 obtain ⟨v11, hv12, h⟩ := bindS h
 refine qX (some 35) (pf v11 0) 42 [(35, pf v11 0), (33, I v9)] [] (fun Γ' hΓ => CoreE.of_y (idxV_sound τ_ok (by kernel_rfl) hv12)) trivial ?_
 refine qvn [] trivial 4 42 [(6, I 3), (7, B (v9 == v11))] [] ?_
 have h := si h
 subst h
 exact pwp_ret (rt (.tup [I 3, B (v9 == v11)]) (OutP.tup (OutL.cons (OutP.frz (by kernel_rfl)) (OutL.cons (OutP.frz (by kernel_rfl)) (OutL.nil _)))))
 refine srve 42 [(8, .fn 149 [pf a2 0]), (38, B (a0.fKind == 8))] [] ?_
 refine pc h (fun h => ?_) (fun h => ?_)
 refine srve 42 [(6, I 3), (7, B true)] [] ?_
 have h := si h
 subst h
 exact pwp_ret (rt (.tup [I 3, B true]) (OutP.tup (OutL.cons (OutP.frz (by kernel_rfl)) (OutL.cons (OutP.frz (by kernel_rfl)) (OutL.nil _)))))
 refine pwp_skip ?_
 refine srv 1 42 [(40, .fn 149 [pf a2 0])] [] ?_
 obtain ⟨v14, hv15, h⟩ := bindS h
 refine cF 41 (ok_impl_Part_kind_1 hv15) ?_
 refine ve 2 42 [(6, I 3), (7, B v14)] [] ?_
 have h := si h
 subst h
 exact pwp_ret (rt (.tup [I 3, B v14]) (OutP.tup (OutL.cons (OutP.frz (by kernel_rfl)) (OutL.cons (OutP.frz (by kernel_rfl)) (OutL.nil _)))))
def spec_l4Do (a0 : List T_impl_Value) (a1 : List T_impl_Value) (a2 : T_impl_Part) : Option (List T_impl_Value) := bif (a2.fKind == 1) then (app a1 ([a2.fV] : List T_impl_Value)).bind fun v2 => some v2 else bif (a2.fKind == 2) then (getI a0 a2.fN).bind fun v5 => (app a1 ([v5] : List T_impl_Value)).bind fun v7 => some v7 else bif (a2.fKind == 3) then (slI a1 none (some (w64 ((a1.length : Int) - 2))) none).bind fun v10 => (getI a1 (w64 ((a1.length : Int) - 2))).bind fun v12 => (getI a1 (w64 ((a1.length : Int) - 1))).bind fun v14 => (spec_l4Sum v12 v14).bind fun v16 => (appT a1 ([v16] : List T_impl_Value) v10.length).bind fun v18 => some v18 else bif (a2.fKind == 4) then (slI a1 none (some (w64 ((a1.length : Int) - 2))) none).bind fun v21 => (getI a1 (w64 ((a1.length : Int) - 2))).bind fun v23 => (getI a1 (w64 ((a1.length : Int) - 1))).bind fun v25 => (spec_Compare a2.fN v23 v25).bind fun v27 => (spec_ValueOf v27).bind fun v29 => (appT a1 ([v29] : List T_impl_Value) v21.length).bind fun v31 => some v31 else bif (a2.fKind == 5) then (slI a1 none (some (w64 ((a1.length : Int) - 2))) none).bind fun v34 => (getI a1 (w64 ((a1.length : Int) - 2))).bind fun v36 => (spec_TruthOf v36).bind fun v38 => (getI a1 (w64 ((a1.length : Int) - 1))).bind fun v40 => (spec_TruthOf v40).bind fun v42 => (spec_AndOf v38 v42).bind fun v44 => (spec_ValueOf v44).bind fun v46 => (appT a1 ([v46] : List T_impl_Value) v34.length).bind fun v48 => some v48 else bif (a2.fKind == 6) then (slI a1 none (some (w64 ((a1.length : Int) - 2))) none).bind fun v51 => (getI a1 (w64 ((a1.length : Int) - 2))).bind fun v53 => (spec_TruthOf v53).bind fun v55 => (getI a1 (w64 ((a1.length : Int) - 1))).bind fun v57 => (spec_TruthOf v57).bind fun v59 => (spec_OrOf v55 v59).bind fun v61 => (spec_ValueOf v61).bind fun v63 => (appT a1 ([v63] : List T_impl_Value) v51.length).bind fun v65 => some v65 else bif (a2.fKind == 7) then (slI a1 none (some (w64 ((a1.length : Int) - 1))) none).bind fun v68 => (getI a1 (w64 ((a1.length : Int) - 1))).bind fun v70 => (spec_TruthOf v70).bind fun v72 => (spec_NotOf v72).bind fun v74 => (spec_ValueOf v74).bind fun v76 => (appT a1 ([v76] : List T_impl_Value) v68.length).bind fun v78 => some v78 else (slI a1 none (some (w64 ((a1.length : Int) - 1))) none).bind fun v80 => (getI a1 (w64 ((a1.length : Int) - 1))).bind fun v82 => (spec_l2Bool (v82.fKind == 0)).bind fun v84 => (spec_ValueOf v84).bind fun v86 => (appT a1 ([v86] : List T_impl_Value) v80.length).bind fun v88 => some v88
theorem ok_spec_l4Do {a0 : List T_impl_Value} {a1 : List T_impl_Value} {a2 : T_impl_Part} {y : List T_impl_Value} (h : spec_l4Do a0 a1 a2 = some y) : OKm Tryz.prog 141 [A a0, O a1, E a2] (O y) := by
 refine OKm_of_pwp (sl := [A a0, rf 0 0 3 a1, E a2]) (bs := [⟨0, eL a1⟩]) τ_ok Tryz.func141 rfl (by kernel_rfl) rfl (by kernel_rfl) fun Γ hX => ?_
 refine pwp_imp (Imp.to (st' := ⟨145, [(0, A a0), (1, rf 0 0 3 a1), (2, E a2)], [sl 0 a1]⟩) [0, 1, 2] (by kernel_rfl)) ?_
 unfold spec_l4Do at h
 refine srve 145 [(0, A a0), (1, rf 0 0 3 a1), (5, pf a2 0)] [sl 0 a1] ?_
 refine srve 145 [(0, A a0), (1, rf 0 0 3 a1), (5, pf a2 0), (7, I (a1.length : Int))] [sl 0 a1] ?_
 refine pwp_seq ?_
 refine srve 145 [(0, A a0), (1, rf 0 0 3 a1), (5, pf a2 0), (7, I (a1.length : Int)), (11, I a2.fKind)] [sl 0 a1] ?_
 refine pwp_block ?_
 refine srve 145 [(0, A a0), (1, rf 0 0 3 a1), (5, pf a2 0), (7, I (a1.length : Int)), (11, I a2.fKind), (12, B (a2.fKind == 1))] [sl 0 a1] ?_
 refine pc h (fun h => ?_) (fun h => ?_)
 refine srv 4 145 [(14, rf 0 0 3 a1), (17, .arr 3 ([a2.fV] : List T_impl_Value).length (eL ([a2.fV] : List T_impl_Value)) true)] [sl 0 a1] ?_
 obtain ⟨v2, hv3, h⟩ := bindS h
 refine opsP_app τ_ok 18 0 0 (nx hX) hv3 (by kernel_rfl) ?_
 refine ve 1 145 [(6, rf 0 1 3 v2)] [sl 1 v2] ?_
 have h := si h
 subst h
 exact pwp_ret (rt (rf 0 1 3 v2) (OutP.list (v := 1) (by kernel_rfl)))
 refine srve 145 [(0, A a0), (1, rf 0 0 3 a1), (5, pf a2 0), (7, I (a1.length : Int)), (11, I a2.fKind), (19, B (a2.fKind == 2))] [sl 0 a1] ?_
 refine pc h (fun h => ?_) (fun h => ?_)
 refine srv 4 145 [(21, rf 0 0 3 a1), (22, A a0), (24, I a2.fN)] [sl 0 a1] ?_
 obtain ⟨v5, hv6, h⟩ := bindS h
 refine opsP_idx τ_ok 25 hv6 (by kernel_rfl) ?_
 refine v 2 145 [(21, rf 0 0 3 a1), (27, .arr 3 ([v5] : List T_impl_Value).length (eL ([v5] : List T_impl_Value)) true)] [sl 0 a1] ?_
 obtain ⟨v7, hv8, h⟩ := bindS h
 refine opsP_app τ_ok 28 0 0 (nx hX) hv8 (by kernel_rfl) ?_
 refine ve 1 145 [(6, rf 0 1 3 v7)] [sl 1 v7] ?_
 have h := si h
 subst h
 exact pwp_ret (rt (rf 0 1 3 v7) (OutP.list (v := 1) (by kernel_rfl)))
 refine srve 145 [(1, rf 0 0 3 a1), (5, pf a2 0), (7, I (a1.length : Int)), (11, I a2.fKind), (29, B (a2.fKind == 3))] [sl 0 a1] ?_
 refine pc h (fun h => ?_) (fun h => ?_)
 refine pwp_seq ?_
 refine ip 145 [(1, rf 0 0 3 a1), (7, I (a1.length : Int))] [sl 0 a1] ?_
 refine pwp_any ([[0], [], [], [0], [0], [], [], [0], [0], [0], [], [], [0], [0], [], [], [0], [0]]) ([[], [], [], [], [], [], [], [], [], [], [], [], [], [], [], [], [0], []]) rfl (by kernel_rfl) ?_
 refine qv [0] (hL trivial) 1 145 [(31, rf 0 0 3 a1), (1, rf 0 0 3 a1), (7, I (a1.length : Int))] [sl 0 a1] ?_
 refine qv [] trivial 2 145 [(33, I (w64 ((a1.length : Int) - 2))), (31, rf 0 0 3 a1), (1, rf 0 0 3 a1), (7, I (a1.length : Int))] [sl 0 a1] ?_
 obtain ⟨v10, hv11, h⟩ := bindS h
 refine qX (some 34) (rf 0 0 3 v10) 145 [(34, rf 0 0 3 v10), (1, rf 0 0 3 a1), (7, I (a1.length : Int))] [sl 0 a1] (fun Γ' hΓ => CoreE.of_y (slrV_sound (n := a1.length) τ_ok (by kernel_rfl) rfl hv11)) (hL trivial) ?_
 refine qv [0] (hL trivial) 1 145 [(35, rf 0 0 3 a1), (34, rf 0 0 3 v10), (1, rf 0 0 3 a1), (7, I (a1.length : Int))] [sl 0 a1] ?_
 refine qv [] trivial 2 145 [(37, I (w64 ((a1.length : Int) - 2))), (35, rf 0 0 3 a1), (34, rf 0 0 3 v10), (1, rf 0 0 3 a1), (7, I (a1.length : Int))] [sl 0 a1] ?_
 obtain ⟨v12, hv13, h⟩ := bindS h
 refine qX (some 38) (.ptr 0 0 ((w64 ((a1.length : Int) - 2)).toNat * 3)) 145 [(38, .ptr 0 0 ((w64 ((a1.length : Int) - 2)).toNat * 3)), (34, rf 0 0 3 v10), (1, rf 0 0 3 a1), (7, I (a1.length : Int))] [sl 0 a1] (fun Γ' hΓ => CoreE.of_y (idrV_sound (n := a1.length) τ_ok (by kernel_rfl) hv13 rfl)) (hL trivial) ?_
 refine qX (some 39) (E v12) 145 [(39, E v12), (34, rf 0 0 3 v10), (1, rf 0 0 3 a1), (7, I (a1.length : Int))] [sl 0 a1] (fun Γ' hΓ => CoreE.of_y (ldeV_sound (t := 90) (o' := 0) (r := E v12) τ_ok hv13 (by kernel_rfl) (by kernel_rfl))) (hL trivial) ?_
 refine qv [0] (hL trivial) 1 145 [(40, rf 0 0 3 a1), (39, E v12), (34, rf 0 0 3 v10), (7, I (a1.length : Int))] [sl 0 a1] ?_
 refine qv [] trivial 2 145 [(42, I (w64 ((a1.length : Int) - 1))), (40, rf 0 0 3 a1), (39, E v12), (34, rf 0 0 3 v10)] [sl 0 a1] ?_
 obtain ⟨v14, hv15, h⟩ := bindS h
 refine qX (some 43) (.ptr 0 0 ((w64 ((a1.length : Int) - 1)).toNat * 3)) 145 [(43, .ptr 0 0 ((w64 ((a1.length : Int) - 1)).toNat * 3)), (39, E v12), (34, rf 0 0 3 v10)] [sl 0 a1] (fun Γ' hΓ => CoreE.of_y (idrV_sound (n := a1.length) τ_ok (by kernel_rfl) hv15 rfl)) (hL trivial) ?_
 refine qX (some 44) (E v14) 145 [(44, E v14), (39, E v12), (34, rf 0 0 3 v10)] [sl 0 a1] (fun Γ' hΓ => CoreE.of_y (ldeV_sound (t := 90) (o' := 0) (r := E v14) τ_ok hv15 (by kernel_rfl) (by kernel_rfl))) (hL trivial) ?_
 obtain ⟨v16, hv17, h⟩ := bindS h
 refine qX (some 45) (E v16) 145 [(45, E v16), (34, rf 0 0 3 v10)] [sl 0 a1] (fun Γ' hΓ => CoreE.of_g (callV_sound (τ := τ) (by kernel_rfl) rfl (ok_spec_l4Sum hv17) (FzTo.frz rfl))) trivial ?_
 refine qv [] trivial 1 145 [(46, .arr 3 ([v16] : List T_impl_Value).length (eL ([v16] : List T_impl_Value)) true), (34, rf 0 0 3 v10)] [sl 0 a1] ?_
 obtain ⟨v18, hv19, h⟩ := bindS h
 refine qX (some 47) (rf 0 1 3 v18) 145 [(47, rf 0 1 3 v18)] [sl 1 v18] (fun Γ' hΓ => app_E τ_ok 47 0 0 v10.length (ny hΓ hX) hv19 (slI_le hv11) (by kernel_rfl)) (hL trivial) ?_
 refine qvn [0] (hL trivial) 1 145 [(6, rf 0 1 3 v18)] [sl 1 v18] ?_
 have h := si h
 subst h
 exact pwp_ret (rt (rf 0 1 3 v18) (OutP.list (v := 1) (by kernel_rfl)))
 refine srve 145 [(1, rf 0 0 3 a1), (5, pf a2 0), (7, I (a1.length : Int)), (11, I a2.fKind), (48, B (a2.fKind == 4))] [sl 0 a1] ?_
 refine pc h (fun h => ?_) (fun h => ?_)
 refine pwp_seq ?_
 refine ip 145 [(1, rf 0 0 3 a1), (5, pf a2 0), (7, I (a1.length : Int))] [sl 0 a1] ?_
 refine pwp_any ([[0], [], [], [0], [], [], [0], [], [], [0], [0], [0], [], [], [0], [0], [], [], [], [0], [0]]) ([[], [], [], [], [], [], [], [], [], [], [], [], [], [], [], [], [], [], [], [0], []]) rfl (by kernel_rfl) ?_
 refine qv [0] (hL trivial) 1 145 [(50, rf 0 0 3 a1), (1, rf 0 0 3 a1), (5, pf a2 0), (7, I (a1.length : Int))] [sl 0 a1] ?_
 refine qv [] trivial 2 145 [(52, I (w64 ((a1.length : Int) - 2))), (50, rf 0 0 3 a1), (1, rf 0 0 3 a1), (5, pf a2 0), (7, I (a1.length : Int))] [sl 0 a1] ?_
 obtain ⟨v21, hv22, h⟩ := bindS h
 refine qX (some 53) (rf 0 0 3 v21) 145 [(53, rf 0 0 3 v21), (1, rf 0 0 3 a1), (5, pf a2 0), (7, I (a1.length : Int))] [sl 0 a1] (fun Γ' hΓ => CoreE.of_y (slrV_sound (n := a1.length) τ_ok (by kernel_rfl) rfl hv22)) (hL trivial) ?_
 refine qv [] trivial 2 145 [(55, I a2.fN), (53, rf 0 0 3 v21), (1, rf 0 0 3 a1), (7, I (a1.length : Int))] [sl 0 a1] ?_
 refine qv [0] (hL trivial) 1 145 [(56, rf 0 0 3 a1), (55, I a2.fN), (53, rf 0 0 3 v21), (1, rf 0 0 3 a1), (7, I (a1.length : Int))] [sl 0 a1] ?_
 refine qv [] trivial 2 145 [(58, I (w64 ((a1.length : Int) - 2))), (56, rf 0 0 3 a1), (55, I a2.fN), (53, rf 0 0 3 v21), (1, rf 0 0 3 a1), (7, I (a1.length : Int))] [sl 0 a1] ?_
 obtain ⟨v23, hv24, h⟩ := bindS h
 refine qX (some 59) (.ptr 0 0 ((w64 ((a1.length : Int) - 2)).toNat * 3)) 145 [(59, .ptr 0 0 ((w64 ((a1.length : Int) - 2)).toNat * 3)), (55, I a2.fN), (53, rf 0 0 3 v21), (1, rf 0 0 3 a1), (7, I (a1.length : Int))] [sl 0 a1] (fun Γ' hΓ => CoreE.of_y (idrV_sound (n := a1.length) τ_ok (by kernel_rfl) hv24 rfl)) (hL trivial) ?_
 refine qX (some 60) (E v23) 145 [(60, E v23), (55, I a2.fN), (53, rf 0 0 3 v21), (1, rf 0 0 3 a1), (7, I (a1.length : Int))] [sl 0 a1] (fun Γ' hΓ => CoreE.of_y (ldeV_sound (t := 90) (o' := 0) (r := E v23) τ_ok hv24 (by kernel_rfl) (by kernel_rfl))) (hL trivial) ?_
 refine qv [0] (hL trivial) 1 145 [(61, rf 0 0 3 a1), (60, E v23), (55, I a2.fN), (53, rf 0 0 3 v21), (7, I (a1.length : Int))] [sl 0 a1] ?_
 refine qv [] trivial 2 145 [(63, I (w64 ((a1.length : Int) - 1))), (61, rf 0 0 3 a1), (60, E v23), (55, I a2.fN), (53, rf 0 0 3 v21)] [sl 0 a1] ?_
 obtain ⟨v25, hv26, h⟩ := bindS h
 refine qX (some 64) (.ptr 0 0 ((w64 ((a1.length : Int) - 1)).toNat * 3)) 145 [(64, .ptr 0 0 ((w64 ((a1.length : Int) - 1)).toNat * 3)), (60, E v23), (55, I a2.fN), (53, rf 0 0 3 v21)] [sl 0 a1] (fun Γ' hΓ => CoreE.of_y (idrV_sound (n := a1.length) τ_ok (by kernel_rfl) hv26 rfl)) (hL trivial) ?_
 refine qX (some 65) (E v25) 145 [(65, E v25), (60, E v23), (55, I a2.fN), (53, rf 0 0 3 v21)] [sl 0 a1] (fun Γ' hΓ => CoreE.of_y (ldeV_sound (t := 90) (o' := 0) (r := E v25) τ_ok hv26 (by kernel_rfl) (by kernel_rfl))) (hL trivial) ?_
 obtain ⟨v27, hv28, h⟩ := bindS h
 refine qX (some 66) (I v27) 145 [(66, I v27), (53, rf 0 0 3 v21)] [sl 0 a1] (fun Γ' hΓ => CoreE.of_g (callV_sound (τ := τ) (by kernel_rfl) rfl (ok_spec_Compare hv28) (FzTo.frz rfl))) trivial ?_
 obtain ⟨v29, hv30, h⟩ := bindS h
 refine qX (some 67) (E v29) 145 [(67, E v29), (53, rf 0 0 3 v21)] [sl 0 a1] (fun Γ' hΓ => CoreE.of_g (callV_sound (τ := τ) (by kernel_rfl) rfl (ok_spec_ValueOf hv30) (FzTo.frz rfl))) trivial ?_
 refine qv [] trivial 1 145 [(68, .arr 3 ([v29] : List T_impl_Value).length (eL ([v29] : List T_impl_Value)) true), (53, rf 0 0 3 v21)] [sl 0 a1] ?_
 obtain ⟨v31, hv32, h⟩ := bindS h
 refine qX (some 69) (rf 0 1 3 v31) 145 [(69, rf 0 1 3 v31)] [sl 1 v31] (fun Γ' hΓ => app_E τ_ok 69 0 0 v21.length (ny hΓ hX) hv32 (slI_le hv22) (by kernel_rfl)) (hL trivial) ?_
 refine qvn [0] (hL trivial) 1 145 [(6, rf 0 1 3 v31)] [sl 1 v31] ?_
 have h := si h
 subst h
 exact pwp_ret (rt (rf 0 1 3 v31) (OutP.list (v := 1) (by kernel_rfl)))
 refine srve 145 [(1, rf 0 0 3 a1), (7, I (a1.length : Int)), (11, I a2.fKind), (70, B (a2.fKind == 5))] [sl 0 a1] ?_
 refine pc h (fun h => ?_) (fun h => ?_)
 refine pwp_seq ?_
 refine ip 145 [(1, rf 0 0 3 a1), (7, I (a1.length : Int))] [sl 0 a1] ?_
 refine pwp_any ([[0], [], [], [0], [0], [], [], [0], [0], [], [0], [], [], [0], [0], [], [], [], [], [0], [0]]) ([[], [], [], [], [], [], [], [], [], [], [], [], [], [], [], [], [], [], [], [0], []]) rfl (by kernel_rfl) ?_
 refine qv [0] (hL trivial) 1 145 [(72, rf 0 0 3 a1), (1, rf 0 0 3 a1), (7, I (a1.length : Int))] [sl 0 a1] ?_
 refine qv [] trivial 2 145 [(74, I (w64 ((a1.length : Int) - 2))), (72, rf 0 0 3 a1), (1, rf 0 0 3 a1), (7, I (a1.length : Int))] [sl 0 a1] ?_
 obtain ⟨v34, hv35, h⟩ := bindS h
 refine qX (some 75) (rf 0 0 3 v34) 145 [(75, rf 0 0 3 v34), (1, rf 0 0 3 a1), (7, I (a1.length : Int))] [sl 0 a1] (fun Γ' hΓ => CoreE.of_y (slrV_sound (n := a1.length) τ_ok (by kernel_rfl) rfl hv35)) (hL trivial) ?_
 refine qv [0] (hL trivial) 1 145 [(76, rf 0 0 3 a1), (75, rf 0 0 3 v34), (1, rf 0 0 3 a1), (7, I (a1.length : Int))] [sl 0 a1] ?_
 refine qv [] trivial 2 145 [(78, I (w64 ((a1.length : Int) - 2))), (76, rf 0 0 3 a1), (75, rf 0 0 3 v34), (1, rf 0 0 3 a1), (7, I (a1.length : Int))] [sl 0 a1] ?_
 obtain ⟨v36, hv37, h⟩ := bindS h
 refine qX (some 79) (.ptr 0 0 ((w64 ((a1.length : Int) - 2)).toNat * 3)) 145 [(79, .ptr 0 0 ((w64 ((a1.length : Int) - 2)).toNat * 3)), (75, rf 0 0 3 v34), (1, rf 0 0 3 a1), (7, I (a1.length : Int))] [sl 0 a1] (fun Γ' hΓ => CoreE.of_y (idrV_sound (n := a1.length) τ_ok (by kernel_rfl) hv37 rfl)) (hL trivial) ?_
 refine qX (some 80) (E v36) 145 [(80, E v36), (75, rf 0 0 3 v34), (1, rf 0 0 3 a1), (7, I (a1.length : Int))] [sl 0 a1] (fun Γ' hΓ => CoreE.of_y (ldeV_sound (t := 90) (o' := 0) (r := E v36) τ_ok hv37 (by kernel_rfl) (by kernel_rfl))) (hL trivial) ?_
 obtain ⟨v38, hv39, h⟩ := bindS h
 refine qX (some 81) (I v38) 145 [(81, I v38), (75, rf 0 0 3 v34), (1, rf 0 0 3 a1), (7, I (a1.length : Int))] [sl 0 a1] (fun Γ' hΓ => CoreE.of_g (callV_sound (τ := τ) (by kernel_rfl) rfl (ok_spec_TruthOf hv39) (FzTo.frz rfl))) trivial ?_
 refine qv [0] (hL trivial) 1 145 [(82, rf 0 0 3 a1), (81, I v38), (75, rf 0 0 3 v34), (7, I (a1.length : Int))] [sl 0 a1] ?_
 refine qv [] trivial 2 145 [(84, I (w64 ((a1.length : Int) - 1))), (82, rf 0 0 3 a1), (81, I v38), (75, rf 0 0 3 v34)] [sl 0 a1] ?_
 obtain ⟨v40, hv41, h⟩ := bindS h
 refine qX (some 85) (.ptr 0 0 ((w64 ((a1.length : Int) - 1)).toNat * 3)) 145 [(85, .ptr 0 0 ((w64 ((a1.length : Int) - 1)).toNat * 3)), (81, I v38), (75, rf 0 0 3 v34)] [sl 0 a1] (fun Γ' hΓ => CoreE.of_y (idrV_sound (n := a1.length) τ_ok (by kernel_rfl) hv41 rfl)) (hL trivial) ?_
 refine qX (some 86) (E v40) 145 [(86, E v40), (81, I v38), (75, rf 0 0 3 v34)] [sl 0 a1] (fun Γ' hΓ => CoreE.of_y (ldeV_sound (t := 90) (o' := 0) (r := E v40) τ_ok hv41 (by kernel_rfl) (by kernel_rfl))) (hL trivial) ?_
 obtain ⟨v42, hv43, h⟩ := bindS h
 refine qX (some 87) (I v42) 145 [(87, I v42), (81, I v38), (75, rf 0 0 3 v34)] [sl 0 a1] (fun Γ' hΓ => CoreE.of_g (callV_sound (τ := τ) (by kernel_rfl) rfl (ok_spec_TruthOf hv43) (FzTo.frz rfl))) trivial ?_
 obtain ⟨v44, hv45, h⟩ := bindS h
 refine qX (some 88) (I v44) 145 [(88, I v44), (75, rf 0 0 3 v34)] [sl 0 a1] (fun Γ' hΓ => CoreE.of_g (callV_sound (τ := τ) (by kernel_rfl) rfl (ok_spec_AndOf hv45) (FzTo.frz rfl))) trivial ?_
 obtain ⟨v46, hv47, h⟩ := bindS h
 refine qX (some 89) (E v46) 145 [(89, E v46), (75, rf 0 0 3 v34)] [sl 0 a1] (fun Γ' hΓ => CoreE.of_g (callV_sound (τ := τ) (by kernel_rfl) rfl (ok_spec_ValueOf hv47) (FzTo.frz rfl))) trivial ?_
 refine qv [] trivial 1 145 [(90, .arr 3 ([v46] : List T_impl_Value).length (eL ([v46] : List T_impl_Value)) true), (75, rf 0 0 3 v34)] [sl 0 a1] ?_
 obtain ⟨v48, hv49, h⟩ := bindS h
 refine qX (some 91) (rf 0 1 3 v48) 145 [(91, rf 0 1 3 v48)] [sl 1 v48] (fun Γ' hΓ => app_E τ_ok 91 0 0 v34.length (ny hΓ hX) hv49 (slI_le hv35) (by kernel_rfl)) (hL trivial) ?_
 refine qvn [0] (hL trivial) 1 145 [(6, rf 0 1 3 v48)] [sl 1 v48] ?_
 have h := si h
 subst h
 exact pwp_ret (rt (rf 0 1 3 v48) (OutP.list (v := 1) (by kernel_rfl)))
 refine srve 145 [(1, rf 0 0 3 a1), (7, I (a1.length : Int)), (11, I a2.fKind), (92, B (a2.fKind == 6))] [sl 0 a1] ?_
 refine pc h (fun h => ?_) (fun h => ?_)
 refine pwp_seq ?_
 refine ip 145 [(1, rf 0 0 3 a1), (7, I (a1.length : Int))] [sl 0 a1] ?_
 refine pwp_any ([[0], [], [], [0], [0], [], [], [0], [0], [], [0], [], [], [0], [0], [], [], [], [], [0], [0]]) ([[], [], [], [], [], [], [], [], [], [], [], [], [], [], [], [], [], [], [], [0], []]) rfl (by kernel_rfl) ?_
 refine qv [0] (hL trivial) 1 145 [(94, rf 0 0 3 a1), (1, rf 0 0 3 a1), (7, I (a1.length : Int))] [sl 0 a1] ?_
 refine qv [] trivial 2 145 [(96, I (w64 ((a1.length : Int) - 2))), (94, rf 0 0 3 a1), (1, rf 0 0 3 a1), (7, I (a1.length : Int))] [sl 0 a1] ?_
 obtain ⟨v51, hv52, h⟩ := bindS h
 refine qX (some 97) (rf 0 0 3 v51) 145 [(97, rf 0 0 3 v51), (1, rf 0 0 3 a1), (7, I (a1.length : Int))] [sl 0 a1] (fun Γ' hΓ => CoreE.of_y (slrV_sound (n := a1.length) τ_ok (by kernel_rfl) rfl hv52)) (hL trivial) ?_
 refine qv [0] (hL trivial) 1 145 [(98, rf 0 0 3 a1), (97, rf 0 0 3 v51), (1, rf 0 0 3 a1), (7, I (a1.length : Int))] [sl 0 a1] ?_
 refine qv [] trivial 2 145 [(100, I (w64 ((a1.length : Int) - 2))), (98, rf 0 0 3 a1), (97, rf 0 0 3 v51), (1, rf 0 0 3 a1), (7, I (a1.length : Int))] [sl 0 a1] ?_
 obtain ⟨v53, hv54, h⟩ := bindS h
 refine qX (some 101) (.ptr 0 0 ((w64 ((a1.length : Int) - 2)).toNat * 3)) 145 [(101, .ptr 0 0 ((w64 ((a1.length : Int) - 2)).toNat * 3)), (97, rf 0 0 3 v51), (1, rf 0 0 3 a1), (7, I (a1.length : Int))] [sl 0 a1] (fun Γ' hΓ => CoreE.of_y (idrV_sound (n := a1.length) τ_ok (by kernel_rfl) hv54 rfl)) (hL trivial) ?_
 refine qX (some 102) (E v53) 145 [(102, E v53), (97, rf 0 0 3 v51), (1, rf 0 0 3 a1), (7, I (a1.length : Int))] [sl 0 a1] (fun Γ' hΓ => CoreE.of_y (ldeV_sound (t := 90) (o' := 0) (r := E v53) τ_ok hv54 (by kernel_rfl) (by kernel_rfl))) (hL trivial) ?_
 obtain ⟨v55, hv56, h⟩ := bindS h
 refine qX (some 103) (I v55) 145 [(103, I v55), (97, rf 0 0 3 v51), (1, rf 0 0 3 a1), (7, I (a1.length : Int))] [sl 0 a1] (fun Γ' hΓ => CoreE.of_g (callV_sound (τ := τ) (by kernel_rfl) rfl (ok_spec_TruthOf hv56) (FzTo.frz rfl))) trivial ?_
 refine qv [0] (hL trivial) 1 145 [(104, rf 0 0 3 a1), (103, I v55), (97, rf 0 0 3 v51), (7, I (a1.length : Int))] [sl 0 a1] ?_
 refine qv [] trivial 2 145 [(106, I (w64 ((a1.length : Int) - 1))), (104, rf 0 0 3 a1), (103, I v55), (97, rf 0 0 3 v51)] [sl 0 a1] ?_
 obtain ⟨v57, hv58, h⟩ := bindS h
 refine qX (some 107) (.ptr 0 0 ((w64 ((a1.length : Int) - 1)).toNat * 3)) 145 [(107, .ptr 0 0 ((w64 ((a1.length : Int) - 1)).toNat * 3)), (103, I v55), (97, rf 0 0 3 v51)] [sl 0 a1] (fun Γ' hΓ => CoreE.of_y (idrV_sound (n := a1.length) τ_ok (by kernel_rfl) hv58 rfl)) (hL trivial) ?_
 refine qX (some 108) (E v57) 145 [(108, E v57), (103, I v55), (97, rf 0 0 3 v51)] [sl 0 a1] (fun Γ' hΓ => CoreE.of_y (ldeV_sound (t := 90) (o' := 0) (r := E v57) τ_ok hv58 (by kernel_rfl) (by kernel_rfl))) (hL trivial) ?_
 obtain ⟨v59, hv60, h⟩ := bindS h
 refine qX (some 109) (I v59) 145 [(109, I v59), (103, I v55), (97, rf 0 0 3 v51)] [sl 0 a1] (fun Γ' hΓ => CoreE.of_g (callV_sound (τ := τ) (by kernel_rfl) rfl (ok_spec_TruthOf hv60) (FzTo.frz rfl))) trivial ?_
 obtain ⟨v61, hv62, h⟩ := bindS h
 refine qX (some 110) (I v61) 145 [(110, I v61), (97, rf 0 0 3 v51)] [sl 0 a1] (fun Γ' hΓ => CoreE.of_g (callV_sound (τ := τ) (by kernel_rfl) rfl (ok_spec_OrOf hv62) (FzTo.frz rfl))) trivial ?_
 obtain ⟨v63, hv64, h⟩ := bindS h
 refine qX (some 111) (E v63) 145 [(111, E v63), (97, rf 0 0 3 v51)] [sl 0 a1] (fun Γ' hΓ => CoreE.of_g (callV_sound (τ := τ) (by kernel_rfl) rfl (ok_spec_ValueOf hv64) (FzTo.frz rfl))) trivial ?_
 refine qv [] trivial 1 145 [(112, .arr 3 ([v63] : List T_impl_Value).length (eL ([v63] : List T_impl_Value)) true), (97, rf 0 0 3 v51)] [sl 0 a1] ?_
 obtain ⟨v65, hv66, h⟩ := bindS h
 refine qX (some 113) (rf 0 1 3 v65) 145 [(113, rf 0 1 3 v65)] [sl 1 v65] (fun Γ' hΓ => app_E τ_ok 113 0 0 v51.length (ny hΓ hX) hv66 (slI_le hv52) (by kernel_rfl)) (hL trivial) ?_
 refine qvn [0] (hL trivial) 1 145 [(6, rf 0 1 3 v65)] [sl 1 v65] ?_
 have h := si h
 subst h
 exact pwp_ret (rt (rf 0 1 3 v65) (OutP.list (v := 1) (by kernel_rfl)))
 refine srve 145 [(1, rf 0 0 3 a1), (7, I (a1.length : Int)), (114, B (a2.fKind == 7))] [sl 0 a1] ?_
 refine pc h (fun h => ?_) (fun h => ?_)
 refine pwp_seq ?_
 refine ip 145 [(1, rf 0 0 3 a1), (7, I (a1.length : Int))] [sl 0 a1] ?_
 refine pwp_any ([[0], [], [], [0], [0], [], [], [0], [0], [], [], [], [], [0], [0]]) ([[], [], [], [], [], [], [], [], [], [], [], [], [], [0], []]) rfl (by kernel_rfl) ?_
 refine qv [0] (hL trivial) 1 145 [(116, rf 0 0 3 a1), (1, rf 0 0 3 a1), (7, I (a1.length : Int))] [sl 0 a1] ?_
 refine qv [] trivial 2 145 [(118, I (w64 ((a1.length : Int) - 1))), (116, rf 0 0 3 a1), (1, rf 0 0 3 a1), (7, I (a1.length : Int))] [sl 0 a1] ?_
 obtain ⟨v68, hv69, h⟩ := bindS h
 refine qX (some 119) (rf 0 0 3 v68) 145 [(119, rf 0 0 3 v68), (1, rf 0 0 3 a1), (7, I (a1.length : Int))] [sl 0 a1] (fun Γ' hΓ => CoreE.of_y (slrV_sound (n := a1.length) τ_ok (by kernel_rfl) rfl hv69)) (hL trivial) ?_
 refine qv [0] (hL trivial) 1 145 [(120, rf 0 0 3 a1), (119, rf 0 0 3 v68), (7, I (a1.length : Int))] [sl 0 a1] ?_
 refine qv [] trivial 2 145 [(122, I (w64 ((a1.length : Int) - 1))), (120, rf 0 0 3 a1), (119, rf 0 0 3 v68)] [sl 0 a1] ?_
 obtain ⟨v70, hv71, h⟩ := bindS h
 refine qX (some 123) (.ptr 0 0 ((w64 ((a1.length : Int) - 1)).toNat * 3)) 145 [(123, .ptr 0 0 ((w64 ((a1.length : Int) - 1)).toNat * 3)), (119, rf 0 0 3 v68)] [sl 0 a1] (fun Γ' hΓ => CoreE.of_y (idrV_sound (n := a1.length) τ_ok (by kernel_rfl) hv71 rfl)) (hL trivial) ?_
 refine qX (some 124) (E v70) 145 [(124, E v70), (119, rf 0 0 3 v68)] [sl 0 a1] (fun Γ' hΓ => CoreE.of_y (ldeV_sound (t := 90) (o' := 0) (r := E v70) τ_ok hv71 (by kernel_rfl) (by kernel_rfl))) (hL trivial) ?_
 obtain ⟨v72, hv73, h⟩ := bindS h
 refine qX (some 125) (I v72) 145 [(125, I v72), (119, rf 0 0 3 v68)] [sl 0 a1] (fun Γ' hΓ => CoreE.of_g (callV_sound (τ := τ) (by kernel_rfl) rfl (ok_spec_TruthOf hv73) (FzTo.frz rfl))) trivial ?_
 obtain ⟨v74, hv75, h⟩ := bindS h
 refine qX (some 126) (I v74) 145 [(126, I v74), (119, rf 0 0 3 v68)] [sl 0 a1] (fun Γ' hΓ => CoreE.of_g (callV_sound (τ := τ) (by kernel_rfl) rfl (ok_spec_NotOf hv75) (FzTo.frz rfl))) trivial ?_
 obtain ⟨v76, hv77, h⟩ := bindS h
 refine qX (some 127) (E v76) 145 [(127, E v76), (119, rf 0 0 3 v68)] [sl 0 a1] (fun Γ' hΓ => CoreE.of_g (callV_sound (τ := τ) (by kernel_rfl) rfl (ok_spec_ValueOf hv77) (FzTo.frz rfl))) trivial ?_
 refine qv [] trivial 1 145 [(128, .arr 3 ([v76] : List T_impl_Value).length (eL ([v76] : List T_impl_Value)) true), (119, rf 0 0 3 v68)] [sl 0 a1] ?_
 obtain ⟨v78, hv79, h⟩ := bindS h
 refine qX (some 129) (rf 0 1 3 v78) 145 [(129, rf 0 1 3 v78)] [sl 1 v78] (fun Γ' hΓ => app_E τ_ok 129 0 0 v68.length (ny hΓ hX) hv79 (slI_le hv69) (by kernel_rfl)) (hL trivial) ?_
 refine qvn [0] (hL trivial) 1 145 [(6, rf 0 1 3 v78)] [sl 1 v78] ?_
 have h := si h
 subst h
 exact pwp_ret (rt (rf 0 1 3 v78) (OutP.list (v := 1) (by kernel_rfl)))
 refine pwp_skip ?_
 refine pwp_seq ?_
 refine ip 145 [(1, rf 0 0 3 a1), (7, I (a1.length : Int))] [sl 0 a1] ?_
 refine pwp_any ([[0], [], [], [0], [0], [], [], [0], [0], [0], [], [], [], [], [0], [0]]) ([[], [], [], [], [], [], [], [], [], [], [], [], [], [], [0], []]) rfl (by kernel_rfl) ?_
 refine qv [0] (hL trivial) 1 145 [(130, rf 0 0 3 a1), (1, rf 0 0 3 a1), (7, I (a1.length : Int))] [sl 0 a1] ?_
 refine qv [] trivial 2 145 [(132, I (w64 ((a1.length : Int) - 1))), (130, rf 0 0 3 a1), (1, rf 0 0 3 a1), (7, I (a1.length : Int))] [sl 0 a1] ?_
 obtain ⟨v80, hv81, h⟩ := bindS h
 refine qX (some 133) (rf 0 0 3 v80) 145 [(133, rf 0 0 3 v80), (1, rf 0 0 3 a1), (7, I (a1.length : Int))] [sl 0 a1] (fun Γ' hΓ => CoreE.of_y (slrV_sound (n := a1.length) τ_ok (by kernel_rfl) rfl hv81)) (hL trivial) ?_
 refine qv [0] (hL trivial) 1 145 [(134, rf 0 0 3 a1), (133, rf 0 0 3 v80), (7, I (a1.length : Int))] [sl 0 a1] ?_
 refine qv [] trivial 2 145 [(136, I (w64 ((a1.length : Int) - 1))), (134, rf 0 0 3 a1), (133, rf 0 0 3 v80)] [sl 0 a1] ?_
 obtain ⟨v82, hv83, h⟩ := bindS h
 refine qX (some 137) (.ptr 0 0 ((w64 ((a1.length : Int) - 1)).toNat * 3)) 145 [(137, .ptr 0 0 ((w64 ((a1.length : Int) - 1)).toNat * 3)), (133, rf 0 0 3 v80)] [sl 0 a1] (fun Γ' hΓ => CoreE.of_y (idrV_sound (n := a1.length) τ_ok (by kernel_rfl) hv83 rfl)) (hL trivial) ?_
 refine qv [0] (hL trivial) 1 145 [(138, .ptr 0 0 ((w64 ((a1.length : Int) - 1)).toNat * 3)), (133, rf 0 0 3 v80)] [sl 0 a1] ?_
 refine qX (some 139) (I v82.fKind) 145 [(139, I v82.fKind), (133, rf 0 0 3 v80)] [sl 0 a1] (fun Γ' hΓ => CoreE.of_y (ldeV_sound (t := 3) (o' := 0) (r := I v82.fKind) τ_ok hv83 (by kernel_rfl) (by kernel_rfl))) (hL trivial) ?_
 refine qv [] trivial 1 145 [(140, B (v82.fKind == 0)), (133, rf 0 0 3 v80)] [sl 0 a1] ?_
 obtain ⟨v84, hv85, h⟩ := bindS h
 refine qX (some 141) (I v84) 145 [(141, I v84), (133, rf 0 0 3 v80)] [sl 0 a1] (fun Γ' hΓ => CoreE.of_g (callV_sound (τ := τ) (by kernel_rfl) rfl (ok_spec_l2Bool hv85) (FzTo.frz rfl))) trivial ?_
 obtain ⟨v86, hv87, h⟩ := bindS h
 refine qX (some 142) (E v86) 145 [(142, E v86), (133, rf 0 0 3 v80)] [sl 0 a1] (fun Γ' hΓ => CoreE.of_g (callV_sound (τ := τ) (by kernel_rfl) rfl (ok_spec_ValueOf hv87) (FzTo.frz rfl))) trivial ?_
 refine qv [] trivial 1 145 [(143, .arr 3 ([v86] : List T_impl_Value).length (eL ([v86] : List T_impl_Value)) true), (133, rf 0 0 3 v80)] [sl 0 a1] ?_
 obtain ⟨v88, hv89, h⟩ := bindS h
 refine qX (some 144) (rf 0 1 3 v88) 145 [(144, rf 0 1 3 v88)] [sl 1 v88] (fun Γ' hΓ => app_E τ_ok 144 0 0 v80.length (ny hΓ hX) hv89 (slI_le hv81) (by kernel_rfl)) (hL trivial) ?_
 refine qvn [0] (hL trivial) 1 145 [(6, rf 0 1 3 v88)] [sl 1 v88] ?_
 have h := si h
 subst h
 exact pwp_ret (rt (rf 0 1 3 v88) (OutP.list (v := 1) (by kernel_rfl)))
def impl_Compare_j1 (a0 : Int) (a1 : T_impl_Value) (a2 : T_impl_Value) (x3 : Bool) : Option Int := bif x3 then some 2 else bif (!(a1.fKind == a2.fKind)) then some (-1) else (impl_Value_order a1 a2).bind fun v6 => bif (a0 == 1) then bif (v6 == 0) then (impl_truthIf true).bind fun v8 => some v8 else bif (a0 == 2) then bif (!(v6 == 0)) then (impl_truthIf true).bind fun v10 => some v10 else bif (a0 == 3) then bif (decide (v6 < 0)) then (impl_truthIf true).bind fun v12 => some v12 else bif (a0 == 4) then (impl_truthIf (decide (v6 ≤ 0))).bind fun v14 => some v14 else (impl_truthIf false).bind fun v16 => some v16 else bif (a0 == 4) then (impl_truthIf (decide (v6 ≤ 0))).bind fun v20 => some v20 else (impl_truthIf false).bind fun v22 => some v22 else bif (a0 == 3) then bif (decide (v6 < 0)) then (impl_truthIf true).bind fun v27 => some v27 else bif (a0 == 4) then (impl_truthIf (decide (v6 ≤ 0))).bind fun v29 => some v29 else (impl_truthIf false).bind fun v31 => some v31 else bif (a0 == 4) then (impl_truthIf (decide (v6 ≤ 0))).bind fun v35 => some v35 else (impl_truthIf false).bind fun v37 => some v37 else bif (a0 == 2) then bif (!(v6 == 0)) then (impl_truthIf true).bind fun v43 => some v43 else bif (a0 == 3) then bif (decide (v6 < 0)) then (impl_truthIf true).bind fun v45 => some v45 else bif (a0 == 4) then (impl_truthIf (decide (v6 ≤ 0))).bind fun v47 => some v47 else (impl_truthIf false).bind fun v49 => some v49 else bif (a0 == 4) then (impl_truthIf (decide (v6 ≤ 0))).bind fun v53 => some v53 else (impl_truthIf false).bind fun v55 => some v55 else bif (a0 == 3) then bif (decide (v6 < 0)) then (impl_truthIf true).bind fun v60 => some v60 else bif (a0 == 4) then (impl_truthIf (decide (v6 ≤ 0))).bind fun v62 => some v62 else (impl_truthIf false).bind fun v64 => some v64 else bif (a0 == 4) then (impl_truthIf (decide (v6 ≤ 0))).bind fun v68 => some v68 else (impl_truthIf false).bind fun v70 => some v70
def impl_Compare_j0 (a0 : Int) (a1 : T_impl_Value) (a2 : T_impl_Value) (x1 : Bool) : Option Int := bif x1 then some (-1) else bif (a1.fKind == 0) then impl_Compare_j1 a0 a1 a2 true else impl_Compare_j1 a0 a1 a2 (a2.fKind == 0)
def impl_Compare (a0 : Int) (a1 : T_impl_Value) (a2 : T_impl_Value) : Option Int := (impl_between a0 1 4).bind fun v77 => bif (!v77) then impl_Compare_j0 a0 a1 a2 true else (impl_Value_ok a1).bind fun v79 => bif (!v79) then impl_Compare_j0 a0 a1 a2 true else (impl_Value_ok a2).bind fun v81 => impl_Compare_j0 a0 a1 a2 (!v81)
theorem ok_impl_Compare {a0 : Int} {a1 : T_impl_Value} {a2 : T_impl_Value} {y : Int} (h : impl_Compare a0 a1 a2 = some y) : OK Tryz.prog 180 [I a0, E a1, E a2] (I y) := by
 refine ow Tryz.func180 fun Γ hX => ?_
 unfold impl_Compare at h
 refine srve 71 [(0, I a0), (4, pf a1 0), (5, pf a2 0)] [] ?_
 refine pwp_seq ?_
 refine pwp_block ?_
 refine pwp_seq ?_
 refine pwp_join (σ := Bool) (fun x1 => (⟨71, [(0, I a0), (4, pf a1 0), (5, pf a2 0), (8, B x1)], []⟩ : St)) (fun x1 => impl_Compare_j0 a0 a1 a2 x1 = some y) ?_ ?_
 refine rv 1 71 [(0, I a0), (4, pf a1 0), (5, pf a2 0), (9, I a0)] [] ?_
 obtain ⟨v77, hv78, h⟩ := bindS h
 refine cF 10 (ok_impl_between hv78) ?_
 refine v 2 71 [(0, I a0), (4, pf a1 0), (5, pf a2 0), (12, B (!v77))] [] ?_
 rcases fk (!v77) with hc84 | hc84
 replace h := bT hc84 h
 rw [hc84]
 refine ve 10 71 [(0, I a0), (4, pf a1 0), (5, pf a2 0), (8, B true)] [] ?_
 exact ⟨true, h, it [0, 4, 5, 8]⟩
 replace h := bF hc84 h
 rw [hc84]
 refine v 1 71 [(0, I a0), (4, pf a1 0), (5, pf a2 0), (12, B false), (13, E a1)] [] ?_
 obtain ⟨v79, hv80, h⟩ := bindS h
 refine cF 14 (ok_impl_Value_ok hv80) ?_
 refine v 3 71 [(0, I a0), (4, pf a1 0), (5, pf a2 0), (17, B (!v79))] [] ?_
 rcases fk (!v79) with hc83 | hc83
 replace h := bT hc83 h
 rw [hc83]
 refine ve 5 71 [(0, I a0), (4, pf a1 0), (5, pf a2 0), (8, B true)] [] ?_
 exact ⟨true, h, it [0, 4, 5, 8]⟩
 replace h := bF hc83 h
 rw [hc83]
 refine v 1 71 [(0, I a0), (4, pf a1 0), (5, pf a2 0), (17, B false), (18, E a2)] [] ?_
 obtain ⟨v81, hv82, h⟩ := bindS h
 refine cF 19 (ok_impl_Value_ok hv82) ?_
 refine ve 3 71 [(0, I a0), (4, pf a1 0), (5, pf a2 0), (8, B (!v81))] [] ?_
 exact ⟨(!v81), h, it [0, 4, 5, 8]⟩
 rintro x1 h
 unfold impl_Compare_j0 at h
 refine pc h (fun h => ?_) (fun h => ?_)
 refine srve 71 [(6, I (-1))] [] ?_
 cases h
 exact pwp_ret rz
 refine pwp_seq ?_
 refine pwp_join (σ := Bool) (fun x3 => (⟨71, [(0, I a0), (4, pf a1 0), (5, pf a2 0), (22, B x3)], []⟩ : St)) (fun x3 => impl_Compare_j1 a0 a1 a2 x3 = some y) ?_ ?_
 refine rv 4 71 [(0, I a0), (4, pf a1 0), (5, pf a2 0), (26, B (a1.fKind == 0))] [] ?_
 rcases fk (a1.fKind == 0) with hc76 | hc76
 replace h := bT hc76 h
 rw [hc76]
 refine ve 5 71 [(0, I a0), (4, pf a1 0), (5, pf a2 0), (22, B true)] [] ?_
 exact ⟨true, h, it [0, 4, 5, 22]⟩
 replace h := bF hc76 h
 rw [hc76]
 refine ve 5 71 [(0, I a0), (4, pf a1 0), (5, pf a2 0), (22, B (a2.fKind == 0))] [] ?_
 exact ⟨(a2.fKind == 0), h, it [0, 4, 5, 22]⟩
 rintro x3 h
 unfold impl_Compare_j1 at h
 refine pc h (fun h => ?_) (fun h => ?_)
 refine srve 71 [(6, I 2)] [] ?_
 cases h
 exact pwp_ret rz
 refine srve 71 [(0, I a0), (4, pf a1 0), (5, pf a2 0), (31, B (!(a1.fKind == a2.fKind)))] [] ?_
 refine pc h (fun h => ?_) (fun h => ?_)
 refine srve 71 [(6, I (-1))] [] ?_
 cases h
 exact pwp_ret rz
 refine pwp_skip ?_
 refine srv 2 71 [(0, I a0), (37, E a1), (38, E a2)] [] ?_
 obtain ⟨v6, hv7, h⟩ := bindS h
 refine cF 39 (ok_impl_Value_order hv7) ?_
 refine ve 1 71 [(0, I a0), (7, I v6)] [] ?_
 refine srv 3 71 [(0, I a0), (7, I v6), (42, B (a0 == 1))] [] ?_
 rcases fk (a0 == 1) with hc75 | hc75
 replace h := bT hc75 h
 rw [hc75]
 refine v 4 71 [(0, I a0), (7, I v6), (46, B (v6 == 0))] [] ?_
 rcases fk (v6 == 0) with hc42 | hc42
 replace h := bT hc42 h
 rw [hc42]
 refine v 23 71 [(69, B true)] [] ?_
 obtain ⟨v8, hv9, h⟩ := bindS h
 refine cF 70 (ok_impl_truthIf hv9) ?_
 refine ve 1 71 [(6, I v8)] [] ?_
 cases h
 exact pwp_ret rz
 replace h := bF hc42 h
 rw [hc42]
 refine v 3 71 [(0, I a0), (7, I v6), (46, B false), (49, B (a0 == 2))] [] ?_
 rcases fk (a0 == 2) with hc41 | hc41
 replace h := bT hc41 h
 rw [hc41]
 refine v 5 71 [(0, I a0), (7, I v6), (54, B (!(v6 == 0)))] [] ?_
 rcases fk (!(v6 == 0)) with hc26 | hc26
 replace h := bT hc26 h
 rw [hc26]
 refine v 15 71 [(69, B true)] [] ?_
 obtain ⟨v10, hv11, h⟩ := bindS h
 refine cF 70 (ok_impl_truthIf hv11) ?_
 refine ve 1 71 [(6, I v10)] [] ?_
 cases h
 exact pwp_ret rz
 replace h := bF hc26 h
 rw [hc26]
 refine v 3 71 [(0, I a0), (7, I v6), (54, B false), (57, B (a0 == 3))] [] ?_
 rcases fk (a0 == 3) with hc25 | hc25
 replace h := bT hc25 h
 rw [hc25]
 refine v 5 71 [(0, I a0), (7, I v6), (62, B (decide (v6 < 0)))] [] ?_
 rcases fk (decide (v6 < 0)) with hc19 | hc19
 replace h := bT hc19 h
 rw [hc19]
 refine v 7 71 [(69, B true)] [] ?_
 obtain ⟨v12, hv13, h⟩ := bindS h
 refine cF 70 (ok_impl_truthIf hv13) ?_
 refine ve 1 71 [(6, I v12)] [] ?_
 cases h
 exact pwp_ret rz
 replace h := bF hc19 h
 rw [hc19]
 refine v 3 71 [(7, I v6), (62, B false), (65, B (a0 == 4))] [] ?_
 rcases fk (a0 == 4) with hc18 | hc18
 replace h := bT hc18 h
 rw [hc18]
 refine v 4 71 [(69, B (decide (v6 ≤ 0)))] [] ?_
 obtain ⟨v14, hv15, h⟩ := bindS h
 refine cF 70 (ok_impl_truthIf hv15) ?_
 refine ve 1 71 [(6, I v14)] [] ?_
 cases h
 exact pwp_ret rz
 replace h := bF hc18 h
 rw [hc18]
 refine v 4 71 [(69, B false)] [] ?_
 obtain ⟨v16, hv17, h⟩ := bindS h
 refine cF 70 (ok_impl_truthIf hv17) ?_
 refine ve 1 71 [(6, I v16)] [] ?_
 cases h
 exact pwp_ret rz
 replace h := bF hc25 h
 rw [hc25]
 refine v 8 71 [(7, I v6), (62, B false), (65, B (a0 == 4))] [] ?_
 rcases fk (a0 == 4) with hc24 | hc24
 replace h := bT hc24 h
 rw [hc24]
 refine v 4 71 [(69, B (decide (v6 ≤ 0)))] [] ?_
 obtain ⟨v20, hv21, h⟩ := bindS h
 refine cF 70 (ok_impl_truthIf hv21) ?_
 refine ve 1 71 [(6, I v20)] [] ?_
 cases h
 exact pwp_ret rz
 replace h := bF hc24 h
 rw [hc24]
 refine v 4 71 [(69, B false)] [] ?_
 obtain ⟨v22, hv23, h⟩ := bindS h
 refine cF 70 (ok_impl_truthIf hv23) ?_
 refine ve 1 71 [(6, I v22)] [] ?_
 cases h
 exact pwp_ret rz
 replace h := bF hc41 h
 rw [hc41]
 refine v 8 71 [(0, I a0), (7, I v6), (54, B false), (57, B (a0 == 3))] [] ?_
 rcases fk (a0 == 3) with hc40 | hc40
 replace h := bT hc40 h
 rw [hc40]
 refine v 5 71 [(0, I a0), (7, I v6), (62, B (decide (v6 < 0)))] [] ?_
 rcases fk (decide (v6 < 0)) with hc34 | hc34
 replace h := bT hc34 h
 rw [hc34]
 refine v 7 71 [(69, B true)] [] ?_
 obtain ⟨v27, hv28, h⟩ := bindS h
 refine cF 70 (ok_impl_truthIf hv28) ?_
 refine ve 1 71 [(6, I v27)] [] ?_
 cases h
 exact pwp_ret rz
 replace h := bF hc34 h
 rw [hc34]
 refine v 3 71 [(7, I v6), (62, B false), (65, B (a0 == 4))] [] ?_
 rcases fk (a0 == 4) with hc33 | hc33
 replace h := bT hc33 h
 rw [hc33]
 refine v 4 71 [(69, B (decide (v6 ≤ 0)))] [] ?_
 obtain ⟨v29, hv30, h⟩ := bindS h
 refine cF 70 (ok_impl_truthIf hv30) ?_
 refine ve 1 71 [(6, I v29)] [] ?_
 cases h
 exact pwp_ret rz
 replace h := bF hc33 h
 rw [hc33]
 refine v 4 71 [(69, B false)] [] ?_
 obtain ⟨v31, hv32, h⟩ := bindS h
 refine cF 70 (ok_impl_truthIf hv32) ?_
 refine ve 1 71 [(6, I v31)] [] ?_
 cases h
 exact pwp_ret rz
 replace h := bF hc40 h
 rw [hc40]
 refine v 8 71 [(7, I v6), (62, B false), (65, B (a0 == 4))] [] ?_
 rcases fk (a0 == 4) with hc39 | hc39
 replace h := bT hc39 h
 rw [hc39]
 refine v 4 71 [(69, B (decide (v6 ≤ 0)))] [] ?_
 obtain ⟨v35, hv36, h⟩ := bindS h
 refine cF 70 (ok_impl_truthIf hv36) ?_
 refine ve 1 71 [(6, I v35)] [] ?_
 cases h
 exact pwp_ret rz
 replace h := bF hc39 h
 rw [hc39]
 refine v 4 71 [(69, B false)] [] ?_
 obtain ⟨v37, hv38, h⟩ := bindS h
 refine cF 70 (ok_impl_truthIf hv38) ?_
 refine ve 1 71 [(6, I v37)] [] ?_
 cases h
 exact pwp_ret rz
 replace h := bF hc75 h
 rw [hc75]
 refine v 7 71 [(0, I a0), (7, I v6), (46, B false), (49, B (a0 == 2))] [] ?_
 rcases fk (a0 == 2) with hc74 | hc74
 replace h := bT hc74 h
 rw [hc74]
 refine v 5 71 [(0, I a0), (7, I v6), (54, B (!(v6 == 0)))] [] ?_
 rcases fk (!(v6 == 0)) with hc59 | hc59
 replace h := bT hc59 h
 rw [hc59]
 refine v 15 71 [(69, B true)] [] ?_
 obtain ⟨v43, hv44, h⟩ := bindS h
 refine cF 70 (ok_impl_truthIf hv44) ?_
 refine ve 1 71 [(6, I v43)] [] ?_
 cases h
 exact pwp_ret rz
 replace h := bF hc59 h
 rw [hc59]
 refine v 3 71 [(0, I a0), (7, I v6), (54, B false), (57, B (a0 == 3))] [] ?_
 rcases fk (a0 == 3) with hc58 | hc58
 replace h := bT hc58 h
 rw [hc58]
 refine v 5 71 [(0, I a0), (7, I v6), (62, B (decide (v6 < 0)))] [] ?_
 rcases fk (decide (v6 < 0)) with hc52 | hc52
 replace h := bT hc52 h
 rw [hc52]
 refine v 7 71 [(69, B true)] [] ?_
 obtain ⟨v45, hv46, h⟩ := bindS h
 refine cF 70 (ok_impl_truthIf hv46) ?_
 refine ve 1 71 [(6, I v45)] [] ?_
 cases h
 exact pwp_ret rz
 replace h := bF hc52 h
 rw [hc52]
 refine v 3 71 [(7, I v6), (62, B false), (65, B (a0 == 4))] [] ?_
 rcases fk (a0 == 4) with hc51 | hc51
 replace h := bT hc51 h
 rw [hc51]
 refine v 4 71 [(69, B (decide (v6 ≤ 0)))] [] ?_
 obtain ⟨v47, hv48, h⟩ := bindS h
 refine cF 70 (ok_impl_truthIf hv48) ?_
 refine ve 1 71 [(6, I v47)] [] ?_
 cases h
 exact pwp_ret rz
 replace h := bF hc51 h
 rw [hc51]
 refine v 4 71 [(69, B false)] [] ?_
 obtain ⟨v49, hv50, h⟩ := bindS h
 refine cF 70 (ok_impl_truthIf hv50) ?_
 refine ve 1 71 [(6, I v49)] [] ?_
 cases h
 exact pwp_ret rz
 replace h := bF hc58 h
 rw [hc58]
 refine v 8 71 [(7, I v6), (62, B false), (65, B (a0 == 4))] [] ?_
 rcases fk (a0 == 4) with hc57 | hc57
 replace h := bT hc57 h
 rw [hc57]
 refine v 4 71 [(69, B (decide (v6 ≤ 0)))] [] ?_
 obtain ⟨v53, hv54, h⟩ := bindS h
 refine cF 70 (ok_impl_truthIf hv54) ?_
 refine ve 1 71 [(6, I v53)] [] ?_
 cases h
 exact pwp_ret rz
 replace h := bF hc57 h
 rw [hc57]
 refine v 4 71 [(69, B false)] [] ?_
 obtain ⟨v55, hv56, h⟩ := bindS h
 refine cF 70 (ok_impl_truthIf hv56) ?_
 refine ve 1 71 [(6, I v55)] [] ?_
 cases h
 exact pwp_ret rz
 replace h := bF hc74 h
 rw [hc74]
 refine v 8 71 [(0, I a0), (7, I v6), (54, B false), (57, B (a0 == 3))] [] ?_
 rcases fk (a0 == 3) with hc73 | hc73
 replace h := bT hc73 h
 rw [hc73]
 refine v 5 71 [(0, I a0), (7, I v6), (62, B (decide (v6 < 0)))] [] ?_
 rcases fk (decide (v6 < 0)) with hc67 | hc67
 replace h := bT hc67 h
 rw [hc67]
 refine v 7 71 [(69, B true)] [] ?_
 obtain ⟨v60, hv61, h⟩ := bindS h
 refine cF 70 (ok_impl_truthIf hv61) ?_
 refine ve 1 71 [(6, I v60)] [] ?_
 cases h
 exact pwp_ret rz
 replace h := bF hc67 h
 rw [hc67]
 refine v 3 71 [(7, I v6), (62, B false), (65, B (a0 == 4))] [] ?_
 rcases fk (a0 == 4) with hc66 | hc66
 replace h := bT hc66 h
 rw [hc66]
 refine v 4 71 [(69, B (decide (v6 ≤ 0)))] [] ?_
 obtain ⟨v62, hv63, h⟩ := bindS h
 refine cF 70 (ok_impl_truthIf hv63) ?_
 refine ve 1 71 [(6, I v62)] [] ?_
 cases h
 exact pwp_ret rz
 replace h := bF hc66 h
 rw [hc66]
 refine v 4 71 [(69, B false)] [] ?_
 obtain ⟨v64, hv65, h⟩ := bindS h
 refine cF 70 (ok_impl_truthIf hv65) ?_
 refine ve 1 71 [(6, I v64)] [] ?_
 cases h
 exact pwp_ret rz
 replace h := bF hc73 h
 rw [hc73]
 refine v 8 71 [(7, I v6), (62, B false), (65, B (a0 == 4))] [] ?_
 rcases fk (a0 == 4) with hc72 | hc72
 replace h := bT hc72 h
 rw [hc72]
 refine v 4 71 [(69, B (decide (v6 ≤ 0)))] [] ?_
 obtain ⟨v68, hv69, h⟩ := bindS h
 refine cF 70 (ok_impl_truthIf hv69) ?_
 refine ve 1 71 [(6, I v68)] [] ?_
 cases h
 exact pwp_ret rz
 replace h := bF hc72 h
 rw [hc72]
 refine v 4 71 [(69, B false)] [] ?_
 obtain ⟨v70, hv71, h⟩ := bindS h
 refine cF 70 (ok_impl_truthIf hv71) ?_
 refine ve 1 71 [(6, I v70)] [] ?_
 cases h
 exact pwp_ret rz
def slices_Clip_impl_Table_impl_Table_R (a0 : List T_impl_Table) : Option (List T_impl_Table) := (slI a0 none (some (a0.length : Int)) (some (a0.length : Int))).bind fun v1 => some v1
theorem ok_slices_Clip_impl_Table_impl_Table_R {a0 : List T_impl_Table} {y : List T_impl_Table} (h : slices_Clip_impl_Table_impl_Table_R a0 = some y) : OKm Tryz.prog 98 [O a0] (O y) := by
 refine OKm_of_pwp (sl := [rf 0 0 2 a0]) (bs := [⟨0, eL a0⟩]) τ_ok Tryz.func98 rfl (by kernel_rfl) rfl (by kernel_rfl) fun Γ hX => ?_
 refine pwp_imp (Imp.to (st' := ⟨9, [(0, rf 0 0 2 a0)], [sl 0 a0]⟩) [0] (by kernel_rfl)) ?_
 unfold slices_Clip_impl_Table_impl_Table_R at h
 refine srve 9 [(0, rf 0 0 2 a0)] [sl 0 a0] ?_
 refine srv 5 9 [(3, rf 0 0 2 a0), (5, I (a0.length : Int)), (7, I (a0.length : Int))] [sl 0 a0] ?_
 obtain ⟨v1, hv2, h⟩ := bindS h
 refine opsP_slr τ_ok 8 0 0 a0.length hv2 rfl (by kernel_rfl) ?_
 refine ve 1 9 [(2, rf 0 0 2 v1)] [sl 0 a0] ?_
 refine ip 9 [(2, rf 0 0 2 v1)] [sl 0 a0] ?_
 refine pwp_imp (Imp.cut (st' := ⟨9, [(2, rf 0 0 2 v1)], [sl 0 v1]⟩) 0 0 a0 v1 (by kernel_rfl) (slI_view hv2) (by kernel_rfl)) ?_
 have h := si h
 subst h
 exact pwp_ret (rt (rf 0 0 2 v1) (OutP.list (v := 0) (by kernel_rfl)))
def spec_DrawTablesSeen (a0 : List UInt8) : Option ((List T_impl_Table) × (List T_impl_Guard)) := (spec_l20Open a0).bind fun v1 => (spec_l20Tables v1 0).bind fun v3 => (spec_l20Guards v3.2 v3.1 9).bind fun v5 => some (v3.1, v5.1)
theorem ok_spec_DrawTablesSeen {a0 : List UInt8} {y : (List T_impl_Table) × (List T_impl_Guard)} (h : spec_DrawTablesSeen a0 = some y) : OK Tryz.prog 9 [A a0] (.tup [A y.1, A y.2]) := by
 refine ow Tryz.func9 fun Γ hX => ?_
 unfold spec_DrawTablesSeen at h
 refine srve 14 [(0, A a0)] [] ?_
 refine srv 1 14 [(6, A a0)] [] ?_
 obtain ⟨v1, hv2, h⟩ := bindS h
 refine opsP_callO τ 7 (ok_spec_l20Open hv2) rfl (by kernel_rfl) ?_
 refine ve 1 14 [(4, .ptr 0 0 0)] [sc 0 v1] ?_
 refine srv 1 14 [(4, .ptr 0 0 0), (8, .ptr 0 0 0)] [sc 0 v1] ?_
 obtain ⟨v3, hv4, h⟩ := bindS h
 refine cBo 9 0 0 (ok_spec_l20Tables hv4) ?_
 refine ve 1 14 [(4, .ptr 0 0 0), (5, A v3.1)] [sc 0 v3.2] ?_
 refine srv 3 14 [(10, A v3.1), (11, .ptr 0 0 0), (12, A v3.1)] [sc 0 v3.2] ?_
 obtain ⟨v5, hv6, h⟩ := bindS h
 refine cBo 13 0 0 (ok_spec_l20Guards hv6) ?_
 refine ve 2 14 [(2, A v3.1), (3, A v5.1)] [sc 0 v5.2] ?_
 have h := si h
 subst h
 exact pwp_ret (rt (.tup [A v3.1, A v5.1]) (OutP.tup (OutL.cons (OutP.frz (by kernel_rfl)) (OutL.cons (OutP.frz (by kernel_rfl)) (OutL.nil _)))))
def spec_GuardsOk_j1 (x1 : Int) (K3 : Int → Option Bool) (x7 : Bool) : Option Bool := bif x7 then some false else K3 (w64 (x1 + 1))
def spec_GuardsOk_l0 (a0 : List T_impl_Table) (a1 : List T_impl_Guard) : Nat → Int → Option Bool
 | 0, _ => none
 | f2 + 1, x1 => bif (decide (x1 < (a1.length : Int))) then (getI a1 x1).bind fun v5 => (spec_l1In v5.fIn 0 (w64 ((a0.length : Int) - 1))).bind fun v9 => bif (!v9) then spec_GuardsOk_j1 x1 (spec_GuardsOk_l0 a0 a1 f2) true else (getI a0 v5.fIn).bind fun v11 => (spec_ExprKind v11.fColumns v5.fE).bind fun v13 => bif (!(v13 == 3)) then spec_GuardsOk_j1 x1 (spec_GuardsOk_l0 a0 a1 f2) true else bif (decide (x1 > 0)) then (getI a1 (w64 (x1 - 1))).bind fun v15 => spec_GuardsOk_j1 x1 (spec_GuardsOk_l0 a0 a1 f2) (decide (v15.fIn ≥ v5.fIn)) else spec_GuardsOk_j1 x1 (spec_GuardsOk_l0 a0 a1 f2) false else (spec_TablesOk a0).bind fun v20 => some v20
def spec_GuardsOk (a0 : List T_impl_Table) (a1 : List T_impl_Guard) : Option Bool := spec_GuardsOk_l0 a0 a1 FUEL 0
theorem ok_spec_GuardsOk {a0 : List T_impl_Table} {a1 : List T_impl_Guard} {y : Bool} (h : spec_GuardsOk a0 a1 = some y) : OK Tryz.prog 46 [A a0, A a1] (B y) := by
 refine ow Tryz.func46 fun Γ hX => ?_
 unfold spec_GuardsOk at h
 refine srveM [6] 53 [(0, A a0), (1, A a1)] [] ?_
 refine pwp_seq ?_
 refine srveM [6] 53 [(0, A a0), (1, A a1), (5, I 0)] [] ?_
 refine pwp_block ?_
 refine pwp_loop (ι := Nat × Int) (fun (f2, x1) => (⟨53, [(0, A a0), (1, A a1), (5, I x1)], []⟩ : St)) (fun (f2, x1) => spec_GuardsOk_l0 a0 a1 f2 x1 = some y) Prod.fst (FUEL, 0) h (it [0, 1, 5]) ?_
 rintro ⟨f2, x1⟩ h
 dsimp only at h ⊢
 rcases f2 with _ | f2
 cases h
 rw [spec_GuardsOk_l0] at h
 refine pwp_seq ?_
 refine srveM [6] 53 [(0, A a0), (1, A a1), (5, I x1), (10, B (decide (x1 < (a1.length : Int))))] [] ?_
 refine pc h (fun h => ?_) (fun h => ?_)
 refine pwp_skip ?_
 refine pwp_seq ?_
 refine pwp_block ?_
 refine srvM [6] 2 53 [(0, A a0), (1, A a1), (5, I x1), (13, A a1), (14, I x1)] [] ?_
 obtain ⟨v5, hv6, h⟩ := bindS h
 refine opsP_idx τ_ok 15 hv6 (by kernel_rfl) ?_
 refine veM [6] 3 53 [(0, A a0), (1, A a1), (5, I x1), (6, .ptr 0 0 0)] [sc 0 v5] ?_
 refine pwp_seq ?_
 refine pwp_join (σ := Bool) (fun x7 => (⟨53, [(0, A a0), (1, A a1), (5, I x1), (50, B x7)], [sc 0 v5]⟩ : St)) (fun x7 => spec_GuardsOk_j1 x1 (spec_GuardsOk_l0 a0 a1 f2) x7 = some y) ?_ ?_
 refine ip 53 [(0, A a0), (1, A a1), (5, I x1), (6, .ptr 0 0 0)] [sc 0 v5] ?_
 refine pwp_any ([[0], [0], [], [], [], [], [], [], [], [0], [0], [], [], [], [0], [0], [], [], [], [], [], [], [], [], [], [], [], [], [], [0], [0], [], [], []]) ([[], [], [], [], [], [], [], [], [], [], [], [], [], [], [], [], [], [], [], [], [], [], [], [], [], [], [], [], [], [], [], [], [], []]) rfl (by kernel_rfl) ?_
 refine qvM [6] [0] (hB trivial) 2 53 [(18, I v5.fIn), (0, A a0), (1, A a1), (5, I x1), (6, .ptr 0 0 0)] [sc 0 v5] ?_
 refine qvM [6] [] trivial 3 53 [(21, I (w64 ((a0.length : Int) - 1))), (18, I v5.fIn), (0, A a0), (1, A a1), (5, I x1), (6, .ptr 0 0 0)] [sc 0 v5] ?_
 obtain ⟨v9, hv10, h⟩ := bindS h
 refine qX (some 22) (B v9) 53 [(22, B v9), (0, A a0), (1, A a1), (5, I x1), (6, .ptr 0 0 0)] [sc 0 v5] (fun Γ' hΓ => CoreE.of_g (callV_sound (τ := τ) (by kernel_rfl) rfl (ok_spec_l1In hv10) (FzTo.frz rfl))) trivial ?_
 refine qvM [6] [] trivial 2 53 [(24, B (!v9)), (0, A a0), (1, A a1), (5, I x1), (6, .ptr 0 0 0)] [sc 0 v5] ?_
 rcases fk (!v9) with hc19 | hc19
 replace h := bT hc19 h
 rw [hc19]
 refine qvM [6] [] trivial 1 53 [(25, .lit undef), (24, B true), (0, A a0), (1, A a1), (5, I x1), (6, .ptr 0 0 0)] [sc 0 v5] ?_
 refine qvM [6] [0] (hB trivial) 2 53 [(27, .lit undef), (26, .lit undef), (25, .lit undef), (24, B true), (0, A a0), (1, A a1), (5, I x1), (6, .ptr 0 0 0)] [sc 0 v5] ?_
 refine qvM [6] [] trivial 3 53 [(30, .lit undef), (29, .lit undef), (28, .lit undef), (27, .lit undef), (26, .lit undef), (25, .lit undef), (24, B true), (0, A a0), (1, A a1), (5, I x1), (6, .ptr 0 0 0)] [sc 0 v5] ?_
 refine qvM [6] [0] (hB trivial) 2 53 [(32, .lit undef), (31, .lit undef), (30, .lit undef), (29, .lit undef), (28, .lit undef), (27, .lit undef), (26, .lit undef), (25, .lit undef), (24, B true), (0, A a0), (1, A a1), (5, I x1), (6, .ptr 0 0 0)] [sc 0 v5] ?_
 refine qvM [6] [] trivial 13 53 [(45, .lit undef), (44, .lit undef), (43, .lit undef), (42, .lit undef), (41, .lit undef), (40, .lit undef), (39, .lit undef), (38, .lit undef), (37, .lit undef), (36, B true), (34, .lit undef), (33, .lit undef), (32, .lit undef), (31, .lit undef), (30, .lit undef), (29, .lit undef), (28, .lit undef), (27, .lit undef), (26, .lit undef), (25, .lit undef), (0, A a0), (1, A a1), (5, I x1), (6, .ptr 0 0 0)] [sc 0 v5] ?_
 refine qvM [6] [0] (hB trivial) 2 53 [(47, .lit undef), (46, .lit undef), (45, .lit undef), (44, .lit undef), (43, .lit undef), (42, .lit undef), (41, .lit undef), (40, .lit undef), (39, .lit undef), (38, .lit undef), (37, .lit undef), (36, B true), (34, .lit undef), (33, .lit undef), (32, .lit undef), (31, .lit undef), (30, .lit undef), (29, .lit undef), (28, .lit undef), (27, .lit undef), (26, .lit undef), (25, .lit undef), (0, A a0), (1, A a1), (5, I x1)] [sc 0 v5] ?_
 refine qvM [6] [] trivial 3 53 [(50, B true), (49, .lit undef), (48, .lit undef), (47, .lit undef), (46, .lit undef), (45, .lit undef), (44, .lit undef), (43, .lit undef), (42, .lit undef), (41, .lit undef), (40, .lit undef), (39, .lit undef), (38, .lit undef), (37, .lit undef), (34, .lit undef), (33, .lit undef), (32, .lit undef), (31, .lit undef), (30, .lit undef), (29, .lit undef), (28, .lit undef), (27, .lit undef), (26, .lit undef), (25, .lit undef), (0, A a0), (1, A a1), (5, I x1)] [sc 0 v5] ?_
 refine qn 53 [(0, A a0), (1, A a1), (5, I x1), (25, .lit undef), (26, .lit undef), (27, .lit undef), (28, .lit undef), (29, .lit undef), (30, .lit undef), (31, .lit undef), (32, .lit undef), (33, .lit undef), (34, .lit undef), (37, .lit undef), (38, .lit undef), (39, .lit undef), (40, .lit undef), (41, .lit undef), (42, .lit undef), (43, .lit undef), (44, .lit undef), (45, .lit undef), (46, .lit undef), (47, .lit undef), (48, .lit undef), (49, .lit undef), (50, B true)] [sc 0 v5] ?_
 exact ⟨true, h, it [0, 1, 5, 50]⟩
 replace h := bF hc19 h
 rw [hc19]
 refine qvM [6] [] trivial 1 53 [(25, A a0), (24, B false), (0, A a0), (1, A a1), (5, I x1), (6, .ptr 0 0 0)] [sc 0 v5] ?_
 refine qvM [6] [0] (hB trivial) 2 53 [(27, I v5.fIn), (26, .ptr 0 0 0), (25, A a0), (24, B false), (0, A a0), (1, A a1), (5, I x1), (6, .ptr 0 0 0)] [sc 0 v5] ?_
 obtain ⟨v11, hv12, h⟩ := bindS h
 refine qX (some 28) (pf v11 0) 53 [(28, pf v11 0), (27, I v5.fIn), (26, .ptr 0 0 0), (25, A a0), (24, B false), (0, A a0), (1, A a1), (5, I x1), (6, .ptr 0 0 0)] [sc 0 v5] (fun Γ' hΓ => CoreE.of_y (idxV_sound τ_ok (by kernel_rfl) hv12)) trivial ?_
 refine qvM [6] [] trivial 2 53 [(30, A v11.fColumns), (29, pf v11 0), (28, pf v11 0), (27, I v5.fIn), (26, .ptr 0 0 0), (25, A a0), (24, B false), (0, A a0), (1, A a1), (5, I x1), (6, .ptr 0 0 0)] [sc 0 v5] ?_
 refine qvM [6] [0] (hB trivial) 2 53 [(32, A v5.fE), (31, .ptr 0 0 1), (30, A v11.fColumns), (29, pf v11 0), (28, pf v11 0), (27, I v5.fIn), (26, .ptr 0 0 0), (25, A a0), (24, B false), (0, A a0), (1, A a1), (5, I x1), (6, .ptr 0 0 0)] [sc 0 v5] ?_
 obtain ⟨v13, hv14, h⟩ := bindS h
 refine qX (some 33) (I v13) 53 [(33, I v13), (32, A v5.fE), (31, .ptr 0 0 1), (30, A v11.fColumns), (29, pf v11 0), (28, pf v11 0), (27, I v5.fIn), (26, .ptr 0 0 0), (25, A a0), (24, B false), (0, A a0), (1, A a1), (5, I x1), (6, .ptr 0 0 0)] [sc 0 v5] (fun Γ' hΓ => CoreE.of_g (callV_sound (τ := τ) (by kernel_rfl) rfl (ok_spec_ExprKind hv14) (FzTo.frz rfl))) trivial ?_
 refine qvM [6] [] trivial 3 53 [(36, B (!(v13 == 3))), (34, B (!(v13 == 3))), (33, I v13), (32, A v5.fE), (31, .ptr 0 0 1), (30, A v11.fColumns), (29, pf v11 0), (28, pf v11 0), (27, I v5.fIn), (26, .ptr 0 0 0), (25, A a0), (0, A a0), (1, A a1), (5, I x1), (6, .ptr 0 0 0)] [sc 0 v5] ?_
 rcases fk (!(v13 == 3)) with hc18 | hc18
 replace h := bT hc18 h
 rw [hc18]
 refine qvM [6] [] trivial 9 53 [(45, .lit undef), (44, .lit undef), (43, .lit undef), (42, .lit undef), (41, .lit undef), (40, .lit undef), (39, .lit undef), (38, .lit undef), (37, .lit undef), (36, B true), (34, B true), (33, I v13), (32, A v5.fE), (31, .ptr 0 0 1), (30, A v11.fColumns), (29, pf v11 0), (28, pf v11 0), (27, I v5.fIn), (26, .ptr 0 0 0), (25, A a0), (0, A a0), (1, A a1), (5, I x1), (6, .ptr 0 0 0)] [sc 0 v5] ?_
 refine qvM [6] [0] (hB trivial) 2 53 [(47, .lit undef), (46, .lit undef), (45, .lit undef), (44, .lit undef), (43, .lit undef), (42, .lit undef), (41, .lit undef), (40, .lit undef), (39, .lit undef), (38, .lit undef), (37, .lit undef), (36, B true), (34, B true), (33, I v13), (32, A v5.fE), (31, .ptr 0 0 1), (30, A v11.fColumns), (29, pf v11 0), (28, pf v11 0), (27, I v5.fIn), (26, .ptr 0 0 0), (25, A a0), (0, A a0), (1, A a1), (5, I x1)] [sc 0 v5] ?_
 refine qvM [6] [] trivial 3 53 [(50, B true), (49, .lit undef), (48, .lit undef), (47, .lit undef), (46, .lit undef), (45, .lit undef), (44, .lit undef), (43, .lit undef), (42, .lit undef), (41, .lit undef), (40, .lit undef), (39, .lit undef), (38, .lit undef), (37, .lit undef), (34, B true), (33, I v13), (32, A v5.fE), (31, .ptr 0 0 1), (30, A v11.fColumns), (29, pf v11 0), (28, pf v11 0), (27, I v5.fIn), (26, .ptr 0 0 0), (25, A a0), (0, A a0), (1, A a1), (5, I x1)] [sc 0 v5] ?_
 refine qn 53 [(0, A a0), (1, A a1), (5, I x1), (25, A a0), (26, .ptr 0 0 0), (27, I v5.fIn), (28, pf v11 0), (29, pf v11 0), (30, A v11.fColumns), (31, .ptr 0 0 1), (32, A v5.fE), (33, I v13), (34, B true), (37, .lit undef), (38, .lit undef), (39, .lit undef), (40, .lit undef), (41, .lit undef), (42, .lit undef), (43, .lit undef), (44, .lit undef), (45, .lit undef), (46, .lit undef), (47, .lit undef), (48, .lit undef), (49, .lit undef), (50, B true)] [sc 0 v5] ?_
 exact ⟨true, h, it [0, 1, 5, 50]⟩
 replace h := bF hc18 h
 rw [hc18]
 refine qvM [6] [] trivial 3 53 [(39, B (decide (x1 > 0))), (38, B (decide (x1 > 0))), (37, I x1), (36, B false), (34, B false), (33, I v13), (32, A v5.fE), (31, .ptr 0 0 1), (30, A v11.fColumns), (29, pf v11 0), (28, pf v11 0), (27, I v5.fIn), (26, .ptr 0 0 0), (25, A a0), (0, A a0), (1, A a1), (5, I x1), (6, .ptr 0 0 0)] [sc 0 v5] ?_
 rcases fk (decide (x1 > 0)) with hc17 | hc17
 replace h := bT hc17 h
 rw [hc17]
 refine qvM [6] [] trivial 3 53 [(42, I (w64 (x1 - 1))), (41, I x1), (40, A a1), (39, B true), (38, B true), (37, I x1), (36, B false), (34, B false), (33, I v13), (32, A v5.fE), (31, .ptr 0 0 1), (30, A v11.fColumns), (29, pf v11 0), (28, pf v11 0), (27, I v5.fIn), (26, .ptr 0 0 0), (25, A a0), (0, A a0), (1, A a1), (5, I x1), (6, .ptr 0 0 0)] [sc 0 v5] ?_
 obtain ⟨v15, hv16, h⟩ := bindS h
 refine qX (some 43) (pf v15 0) 53 [(43, pf v15 0), (42, I (w64 (x1 - 1))), (41, I x1), (40, A a1), (39, B true), (38, B true), (37, I x1), (36, B false), (34, B false), (33, I v13), (32, A v5.fE), (31, .ptr 0 0 1), (30, A v11.fColumns), (29, pf v11 0), (28, pf v11 0), (27, I v5.fIn), (26, .ptr 0 0 0), (25, A a0), (0, A a0), (1, A a1), (5, I x1), (6, .ptr 0 0 0)] [sc 0 v5] (fun Γ' hΓ => CoreE.of_y (idxV_sound τ_ok (by kernel_rfl) hv16)) trivial ?_
 refine qvM [6] [] trivial 2 53 [(45, I v15.fIn), (44, pf v15 0), (43, pf v15 0), (42, I (w64 (x1 - 1))), (41, I x1), (40, A a1), (39, B true), (38, B true), (37, I x1), (36, B false), (34, B false), (33, I v13), (32, A v5.fE), (31, .ptr 0 0 1), (30, A v11.fColumns), (29, pf v11 0), (28, pf v11 0), (27, I v5.fIn), (26, .ptr 0 0 0), (25, A a0), (0, A a0), (1, A a1), (5, I x1), (6, .ptr 0 0 0)] [sc 0 v5] ?_
 refine qvM [6] [0] (hB trivial) 2 53 [(47, I v5.fIn), (46, .ptr 0 0 0), (45, I v15.fIn), (44, pf v15 0), (43, pf v15 0), (42, I (w64 (x1 - 1))), (41, I x1), (40, A a1), (39, B true), (38, B true), (37, I x1), (36, B false), (34, B false), (33, I v13), (32, A v5.fE), (31, .ptr 0 0 1), (30, A v11.fColumns), (29, pf v11 0), (28, pf v11 0), (27, I v5.fIn), (26, .ptr 0 0 0), (25, A a0), (0, A a0), (1, A a1), (5, I x1)] [sc 0 v5] ?_
 refine qvM [6] [] trivial 3 53 [(50, B (decide (v15.fIn ≥ v5.fIn))), (49, B (decide (v15.fIn ≥ v5.fIn))), (48, B (decide (v15.fIn ≥ v5.fIn))), (47, I v5.fIn), (46, .ptr 0 0 0), (45, I v15.fIn), (44, pf v15 0), (43, pf v15 0), (42, I (w64 (x1 - 1))), (41, I x1), (40, A a1), (39, B true), (38, B true), (37, I x1), (34, B false), (33, I v13), (32, A v5.fE), (31, .ptr 0 0 1), (30, A v11.fColumns), (29, pf v11 0), (28, pf v11 0), (27, I v5.fIn), (26, .ptr 0 0 0), (25, A a0), (0, A a0), (1, A a1), (5, I x1)] [sc 0 v5] ?_
 refine qn 53 [(0, A a0), (1, A a1), (5, I x1), (25, A a0), (26, .ptr 0 0 0), (27, I v5.fIn), (28, pf v11 0), (29, pf v11 0), (30, A v11.fColumns), (31, .ptr 0 0 1), (32, A v5.fE), (33, I v13), (34, B false), (37, I x1), (38, B true), (39, B true), (40, A a1), (41, I x1), (42, I (w64 (x1 - 1))), (43, pf v15 0), (44, pf v15 0), (45, I v15.fIn), (46, .ptr 0 0 0), (47, I v5.fIn), (48, B (decide (v15.fIn ≥ v5.fIn))), (49, B (decide (v15.fIn ≥ v5.fIn))), (50, B (decide (v15.fIn ≥ v5.fIn)))] [sc 0 v5] ?_
 exact ⟨(decide (v15.fIn ≥ v5.fIn)), h, it [0, 1, 5, 50]⟩
 replace h := bF hc17 h
 rw [hc17]
 refine qvM [6] [] trivial 6 53 [(45, .lit undef), (44, .lit undef), (43, .lit undef), (42, .lit undef), (41, .lit undef), (40, .lit undef), (39, B false), (38, B false), (37, I x1), (36, B false), (34, B false), (33, I v13), (32, A v5.fE), (31, .ptr 0 0 1), (30, A v11.fColumns), (29, pf v11 0), (28, pf v11 0), (27, I v5.fIn), (26, .ptr 0 0 0), (25, A a0), (0, A a0), (1, A a1), (5, I x1), (6, .ptr 0 0 0)] [sc 0 v5] ?_
 refine qvM [6] [0] (hB trivial) 2 53 [(47, .lit undef), (46, .lit undef), (45, .lit undef), (44, .lit undef), (43, .lit undef), (42, .lit undef), (41, .lit undef), (40, .lit undef), (39, B false), (38, B false), (37, I x1), (36, B false), (34, B false), (33, I v13), (32, A v5.fE), (31, .ptr 0 0 1), (30, A v11.fColumns), (29, pf v11 0), (28, pf v11 0), (27, I v5.fIn), (26, .ptr 0 0 0), (25, A a0), (0, A a0), (1, A a1), (5, I x1)] [sc 0 v5] ?_
 refine qvM [6] [] trivial 3 53 [(50, B false), (49, B false), (48, .lit undef), (47, .lit undef), (46, .lit undef), (45, .lit undef), (44, .lit undef), (43, .lit undef), (42, .lit undef), (41, .lit undef), (40, .lit undef), (39, B false), (38, B false), (37, I x1), (34, B false), (33, I v13), (32, A v5.fE), (31, .ptr 0 0 1), (30, A v11.fColumns), (29, pf v11 0), (28, pf v11 0), (27, I v5.fIn), (26, .ptr 0 0 0), (25, A a0), (0, A a0), (1, A a1), (5, I x1)] [sc 0 v5] ?_
 refine qn 53 [(0, A a0), (1, A a1), (5, I x1), (25, A a0), (26, .ptr 0 0 0), (27, I v5.fIn), (28, pf v11 0), (29, pf v11 0), (30, A v11.fColumns), (31, .ptr 0 0 1), (32, A v5.fE), (33, I v13), (34, B false), (37, I x1), (38, B false), (39, B false), (40, .lit undef), (41, .lit undef), (42, .lit undef), (43, .lit undef), (44, .lit undef), (45, .lit undef), (46, .lit undef), (47, .lit undef), (48, .lit undef), (49, B false), (50, B false)] [sc 0 v5] ?_
 exact ⟨false, h, it [0, 1, 5, 50]⟩
 rintro x7 h
 unfold spec_GuardsOk_j1 at h
 refine pc h (fun h => ?_) (fun h => ?_)
 refine srveM [6] 53 [(4, B false)] [sc 0 v5] ?_
 cases h
 exact pwp_ret rz
 refine pwp_skip ?_
 refine rveM [6] 53 [(0, A a0), (1, A a1), (5, I (w64 (x1 + 1)))] [sc 0 v5] ?_
 exact ⟨(f2, (w64 (x1 + 1))), h, Nat.lt_succ_self _, (it (st' := ⟨53, [(0, A a0), (1, A a1), (5, I (w64 (x1 + 1)))], [sc 0 v5]⟩) [0, 1, 5]).trans (Imp.truncS 0 (nx hX) (by kernel_rfl) (allBelow_mem (by exact (And.intro rfl (And.intro rfl (And.intro rfl trivial))))) (by exact trivial) (by kernel_rfl))⟩
 refine pwp_exit ?_
 refine srvM [6] 1 53 [(51, A a0)] [] ?_
 obtain ⟨v20, hv21, h⟩ := bindS h
 refine cF 52 (ok_spec_TablesOk hv21) ?_
 refine veM [6] 1 53 [(4, B v20)] [] ?_
 cases h
 exact pwp_ret rz
def impl_ExprKind_j2 (a0 : List T_impl_Column) (x4 : Int) (x5 : List Int) (K7 : Int → (List Int) → Option Int) (v9 : T_impl_Part) (v11 : Int) (x13 : Bool) : Option Int := bif x13 then some (-1) else (slI x5 (some (w64 ((x5.length : Int) - v11))) none none).bind fun v15 => (impl_Part_kind v9 a0 v15).bind fun v17 => bif (!v17.2) then some (-1) else (slI x5 none (some (w64 ((x5.length : Int) - v11))) none).bind fun v20 => (appT x5 ([v17.1] : List Int) v20.length).bind fun v22 => K7 (w64 (x4 + 1)) v22
def impl_ExprKind_l1 (a0 : List T_impl_Column) (a1 : List T_impl_Part) : Nat → Int → (List Int) → Option Int
 | 0, _, _ => none
 | f6 + 1, x4, x5 => bif (decide (x4 < (a1.length : Int))) then (getI a1 x4).bind fun v9 => (impl_Part_takes v9).bind fun v11 => (impl_Part_tells v9 a0).bind fun v24 => bif (!v24) then impl_ExprKind_j2 a0 x4 x5 (impl_ExprKind_l1 a0 a1 f6) v9 v11 true else impl_ExprKind_j2 a0 x4 x5 (impl_ExprKind_l1 a0 a1 f6) v9 v11 (decide ((x5.length : Int) < v11)) else bif (!((x5.length : Int) == 1)) then some (-1) else (getI x5 (0 : Int)).bind fun v28 => some v28
def impl_ExprKind_j0 (a0 : List T_impl_Column) (a1 : List T_impl_Part) (x1 : Bool) : Option Int := bif x1 then some (-1) else impl_ExprKind_l1 a0 a1 FUEL 0 ([] : List Int)
def impl_ExprKind (a0 : List T_impl_Column) (a1 : List T_impl_Part) : Option Int := (impl_ColumnsOk a0).bind fun v30 => bif (!v30) then impl_ExprKind_j0 a0 a1 true else impl_ExprKind_j0 a0 a1 (decide ((a1.length : Int) > 12))
theorem ok_impl_ExprKind {a0 : List T_impl_Column} {a1 : List T_impl_Part} {y : Int} (h : impl_ExprKind a0 a1 = some y) : OK Tryz.prog 50 [A a0, A a1] (I y) := by
 refine ow Tryz.func50 fun Γ hX => ?_
 unfold impl_ExprKind at h
 refine srveM [7] 67 [(0, A a0), (1, A a1)] [] ?_
 refine pwp_seq ?_
 refine pwp_seq ?_
 refine pwp_join (σ := Bool) (fun x1 => (⟨67, [(0, A a0), (1, A a1), (18, B x1)], []⟩ : St)) (fun x1 => impl_ExprKind_j0 a0 a1 x1 = some y) ?_ ?_
 refine rvM [7] 1 67 [(0, A a0), (1, A a1), (11, A a0)] [] ?_
 obtain ⟨v30, hv31, h⟩ := bindS h
 refine cF 12 (ok_impl_ColumnsOk hv31) ?_
 refine vM [7] 2 67 [(0, A a0), (1, A a1), (14, B (!v30))] [] ?_
 rcases fk (!v30) with hc32 | hc32
 replace h := bT hc32 h
 rw [hc32]
 refine veM [7] 4 67 [(0, A a0), (1, A a1), (18, B true)] [] ?_
 exact ⟨true, h, it [0, 1, 18]⟩
 replace h := bF hc32 h
 rw [hc32]
 refine veM [7] 4 67 [(0, A a0), (1, A a1), (18, B (decide ((a1.length : Int) > 12)))] [] ?_
 exact ⟨(decide ((a1.length : Int) > 12)), h, it [0, 1, 18]⟩
 rintro x1 h
 unfold impl_ExprKind_j0 at h
 refine pc h (fun h => ?_) (fun h => ?_)
 refine srveM [7] 67 [(4, I (-1))] [] ?_
 cases h
 exact pwp_ret rz
 refine pwp_skip ?_
 refine srveM [7] 67 [(0, A a0), (1, A a1), (5, .arr 1 0 (eL ([] : List Int)) true)] [] ?_
 refine pwp_seq ?_
 refine srveM [7] 67 [(0, A a0), (5, .arr 1 0 (eL ([] : List Int)) true), (19, A a1), (20, I (a1.length : Int)), (21, I 0)] [] ?_
 refine pwp_block ?_
 refine pwp_loop (ι := Nat × Int × (List Int)) (fun (f6, x4, x5) => (⟨67, [(0, A a0), (5, rf 0 0 1 x5), (19, A a1), (20, I (a1.length : Int)), (21, I x4)], [sl 0 x5]⟩ : St)) (fun (f6, x4, x5) => impl_ExprKind_l1 a0 a1 f6 x4 x5 = some y) Prod.fst (FUEL, 0, ([] : List Int)) h (Imp.thawS 5 [0, 5, 19, 20, 21] (by kernel_rfl)) ?_
 rintro ⟨f6, x4, x5⟩ h
 dsimp only at h ⊢
 rcases f6 with _ | f6
 cases h
 rw [impl_ExprKind_l1] at h
 refine srveM [7] 67 [(0, A a0), (5, rf 0 0 1 x5), (19, A a1), (20, I (a1.length : Int)), (21, I x4), (22, B (decide (x4 < (a1.length : Int))))] [sl 0 x5] ?_
 refine pwp_seq ?_
 refine pc h (fun h => ?_) (fun h => ?_)
 refine pwp_skip ?_
 refine pwp_seq ?_
 refine pwp_block ?_
 refine pwp_seq ?_
 refine pwp_region ?_
 obtain ⟨v9, hv10, h⟩ := bindS h
 refine opsP_idx τ_ok 23 hv10 (by kernel_rfl) ?_
 refine veM [7] 3 67 [(0, A a0), (5, rf 0 0 1 x5), (7, .ptr 1 0 0), (19, A a1), (20, I (a1.length : Int)), (21, I x4)] [sl 0 x5, sc 0 v9] ?_
 refine srvM [7] 1 67 [(0, A a0), (5, rf 0 0 1 x5), (7, .ptr 1 0 0), (19, A a1), (20, I (a1.length : Int)), (21, I x4), (25, E v9)] [sl 0 x5, sc 0 v9] ?_
 obtain ⟨v11, hv12, h⟩ := bindS h
 refine cF 26 (ok_impl_Part_takes hv12) ?_
 refine veM [7] 1 67 [(0, A a0), (5, rf 0 0 1 x5), (7, .ptr 1 0 0), (8, I v11), (19, A a1), (20, I (a1.length : Int)), (21, I x4)] [sl 0 x5, sc 0 v9] ?_
 refine pwp_seq ?_
 refine pwp_seq ?_
 refine pwp_join (σ := Bool) (fun x13 => (⟨67, [(0, A a0), (5, rf 0 0 1 x5), (7, .ptr 1 0 0), (8, I v11), (19, A a1), (20, I (a1.length : Int)), (21, I x4), (36, B x13)], [sl 0 x5, sc 0 v9]⟩ : St)) (fun x13 => impl_ExprKind_j2 a0 x4 x5 (impl_ExprKind_l1 a0 a1 f6) v9 v11 x13 = some y) ?_ ?_
 refine rvM [7] 2 67 [(0, A a0), (5, rf 0 0 1 x5), (7, .ptr 1 0 0), (8, I v11), (19, A a1), (20, I (a1.length : Int)), (21, I x4), (27, E v9), (28, A a0)] [sl 0 x5, sc 0 v9] ?_
 obtain ⟨v24, hv25, h⟩ := bindS h
 refine cF 29 (ok_impl_Part_tells hv25) ?_
 refine vM [7] 2 67 [(0, A a0), (5, rf 0 0 1 x5), (7, .ptr 1 0 0), (8, I v11), (19, A a1), (20, I (a1.length : Int)), (21, I x4), (31, B (!v24))] [sl 0 x5, sc 0 v9] ?_
 rcases fk (!v24) with hc26 | hc26
 replace h := bT hc26 h
 rw [hc26]
 refine veM [7] 5 67 [(0, A a0), (5, rf 0 0 1 x5), (7, .ptr 1 0 0), (8, I v11), (19, A a1), (20, I (a1.length : Int)), (21, I x4), (32, .lit undef), (33, .lit undef), (34, .lit undef), (35, .lit undef), (36, B true)] [sl 0 x5, sc 0 v9] ?_
 exact ⟨true, h, it [0, 5, 7, 8, 19, 20, 21, 36]⟩
 replace h := bF hc26 h
 rw [hc26]
 refine veM [7] 5 67 [(0, A a0), (5, rf 0 0 1 x5), (7, .ptr 1 0 0), (8, I v11), (19, A a1), (20, I (a1.length : Int)), (21, I x4), (32, rf 0 0 1 x5), (33, I (x5.length : Int)), (34, I v11), (35, B (decide ((x5.length : Int) < v11))), (36, B (decide ((x5.length : Int) < v11)))] [sl 0 x5, sc 0 v9] ?_
 exact ⟨(decide ((x5.length : Int) < v11)), h, it [0, 5, 7, 8, 19, 20, 21, 36]⟩
 rintro x13 h
 unfold impl_ExprKind_j2 at h
 refine pc h (fun h => ?_) (fun h => ?_)
 refine srveM [7] 67 [(4, I (-1))] [sl 0 x5, sc 0 v9] ?_
 cases h
 exact pwp_ret rz
 refine pwp_skip ?_
 refine pwp_seq ?_
 refine ip 67 [(0, A a0), (5, rf 0 0 1 x5), (7, .ptr 1 0 0), (8, I v11), (19, A a1), (20, I (a1.length : Int)), (21, I x4)] [sl 0 x5, sc 0 v9] ?_
 refine pwp_any ([[1], [], [0], [0], [0], [], [], [0], [0], [], [], [], [], []]) ([[], [], [], [], [], [], [], [], [], [], [], [], [], []]) rfl (by kernel_rfl) ?_
 refine qvM [7] [1] (hB trivial) 1 67 [(38, E v9), (0, A a0), (5, rf 0 0 1 x5), (8, I v11), (19, A a1), (20, I (a1.length : Int)), (21, I x4)] [sl 0 x5, sc 0 v9] ?_
 refine qvM [7] [] trivial 1 67 [(39, A a0), (38, E v9), (0, A a0), (5, rf 0 0 1 x5), (8, I v11), (19, A a1), (20, I (a1.length : Int)), (21, I x4)] [sl 0 x5, sc 0 v9] ?_
 refine qvM [7] [0] (hL trivial) 3 67 [(42, I (x5.length : Int)), (40, rf 0 0 1 x5), (39, A a0), (38, E v9), (0, A a0), (5, rf 0 0 1 x5), (8, I v11), (19, A a1), (20, I (a1.length : Int)), (21, I x4)] [sl 0 x5, sc 0 v9] ?_
 refine qvM [7] [] trivial 2 67 [(44, I (w64 ((x5.length : Int) - v11))), (40, rf 0 0 1 x5), (39, A a0), (38, E v9), (0, A a0), (5, rf 0 0 1 x5), (8, I v11), (19, A a1), (20, I (a1.length : Int)), (21, I x4)] [sl 0 x5, sc 0 v9] ?_
 obtain ⟨v15, hv16, h⟩ := bindS h
 refine qX (some 45) (.ref 0 0 ((w64 ((x5.length : Int) - v11)).toNat * 1) 1 v15.length false) 67 [(45, .ref 0 0 ((w64 ((x5.length : Int) - v11)).toNat * 1) 1 v15.length false), (39, A a0), (38, E v9), (0, A a0), (5, rf 0 0 1 x5), (8, I v11), (19, A a1), (20, I (a1.length : Int)), (21, I x4)] [sl 0 x5, sc 0 v9] (fun Γ' hΓ => CoreE.of_y (slrV_sound (n := x5.length) τ_ok (by kernel_rfl) rfl hv16)) (hL trivial) ?_
 obtain ⟨v17, hv18, h⟩ := bindS h
 refine qX (some 46) (.tup [I v17.1, B v17.2]) 67 [(46, .tup [I v17.1, B v17.2]), (0, A a0), (5, rf 0 0 1 x5), (8, I v11), (19, A a1), (20, I (a1.length : Int)), (21, I x4)] [sl 0 x5, sc 0 v9] (fun Γ' hΓ => CoreE.of_g (callVV_sound (xs := [E v9, A a0, .ref 0 0 ((w64 ((x5.length : Int) - v11)).toNat * 1) 1 v15.length false]) (τ := τ) (by kernel_rfl) (ViewL.cons (View.frz rfl) (ViewL.cons (View.frz rfl) (ViewL.cons (View.ref (v := 0) (lo := (w64 ((x5.length : Int) - v11)).toNat) x5 v15 (by kernel_rfl) (slI_view hv16) rfl) (ViewL.nil _)))) (ok_impl_Part_kind hv18) (Blind.tup (BlindL.cons (Blind.lit _) (BlindL.cons (Blind.lit _) BlindL.nil))) (FzTo.tup (FzToL.cons (FzTo.frz rfl) (FzToL.cons (FzTo.frz rfl) FzToL.nil))))) (hL trivial) ?_
 refine qvnM [7] [] trivial 5 67 [(0, A a0), (5, rf 0 0 1 x5), (8, I v11), (9, I v17.1), (10, B v17.2), (19, A a1), (20, I (a1.length : Int)), (21, I x4)] [sl 0 x5, sc 0 v9] ?_
 refine pwp_seq ?_
 refine srveM [7] 67 [(0, A a0), (5, rf 0 0 1 x5), (8, I v11), (9, I v17.1), (19, A a1), (20, I (a1.length : Int)), (21, I x4), (50, B (!v17.2))] [sl 0 x5, sc 0 v9] ?_
 refine pc h (fun h => ?_) (fun h => ?_)
 refine srveM [7] 67 [(4, I (-1))] [sl 0 x5, sc 0 v9] ?_
 cases h
 exact pwp_ret rz
 refine pwp_skip ?_
 refine rvM [7] 5 67 [(0, A a0), (9, I v17.1), (19, A a1), (20, I (a1.length : Int)), (21, I x4), (51, rf 0 0 1 x5), (55, I (w64 ((x5.length : Int) - v11)))] [sl 0 x5, sc 0 v9] ?_
 obtain ⟨v20, hv21, h⟩ := bindS h
 refine opsP_slr τ_ok 56 0 0 x5.length hv21 rfl (by kernel_rfl) ?_
 refine vM [7] 2 67 [(0, A a0), (19, A a1), (20, I (a1.length : Int)), (21, I x4), (56, rf 0 0 1 v20), (58, .arr 1 ([v17.1] : List Int).length (eL ([v17.1] : List Int)) true)] [sl 0 x5, sc 0 v9] ?_
 obtain ⟨v22, hv23, h⟩ := bindS h
 refine opsP_apt τ_ok 59 0 0 v20.length (nx hX) hv23 (slI_le hv21) (by kernel_rfl) ?_
 refine veM [7] 1 67 [(0, A a0), (5, rf 0 1 1 v22), (19, A a1), (20, I (a1.length : Int)), (21, I x4)] [sl 1 v22, sc 0 v9] ?_
 refine rveM [7] 67 [(0, A a0), (5, rf 0 1 1 v22), (19, A a1), (20, I (a1.length : Int)), (21, I (w64 (x4 + 1)))] [sl 1 v22, sc 0 v9] ?_
 exact ⟨(f6, (w64 (x4 + 1)), v22), h, Nat.lt_succ_self _, qt (it (st' := ⟨67, [(0, A a0), (5, rf 0 1 1 v22), (19, A a1), (20, I (a1.length : Int)), (21, I (w64 (x4 + 1)))], [sl 1 v22, sc 0 v9]⟩) [0, 5, 19, 20, 21]) (qt (Imp.truncS (st' := ⟨67, [(0, A a0), (5, rf 0 1 1 v22), (19, A a1), (20, I (a1.length : Int)), (21, I (w64 (x4 + 1)))], [sl 1 v22]⟩) 1 (nx hX) (by kernel_rfl) (allBelow_mem (by exact (And.intro rfl (And.intro rfl (And.intro rfl (And.intro rfl (And.intro rfl trivial))))))) (by exact (And.intro (frz_below (eL_frz _)) trivial)) (by kernel_rfl)) (Imp.reverS 0 1 (eL v22) [0, 5, 19, 20, 21] (by kernel_rfl) (by exact (And.intro (eL_frz _) trivial)) (by kernel_rfl)))⟩
 refine pwp_exit ?_
 refine pwp_seq ?_
 refine srveM [7] 67 [(5, rf 0 0 1 x5), (63, B (!((x5.length : Int) == 1)))] [sl 0 x5] ?_
 refine pc h (fun h => ?_) (fun h => ?_)
 refine srveM [7] 67 [(4, I (-1))] [sl 0 x5] ?_
 cases h
 exact pwp_ret rz
 refine pwp_skip ?_
 refine srvM [7] 1 67 [(64, rf 0 0 1 x5)] [sl 0 x5] ?_
 obtain ⟨v28, hv29, h⟩ := bindS h
 refine opsP_idr τ_ok 65 0 0 x5.length hv29 rfl (by kernel_rfl) ?_
 refine opsP_lde (r := I v28) τ_ok 66 3 0 hv29 (by kernel_rfl) (by kernel_rfl) ?_
 refine veM [7] 1 67 [(4, I v28)] [sl 0 x5] ?_
 cases h
 exact pwp_ret rz
def impl_RowsOk_1 (a0 : List T_impl_Value) (b0 : List T_impl_Column) : Option Bool := (impl_RowFits b0 a0).bind fun v1 => some (!v1)
theorem ok_impl_RowsOk_1 {a0 : List T_impl_Value} {b0 : List T_impl_Column} {y : Bool} (h : impl_RowsOk_1 a0 b0 = some y) : OK Tryz.prog 74 [A a0, pf b0 0] (B y) := by
 refine ow Tryz.func74 fun Γ hX => ?_
 unfold impl_RowsOk_1 at h
 refine srve 8 [(0, A a0), (1, pf b0 0)] [] ?_
 refine srv 2 8 [(4, A b0), (5, A a0)] [] ?_
 obtain ⟨v1, hv2, h⟩ := bindS h
 refine cF 6 (ok_impl_RowFits hv2) ?_
 refine ve 2 8 [(3, B (!v1))] [] ?_
 cases h
 exact pwp_ret rz
def spec_l4Value_l0 (a0 : List T_impl_Value) (a1 : List T_impl_Part) : Nat → Int → (List T_impl_Value) → Option T_impl_Value
 | 0, _, _ => none
 | f5 + 1, x3, x4 => bif (decide (x3 < (a1.length : Int))) then (getI a1 x3).bind fun v8 => (spec_l4Do a0 x4 v8).bind fun v10 => (spec_l4Value_l0 a0 a1 f5) (w64 (x3 + 1)) v10 else (getI x4 (0 : Int)).bind fun v12 => some v12
def spec_l4Value (a0 : List T_impl_Value) (a1 : List T_impl_Part) : Option T_impl_Value := spec_l4Value_l0 a0 a1 FUEL 0 ([] : List T_impl_Value)
theorem ok_spec_l4Value {a0 : List T_impl_Value} {a1 : List T_impl_Part} {y : T_impl_Value} (h : spec_l4Value a0 a1 = some y) : OK Tryz.prog 103 [A a0, A a1] (E y) := by
 refine ow Tryz.func103 fun Γ hX => ?_
 unfold spec_l4Value at h
 refine srveM [4] 24 [(0, A a0), (1, A a1), (4, .ptr 0 0 0)] [some ⟨0, Enc.cells (T_impl_Value.mk 0 0 (ByteArray.mk #[]))⟩] ?_
 refine srveM [4] 24 [(0, A a0), (1, A a1), (4, .ptr 0 0 0), (5, .arr 3 0 (eL ([] : List T_impl_Value)) true)] [some ⟨0, Enc.cells (T_impl_Value.mk 0 0 (ByteArray.mk #[]))⟩] ?_
 refine pwp_seq ?_
 refine srveM [4] 24 [(0, A a0), (1, A a1), (4, .ptr 0 0 0), (5, .arr 3 0 (eL ([] : List T_impl_Value)) true), (6, I 0)] [some ⟨0, Enc.cells (T_impl_Value.mk 0 0 (ByteArray.mk #[]))⟩] ?_
 refine pwp_block ?_
 refine pwp_loop (ι := Nat × Int × (List T_impl_Value)) (fun (f5, x3, x4) => (⟨24, [(0, A a0), (1, A a1), (4, .ptr 0 0 0), (5, rf 1 0 3 x4), (6, I x3)], [some ⟨0, Enc.cells (T_impl_Value.mk 0 0 (ByteArray.mk #[]))⟩, sl 0 x4]⟩ : St)) (fun (f5, x3, x4) => spec_l4Value_l0 a0 a1 f5 x3 x4 = some y) Prod.fst (FUEL, 0, ([] : List T_impl_Value)) h (Imp.thawS 5 [0, 1, 4, 5, 6] (by kernel_rfl)) ?_
 rintro ⟨f5, x3, x4⟩ h
 dsimp only at h ⊢
 rcases f5 with _ | f5
 cases h
 rw [spec_l4Value_l0] at h
 refine pwp_seq ?_
 refine srveM [4] 24 [(0, A a0), (1, A a1), (4, .ptr 0 0 0), (5, rf 1 0 3 x4), (6, I x3), (11, B (decide (x3 < (a1.length : Int))))] [some ⟨0, Enc.cells (T_impl_Value.mk 0 0 (ByteArray.mk #[]))⟩, sl 0 x4] ?_
 refine pc h (fun h => ?_) (fun h => ?_)
 refine pwp_skip ?_
 refine pwp_seq ?_
 refine pwp_block ?_
 refine rvM [4] 4 24 [(0, A a0), (1, A a1), (4, .ptr 0 0 0), (6, I x3), (14, A a0), (15, rf 1 0 3 x4), (16, A a1), (17, I x3)] [some ⟨0, Enc.cells (T_impl_Value.mk 0 0 (ByteArray.mk #[]))⟩, sl 0 x4] ?_
 obtain ⟨v8, hv9, h⟩ := bindS h
 refine opsP_idx τ_ok 18 hv9 (by kernel_rfl) ?_
 refine vM [4] 1 24 [(0, A a0), (1, A a1), (4, .ptr 0 0 0), (6, I x3), (14, A a0), (15, rf 1 0 3 x4), (19, E v8)] [some ⟨0, Enc.cells (T_impl_Value.mk 0 0 (ByteArray.mk #[]))⟩, sl 0 x4] ?_
 obtain ⟨v10, hv11, h⟩ := bindS h
 refine opsP_callM (xs := [A a0, rf 1 0 3 x4, E v8]) (x := rf 2 0 3 v10) (bs := [⟨0, eL v10⟩]) τ 20 [1] (nx hX) (ok_spec_l4Do hv11) (by kernel_rfl) (OutL.cons (OutP.frz rfl) (OutL.cons (OutP.list (v := 0) (by kernel_rfl)) (OutL.cons (OutP.frz rfl) (OutL.nil _)))) (by decide) (by kernel_rfl) ?_
 refine veM [4] 1 24 [(0, A a0), (1, A a1), (4, .ptr 0 0 0), (5, rf 2 0 3 v10), (6, I x3)] [some ⟨0, Enc.cells (T_impl_Value.mk 0 0 (ByteArray.mk #[]))⟩, none, sl 0 v10] ?_
 refine rveM [4] 24 [(0, A a0), (1, A a1), (4, .ptr 0 0 0), (5, rf 2 0 3 v10), (6, I (w64 (x3 + 1)))] [some ⟨0, Enc.cells (T_impl_Value.mk 0 0 (ByteArray.mk #[]))⟩, none, sl 0 v10] ?_
 exact ⟨(f5, (w64 (x3 + 1)), v10), h, Nat.lt_succ_self _, qt (it (st' := ⟨24, [(0, A a0), (1, A a1), (4, .ptr 0 0 0), (5, rf 2 0 3 v10), (6, I (w64 (x3 + 1)))], [some ⟨0, Enc.cells (T_impl_Value.mk 0 0 (ByteArray.mk #[]))⟩, none, sl 0 v10]⟩) [0, 1, 4, 5, 6]) (qt (Imp.mvS (st' := ⟨24, [(0, A a0), (1, A a1), (4, .ptr 0 0 0), (5, rf 1 0 3 v10), (6, I (w64 (x3 + 1)))], [some ⟨0, Enc.cells (T_impl_Value.mk 0 0 (ByteArray.mk #[]))⟩, sl 0 v10, none]⟩) 2 1 [0, 1, 4, 5, 6] (nx hX) (v := 0) (cs := eL v10) (by kernel_rfl) (by kernel_rfl) (by exact (And.intro (rfl) (And.intro (eL_frz _) trivial))) (by kernel_rfl) (by kernel_rfl)) (Imp.truncS 2 (nx hX) (by kernel_rfl) (allBelow_mem (by exact (And.intro rfl (And.intro rfl (And.intro rfl (And.intro rfl (And.intro rfl trivial))))))) (by exact (And.intro (rfl) (And.intro (frz_below (eL_frz _)) trivial))) (by kernel_rfl)))⟩
 refine pwp_exit ?_
 refine srvM [4] 1 24 [(4, .ptr 0 0 0), (21, rf 1 0 3 x4)] [some ⟨0, Enc.cells (T_impl_Value.mk 0 0 (ByteArray.mk #[]))⟩, sl 0 x4] ?_
 obtain ⟨v12, hv13, h⟩ := bindS h
 refine opsP_idr τ_ok 22 1 0 x4.length hv13 rfl (by kernel_rfl) ?_
 refine opsP_lde (r := E v12) τ_ok 23 90 0 hv13 (by kernel_rfl) (by kernel_rfl) ?_
 refine veM [4] 1 24 [(4, .ptr 0 0 0)] [sc 0 v12, sl 0 x4] ?_
 cases h
 exact pwp_ret rz
def impl_Part_value_j0 (v6 : T_impl_Value) (v8 : T_impl_Value) (x10 : Bool) : Option T_impl_Value := bif x10 then some (T_impl_Value.mk 0 0 (ByteArray.mk #[])) else some (T_impl_Value.mk 1 (w64 (v6.fN + v8.fN)) (ByteArray.mk #[]))
def impl_Part_value (a0 : T_impl_Part) (a1 : List T_impl_Value) (a2 : List T_impl_Value) : Option T_impl_Value := bif (a0.fKind == 1) then some a0.fV else bif (a0.fKind == 2) then (getI a1 a0.fN).bind fun v3 => some v3 else bif (a0.fKind == 3) then (getI a2 0).bind fun v6 => (getI a2 1).bind fun v8 => (getI a2 0).bind fun v12 => bif (v12.fKind == 0) then impl_Part_value_j0 v6 v8 true else (getI a2 1).bind fun v14 => bif (v14.fKind == 0) then impl_Part_value_j0 v6 v8 true else (impl_Value_ok (T_impl_Value.mk 1 (w64 (v6.fN + v8.fN)) (ByteArray.mk #[]))).bind fun v16 => impl_Part_value_j0 v6 v8 (!v16) else bif (a0.fKind == 4) then (getI a2 0).bind fun v21 => (getI a2 1).bind fun v23 => (impl_Compare a0.fN v21 v23).bind fun v25 => (impl_ValueOf v25).bind fun v27 => some v27 else bif (a0.fKind == 5) then (getI a2 0).bind fun v30 => (impl_TruthOf v30).bind fun v32 => (getI a2 1).bind fun v34 => (impl_TruthOf v34).bind fun v36 => (impl_AndOf v32 v36).bind fun v38 => (impl_ValueOf v38).bind fun v40 => some v40 else bif (a0.fKind == 6) then (getI a2 0).bind fun v43 => (impl_TruthOf v43).bind fun v45 => (getI a2 1).bind fun v47 => (impl_TruthOf v47).bind fun v49 => (impl_OrOf v45 v49).bind fun v51 => (impl_ValueOf v51).bind fun v53 => some v53 else bif (a0.fKind == 7) then (getI a2 0).bind fun v56 => (impl_TruthOf v56).bind fun v58 => (impl_NotOf v58).bind fun v60 => (impl_ValueOf v60).bind fun v62 => some v62 else (getI a2 0).bind fun v64 => (impl_truthIf (v64.fKind == 0)).bind fun v66 => (impl_ValueOf v66).bind fun v68 => some v68
theorem ok_impl_Part_value {a0 : T_impl_Part} {a1 : List T_impl_Value} {a2 : List T_impl_Value} {y : T_impl_Value} (h : impl_Part_value a0 a1 a2 = some y) : OK Tryz.prog 147 [E a0, A a1, A a2] (E y) := by
 refine ow Tryz.func147 fun Γ hX => ?_
 unfold impl_Part_value at h
 refine srveM [6, 7] 103 [(1, A a1), (2, A a2), (3, pf a0 0), (6, .ptr 0 0 0)] [some ⟨0, Enc.cells (T_impl_Value.mk 0 0 (ByteArray.mk #[]))⟩] ?_
 refine pwp_seq ?_
 refine srveM [6, 7] 103 [(1, A a1), (2, A a2), (3, pf a0 0), (6, .ptr 0 0 0), (9, I a0.fKind)] [some ⟨0, Enc.cells (T_impl_Value.mk 0 0 (ByteArray.mk #[]))⟩] ?_
 refine pwp_block ?_
 refine srveM [6, 7] 103 [(1, A a1), (2, A a2), (3, pf a0 0), (6, .ptr 0 0 0), (9, I a0.fKind), (10, B (a0.fKind == 1))] [some ⟨0, Enc.cells (T_impl_Value.mk 0 0 (ByteArray.mk #[]))⟩] ?_
 refine pc h (fun h => ?_) (fun h => ?_)
 refine srveM [6, 7] 103 [(6, .ptr 0 0 0)] [sc 0 a0.fV] ?_
 cases h
 exact pwp_ret rz
 refine srveM [6, 7] 103 [(1, A a1), (2, A a2), (3, pf a0 0), (6, .ptr 0 0 0), (9, I a0.fKind), (14, B (a0.fKind == 2))] [some ⟨0, Enc.cells (T_impl_Value.mk 0 0 (ByteArray.mk #[]))⟩] ?_
 refine pc h (fun h => ?_) (fun h => ?_)
 refine srvM [6, 7] 3 103 [(6, .ptr 0 0 0), (16, A a1), (18, I a0.fN)] [some ⟨0, Enc.cells (T_impl_Value.mk 0 0 (ByteArray.mk #[]))⟩] ?_
 obtain ⟨v3, hv4, h⟩ := bindS h
 refine opsP_idx τ_ok 19 hv4 (by kernel_rfl) ?_
 refine veM [6, 7] 2 103 [(6, .ptr 0 0 0)] [sc 0 v3] ?_
 cases h
 exact pwp_ret rz
 refine srveM [6, 7] 103 [(2, A a2), (3, pf a0 0), (6, .ptr 0 0 0), (9, I a0.fKind), (21, B (a0.fKind == 3))] [some ⟨0, Enc.cells (T_impl_Value.mk 0 0 (ByteArray.mk #[]))⟩] ?_
 refine pc h (fun h => ?_) (fun h => ?_)
 refine pwp_seq ?_
 refine ip 103 [(2, A a2), (6, .ptr 0 0 0)] [some ⟨0, Enc.cells (T_impl_Value.mk 0 0 (ByteArray.mk #[]))⟩] ?_
 refine pwp_imp (Imp.ghosts 1 (st' := ⟨103, [(2, A a2), (6, .ptr 0 0 0)], [some ⟨0, Enc.cells (T_impl_Value.mk 0 0 (ByteArray.mk #[]))⟩, some ⟨0, []⟩]⟩) (by kernel_rfl)) ?_
 refine pwp_any ([[], [], [], [], [], [], [], [], [], [], [1], [1]]) ([[], [], [], [], [], [], [], [], [], [], [1], [1]]) rfl (by kernel_rfl) ?_
 refine qvM [6, 7] [] trivial 1 103 [(23, A a2), (2, A a2), (6, .ptr 0 0 0)] [some ⟨0, Enc.cells (T_impl_Value.mk 0 0 (ByteArray.mk #[]))⟩, some ⟨0, []⟩] ?_
 obtain ⟨v6, hv7, h⟩ := bindS h
 refine qX (some 24) (pf v6 0) 103 [(24, pf v6 0), (2, A a2), (6, .ptr 0 0 0)] [some ⟨0, Enc.cells (T_impl_Value.mk 0 0 (ByteArray.mk #[]))⟩, some ⟨0, []⟩] (fun Γ' hΓ => CoreE.of_y (idxV_sound τ_ok (by kernel_rfl) hv7)) trivial ?_
 refine qvM [6, 7] [] trivial 3 103 [(27, A a2), (26, I v6.fN), (2, A a2), (6, .ptr 0 0 0)] [some ⟨0, Enc.cells (T_impl_Value.mk 0 0 (ByteArray.mk #[]))⟩, some ⟨0, []⟩] ?_
 obtain ⟨v8, hv9, h⟩ := bindS h
 refine qX (some 28) (pf v8 0) 103 [(28, pf v8 0), (26, I v6.fN), (2, A a2), (6, .ptr 0 0 0)] [some ⟨0, Enc.cells (T_impl_Value.mk 0 0 (ByteArray.mk #[]))⟩, some ⟨0, []⟩] (fun Γ' hΓ => CoreE.of_y (idxV_sound τ_ok (by kernel_rfl) hv9)) trivial ?_
 refine qvM [6, 7] [] trivial 4 103 [(32, E (T_impl_Value.mk 1 (w64 (v6.fN + v8.fN)) (ByteArray.mk #[]))), (2, A a2), (6, .ptr 0 0 0)] [some ⟨0, Enc.cells (T_impl_Value.mk 0 0 (ByteArray.mk #[]))⟩, some ⟨0, []⟩] ?_
 refine qX (Hm' := [none, some ⟨1, Enc.cells (T_impl_Value.mk 0 0 (ByteArray.mk #[]))⟩]) (some 7) (.ptr 1 1 0) 103 [(7, .ptr 1 1 0), (32, E (T_impl_Value.mk 1 (w64 (v6.fN + v8.fN)) (ByteArray.mk #[]))), (2, A a2), (6, .ptr 0 0 0)] [some ⟨0, Enc.cells (T_impl_Value.mk 0 0 (ByteArray.mk #[]))⟩, some ⟨1, Enc.cells (T_impl_Value.mk 0 0 (ByteArray.mk #[]))⟩] (fun Γ' hΓ => alc_E (blk := ⟨0, []⟩) τ_ok [6, 7] 7 1 0 (ny hΓ hX) (by kernel_rfl) (by kernel_rfl)) (hB trivial) ?_
 refine qX (Hm' := [none, some ⟨1, Enc.cells (T_impl_Value.mk 1 (w64 (v6.fN + v8.fN)) (ByteArray.mk #[]))⟩]) none (.any) 103 [(7, .ptr 1 1 0), (2, A a2), (6, .ptr 0 0 0)] [some ⟨0, Enc.cells (T_impl_Value.mk 0 0 (ByteArray.mk #[]))⟩, some ⟨1, Enc.cells (T_impl_Value.mk 1 (w64 (v6.fN + v8.fN)) (ByteArray.mk #[]))⟩] (fun Γ' hΓ => sto_E τ_ok 1 1 (by kernel_rfl)) (hB trivial) ?_
 refine qn 103 [(2, A a2), (6, .ptr 0 0 0), (7, .ptr 1 1 0)] [some ⟨0, Enc.cells (T_impl_Value.mk 0 0 (ByteArray.mk #[]))⟩, some ⟨1, Enc.cells (T_impl_Value.mk 1 (w64 (v6.fN + v8.fN)) (ByteArray.mk #[]))⟩] ?_
 refine pwp_seq ?_
 refine pwp_seq ?_
 refine pwp_join (σ := Bool) (fun x10 => (⟨103, [(6, .ptr 0 0 0), (7, .ptr 1 1 0), (49, B x10)], [some ⟨0, Enc.cells (T_impl_Value.mk 0 0 (ByteArray.mk #[]))⟩, some ⟨1, Enc.cells (T_impl_Value.mk 1 (w64 (v6.fN + v8.fN)) (ByteArray.mk #[]))⟩]⟩ : St)) (fun x10 => impl_Part_value_j0 v6 v8 x10 = some y) ?_ ?_
 refine rvM [6, 7] 1 103 [(2, A a2), (6, .ptr 0 0 0), (7, .ptr 1 1 0), (33, A a2)] [some ⟨0, Enc.cells (T_impl_Value.mk 0 0 (ByteArray.mk #[]))⟩, some ⟨1, Enc.cells (T_impl_Value.mk 1 (w64 (v6.fN + v8.fN)) (ByteArray.mk #[]))⟩] ?_
 obtain ⟨v12, hv13, h⟩ := bindS h
 refine opsP_idx τ_ok 34 hv13 (by kernel_rfl) ?_
 refine vM [6, 7] 4 103 [(2, A a2), (6, .ptr 0 0 0), (7, .ptr 1 1 0), (38, B (v12.fKind == 0))] [some ⟨0, Enc.cells (T_impl_Value.mk 0 0 (ByteArray.mk #[]))⟩, some ⟨1, Enc.cells (T_impl_Value.mk 1 (w64 (v6.fN + v8.fN)) (ByteArray.mk #[]))⟩] ?_
 rcases fk (v12.fKind == 0) with hc19 | hc19
 replace h := bT hc19 h
 rw [hc19]
 refine veM [6, 7] 11 103 [(6, .ptr 0 0 0), (7, .ptr 1 1 0), (49, B true)] [some ⟨0, Enc.cells (T_impl_Value.mk 0 0 (ByteArray.mk #[]))⟩, some ⟨1, Enc.cells (T_impl_Value.mk 1 (w64 (v6.fN + v8.fN)) (ByteArray.mk #[]))⟩] ?_
 exact ⟨true, h, it [6, 7, 49]⟩
 replace h := bF hc19 h
 rw [hc19]
 refine vM [6, 7] 1 103 [(6, .ptr 0 0 0), (7, .ptr 1 1 0), (38, B false), (39, A a2)] [some ⟨0, Enc.cells (T_impl_Value.mk 0 0 (ByteArray.mk #[]))⟩, some ⟨1, Enc.cells (T_impl_Value.mk 1 (w64 (v6.fN + v8.fN)) (ByteArray.mk #[]))⟩] ?_
 obtain ⟨v14, hv15, h⟩ := bindS h
 refine opsP_idx τ_ok 40 hv15 (by kernel_rfl) ?_
 refine vM [6, 7] 5 103 [(6, .ptr 0 0 0), (7, .ptr 1 1 0), (45, B (v14.fKind == 0))] [some ⟨0, Enc.cells (T_impl_Value.mk 0 0 (ByteArray.mk #[]))⟩, some ⟨1, Enc.cells (T_impl_Value.mk 1 (w64 (v6.fN + v8.fN)) (ByteArray.mk #[]))⟩] ?_
 rcases fk (v14.fKind == 0) with hc18 | hc18
 replace h := bT hc18 h
 rw [hc18]
 refine veM [6, 7] 4 103 [(6, .ptr 0 0 0), (7, .ptr 1 1 0), (49, B true)] [some ⟨0, Enc.cells (T_impl_Value.mk 0 0 (ByteArray.mk #[]))⟩, some ⟨1, Enc.cells (T_impl_Value.mk 1 (w64 (v6.fN + v8.fN)) (ByteArray.mk #[]))⟩] ?_
 exact ⟨true, h, it [6, 7, 49]⟩
 replace h := bF hc18 h
 rw [hc18]
 refine vM [6, 7] 1 103 [(6, .ptr 0 0 0), (7, .ptr 1 1 0), (45, B false), (46, E (T_impl_Value.mk 1 (w64 (v6.fN + v8.fN)) (ByteArray.mk #[])))] [some ⟨0, Enc.cells (T_impl_Value.mk 0 0 (ByteArray.mk #[]))⟩, some ⟨1, Enc.cells (T_impl_Value.mk 1 (w64 (v6.fN + v8.fN)) (ByteArray.mk #[]))⟩] ?_
 obtain ⟨v16, hv17, h⟩ := bindS h
 refine cF 47 (ok_impl_Value_ok hv17) ?_
 refine veM [6, 7] 2 103 [(6, .ptr 0 0 0), (7, .ptr 1 1 0), (49, B (!v16))] [some ⟨0, Enc.cells (T_impl_Value.mk 0 0 (ByteArray.mk #[]))⟩, some ⟨1, Enc.cells (T_impl_Value.mk 1 (w64 (v6.fN + v8.fN)) (ByteArray.mk #[]))⟩] ?_
 exact ⟨(!v16), h, it [6, 7, 49]⟩
 rintro x10 h
 unfold impl_Part_value_j0 at h
 refine pc h (fun h => ?_) (fun h => ?_)
 refine srveM [6, 7] 103 [(6, .ptr 0 0 0)] [some ⟨0, Enc.cells (T_impl_Value.mk 0 0 (ByteArray.mk #[]))⟩, some ⟨1, Enc.cells (T_impl_Value.mk 1 (w64 (v6.fN + v8.fN)) (ByteArray.mk #[]))⟩] ?_
 cases h
 exact pwp_ret rz
 refine pwp_skip ?_
 refine srveM [6, 7] 103 [(6, .ptr 0 0 0)] [some ⟨0, Enc.cells (T_impl_Value.mk 1 (w64 (v6.fN + v8.fN)) (ByteArray.mk #[]))⟩, some ⟨1, Enc.cells (T_impl_Value.mk 1 (w64 (v6.fN + v8.fN)) (ByteArray.mk #[]))⟩] ?_
 cases h
 exact pwp_ret rz
 refine srveM [6, 7] 103 [(2, A a2), (3, pf a0 0), (6, .ptr 0 0 0), (9, I a0.fKind), (52, B (a0.fKind == 4))] [some ⟨0, Enc.cells (T_impl_Value.mk 0 0 (ByteArray.mk #[]))⟩] ?_
 refine pc h (fun h => ?_) (fun h => ?_)
 refine pwp_seq ?_
 refine ip 103 [(2, A a2), (3, pf a0 0), (6, .ptr 0 0 0)] [some ⟨0, Enc.cells (T_impl_Value.mk 0 0 (ByteArray.mk #[]))⟩] ?_
 refine pwp_any ([[], [], [], [], [], [], [], [], [], [], [0]]) ([[], [], [], [], [], [], [], [], [], [], [0]]) rfl (by kernel_rfl) ?_
 refine qvM [6, 7] [] trivial 3 103 [(56, A a2), (55, I a0.fN), (2, A a2), (6, .ptr 0 0 0)] [some ⟨0, Enc.cells (T_impl_Value.mk 0 0 (ByteArray.mk #[]))⟩] ?_
 obtain ⟨v21, hv22, h⟩ := bindS h
 refine qX (some 57) (pf v21 0) 103 [(57, pf v21 0), (55, I a0.fN), (2, A a2), (6, .ptr 0 0 0)] [some ⟨0, Enc.cells (T_impl_Value.mk 0 0 (ByteArray.mk #[]))⟩] (fun Γ' hΓ => CoreE.of_y (idxV_sound τ_ok (by kernel_rfl) hv22)) trivial ?_
 refine qvM [6, 7] [] trivial 2 103 [(59, A a2), (58, E v21), (55, I a0.fN), (6, .ptr 0 0 0)] [some ⟨0, Enc.cells (T_impl_Value.mk 0 0 (ByteArray.mk #[]))⟩] ?_
 obtain ⟨v23, hv24, h⟩ := bindS h
 refine qX (some 60) (pf v23 0) 103 [(60, pf v23 0), (58, E v21), (55, I a0.fN), (6, .ptr 0 0 0)] [some ⟨0, Enc.cells (T_impl_Value.mk 0 0 (ByteArray.mk #[]))⟩] (fun Γ' hΓ => CoreE.of_y (idxV_sound τ_ok (by kernel_rfl) hv24)) trivial ?_
 refine qvM [6, 7] [] trivial 1 103 [(61, E v23), (58, E v21), (55, I a0.fN), (6, .ptr 0 0 0)] [some ⟨0, Enc.cells (T_impl_Value.mk 0 0 (ByteArray.mk #[]))⟩] ?_
 obtain ⟨v25, hv26, h⟩ := bindS h
 refine qX (some 62) (I v25) 103 [(62, I v25), (6, .ptr 0 0 0)] [some ⟨0, Enc.cells (T_impl_Value.mk 0 0 (ByteArray.mk #[]))⟩] (fun Γ' hΓ => CoreE.of_g (callV_sound (τ := τ) (by kernel_rfl) rfl (ok_impl_Compare hv26) (FzTo.frz rfl))) trivial ?_
 obtain ⟨v27, hv28, h⟩ := bindS h
 refine qX (some 63) (E v27) 103 [(63, E v27), (6, .ptr 0 0 0)] [some ⟨0, Enc.cells (T_impl_Value.mk 0 0 (ByteArray.mk #[]))⟩] (fun Γ' hΓ => CoreE.of_g (callV_sound (τ := τ) (by kernel_rfl) rfl (ok_impl_ValueOf hv28) (FzTo.frz rfl))) trivial ?_
 refine qX (Hm' := [sc 0 v27]) none (.any) 103 [(6, .ptr 0 0 0)] [sc 0 v27] (fun Γ' hΓ => sto_E τ_ok 0 0 (by kernel_rfl)) (hB trivial) ?_
 refine qn 103 [(6, .ptr 0 0 0)] [sc 0 v27] ?_
 cases h
 exact pwp_ret rz
 refine srveM [6, 7] 103 [(2, A a2), (6, .ptr 0 0 0), (9, I a0.fKind), (64, B (a0.fKind == 5))] [some ⟨0, Enc.cells (T_impl_Value.mk 0 0 (ByteArray.mk #[]))⟩] ?_
 refine pc h (fun h => ?_) (fun h => ?_)
 refine pwp_seq ?_
 refine ip 103 [(2, A a2), (6, .ptr 0 0 0)] [some ⟨0, Enc.cells (T_impl_Value.mk 0 0 (ByteArray.mk #[]))⟩] ?_
 refine pwp_any ([[], [], [], [], [], [], [], [], [], [], [0]]) ([[], [], [], [], [], [], [], [], [], [], [0]]) rfl (by kernel_rfl) ?_
 refine qvM [6, 7] [] trivial 1 103 [(66, A a2), (2, A a2), (6, .ptr 0 0 0)] [some ⟨0, Enc.cells (T_impl_Value.mk 0 0 (ByteArray.mk #[]))⟩] ?_
 obtain ⟨v30, hv31, h⟩ := bindS h
 refine qX (some 67) (pf v30 0) 103 [(67, pf v30 0), (2, A a2), (6, .ptr 0 0 0)] [some ⟨0, Enc.cells (T_impl_Value.mk 0 0 (ByteArray.mk #[]))⟩] (fun Γ' hΓ => CoreE.of_y (idxV_sound τ_ok (by kernel_rfl) hv31)) trivial ?_
 refine qvM [6, 7] [] trivial 1 103 [(68, E v30), (2, A a2), (6, .ptr 0 0 0)] [some ⟨0, Enc.cells (T_impl_Value.mk 0 0 (ByteArray.mk #[]))⟩] ?_
 obtain ⟨v32, hv33, h⟩ := bindS h
 refine qX (some 69) (I v32) 103 [(69, I v32), (2, A a2), (6, .ptr 0 0 0)] [some ⟨0, Enc.cells (T_impl_Value.mk 0 0 (ByteArray.mk #[]))⟩] (fun Γ' hΓ => CoreE.of_g (callV_sound (τ := τ) (by kernel_rfl) rfl (ok_impl_TruthOf hv33) (FzTo.frz rfl))) trivial ?_
 refine qvM [6, 7] [] trivial 1 103 [(70, A a2), (69, I v32), (6, .ptr 0 0 0)] [some ⟨0, Enc.cells (T_impl_Value.mk 0 0 (ByteArray.mk #[]))⟩] ?_
 obtain ⟨v34, hv35, h⟩ := bindS h
 refine qX (some 71) (pf v34 0) 103 [(71, pf v34 0), (69, I v32), (6, .ptr 0 0 0)] [some ⟨0, Enc.cells (T_impl_Value.mk 0 0 (ByteArray.mk #[]))⟩] (fun Γ' hΓ => CoreE.of_y (idxV_sound τ_ok (by kernel_rfl) hv35)) trivial ?_
 refine qvM [6, 7] [] trivial 1 103 [(72, E v34), (69, I v32), (6, .ptr 0 0 0)] [some ⟨0, Enc.cells (T_impl_Value.mk 0 0 (ByteArray.mk #[]))⟩] ?_
 obtain ⟨v36, hv37, h⟩ := bindS h
 refine qX (some 73) (I v36) 103 [(73, I v36), (69, I v32), (6, .ptr 0 0 0)] [some ⟨0, Enc.cells (T_impl_Value.mk 0 0 (ByteArray.mk #[]))⟩] (fun Γ' hΓ => CoreE.of_g (callV_sound (τ := τ) (by kernel_rfl) rfl (ok_impl_TruthOf hv37) (FzTo.frz rfl))) trivial ?_
 obtain ⟨v38, hv39, h⟩ := bindS h
 refine qX (some 74) (I v38) 103 [(74, I v38), (6, .ptr 0 0 0)] [some ⟨0, Enc.cells (T_impl_Value.mk 0 0 (ByteArray.mk #[]))⟩] (fun Γ' hΓ => CoreE.of_g (callV_sound (τ := τ) (by kernel_rfl) rfl (ok_impl_AndOf hv39) (FzTo.frz rfl))) trivial ?_
 obtain ⟨v40, hv41, h⟩ := bindS h
 refine qX (some 75) (E v40) 103 [(75, E v40), (6, .ptr 0 0 0)] [some ⟨0, Enc.cells (T_impl_Value.mk 0 0 (ByteArray.mk #[]))⟩] (fun Γ' hΓ => CoreE.of_g (callV_sound (τ := τ) (by kernel_rfl) rfl (ok_impl_ValueOf hv41) (FzTo.frz rfl))) trivial ?_
 refine qX (Hm' := [sc 0 v40]) none (.any) 103 [(6, .ptr 0 0 0)] [sc 0 v40] (fun Γ' hΓ => sto_E τ_ok 0 0 (by kernel_rfl)) (hB trivial) ?_
 refine qn 103 [(6, .ptr 0 0 0)] [sc 0 v40] ?_
 cases h
 exact pwp_ret rz
 refine srveM [6, 7] 103 [(2, A a2), (6, .ptr 0 0 0), (9, I a0.fKind), (76, B (a0.fKind == 6))] [some ⟨0, Enc.cells (T_impl_Value.mk 0 0 (ByteArray.mk #[]))⟩] ?_
 refine pc h (fun h => ?_) (fun h => ?_)
 refine pwp_seq ?_
 refine ip 103 [(2, A a2), (6, .ptr 0 0 0)] [some ⟨0, Enc.cells (T_impl_Value.mk 0 0 (ByteArray.mk #[]))⟩] ?_
 refine pwp_any ([[], [], [], [], [], [], [], [], [], [], [0]]) ([[], [], [], [], [], [], [], [], [], [], [0]]) rfl (by kernel_rfl) ?_
 refine qvM [6, 7] [] trivial 1 103 [(78, A a2), (2, A a2), (6, .ptr 0 0 0)] [some ⟨0, Enc.cells (T_impl_Value.mk 0 0 (ByteArray.mk #[]))⟩] ?_
 obtain ⟨v43, hv44, h⟩ := bindS h
 refine qX (some 79) (pf v43 0) 103 [(79, pf v43 0), (2, A a2), (6, .ptr 0 0 0)] [some ⟨0, Enc.cells (T_impl_Value.mk 0 0 (ByteArray.mk #[]))⟩] (fun Γ' hΓ => CoreE.of_y (idxV_sound τ_ok (by kernel_rfl) hv44)) trivial ?_
 refine qvM [6, 7] [] trivial 1 103 [(80, E v43), (2, A a2), (6, .ptr 0 0 0)] [some ⟨0, Enc.cells (T_impl_Value.mk 0 0 (ByteArray.mk #[]))⟩] ?_
 obtain ⟨v45, hv46, h⟩ := bindS h
 refine qX (some 81) (I v45) 103 [(81, I v45), (2, A a2), (6, .ptr 0 0 0)] [some ⟨0, Enc.cells (T_impl_Value.mk 0 0 (ByteArray.mk #[]))⟩] (fun Γ' hΓ => CoreE.of_g (callV_sound (τ := τ) (by kernel_rfl) rfl (ok_impl_TruthOf hv46) (FzTo.frz rfl))) trivial ?_
 refine qvM [6, 7] [] trivial 1 103 [(82, A a2), (81, I v45), (6, .ptr 0 0 0)] [some ⟨0, Enc.cells (T_impl_Value.mk 0 0 (ByteArray.mk #[]))⟩] ?_
 obtain ⟨v47, hv48, h⟩ := bindS h
 refine qX (some 83) (pf v47 0) 103 [(83, pf v47 0), (81, I v45), (6, .ptr 0 0 0)] [some ⟨0, Enc.cells (T_impl_Value.mk 0 0 (ByteArray.mk #[]))⟩] (fun Γ' hΓ => CoreE.of_y (idxV_sound τ_ok (by kernel_rfl) hv48)) trivial ?_
 refine qvM [6, 7] [] trivial 1 103 [(84, E v47), (81, I v45), (6, .ptr 0 0 0)] [some ⟨0, Enc.cells (T_impl_Value.mk 0 0 (ByteArray.mk #[]))⟩] ?_
 obtain ⟨v49, hv50, h⟩ := bindS h
 refine qX (some 85) (I v49) 103 [(85, I v49), (81, I v45), (6, .ptr 0 0 0)] [some ⟨0, Enc.cells (T_impl_Value.mk 0 0 (ByteArray.mk #[]))⟩] (fun Γ' hΓ => CoreE.of_g (callV_sound (τ := τ) (by kernel_rfl) rfl (ok_impl_TruthOf hv50) (FzTo.frz rfl))) trivial ?_
 obtain ⟨v51, hv52, h⟩ := bindS h
 refine qX (some 86) (I v51) 103 [(86, I v51), (6, .ptr 0 0 0)] [some ⟨0, Enc.cells (T_impl_Value.mk 0 0 (ByteArray.mk #[]))⟩] (fun Γ' hΓ => CoreE.of_g (callV_sound (τ := τ) (by kernel_rfl) rfl (ok_impl_OrOf hv52) (FzTo.frz rfl))) trivial ?_
 obtain ⟨v53, hv54, h⟩ := bindS h
 refine qX (some 87) (E v53) 103 [(87, E v53), (6, .ptr 0 0 0)] [some ⟨0, Enc.cells (T_impl_Value.mk 0 0 (ByteArray.mk #[]))⟩] (fun Γ' hΓ => CoreE.of_g (callV_sound (τ := τ) (by kernel_rfl) rfl (ok_impl_ValueOf hv54) (FzTo.frz rfl))) trivial ?_
 refine qX (Hm' := [sc 0 v53]) none (.any) 103 [(6, .ptr 0 0 0)] [sc 0 v53] (fun Γ' hΓ => sto_E τ_ok 0 0 (by kernel_rfl)) (hB trivial) ?_
 refine qn 103 [(6, .ptr 0 0 0)] [sc 0 v53] ?_
 cases h
 exact pwp_ret rz
 refine srveM [6, 7] 103 [(2, A a2), (6, .ptr 0 0 0), (88, B (a0.fKind == 7))] [some ⟨0, Enc.cells (T_impl_Value.mk 0 0 (ByteArray.mk #[]))⟩] ?_
 refine pc h (fun h => ?_) (fun h => ?_)
 refine srvM [6, 7] 1 103 [(6, .ptr 0 0 0), (90, A a2)] [some ⟨0, Enc.cells (T_impl_Value.mk 0 0 (ByteArray.mk #[]))⟩] ?_
 obtain ⟨v56, hv57, h⟩ := bindS h
 refine opsP_idx τ_ok 91 hv57 (by kernel_rfl) ?_
 refine vM [6, 7] 1 103 [(6, .ptr 0 0 0), (92, E v56)] [some ⟨0, Enc.cells (T_impl_Value.mk 0 0 (ByteArray.mk #[]))⟩] ?_
 obtain ⟨v58, hv59, h⟩ := bindS h
 refine cF 93 (ok_impl_TruthOf hv59) ?_
 obtain ⟨v60, hv61, h⟩ := bindS h
 refine cF 94 (ok_impl_NotOf hv61) ?_
 obtain ⟨v62, hv63, h⟩ := bindS h
 refine cF 95 (ok_impl_ValueOf hv63) ?_
 refine veM [6, 7] 1 103 [(6, .ptr 0 0 0)] [sc 0 v62] ?_
 cases h
 exact pwp_ret rz
 refine pwp_skip ?_
 refine srvM [6, 7] 1 103 [(6, .ptr 0 0 0), (96, A a2)] [some ⟨0, Enc.cells (T_impl_Value.mk 0 0 (ByteArray.mk #[]))⟩] ?_
 obtain ⟨v64, hv65, h⟩ := bindS h
 refine opsP_idx τ_ok 97 hv65 (by kernel_rfl) ?_
 refine vM [6, 7] 3 103 [(6, .ptr 0 0 0), (100, B (v64.fKind == 0))] [some ⟨0, Enc.cells (T_impl_Value.mk 0 0 (ByteArray.mk #[]))⟩] ?_
 obtain ⟨v66, hv67, h⟩ := bindS h
 refine cF 101 (ok_impl_truthIf hv67) ?_
 obtain ⟨v68, hv69, h⟩ := bindS h
 refine cF 102 (ok_impl_ValueOf hv69) ?_
 refine veM [6, 7] 1 103 [(6, .ptr 0 0 0)] [sc 0 v68] ?_
 cases h
 exact pwp_ret rz
def impl_tablesCopy_R_l0 (a0 : List T_impl_Table) : Nat → Int → (List T_impl_Table) → Option (List T_impl_Table)
 | 0, _, _ => none
 | f4 + 1, x2, x3 => bif (decide (x2 < (a0.length : Int))) then (getI a0 x2).bind fun v7 => (impl_tableCopy v7).bind fun v9 => (app x3 ([v9] : List T_impl_Table)).bind fun v11 => (impl_tablesCopy_R_l0 a0 f4) (w64 (x2 + 1)) v11 else (slices_Clip_impl_Table_impl_Table_R x3).bind fun v13 => some v13
def impl_tablesCopy_R (a0 : List T_impl_Table) : Option (List T_impl_Table) := impl_tablesCopy_R_l0 a0 FUEL 0 ([] : List T_impl_Table)
theorem ok_impl_tablesCopy_R {a0 : List T_impl_Table} {y : List T_impl_Table} (h : impl_tablesCopy_R a0 = some y) : OK Tryz.prog 42 [A a0] (O y) := by
 refine ow Tryz.func42 fun Γ hX => ?_
 unfold impl_tablesCopy_R at h
 refine srveM [5] 20 [(0, A a0)] [] ?_
 refine srveM [5] 20 [(0, A a0), (3, .arr 2 0 (eL ([] : List T_impl_Table)) true)] [] ?_
 refine pwp_seq ?_
 refine srveM [5] 20 [(3, .arr 2 0 (eL ([] : List T_impl_Table)) true), (6, A a0), (7, I (a0.length : Int)), (8, I 0)] [] ?_
 refine pwp_block ?_
 refine pwp_loop (ι := Nat × Int × (List T_impl_Table)) (fun (f4, x2, x3) => (⟨20, [(3, rf 0 0 2 x3), (6, A a0), (7, I (a0.length : Int)), (8, I x2)], [sl 0 x3]⟩ : St)) (fun (f4, x2, x3) => impl_tablesCopy_R_l0 a0 f4 x2 x3 = some y) Prod.fst (FUEL, 0, ([] : List T_impl_Table)) h (Imp.thawS 3 [3, 6, 7, 8] (by kernel_rfl)) ?_
 rintro ⟨f4, x2, x3⟩ h
 dsimp only at h ⊢
 rcases f4 with _ | f4
 cases h
 rw [impl_tablesCopy_R_l0] at h
 refine srveM [5] 20 [(3, rf 0 0 2 x3), (6, A a0), (7, I (a0.length : Int)), (8, I x2), (9, B (decide (x2 < (a0.length : Int))))] [sl 0 x3] ?_
 refine pwp_seq ?_
 refine pc h (fun h => ?_) (fun h => ?_)
 refine pwp_skip ?_
 refine pwp_seq ?_
 refine pwp_block ?_
 refine pwp_seq ?_
 refine pwp_region ?_
 obtain ⟨v7, hv8, h⟩ := bindS h
 refine opsP_idx τ_ok 10 hv8 (by kernel_rfl) ?_
 refine veM [5] 3 20 [(3, rf 0 0 2 x3), (5, .ptr 1 0 0), (6, A a0), (7, I (a0.length : Int)), (8, I x2)] [sl 0 x3, sc 0 v7] ?_
 refine rvM [5] 2 20 [(6, A a0), (7, I (a0.length : Int)), (8, I x2), (12, rf 0 0 2 x3), (13, E v7)] [sl 0 x3, sc 0 v7] ?_
 obtain ⟨v9, hv10, h⟩ := bindS h
 refine cF 14 (ok_impl_tableCopy hv10) ?_
 refine vM [5] 1 20 [(6, A a0), (7, I (a0.length : Int)), (8, I x2), (12, rf 0 0 2 x3), (15, .arr 2 ([v9] : List T_impl_Table).length (eL ([v9] : List T_impl_Table)) true)] [sl 0 x3, sc 0 v7] ?_
 obtain ⟨v11, hv12, h⟩ := bindS h
 refine opsP_app τ_ok 16 0 0 (nx hX) hv12 (by kernel_rfl) ?_
 refine veM [5] 1 20 [(3, rf 0 1 2 v11), (6, A a0), (7, I (a0.length : Int)), (8, I x2)] [sl 1 v11, sc 0 v7] ?_
 refine rveM [5] 20 [(3, rf 0 1 2 v11), (6, A a0), (7, I (a0.length : Int)), (8, I (w64 (x2 + 1)))] [sl 1 v11, sc 0 v7] ?_
 exact ⟨(f4, (w64 (x2 + 1)), v11), h, Nat.lt_succ_self _, qt (it (st' := ⟨20, [(3, rf 0 1 2 v11), (6, A a0), (7, I (a0.length : Int)), (8, I (w64 (x2 + 1)))], [sl 1 v11, sc 0 v7]⟩) [3, 6, 7, 8]) (qt (Imp.truncS (st' := ⟨20, [(3, rf 0 1 2 v11), (6, A a0), (7, I (a0.length : Int)), (8, I (w64 (x2 + 1)))], [sl 1 v11]⟩) 1 (nx hX) (by kernel_rfl) (allBelow_mem (by exact (And.intro rfl (And.intro rfl (And.intro rfl (And.intro rfl trivial)))))) (by exact (And.intro (frz_below (eL_frz _)) trivial)) (by kernel_rfl)) (Imp.reverS 0 1 (eL v11) [3, 6, 7, 8] (by kernel_rfl) (by exact (And.intro (eL_frz _) trivial)) (by kernel_rfl)))⟩
 refine pwp_exit ?_
 refine srvM [5] 1 20 [(18, rf 0 0 2 x3)] [sl 0 x3] ?_
 obtain ⟨v13, hv14, h⟩ := bindS h
 refine opsP_callM (xs := [rf 0 0 2 x3]) (x := rf 1 0 2 v13) (bs := [⟨0, eL v13⟩]) τ 19 [0] (nx hX) (ok_slices_Clip_impl_Table_impl_Table_R hv14) (by kernel_rfl) (OutL.cons (OutP.list (v := 0) (by kernel_rfl)) (OutL.nil _)) (by decide) (by kernel_rfl) ?_
 refine veM [5] 1 20 [(2, rf 1 0 2 v13)] [none, sl 0 v13] ?_
 have h := si h
 subst h
 exact pwp_ret (rt (rf 1 0 2 v13) (OutP.list (v := 0) (by kernel_rfl)))
def impl_RowsOk (a0 : List T_impl_Column) (a1 : List (List T_impl_Value)) : Option Bool := (impl_ColumnsOk a0).bind fun v1 => bif v1 then (slices_ContainsFunc_impl_Value_impl_Value_s3 a1 (fun z0 => impl_RowsOk_1 z0 a0)).bind fun v3 => some (!v3) else some false
theorem ok_impl_RowsOk {a0 : List T_impl_Column} {a1 : List (List T_impl_Value)} {y : Bool} (h : impl_RowsOk a0 a1 = some y) : OK Tryz.prog 28 [A a0, A a1] (B y) := by
 refine ow Tryz.func28 fun Γ hX => ?_
 unfold impl_RowsOk at h
 refine srve 13 [(1, A a1), (2, pf a0 0)] [] ?_
 refine srv 1 13 [(1, A a1), (2, pf a0 0), (5, A a0)] [] ?_
 obtain ⟨v1, hv2, h⟩ := bindS h
 refine cF 6 (ok_impl_ColumnsOk hv2) ?_
 refine v 1 13 [(1, A a1), (2, pf a0 0), (7, B v1)] [] ?_
 rcases Bool.eq_false_or_eq_true v1 with hc5 | hc5
 replace h := bT hc5 h
 rw [hc5]
 refine v 2 13 [(7, B true), (8, A a1), (9, .fn 74 [pf a0 0])] [] ?_
 obtain ⟨v3, hv4, h⟩ := bindS h
 refine cF 10 (ok_slices_ContainsFunc_impl_Value_impl_Value_s3 (rfl) (fun _ w hw => ok_impl_RowsOk_1 hw) hv4) ?_
 refine ve 3 13 [(4, B (!v3))] [] ?_
 cases h
 exact pwp_ret rz
 replace h := bF hc5 h
 rw [hc5]
 refine ve 6 13 [(4, B false)] [] ?_
 cases h
 exact pwp_ret rz
def spec_l6Holds (a0 : List T_impl_Value) (a1 : List T_impl_Part) : Option Bool := (spec_l4Value a0 a1).bind fun v1 => (spec_ValueOf 1).bind fun v3 => some (eq_T_impl_Value v1 v3)
theorem ok_spec_l6Holds {a0 : List T_impl_Value} {a1 : List T_impl_Part} {y : Bool} (h : spec_l6Holds a0 a1 = some y) : OK Tryz.prog 48 [A a0, A a1] (B y) := by
 refine ow Tryz.func48 fun Γ hX => ?_
 unfold spec_l6Holds at h
 refine srve 10 [(0, A a0), (1, A a1)] [] ?_
 refine srv 2 10 [(5, A a0), (6, A a1)] [] ?_
 obtain ⟨v1, hv2, h⟩ := bindS h
 refine cF 7 (ok_spec_l4Value hv2) ?_
 obtain ⟨v3, hv4, h⟩ := bindS h
 refine cF 8 (ok_spec_ValueOf hv4) ?_
 refine ve 2 10 [(4, B (eq_T_impl_Value v1 v3))] [] ?_
 cases h
 exact pwp_ret rz
def impl_TablesOk_1 (a0 : T_impl_Table) : Option Bool := (impl_ColumnsOk a0.fColumns).bind fun v1 => bif (!v1) then some true else bif (decide ((a0.fRows.length : Int) > 6)) then some true else (impl_RowsOk a0.fColumns a0.fRows).bind fun v3 => some (!v3)
theorem ok_impl_TablesOk_1 {a0 : T_impl_Table} {y : Bool} (h : impl_TablesOk_1 a0 = some y) : OK Tryz.prog 55 [E a0] (B y) := by
 refine ow Tryz.func55 fun Γ hX => ?_
 unfold impl_TablesOk_1 at h
 refine srve 21 [(1, pf a0 0)] [] ?_
 refine srv 2 21 [(1, pf a0 0), (4, A a0.fColumns)] [] ?_
 obtain ⟨v1, hv2, h⟩ := bindS h
 refine cF 5 (ok_impl_ColumnsOk hv2) ?_
 refine v 2 21 [(1, pf a0 0), (7, B (!v1))] [] ?_
 rcases fk (!v1) with hc6 | hc6
 replace h := bT hc6 h
 rw [hc6]
 refine ve 14 21 [(2, B true)] [] ?_
 cases h
 exact pwp_ret rz
 replace h := bF hc6 h
 rw [hc6]
 refine v 6 21 [(1, pf a0 0), (13, B (decide ((a0.fRows.length : Int) > 6)))] [] ?_
 rcases fk (decide ((a0.fRows.length : Int) > 6)) with hc5 | hc5
 replace h := bT hc5 h
 rw [hc5]
 refine ve 8 21 [(2, B true)] [] ?_
 cases h
 exact pwp_ret rz
 replace h := bF hc5 h
 rw [hc5]
 refine v 4 21 [(13, B false), (15, A a0.fColumns), (17, A a0.fRows)] [] ?_
 obtain ⟨v3, hv4, h⟩ := bindS h
 refine cF 18 (ok_impl_RowsOk hv4) ?_
 refine ve 3 21 [(2, B (!v3))] [] ?_
 cases h
 exact pwp_ret rz
def impl_exprValue_l0 (a0 : List T_impl_Value) (a1 : List T_impl_Part) : Nat → Int → (List T_impl_Value) → Option T_impl_Value
 | 0, _, _ => none
 | f5 + 1, x3, x4 => bif (decide (x3 < (a1.length : Int))) then (getI a1 x3).bind fun v8 => (impl_Part_takes v8).bind fun v10 => (slI x4 (some (w64 ((x4.length : Int) - v10))) none none).bind fun v12 => (impl_Part_value v8 a0 v12).bind fun v14 => (slI x4 none (some (w64 ((x4.length : Int) - v10))) none).bind fun v16 => (appT x4 ([v14] : List T_impl_Value) v16.length).bind fun v18 => (impl_exprValue_l0 a0 a1 f5) (w64 (x3 + 1)) v18 else (getI x4 (0 : Int)).bind fun v20 => some v20
def impl_exprValue (a0 : List T_impl_Value) (a1 : List T_impl_Part) : Option T_impl_Value := impl_exprValue_l0 a0 a1 FUEL 0 ([] : List T_impl_Value)
theorem ok_impl_exprValue {a0 : List T_impl_Value} {a1 : List T_impl_Part} {y : T_impl_Value} (h : impl_exprValue a0 a1 = some y) : OK Tryz.prog 99 [A a0, A a1] (E y) := by
 refine ow Tryz.func99 fun Γ hX => ?_
 unfold impl_exprValue at h
 refine srveM [4, 7, 9] 37 [(0, A a0), (1, A a1), (4, .ptr 0 0 0)] [some ⟨0, Enc.cells (T_impl_Value.mk 0 0 (ByteArray.mk #[]))⟩] ?_
 refine srveM [4, 7, 9] 37 [(0, A a0), (1, A a1), (4, .ptr 0 0 0), (5, .arr 3 0 (eL ([] : List T_impl_Value)) true)] [some ⟨0, Enc.cells (T_impl_Value.mk 0 0 (ByteArray.mk #[]))⟩] ?_
 refine pwp_seq ?_
 refine srveM [4, 7, 9] 37 [(0, A a0), (4, .ptr 0 0 0), (5, .arr 3 0 (eL ([] : List T_impl_Value)) true), (10, A a1), (11, I (a1.length : Int)), (12, I 0)] [some ⟨0, Enc.cells (T_impl_Value.mk 0 0 (ByteArray.mk #[]))⟩] ?_
 refine pwp_block ?_
 refine pwp_loop (ι := Nat × Int × (List T_impl_Value)) (fun (f5, x3, x4) => (⟨37, [(0, A a0), (4, .ptr 0 0 0), (5, rf 1 0 3 x4), (10, A a1), (11, I (a1.length : Int)), (12, I x3)], [some ⟨0, Enc.cells (T_impl_Value.mk 0 0 (ByteArray.mk #[]))⟩, sl 0 x4]⟩ : St)) (fun (f5, x3, x4) => impl_exprValue_l0 a0 a1 f5 x3 x4 = some y) Prod.fst (FUEL, 0, ([] : List T_impl_Value)) h (Imp.thawS 5 [0, 4, 5, 10, 11, 12] (by kernel_rfl)) ?_
 rintro ⟨f5, x3, x4⟩ h
 dsimp only at h ⊢
 rcases f5 with _ | f5
 cases h
 rw [impl_exprValue_l0] at h
 refine srveM [4, 7, 9] 37 [(0, A a0), (4, .ptr 0 0 0), (5, rf 1 0 3 x4), (10, A a1), (11, I (a1.length : Int)), (12, I x3), (13, B (decide (x3 < (a1.length : Int))))] [some ⟨0, Enc.cells (T_impl_Value.mk 0 0 (ByteArray.mk #[]))⟩, sl 0 x4] ?_
 refine pwp_seq ?_
 refine pc h (fun h => ?_) (fun h => ?_)
 refine pwp_skip ?_
 refine pwp_seq ?_
 refine pwp_block ?_
 refine pwp_seq ?_
 refine pwp_region ?_
 obtain ⟨v8, hv9, h⟩ := bindS h
 refine opsP_idx τ_ok 14 hv9 (by kernel_rfl) ?_
 refine veM [4, 7, 9] 3 37 [(0, A a0), (4, .ptr 0 0 0), (5, rf 1 0 3 x4), (7, .ptr 2 0 0), (10, A a1), (11, I (a1.length : Int)), (12, I x3)] [some ⟨0, Enc.cells (T_impl_Value.mk 0 0 (ByteArray.mk #[]))⟩, sl 0 x4, sc 0 v8] ?_
 refine srvM [4, 7, 9] 3 37 [(0, A a0), (4, .ptr 0 0 0), (5, rf 1 0 3 x4), (7, .ptr 2 0 0), (10, A a1), (11, I (a1.length : Int)), (12, I x3), (17, I (x4.length : Int)), (18, E v8)] [some ⟨0, Enc.cells (T_impl_Value.mk 0 0 (ByteArray.mk #[]))⟩, sl 0 x4, sc 0 v8] ?_
 obtain ⟨v10, hv11, h⟩ := bindS h
 refine cF 19 (ok_impl_Part_takes hv11) ?_
 refine veM [4, 7, 9] 2 37 [(0, A a0), (4, .ptr 0 0 0), (5, rf 1 0 3 x4), (7, .ptr 2 0 0), (8, I (w64 ((x4.length : Int) - v10))), (10, A a1), (11, I (a1.length : Int)), (12, I x3)] [some ⟨0, Enc.cells (T_impl_Value.mk 0 0 (ByteArray.mk #[]))⟩, sl 0 x4, sc 0 v8] ?_
 refine pwp_seq ?_
 refine ip 37 [(0, A a0), (4, .ptr 0 0 0), (5, rf 1 0 3 x4), (7, .ptr 2 0 0), (8, I (w64 ((x4.length : Int) - v10))), (10, A a1), (11, I (a1.length : Int)), (12, I x3)] [some ⟨0, Enc.cells (T_impl_Value.mk 0 0 (ByteArray.mk #[]))⟩, sl 0 x4, sc 0 v8] ?_
 refine pwp_imp (Imp.ghosts 1 (st' := ⟨37, [(0, A a0), (4, .ptr 0 0 0), (5, rf 1 0 3 x4), (7, .ptr 2 0 0), (8, I (w64 ((x4.length : Int) - v10))), (10, A a1), (11, I (a1.length : Int)), (12, I x3)], [some ⟨0, Enc.cells (T_impl_Value.mk 0 0 (ByteArray.mk #[]))⟩, sl 0 x4, sc 0 v8, some ⟨0, []⟩]⟩) (by kernel_rfl)) ?_
 refine pwp_any ([[2], [], [1], [], [1], [1], [3], [3]]) ([[], [], [], [], [], [], [3], [3]]) rfl (by kernel_rfl) ?_
 refine qvM [4, 7, 9] [2] (hB trivial) 1 37 [(21, E v8), (0, A a0), (4, .ptr 0 0 0), (5, rf 1 0 3 x4), (8, I (w64 ((x4.length : Int) - v10))), (10, A a1), (11, I (a1.length : Int)), (12, I x3)] [some ⟨0, Enc.cells (T_impl_Value.mk 0 0 (ByteArray.mk #[]))⟩, sl 0 x4, sc 0 v8, some ⟨0, []⟩] ?_
 refine qvM [4, 7, 9] [] trivial 1 37 [(22, A a0), (21, E v8), (0, A a0), (4, .ptr 0 0 0), (5, rf 1 0 3 x4), (8, I (w64 ((x4.length : Int) - v10))), (10, A a1), (11, I (a1.length : Int)), (12, I x3)] [some ⟨0, Enc.cells (T_impl_Value.mk 0 0 (ByteArray.mk #[]))⟩, sl 0 x4, sc 0 v8, some ⟨0, []⟩] ?_
 refine qvM [4, 7, 9] [1] (hL trivial) 1 37 [(23, rf 1 0 3 x4), (22, A a0), (21, E v8), (0, A a0), (4, .ptr 0 0 0), (5, rf 1 0 3 x4), (8, I (w64 ((x4.length : Int) - v10))), (10, A a1), (11, I (a1.length : Int)), (12, I x3)] [some ⟨0, Enc.cells (T_impl_Value.mk 0 0 (ByteArray.mk #[]))⟩, sl 0 x4, sc 0 v8, some ⟨0, []⟩] ?_
 refine qvM [4, 7, 9] [] trivial 1 37 [(24, I (w64 ((x4.length : Int) - v10))), (23, rf 1 0 3 x4), (22, A a0), (21, E v8), (0, A a0), (4, .ptr 0 0 0), (5, rf 1 0 3 x4), (8, I (w64 ((x4.length : Int) - v10))), (10, A a1), (11, I (a1.length : Int)), (12, I x3)] [some ⟨0, Enc.cells (T_impl_Value.mk 0 0 (ByteArray.mk #[]))⟩, sl 0 x4, sc 0 v8, some ⟨0, []⟩] ?_
 obtain ⟨v12, hv13, h⟩ := bindS h
 refine qX (some 25) (.ref 1 0 ((w64 ((x4.length : Int) - v10)).toNat * 3) 3 v12.length false) 37 [(25, .ref 1 0 ((w64 ((x4.length : Int) - v10)).toNat * 3) 3 v12.length false), (22, A a0), (21, E v8), (0, A a0), (4, .ptr 0 0 0), (5, rf 1 0 3 x4), (8, I (w64 ((x4.length : Int) - v10))), (10, A a1), (11, I (a1.length : Int)), (12, I x3)] [some ⟨0, Enc.cells (T_impl_Value.mk 0 0 (ByteArray.mk #[]))⟩, sl 0 x4, sc 0 v8, some ⟨0, []⟩] (fun Γ' hΓ => CoreE.of_y (slrV_sound (n := x4.length) τ_ok (by kernel_rfl) rfl hv13)) (hL trivial) ?_
 obtain ⟨v14, hv15, h⟩ := bindS h
 refine qX (some 26) (E v14) 37 [(26, E v14), (0, A a0), (4, .ptr 0 0 0), (5, rf 1 0 3 x4), (8, I (w64 ((x4.length : Int) - v10))), (10, A a1), (11, I (a1.length : Int)), (12, I x3)] [some ⟨0, Enc.cells (T_impl_Value.mk 0 0 (ByteArray.mk #[]))⟩, sl 0 x4, sc 0 v8, some ⟨0, []⟩] (fun Γ' hΓ => CoreE.of_g (callVV_sound (xs := [E v8, A a0, .ref 1 0 ((w64 ((x4.length : Int) - v10)).toNat * 3) 3 v12.length false]) (τ := τ) (by kernel_rfl) (ViewL.cons (View.frz rfl) (ViewL.cons (View.frz rfl) (ViewL.cons (View.ref (v := 0) (lo := (w64 ((x4.length : Int) - v10)).toNat) x4 v12 (by kernel_rfl) (slI_view hv13) rfl) (ViewL.nil _)))) (ok_impl_Part_value hv15) (Blind.E _ rfl rfl) (FzTo.frz rfl))) (hL trivial) ?_
 refine qX (Hm' := [none, none, none, some ⟨1, Enc.cells (T_impl_Value.mk 0 0 (ByteArray.mk #[]))⟩]) (some 9) (.ptr 3 1 0) 37 [(9, .ptr 3 1 0), (26, E v14), (0, A a0), (4, .ptr 0 0 0), (5, rf 1 0 3 x4), (8, I (w64 ((x4.length : Int) - v10))), (10, A a1), (11, I (a1.length : Int)), (12, I x3)] [some ⟨0, Enc.cells (T_impl_Value.mk 0 0 (ByteArray.mk #[]))⟩, sl 0 x4, sc 0 v8, some ⟨1, Enc.cells (T_impl_Value.mk 0 0 (ByteArray.mk #[]))⟩] (fun Γ' hΓ => alc_E (blk := ⟨0, []⟩) τ_ok [4, 7, 9] 9 3 0 (ny hΓ hX) (by kernel_rfl) (by kernel_rfl)) (hB trivial) ?_
 refine qX (Hm' := [none, none, none, sc 1 v14]) none (.any) 37 [(9, .ptr 3 1 0), (0, A a0), (4, .ptr 0 0 0), (5, rf 1 0 3 x4), (8, I (w64 ((x4.length : Int) - v10))), (10, A a1), (11, I (a1.length : Int)), (12, I x3)] [some ⟨0, Enc.cells (T_impl_Value.mk 0 0 (ByteArray.mk #[]))⟩, sl 0 x4, sc 0 v8, sc 1 v14] (fun Γ' hΓ => sto_E τ_ok 3 1 (by kernel_rfl)) (hB trivial) ?_
 refine qn 37 [(0, A a0), (4, .ptr 0 0 0), (5, rf 1 0 3 x4), (8, I (w64 ((x4.length : Int) - v10))), (9, .ptr 3 1 0), (10, A a1), (11, I (a1.length : Int)), (12, I x3)] [some ⟨0, Enc.cells (T_impl_Value.mk 0 0 (ByteArray.mk #[]))⟩, sl 0 x4, sc 0 v8, sc 1 v14] ?_
 refine ip 37 [(0, A a0), (4, .ptr 0 0 0), (5, rf 1 0 3 x4), (8, I (w64 ((x4.length : Int) - v10))), (9, .ptr 3 1 0), (10, A a1), (11, I (a1.length : Int)), (12, I x3)] [some ⟨0, Enc.cells (T_impl_Value.mk 0 0 (ByteArray.mk #[]))⟩, sl 0 x4, sc 0 v8, sc 1 v14] ?_
 refine pwp_any ([[1], [], [1], [3], [], [1], [1]]) ([[], [], [], [], [], [1], []]) rfl (by kernel_rfl) ?_
 refine qvM [4, 7, 9] [1] (hL trivial) 1 37 [(27, rf 1 0 3 x4), (0, A a0), (4, .ptr 0 0 0), (5, rf 1 0 3 x4), (8, I (w64 ((x4.length : Int) - v10))), (9, .ptr 3 1 0), (10, A a1), (11, I (a1.length : Int)), (12, I x3)] [some ⟨0, Enc.cells (T_impl_Value.mk 0 0 (ByteArray.mk #[]))⟩, sl 0 x4, sc 0 v8, sc 1 v14] ?_
 refine qvM [4, 7, 9] [] trivial 1 37 [(28, I (w64 ((x4.length : Int) - v10))), (27, rf 1 0 3 x4), (0, A a0), (4, .ptr 0 0 0), (5, rf 1 0 3 x4), (9, .ptr 3 1 0), (10, A a1), (11, I (a1.length : Int)), (12, I x3)] [some ⟨0, Enc.cells (T_impl_Value.mk 0 0 (ByteArray.mk #[]))⟩, sl 0 x4, sc 0 v8, sc 1 v14] ?_
 obtain ⟨v16, hv17, h⟩ := bindS h
 refine qX (some 29) (rf 1 0 3 v16) 37 [(29, rf 1 0 3 v16), (0, A a0), (4, .ptr 0 0 0), (5, rf 1 0 3 x4), (9, .ptr 3 1 0), (10, A a1), (11, I (a1.length : Int)), (12, I x3)] [some ⟨0, Enc.cells (T_impl_Value.mk 0 0 (ByteArray.mk #[]))⟩, sl 0 x4, sc 0 v8, sc 1 v14] (fun Γ' hΓ => CoreE.of_y (slrV_sound (n := x4.length) τ_ok (by kernel_rfl) rfl hv17)) (hL trivial) ?_
 refine qvM [4, 7, 9] [3] (hB trivial) 1 37 [(30, E v14), (29, rf 1 0 3 v16), (0, A a0), (4, .ptr 0 0 0), (5, rf 1 0 3 x4), (10, A a1), (11, I (a1.length : Int)), (12, I x3)] [some ⟨0, Enc.cells (T_impl_Value.mk 0 0 (ByteArray.mk #[]))⟩, sl 0 x4, sc 0 v8, sc 1 v14] ?_
 refine qvM [4, 7, 9] [] trivial 1 37 [(31, .arr 3 ([v14] : List T_impl_Value).length (eL ([v14] : List T_impl_Value)) true), (29, rf 1 0 3 v16), (0, A a0), (4, .ptr 0 0 0), (5, rf 1 0 3 x4), (10, A a1), (11, I (a1.length : Int)), (12, I x3)] [some ⟨0, Enc.cells (T_impl_Value.mk 0 0 (ByteArray.mk #[]))⟩, sl 0 x4, sc 0 v8, sc 1 v14] ?_
 obtain ⟨v18, hv19, h⟩ := bindS h
 refine qX (some 32) (rf 1 1 3 v18) 37 [(32, rf 1 1 3 v18), (0, A a0), (4, .ptr 0 0 0), (5, rf 1 0 3 x4), (10, A a1), (11, I (a1.length : Int)), (12, I x3)] [some ⟨0, Enc.cells (T_impl_Value.mk 0 0 (ByteArray.mk #[]))⟩, sl 1 v18, sc 0 v8, sc 1 v14] (fun Γ' hΓ => app_E τ_ok 32 1 0 v16.length (ny hΓ hX) hv19 (slI_le hv17) (by kernel_rfl)) (hL trivial) ?_
 refine qvnM [4, 7, 9] [1] (hL trivial) 1 37 [(0, A a0), (4, .ptr 0 0 0), (5, rf 1 1 3 v18), (10, A a1), (11, I (a1.length : Int)), (12, I x3)] [some ⟨0, Enc.cells (T_impl_Value.mk 0 0 (ByteArray.mk #[]))⟩, sl 1 v18, sc 0 v8, sc 1 v14] ?_
 refine rveM [4, 7, 9] 37 [(0, A a0), (4, .ptr 0 0 0), (5, rf 1 1 3 v18), (10, A a1), (11, I (a1.length : Int)), (12, I (w64 (x3 + 1)))] [some ⟨0, Enc.cells (T_impl_Value.mk 0 0 (ByteArray.mk #[]))⟩, sl 1 v18, sc 0 v8, sc 1 v14] ?_
 exact ⟨(f5, (w64 (x3 + 1)), v18), h, Nat.lt_succ_self _, qt (it (st' := ⟨37, [(0, A a0), (4, .ptr 0 0 0), (5, rf 1 1 3 v18), (10, A a1), (11, I (a1.length : Int)), (12, I (w64 (x3 + 1)))], [some ⟨0, Enc.cells (T_impl_Value.mk 0 0 (ByteArray.mk #[]))⟩, sl 1 v18, sc 0 v8, sc 1 v14]⟩) [0, 4, 5, 10, 11, 12]) (qt (Imp.truncS (st' := ⟨37, [(0, A a0), (4, .ptr 0 0 0), (5, rf 1 1 3 v18), (10, A a1), (11, I (a1.length : Int)), (12, I (w64 (x3 + 1)))], [some ⟨0, Enc.cells (T_impl_Value.mk 0 0 (ByteArray.mk #[]))⟩, sl 1 v18]⟩) 2 (nx hX) (by kernel_rfl) (allBelow_mem (by exact (And.intro rfl (And.intro rfl (And.intro rfl (And.intro rfl (And.intro rfl (And.intro rfl trivial)))))))) (by exact (And.intro (rfl) (And.intro (frz_below (eL_frz _)) trivial))) (by kernel_rfl)) (Imp.reverS 1 1 (eL v18) [0, 4, 5, 10, 11, 12] (by kernel_rfl) (by exact (And.intro (rfl) (And.intro (eL_frz _) trivial))) (by kernel_rfl)))⟩
 refine pwp_exit ?_
 refine srvM [4, 7, 9] 1 37 [(4, .ptr 0 0 0), (34, rf 1 0 3 x4)] [some ⟨0, Enc.cells (T_impl_Value.mk 0 0 (ByteArray.mk #[]))⟩, sl 0 x4] ?_
 obtain ⟨v20, hv21, h⟩ := bindS h
 refine opsP_idr τ_ok 35 1 0 x4.length hv21 rfl (by kernel_rfl) ?_
 refine opsP_lde (r := E v20) τ_ok 36 90 0 hv21 (by kernel_rfl) (by kernel_rfl) ?_
 refine veM [4, 7, 9] 1 37 [(4, .ptr 0 0 0)] [sc 0 v20, sl 0 x4] ?_
 cases h
 exact pwp_ret rz
def spec_TablesSeen_j2 (x16 : Int) (K19 : Int → (List (List T_impl_Value)) → Option (List T_impl_Table)) (x23 : List (List T_impl_Value)) : Option (List T_impl_Table) := K19 (w64 (x16 + 1)) x23
def spec_TablesSeen_l1 (a1 : List T_impl_Guard) (x7 : Int) (x8 : List T_impl_Table) (K10 : Int → (List T_impl_Table) → Option (List T_impl_Table)) (v12 : T_impl_Guard) : Nat → Int → (List (List T_impl_Value)) → Option (List T_impl_Table)
 | 0, _, _ => none
 | f18 + 1, x16, x17 => (getI x8 v12.fIn).bind fun v20 => bif (decide (x16 < (v20.fRows.length : Int))) then (getI x8 v12.fIn).bind fun v24 => (getI v24.fRows x16).bind fun v26 => (getI a1 x7).bind fun v28 => (spec_l6Holds v26 v28.fE).bind fun v30 => bif v30 then (getI x8 v12.fIn).bind fun v33 => (getI v33.fRows x16).bind fun v35 => (app x17 ([v35] : List (List T_impl_Value))).bind fun v37 => spec_TablesSeen_j2 x16 (spec_TablesSeen_l1 a1 x7 x8 K10 v12 f18) v37 else spec_TablesSeen_j2 x16 (spec_TablesSeen_l1 a1 x7 x8 K10 v12 f18) x17 else (getI x8 v12.fIn).bind fun v39 => K10 (w64 (x7 + 1)) (x8.set v12.fIn.toNat ({ v39 with fRows := x17 } : T_impl_Table))
def spec_TablesSeen_l0 (a1 : List T_impl_Guard) : Nat → Int → (List T_impl_Table) → Option (List T_impl_Table)
 | 0, _, _ => none
 | f9 + 1, x7, x8 => bif (decide (x7 < (a1.length : Int))) then (getI a1 x7).bind fun v12 => spec_TablesSeen_l1 a1 x7 x8 (spec_TablesSeen_l0 a1 f9) v12 FUEL 0 ([] : List (List T_impl_Value)) else some x8
def spec_TablesSeen (a0 : List T_impl_Table) (a1 : List T_impl_Guard) : Option (List T_impl_Table) := (spec_GuardsOk a0 a1).bind fun v1 => bif (!v1) then some ([] : List T_impl_Table) else (spec_l11Tables a0).bind fun v4 => spec_TablesSeen_l0 a1 FUEL 0 v4
theorem ok_spec_TablesSeen {a0 : List T_impl_Table} {a1 : List T_impl_Guard} {y : List T_impl_Table} (h : spec_TablesSeen a0 a1 = some y) : OK Tryz.prog 12 [A a0, A a1] (O y) := by
 refine ow Tryz.func12 fun Γ hX => ?_
 unfold spec_TablesSeen at h
 refine srve 70 [(0, A a0), (1, A a1)] [] ?_
 refine pwp_seq ?_
 refine srv 2 70 [(0, A a0), (1, A a1), (10, A a0), (11, A a1)] [] ?_
 obtain ⟨v1, hv2, h⟩ := bindS h
 refine cF 12 (ok_spec_GuardsOk hv2) ?_
 refine ve 1 70 [(0, A a0), (1, A a1), (13, B (!v1))] [] ?_
 refine pc h (fun h => ?_) (fun h => ?_)
 refine srve 70 [(4, .arr 2 0 (eL ([] : List T_impl_Table)) true)] [] ?_
 refine ip 70 [(4, .arr 2 0 (eL ([] : List T_impl_Table)) true)] [] ?_
 refine pwp_imp (Imp.thawS (st' := ⟨70, [(4, .ref 0 0 0 2 ([] : List T_impl_Table).length false)], [some ⟨0, eL ([] : List T_impl_Table)⟩]⟩) 4 [4] (by kernel_rfl)) ?_
 have h := si h
 subst h
 exact pwp_ret (rt (.ref 0 0 0 2 ([] : List T_impl_Table).length false) (OutP.list (v := 0) (by kernel_rfl)))
 refine pwp_skip ?_
 refine srv 1 70 [(1, A a1), (15, A a0)] [] ?_
 obtain ⟨v4, hv5, h⟩ := bindS h
 refine opsP_callO τ 16 (ok_spec_l11Tables hv5) rfl (by kernel_rfl) ?_
 refine ve 1 70 [(1, A a1), (5, rf 0 0 2 v4)] [sl 0 v4] ?_
 refine pwp_seq ?_
 refine srve 70 [(1, A a1), (5, rf 0 0 2 v4), (6, I 0)] [sl 0 v4] ?_
 refine pwp_block ?_
 refine pwp_loop (ι := Nat × Int × (List T_impl_Table)) (fun (f9, x7, x8) => (⟨70, [(1, A a1), (5, rf 0 0 2 x8), (6, I x7)], [sl 0 x8]⟩ : St)) (fun (f9, x7, x8) => spec_TablesSeen_l0 a1 f9 x7 x8 = some y) Prod.fst (FUEL, 0, v4) h (it [1, 5, 6]) ?_
 rintro ⟨f9, x7, x8⟩ h
 dsimp only at h ⊢
 rcases f9 with _ | f9
 cases h
 rw [spec_TablesSeen_l0] at h
 refine pwp_seq ?_
 refine srve 70 [(1, A a1), (5, rf 0 0 2 x8), (6, I x7), (20, B (decide (x7 < (a1.length : Int))))] [sl 0 x8] ?_
 refine pc h (fun h => ?_) (fun h => ?_)
 refine pwp_skip ?_
 refine pwp_seq ?_
 refine pwp_block ?_
 refine srv 2 70 [(1, A a1), (5, rf 0 0 2 x8), (6, I x7), (23, A a1), (24, I x7)] [sl 0 x8] ?_
 obtain ⟨v12, hv13, h⟩ := bindS h
 refine opsP_idx τ_ok 25 hv13 (by kernel_rfl) ?_
 refine ve 3 70 [(1, A a1), (5, rf 0 0 2 x8), (6, I x7), (7, I v12.fIn)] [sl 0 x8] ?_
 refine srve 70 [(1, A a1), (5, rf 0 0 2 x8), (6, I x7), (7, I v12.fIn), (8, .arr 1 0 (eL ([] : List (List T_impl_Value))) true)] [sl 0 x8] ?_
 refine pwp_seq ?_
 refine srve 70 [(1, A a1), (5, rf 0 0 2 x8), (6, I x7), (7, I v12.fIn), (8, .arr 1 0 (eL ([] : List (List T_impl_Value))) true), (9, I 0)] [sl 0 x8] ?_
 refine pwp_block ?_
 refine pwp_loop (ι := Nat × Int × (List (List T_impl_Value))) (fun (f18, x16, x17) => (⟨70, [(1, A a1), (5, rf 0 0 2 x8), (6, I x7), (7, I v12.fIn), (8, rf 1 0 1 x17), (9, I x16)], [sl 0 x8, sl 0 x17]⟩ : St)) (fun (f18, x16, x17) => spec_TablesSeen_l1 a1 x7 x8 (spec_TablesSeen_l0 a1 f9) v12 f18 x16 x17 = some y) Prod.fst (FUEL, 0, ([] : List (List T_impl_Value))) h (Imp.thawS 8 [1, 5, 6, 7, 8, 9] (by kernel_rfl)) ?_
 rintro ⟨f18, x16, x17⟩ h
 dsimp only at h ⊢
 rcases f18 with _ | f18
 cases h
 rw [spec_TablesSeen_l1] at h
 refine pwp_seq ?_
 refine srv 3 70 [(1, A a1), (5, rf 0 0 2 x8), (6, I x7), (7, I v12.fIn), (8, rf 1 0 1 x17), (9, I x16), (29, I x16), (30, rf 0 0 2 x8), (31, I v12.fIn)] [sl 0 x8, sl 0 x17] ?_
 obtain ⟨v20, hv21, h⟩ := bindS h
 refine opsP_idr τ_ok 32 0 0 x8.length hv21 rfl (by kernel_rfl) ?_
 refine v 1 70 [(1, A a1), (5, rf 0 0 2 x8), (6, I x7), (7, I v12.fIn), (8, rf 1 0 1 x17), (9, I x16), (29, I x16), (33, .ptr 0 0 (v12.fIn.toNat * 2 + 1))] [sl 0 x8, sl 0 x17] ?_
 refine opsP_lde (r := A v20.fRows) τ_ok 34 31 1 hv21 (by kernel_rfl) (by kernel_rfl) ?_
 refine ve 2 70 [(1, A a1), (5, rf 0 0 2 x8), (6, I x7), (7, I v12.fIn), (8, rf 1 0 1 x17), (9, I x16), (36, B (decide (x16 < (v20.fRows.length : Int))))] [sl 0 x8, sl 0 x17] ?_
 refine pc h (fun h => ?_) (fun h => ?_)
 refine pwp_skip ?_
 refine pwp_seq ?_
 refine pwp_join (σ := (List (List T_impl_Value))) (fun x23 => (⟨70, [(1, A a1), (5, rf 0 0 2 x8), (6, I x7), (7, I v12.fIn), (8, rf 1 0 1 x23), (9, I x16)], [sl 0 x8, sl 0 x23]⟩ : St)) (fun x23 => spec_TablesSeen_j2 x16 (spec_TablesSeen_l1 a1 x7 x8 (spec_TablesSeen_l0 a1 f9) v12 f18) x23 = some y) ?_ ?_
 refine pwp_block ?_
 refine pwp_seq ?_
 refine ip 70 [(1, A a1), (5, rf 0 0 2 x8), (6, I x7), (7, I v12.fIn), (8, rf 1 0 1 x17), (9, I x16)] [sl 0 x8, sl 0 x17] ?_
 refine pwp_any ([[0], [], [0], [0], [0], [], [], [], [], [], [], [], [], []]) ([[], [], [], [], [], [], [], [], [], [], [], [], [], []]) rfl (by kernel_rfl) ?_
 refine qv [0] (hL trivial) 1 70 [(39, rf 0 0 2 x8), (1, A a1), (5, rf 0 0 2 x8), (6, I x7), (7, I v12.fIn), (8, rf 1 0 1 x17), (9, I x16)] [sl 0 x8, sl 0 x17] ?_
 refine qv [] trivial 1 70 [(40, I v12.fIn), (39, rf 0 0 2 x8), (1, A a1), (5, rf 0 0 2 x8), (6, I x7), (7, I v12.fIn), (8, rf 1 0 1 x17), (9, I x16)] [sl 0 x8, sl 0 x17] ?_
 obtain ⟨v24, hv25, h⟩ := bindS h
 refine qX (some 41) (.ptr 0 0 (v12.fIn.toNat * 2)) 70 [(41, .ptr 0 0 (v12.fIn.toNat * 2)), (1, A a1), (5, rf 0 0 2 x8), (6, I x7), (7, I v12.fIn), (8, rf 1 0 1 x17), (9, I x16)] [sl 0 x8, sl 0 x17] (fun Γ' hΓ => CoreE.of_y (idrV_sound (n := x8.length) τ_ok (by kernel_rfl) hv25 rfl)) (hL trivial) ?_
 refine qv [0] (hL trivial) 1 70 [(42, .ptr 0 0 (v12.fIn.toNat * 2 + 1)), (1, A a1), (5, rf 0 0 2 x8), (6, I x7), (7, I v12.fIn), (8, rf 1 0 1 x17), (9, I x16)] [sl 0 x8, sl 0 x17] ?_
 refine qX (some 43) (A v24.fRows) 70 [(43, A v24.fRows), (1, A a1), (5, rf 0 0 2 x8), (6, I x7), (7, I v12.fIn), (8, rf 1 0 1 x17), (9, I x16)] [sl 0 x8, sl 0 x17] (fun Γ' hΓ => CoreE.of_y (ldeV_sound (t := 31) (o' := 1) (r := A v24.fRows) τ_ok hv25 (by kernel_rfl) (by kernel_rfl))) (hL trivial) ?_
 refine qv [] trivial 1 70 [(44, I x16), (43, A v24.fRows), (1, A a1), (5, rf 0 0 2 x8), (6, I x7), (7, I v12.fIn), (8, rf 1 0 1 x17), (9, I x16)] [sl 0 x8, sl 0 x17] ?_
 obtain ⟨v26, hv27, h⟩ := bindS h
 refine qX (some 45) (pf v26 0) 70 [(45, pf v26 0), (1, A a1), (5, rf 0 0 2 x8), (6, I x7), (7, I v12.fIn), (8, rf 1 0 1 x17), (9, I x16)] [sl 0 x8, sl 0 x17] (fun Γ' hΓ => CoreE.of_y (idxV_sound τ_ok (by kernel_rfl) hv27)) trivial ?_
 refine qv [] trivial 3 70 [(48, I x7), (47, A a1), (46, A v26), (1, A a1), (5, rf 0 0 2 x8), (6, I x7), (7, I v12.fIn), (8, rf 1 0 1 x17), (9, I x16)] [sl 0 x8, sl 0 x17] ?_
 obtain ⟨v28, hv29, h⟩ := bindS h
 refine qX (some 49) (pf v28 0) 70 [(49, pf v28 0), (46, A v26), (1, A a1), (5, rf 0 0 2 x8), (6, I x7), (7, I v12.fIn), (8, rf 1 0 1 x17), (9, I x16)] [sl 0 x8, sl 0 x17] (fun Γ' hΓ => CoreE.of_y (idxV_sound τ_ok (by kernel_rfl) hv29)) trivial ?_
 refine qv [] trivial 2 70 [(51, A v28.fE), (46, A v26), (1, A a1), (5, rf 0 0 2 x8), (6, I x7), (7, I v12.fIn), (8, rf 1 0 1 x17), (9, I x16)] [sl 0 x8, sl 0 x17] ?_
 obtain ⟨v30, hv31, h⟩ := bindS h
 refine qX (some 52) (B v30) 70 [(52, B v30), (1, A a1), (5, rf 0 0 2 x8), (6, I x7), (7, I v12.fIn), (8, rf 1 0 1 x17), (9, I x16)] [sl 0 x8, sl 0 x17] (fun Γ' hΓ => CoreE.of_g (callV_sound (τ := τ) (by kernel_rfl) rfl (ok_spec_l6Holds hv31) (FzTo.frz rfl))) trivial ?_
 refine qn 70 [(1, A a1), (5, rf 0 0 2 x8), (6, I x7), (7, I v12.fIn), (8, rf 1 0 1 x17), (9, I x16), (52, B v30)] [sl 0 x8, sl 0 x17] ?_
 refine pc h (fun h => ?_) (fun h => ?_)
 refine rv 3 70 [(1, A a1), (5, rf 0 0 2 x8), (6, I x7), (7, I v12.fIn), (9, I x16), (53, rf 1 0 1 x17), (54, rf 0 0 2 x8), (55, I v12.fIn)] [sl 0 x8, sl 0 x17] ?_
 obtain ⟨v33, hv34, h⟩ := bindS h
 refine opsP_idr τ_ok 56 0 0 x8.length hv34 rfl (by kernel_rfl) ?_
 refine v 1 70 [(1, A a1), (5, rf 0 0 2 x8), (6, I x7), (7, I v12.fIn), (9, I x16), (53, rf 1 0 1 x17), (57, .ptr 0 0 (v12.fIn.toNat * 2 + 1))] [sl 0 x8, sl 0 x17] ?_
 refine opsP_lde (r := A v33.fRows) τ_ok 58 31 1 hv34 (by kernel_rfl) (by kernel_rfl) ?_
 refine v 1 70 [(1, A a1), (5, rf 0 0 2 x8), (6, I x7), (7, I v12.fIn), (9, I x16), (53, rf 1 0 1 x17), (58, A v33.fRows), (59, I x16)] [sl 0 x8, sl 0 x17] ?_
 obtain ⟨v35, hv36, h⟩ := bindS h
 refine opsP_idx τ_ok 60 hv36 (by kernel_rfl) ?_
 refine v 2 70 [(1, A a1), (5, rf 0 0 2 x8), (6, I x7), (7, I v12.fIn), (9, I x16), (53, rf 1 0 1 x17), (62, .arr 1 ([v35] : List (List T_impl_Value)).length (eL ([v35] : List (List T_impl_Value))) true)] [sl 0 x8, sl 0 x17] ?_
 obtain ⟨v37, hv38, h⟩ := bindS h
 refine opsP_app τ_ok 63 1 0 (nx hX) hv38 (by kernel_rfl) ?_
 refine ve 1 70 [(1, A a1), (5, rf 0 0 2 x8), (6, I x7), (7, I v12.fIn), (8, rf 1 1 1 v37), (9, I x16)] [sl 0 x8, sl 1 v37] ?_
 exact ⟨v37, h, (it (st' := ⟨70, [(1, A a1), (5, rf 0 0 2 x8), (6, I x7), (7, I v12.fIn), (8, rf 1 1 1 v37), (9, I x16)], [sl 0 x8, sl 1 v37]⟩) [1, 5, 6, 7, 8, 9]).trans (Imp.reverS 1 1 (eL v37) [1, 5, 6, 7, 8, 9] (by kernel_rfl) (by exact (And.intro (eL_frz _) (And.intro (eL_frz _) trivial))) (by kernel_rfl))⟩
 refine pwp_skip ?_
 exact ⟨x17, h, it [1, 5, 6, 7, 8, 9]⟩
 rintro x23 h
 unfold spec_TablesSeen_j2 at h
 refine rve 70 [(1, A a1), (5, rf 0 0 2 x8), (6, I x7), (7, I v12.fIn), (8, rf 1 0 1 x23), (9, I (w64 (x16 + 1)))] [sl 0 x8, sl 0 x23] ?_
 exact ⟨(f18, (w64 (x16 + 1)), x23), h, Nat.lt_succ_self _, it [1, 5, 6, 7, 8, 9]⟩
 refine pwp_exit ?_
 refine rv 3 70 [(1, A a1), (5, rf 0 0 2 x8), (6, I x7), (64, rf 0 0 2 x8), (65, I v12.fIn), (66, rf 1 0 1 x17)] [sl 0 x8, sl 0 x17] ?_
 obtain ⟨v39, hv40, h⟩ := bindS h
 refine opsP_idr τ_ok 67 0 0 x8.length hv40 rfl (by kernel_rfl) ?_
 refine v 1 70 [(1, A a1), (5, rf 0 0 2 x8), (6, I x7), (66, rf 1 0 1 x17), (68, .ptr 0 0 (v12.fIn.toNat * 2 + 1))] [sl 0 x8, sl 0 x17] ?_
 refine opsP_imp (Imp.freezeB (v := 0) (cs := eL x17) (st' := ⟨70, [(1, A a1), (5, rf 0 0 2 x8), (6, I x7), (66, A x17), (68, .ptr 0 0 (v12.fIn.toNat * 2 + 1))], [sl 0 x8, none]⟩) 1 0 (nx hX) (by kernel_rfl) (eL_frz _) (wholeC (whole_noRef (by kernel_rfl)) (wholeC (whole_ne rfl) (wholeC (whole_noRef (by kernel_rfl)) (wholeC (whole_is (eL_len x17).symm) (wholeC (whole_noRef (by kernel_rfl)) wholeC0))))) (HpRel.frz rfl (eL_frz _) (HpRel.key HpRel.nil)) (by kernel_rfl) rfl (nx hX)) ?_
 refine v 0 70 [(1, A a1), (5, rf 0 0 2 x8), (6, I x7), (66, A x17), (68, .ptr 0 0 (v12.fIn.toNat * 2 + 1))] [sl 0 x8, none] ?_
 refine opsP_ste (vs := [A x17]) τ_ok 31 0 0 1 ({ v39 with fRows := x17 } : T_impl_Table) hv40 (by kernel_rfl) (by kernel_rfl) (by kernel_rfl) (renC trivial (renC (ren_ref (List.length_set ..).symm) (renC trivial (renC trivial (renC trivial renC0))))) ?_
 refine ve 0 70 [(1, A a1), (5, .ref 0 0 0 2 (x8.set v12.fIn.toNat ({ v39 with fRows := x17 } : T_impl_Table)).length false), (6, I x7)] [some ⟨0, eL (x8.set v12.fIn.toNat ({ v39 with fRows := x17 } : T_impl_Table))⟩, none] ?_
 refine rve 70 [(1, A a1), (5, .ref 0 0 0 2 (x8.set v12.fIn.toNat ({ v39 with fRows := x17 } : T_impl_Table)).length false), (6, I (w64 (x7 + 1)))] [some ⟨0, eL (x8.set v12.fIn.toNat ({ v39 with fRows := x17 } : T_impl_Table))⟩, none] ?_
 exact ⟨(f9, (w64 (x7 + 1)), (x8.set v12.fIn.toNat ({ v39 with fRows := x17 } : T_impl_Table))), h, Nat.lt_succ_self _, (it (st' := ⟨70, [(1, A a1), (5, .ref 0 0 0 2 (x8.set v12.fIn.toNat ({ v39 with fRows := x17 } : T_impl_Table)).length false), (6, I (w64 (x7 + 1)))], [some ⟨0, eL (x8.set v12.fIn.toNat ({ v39 with fRows := x17 } : T_impl_Table))⟩, none]⟩) [1, 5, 6]).trans (Imp.truncS 1 (nx hX) (by kernel_rfl) (allBelow_mem (by exact (And.intro rfl (And.intro rfl (And.intro rfl trivial))))) (by exact (And.intro (frz_below (eL_frz _)) trivial)) (by kernel_rfl))⟩
 refine pwp_exit ?_
 refine srve 70 [(4, rf 0 0 2 x8)] [sl 0 x8] ?_
 have h := si h
 subst h
 exact pwp_ret (rt (rf 0 0 2 x8) (OutP.list (v := 0) (by kernel_rfl)))
def impl_TablesOk (a0 : List T_impl_Table) : Option Bool := bif (decide ((a0.length : Int) ≤ 3)) then (slices_ContainsFunc_impl_Table_impl_Table a0 impl_TablesOk_1).bind fun v1 => some (!v1) else some false
theorem ok_impl_TablesOk {a0 : List T_impl_Table} {y : Bool} (h : impl_TablesOk a0 = some y) : OK Tryz.prog 16 [A a0] (B y) := by
 refine ow Tryz.func16 fun Γ hX => ?_
 unfold impl_TablesOk at h
 refine srve 11 [(0, A a0)] [] ?_
 refine srv 4 11 [(0, A a0), (6, B (decide ((a0.length : Int) ≤ 3)))] [] ?_
 rcases fk (decide ((a0.length : Int) ≤ 3)) with hc3 | hc3
 replace h := bT hc3 h
 rw [hc3]
 refine v 1 11 [(6, B true), (7, A a0)] [] ?_
 obtain ⟨v1, hv2, h⟩ := bindS h
 refine cF 8 (ok_slices_ContainsFunc_impl_Table_impl_Table (rfl) (fun _ w hw => ok_impl_TablesOk_1 hw) hv2) ?_
 refine ve 3 11 [(2, B (!v1))] [] ?_
 cases h
 exact pwp_ret rz
 replace h := bF hc3 h
 rw [hc3]
 refine ve 5 11 [(2, B false)] [] ?_
 cases h
 exact pwp_ret rz
def impl_exprHolds (a0 : List T_impl_Value) (a1 : List T_impl_Part) : Option Bool := (impl_exprValue a0 a1).bind fun v1 => (impl_ValueOf 1).bind fun v3 => some (eq_T_impl_Value v1 v3)
theorem ok_impl_exprHolds {a0 : List T_impl_Value} {a1 : List T_impl_Part} {y : Bool} (h : impl_exprHolds a0 a1 = some y) : OK Tryz.prog 45 [A a0, A a1] (B y) := by
 refine ow Tryz.func45 fun Γ hX => ?_
 unfold impl_exprHolds at h
 refine srve 10 [(0, A a0), (1, A a1)] [] ?_
 refine srv 2 10 [(5, A a0), (6, A a1)] [] ?_
 obtain ⟨v1, hv2, h⟩ := bindS h
 refine cF 7 (ok_impl_exprValue hv2) ?_
 obtain ⟨v3, hv4, h⟩ := bindS h
 refine cF 8 (ok_impl_ValueOf hv4) ?_
 refine ve 2 10 [(4, B (eq_T_impl_Value v1 v3))] [] ?_
 cases h
 exact pwp_ret rz
def impl_GuardsOk_j1 (x4 : Int) (K6 : Int → Option Bool) (x10 : Bool) : Option Bool := bif x10 then some false else K6 (w64 (x4 + 1))
def impl_GuardsOk_l0 (a0 : List T_impl_Table) (a1 : List T_impl_Guard) : Nat → Int → Option Bool
 | 0, _ => none
 | f5 + 1, x4 => bif (decide (x4 < (a1.length : Int))) then (getI a1 x4).bind fun v8 => (impl_between v8.fIn 0 (w64 ((a0.length : Int) - 1))).bind fun v12 => bif (!v12) then impl_GuardsOk_j1 x4 (impl_GuardsOk_l0 a0 a1 f5) true else bif (decide (x4 > 0)) then (getI a1 (w64 (x4 - 1))).bind fun v14 => bif (decide (v14.fIn ≥ v8.fIn)) then impl_GuardsOk_j1 x4 (impl_GuardsOk_l0 a0 a1 f5) true else (getI a0 v8.fIn).bind fun v16 => (impl_ExprKind v16.fColumns v8.fE).bind fun v18 => impl_GuardsOk_j1 x4 (impl_GuardsOk_l0 a0 a1 f5) (!(v18 == 3)) else (getI a0 v8.fIn).bind fun v21 => (impl_ExprKind v21.fColumns v8.fE).bind fun v23 => impl_GuardsOk_j1 x4 (impl_GuardsOk_l0 a0 a1 f5) (!(v23 == 3)) else some true
def impl_GuardsOk (a0 : List T_impl_Table) (a1 : List T_impl_Guard) : Option Bool := (impl_TablesOk a0).bind fun v1 => bif (!v1) then some false else impl_GuardsOk_l0 a0 a1 FUEL 0
theorem ok_impl_GuardsOk {a0 : List T_impl_Table} {a1 : List T_impl_Guard} {y : Bool} (h : impl_GuardsOk a0 a1 = some y) : OK Tryz.prog 13 [A a0, A a1] (B y) := by
 refine ow Tryz.func13 fun Γ hX => ?_
 unfold impl_GuardsOk at h
 refine srveM [6] 52 [(0, A a0), (1, A a1)] [] ?_
 refine pwp_seq ?_
 refine srvM [6] 1 52 [(0, A a0), (1, A a1), (7, A a0)] [] ?_
 obtain ⟨v1, hv2, h⟩ := bindS h
 refine cF 8 (ok_impl_TablesOk hv2) ?_
 refine veM [6] 1 52 [(0, A a0), (1, A a1), (9, B (!v1))] [] ?_
 refine pc h (fun h => ?_) (fun h => ?_)
 refine srveM [6] 52 [(4, B false)] [] ?_
 cases h
 exact pwp_ret rz
 refine pwp_skip ?_
 refine pwp_seq ?_
 refine srveM [6] 52 [(0, A a0), (1, A a1), (10, A a1), (11, I (a1.length : Int)), (12, I 0)] [] ?_
 refine pwp_block ?_
 refine pwp_loop (ι := Nat × Int) (fun (f5, x4) => (⟨52, [(0, A a0), (1, A a1), (10, A a1), (11, I (a1.length : Int)), (12, I x4)], []⟩ : St)) (fun (f5, x4) => impl_GuardsOk_l0 a0 a1 f5 x4 = some y) Prod.fst (FUEL, 0) h (it [0, 1, 10, 11, 12]) ?_
 rintro ⟨f5, x4⟩ h
 dsimp only at h ⊢
 rcases f5 with _ | f5
 cases h
 rw [impl_GuardsOk_l0] at h
 refine srveM [6] 52 [(0, A a0), (1, A a1), (10, A a1), (11, I (a1.length : Int)), (12, I x4), (13, B (decide (x4 < (a1.length : Int))))] [] ?_
 refine pwp_seq ?_
 refine pc h (fun h => ?_) (fun h => ?_)
 refine pwp_skip ?_
 refine pwp_seq ?_
 refine pwp_block ?_
 refine srvM [6] 1 52 [(0, A a0), (1, A a1), (10, A a1), (11, I (a1.length : Int)), (12, I x4), (14, I x4)] [] ?_
 obtain ⟨v8, hv9, h⟩ := bindS h
 refine opsP_idx τ_ok 15 hv9 (by kernel_rfl) ?_
 refine veM [6] 4 52 [(0, A a0), (1, A a1), (5, I x4), (6, .ptr 0 0 0), (10, A a1), (11, I (a1.length : Int)), (12, I x4)] [sc 0 v8] ?_
 refine pwp_seq ?_
 refine pwp_join (σ := Bool) (fun x10 => (⟨52, [(0, A a0), (1, A a1), (10, A a1), (11, I (a1.length : Int)), (12, I x4), (50, B x10)], [sc 0 v8]⟩ : St)) (fun x10 => impl_GuardsOk_j1 x4 (impl_GuardsOk_l0 a0 a1 f5) x10 = some y) ?_ ?_
 refine ip 52 [(0, A a0), (1, A a1), (5, I x4), (6, .ptr 0 0 0), (10, A a1), (11, I (a1.length : Int)), (12, I x4)] [sc 0 v8] ?_
 refine pwp_any ([[0], [0], [], [], [], [], [], [], [], [], [], [], [], [], [], [], [], [0], [0], [], [], [], [], [], [0], [0], [], [], [], [0], [0], [], [], []]) ([[], [], [], [], [], [], [], [], [], [], [], [], [], [], [], [], [], [], [], [], [], [], [], [], [], [], [], [], [], [], [], [], [], []]) rfl (by kernel_rfl) ?_
 refine qvM [6] [0] (hB trivial) 2 52 [(18, I v8.fIn), (0, A a0), (1, A a1), (5, I x4), (6, .ptr 0 0 0), (10, A a1), (11, I (a1.length : Int)), (12, I x4)] [sc 0 v8] ?_
 refine qvM [6] [] trivial 3 52 [(21, I (w64 ((a0.length : Int) - 1))), (18, I v8.fIn), (0, A a0), (1, A a1), (5, I x4), (6, .ptr 0 0 0), (10, A a1), (11, I (a1.length : Int)), (12, I x4)] [sc 0 v8] ?_
 obtain ⟨v12, hv13, h⟩ := bindS h
 refine qX (some 22) (B v12) 52 [(22, B v12), (0, A a0), (1, A a1), (5, I x4), (6, .ptr 0 0 0), (10, A a1), (11, I (a1.length : Int)), (12, I x4)] [sc 0 v8] (fun Γ' hΓ => CoreE.of_g (callV_sound (τ := τ) (by kernel_rfl) rfl (ok_impl_between hv13) (FzTo.frz rfl))) trivial ?_
 refine qvM [6] [] trivial 2 52 [(24, B (!v12)), (0, A a0), (1, A a1), (5, I x4), (6, .ptr 0 0 0), (10, A a1), (11, I (a1.length : Int)), (12, I x4)] [sc 0 v8] ?_
 rcases fk (!v12) with hc26 | hc26
 replace h := bT hc26 h
 rw [hc26]
 refine qvM [6] [] trivial 9 52 [(33, .lit undef), (32, .lit undef), (31, .lit undef), (30, .lit undef), (29, .lit undef), (28, .lit undef), (27, .lit undef), (26, .lit undef), (25, .lit undef), (24, B true), (0, A a0), (1, A a1), (6, .ptr 0 0 0), (10, A a1), (11, I (a1.length : Int)), (12, I x4)] [sc 0 v8] ?_
 refine qvM [6] [0] (hB trivial) 2 52 [(35, .lit undef), (34, .lit undef), (33, .lit undef), (32, .lit undef), (31, .lit undef), (30, .lit undef), (29, .lit undef), (28, .lit undef), (27, .lit undef), (26, .lit undef), (25, .lit undef), (24, B true), (0, A a0), (1, A a1), (6, .ptr 0 0 0), (10, A a1), (11, I (a1.length : Int)), (12, I x4)] [sc 0 v8] ?_
 refine qvM [6] [] trivial 5 52 [(40, .lit undef), (39, B true), (37, .lit undef), (36, .lit undef), (35, .lit undef), (34, .lit undef), (33, .lit undef), (32, .lit undef), (31, .lit undef), (30, .lit undef), (29, .lit undef), (28, .lit undef), (27, .lit undef), (26, .lit undef), (25, .lit undef), (0, A a0), (1, A a1), (6, .ptr 0 0 0), (10, A a1), (11, I (a1.length : Int)), (12, I x4)] [sc 0 v8] ?_
 refine qvM [6] [0] (hB trivial) 2 52 [(42, .lit undef), (41, .lit undef), (40, .lit undef), (39, B true), (37, .lit undef), (36, .lit undef), (35, .lit undef), (34, .lit undef), (33, .lit undef), (32, .lit undef), (31, .lit undef), (30, .lit undef), (29, .lit undef), (28, .lit undef), (27, .lit undef), (26, .lit undef), (25, .lit undef), (0, A a0), (1, A a1), (6, .ptr 0 0 0), (10, A a1), (11, I (a1.length : Int)), (12, I x4)] [sc 0 v8] ?_
 refine qvM [6] [] trivial 3 52 [(45, .lit undef), (44, .lit undef), (43, .lit undef), (42, .lit undef), (41, .lit undef), (40, .lit undef), (39, B true), (37, .lit undef), (36, .lit undef), (35, .lit undef), (34, .lit undef), (33, .lit undef), (32, .lit undef), (31, .lit undef), (30, .lit undef), (29, .lit undef), (28, .lit undef), (27, .lit undef), (26, .lit undef), (25, .lit undef), (0, A a0), (1, A a1), (6, .ptr 0 0 0), (10, A a1), (11, I (a1.length : Int)), (12, I x4)] [sc 0 v8] ?_
 refine qvM [6] [0] (hB trivial) 2 52 [(47, .lit undef), (46, .lit undef), (45, .lit undef), (44, .lit undef), (43, .lit undef), (42, .lit undef), (41, .lit undef), (40, .lit undef), (39, B true), (37, .lit undef), (36, .lit undef), (35, .lit undef), (34, .lit undef), (33, .lit undef), (32, .lit undef), (31, .lit undef), (30, .lit undef), (29, .lit undef), (28, .lit undef), (27, .lit undef), (26, .lit undef), (25, .lit undef), (0, A a0), (1, A a1), (10, A a1), (11, I (a1.length : Int)), (12, I x4)] [sc 0 v8] ?_
 refine qvM [6] [] trivial 3 52 [(50, B true), (49, .lit undef), (48, .lit undef), (47, .lit undef), (46, .lit undef), (45, .lit undef), (44, .lit undef), (43, .lit undef), (42, .lit undef), (41, .lit undef), (40, .lit undef), (37, .lit undef), (36, .lit undef), (35, .lit undef), (34, .lit undef), (33, .lit undef), (32, .lit undef), (31, .lit undef), (30, .lit undef), (29, .lit undef), (28, .lit undef), (27, .lit undef), (26, .lit undef), (25, .lit undef), (0, A a0), (1, A a1), (10, A a1), (11, I (a1.length : Int)), (12, I x4)] [sc 0 v8] ?_
 refine qn 52 [(0, A a0), (1, A a1), (10, A a1), (11, I (a1.length : Int)), (12, I x4), (25, .lit undef), (26, .lit undef), (27, .lit undef), (28, .lit undef), (29, .lit undef), (30, .lit undef), (31, .lit undef), (32, .lit undef), (33, .lit undef), (34, .lit undef), (35, .lit undef), (36, .lit undef), (37, .lit undef), (40, .lit undef), (41, .lit undef), (42, .lit undef), (43, .lit undef), (44, .lit undef), (45, .lit undef), (46, .lit undef), (47, .lit undef), (48, .lit undef), (49, .lit undef), (50, B true)] [sc 0 v8] ?_
 exact ⟨true, h, it [0, 1, 10, 11, 12, 50]⟩
 replace h := bF hc26 h
 rw [hc26]
 refine qvM [6] [] trivial 3 52 [(27, B (decide (x4 > 0))), (26, B (decide (x4 > 0))), (25, I x4), (24, B false), (0, A a0), (1, A a1), (5, I x4), (6, .ptr 0 0 0), (10, A a1), (11, I (a1.length : Int)), (12, I x4)] [sc 0 v8] ?_
 rcases fk (decide (x4 > 0)) with hc25 | hc25
 replace h := bT hc25 h
 rw [hc25]
 refine qvM [6] [] trivial 3 52 [(30, I (w64 (x4 - 1))), (29, I x4), (28, A a1), (27, B true), (26, B true), (25, I x4), (24, B false), (0, A a0), (1, A a1), (6, .ptr 0 0 0), (10, A a1), (11, I (a1.length : Int)), (12, I x4)] [sc 0 v8] ?_
 obtain ⟨v14, hv15, h⟩ := bindS h
 refine qX (some 31) (pf v14 0) 52 [(31, pf v14 0), (30, I (w64 (x4 - 1))), (29, I x4), (28, A a1), (27, B true), (26, B true), (25, I x4), (24, B false), (0, A a0), (1, A a1), (6, .ptr 0 0 0), (10, A a1), (11, I (a1.length : Int)), (12, I x4)] [sc 0 v8] (fun Γ' hΓ => CoreE.of_y (idxV_sound τ_ok (by kernel_rfl) hv15)) trivial ?_
 refine qvM [6] [] trivial 2 52 [(33, I v14.fIn), (32, pf v14 0), (31, pf v14 0), (30, I (w64 (x4 - 1))), (29, I x4), (28, A a1), (27, B true), (26, B true), (25, I x4), (24, B false), (0, A a0), (1, A a1), (6, .ptr 0 0 0), (10, A a1), (11, I (a1.length : Int)), (12, I x4)] [sc 0 v8] ?_
 refine qvM [6] [0] (hB trivial) 2 52 [(35, I v8.fIn), (34, .ptr 0 0 0), (33, I v14.fIn), (32, pf v14 0), (31, pf v14 0), (30, I (w64 (x4 - 1))), (29, I x4), (28, A a1), (27, B true), (26, B true), (25, I x4), (24, B false), (0, A a0), (1, A a1), (6, .ptr 0 0 0), (10, A a1), (11, I (a1.length : Int)), (12, I x4)] [sc 0 v8] ?_
 refine qvM [6] [] trivial 4 52 [(39, B (decide (v14.fIn ≥ v8.fIn))), (37, B (decide (v14.fIn ≥ v8.fIn))), (36, B (decide (v14.fIn ≥ v8.fIn))), (35, I v8.fIn), (34, .ptr 0 0 0), (33, I v14.fIn), (32, pf v14 0), (31, pf v14 0), (30, I (w64 (x4 - 1))), (29, I x4), (28, A a1), (27, B true), (26, B true), (25, I x4), (0, A a0), (1, A a1), (6, .ptr 0 0 0), (10, A a1), (11, I (a1.length : Int)), (12, I x4)] [sc 0 v8] ?_
 rcases fk (decide (v14.fIn ≥ v8.fIn)) with hc20 | hc20
 replace h := bT hc20 h
 rw [hc20]
 refine qvM [6] [] trivial 1 52 [(40, .lit undef), (39, B true), (37, B true), (36, B true), (35, I v8.fIn), (34, .ptr 0 0 0), (33, I v14.fIn), (32, pf v14 0), (31, pf v14 0), (30, I (w64 (x4 - 1))), (29, I x4), (28, A a1), (27, B true), (26, B true), (25, I x4), (0, A a0), (1, A a1), (6, .ptr 0 0 0), (10, A a1), (11, I (a1.length : Int)), (12, I x4)] [sc 0 v8] ?_
 refine qvM [6] [0] (hB trivial) 2 52 [(42, .lit undef), (41, .lit undef), (40, .lit undef), (39, B true), (37, B true), (36, B true), (35, I v8.fIn), (34, .ptr 0 0 0), (33, I v14.fIn), (32, pf v14 0), (31, pf v14 0), (30, I (w64 (x4 - 1))), (29, I x4), (28, A a1), (27, B true), (26, B true), (25, I x4), (0, A a0), (1, A a1), (6, .ptr 0 0 0), (10, A a1), (11, I (a1.length : Int)), (12, I x4)] [sc 0 v8] ?_
 refine qvM [6] [] trivial 3 52 [(45, .lit undef), (44, .lit undef), (43, .lit undef), (42, .lit undef), (41, .lit undef), (40, .lit undef), (39, B true), (37, B true), (36, B true), (35, I v8.fIn), (34, .ptr 0 0 0), (33, I v14.fIn), (32, pf v14 0), (31, pf v14 0), (30, I (w64 (x4 - 1))), (29, I x4), (28, A a1), (27, B true), (26, B true), (25, I x4), (0, A a0), (1, A a1), (6, .ptr 0 0 0), (10, A a1), (11, I (a1.length : Int)), (12, I x4)] [sc 0 v8] ?_
 refine qvM [6] [0] (hB trivial) 2 52 [(47, .lit undef), (46, .lit undef), (45, .lit undef), (44, .lit undef), (43, .lit undef), (42, .lit undef), (41, .lit undef), (40, .lit undef), (39, B true), (37, B true), (36, B true), (35, I v8.fIn), (34, .ptr 0 0 0), (33, I v14.fIn), (32, pf v14 0), (31, pf v14 0), (30, I (w64 (x4 - 1))), (29, I x4), (28, A a1), (27, B true), (26, B true), (25, I x4), (0, A a0), (1, A a1), (10, A a1), (11, I (a1.length : Int)), (12, I x4)] [sc 0 v8] ?_
 refine qvM [6] [] trivial 3 52 [(50, B true), (49, .lit undef), (48, .lit undef), (47, .lit undef), (46, .lit undef), (45, .lit undef), (44, .lit undef), (43, .lit undef), (42, .lit undef), (41, .lit undef), (40, .lit undef), (37, B true), (36, B true), (35, I v8.fIn), (34, .ptr 0 0 0), (33, I v14.fIn), (32, pf v14 0), (31, pf v14 0), (30, I (w64 (x4 - 1))), (29, I x4), (28, A a1), (27, B true), (26, B true), (25, I x4), (0, A a0), (1, A a1), (10, A a1), (11, I (a1.length : Int)), (12, I x4)] [sc 0 v8] ?_
 refine qn 52 [(0, A a0), (1, A a1), (10, A a1), (11, I (a1.length : Int)), (12, I x4), (25, I x4), (26, B true), (27, B true), (28, A a1), (29, I x4), (30, I (w64 (x4 - 1))), (31, pf v14 0), (32, pf v14 0), (33, I v14.fIn), (34, .ptr 0 0 0), (35, I v8.fIn), (36, B true), (37, B true), (40, .lit undef), (41, .lit undef), (42, .lit undef), (43, .lit undef), (44, .lit undef), (45, .lit undef), (46, .lit undef), (47, .lit undef), (48, .lit undef), (49, .lit undef), (50, B true)] [sc 0 v8] ?_
 exact ⟨true, h, it [0, 1, 10, 11, 12, 50]⟩
 replace h := bF hc20 h
 rw [hc20]
 refine qvM [6] [] trivial 1 52 [(40, A a0), (39, B false), (37, B false), (36, B false), (35, I v8.fIn), (34, .ptr 0 0 0), (33, I v14.fIn), (32, pf v14 0), (31, pf v14 0), (30, I (w64 (x4 - 1))), (29, I x4), (28, A a1), (27, B true), (26, B true), (25, I x4), (0, A a0), (1, A a1), (6, .ptr 0 0 0), (10, A a1), (11, I (a1.length : Int)), (12, I x4)] [sc 0 v8] ?_
 refine qvM [6] [0] (hB trivial) 2 52 [(42, I v8.fIn), (41, .ptr 0 0 0), (40, A a0), (39, B false), (37, B false), (36, B false), (35, I v8.fIn), (34, .ptr 0 0 0), (33, I v14.fIn), (32, pf v14 0), (31, pf v14 0), (30, I (w64 (x4 - 1))), (29, I x4), (28, A a1), (27, B true), (26, B true), (25, I x4), (0, A a0), (1, A a1), (6, .ptr 0 0 0), (10, A a1), (11, I (a1.length : Int)), (12, I x4)] [sc 0 v8] ?_
 obtain ⟨v16, hv17, h⟩ := bindS h
 refine qX (some 43) (pf v16 0) 52 [(43, pf v16 0), (42, I v8.fIn), (41, .ptr 0 0 0), (40, A a0), (39, B false), (37, B false), (36, B false), (35, I v8.fIn), (34, .ptr 0 0 0), (33, I v14.fIn), (32, pf v14 0), (31, pf v14 0), (30, I (w64 (x4 - 1))), (29, I x4), (28, A a1), (27, B true), (26, B true), (25, I x4), (0, A a0), (1, A a1), (6, .ptr 0 0 0), (10, A a1), (11, I (a1.length : Int)), (12, I x4)] [sc 0 v8] (fun Γ' hΓ => CoreE.of_y (idxV_sound τ_ok (by kernel_rfl) hv17)) trivial ?_
 refine qvM [6] [] trivial 2 52 [(45, A v16.fColumns), (44, pf v16 0), (43, pf v16 0), (42, I v8.fIn), (41, .ptr 0 0 0), (40, A a0), (39, B false), (37, B false), (36, B false), (35, I v8.fIn), (34, .ptr 0 0 0), (33, I v14.fIn), (32, pf v14 0), (31, pf v14 0), (30, I (w64 (x4 - 1))), (29, I x4), (28, A a1), (27, B true), (26, B true), (25, I x4), (0, A a0), (1, A a1), (6, .ptr 0 0 0), (10, A a1), (11, I (a1.length : Int)), (12, I x4)] [sc 0 v8] ?_
 refine qvM [6] [0] (hB trivial) 2 52 [(47, A v8.fE), (46, .ptr 0 0 1), (45, A v16.fColumns), (44, pf v16 0), (43, pf v16 0), (42, I v8.fIn), (41, .ptr 0 0 0), (40, A a0), (39, B false), (37, B false), (36, B false), (35, I v8.fIn), (34, .ptr 0 0 0), (33, I v14.fIn), (32, pf v14 0), (31, pf v14 0), (30, I (w64 (x4 - 1))), (29, I x4), (28, A a1), (27, B true), (26, B true), (25, I x4), (0, A a0), (1, A a1), (10, A a1), (11, I (a1.length : Int)), (12, I x4)] [sc 0 v8] ?_
 obtain ⟨v18, hv19, h⟩ := bindS h
 refine qX (some 48) (I v18) 52 [(48, I v18), (47, A v8.fE), (46, .ptr 0 0 1), (45, A v16.fColumns), (44, pf v16 0), (43, pf v16 0), (42, I v8.fIn), (41, .ptr 0 0 0), (40, A a0), (39, B false), (37, B false), (36, B false), (35, I v8.fIn), (34, .ptr 0 0 0), (33, I v14.fIn), (32, pf v14 0), (31, pf v14 0), (30, I (w64 (x4 - 1))), (29, I x4), (28, A a1), (27, B true), (26, B true), (25, I x4), (0, A a0), (1, A a1), (10, A a1), (11, I (a1.length : Int)), (12, I x4)] [sc 0 v8] (fun Γ' hΓ => CoreE.of_g (callV_sound (τ := τ) (by kernel_rfl) rfl (ok_impl_ExprKind hv19) (FzTo.frz rfl))) trivial ?_
 refine qvnM [6] [] trivial 2 52 [(0, A a0), (1, A a1), (10, A a1), (11, I (a1.length : Int)), (12, I x4), (25, I x4), (26, B true), (27, B true), (28, A a1), (29, I x4), (30, I (w64 (x4 - 1))), (31, pf v14 0), (32, pf v14 0), (33, I v14.fIn), (34, .ptr 0 0 0), (35, I v8.fIn), (36, B false), (37, B false), (40, A a0), (41, .ptr 0 0 0), (42, I v8.fIn), (43, pf v16 0), (44, pf v16 0), (45, A v16.fColumns), (46, .ptr 0 0 1), (47, A v8.fE), (48, I v18), (49, B (!(v18 == 3))), (50, B (!(v18 == 3)))] [sc 0 v8] ?_
 exact ⟨(!(v18 == 3)), h, it [0, 1, 10, 11, 12, 50]⟩
 replace h := bF hc25 h
 rw [hc25]
 refine qvM [6] [] trivial 6 52 [(33, .lit undef), (32, .lit undef), (31, .lit undef), (30, .lit undef), (29, .lit undef), (28, .lit undef), (27, B false), (26, B false), (25, I x4), (24, B false), (0, A a0), (1, A a1), (6, .ptr 0 0 0), (10, A a1), (11, I (a1.length : Int)), (12, I x4)] [sc 0 v8] ?_
 refine qvM [6] [0] (hB trivial) 2 52 [(35, .lit undef), (34, .lit undef), (33, .lit undef), (32, .lit undef), (31, .lit undef), (30, .lit undef), (29, .lit undef), (28, .lit undef), (27, B false), (26, B false), (25, I x4), (24, B false), (0, A a0), (1, A a1), (6, .ptr 0 0 0), (10, A a1), (11, I (a1.length : Int)), (12, I x4)] [sc 0 v8] ?_
 refine qvM [6] [] trivial 5 52 [(40, A a0), (39, B false), (37, B false), (36, .lit undef), (35, .lit undef), (34, .lit undef), (33, .lit undef), (32, .lit undef), (31, .lit undef), (30, .lit undef), (29, .lit undef), (28, .lit undef), (27, B false), (26, B false), (25, I x4), (0, A a0), (1, A a1), (6, .ptr 0 0 0), (10, A a1), (11, I (a1.length : Int)), (12, I x4)] [sc 0 v8] ?_
 refine qvM [6] [0] (hB trivial) 2 52 [(42, I v8.fIn), (41, .ptr 0 0 0), (40, A a0), (39, B false), (37, B false), (36, .lit undef), (35, .lit undef), (34, .lit undef), (33, .lit undef), (32, .lit undef), (31, .lit undef), (30, .lit undef), (29, .lit undef), (28, .lit undef), (27, B false), (26, B false), (25, I x4), (0, A a0), (1, A a1), (6, .ptr 0 0 0), (10, A a1), (11, I (a1.length : Int)), (12, I x4)] [sc 0 v8] ?_
 obtain ⟨v21, hv22, h⟩ := bindS h
 refine qX (some 43) (pf v21 0) 52 [(43, pf v21 0), (42, I v8.fIn), (41, .ptr 0 0 0), (40, A a0), (39, B false), (37, B false), (36, .lit undef), (35, .lit undef), (34, .lit undef), (33, .lit undef), (32, .lit undef), (31, .lit undef), (30, .lit undef), (29, .lit undef), (28, .lit undef), (27, B false), (26, B false), (25, I x4), (0, A a0), (1, A a1), (6, .ptr 0 0 0), (10, A a1), (11, I (a1.length : Int)), (12, I x4)] [sc 0 v8] (fun Γ' hΓ => CoreE.of_y (idxV_sound τ_ok (by kernel_rfl) hv22)) trivial ?_
 refine qvM [6] [] trivial 2 52 [(45, A v21.fColumns), (44, pf v21 0), (43, pf v21 0), (42, I v8.fIn), (41, .ptr 0 0 0), (40, A a0), (39, B false), (37, B false), (36, .lit undef), (35, .lit undef), (34, .lit undef), (33, .lit undef), (32, .lit undef), (31, .lit undef), (30, .lit undef), (29, .lit undef), (28, .lit undef), (27, B false), (26, B false), (25, I x4), (0, A a0), (1, A a1), (6, .ptr 0 0 0), (10, A a1), (11, I (a1.length : Int)), (12, I x4)] [sc 0 v8] ?_
 refine qvM [6] [0] (hB trivial) 2 52 [(47, A v8.fE), (46, .ptr 0 0 1), (45, A v21.fColumns), (44, pf v21 0), (43, pf v21 0), (42, I v8.fIn), (41, .ptr 0 0 0), (40, A a0), (39, B false), (37, B false), (36, .lit undef), (35, .lit undef), (34, .lit undef), (33, .lit undef), (32, .lit undef), (31, .lit undef), (30, .lit undef), (29, .lit undef), (28, .lit undef), (27, B false), (26, B false), (25, I x4), (0, A a0), (1, A a1), (10, A a1), (11, I (a1.length : Int)), (12, I x4)] [sc 0 v8] ?_
 obtain ⟨v23, hv24, h⟩ := bindS h
 refine qX (some 48) (I v23) 52 [(48, I v23), (47, A v8.fE), (46, .ptr 0 0 1), (45, A v21.fColumns), (44, pf v21 0), (43, pf v21 0), (42, I v8.fIn), (41, .ptr 0 0 0), (40, A a0), (39, B false), (37, B false), (36, .lit undef), (35, .lit undef), (34, .lit undef), (33, .lit undef), (32, .lit undef), (31, .lit undef), (30, .lit undef), (29, .lit undef), (28, .lit undef), (27, B false), (26, B false), (25, I x4), (0, A a0), (1, A a1), (10, A a1), (11, I (a1.length : Int)), (12, I x4)] [sc 0 v8] (fun Γ' hΓ => CoreE.of_g (callV_sound (τ := τ) (by kernel_rfl) rfl (ok_impl_ExprKind hv24) (FzTo.frz rfl))) trivial ?_
 refine qvnM [6] [] trivial 2 52 [(0, A a0), (1, A a1), (10, A a1), (11, I (a1.length : Int)), (12, I x4), (25, I x4), (26, B false), (27, B false), (28, .lit undef), (29, .lit undef), (30, .lit undef), (31, .lit undef), (32, .lit undef), (33, .lit undef), (34, .lit undef), (35, .lit undef), (36, .lit undef), (37, B false), (40, A a0), (41, .ptr 0 0 0), (42, I v8.fIn), (43, pf v21 0), (44, pf v21 0), (45, A v21.fColumns), (46, .ptr 0 0 1), (47, A v8.fE), (48, I v23), (49, B (!(v23 == 3))), (50, B (!(v23 == 3)))] [sc 0 v8] ?_
 exact ⟨(!(v23 == 3)), h, it [0, 1, 10, 11, 12, 50]⟩
 rintro x10 h
 unfold impl_GuardsOk_j1 at h
 refine pc h (fun h => ?_) (fun h => ?_)
 refine srveM [6] 52 [(4, B false)] [sc 0 v8] ?_
 cases h
 exact pwp_ret rz
 refine pwp_skip ?_
 refine rveM [6] 52 [(0, A a0), (1, A a1), (10, A a1), (11, I (a1.length : Int)), (12, I (w64 (x4 + 1)))] [sc 0 v8] ?_
 exact ⟨(f5, (w64 (x4 + 1))), h, Nat.lt_succ_self _, (it (st' := ⟨52, [(0, A a0), (1, A a1), (10, A a1), (11, I (a1.length : Int)), (12, I (w64 (x4 + 1)))], [sc 0 v8]⟩) [0, 1, 10, 11, 12]).trans (Imp.truncS 0 (nx hX) (by kernel_rfl) (allBelow_mem (by exact (And.intro rfl (And.intro rfl (And.intro rfl (And.intro rfl (And.intro rfl trivial))))))) (by exact trivial) (by kernel_rfl))⟩
 refine pwp_exit ?_
 refine srveM [6] 52 [(4, B true)] [] ?_
 cases h
 exact pwp_ret rz
def impl_TablesSeen_1 (a0 : List T_impl_Value) (b0 : T_impl_Guard) : Option Bool := (impl_exprHolds a0 b0.fE).bind fun v1 => some v1
theorem ok_impl_TablesSeen_1 {a0 : List T_impl_Value} {b0 : T_impl_Guard} {y : Bool} (h : impl_TablesSeen_1 a0 b0 = some y) : OK Tryz.prog 44 [A a0, pf b0 0] (B y) := by
 refine ow Tryz.func44 fun Γ hX => ?_
 unfold impl_TablesSeen_1 at h
 refine srve 8 [(0, A a0), (1, pf b0 0)] [] ?_
 refine srv 3 8 [(4, A a0), (6, A b0.fE)] [] ?_
 obtain ⟨v1, hv2, h⟩ := bindS h
 refine cF 7 (ok_impl_exprHolds hv2) ?_
 refine ve 1 8 [(3, B v1)] [] ?_
 cases h
 exact pwp_ret rz
def impl_TablesSeen_l0 (a1 : List T_impl_Guard) : Nat → Int → (List T_impl_Table) → Option (List T_impl_Table)
 | 0, _, _ => none
 | f9 + 1, x7, x8 => bif (decide (x7 < (a1.length : Int))) then (getI a1 x7).bind fun v12 => (getI x8 v12.fIn).bind fun v14 => (impl_kept v14.fRows (fun z0 => impl_TablesSeen_1 z0 v12)).bind fun v16 => (getI x8 v12.fIn).bind fun v18 => (impl_TablesSeen_l0 a1 f9) (w64 (x7 + 1)) (x8.set v12.fIn.toNat ({ v18 with fRows := v16 } : T_impl_Table)) else some x8
def impl_TablesSeen (a0 : List T_impl_Table) (a1 : List T_impl_Guard) : Option (List T_impl_Table) := (impl_GuardsOk a0 a1).bind fun v1 => bif (!v1) then some ([] : List T_impl_Table) else (impl_tablesCopy_R a0).bind fun v4 => impl_TablesSeen_l0 a1 FUEL 0 v4
theorem ok_impl_TablesSeen {a0 : List T_impl_Table} {a1 : List T_impl_Guard} {y : List T_impl_Table} (h : impl_TablesSeen a0 a1 = some y) : OK Tryz.prog 10 [A a0, A a1] (O y) := by
 refine ow Tryz.func10 fun Γ hX => ?_
 unfold impl_TablesSeen at h
 refine srveM [7] 35 [(0, A a0), (1, A a1)] [] ?_
 refine pwp_seq ?_
 refine srvM [7] 2 35 [(0, A a0), (1, A a1), (8, A a0), (9, A a1)] [] ?_
 obtain ⟨v1, hv2, h⟩ := bindS h
 refine cF 10 (ok_impl_GuardsOk hv2) ?_
 refine veM [7] 1 35 [(0, A a0), (1, A a1), (11, B (!v1))] [] ?_
 refine pc h (fun h => ?_) (fun h => ?_)
 refine srveM [7] 35 [(4, .arr 2 0 (eL ([] : List T_impl_Table)) true)] [] ?_
 refine ip 35 [(4, .arr 2 0 (eL ([] : List T_impl_Table)) true)] [] ?_
 refine pwp_imp (Imp.thawS (st' := ⟨35, [(4, .ref 0 0 0 2 ([] : List T_impl_Table).length false)], [some ⟨0, eL ([] : List T_impl_Table)⟩]⟩) 4 [4] (by kernel_rfl)) ?_
 have h := si h
 subst h
 exact pwp_ret (rt (.ref 0 0 0 2 ([] : List T_impl_Table).length false) (OutP.list (v := 0) (by kernel_rfl)))
 refine pwp_skip ?_
 refine srvM [7] 1 35 [(1, A a1), (12, A a0)] [] ?_
 obtain ⟨v4, hv5, h⟩ := bindS h
 refine opsP_callO τ 13 (ok_impl_tablesCopy_R hv5) rfl (by kernel_rfl) ?_
 refine veM [7] 1 35 [(1, A a1), (5, rf 0 0 2 v4)] [sl 0 v4] ?_
 refine pwp_seq ?_
 refine srveM [7] 35 [(5, rf 0 0 2 v4), (14, A a1), (15, I (a1.length : Int)), (16, I 0)] [sl 0 v4] ?_
 refine pwp_block ?_
 refine pwp_loop (ι := Nat × Int × (List T_impl_Table)) (fun (f9, x7, x8) => (⟨35, [(5, rf 0 0 2 x8), (14, A a1), (15, I (a1.length : Int)), (16, I x7)], [sl 0 x8]⟩ : St)) (fun (f9, x7, x8) => impl_TablesSeen_l0 a1 f9 x7 x8 = some y) Prod.fst (FUEL, 0, v4) h (it [5, 14, 15, 16]) ?_
 rintro ⟨f9, x7, x8⟩ h
 dsimp only at h ⊢
 rcases f9 with _ | f9
 cases h
 rw [impl_TablesSeen_l0] at h
 refine srveM [7] 35 [(5, rf 0 0 2 x8), (14, A a1), (15, I (a1.length : Int)), (16, I x7), (17, B (decide (x7 < (a1.length : Int))))] [sl 0 x8] ?_
 refine pwp_seq ?_
 refine pc h (fun h => ?_) (fun h => ?_)
 refine pwp_skip ?_
 refine pwp_seq ?_
 refine pwp_block ?_
 refine pwp_seq ?_
 refine pwp_region ?_
 obtain ⟨v12, hv13, h⟩ := bindS h
 refine opsP_idx τ_ok 18 hv13 (by kernel_rfl) ?_
 refine veM [7] 3 35 [(5, rf 0 0 2 x8), (7, .ptr 1 0 0), (14, A a1), (15, I (a1.length : Int)), (16, I x7)] [sl 0 x8, sc 0 v12] ?_
 refine ip 35 [(5, rf 0 0 2 x8), (7, .ptr 1 0 0), (14, A a1), (15, I (a1.length : Int)), (16, I x7)] [sl 0 x8, sc 0 v12] ?_
 refine pwp_imp (Imp.freezeB (v := 0) (cs := Enc.cells v12) (st' := ⟨35, [(5, rf 0 0 2 x8), (7, pf v12 0), (14, A a1), (15, I (a1.length : Int)), (16, I x7)], [sl 0 x8, none]⟩) 1 0 (nx hX) (by kernel_rfl) (Enc.frz _) (wholeC (whole_ne rfl) (wholeC (whole_noRef (by kernel_rfl)) (wholeC (whole_noRef (by kernel_rfl)) (wholeC (whole_noRef (by kernel_rfl)) (wholeC (whole_noRef (by kernel_rfl)) wholeC0))))) (HpRel.frz rfl (eL_frz _) (HpRel.key HpRel.nil)) (by kernel_rfl) rfl (nx hX)) ?_
 refine ip 35 [(5, rf 0 0 2 x8), (7, pf v12 0), (14, A a1), (15, I (a1.length : Int)), (16, I x7)] [sl 0 x8, none] ?_
 refine pwp_any ([[0], [], [], [0], [], [], [0], [0], [0], [], [], [0], [0], [0]]) ([[], [], [], [], [], [], [], [], [], [], [], [], [], [0]]) rfl (by kernel_rfl) ?_
 refine qvM [7] [0] (hL trivial) 1 35 [(20, rf 0 0 2 x8), (5, rf 0 0 2 x8), (7, pf v12 0), (14, A a1), (15, I (a1.length : Int)), (16, I x7)] [sl 0 x8, none] ?_
 refine qvM [7] [] trivial 2 35 [(22, I v12.fIn), (20, rf 0 0 2 x8), (5, rf 0 0 2 x8), (7, pf v12 0), (14, A a1), (15, I (a1.length : Int)), (16, I x7)] [sl 0 x8, none] ?_
 refine qvM [7] [0] (hL trivial) 1 35 [(23, rf 0 0 2 x8), (22, I v12.fIn), (20, rf 0 0 2 x8), (5, rf 0 0 2 x8), (7, pf v12 0), (14, A a1), (15, I (a1.length : Int)), (16, I x7)] [sl 0 x8, none] ?_
 refine qvM [7] [] trivial 2 35 [(25, I v12.fIn), (23, rf 0 0 2 x8), (22, I v12.fIn), (20, rf 0 0 2 x8), (5, rf 0 0 2 x8), (7, pf v12 0), (14, A a1), (15, I (a1.length : Int)), (16, I x7)] [sl 0 x8, none] ?_
 obtain ⟨v14, hv15, h⟩ := bindS h
 refine qX (some 26) (.ptr 0 0 (v12.fIn.toNat * 2)) 35 [(26, .ptr 0 0 (v12.fIn.toNat * 2)), (22, I v12.fIn), (20, rf 0 0 2 x8), (5, rf 0 0 2 x8), (7, pf v12 0), (14, A a1), (15, I (a1.length : Int)), (16, I x7)] [sl 0 x8, none] (fun Γ' hΓ => CoreE.of_y (idrV_sound (n := x8.length) τ_ok (by kernel_rfl) hv15 rfl)) (hL trivial) ?_
 refine qvM [7] [0] (hL trivial) 1 35 [(27, .ptr 0 0 (v12.fIn.toNat * 2 + 1)), (22, I v12.fIn), (20, rf 0 0 2 x8), (5, rf 0 0 2 x8), (7, pf v12 0), (14, A a1), (15, I (a1.length : Int)), (16, I x7)] [sl 0 x8, none] ?_
 refine qX (some 28) (A v14.fRows) 35 [(28, A v14.fRows), (22, I v12.fIn), (20, rf 0 0 2 x8), (5, rf 0 0 2 x8), (7, pf v12 0), (14, A a1), (15, I (a1.length : Int)), (16, I x7)] [sl 0 x8, none] (fun Γ' hΓ => CoreE.of_y (ldeV_sound (t := 31) (o' := 1) (r := A v14.fRows) τ_ok hv15 (by kernel_rfl) (by kernel_rfl))) (hL trivial) ?_
 refine qvM [7] [] trivial 1 35 [(29, .fn 44 [pf v12 0]), (28, A v14.fRows), (22, I v12.fIn), (20, rf 0 0 2 x8), (5, rf 0 0 2 x8), (14, A a1), (15, I (a1.length : Int)), (16, I x7)] [sl 0 x8, none] ?_
 obtain ⟨v16, hv17, h⟩ := bindS h
 refine qX (some 30) (A v16) 35 [(30, A v16), (22, I v12.fIn), (20, rf 0 0 2 x8), (5, rf 0 0 2 x8), (14, A a1), (15, I (a1.length : Int)), (16, I x7)] [sl 0 x8, none] (fun Γ' hΓ => CoreE.of_g (callV_sound (τ := τ) (by kernel_rfl) rfl (ok_impl_kept (rfl) (fun _ w hw => ok_impl_TablesSeen_1 hw) hv17) (FzTo.frz rfl))) trivial ?_
 obtain ⟨v18, hv19, h⟩ := bindS h
 refine qX (some 31) (.ptr 0 0 (v12.fIn.toNat * 2)) 35 [(31, .ptr 0 0 (v12.fIn.toNat * 2)), (30, A v16), (5, rf 0 0 2 x8), (14, A a1), (15, I (a1.length : Int)), (16, I x7)] [sl 0 x8, none] (fun Γ' hΓ => CoreE.of_y (idrV_sound (n := x8.length) τ_ok (by kernel_rfl) hv19 rfl)) (hL trivial) ?_
 refine qvM [7] [0] (hL trivial) 1 35 [(32, .ptr 0 0 (v12.fIn.toNat * 2 + 1)), (30, A v16), (5, rf 0 0 2 x8), (14, A a1), (15, I (a1.length : Int)), (16, I x7)] [sl 0 x8, none] ?_
 refine qX none (.any) 35 [(5, rf 0 0 2 x8), (14, A a1), (15, I (a1.length : Int)), (16, I x7)] [some ⟨0, eL (x8.set v12.fIn.toNat ({ v18 with fRows := v16 } : T_impl_Table))⟩, none] (fun Γ' hΓ => ste_E (vs := [A v16]) τ_ok 31 0 0 1 ({ v18 with fRows := v16 } : T_impl_Table) hv19 (by kernel_rfl) (by kernel_rfl) (by kernel_rfl)) (hL trivial) ?_
 refine qA_ren (st' := ⟨35, [(5, .ref 0 0 0 2 (x8.set v12.fIn.toNat ({ v18 with fRows := v16 } : T_impl_Table)).length false), (14, A a1), (15, I (a1.length : Int)), (16, I x7)], [some ⟨0, eL (x8.set v12.fIn.toNat ({ v18 with fRows := v16 } : T_impl_Table))⟩, none]⟩) 0 (x8.set v12.fIn.toNat ({ v18 with fRows := v16 } : T_impl_Table)).length (renC (ren_ref (List.length_set ..).symm) (renC trivial (renC trivial (renC trivial renC0)))) (by kernel_rfl) ?_
 refine qn 35 [(5, .ref 0 0 0 2 (x8.set v12.fIn.toNat ({ v18 with fRows := v16 } : T_impl_Table)).length false), (14, A a1), (15, I (a1.length : Int)), (16, I x7)] [some ⟨0, eL (x8.set v12.fIn.toNat ({ v18 with fRows := v16 } : T_impl_Table))⟩, none] ?_
 refine rveM [7] 35 [(5, .ref 0 0 0 2 (x8.set v12.fIn.toNat ({ v18 with fRows := v16 } : T_impl_Table)).length false), (14, A a1), (15, I (a1.length : Int)), (16, I (w64 (x7 + 1)))] [some ⟨0, eL (x8.set v12.fIn.toNat ({ v18 with fRows := v16 } : T_impl_Table))⟩, none] ?_
 exact ⟨(f9, (w64 (x7 + 1)), (x8.set v12.fIn.toNat ({ v18 with fRows := v16 } : T_impl_Table))), h, Nat.lt_succ_self _, (it (st' := ⟨35, [(5, .ref 0 0 0 2 (x8.set v12.fIn.toNat ({ v18 with fRows := v16 } : T_impl_Table)).length false), (14, A a1), (15, I (a1.length : Int)), (16, I (w64 (x7 + 1)))], [some ⟨0, eL (x8.set v12.fIn.toNat ({ v18 with fRows := v16 } : T_impl_Table))⟩, none]⟩) [5, 14, 15, 16]).trans (Imp.truncS 1 (nx hX) (by kernel_rfl) (allBelow_mem (by exact (And.intro rfl (And.intro rfl (And.intro rfl (And.intro rfl trivial)))))) (by exact (And.intro (frz_below (eL_frz _)) trivial)) (by kernel_rfl))⟩
 refine pwp_exit ?_
 refine srveM [7] 35 [(4, rf 0 0 2 x8)] [sl 0 x8] ?_
 have h := si h
 subst h
 exact pwp_ret (rt (rf 0 0 2 x8) (OutP.list (v := 0) (by kernel_rfl)))
def laws_FnTablesSeen_l0 (v2 : (List T_impl_Table) × (List T_impl_Guard)) (v4 : List T_impl_Table) : Nat → Int → Option Bool
 | 0, _ => none
 | f21 + 1, x20 => bif (decide (x20 < (v2.1.length : Int))) then (getI v4 x20).bind fun v24 => (getI v2.1 x20).bind fun v26 => (impl_RowsLess v24.fRows v26.fRows).bind fun v28 => bif (decide ((v28.length : Int) > 0)) then some false else (laws_FnTablesSeen_l0 v2 v4 f21) (w64 (x20 + 1)) else (impl_TablesOk v4).bind fun v31 => bif v31 then (impl_TablesSeen v4 v2.2).bind fun v33 => (laws_sameTables v33 v4).bind fun v35 => bif v35 then (laws_alive).bind fun v37 => some v37 else some false else some false
def laws_FnTablesSeen (a0 : List UInt8) : Option Bool := bif (decide ((a0.length : Int) > 1048576)) then some true else (spec_DrawTablesSeen a0).bind fun v2 => (impl_TablesSeen v2.1 v2.2).bind fun v4 => (spec_TablesSeen v2.1 v2.2).bind fun v6 => (laws_sameTables v4 v6).bind fun v8 => bif (!v8) then some false else bif ((v4.length : Int) == 0) then bif ((v2.1.length : Int) == 0) then (laws_alive).bind fun v12 => some v12 else (impl_GuardsOk v2.1 v2.2).bind fun v14 => bif (!v14) then (laws_alive).bind fun v16 => some v16 else some false else laws_FnTablesSeen_l0 v2 v4 FUEL 0
theorem ok_laws_FnTablesSeen {a0 : List UInt8} {y : Bool} (h : laws_FnTablesSeen a0 = some y) : OK Tryz.prog 3 [A a0] (B y) := by
 refine ow Tryz.func3 fun Γ hX => ?_
 unfold laws_FnTablesSeen at h
 refine srve 70 [(0, A a0)] [] ?_
 refine pwp_seq ?_
 refine srve 70 [(0, A a0), (9, B (decide ((a0.length : Int) > 1048576)))] [] ?_
 refine pc h (fun h => ?_) (fun h => ?_)
 refine srve 70 [(2, B true)] [] ?_
 cases h
 exact pwp_ret rz
 refine pwp_skip ?_
 refine srv 1 70 [(11, A a0)] [] ?_
 obtain ⟨v2, hv3, h⟩ := bindS h
 refine opsP_callF τ 12 (ok_spec_DrawTablesSeen hv3) (FzTo.tup (FzToL.cons (FzTo.frz rfl) (FzToL.cons (FzTo.frz rfl) FzToL.nil))) rfl (by kernel_rfl) ?_
 refine ve 5 70 [(3, A v2.1), (4, A v2.2)] [] ?_
 refine srv 2 70 [(3, A v2.1), (4, A v2.2), (15, A v2.1), (16, A v2.2)] [] ?_
 obtain ⟨v4, hv5, h⟩ := bindS h
 refine cFo 17 (ok_impl_TablesSeen hv5) ?_
 refine ve 1 70 [(3, A v2.1), (4, A v2.2), (5, A v4)] [] ?_
 refine pwp_seq ?_
 refine srv 3 70 [(3, A v2.1), (4, A v2.2), (5, A v4), (18, A v4), (19, A v2.1), (20, A v2.2)] [] ?_
 obtain ⟨v6, hv7, h⟩ := bindS h
 refine cFo 21 (ok_spec_TablesSeen hv7) ?_
 obtain ⟨v8, hv9, h⟩ := bindS h
 refine cF 22 (ok_laws_sameTables hv9) ?_
 refine ve 1 70 [(3, A v2.1), (4, A v2.2), (5, A v4), (23, B (!v8))] [] ?_
 refine pc h (fun h => ?_) (fun h => ?_)
 refine srve 70 [(2, B false)] [] ?_
 cases h
 exact pwp_ret rz
 refine pwp_skip ?_
 refine pwp_seq ?_
 refine srve 70 [(3, A v2.1), (4, A v2.2), (5, A v4), (26, B ((v4.length : Int) == 0))] [] ?_
 refine pc h (fun h => ?_) (fun h => ?_)
 refine srv 4 70 [(3, A v2.1), (4, A v2.2), (30, B ((v2.1.length : Int) == 0))] [] ?_
 rcases fk ((v2.1.length : Int) == 0) with hc19 | hc19
 replace h := bT hc19 h
 rw [hc19]
 refine v 6 70 [(36, B true)] [] ?_
 obtain ⟨v12, hv13, h⟩ := bindS h
 refine cF 37 (ok_laws_alive hv13) ?_
 refine ve 2 70 [(2, B v12)] [] ?_
 cases h
 exact pwp_ret rz
 replace h := bF hc19 h
 rw [hc19]
 refine v 2 70 [(30, B false), (31, A v2.1), (32, A v2.2)] [] ?_
 obtain ⟨v14, hv15, h⟩ := bindS h
 refine cF 33 (ok_impl_GuardsOk hv15) ?_
 refine v 3 70 [(36, B (!v14))] [] ?_
 rcases fk (!v14) with hc18 | hc18
 replace h := bT hc18 h
 rw [hc18]
 obtain ⟨v16, hv17, h⟩ := bindS h
 refine cF 37 (ok_laws_alive hv17) ?_
 refine ve 2 70 [(2, B v16)] [] ?_
 cases h
 exact pwp_ret rz
 replace h := bF hc18 h
 rw [hc18]
 refine ve 3 70 [(2, B false)] [] ?_
 cases h
 exact pwp_ret rz
 refine pwp_skip ?_
 refine pwp_seq ?_
 refine srve 70 [(3, A v2.1), (4, A v2.2), (5, A v4), (6, I 0)] [] ?_
 refine pwp_block ?_
 refine pwp_loop (ι := Nat × Int) (fun (f21, x20) => (⟨70, [(3, A v2.1), (4, A v2.2), (5, A v4), (6, I x20)], []⟩ : St)) (fun (f21, x20) => laws_FnTablesSeen_l0 v2 v4 f21 x20 = some y) Prod.fst (FUEL, 0) h (it [3, 4, 5, 6]) ?_
 rintro ⟨f21, x20⟩ h
 dsimp only at h ⊢
 rcases f21 with _ | f21
 cases h
 rw [laws_FnTablesSeen_l0] at h
 refine pwp_seq ?_
 refine srve 70 [(3, A v2.1), (4, A v2.2), (5, A v4), (6, I x20), (42, B (decide (x20 < (v2.1.length : Int))))] [] ?_
 refine pc h (fun h => ?_) (fun h => ?_)
 refine pwp_skip ?_
 refine pwp_seq ?_
 refine pwp_block ?_
 refine pwp_seq ?_
 refine ip 70 [(3, A v2.1), (4, A v2.2), (5, A v4), (6, I x20)] [] ?_
 refine pN 13 ?_
 refine qv [] trivial 2 70 [(46, I x20), (45, A v4), (3, A v2.1), (4, A v2.2), (5, A v4), (6, I x20)] [] ?_
 obtain ⟨v24, hv25, h⟩ := bindS h
 refine qX (some 47) (pf v24 0) 70 [(47, pf v24 0), (3, A v2.1), (4, A v2.2), (5, A v4), (6, I x20)] [] (fun Γ' hΓ => CoreE.of_y (idxV_sound τ_ok (by kernel_rfl) hv25)) trivial ?_
 refine qv [] trivial 4 70 [(51, I x20), (50, A v2.1), (49, A v24.fRows), (3, A v2.1), (4, A v2.2), (5, A v4), (6, I x20)] [] ?_
 obtain ⟨v26, hv27, h⟩ := bindS h
 refine qX (some 52) (pf v26 0) 70 [(52, pf v26 0), (49, A v24.fRows), (3, A v2.1), (4, A v2.2), (5, A v4), (6, I x20)] [] (fun Γ' hΓ => CoreE.of_y (idxV_sound τ_ok (by kernel_rfl) hv27)) trivial ?_
 refine qv [] trivial 2 70 [(54, A v26.fRows), (49, A v24.fRows), (3, A v2.1), (4, A v2.2), (5, A v4), (6, I x20)] [] ?_
 obtain ⟨v28, hv29, h⟩ := bindS h
 refine qX (some 55) (A v28) 70 [(55, A v28), (3, A v2.1), (4, A v2.2), (5, A v4), (6, I x20)] [] (fun Γ' hΓ => CoreE.of_g (callV_sound (τ := τ) (by kernel_rfl) rfl (ok_impl_RowsLess hv29) (FzTo.frz rfl))) trivial ?_
 refine qvn [] trivial 2 70 [(3, A v2.1), (4, A v2.2), (5, A v4), (6, I x20), (57, B (decide ((v28.length : Int) > 0)))] [] ?_
 refine pc h (fun h => ?_) (fun h => ?_)
 refine srve 70 [(2, B false)] [] ?_
 cases h
 exact pwp_ret rz
 refine pwp_skip ?_
 refine rve 70 [(3, A v2.1), (4, A v2.2), (5, A v4), (6, I (w64 (x20 + 1)))] [] ?_
 exact ⟨(f21, (w64 (x20 + 1))), h, Nat.lt_succ_self _, it [3, 4, 5, 6]⟩
 refine pwp_exit ?_
 refine srv 1 70 [(4, A v2.2), (5, A v4), (58, A v4)] [] ?_
 obtain ⟨v31, hv32, h⟩ := bindS h
 refine cF 59 (ok_impl_TablesOk hv32) ?_
 refine v 1 70 [(4, A v2.2), (5, A v4), (60, B v31)] [] ?_
 rcases Bool.eq_false_or_eq_true v31 with hc40 | hc40
 replace h := bT hc40 h
 rw [hc40]
 refine v 2 70 [(5, A v4), (60, B true), (61, A v4), (62, A v2.2)] [] ?_
 obtain ⟨v33, hv34, h⟩ := bindS h
 refine cFo 63 (ok_impl_TablesSeen hv34) ?_
 refine v 1 70 [(60, B true), (63, A v33), (64, A v4)] [] ?_
 obtain ⟨v35, hv36, h⟩ := bindS h
 refine cF 65 (ok_laws_sameTables hv36) ?_
 refine v 2 70 [(67, B v35)] [] ?_
 rcases Bool.eq_false_or_eq_true v35 with hc39 | hc39
 replace h := bT hc39 h
 rw [hc39]
 obtain ⟨v37, hv38, h⟩ := bindS h
 refine cF 68 (ok_laws_alive hv38) ?_
 refine ve 2 70 [(2, B v37)] [] ?_
 cases h
 exact pwp_ret rz
 replace h := bF hc39 h
 rw [hc39]
 refine ve 3 70 [(2, B false)] [] ?_
 cases h
 exact pwp_ret rz
 replace h := bF hc40 h
 rw [hc40]
 refine ve 10 70 [(2, B false)] [] ?_
 cases h
 exact pwp_ret rz
end Go.D
