import Derived.Test.YtjgeddgheonjbaaErDXT
import Derived.KernelRfl
set_option linter.unusedVariables false
set_option linter.unusedSimpArgs false
namespace Go.D
open Go.Proofs
def impl_between (a0 : Int) (a1 : Int) (a2 : Int) : Option Bool := bif (decide (a0 ≥ a1)) then some (decide (a0 ≤ a2)) else some false
theorem ok_impl_between {a0 : Int} {a1 : Int} {a2 : Int} {y : Bool} (h : impl_between a0 a1 a2 = some y) : OK Try.prog 49 [I a0, I a1, I a2] (B y) := by
 refine ow Try.func49 fun Γ hX => ?_
 unfold impl_between at h
 refine srve 15 [(0, I a0), (1, I a1), (2, I a2)] [] ?_
 refine srv 4 15 [(0, I a0), (2, I a2), (10, B (decide (a0 ≥ a1)))] [] ?_
 rcases fk (decide (a0 ≥ a1)) with hc1 | hc1
 replace h := bT hc1 h
 rw [hc1]
 refine ve 5 15 [(6, B (decide (a0 ≤ a2)))] [] ?_
 cases h
 exact pwp_ret rz
 replace h := bF hc1 h
 rw [hc1]
 refine ve 5 15 [(6, B false)] [] ?_
 cases h
 exact pwp_ret rz
def spec_l1In (a0 : Int) (a1 : Int) (a2 : Int) : Option Bool := bif (decide (a0 ≥ a1)) then some (decide (a0 ≤ a2)) else some false
theorem ok_spec_l1In {a0 : Int} {a1 : Int} {a2 : Int} {y : Bool} (h : spec_l1In a0 a1 a2 = some y) : OK Try.prog 53 [I a0, I a1, I a2] (B y) := by
 refine ow Try.func53 fun Γ hX => ?_
 unfold spec_l1In at h
 refine srve 15 [(0, I a0), (1, I a1), (2, I a2)] [] ?_
 refine srv 4 15 [(0, I a0), (2, I a2), (10, B (decide (a0 ≥ a1)))] [] ?_
 rcases fk (decide (a0 ≥ a1)) with hc1 | hc1
 replace h := bT hc1 h
 rw [hc1]
 refine ve 5 15 [(6, B (decide (a0 ≤ a2)))] [] ?_
 cases h
 exact pwp_ret rz
 replace h := bF hc1 h
 rw [hc1]
 refine ve 5 15 [(6, B false)] [] ?_
 cases h
 exact pwp_ret rz
def impl_seen_j1 (x2 : Int) (K4 : Int → Option (T_impl_Version × Bool)) (v6 : T_impl_Version) (x8 : Bool) : Option (T_impl_Version × Bool) := bif x8 then some (v6, true) else K4 (w64 (x2 + 1))
def impl_seen_l0 (a0 : List T_impl_Version) (a1 : Int) (a2 : Int) : Nat → Int → Option (T_impl_Version × Bool)
 | 0, _ => none
 | f3 + 1, x2 => bif (decide (x2 < (a0.length : Int))) then (getI a0 x2).bind fun v6 => bif (v6.fKey == a1) then bif (decide (v6.fBorn ≤ a2)) then bif (v6.fDied == 0) then impl_seen_j1 x2 (impl_seen_l0 a0 a1 a2 f3) v6 true else impl_seen_j1 x2 (impl_seen_l0 a0 a1 a2 f3) v6 (decide (v6.fDied > a2)) else impl_seen_j1 x2 (impl_seen_l0 a0 a1 a2 f3) v6 false else impl_seen_j1 x2 (impl_seen_l0 a0 a1 a2 f3) v6 false else some ((T_impl_Version.mk 0 0 0 []), false)
def impl_seen (a0 : List T_impl_Version) (a1 : Int) (a2 : Int) : Option (T_impl_Version × Bool) := impl_seen_l0 a0 a1 a2 FUEL 0
theorem ok_impl_seen {a0 : List T_impl_Version} {a1 : Int} {a2 : Int} {y : T_impl_Version × Bool} (h : impl_seen a0 a1 a2 = some y) : OK Try.prog 60 [A a0, I a1, I a2] (.tup [E y.1, B y.2]) := by
 refine ow Try.func60 fun Γ hX => ?_
 unfold impl_seen at h
 refine srveM [6, 9] 40 [(0, A a0), (1, I a1), (2, I a2), (6, .ptr 0 0 0)] [some ⟨0, Enc.cells (T_impl_Version.mk 0 0 0 [])⟩] ?_
 refine pwp_seq ?_
 refine srveM [6, 9] 40 [(1, I a1), (2, I a2), (6, .ptr 0 0 0), (10, A a0), (11, I (a0.length : Int)), (12, I 0)] [some ⟨0, Enc.cells (T_impl_Version.mk 0 0 0 [])⟩] ?_
 refine pwp_block ?_
 refine pwp_loop (ι := Nat × Int) (fun (f3, x2) => (⟨40, [(1, I a1), (2, I a2), (6, .ptr 0 0 0), (10, A a0), (11, I (a0.length : Int)), (12, I x2)], [some ⟨0, Enc.cells (T_impl_Version.mk 0 0 0 [])⟩]⟩ : St)) (fun (f3, x2) => impl_seen_l0 a0 a1 a2 f3 x2 = some y) Prod.fst (FUEL, 0) h (it [1, 2, 6, 10, 11, 12]) ?_
 rintro ⟨f3, x2⟩ h
 dsimp only at h ⊢
 rcases f3 with _ | f3
 cases h
 rw [impl_seen_l0] at h
 refine srveM [6, 9] 40 [(1, I a1), (2, I a2), (6, .ptr 0 0 0), (10, A a0), (11, I (a0.length : Int)), (12, I x2), (13, B (decide (x2 < (a0.length : Int))))] [some ⟨0, Enc.cells (T_impl_Version.mk 0 0 0 [])⟩] ?_
 refine pwp_seq ?_
 refine pc h (fun h => ?_) (fun h => ?_)
 refine pwp_skip ?_
 refine pwp_seq ?_
 refine pwp_block ?_
 refine pwp_seq ?_
 refine pwp_region ?_
 obtain ⟨v6, hv7, h⟩ := bindS h
 refine opsP_idx τ_ok 14 hv7 (by kernel_rfl) ?_
 refine veM [6, 9] 3 40 [(1, I a1), (2, I a2), (6, .ptr 0 0 0), (9, .ptr 1 0 0), (10, A a0), (11, I (a0.length : Int)), (12, I x2)] [some ⟨0, Enc.cells (T_impl_Version.mk 0 0 0 [])⟩, sc 0 v6] ?_
 refine pwp_seq ?_
 refine pwp_join (σ := Bool) (fun x8 => (⟨40, [(1, I a1), (2, I a2), (6, .ptr 0 0 0), (9, .ptr 1 0 0), (10, A a0), (11, I (a0.length : Int)), (12, I x2), (36, B x8)], [some ⟨0, Enc.cells (T_impl_Version.mk 0 0 0 [])⟩, sc 0 v6]⟩ : St)) (fun x8 => impl_seen_j1 x2 (impl_seen_l0 a0 a1 a2 f3) v6 x8 = some y) ?_ ?_
 refine rvM [6, 9] 5 40 [(1, I a1), (2, I a2), (6, .ptr 0 0 0), (9, .ptr 1 0 0), (10, A a0), (11, I (a0.length : Int)), (12, I x2), (20, B (v6.fKey == a1))] [some ⟨0, Enc.cells (T_impl_Version.mk 0 0 0 [])⟩, sc 0 v6] ?_
 rcases fk (v6.fKey == a1) with hc12 | hc12
 replace h := bT hc12 h
 rw [hc12]
 refine vM [6, 9] 6 40 [(1, I a1), (2, I a2), (6, .ptr 0 0 0), (9, .ptr 1 0 0), (10, A a0), (11, I (a0.length : Int)), (12, I x2), (21, .ptr 1 0 1), (22, I v6.fBorn), (23, I a2), (24, B (decide (v6.fBorn ≤ a2))), (26, B (decide (v6.fBorn ≤ a2)))] [some ⟨0, Enc.cells (T_impl_Version.mk 0 0 0 [])⟩, sc 0 v6] ?_
 rcases fk (decide (v6.fBorn ≤ a2)) with hc11 | hc11
 replace h := bT hc11 h
 rw [hc11]
 refine vM [6, 9] 4 40 [(1, I a1), (2, I a2), (6, .ptr 0 0 0), (9, .ptr 1 0 0), (10, A a0), (11, I (a0.length : Int)), (12, I x2), (21, .ptr 1 0 1), (22, I v6.fBorn), (23, I a2), (24, B true), (26, B true), (27, .ptr 1 0 2), (28, I v6.fDied), (29, B (v6.fDied == 0)), (30, B (v6.fDied == 0))] [some ⟨0, Enc.cells (T_impl_Version.mk 0 0 0 [])⟩, sc 0 v6] ?_
 rcases fk (v6.fDied == 0) with hc10 | hc10
 replace h := bT hc10 h
 rw [hc10]
 refine veM [6, 9] 6 40 [(1, I a1), (2, I a2), (6, .ptr 0 0 0), (9, .ptr 1 0 0), (10, A a0), (11, I (a0.length : Int)), (12, I x2), (21, .ptr 1 0 1), (22, I v6.fBorn), (23, I a2), (24, B true), (27, .ptr 1 0 2), (28, I v6.fDied), (29, B true), (30, B true), (31, .lit undef), (32, .lit undef), (33, .lit undef), (34, .lit undef), (35, B true), (36, B true)] [some ⟨0, Enc.cells (T_impl_Version.mk 0 0 0 [])⟩, sc 0 v6] ?_
 exact ⟨true, h, it [1, 2, 6, 9, 10, 11, 12, 36]⟩
 replace h := bF hc10 h
 rw [hc10]
 refine veM [6, 9] 6 40 [(1, I a1), (2, I a2), (6, .ptr 0 0 0), (9, .ptr 1 0 0), (10, A a0), (11, I (a0.length : Int)), (12, I x2), (21, .ptr 1 0 1), (22, I v6.fBorn), (23, I a2), (24, B true), (27, .ptr 1 0 2), (28, I v6.fDied), (29, B false), (30, B false), (31, .ptr 1 0 2), (32, I v6.fDied), (33, I a2), (34, B (decide (v6.fDied > a2))), (35, B (decide (v6.fDied > a2))), (36, B (decide (v6.fDied > a2)))] [some ⟨0, Enc.cells (T_impl_Version.mk 0 0 0 [])⟩, sc 0 v6] ?_
 exact ⟨(decide (v6.fDied > a2)), h, it [1, 2, 6, 9, 10, 11, 12, 36]⟩
 replace h := bF hc11 h
 rw [hc11]
 refine veM [6, 9] 10 40 [(1, I a1), (2, I a2), (6, .ptr 0 0 0), (9, .ptr 1 0 0), (10, A a0), (11, I (a0.length : Int)), (12, I x2), (21, .ptr 1 0 1), (22, I v6.fBorn), (23, I a2), (24, B false), (27, .lit undef), (28, .lit undef), (29, .lit undef), (30, .lit undef), (31, .lit undef), (32, .lit undef), (33, .lit undef), (34, .lit undef), (35, .lit undef), (36, B false)] [some ⟨0, Enc.cells (T_impl_Version.mk 0 0 0 [])⟩, sc 0 v6] ?_
 exact ⟨false, h, it [1, 2, 6, 9, 10, 11, 12, 36]⟩
 replace h := bF hc12 h
 rw [hc12]
 refine veM [6, 9] 16 40 [(1, I a1), (2, I a2), (6, .ptr 0 0 0), (9, .ptr 1 0 0), (10, A a0), (11, I (a0.length : Int)), (12, I x2), (21, .lit undef), (22, .lit undef), (23, .lit undef), (24, .lit undef), (27, .lit undef), (28, .lit undef), (29, .lit undef), (30, .lit undef), (31, .lit undef), (32, .lit undef), (33, .lit undef), (34, .lit undef), (35, .lit undef), (36, B false)] [some ⟨0, Enc.cells (T_impl_Version.mk 0 0 0 [])⟩, sc 0 v6] ?_
 exact ⟨false, h, it [1, 2, 6, 9, 10, 11, 12, 36]⟩
 rintro x8 h
 unfold impl_seen_j1 at h
 refine pc h (fun h => ?_) (fun h => ?_)
 refine srveM [6, 9] 40 [(6, .ptr 0 0 0), (7, B true)] [sc 0 v6, sc 0 v6] ?_
 have h := si h
 subst h
 exact pwp_ret (rt (.tup [E v6, B true]) (OutP.tup (OutL.cons (OutP.frz (by kernel_rfl)) (OutL.cons (OutP.frz (by kernel_rfl)) (OutL.nil _)))))
 refine pwp_skip ?_
 refine rveM [6, 9] 40 [(1, I a1), (2, I a2), (6, .ptr 0 0 0), (10, A a0), (11, I (a0.length : Int)), (12, I (w64 (x2 + 1)))] [some ⟨0, Enc.cells (T_impl_Version.mk 0 0 0 [])⟩, sc 0 v6] ?_
 exact ⟨(f3, (w64 (x2 + 1))), h, Nat.lt_succ_self _, (it (st' := ⟨40, [(1, I a1), (2, I a2), (6, .ptr 0 0 0), (10, A a0), (11, I (a0.length : Int)), (12, I (w64 (x2 + 1)))], [some ⟨0, Enc.cells (T_impl_Version.mk 0 0 0 [])⟩, sc 0 v6]⟩) [1, 2, 6, 10, 11, 12]).trans (Imp.truncS 1 (nx hX) (by kernel_rfl) (allBelow_mem (by exact (And.intro rfl (And.intro rfl (And.intro rfl (And.intro rfl (And.intro rfl (And.intro rfl trivial)))))))) (by exact (And.intro (rfl) trivial)) (by kernel_rfl))⟩
 refine pwp_exit ?_
 refine srveM [6, 9] 40 [(6, .ptr 0 0 0), (7, B false)] [some ⟨0, Enc.cells (T_impl_Version.mk 0 0 0 [])⟩] ?_
 have h := si h
 subst h
 exact pwp_ret (rt (.tup [E (T_impl_Version.mk 0 0 0 []), B false]) (OutP.tup (OutL.cons (OutP.frz (by kernel_rfl)) (OutL.cons (OutP.frz (by kernel_rfl)) (OutL.nil _)))))
def slices_Clip_impl_Entry_impl_Entry (a0 : List T_impl_Entry) : Option (List T_impl_Entry) := (slI a0 none (some (a0.length : Int)) (some (a0.length : Int))).bind fun v1 => some v1
theorem ok_slices_Clip_impl_Entry_impl_Entry {a0 : List T_impl_Entry} {y : List T_impl_Entry} (h : slices_Clip_impl_Entry_impl_Entry a0 = some y) : OK Try.prog 69 [A a0] (A y) := by
 refine ow Try.func69 fun Γ hX => ?_
 unfold slices_Clip_impl_Entry_impl_Entry at h
 refine srve 9 [(0, A a0)] [] ?_
 refine srv 5 9 [(3, A a0), (5, I (a0.length : Int)), (7, I (a0.length : Int))] [] ?_
 obtain ⟨v1, hv2, h⟩ := bindS h
 refine opsP_slc τ_ok 8 hv2 (by kernel_rfl) ?_
 refine ve 1 9 [(2, A v1)] [] ?_
 cases h
 exact pwp_ret rz
def spec_l13Seen (a0 : T_impl_Version) (a1 : Int) : Option Bool := bif (decide (a0.fBorn ≤ a1)) then bif (a0.fDied == 0) then some true else some (decide (a1 < a0.fDied)) else some false
theorem ok_spec_l13Seen {a0 : T_impl_Version} {a1 : Int} {y : Bool} (h : spec_l13Seen a0 a1 = some y) : OK Try.prog 88 [E a0, I a1] (B y) := by
 refine ow Try.func88 fun Γ hX => ?_
 unfold spec_l13Seen at h
 refine srve 20 [(1, I a1), (2, pf a0 0)] [] ?_
 refine srv 5 20 [(1, I a1), (2, pf a0 0), (9, B (decide (a0.fBorn ≤ a1)))] [] ?_
 rcases fk (decide (a0.fBorn ≤ a1)) with hc2 | hc2
 replace h := bT hc2 h
 rw [hc2]
 refine v 4 20 [(1, I a1), (2, pf a0 0), (9, B true), (13, B (a0.fDied == 0))] [] ?_
 rcases fk (a0.fDied == 0) with hc1 | hc1
 replace h := bT hc1 h
 rw [hc1]
 refine ve 7 20 [(4, B true)] [] ?_
 cases h
 exact pwp_ret rz
 replace h := bF hc1 h
 rw [hc1]
 refine ve 7 20 [(4, B (decide (a1 < a0.fDied)))] [] ?_
 cases h
 exact pwp_ret rz
 replace h := bF hc2 h
 rw [hc2]
 refine ve 11 20 [(4, B false)] [] ?_
 cases h
 exact pwp_ret rz
def spec_l3Own (a0 : List T_impl_Value) : Option (List T_impl_Value) := (app ([] : List T_impl_Value) a0).bind fun v1 => some v1
theorem ok_spec_l3Own {a0 : List T_impl_Value} {y : List T_impl_Value} (h : spec_l3Own a0 = some y) : OK Try.prog 89 [A a0] (O y) := by
 refine ow Try.func89 fun Γ hX => ?_
 unfold spec_l3Own at h
 refine srve 6 [(0, A a0)] [] ?_
 refine srv 2 6 [(3, .arr 3 0 (eL ([] : List T_impl_Value)) true), (4, A a0)] [] ?_
 refine opsP_thaw 3 3 (by kernel_rfl) ?_
 obtain ⟨v1, hv2, h⟩ := bindS h
 refine opsP_app τ_ok 5 0 0 (nx hX) hv2 (by kernel_rfl) ?_
 refine ve 1 6 [(2, rf 0 1 3 v1)] [sl 1 v1] ?_
 have h := si h
 subst h
 exact pwp_ret (rt (rf 0 1 3 v1) (OutP.list (v := 1) (by kernel_rfl)))
def impl_keyOk (a0 : Int) : Option Bool := (impl_between a0 0 4).bind fun v1 => some v1
theorem ok_impl_keyOk {a0 : Int} {y : Bool} (h : impl_keyOk a0 = some y) : OK Try.prog 90 [I a0] (B y) := by
 refine ow Try.func90 fun Γ hX => ?_
 unfold impl_keyOk at h
 refine srve 5 [(0, I a0)] [] ?_
 refine srv 1 5 [(3, I a0)] [] ?_
 obtain ⟨v1, hv2, h⟩ := bindS h
 refine cF 4 (ok_impl_between hv2) ?_
 refine ve 1 5 [(2, B v1)] [] ?_
 cases h
 exact pwp_ret rz
def spec_l14Writes_l0 (a0 : List T_impl_Write) : Nat → Int → (List T_impl_Write) → Option (List T_impl_Write)
 | 0, _, _ => none
 | f4 + 1, x2, x3 => bif (decide (x2 < (a0.length : Int))) then (getI a0 x2).bind fun v7 => (spec_l3Own v7.fRow).bind fun v9 => (app x3 ([{ v7 with fRow := v9 }] : List T_impl_Write)).bind fun v11 => (spec_l14Writes_l0 a0 f4) (w64 (x2 + 1)) v11 else some x3
def spec_l14Writes (a0 : List T_impl_Write) : Option (List T_impl_Write) := spec_l14Writes_l0 a0 FUEL 0 ([] : List T_impl_Write)
theorem ok_spec_l14Writes {a0 : List T_impl_Write} {y : List T_impl_Write} (h : spec_l14Writes a0 = some y) : OK Try.prog 97 [A a0] (O y) := by
 refine ow Try.func97 fun Γ hX => ?_
 unfold spec_l14Writes at h
 refine srveM [5] 26 [(0, A a0)] [] ?_
 refine srveM [5] 26 [(0, A a0), (3, .arr 3 0 (eL ([] : List T_impl_Write)) true)] [] ?_
 refine pwp_seq ?_
 refine srveM [5] 26 [(0, A a0), (3, .arr 3 0 (eL ([] : List T_impl_Write)) true), (4, I 0)] [] ?_
 refine pwp_block ?_
 refine pwp_loop (ι := Nat × Int × (List T_impl_Write)) (fun (f4, x2, x3) => (⟨26, [(0, A a0), (3, rf 0 0 3 x3), (4, I x2)], [sl 0 x3]⟩ : St)) (fun (f4, x2, x3) => spec_l14Writes_l0 a0 f4 x2 x3 = some y) Prod.fst (FUEL, 0, ([] : List T_impl_Write)) h (Imp.thawS 3 [0, 3, 4] (by kernel_rfl)) ?_
 rintro ⟨f4, x2, x3⟩ h
 dsimp only at h ⊢
 rcases f4 with _ | f4
 cases h
 rw [spec_l14Writes_l0] at h
 refine pwp_seq ?_
 refine srveM [5] 26 [(0, A a0), (3, rf 0 0 3 x3), (4, I x2), (10, B (decide (x2 < (a0.length : Int))))] [sl 0 x3] ?_
 refine pc h (fun h => ?_) (fun h => ?_)
 refine pwp_skip ?_
 refine pwp_seq ?_
 refine pwp_block ?_
 refine srvM [5] 2 26 [(0, A a0), (3, rf 0 0 3 x3), (4, I x2), (13, A a0), (14, I x2)] [sl 0 x3] ?_
 obtain ⟨v7, hv8, h⟩ := bindS h
 refine opsP_idx τ_ok 15 hv8 (by kernel_rfl) ?_
 refine veM [5] 3 26 [(0, A a0), (3, rf 0 0 3 x3), (4, I x2), (5, .ptr 1 0 0)] [sl 0 x3, sc 0 v7] ?_
 refine srvM [5] 2 26 [(0, A a0), (3, rf 0 0 3 x3), (4, I x2), (5, .ptr 1 0 0), (18, A v7.fRow)] [sl 0 x3, sc 0 v7] ?_
 obtain ⟨v9, hv10, h⟩ := bindS h
 refine cFo 19 (ok_spec_l3Own hv10) ?_
 refine veM [5] 2 26 [(0, A a0), (3, rf 0 0 3 x3), (4, I x2), (5, .ptr 1 0 0)] [sl 0 x3, some ⟨0, Enc.cells ({ v7 with fRow := v9 })⟩] ?_
 refine rvM [5] 3 26 [(0, A a0), (4, I x2), (21, rf 0 0 3 x3), (23, .arr 3 ([{ v7 with fRow := v9 }] : List T_impl_Write).length (eL ([{ v7 with fRow := v9 }] : List T_impl_Write)) true)] [sl 0 x3, some ⟨0, Enc.cells ({ v7 with fRow := v9 })⟩] ?_
 obtain ⟨v11, hv12, h⟩ := bindS h
 refine opsP_app τ_ok 24 0 0 (nx hX) hv12 (by kernel_rfl) ?_
 refine veM [5] 1 26 [(0, A a0), (3, rf 0 1 3 v11), (4, I x2)] [sl 1 v11, some ⟨0, Enc.cells ({ v7 with fRow := v9 })⟩] ?_
 refine rveM [5] 26 [(0, A a0), (3, rf 0 1 3 v11), (4, I (w64 (x2 + 1)))] [sl 1 v11, some ⟨0, Enc.cells ({ v7 with fRow := v9 })⟩] ?_
 exact ⟨(f4, (w64 (x2 + 1)), v11), h, Nat.lt_succ_self _, qt (it (st' := ⟨26, [(0, A a0), (3, rf 0 1 3 v11), (4, I (w64 (x2 + 1)))], [sl 1 v11, some ⟨0, Enc.cells ({ v7 with fRow := v9 })⟩]⟩) [0, 3, 4]) (qt (Imp.truncS (st' := ⟨26, [(0, A a0), (3, rf 0 1 3 v11), (4, I (w64 (x2 + 1)))], [sl 1 v11]⟩) 1 (nx hX) (by kernel_rfl) (allBelow_mem (by exact (And.intro rfl (And.intro rfl (And.intro rfl trivial))))) (by exact (And.intro (frz_below (eL_frz _)) trivial)) (by kernel_rfl)) (Imp.reverS 0 1 (eL v11) [0, 3, 4] (by kernel_rfl) (by exact (And.intro (eL_frz _) trivial)) (by kernel_rfl)))⟩
 refine pwp_exit ?_
 refine srveM [5] 26 [(2, rf 0 0 3 x3)] [sl 0 x3] ?_
 have h := si h
 subst h
 exact pwp_ret (rt (rf 0 0 3 x3) (OutP.list (v := 0) (by kernel_rfl)))
def slices_Clip_impl_Version_impl_Version (a0 : List T_impl_Version) : Option (List T_impl_Version) := (slI a0 none (some (a0.length : Int)) (some (a0.length : Int))).bind fun v1 => some v1
theorem ok_slices_Clip_impl_Version_impl_Version {a0 : List T_impl_Version} {y : List T_impl_Version} (h : slices_Clip_impl_Version_impl_Version a0 = some y) : OK Try.prog 98 [A a0] (A y) := by
 refine ow Try.func98 fun Γ hX => ?_
 unfold slices_Clip_impl_Version_impl_Version at h
 refine srve 9 [(0, A a0)] [] ?_
 refine srv 5 9 [(3, A a0), (5, I (a0.length : Int)), (7, I (a0.length : Int))] [] ?_
 obtain ⟨v1, hv2, h⟩ := bindS h
 refine opsP_slc τ_ok 8 hv2 (by kernel_rfl) ?_
 refine ve 1 9 [(2, A v1)] [] ?_
 cases h
 exact pwp_ret rz
def slices_Clone_impl_Entry_impl_Entry_j0 (x1 : List T_impl_Entry) (x2 : Bool) : Option (List T_impl_Entry) := bif x2 then some ([] : List T_impl_Entry) else (app ([] : List T_impl_Entry) x1).bind fun v4 => some v4
def slices_Clone_impl_Entry_impl_Entry (a0 : List T_impl_Entry) : Option (List T_impl_Entry) := slices_Clone_impl_Entry_impl_Entry_j0 a0 false
theorem ok_slices_Clone_impl_Entry_impl_Entry {a0 : List T_impl_Entry} {y : List T_impl_Entry} (h : slices_Clone_impl_Entry_impl_Entry a0 = some y) : OK Try.prog 101 [A a0] (O y) := by
 refine ow Try.func101 fun Γ hX => ?_
 unfold slices_Clone_impl_Entry_impl_Entry at h
 refine srve 8 [(0, A a0)] [] ?_
 refine pwp_seq ?_
 refine pwp_seq ?_
 refine pwp_join (σ := (List T_impl_Entry) × Bool) (fun (x1, x2) => (⟨8, [(0, A x1), (4, B x2)], []⟩ : St)) (fun (x1, x2) => slices_Clone_impl_Entry_impl_Entry_j0 x1 x2 = some y) ?_ ?_
 refine rv 1 8 [(0, A a0), (3, A a0)] [] ?_
 refine opsP_nilq τ_ok 4 (xs := a0) (by kernel_rfl) ?_
 rintro (_ | _) hb
 clear hb
 refine ve 0 8 [(0, A a0), (4, B false)] [] ?_
 exact ⟨(a0, false), h, it [0, 4]⟩
 obtain rfl := hb rfl
 replace h := clone_nil h
 refine ve 0 8 [(0, A ([] : List T_impl_Entry)), (4, B true)] [] ?_
 exact ⟨(([] : List T_impl_Entry), true), h, it [0, 4]⟩
 rintro ⟨x1, x2⟩ h
 dsimp only at h ⊢
 unfold slices_Clone_impl_Entry_impl_Entry_j0 at h
 refine pc h (fun h => ?_) (fun h => ?_)
 refine srve 8 [(2, .arr 2 0 (eL ([] : List T_impl_Entry)) true)] [] ?_
 refine ip 8 [(2, .arr 2 0 (eL ([] : List T_impl_Entry)) true)] [] ?_
 refine pwp_imp (Imp.thawS (st' := ⟨8, [(2, .ref 0 0 0 2 ([] : List T_impl_Entry).length false)], [some ⟨0, eL ([] : List T_impl_Entry)⟩]⟩) 2 [2] (by kernel_rfl)) ?_
 have h := si h
 subst h
 exact pwp_ret (rt (.ref 0 0 0 2 ([] : List T_impl_Entry).length false) (OutP.list (v := 0) (by kernel_rfl)))
 refine pwp_skip ?_
 refine srv 2 8 [(5, .arr 2 0 (eL ([] : List T_impl_Entry)) true), (6, A x1)] [] ?_
 refine opsP_thaw 5 2 (by kernel_rfl) ?_
 obtain ⟨v4, hv5, h⟩ := bindS h
 refine opsP_app τ_ok 7 0 0 (nx hX) hv5 (by kernel_rfl) ?_
 refine ve 1 8 [(2, rf 0 1 2 v4)] [sl 1 v4] ?_
 have h := si h
 subst h
 exact pwp_ret (rt (rf 0 1 2 v4) (OutP.list (v := 1) (by kernel_rfl)))
def impl_logCut_1 (a0 : T_impl_Entry) (b0 : Int) : Option Bool := some (decide (a0.fTime > b0))
theorem ok_impl_logCut_1 {a0 : T_impl_Entry} {b0 : Int} {y : Bool} (h : impl_logCut_1 a0 b0 = some y) : OK Try.prog 102 [E a0, pf b0 0] (B y) := by
 refine ow Try.func102 fun Γ hX => ?_
 unfold impl_logCut_1 at h
 refine srve 8 [(1, pf b0 0), (2, pf a0 0)] [] ?_
 refine srve 8 [(3, B (decide (a0.fTime > b0)))] [] ?_
 cases h
 exact pwp_ret rz
def laws_eqValue (a0 : T_impl_Value) (a1 : T_impl_Value) : Option Bool := bif (!(a0.fKind == a1.fKind)) then some false else bif (!(a0.fN == a1.fN)) then some false else bif (!(a0.fS.toList == a1.fS.toList)) then some false else some true
theorem ok_laws_eqValue {a0 : T_impl_Value} {a1 : T_impl_Value} {y : Bool} (h : laws_eqValue a0 a1 = some y) : OK Try.prog 105 [E a0, E a1] (B y) := by
 refine ow Try.func105 fun Γ hX => ?_
 unfold laws_eqValue at h
 refine srve 20 [(2, pf a0 0), (3, pf a1 0)] [] ?_
 refine pwp_seq ?_
 refine srve 20 [(2, pf a0 0), (3, pf a1 0), (9, B (!(a0.fKind == a1.fKind)))] [] ?_
 refine pc h (fun h => ?_) (fun h => ?_)
 refine srve 20 [(4, B false)] [] ?_
 cases h
 exact pwp_ret rz
 refine pwp_skip ?_
 refine pwp_seq ?_
 refine srve 20 [(2, pf a0 0), (3, pf a1 0), (14, B (!(a0.fN == a1.fN)))] [] ?_
 refine pc h (fun h => ?_) (fun h => ?_)
 refine srve 20 [(4, B false)] [] ?_
 cases h
 exact pwp_ret rz
 refine pwp_skip ?_
 refine pwp_seq ?_
 refine srve 20 [(19, B (!(a0.fS.toList == a1.fS.toList)))] [] ?_
 refine pc h (fun h => ?_) (fun h => ?_)
 refine srve 20 [(4, B false)] [] ?_
 cases h
 exact pwp_ret rz
 refine pwp_skip ?_
 refine srve 20 [(4, B true)] [] ?_
 cases h
 exact pwp_ret rz
def laws_markText_l0 : Nat → Int → ByteArray → Option ByteArray
 | 0, _, _ => none
 | f4 + 1, x2, x3 => bif (decide (x2 > 0)) then (addS (ByteArray.mk (List.toArray ([(u8 (w64 (48 + (x2.tmod 10))))] : List UInt8))) x3).bind fun v7 => (laws_markText_l0 f4) (w64 (x2.tdiv 10)) v7 else (addS (ByteArray.mk #[109]) x3).bind fun v9 => some v9
def laws_markText (a0 : Int) : Option ByteArray := bif (decide (a0 ≤ 0)) then some (ByteArray.mk #[109, 48]) else laws_markText_l0 FUEL a0 (ByteArray.mk #[])
theorem ok_laws_markText {a0 : Int} {y : ByteArray} (h : laws_markText a0 = some y) : OK Try.prog 106 [I a0] (S y) := by
 refine ow Try.func106 fun Γ hX => ?_
 unfold laws_markText at h
 refine srve 20 [(0, I a0)] [] ?_
 refine pwp_seq ?_
 refine srve 20 [(0, I a0), (5, B (decide (a0 ≤ 0)))] [] ?_
 refine pc h (fun h => ?_) (fun h => ?_)
 refine srve 20 [(2, S (ByteArray.mk #[109, 48]))] [] ?_
 cases h
 exact pwp_ret rz
 refine pwp_skip ?_
 refine srve 20 [(0, I a0), (3, S (ByteArray.mk #[]))] [] ?_
 refine pwp_seq ?_
 refine pwp_block ?_
 refine pwp_loop (ι := Nat × Int × ByteArray) (fun (f4, x2, x3) => (⟨20, [(0, I x2), (3, S x3)], []⟩ : St)) (fun (f4, x2, x3) => laws_markText_l0 f4 x2 x3 = some y) Prod.fst (FUEL, a0, (ByteArray.mk #[])) h (it [0, 3]) ?_
 rintro ⟨f4, x2, x3⟩ h
 dsimp only at h ⊢
 rcases f4 with _ | f4
 cases h
 rw [laws_markText_l0] at h
 refine pwp_seq ?_
 refine srve 20 [(0, I x2), (3, S x3), (7, B (decide (x2 > 0)))] [] ?_
 refine pc h (fun h => ?_) (fun h => ?_)
 refine pwp_skip ?_
 refine pwp_block ?_
 refine srv 3 20 [(0, I x2), (3, S x3), (10, I (w64 (48 + (x2.tmod 10))))] [] ?_
 refine opsP_cv8 τ_ok 11 (w64 (48 + (x2.tmod 10))) (by kernel_rfl) ?_
 refine v 1 20 [(0, I x2), (3, S x3), (12, .arr 1 ([(u8 (w64 (48 + (x2.tmod 10))))] : List UInt8).length (eL ([(u8 (w64 (48 + (x2.tmod 10))))] : List UInt8)) true)] [] ?_
 refine opsP_cvs τ_ok 13 ([(u8 (w64 (48 + (x2.tmod 10))))] : List UInt8) (by kernel_rfl) ?_
 refine v 1 20 [(0, I x2), (13, S (ByteArray.mk (List.toArray ([(u8 (w64 (48 + (x2.tmod 10))))] : List UInt8)))), (14, S x3)] [] ?_
 obtain ⟨v7, hv8, h⟩ := bindS h
 refine opsP_ads τ_ok 15 hv8 (by kernel_rfl) ?_
 refine ve 1 20 [(0, I x2), (3, S v7)] [] ?_
 refine rve 20 [(0, I (w64 (x2.tdiv 10))), (3, S v7)] [] ?_
 exact ⟨(f4, (w64 (x2.tdiv 10)), v7), h, Nat.lt_succ_self _, it [0, 3]⟩
 refine pwp_exit ?_
 refine srv 1 20 [(18, S x3)] [] ?_
 obtain ⟨v9, hv10, h⟩ := bindS h
 refine opsP_ads τ_ok 19 hv10 (by kernel_rfl) ?_
 refine ve 1 20 [(2, S v9)] [] ?_
 cases h
 exact pwp_ret rz
def slices_Clip_impl_Write_impl_Write (a0 : List T_impl_Write) : Option (List T_impl_Write) := (slI a0 none (some (a0.length : Int)) (some (a0.length : Int))).bind fun v1 => some v1
theorem ok_slices_Clip_impl_Write_impl_Write {a0 : List T_impl_Write} {y : List T_impl_Write} (h : slices_Clip_impl_Write_impl_Write a0 = some y) : OK Try.prog 109 [A a0] (A y) := by
 refine ow Try.func109 fun Γ hX => ?_
 unfold slices_Clip_impl_Write_impl_Write at h
 refine srve 9 [(0, A a0)] [] ?_
 refine srv 5 9 [(3, A a0), (5, I (a0.length : Int)), (7, I (a0.length : Int))] [] ?_
 obtain ⟨v1, hv2, h⟩ := bindS h
 refine opsP_slc τ_ok 8 hv2 (by kernel_rfl) ?_
 refine ve 1 9 [(2, A v1)] [] ?_
 cases h
 exact pwp_ret rz
def spec_l13Copy_l0 (a0 : List T_impl_Version) : Nat → Int → (List T_impl_Version) → Option (List T_impl_Version)
 | 0, _, _ => none
 | f4 + 1, x2, x3 => bif (decide (x2 < (a0.length : Int))) then (getI a0 x2).bind fun v7 => (spec_l3Own v7.fRow).bind fun v9 => (app x3 ([{ v7 with fRow := v9 }] : List T_impl_Version)).bind fun v11 => (spec_l13Copy_l0 a0 f4) (w64 (x2 + 1)) v11 else some x3
def spec_l13Copy (a0 : List T_impl_Version) : Option (List T_impl_Version) := spec_l13Copy_l0 a0 FUEL 0 ([] : List T_impl_Version)
theorem ok_spec_l13Copy {a0 : List T_impl_Version} {y : List T_impl_Version} (h : spec_l13Copy a0 = some y) : OK Try.prog 112 [A a0] (O y) := by
 refine ow Try.func112 fun Γ hX => ?_
 unfold spec_l13Copy at h
 refine srveM [5] 26 [(0, A a0)] [] ?_
 refine srveM [5] 26 [(0, A a0), (3, .arr 4 0 (eL ([] : List T_impl_Version)) true)] [] ?_
 refine pwp_seq ?_
 refine srveM [5] 26 [(0, A a0), (3, .arr 4 0 (eL ([] : List T_impl_Version)) true), (4, I 0)] [] ?_
 refine pwp_block ?_
 refine pwp_loop (ι := Nat × Int × (List T_impl_Version)) (fun (f4, x2, x3) => (⟨26, [(0, A a0), (3, rf 0 0 4 x3), (4, I x2)], [sl 0 x3]⟩ : St)) (fun (f4, x2, x3) => spec_l13Copy_l0 a0 f4 x2 x3 = some y) Prod.fst (FUEL, 0, ([] : List T_impl_Version)) h (Imp.thawS 3 [0, 3, 4] (by kernel_rfl)) ?_
 rintro ⟨f4, x2, x3⟩ h
 dsimp only at h ⊢
 rcases f4 with _ | f4
 cases h
 rw [spec_l13Copy_l0] at h
 refine pwp_seq ?_
 refine srveM [5] 26 [(0, A a0), (3, rf 0 0 4 x3), (4, I x2), (10, B (decide (x2 < (a0.length : Int))))] [sl 0 x3] ?_
 refine pc h (fun h => ?_) (fun h => ?_)
 refine pwp_skip ?_
 refine pwp_seq ?_
 refine pwp_block ?_
 refine srvM [5] 2 26 [(0, A a0), (3, rf 0 0 4 x3), (4, I x2), (13, A a0), (14, I x2)] [sl 0 x3] ?_
 obtain ⟨v7, hv8, h⟩ := bindS h
 refine opsP_idx τ_ok 15 hv8 (by kernel_rfl) ?_
 refine veM [5] 3 26 [(0, A a0), (3, rf 0 0 4 x3), (4, I x2), (5, .ptr 1 0 0)] [sl 0 x3, sc 0 v7] ?_
 refine srvM [5] 2 26 [(0, A a0), (3, rf 0 0 4 x3), (4, I x2), (5, .ptr 1 0 0), (18, A v7.fRow)] [sl 0 x3, sc 0 v7] ?_
 obtain ⟨v9, hv10, h⟩ := bindS h
 refine cFo 19 (ok_spec_l3Own hv10) ?_
 refine veM [5] 2 26 [(0, A a0), (3, rf 0 0 4 x3), (4, I x2), (5, .ptr 1 0 0)] [sl 0 x3, some ⟨0, Enc.cells ({ v7 with fRow := v9 })⟩] ?_
 refine rvM [5] 3 26 [(0, A a0), (4, I x2), (21, rf 0 0 4 x3), (23, .arr 4 ([{ v7 with fRow := v9 }] : List T_impl_Version).length (eL ([{ v7 with fRow := v9 }] : List T_impl_Version)) true)] [sl 0 x3, some ⟨0, Enc.cells ({ v7 with fRow := v9 })⟩] ?_
 obtain ⟨v11, hv12, h⟩ := bindS h
 refine opsP_app τ_ok 24 0 0 (nx hX) hv12 (by kernel_rfl) ?_
 refine veM [5] 1 26 [(0, A a0), (3, rf 0 1 4 v11), (4, I x2)] [sl 1 v11, some ⟨0, Enc.cells ({ v7 with fRow := v9 })⟩] ?_
 refine rveM [5] 26 [(0, A a0), (3, rf 0 1 4 v11), (4, I (w64 (x2 + 1)))] [sl 1 v11, some ⟨0, Enc.cells ({ v7 with fRow := v9 })⟩] ?_
 exact ⟨(f4, (w64 (x2 + 1)), v11), h, Nat.lt_succ_self _, qt (it (st' := ⟨26, [(0, A a0), (3, rf 0 1 4 v11), (4, I (w64 (x2 + 1)))], [sl 1 v11, some ⟨0, Enc.cells ({ v7 with fRow := v9 })⟩]⟩) [0, 3, 4]) (qt (Imp.truncS (st' := ⟨26, [(0, A a0), (3, rf 0 1 4 v11), (4, I (w64 (x2 + 1)))], [sl 1 v11]⟩) 1 (nx hX) (by kernel_rfl) (allBelow_mem (by exact (And.intro rfl (And.intro rfl (And.intro rfl trivial))))) (by exact (And.intro (frz_below (eL_frz _)) trivial)) (by kernel_rfl)) (Imp.reverS 0 1 (eL v11) [0, 3, 4] (by kernel_rfl) (by exact (And.intro (eL_frz _) trivial)) (by kernel_rfl)))⟩
 refine pwp_exit ?_
 refine srveM [5] 26 [(2, rf 0 0 4 x3)] [sl 0 x3] ?_
 have h := si h
 subst h
 exact pwp_ret (rt (rf 0 0 4 x3) (OutP.list (v := 0) (by kernel_rfl)))
def spec_l13Written_j2 (x3 : Int) (K6 : Bool → Int → (List T_impl_Version) → Option (List T_impl_Version)) (x10 : Bool) (x11 : List T_impl_Version) (x12 : T_impl_Version) : Option (List T_impl_Version) := (app x11 ([x12] : List T_impl_Version)).bind fun v13 => K6 x10 (w64 (x3 + 1)) v13
def spec_l13Written_j3 (a2 : Int) (x3 : Int) (K6 : Bool → Int → (List T_impl_Version) → Option (List T_impl_Version)) (v8 : T_impl_Version) (x10 : Bool) (x11 : List T_impl_Version) (x15 : Bool) : Option (List T_impl_Version) := bif x15 then spec_l13Written_j2 x3 K6 x10 x11 ({ v8 with fDied := a2 }) else spec_l13Written_j2 x3 K6 x10 x11 v8
def spec_l13Written_j1 (a1 : T_impl_Write) (a2 : Int) (x3 : Int) (K6 : Bool → Int → (List T_impl_Version) → Option (List T_impl_Version)) (v8 : T_impl_Version) (x10 : Bool) (x11 : List T_impl_Version) : Option (List T_impl_Version) := bif (v8.fKey == a1.fKey) then spec_l13Written_j3 a2 x3 K6 v8 x10 x11 (v8.fDied == 0) else spec_l13Written_j3 a2 x3 K6 v8 x10 x11 false
def spec_l13Written_j4 (a1 : T_impl_Write) (a2 : Int) (x2 : Bool) (x3 : Int) (x4 : List T_impl_Version) (K6 : Bool → Int → (List T_impl_Version) → Option (List T_impl_Version)) (v8 : T_impl_Version) (x18 : Bool) : Option (List T_impl_Version) := bif x18 then (spec_l3Own a1.fRow).bind fun v20 => (app x4 ([(T_impl_Version.mk a1.fKey a2 0 v20)] : List T_impl_Version)).bind fun v22 => spec_l13Written_j1 a1 a2 x3 K6 v8 true v22 else spec_l13Written_j1 a1 a2 x3 K6 v8 x2 x4
def spec_l13Written_l0 (a0 : List T_impl_Version) (a1 : T_impl_Write) (a2 : Int) : Nat → Bool → Int → (List T_impl_Version) → Option (List T_impl_Version)
 | 0, _, _, _ => none
 | f5 + 1, x2, x3, x4 => bif (decide (x3 < (a0.length : Int))) then (getI a0 x3).bind fun v8 => bif (decide (v8.fKey > a1.fKey)) then spec_l13Written_j4 a1 a2 x2 x3 x4 (spec_l13Written_l0 a0 a1 a2 f5) v8 (!x2) else spec_l13Written_j4 a1 a2 x2 x3 x4 (spec_l13Written_l0 a0 a1 a2 f5) v8 false else bif (!x2) then (spec_l3Own a1.fRow).bind fun v26 => (app x4 ([(T_impl_Version.mk a1.fKey a2 0 v26)] : List T_impl_Version)).bind fun v28 => some v28 else some x4
def spec_l13Written (a0 : List T_impl_Version) (a1 : T_impl_Write) (a2 : Int) : Option (List T_impl_Version) := spec_l13Written_l0 a0 a1 a2 FUEL a1.fGone 0 ([] : List T_impl_Version)
theorem ok_spec_l13Written {a0 : List T_impl_Version} {a1 : T_impl_Write} {a2 : Int} {y : List T_impl_Version} (h : spec_l13Written a0 a1 a2 = some y) : OK Try.prog 113 [A a0, E a1, I a2] (O y) := by
 refine ow Try.func113 fun Γ hX => ?_
 unfold spec_l13Written at h
 refine srveM [10] 72 [(0, A a0), (2, I a2), (4, pf a1 0)] [] ?_
 refine srveM [10] 72 [(0, A a0), (2, I a2), (4, pf a1 0), (7, .arr 4 0 (eL ([] : List T_impl_Version)) true)] [] ?_
 refine srveM [10] 72 [(0, A a0), (2, I a2), (4, pf a1 0), (7, .arr 4 0 (eL ([] : List T_impl_Version)) true), (8, B a1.fGone)] [] ?_
 refine pwp_seq ?_
 refine srveM [10] 72 [(0, A a0), (2, I a2), (4, pf a1 0), (7, .arr 4 0 (eL ([] : List T_impl_Version)) true), (8, B a1.fGone), (9, I 0)] [] ?_
 refine pwp_block ?_
 refine pwp_loop (ι := Nat × Bool × Int × (List T_impl_Version)) (fun (f5, x2, x3, x4) => (⟨72, [(0, A a0), (2, I a2), (4, pf a1 0), (7, rf 0 0 4 x4), (8, B x2), (9, I x3)], [sl 0 x4]⟩ : St)) (fun (f5, x2, x3, x4) => spec_l13Written_l0 a0 a1 a2 f5 x2 x3 x4 = some y) Prod.fst (FUEL, a1.fGone, 0, ([] : List T_impl_Version)) h (Imp.thawS 7 [0, 2, 4, 7, 8, 9] (by kernel_rfl)) ?_
 rintro ⟨f5, x2, x3, x4⟩ h
 dsimp only at h ⊢
 rcases f5 with _ | f5
 cases h
 rw [spec_l13Written_l0] at h
 refine pwp_seq ?_
 refine srveM [10] 72 [(0, A a0), (2, I a2), (4, pf a1 0), (7, rf 0 0 4 x4), (8, B x2), (9, I x3), (17, B (decide (x3 < (a0.length : Int))))] [sl 0 x4] ?_
 refine pc h (fun h => ?_) (fun h => ?_)
 refine pwp_skip ?_
 refine pwp_seq ?_
 refine pwp_block ?_
 refine srvM [10] 2 72 [(0, A a0), (2, I a2), (4, pf a1 0), (7, rf 0 0 4 x4), (8, B x2), (9, I x3), (20, A a0), (21, I x3)] [sl 0 x4] ?_
 obtain ⟨v8, hv9, h⟩ := bindS h
 refine opsP_idx τ_ok 22 hv9 (by kernel_rfl) ?_
 refine veM [10] 3 72 [(0, A a0), (2, I a2), (4, pf a1 0), (7, rf 0 0 4 x4), (8, B x2), (9, I x3), (10, .ptr 1 0 0)] [sl 0 x4, sc 0 v8] ?_
 refine pwp_seq ?_
 refine pwp_join (σ := Bool × (List T_impl_Version)) (fun (x10, x11) => (⟨72, [(0, A a0), (2, I a2), (4, pf a1 0), (7, rf 0 0 4 x11), (8, B x10), (9, I x3), (10, .ptr 1 0 0)], [sl 0 x11, sc 0 v8]⟩ : St)) (fun (x10, x11) => spec_l13Written_j1 a1 a2 x3 (spec_l13Written_l0 a0 a1 a2 f5) v8 x10 x11 = some y) ?_ ?_
 refine pwp_seq ?_
 refine pwp_join (σ := Bool) (fun x18 => (⟨72, [(0, A a0), (2, I a2), (4, pf a1 0), (7, rf 0 0 4 x4), (8, B x2), (9, I x3), (10, .ptr 1 0 0), (32, B x18)], [sl 0 x4, sc 0 v8]⟩ : St)) (fun x18 => spec_l13Written_j4 a1 a2 x2 x3 x4 (spec_l13Written_l0 a0 a1 a2 f5) v8 x18 = some y) ?_ ?_
 refine rvM [10] 6 72 [(0, A a0), (2, I a2), (4, pf a1 0), (7, rf 0 0 4 x4), (8, B x2), (9, I x3), (10, .ptr 1 0 0), (29, B (decide (v8.fKey > a1.fKey)))] [sl 0 x4, sc 0 v8] ?_
 rcases fk (decide (v8.fKey > a1.fKey)) with hc24 | hc24
 replace h := bT hc24 h
 rw [hc24]
 refine veM [10] 3 72 [(0, A a0), (2, I a2), (4, pf a1 0), (7, rf 0 0 4 x4), (8, B x2), (9, I x3), (10, .ptr 1 0 0), (30, B x2), (31, B (!x2)), (32, B (!x2))] [sl 0 x4, sc 0 v8] ?_
 exact ⟨(!x2), h, it [0, 2, 4, 7, 8, 9, 10, 32]⟩
 replace h := bF hc24 h
 rw [hc24]
 refine veM [10] 3 72 [(0, A a0), (2, I a2), (4, pf a1 0), (7, rf 0 0 4 x4), (8, B x2), (9, I x3), (10, .ptr 1 0 0), (30, .lit undef), (31, .lit undef), (32, B false)] [sl 0 x4, sc 0 v8] ?_
 exact ⟨false, h, it [0, 2, 4, 7, 8, 9, 10, 32]⟩
 rintro x18 h
 unfold spec_l13Written_j4 at h
 refine pc h (fun h => ?_) (fun h => ?_)
 refine pwp_seq ?_
 refine ip 72 [(0, A a0), (2, I a2), (4, pf a1 0), (7, rf 0 0 4 x4), (9, I x3), (10, .ptr 1 0 0)] [sl 0 x4, sc 0 v8] ?_
 refine pwp_any ([[0], [], [], [], [], [], [], [], [], [0], [0]]) ([[], [], [], [], [], [], [], [], [], [0], []]) rfl (by kernel_rfl) ?_
 refine qvM [10] [0] (hL trivial) 1 72 [(33, rf 0 0 4 x4), (0, A a0), (2, I a2), (4, pf a1 0), (7, rf 0 0 4 x4), (9, I x3), (10, .ptr 1 0 0)] [sl 0 x4, sc 0 v8] ?_
 refine qvM [10] [] trivial 5 72 [(38, A a1.fRow), (36, I a2), (35, I a1.fKey), (33, rf 0 0 4 x4), (0, A a0), (2, I a2), (4, pf a1 0), (7, rf 0 0 4 x4), (9, I x3), (10, .ptr 1 0 0)] [sl 0 x4, sc 0 v8] ?_
 obtain ⟨v20, hv21, h⟩ := bindS h
 refine qX (some 39) (A v20) 72 [(39, A v20), (36, I a2), (35, I a1.fKey), (33, rf 0 0 4 x4), (0, A a0), (2, I a2), (4, pf a1 0), (7, rf 0 0 4 x4), (9, I x3), (10, .ptr 1 0 0)] [sl 0 x4, sc 0 v8] (fun Γ' hΓ => CoreE.of_g (callV_sound (τ := τ) (by kernel_rfl) rfl (ok_spec_l3Own hv21) (FzTo.O _))) trivial ?_
 refine qvM [10] [] trivial 2 72 [(41, .arr 4 ([(T_impl_Version.mk a1.fKey a2 0 v20)] : List T_impl_Version).length (eL ([(T_impl_Version.mk a1.fKey a2 0 v20)] : List T_impl_Version)) true), (33, rf 0 0 4 x4), (0, A a0), (2, I a2), (4, pf a1 0), (7, rf 0 0 4 x4), (9, I x3), (10, .ptr 1 0 0)] [sl 0 x4, sc 0 v8] ?_
 obtain ⟨v22, hv23, h⟩ := bindS h
 refine qX (some 42) (rf 0 1 4 v22) 72 [(42, rf 0 1 4 v22), (0, A a0), (2, I a2), (4, pf a1 0), (7, rf 0 0 4 x4), (9, I x3), (10, .ptr 1 0 0)] [sl 1 v22, sc 0 v8] (fun Γ' hΓ => app_Ew τ_ok 42 0 0 (ny hΓ hX) hv23 (by kernel_rfl)) (hL trivial) ?_
 refine qvnM [10] [0] (hL trivial) 1 72 [(0, A a0), (2, I a2), (4, pf a1 0), (7, rf 0 1 4 v22), (9, I x3), (10, .ptr 1 0 0)] [sl 1 v22, sc 0 v8] ?_
 refine rveM [10] 72 [(0, A a0), (2, I a2), (4, pf a1 0), (7, rf 0 1 4 v22), (8, B true), (9, I x3), (10, .ptr 1 0 0)] [sl 1 v22, sc 0 v8] ?_
 exact ⟨(true, v22), h, (it (st' := ⟨72, [(0, A a0), (2, I a2), (4, pf a1 0), (7, rf 0 1 4 v22), (8, B true), (9, I x3), (10, .ptr 1 0 0)], [sl 1 v22, sc 0 v8]⟩) [0, 2, 4, 7, 8, 9, 10]).trans (Imp.reverS 0 1 (eL v22) [0, 2, 4, 7, 8, 9, 10] (by kernel_rfl) (by exact (And.intro (eL_frz _) (And.intro (rfl) trivial))) (by kernel_rfl))⟩
 refine pwp_skip ?_
 exact ⟨(x2, x4), h, it [0, 2, 4, 7, 8, 9, 10]⟩
 rintro ⟨x10, x11⟩ h
 dsimp only at h ⊢
 unfold spec_l13Written_j1 at h
 refine pwp_seq ?_
 refine pwp_join (σ := T_impl_Version) (fun x12 => (⟨72, [(0, A a0), (2, I a2), (4, pf a1 0), (7, rf 0 0 4 x11), (8, B x10), (9, I x3), (10, .ptr 1 0 0)], [sl 0 x11, sc 0 x12]⟩ : St)) (fun x12 => spec_l13Written_j2 x3 (spec_l13Written_l0 a0 a1 a2 f5) x10 x11 x12 = some y) ?_ ?_
 refine pwp_seq ?_
 refine pwp_join (σ := Bool) (fun x15 => (⟨72, [(0, A a0), (2, I a2), (4, pf a1 0), (7, rf 0 0 4 x11), (8, B x10), (9, I x3), (10, .ptr 1 0 0), (52, B x15)], [sl 0 x11, sc 0 v8]⟩ : St)) (fun x15 => spec_l13Written_j3 a2 x3 (spec_l13Written_l0 a0 a1 a2 f5) v8 x10 x11 x15 = some y) ?_ ?_
 refine rvM [10] 6 72 [(0, A a0), (2, I a2), (4, pf a1 0), (7, rf 0 0 4 x11), (8, B x10), (9, I x3), (10, .ptr 1 0 0), (48, B (v8.fKey == a1.fKey))] [sl 0 x11, sc 0 v8] ?_
 rcases fk (v8.fKey == a1.fKey) with hc17 | hc17
 replace h := bT hc17 h
 rw [hc17]
 refine veM [10] 4 72 [(0, A a0), (2, I a2), (4, pf a1 0), (7, rf 0 0 4 x11), (8, B x10), (9, I x3), (10, .ptr 1 0 0), (49, .ptr 1 0 2), (50, I v8.fDied), (51, B (v8.fDied == 0)), (52, B (v8.fDied == 0))] [sl 0 x11, sc 0 v8] ?_
 exact ⟨(v8.fDied == 0), h, it [0, 2, 4, 7, 8, 9, 10, 52]⟩
 replace h := bF hc17 h
 rw [hc17]
 refine veM [10] 4 72 [(0, A a0), (2, I a2), (4, pf a1 0), (7, rf 0 0 4 x11), (8, B x10), (9, I x3), (10, .ptr 1 0 0), (49, .lit undef), (50, .lit undef), (51, .lit undef), (52, B false)] [sl 0 x11, sc 0 v8] ?_
 exact ⟨false, h, it [0, 2, 4, 7, 8, 9, 10, 52]⟩
 rintro x15 h
 unfold spec_l13Written_j3 at h
 refine pc h (fun h => ?_) (fun h => ?_)
 refine rveM [10] 72 [(0, A a0), (2, I a2), (4, pf a1 0), (7, rf 0 0 4 x11), (8, B x10), (9, I x3), (10, .ptr 1 0 0)] [sl 0 x11, some ⟨0, Enc.cells ({ v8 with fDied := a2 })⟩] ?_
 exact ⟨{ v8 with fDied := a2 }, h, it [0, 2, 4, 7, 8, 9, 10]⟩
 refine pwp_skip ?_
 exact ⟨v8, h, it [0, 2, 4, 7, 8, 9, 10]⟩
 rintro x12 h
 unfold spec_l13Written_j2 at h
 refine rvM [10] 3 72 [(0, A a0), (2, I a2), (4, pf a1 0), (8, B x10), (9, I x3), (55, rf 0 0 4 x11), (57, .arr 4 ([x12] : List T_impl_Version).length (eL ([x12] : List T_impl_Version)) true)] [sl 0 x11, sc 0 x12] ?_
 obtain ⟨v13, hv14, h⟩ := bindS h
 refine opsP_app τ_ok 58 0 0 (nx hX) hv14 (by kernel_rfl) ?_
 refine veM [10] 1 72 [(0, A a0), (2, I a2), (4, pf a1 0), (7, rf 0 1 4 v13), (8, B x10), (9, I x3)] [sl 1 v13, sc 0 x12] ?_
 refine rveM [10] 72 [(0, A a0), (2, I a2), (4, pf a1 0), (7, rf 0 1 4 v13), (8, B x10), (9, I (w64 (x3 + 1)))] [sl 1 v13, sc 0 x12] ?_
 exact ⟨(f5, x10, (w64 (x3 + 1)), v13), h, Nat.lt_succ_self _, qt (it (st' := ⟨72, [(0, A a0), (2, I a2), (4, pf a1 0), (7, rf 0 1 4 v13), (8, B x10), (9, I (w64 (x3 + 1)))], [sl 1 v13, sc 0 x12]⟩) [0, 2, 4, 7, 8, 9]) (qt (Imp.truncS (st' := ⟨72, [(0, A a0), (2, I a2), (4, pf a1 0), (7, rf 0 1 4 v13), (8, B x10), (9, I (w64 (x3 + 1)))], [sl 1 v13]⟩) 1 (nx hX) (by kernel_rfl) (allBelow_mem (by exact (And.intro rfl (And.intro rfl (And.intro rfl (And.intro rfl (And.intro rfl (And.intro rfl trivial)))))))) (by exact (And.intro (frz_below (eL_frz _)) trivial)) (by kernel_rfl)) (Imp.reverS 0 1 (eL v13) [0, 2, 4, 7, 8, 9] (by kernel_rfl) (by exact (And.intro (eL_frz _) trivial)) (by kernel_rfl)))⟩
 refine pwp_exit ?_
 refine pwp_seq ?_
 refine srveM [10] 72 [(2, I a2), (4, pf a1 0), (7, rf 0 0 4 x4), (60, B (!x2))] [sl 0 x4] ?_
 refine pc h (fun h => ?_) (fun h => ?_)
 refine ip 72 [(2, I a2), (4, pf a1 0), (7, rf 0 0 4 x4)] [sl 0 x4] ?_
 refine pwp_any ([[0], [], [], [], [], [], [], [], [], [0], [0]]) ([[], [], [], [], [], [], [], [], [], [0], []]) rfl (by kernel_rfl) ?_
 refine qvM [10] [0] (hL trivial) 1 72 [(61, rf 0 0 4 x4), (2, I a2), (4, pf a1 0), (7, rf 0 0 4 x4)] [sl 0 x4] ?_
 refine qvM [10] [] trivial 5 72 [(66, A a1.fRow), (64, I a2), (63, I a1.fKey), (61, rf 0 0 4 x4), (7, rf 0 0 4 x4)] [sl 0 x4] ?_
 obtain ⟨v26, hv27, h⟩ := bindS h
 refine qX (some 67) (A v26) 72 [(67, A v26), (64, I a2), (63, I a1.fKey), (61, rf 0 0 4 x4), (7, rf 0 0 4 x4)] [sl 0 x4] (fun Γ' hΓ => CoreE.of_g (callV_sound (τ := τ) (by kernel_rfl) rfl (ok_spec_l3Own hv27) (FzTo.O _))) trivial ?_
 refine qvM [10] [] trivial 2 72 [(69, .arr 4 ([(T_impl_Version.mk a1.fKey a2 0 v26)] : List T_impl_Version).length (eL ([(T_impl_Version.mk a1.fKey a2 0 v26)] : List T_impl_Version)) true), (61, rf 0 0 4 x4), (7, rf 0 0 4 x4)] [sl 0 x4] ?_
 obtain ⟨v28, hv29, h⟩ := bindS h
 refine qX (some 70) (rf 0 1 4 v28) 72 [(70, rf 0 1 4 v28), (7, rf 0 0 4 x4)] [sl 1 v28] (fun Γ' hΓ => app_Ew τ_ok 70 0 0 (ny hΓ hX) hv29 (by kernel_rfl)) (hL trivial) ?_
 refine qvnM [10] [0] (hL trivial) 1 72 [(7, rf 0 1 4 v28)] [sl 1 v28] ?_
 refine srveM [10] 72 [(6, rf 0 1 4 v28)] [sl 1 v28] ?_
 have h := si h
 subst h
 exact pwp_ret (rt (rf 0 1 4 v28) (OutP.list (v := 1) (by kernel_rfl)))
 refine pwp_skip ?_
 refine srveM [10] 72 [(6, rf 0 0 4 x4)] [sl 0 x4] ?_
 have h := si h
 subst h
 exact pwp_ret (rt (rf 0 0 4 x4) (OutP.list (v := 0) (by kernel_rfl)))
def impl_letters_l0 (v1 : List UInt8) : Nat → Int → Option Bool
 | 0, _ => none
 | f4 + 1, x3 => bif (decide (x3 < (v1.length : Int))) then (getI v1 x3).bind fun v7 => (impl_between (w64 (v7.toNat : Int)) 97 122).bind fun v9 => bif (!v9) then some false else (impl_letters_l0 v1 f4) (w64 (x3 + 1)) else some true
def impl_letters (a0 : ByteArray) : Option Bool := (bytesOf a0).bind fun v1 => impl_letters_l0 v1 FUEL 0
theorem ok_impl_letters {a0 : ByteArray} {y : Bool} (h : impl_letters a0 = some y) : OK Try.prog 117 [S a0] (B y) := by
 refine ow Try.func117 fun Γ hX => ?_
 unfold impl_letters at h
 refine srve 17 [(0, S a0)] [] ?_
 refine pwp_seq ?_
 refine srv 1 17 [(5, S a0)] [] ?_
 obtain ⟨v1, hv2, h⟩ := bindS h
 refine opsP_cvb τ_ok 6 hv2 (by kernel_rfl) ?_
 refine ve 2 17 [(6, A v1), (7, I (v1.length : Int)), (8, I 0)] [] ?_
 refine pwp_block ?_
 refine pwp_loop (ι := Nat × Int) (fun (f4, x3) => (⟨17, [(6, A v1), (7, I (v1.length : Int)), (8, I x3)], []⟩ : St)) (fun (f4, x3) => impl_letters_l0 v1 f4 x3 = some y) Prod.fst (FUEL, 0) h (it [6, 7, 8]) ?_
 rintro ⟨f4, x3⟩ h
 dsimp only at h ⊢
 rcases f4 with _ | f4
 cases h
 rw [impl_letters_l0] at h
 refine srve 17 [(6, A v1), (7, I (v1.length : Int)), (8, I x3), (9, B (decide (x3 < (v1.length : Int))))] [] ?_
 refine pwp_seq ?_
 refine pc h (fun h => ?_) (fun h => ?_)
 refine pwp_skip ?_
 refine pwp_seq ?_
 refine pwp_block ?_
 refine pwp_seq ?_
 refine pwp_region ?_
 obtain ⟨v7, hv8, h⟩ := bindS h
 refine opsP_idx τ_ok 10 hv8 (by kernel_rfl) ?_
 refine ve 2 17 [(4, .lit (.int .u8 (v7).toNat)), (6, A v1), (7, I (v1.length : Int)), (8, I x3)] [] ?_
 refine srv 2 17 [(6, A v1), (7, I (v1.length : Int)), (8, I x3), (13, I (w64 (v7.toNat : Int)))] [] ?_
 obtain ⟨v9, hv10, h⟩ := bindS h
 refine cF 14 (ok_impl_between hv10) ?_
 refine ve 1 17 [(6, A v1), (7, I (v1.length : Int)), (8, I x3), (15, B (!v9))] [] ?_
 refine pc h (fun h => ?_) (fun h => ?_)
 refine srve 17 [(2, B false)] [] ?_
 cases h
 exact pwp_ret rz
 refine pwp_skip ?_
 refine rve 17 [(6, A v1), (7, I (v1.length : Int)), (8, I (w64 (x3 + 1)))] [] ?_
 exact ⟨(f4, (w64 (x3 + 1))), h, Nat.lt_succ_self _, it [6, 7, 8]⟩
 refine pwp_exit ?_
 refine srve 17 [(2, B true)] [] ?_
 cases h
 exact pwp_ret rz
def slices_Clip_impl_Value_impl_Value (a0 : List T_impl_Value) : Option (List T_impl_Value) := (slI a0 none (some (a0.length : Int)) (some (a0.length : Int))).bind fun v1 => some v1
theorem ok_slices_Clip_impl_Value_impl_Value {a0 : List T_impl_Value} {y : List T_impl_Value} (h : slices_Clip_impl_Value_impl_Value a0 = some y) : OK Try.prog 118 [A a0] (A y) := by
 refine ow Try.func118 fun Γ hX => ?_
 unfold slices_Clip_impl_Value_impl_Value at h
 refine srve 9 [(0, A a0)] [] ?_
 refine srv 5 9 [(3, A a0), (5, I (a0.length : Int)), (7, I (a0.length : Int))] [] ?_
 obtain ⟨v1, hv2, h⟩ := bindS h
 refine opsP_slc τ_ok 8 hv2 (by kernel_rfl) ?_
 refine ve 1 9 [(2, A v1)] [] ?_
 cases h
 exact pwp_ret rz
def cmp_Or_int_l0 (a0 : List Int) : Nat → Int → Option Int
 | 0, _ => none
 | f2 + 1, x1 => bif (decide (x1 < (a0.length : Int))) then (getI a0 x1).bind fun v5 => bif (!(v5 == 0)) then some v5 else (cmp_Or_int_l0 a0 f2) (w64 (x1 + 1)) else some 0
def cmp_Or_int (a0 : List Int) : Option Int := cmp_Or_int_l0 a0 FUEL 0
theorem ok_cmp_Or_int {a0 : List Int} {y : Int} (h : cmp_Or_int a0 = some y) : OK Try.prog 121 [A a0] (I y) := by
 refine ow Try.func121 fun Γ hX => ?_
 unfold cmp_Or_int at h
 refine srve 18 [(0, A a0)] [] ?_
 refine srve 18 [(0, A a0), (3, I 0)] [] ?_
 refine pwp_seq ?_
 refine srve 18 [(3, I 0), (6, A a0), (7, I (a0.length : Int)), (8, I 0)] [] ?_
 refine pwp_block ?_
 refine pwp_loop (ι := Nat × Int) (fun (f2, x1) => (⟨18, [(3, I 0), (6, A a0), (7, I (a0.length : Int)), (8, I x1)], []⟩ : St)) (fun (f2, x1) => cmp_Or_int_l0 a0 f2 x1 = some y) Prod.fst (FUEL, 0) h (it [3, 6, 7, 8]) ?_
 rintro ⟨f2, x1⟩ h
 dsimp only at h ⊢
 rcases f2 with _ | f2
 cases h
 rw [cmp_Or_int_l0] at h
 refine srve 18 [(3, I 0), (6, A a0), (7, I (a0.length : Int)), (8, I x1), (9, B (decide (x1 < (a0.length : Int))))] [] ?_
 refine pwp_seq ?_
 refine pc h (fun h => ?_) (fun h => ?_)
 refine pwp_skip ?_
 refine pwp_seq ?_
 refine pwp_block ?_
 refine pwp_seq ?_
 refine pwp_region ?_
 obtain ⟨v5, hv6, h⟩ := bindS h
 refine opsP_idx τ_ok 10 hv6 (by kernel_rfl) ?_
 refine ve 2 18 [(3, I 0), (5, I v5), (6, A a0), (7, I (a0.length : Int)), (8, I x1)] [] ?_
 refine srve 18 [(3, I 0), (5, I v5), (6, A a0), (7, I (a0.length : Int)), (8, I x1), (14, B (!(v5 == 0)))] [] ?_
 refine pc h (fun h => ?_) (fun h => ?_)
 refine srve 18 [(2, I v5)] [] ?_
 cases h
 exact pwp_ret rz
 refine pwp_skip ?_
 refine rve 18 [(3, I 0), (6, A a0), (7, I (a0.length : Int)), (8, I (w64 (x1 + 1)))] [] ?_
 exact ⟨(f2, (w64 (x1 + 1))), h, Nat.lt_succ_self _, it [3, 6, 7, 8]⟩
 refine pwp_exit ?_
 refine srve 18 [(2, I 0)] [] ?_
 cases h
 exact pwp_ret rz
def slices_IndexFunc_impl_Entry_impl_Entry_l0 (a0 : List T_impl_Entry) (a1 : T_impl_Entry → Option Bool) : Nat → Int → Option Int
 | 0, _ => none
 | f2 + 1, x1 => bif (decide (x1 < (a0.length : Int))) then (getI a0 x1).bind fun v5 => (a1 v5).bind fun v7 => bif v7 then some x1 else (slices_IndexFunc_impl_Entry_impl_Entry_l0 a0 a1 f2) (w64 (x1 + 1)) else some (-1)
def slices_IndexFunc_impl_Entry_impl_Entry (a0 : List T_impl_Entry) (a1 : T_impl_Entry → Option Bool) : Option Int := slices_IndexFunc_impl_Entry_impl_Entry_l0 a0 a1 FUEL 0
theorem ok_slices_IndexFunc_impl_Entry_impl_Entry {a0 : List T_impl_Entry} {g1 : FuncId} {c1 : List V} (hz1 : frzL c1 = true) {a1 : T_impl_Entry → Option Bool} (hp1 : ∀ x0 y, a1 x0 = some y → OK Try.prog g1 ([E x0] ++ c1) (B y)) {y : Int} (h : slices_IndexFunc_impl_Entry_impl_Entry a0 a1 = some y) : OK Try.prog 123 [A a0, .fn g1 c1] (I y) := by
 refine ow Try.func123 fun Γ hX => ?_
 unfold slices_IndexFunc_impl_Entry_impl_Entry at h
 refine srve 19 [(0, A a0), (1, .fn g1 c1)] [] ?_
 refine pwp_seq ?_
 refine srve 19 [(0, A a0), (1, .fn g1 c1), (7, I (a0.length : Int)), (8, I 0)] [] ?_
 refine pwp_block ?_
 refine pwp_loop (ι := Nat × Int) (fun (f2, x1) => (⟨19, [(0, A a0), (1, .fn g1 c1), (7, I (a0.length : Int)), (8, I x1)], []⟩ : St)) (fun (f2, x1) => slices_IndexFunc_impl_Entry_impl_Entry_l0 a0 a1 f2 x1 = some y) Prod.fst (FUEL, 0) h (it [0, 1, 7, 8]) ?_
 rintro ⟨f2, x1⟩ h
 dsimp only at h ⊢
 rcases f2 with _ | f2
 cases h
 rw [slices_IndexFunc_impl_Entry_impl_Entry_l0] at h
 refine srve 19 [(0, A a0), (1, .fn g1 c1), (7, I (a0.length : Int)), (8, I x1), (9, B (decide (x1 < (a0.length : Int))))] [] ?_
 refine pwp_seq ?_
 refine pc h (fun h => ?_) (fun h => ?_)
 refine pwp_skip ?_
 refine pwp_seq ?_
 refine pwp_block ?_
 refine srve 19 [(0, A a0), (1, .fn g1 c1), (5, I x1), (7, I (a0.length : Int)), (8, I x1)] [] ?_
 refine srv 3 19 [(0, A a0), (1, .fn g1 c1), (5, I x1), (7, I (a0.length : Int)), (8, I x1), (11, .fn g1 c1), (12, A a0), (13, I x1)] [] ?_
 obtain ⟨v5, hv6, h⟩ := bindS h
 refine opsP_idx τ_ok 14 hv6 (by kernel_rfl) ?_
 refine v 1 19 [(0, A a0), (1, .fn g1 c1), (5, I x1), (7, I (a0.length : Int)), (8, I x1), (11, .fn g1 c1), (15, E v5)] [] ?_
 obtain ⟨v7, hv8, h⟩ := bindS h
 refine opsP_callF τ 16 (hp1 _ _ hv8) (FzTo.frz rfl) (frz_app (xs := [E v5]) rfl hz1) (by kernel_rfl) ?_
 refine ve 0 19 [(0, A a0), (1, .fn g1 c1), (5, I x1), (7, I (a0.length : Int)), (8, I x1), (16, B v7)] [] ?_
 refine pc h (fun h => ?_) (fun h => ?_)
 refine srve 19 [(4, I x1)] [] ?_
 cases h
 exact pwp_ret rz
 refine pwp_skip ?_
 refine rve 19 [(0, A a0), (1, .fn g1 c1), (7, I (a0.length : Int)), (8, I (w64 (x1 + 1)))] [] ?_
 exact ⟨(f2, (w64 (x1 + 1))), h, Nat.lt_succ_self _, it [0, 1, 7, 8]⟩
 refine pwp_exit ?_
 refine srve 19 [(4, I (-1))] [] ?_
 cases h
 exact pwp_ret rz
def slices_IndexFunc_impl_Value_impl_Value_l0 (a0 : List T_impl_Value) (a1 : T_impl_Value → Option Bool) : Nat → Int → Option Int
 | 0, _ => none
 | f2 + 1, x1 => bif (decide (x1 < (a0.length : Int))) then (getI a0 x1).bind fun v5 => (a1 v5).bind fun v7 => bif v7 then some x1 else (slices_IndexFunc_impl_Value_impl_Value_l0 a0 a1 f2) (w64 (x1 + 1)) else some (-1)
def slices_IndexFunc_impl_Value_impl_Value (a0 : List T_impl_Value) (a1 : T_impl_Value → Option Bool) : Option Int := slices_IndexFunc_impl_Value_impl_Value_l0 a0 a1 FUEL 0
theorem ok_slices_IndexFunc_impl_Value_impl_Value {a0 : List T_impl_Value} {g1 : FuncId} {c1 : List V} (hz1 : frzL c1 = true) {a1 : T_impl_Value → Option Bool} (hp1 : ∀ x0 y, a1 x0 = some y → OK Try.prog g1 ([E x0] ++ c1) (B y)) {y : Int} (h : slices_IndexFunc_impl_Value_impl_Value a0 a1 = some y) : OK Try.prog 129 [A a0, .fn g1 c1] (I y) := by
 refine ow Try.func129 fun Γ hX => ?_
 unfold slices_IndexFunc_impl_Value_impl_Value at h
 refine srve 19 [(0, A a0), (1, .fn g1 c1)] [] ?_
 refine pwp_seq ?_
 refine srve 19 [(0, A a0), (1, .fn g1 c1), (7, I (a0.length : Int)), (8, I 0)] [] ?_
 refine pwp_block ?_
 refine pwp_loop (ι := Nat × Int) (fun (f2, x1) => (⟨19, [(0, A a0), (1, .fn g1 c1), (7, I (a0.length : Int)), (8, I x1)], []⟩ : St)) (fun (f2, x1) => slices_IndexFunc_impl_Value_impl_Value_l0 a0 a1 f2 x1 = some y) Prod.fst (FUEL, 0) h (it [0, 1, 7, 8]) ?_
 rintro ⟨f2, x1⟩ h
 dsimp only at h ⊢
 rcases f2 with _ | f2
 cases h
 rw [slices_IndexFunc_impl_Value_impl_Value_l0] at h
 refine srve 19 [(0, A a0), (1, .fn g1 c1), (7, I (a0.length : Int)), (8, I x1), (9, B (decide (x1 < (a0.length : Int))))] [] ?_
 refine pwp_seq ?_
 refine pc h (fun h => ?_) (fun h => ?_)
 refine pwp_skip ?_
 refine pwp_seq ?_
 refine pwp_block ?_
 refine srve 19 [(0, A a0), (1, .fn g1 c1), (5, I x1), (7, I (a0.length : Int)), (8, I x1)] [] ?_
 refine srv 3 19 [(0, A a0), (1, .fn g1 c1), (5, I x1), (7, I (a0.length : Int)), (8, I x1), (11, .fn g1 c1), (12, A a0), (13, I x1)] [] ?_
 obtain ⟨v5, hv6, h⟩ := bindS h
 refine opsP_idx τ_ok 14 hv6 (by kernel_rfl) ?_
 refine v 1 19 [(0, A a0), (1, .fn g1 c1), (5, I x1), (7, I (a0.length : Int)), (8, I x1), (11, .fn g1 c1), (15, E v5)] [] ?_
 obtain ⟨v7, hv8, h⟩ := bindS h
 refine opsP_callF τ 16 (hp1 _ _ hv8) (FzTo.frz rfl) (frz_app (xs := [E v5]) rfl hz1) (by kernel_rfl) ?_
 refine ve 0 19 [(0, A a0), (1, .fn g1 c1), (5, I x1), (7, I (a0.length : Int)), (8, I x1), (16, B v7)] [] ?_
 refine pc h (fun h => ?_) (fun h => ?_)
 refine srve 19 [(4, I x1)] [] ?_
 cases h
 exact pwp_ret rz
 refine pwp_skip ?_
 refine rve 19 [(0, A a0), (1, .fn g1 c1), (7, I (a0.length : Int)), (8, I (w64 (x1 + 1)))] [] ?_
 exact ⟨(f2, (w64 (x1 + 1))), h, Nat.lt_succ_self _, it [0, 1, 7, 8]⟩
 refine pwp_exit ?_
 refine srve 19 [(4, I (-1))] [] ?_
 cases h
 exact pwp_ret rz
def cmp_isNaN_int (a0 : Int) : Option Bool := some (!(a0 == a0))
theorem ok_cmp_isNaN_int {a0 : Int} {y : Bool} (h : cmp_isNaN_int a0 = some y) : OK Try.prog 131 [I a0] (B y) := by
 refine ow Try.func131 fun Γ hX => ?_
 unfold cmp_isNaN_int at h
 refine srve 6 [(0, I a0)] [] ?_
 refine srve 6 [(2, B (!(a0 == a0)))] [] ?_
 cases h
 exact pwp_ret rz
def laws_szValue (a0 : T_laws_Value) (a1 : Int) : Option Int := bif (decide ((w64 (a1 - (a0.fS.size : Int))) < 0)) then some (-1) else some (w64 (a1 - (a0.fS.size : Int)))
theorem ok_laws_szValue {a0 : T_laws_Value} {a1 : Int} {y : Int} (h : laws_szValue a0 a1 = some y) : OK Try.prog 132 [E a0, I a1] (I y) := by
 refine ow Try.func132 fun Γ hX => ?_
 unfold laws_szValue at h
 refine srve 13 [(1, I a1), (2, pf a0 0)] [] ?_
 refine srve 13 [(1, I (w64 (a1 - (a0.fS.size : Int))))] [] ?_
 refine pwp_seq ?_
 refine srve 13 [(1, I (w64 (a1 - (a0.fS.size : Int)))), (11, B (decide ((w64 (a1 - (a0.fS.size : Int))) < 0)))] [] ?_
 refine pc h (fun h => ?_) (fun h => ?_)
 refine srve 13 [(4, I (-1))] [] ?_
 cases h
 exact pwp_ret rz
 refine pwp_skip ?_
 refine srve 13 [(4, I (w64 (a1 - (a0.fS.size : Int))))] [] ?_
 cases h
 exact pwp_ret rz
def laws_toValue (a0 : T_laws_Value) : Option T_impl_Value := some (T_impl_Value.mk a0.fKind a0.fN a0.fS)
theorem ok_laws_toValue {a0 : T_laws_Value} {y : T_impl_Value} (h : laws_toValue a0 = some y) : OK Try.prog 133 [E a0] (E y) := by
 refine ow Try.func133 fun Γ hX => ?_
 unfold laws_toValue at h
 refine srveM [2, 3] 14 [(1, pf a0 0), (2, .ptr 0 0 0)] [some ⟨0, Enc.cells (T_impl_Value.mk 0 0 (ByteArray.mk #[]))⟩] ?_
 refine srveM [2, 3] 14 [(1, pf a0 0), (2, .ptr 0 0 0), (3, .ptr 1 0 0)] [some ⟨0, Enc.cells (T_impl_Value.mk 0 0 (ByteArray.mk #[]))⟩, some ⟨0, Enc.cells (T_impl_Value.mk 0 0 (ByteArray.mk #[]))⟩] ?_
 refine srveM [2, 3] 14 [(1, pf a0 0), (2, .ptr 0 0 0), (3, .ptr 1 0 0)] [some ⟨0, Enc.cells (T_impl_Value.mk 0 0 (ByteArray.mk #[]))⟩, some ⟨0, Enc.cells (T_impl_Value.mk a0.fKind 0 (ByteArray.mk #[]))⟩] ?_
 refine srveM [2, 3] 14 [(1, pf a0 0), (2, .ptr 0 0 0), (3, .ptr 1 0 0)] [some ⟨0, Enc.cells (T_impl_Value.mk 0 0 (ByteArray.mk #[]))⟩, some ⟨0, Enc.cells (T_impl_Value.mk a0.fKind a0.fN (ByteArray.mk #[]))⟩] ?_
 refine srveM [2, 3] 14 [(2, .ptr 0 0 0), (3, .ptr 1 0 0)] [some ⟨0, Enc.cells (T_impl_Value.mk 0 0 (ByteArray.mk #[]))⟩, some ⟨0, Enc.cells (T_impl_Value.mk a0.fKind a0.fN a0.fS)⟩] ?_
 refine srveM [2, 3] 14 [(2, .ptr 0 0 0)] [some ⟨0, Enc.cells (T_impl_Value.mk a0.fKind a0.fN a0.fS)⟩, some ⟨0, Enc.cells (T_impl_Value.mk a0.fKind a0.fN a0.fS)⟩] ?_
 cases h
 exact pwp_ret rz
def spec_l1Text_j1 (x1 : Int) (K3 : Int → Option Bool) (x5 : Bool) : Option Bool := bif x5 then some false else K3 (w64 (x1 + 1))
def spec_l1Text_l0 (a0 : ByteArray) : Nat → Int → Option Bool
 | 0, _ => none
 | f2 + 1, x1 => bif (decide (x1 < (a0.size : Int))) then (getB a0 x1).bind fun v7 => bif (decide ((v7.toNat : Int) < 97)) then spec_l1Text_j1 x1 (spec_l1Text_l0 a0 f2) true else (getB a0 x1).bind fun v9 => spec_l1Text_j1 x1 (spec_l1Text_l0 a0 f2) (decide ((v9.toNat : Int) > 122)) else some (decide ((a0.size : Int) ≤ 6))
def spec_l1Text (a0 : ByteArray) : Option Bool := spec_l1Text_l0 a0 FUEL 0
theorem ok_spec_l1Text {a0 : ByteArray} {y : Bool} (h : spec_l1Text a0 = some y) : OK Try.prog 136 [S a0] (B y) := by
 refine ow Try.func136 fun Γ hX => ?_
 unfold spec_l1Text at h
 refine srve 23 [(0, S a0)] [] ?_
 refine pwp_seq ?_
 refine srve 23 [(0, S a0), (3, I 0)] [] ?_
 refine pwp_block ?_
 refine pwp_loop (ι := Nat × Int) (fun (f2, x1) => (⟨23, [(0, S a0), (3, I x1)], []⟩ : St)) (fun (f2, x1) => spec_l1Text_l0 a0 f2 x1 = some y) Prod.fst (FUEL, 0) h (it [0, 3]) ?_
 rintro ⟨f2, x1⟩ h
 dsimp only at h ⊢
 rcases f2 with _ | f2
 cases h
 rw [spec_l1Text_l0] at h
 refine pwp_seq ?_
 refine srve 23 [(0, S a0), (3, I x1), (7, B (decide (x1 < (a0.size : Int))))] [] ?_
 refine pc h (fun h => ?_) (fun h => ?_)
 refine pwp_skip ?_
 refine pwp_seq ?_
 refine pwp_block ?_
 refine pwp_seq ?_
 refine pwp_join (σ := Bool) (fun x5 => (⟨23, [(0, S a0), (3, I x1), (19, B x5)], []⟩ : St)) (fun x5 => spec_l1Text_j1 x1 (spec_l1Text_l0 a0 f2) x5 = some y) ?_ ?_
 refine rv 2 23 [(0, S a0), (3, I x1), (10, S a0), (11, I x1)] [] ?_
 obtain ⟨v7, hv8, h⟩ := bindS h
 refine opsP_byt τ_ok 12 hv8 (by kernel_rfl) ?_
 refine v 2 23 [(0, S a0), (3, I x1), (14, B (decide ((v7.toNat : Int) < 97)))] [] ?_
 rcases fk (decide ((v7.toNat : Int) < 97)) with hc11 | hc11
 replace h := bT hc11 h
 rw [hc11]
 refine ve 5 23 [(0, S a0), (3, I x1), (15, .lit undef), (16, .lit undef), (17, .lit undef), (18, .lit undef), (19, B true)] [] ?_
 exact ⟨true, h, it [0, 3, 19]⟩
 replace h := bF hc11 h
 rw [hc11]
 refine v 2 23 [(0, S a0), (3, I x1), (14, B false), (15, S a0), (16, I x1)] [] ?_
 obtain ⟨v9, hv10, h⟩ := bindS h
 refine opsP_byt τ_ok 17 hv10 (by kernel_rfl) ?_
 refine ve 2 23 [(0, S a0), (3, I x1), (15, S a0), (16, I x1), (17, .lit (.int .u8 (v9).toNat)), (18, B (decide ((v9.toNat : Int) > 122))), (19, B (decide ((v9.toNat : Int) > 122)))] [] ?_
 exact ⟨(decide ((v9.toNat : Int) > 122)), h, it [0, 3, 19]⟩
 rintro x5 h
 unfold spec_l1Text_j1 at h
 refine pc h (fun h => ?_) (fun h => ?_)
 refine srve 23 [(2, B false)] [] ?_
 cases h
 exact pwp_ret rz
 refine pwp_skip ?_
 refine rve 23 [(0, S a0), (3, I (w64 (x1 + 1)))] [] ?_
 exact ⟨(f2, (w64 (x1 + 1))), h, Nat.lt_succ_self _, it [0, 3]⟩
 refine pwp_exit ?_
 refine srve 23 [(2, B (decide ((a0.size : Int) ≤ 6)))] [] ?_
 cases h
 exact pwp_ret rz
def slices_insertionSortCmpFunc_impl_Version_j2 (x2 : Int) (K5 : Int → (List T_impl_Version) → Option (List T_impl_Version)) (x8 : Int) (x9 : List T_impl_Version) (K11 : Int → (List T_impl_Version) → Option (List T_impl_Version)) (x12 : Bool) : Option (List T_impl_Version) := bif x12 then (getI x9 (w64 (x8 - 1))).bind fun v14 => (getI x9 x8).bind fun v16 => (getI x9 x8).bind fun v18 => (getI (x9.set x8.toNat v14) (w64 (x8 - 1))).bind fun v20 => K11 (w64 (x8 - 1)) ((x9.set x8.toNat v14).set (w64 (x8 - 1)).toNat v16) else K5 (w64 (x2 + 1)) x9
def slices_insertionSortCmpFunc_impl_Version_l1 (a1 : Int) (a3 : T_impl_Version → T_impl_Version → Option Int) (x2 : Int) (K5 : Int → (List T_impl_Version) → Option (List T_impl_Version)) : Nat → Int → (List T_impl_Version) → Option (List T_impl_Version)
 | 0, _, _ => none
 | f10 + 1, x8, x9 => bif (decide (x8 > a1)) then (getI x9 x8).bind fun v22 => (getI x9 (w64 (x8 - 1))).bind fun v24 => (a3 v22 v24).bind fun v26 => slices_insertionSortCmpFunc_impl_Version_j2 x2 K5 x8 x9 (slices_insertionSortCmpFunc_impl_Version_l1 a1 a3 x2 K5 f10) (decide (v26 < 0)) else slices_insertionSortCmpFunc_impl_Version_j2 x2 K5 x8 x9 (slices_insertionSortCmpFunc_impl_Version_l1 a1 a3 x2 K5 f10) false
def slices_insertionSortCmpFunc_impl_Version_l0 (a1 : Int) (a2 : Int) (a3 : T_impl_Version → T_impl_Version → Option Int) : Nat → Int → (List T_impl_Version) → Option (List T_impl_Version)
 | 0, _, _ => none
 | f4 + 1, x2, x3 => bif (decide (x2 < a2)) then slices_insertionSortCmpFunc_impl_Version_l1 a1 a3 x2 (slices_insertionSortCmpFunc_impl_Version_l0 a1 a2 a3 f4) FUEL x2 x3 else some x3
def slices_insertionSortCmpFunc_impl_Version_w (a0 : List T_impl_Version) (a1 : Int) (a2 : Int) (a3 : T_impl_Version → T_impl_Version → Option Int) : Option (List T_impl_Version) := slices_insertionSortCmpFunc_impl_Version_l0 a1 a2 a3 FUEL (w64 (a1 + 1)) a0
def slices_insertionSortCmpFunc_impl_Version (a0 : List T_impl_Version) (a1 : Int) (a2 : Int) (a3 : T_impl_Version → T_impl_Version → Option Int) : Option (List T_impl_Version) := (slices_insertionSortCmpFunc_impl_Version_w a0 a1 a2 a3).bind fun y => bif (y.length == a0.length) then some y else none
theorem len_slices_insertionSortCmpFunc_impl_Version {a0 : List T_impl_Version} {a1 : Int} {a2 : Int} {a3 : T_impl_Version → T_impl_Version → Option Int} {y : List T_impl_Version} (h : slices_insertionSortCmpFunc_impl_Version a0 a1 a2 a3 = some y) : y.length = a0.length := (bindLen (f := fun y : List T_impl_Version => y) h).2
theorem ok_slices_insertionSortCmpFunc_impl_Version {a0 : List T_impl_Version} {a1 : Int} {a2 : Int} {g3 : FuncId} {c3 : List V} (hz3 : frzL c3 = true) {a3 : T_impl_Version → T_impl_Version → Option Int} (hp3 : ∀ x0 x1 y, a3 x0 x1 = some y → OK Try.prog g3 ([E x0, E x1] ++ c3) (I y)) {y : List T_impl_Version} (h : slices_insertionSortCmpFunc_impl_Version a0 a1 a2 a3 = some y) : OKs Try.prog 137 [] 4 a0.length (eL a0) [I a1, I a2, .fn g3 c3] (.tup []) (eL y) := by
 refine OKs_of_pwp τ_ok Try.func137 rfl (by kernel_rfl) rfl (eL_frz _) (eL_frz _) (by rw [eL_len, eL_len, len_slices_insertionSortCmpFunc_impl_Version h]) fun Γ hQ => ?_
 refine pwp_imp (Imp.to (st' := ⟨53, [(0, rf 0 0 4 a0), (1, I a1), (2, I a2), (3, .fn g3 c3)], [sl 0 a0]⟩) [0, 1, 2, 3] (by kernel_rfl)) ?_
 have h := (bindLen (f := fun y : List T_impl_Version => y) h).1
 unfold slices_insertionSortCmpFunc_impl_Version_w at h
 refine srve 53 [(0, rf 0 0 4 a0), (1, I a1), (2, I a2), (3, .fn g3 c3), (8, I (w64 (a1 + 1)))] [sl 0 a0] ?_
 refine pwp_block ?_
 refine pwp_loop (ι := Nat × Int × (List T_impl_Version)) (fun (f4, x2, x3) => (⟨53, [(0, rf 0 0 4 x3), (1, I a1), (2, I a2), (3, .fn g3 c3), (8, I x2)], [sl 0 x3]⟩ : St)) (fun (f4, x2, x3) => slices_insertionSortCmpFunc_impl_Version_l0 a1 a2 a3 f4 x2 x3 = some y) Prod.fst (FUEL, (w64 (a1 + 1)), a0) h (it [0, 1, 2, 3, 8]) ?_
 rintro ⟨f4, x2, x3⟩ h
 dsimp only at h ⊢
 rcases f4 with _ | f4
 cases h
 rw [slices_insertionSortCmpFunc_impl_Version_l0] at h
 refine pwp_seq ?_
 refine srve 53 [(0, rf 0 0 4 x3), (1, I a1), (2, I a2), (3, .fn g3 c3), (8, I x2), (14, B (decide (x2 < a2)))] [sl 0 x3] ?_
 refine pc h (fun h => ?_) (fun h => ?_)
 refine pwp_skip ?_
 refine pwp_seq ?_
 refine pwp_block ?_
 refine srve 53 [(0, rf 0 0 4 x3), (1, I a1), (2, I a2), (3, .fn g3 c3), (8, I x2), (9, I x2)] [sl 0 x3] ?_
 refine pwp_block ?_
 refine pwp_loop (ι := Nat × Int × (List T_impl_Version)) (fun (f10, x8, x9) => (⟨53, [(0, rf 0 0 4 x9), (1, I a1), (2, I a2), (3, .fn g3 c3), (8, I x2), (9, I x8)], [sl 0 x9]⟩ : St)) (fun (f10, x8, x9) => slices_insertionSortCmpFunc_impl_Version_l1 a1 a3 x2 (slices_insertionSortCmpFunc_impl_Version_l0 a1 a2 a3 f4) f10 x8 x9 = some y) Prod.fst (FUEL, x2, x3) h (it [0, 1, 2, 3, 8, 9]) ?_
 rintro ⟨f10, x8, x9⟩ h
 dsimp only at h ⊢
 rcases f10 with _ | f10
 cases h
 rw [slices_insertionSortCmpFunc_impl_Version_l1] at h
 refine pwp_seq ?_
 refine pwp_seq ?_
 refine pwp_join (σ := Bool) (fun x12 => (⟨53, [(0, rf 0 0 4 x9), (1, I a1), (2, I a2), (3, .fn g3 c3), (8, I x2), (9, I x8), (34, B x12)], [sl 0 x9]⟩ : St)) (fun x12 => slices_insertionSortCmpFunc_impl_Version_j2 x2 (slices_insertionSortCmpFunc_impl_Version_l0 a1 a2 a3 f4) x8 x9 (slices_insertionSortCmpFunc_impl_Version_l1 a1 a3 x2 (slices_insertionSortCmpFunc_impl_Version_l0 a1 a2 a3 f4) f10) x12 = some y) ?_ ?_
 refine ip 53 [(0, rf 0 0 4 x9), (1, I a1), (2, I a2), (3, .fn g3 c3), (8, I x2), (9, I x8)] [sl 0 x9] ?_
 refine pwp_any ([[], [], [], [], [], [0], [], [0], [0], [0], [], [], [0], [0], [], [], []]) ([[], [], [], [], [], [], [], [], [], [], [], [], [], [], [], [], []]) rfl (by kernel_rfl) ?_
 refine qv [] trivial 4 53 [(21, B (decide (x8 > a1))), (0, rf 0 0 4 x9), (1, I a1), (2, I a2), (3, .fn g3 c3), (8, I x2), (9, I x8)] [sl 0 x9] ?_
 rcases fk (decide (x8 > a1)) with hc28 | hc28
 replace h := bT hc28 h
 rw [hc28]
 refine qA_mv (⟨53, [(22, .fn g3 c3), (21, B true), (0, rf 0 0 4 x9), (1, I a1), (2, I a2), (3, .fn g3 c3), (8, I x2), (9, I x8)], [sl 0 x9]⟩) (by kernel_rfl) rfl ?_
 refine qv [0] (hL trivial) 1 53 [(23, rf 0 0 4 x9), (22, .fn g3 c3), (21, B true), (0, rf 0 0 4 x9), (1, I a1), (2, I a2), (3, .fn g3 c3), (8, I x2), (9, I x8)] [sl 0 x9] ?_
 refine qv [] trivial 1 53 [(24, I x8), (23, rf 0 0 4 x9), (22, .fn g3 c3), (21, B true), (0, rf 0 0 4 x9), (1, I a1), (2, I a2), (3, .fn g3 c3), (8, I x2), (9, I x8)] [sl 0 x9] ?_
 obtain ⟨v22, hv23, h⟩ := bindS h
 refine qX (some 25) (.ptr 0 0 (x8.toNat * 4)) 53 [(25, .ptr 0 0 (x8.toNat * 4)), (24, I x8), (23, rf 0 0 4 x9), (22, .fn g3 c3), (21, B true), (0, rf 0 0 4 x9), (1, I a1), (2, I a2), (3, .fn g3 c3), (8, I x2), (9, I x8)] [sl 0 x9] (fun Γ' hΓ => CoreE.of_y (idrV_sound (n := x9.length) τ_ok (by kernel_rfl) hv23 rfl)) (hL trivial) ?_
 refine qX (some 26) (E v22) 53 [(26, E v22), (25, .ptr 0 0 (x8.toNat * 4)), (24, I x8), (23, rf 0 0 4 x9), (22, .fn g3 c3), (21, B true), (0, rf 0 0 4 x9), (1, I a1), (2, I a2), (3, .fn g3 c3), (8, I x2), (9, I x8)] [sl 0 x9] (fun Γ' hΓ => CoreE.of_y (ldeV_sound (t := 85) (o' := 0) (r := E v22) τ_ok hv23 (by kernel_rfl) (by kernel_rfl))) (hL trivial) ?_
 refine qv [0] (hL trivial) 1 53 [(27, rf 0 0 4 x9), (26, E v22), (25, .ptr 0 0 (x8.toNat * 4)), (24, I x8), (23, rf 0 0 4 x9), (22, .fn g3 c3), (21, B true), (0, rf 0 0 4 x9), (1, I a1), (2, I a2), (3, .fn g3 c3), (8, I x2), (9, I x8)] [sl 0 x9] ?_
 refine qv [] trivial 2 53 [(29, I (w64 (x8 - 1))), (28, I x8), (27, rf 0 0 4 x9), (26, E v22), (25, .ptr 0 0 (x8.toNat * 4)), (24, I x8), (23, rf 0 0 4 x9), (22, .fn g3 c3), (21, B true), (0, rf 0 0 4 x9), (1, I a1), (2, I a2), (3, .fn g3 c3), (8, I x2), (9, I x8)] [sl 0 x9] ?_
 obtain ⟨v24, hv25, h⟩ := bindS h
 refine qX (some 30) (.ptr 0 0 ((w64 (x8 - 1)).toNat * 4)) 53 [(30, .ptr 0 0 ((w64 (x8 - 1)).toNat * 4)), (29, I (w64 (x8 - 1))), (28, I x8), (27, rf 0 0 4 x9), (26, E v22), (25, .ptr 0 0 (x8.toNat * 4)), (24, I x8), (23, rf 0 0 4 x9), (22, .fn g3 c3), (21, B true), (0, rf 0 0 4 x9), (1, I a1), (2, I a2), (3, .fn g3 c3), (8, I x2), (9, I x8)] [sl 0 x9] (fun Γ' hΓ => CoreE.of_y (idrV_sound (n := x9.length) τ_ok (by kernel_rfl) hv25 rfl)) (hL trivial) ?_
 refine qX (some 31) (E v24) 53 [(31, E v24), (30, .ptr 0 0 ((w64 (x8 - 1)).toNat * 4)), (29, I (w64 (x8 - 1))), (28, I x8), (27, rf 0 0 4 x9), (26, E v22), (25, .ptr 0 0 (x8.toNat * 4)), (24, I x8), (23, rf 0 0 4 x9), (22, .fn g3 c3), (21, B true), (0, rf 0 0 4 x9), (1, I a1), (2, I a2), (3, .fn g3 c3), (8, I x2), (9, I x8)] [sl 0 x9] (fun Γ' hΓ => CoreE.of_y (ldeV_sound (t := 85) (o' := 0) (r := E v24) τ_ok hv25 (by kernel_rfl) (by kernel_rfl))) (hL trivial) ?_
 obtain ⟨v26, hv27, h⟩ := bindS h
 refine qX (some 32) (I v26) 53 [(32, I v26), (31, E v24), (30, .ptr 0 0 ((w64 (x8 - 1)).toNat * 4)), (29, I (w64 (x8 - 1))), (28, I x8), (27, rf 0 0 4 x9), (26, E v22), (25, .ptr 0 0 (x8.toNat * 4)), (24, I x8), (23, rf 0 0 4 x9), (22, .fn g3 c3), (21, B true), (0, rf 0 0 4 x9), (1, I a1), (2, I a2), (3, .fn g3 c3), (8, I x2), (9, I x8)] [sl 0 x9] (fun Γ' hΓ => CoreE.of_g (callV_sound (τ := τ) (by kernel_rfl) (frz_app (xs := [E v22, E v24]) rfl hz3) (hp3 _ _ _ hv27) (FzTo.frz rfl))) trivial ?_
 refine qvn [] trivial 2 53 [(0, rf 0 0 4 x9), (1, I a1), (2, I a2), (3, .fn g3 c3), (8, I x2), (9, I x8), (22, .fn g3 c3), (23, rf 0 0 4 x9), (24, I x8), (25, .ptr 0 0 (x8.toNat * 4)), (26, E v22), (27, rf 0 0 4 x9), (28, I x8), (29, I (w64 (x8 - 1))), (30, .ptr 0 0 ((w64 (x8 - 1)).toNat * 4)), (31, E v24), (32, I v26), (33, B (decide (v26 < 0))), (34, B (decide (v26 < 0)))] [sl 0 x9] ?_
 exact ⟨(decide (v26 < 0)), h, it [0, 1, 2, 3, 8, 9, 34]⟩
 replace h := bF hc28 h
 rw [hc28]
 refine qv [] trivial 1 53 [(22, .lit undef), (21, B false), (0, rf 0 0 4 x9), (1, I a1), (2, I a2), (3, .fn g3 c3), (8, I x2), (9, I x8)] [sl 0 x9] ?_
 refine qv [0] (hL trivial) 1 53 [(23, .lit undef), (22, .lit undef), (21, B false), (0, rf 0 0 4 x9), (1, I a1), (2, I a2), (3, .fn g3 c3), (8, I x2), (9, I x8)] [sl 0 x9] ?_
 refine qv [] trivial 1 53 [(24, .lit undef), (23, .lit undef), (22, .lit undef), (21, B false), (0, rf 0 0 4 x9), (1, I a1), (2, I a2), (3, .fn g3 c3), (8, I x2), (9, I x8)] [sl 0 x9] ?_
 refine qv [0] (hL trivial) 3 53 [(27, .lit undef), (26, .lit undef), (25, .lit undef), (24, .lit undef), (23, .lit undef), (22, .lit undef), (21, B false), (0, rf 0 0 4 x9), (1, I a1), (2, I a2), (3, .fn g3 c3), (8, I x2), (9, I x8)] [sl 0 x9] ?_
 refine qv [] trivial 2 53 [(29, .lit undef), (28, .lit undef), (27, .lit undef), (26, .lit undef), (25, .lit undef), (24, .lit undef), (23, .lit undef), (22, .lit undef), (21, B false), (0, rf 0 0 4 x9), (1, I a1), (2, I a2), (3, .fn g3 c3), (8, I x2), (9, I x8)] [sl 0 x9] ?_
 refine qv [0] (hL trivial) 2 53 [(31, .lit undef), (30, .lit undef), (29, .lit undef), (28, .lit undef), (27, .lit undef), (26, .lit undef), (25, .lit undef), (24, .lit undef), (23, .lit undef), (22, .lit undef), (21, B false), (0, rf 0 0 4 x9), (1, I a1), (2, I a2), (3, .fn g3 c3), (8, I x2), (9, I x8)] [sl 0 x9] ?_
 refine qv [] trivial 3 53 [(34, B false), (33, .lit undef), (32, .lit undef), (31, .lit undef), (30, .lit undef), (29, .lit undef), (28, .lit undef), (27, .lit undef), (26, .lit undef), (25, .lit undef), (24, .lit undef), (23, .lit undef), (22, .lit undef), (0, rf 0 0 4 x9), (1, I a1), (2, I a2), (3, .fn g3 c3), (8, I x2), (9, I x8)] [sl 0 x9] ?_
 refine qn 53 [(0, rf 0 0 4 x9), (1, I a1), (2, I a2), (3, .fn g3 c3), (8, I x2), (9, I x8), (22, .lit undef), (23, .lit undef), (24, .lit undef), (25, .lit undef), (26, .lit undef), (27, .lit undef), (28, .lit undef), (29, .lit undef), (30, .lit undef), (31, .lit undef), (32, .lit undef), (33, .lit undef), (34, B false)] [sl 0 x9] ?_
 exact ⟨false, h, it [0, 1, 2, 3, 8, 9, 34]⟩
 rintro x12 h
 unfold slices_insertionSortCmpFunc_impl_Version_j2 at h
 refine pc h (fun h => ?_) (fun h => ?_)
 refine pwp_skip ?_
 refine pwp_seq ?_
 refine pwp_block ?_
 refine ip 53 [(0, rf 0 0 4 x9), (1, I a1), (2, I a2), (3, .fn g3 c3), (8, I x2), (9, I x8)] [sl 0 x9] ?_
 refine pwp_any ([[], [], [], [], [], [], [], [], [0], [0], [], [], [0], [0], [0], [0], [0], [0]]) ([[], [], [], [], [], [], [], [], [], [], [], [], [], [], [], [0], [], [0]]) rfl (by kernel_rfl) ?_
 refine qA_mv (⟨53, [(37, rf 0 0 4 x9), (0, rf 0 0 4 x9), (1, I a1), (2, I a2), (3, .fn g3 c3), (8, I x2), (9, I x8)], [sl 0 x9]⟩) (by kernel_rfl) rfl ?_
 refine qv [] trivial 1 53 [(38, I x8), (37, rf 0 0 4 x9), (0, rf 0 0 4 x9), (1, I a1), (2, I a2), (3, .fn g3 c3), (8, I x2), (9, I x8)] [sl 0 x9] ?_
 refine qA_mv (⟨53, [(39, rf 0 0 4 x9), (38, I x8), (37, rf 0 0 4 x9), (0, rf 0 0 4 x9), (1, I a1), (2, I a2), (3, .fn g3 c3), (8, I x2), (9, I x8)], [sl 0 x9]⟩) (by kernel_rfl) rfl ?_
 refine qv [] trivial 2 53 [(41, I (w64 (x8 - 1))), (39, rf 0 0 4 x9), (38, I x8), (37, rf 0 0 4 x9), (0, rf 0 0 4 x9), (1, I a1), (2, I a2), (3, .fn g3 c3), (8, I x2), (9, I x8)] [sl 0 x9] ?_
 refine qA_mv (⟨53, [(42, rf 0 0 4 x9), (41, I (w64 (x8 - 1))), (39, rf 0 0 4 x9), (38, I x8), (37, rf 0 0 4 x9), (0, rf 0 0 4 x9), (1, I a1), (2, I a2), (3, .fn g3 c3), (8, I x2), (9, I x8)], [sl 0 x9]⟩) (by kernel_rfl) rfl ?_
 refine qv [] trivial 2 53 [(44, I (w64 (x8 - 1))), (42, rf 0 0 4 x9), (41, I (w64 (x8 - 1))), (39, rf 0 0 4 x9), (38, I x8), (37, rf 0 0 4 x9), (0, rf 0 0 4 x9), (1, I a1), (2, I a2), (3, .fn g3 c3), (8, I x2), (9, I x8)] [sl 0 x9] ?_
 obtain ⟨v14, hv15, h⟩ := bindS h
 refine qX (some 45) (.ptr 0 0 ((w64 (x8 - 1)).toNat * 4)) 53 [(45, .ptr 0 0 ((w64 (x8 - 1)).toNat * 4)), (41, I (w64 (x8 - 1))), (39, rf 0 0 4 x9), (38, I x8), (37, rf 0 0 4 x9), (0, rf 0 0 4 x9), (1, I a1), (2, I a2), (3, .fn g3 c3), (8, I x2), (9, I x8)] [sl 0 x9] (fun Γ' hΓ => CoreE.of_y (idrV_sound (n := x9.length) τ_ok (by kernel_rfl) hv15 rfl)) (hL trivial) ?_
 refine qX (some 46) (E v14) 53 [(46, E v14), (41, I (w64 (x8 - 1))), (39, rf 0 0 4 x9), (38, I x8), (37, rf 0 0 4 x9), (0, rf 0 0 4 x9), (1, I a1), (2, I a2), (3, .fn g3 c3), (8, I x2), (9, I x8)] [sl 0 x9] (fun Γ' hΓ => CoreE.of_y (ldeV_sound (t := 85) (o' := 0) (r := E v14) τ_ok hv15 (by kernel_rfl) (by kernel_rfl))) (hL trivial) ?_
 refine qA_mv (⟨53, [(47, rf 0 0 4 x9), (46, E v14), (41, I (w64 (x8 - 1))), (39, rf 0 0 4 x9), (38, I x8), (37, rf 0 0 4 x9), (0, rf 0 0 4 x9), (1, I a1), (2, I a2), (3, .fn g3 c3), (8, I x2), (9, I x8)], [sl 0 x9]⟩) (by kernel_rfl) rfl ?_
 refine qv [] trivial 1 53 [(48, I x8), (47, rf 0 0 4 x9), (46, E v14), (41, I (w64 (x8 - 1))), (39, rf 0 0 4 x9), (38, I x8), (37, rf 0 0 4 x9), (0, rf 0 0 4 x9), (1, I a1), (2, I a2), (3, .fn g3 c3), (8, I x2), (9, I x8)] [sl 0 x9] ?_
 obtain ⟨v16, hv17, h⟩ := bindS h
 refine qX (some 49) (.ptr 0 0 (x8.toNat * 4)) 53 [(49, .ptr 0 0 (x8.toNat * 4)), (46, E v14), (41, I (w64 (x8 - 1))), (39, rf 0 0 4 x9), (38, I x8), (37, rf 0 0 4 x9), (0, rf 0 0 4 x9), (1, I a1), (2, I a2), (3, .fn g3 c3), (8, I x2), (9, I x8)] [sl 0 x9] (fun Γ' hΓ => CoreE.of_y (idrV_sound (n := x9.length) τ_ok (by kernel_rfl) hv17 rfl)) (hL trivial) ?_
 refine qX (some 50) (E v16) 53 [(50, E v16), (46, E v14), (41, I (w64 (x8 - 1))), (39, rf 0 0 4 x9), (38, I x8), (37, rf 0 0 4 x9), (0, rf 0 0 4 x9), (1, I a1), (2, I a2), (3, .fn g3 c3), (8, I x2), (9, I x8)] [sl 0 x9] (fun Γ' hΓ => CoreE.of_y (ldeV_sound (t := 85) (o' := 0) (r := E v16) τ_ok hv17 (by kernel_rfl) (by kernel_rfl))) (hL trivial) ?_
 obtain ⟨v18, hv19, h⟩ := bindS h
 refine qX (some 51) (.ptr 0 0 (x8.toNat * 4)) 53 [(51, .ptr 0 0 (x8.toNat * 4)), (50, E v16), (46, E v14), (41, I (w64 (x8 - 1))), (39, rf 0 0 4 x9), (0, rf 0 0 4 x9), (1, I a1), (2, I a2), (3, .fn g3 c3), (8, I x2), (9, I x8)] [sl 0 x9] (fun Γ' hΓ => CoreE.of_y (idrV_sound (n := x9.length) τ_ok (by kernel_rfl) hv19 rfl)) (hL trivial) ?_
 refine qX none (.any) 53 [(50, E v16), (41, I (w64 (x8 - 1))), (39, rf 0 0 4 x9), (0, rf 0 0 4 x9), (1, I a1), (2, I a2), (3, .fn g3 c3), (8, I x2), (9, I x8)] [some ⟨0, eL (x9.set x8.toNat v14)⟩] (fun Γ' hΓ => ste_E (vs := [I v14.fKey, I v14.fBorn, I v14.fDied, A v14.fRow]) τ_ok 85 0 0 0 v14 hv19 (by kernel_rfl) (by kernel_rfl) (by kernel_rfl)) (hL trivial) ?_
 refine qA_ren (st' := ⟨53, [(50, E v16), (41, I (w64 (x8 - 1))), (39, .ref 0 0 0 4 (x9.set x8.toNat v14).length false), (0, .ref 0 0 0 4 (x9.set x8.toNat v14).length false), (1, I a1), (2, I a2), (3, .fn g3 c3), (8, I x2), (9, I x8)], [some ⟨0, eL (x9.set x8.toNat v14)⟩]⟩) 0 (x9.set x8.toNat v14).length (renC trivial (renC trivial (renC (ren_ref (List.length_set ..).symm) (renC (ren_ref (List.length_set ..).symm) (renC trivial (renC trivial (renC trivial (renC trivial (renC trivial renC0))))))))) (by kernel_rfl) ?_
 obtain ⟨v20, hv21, h⟩ := bindS h
 refine qX (some 52) (.ptr 0 0 ((w64 (x8 - 1)).toNat * 4)) 53 [(52, .ptr 0 0 ((w64 (x8 - 1)).toNat * 4)), (50, E v16), (0, .ref 0 0 0 4 (x9.set x8.toNat v14).length false), (1, I a1), (2, I a2), (3, .fn g3 c3), (8, I x2), (9, I x8)] [some ⟨0, eL (x9.set x8.toNat v14)⟩] (fun Γ' hΓ => CoreE.of_y (idrV_sound (n := (x9.set x8.toNat v14).length) τ_ok (by kernel_rfl) hv21 rfl)) (hL trivial) ?_
 refine qX none (.any) 53 [(0, .ref 0 0 0 4 (x9.set x8.toNat v14).length false), (1, I a1), (2, I a2), (3, .fn g3 c3), (8, I x2), (9, I x8)] [some ⟨0, eL ((x9.set x8.toNat v14).set (w64 (x8 - 1)).toNat v16)⟩] (fun Γ' hΓ => ste_E (vs := [I v16.fKey, I v16.fBorn, I v16.fDied, A v16.fRow]) τ_ok 85 0 0 0 v16 hv21 (by kernel_rfl) (by kernel_rfl) (by kernel_rfl)) (hL trivial) ?_
 refine qA_ren (st' := ⟨53, [(0, .ref 0 0 0 4 ((x9.set x8.toNat v14).set (w64 (x8 - 1)).toNat v16).length false), (1, I a1), (2, I a2), (3, .fn g3 c3), (8, I x2), (9, I x8)], [some ⟨0, eL ((x9.set x8.toNat v14).set (w64 (x8 - 1)).toNat v16)⟩]⟩) 0 ((x9.set x8.toNat v14).set (w64 (x8 - 1)).toNat v16).length (renC (ren_ref (List.length_set ..).symm) (renC trivial (renC trivial (renC trivial (renC trivial (renC trivial renC0)))))) (by kernel_rfl) ?_
 refine qn 53 [(0, .ref 0 0 0 4 ((x9.set x8.toNat v14).set (w64 (x8 - 1)).toNat v16).length false), (1, I a1), (2, I a2), (3, .fn g3 c3), (8, I x2), (9, I x8)] [some ⟨0, eL ((x9.set x8.toNat v14).set (w64 (x8 - 1)).toNat v16)⟩] ?_
 refine rve 53 [(0, .ref 0 0 0 4 ((x9.set x8.toNat v14).set (w64 (x8 - 1)).toNat v16).length false), (1, I a1), (2, I a2), (3, .fn g3 c3), (8, I x2), (9, I (w64 (x8 - 1)))] [some ⟨0, eL ((x9.set x8.toNat v14).set (w64 (x8 - 1)).toNat v16)⟩] ?_
 exact ⟨(f10, (w64 (x8 - 1)), ((x9.set x8.toNat v14).set (w64 (x8 - 1)).toNat v16)), h, Nat.lt_succ_self _, it [0, 1, 2, 3, 8, 9]⟩
 refine pwp_exit ?_
 refine rve 53 [(0, rf 0 0 4 x9), (1, I a1), (2, I a2), (3, .fn g3 c3), (8, I (w64 (x2 + 1)))] [sl 0 x9] ?_
 exact ⟨(f4, (w64 (x2 + 1)), x9), h, Nat.lt_succ_self _, it [0, 1, 2, 3, 8]⟩
 refine pwp_exit ?_
 have h := si h
 subst h
 first | exact ⟨.inl rfl, .tup [], _, 0, by kernel_rfl, (OutP.tup (OutL.nil _)), by decide, by decide, by kernel_rfl⟩ | exact pwp_ret ⟨.inr rfl, .tup [], _, 0, by kernel_rfl, (OutP.tup (OutL.nil _)), by decide, by decide, by kernel_rfl⟩
def slices_swapRangeCmpFunc_impl_Version_l0 (a1 : Int) (a2 : Int) (a3 : Int) : Nat → Int → (List T_impl_Version) → Option (List T_impl_Version)
 | 0, _, _ => none
 | f4 + 1, x2, x3 => bif (decide (x2 < a3)) then (getI x3 (w64 (a2 + x2))).bind fun v7 => (getI x3 (w64 (a1 + x2))).bind fun v9 => (getI x3 (w64 (a1 + x2))).bind fun v11 => (getI (x3.set (w64 (a1 + x2)).toNat v7) (w64 (a2 + x2))).bind fun v13 => (slices_swapRangeCmpFunc_impl_Version_l0 a1 a2 a3 f4) (w64 (x2 + 1)) ((x3.set (w64 (a1 + x2)).toNat v7).set (w64 (a2 + x2)).toNat v9) else some x3
def slices_swapRangeCmpFunc_impl_Version_w (a0 : List T_impl_Version) (a1 : Int) (a2 : Int) (a3 : Int) (a4 : T_impl_Version → T_impl_Version → Option Int) : Option (List T_impl_Version) := slices_swapRangeCmpFunc_impl_Version_l0 a1 a2 a3 FUEL 0 a0
def slices_swapRangeCmpFunc_impl_Version (a0 : List T_impl_Version) (a1 : Int) (a2 : Int) (a3 : Int) (a4 : T_impl_Version → T_impl_Version → Option Int) : Option (List T_impl_Version) := (slices_swapRangeCmpFunc_impl_Version_w a0 a1 a2 a3 a4).bind fun y => bif (y.length == a0.length) then some y else none
theorem len_slices_swapRangeCmpFunc_impl_Version {a0 : List T_impl_Version} {a1 : Int} {a2 : Int} {a3 : Int} {a4 : T_impl_Version → T_impl_Version → Option Int} {y : List T_impl_Version} (h : slices_swapRangeCmpFunc_impl_Version a0 a1 a2 a3 a4 = some y) : y.length = a0.length := (bindLen (f := fun y : List T_impl_Version => y) h).2
theorem ok_slices_swapRangeCmpFunc_impl_Version {a0 : List T_impl_Version} {a1 : Int} {a2 : Int} {a3 : Int} {g4 : FuncId} {c4 : List V} (hz4 : frzL c4 = true) {a4 : T_impl_Version → T_impl_Version → Option Int} (hp4 : ∀ x0 x1 y, a4 x0 x1 = some y → OK Try.prog g4 ([E x0, E x1] ++ c4) (I y)) {y : List T_impl_Version} (h : slices_swapRangeCmpFunc_impl_Version a0 a1 a2 a3 a4 = some y) : OKs Try.prog 140 [] 4 a0.length (eL a0) [I a1, I a2, I a3, .fn g4 c4] (.tup []) (eL y) := by
 refine OKs_of_pwp τ_ok Try.func140 rfl (by kernel_rfl) rfl (eL_frz _) (eL_frz _) (by rw [eL_len, eL_len, len_slices_swapRangeCmpFunc_impl_Version h]) fun Γ hQ => ?_
 refine pwp_imp (Imp.to (st' := ⟨38, [(0, rf 0 0 4 a0), (1, I a1), (2, I a2), (3, I a3), (4, .fn g4 c4)], [sl 0 a0]⟩) [0, 1, 2, 3, 4] (by kernel_rfl)) ?_
 have h := (bindLen (f := fun y : List T_impl_Version => y) h).1
 unfold slices_swapRangeCmpFunc_impl_Version_w at h
 refine srve 38 [(0, rf 0 0 4 a0), (1, I a1), (2, I a2), (3, I a3), (10, I 0)] [sl 0 a0] ?_
 refine pwp_block ?_
 refine pwp_loop (ι := Nat × Int × (List T_impl_Version)) (fun (f4, x2, x3) => (⟨38, [(0, rf 0 0 4 x3), (1, I a1), (2, I a2), (3, I a3), (10, I x2)], [sl 0 x3]⟩ : St)) (fun (f4, x2, x3) => slices_swapRangeCmpFunc_impl_Version_l0 a1 a2 a3 f4 x2 x3 = some y) Prod.fst (FUEL, 0, a0) h (it [0, 1, 2, 3, 10]) ?_
 rintro ⟨f4, x2, x3⟩ h
 dsimp only at h ⊢
 rcases f4 with _ | f4
 cases h
 rw [slices_swapRangeCmpFunc_impl_Version_l0] at h
 refine pwp_seq ?_
 refine srve 38 [(0, rf 0 0 4 x3), (1, I a1), (2, I a2), (3, I a3), (10, I x2), (13, B (decide (x2 < a3)))] [sl 0 x3] ?_
 refine pc h (fun h => ?_) (fun h => ?_)
 refine pwp_skip ?_
 refine pwp_seq ?_
 refine pwp_block ?_
 refine ip 38 [(0, rf 0 0 4 x3), (1, I a1), (2, I a2), (3, I a3), (10, I x2)] [sl 0 x3] ?_
 refine pwp_any ([[], [], [], [], [], [], [], [], [], [], [], [], [0], [0], [], [], [], [], [0], [0], [0], [0], [0], [0]]) ([[], [], [], [], [], [], [], [], [], [], [], [], [], [], [], [], [], [], [], [], [], [0], [], [0]]) rfl (by kernel_rfl) ?_
 refine qA_mv (⟨38, [(16, rf 0 0 4 x3), (0, rf 0 0 4 x3), (1, I a1), (2, I a2), (3, I a3), (10, I x2)], [sl 0 x3]⟩) (by kernel_rfl) rfl ?_
 refine qv [] trivial 3 38 [(19, I (w64 (a1 + x2))), (16, rf 0 0 4 x3), (0, rf 0 0 4 x3), (1, I a1), (2, I a2), (3, I a3), (10, I x2)] [sl 0 x3] ?_
 refine qA_mv (⟨38, [(20, rf 0 0 4 x3), (19, I (w64 (a1 + x2))), (16, rf 0 0 4 x3), (0, rf 0 0 4 x3), (1, I a1), (2, I a2), (3, I a3), (10, I x2)], [sl 0 x3]⟩) (by kernel_rfl) rfl ?_
 refine qv [] trivial 3 38 [(23, I (w64 (a2 + x2))), (20, rf 0 0 4 x3), (19, I (w64 (a1 + x2))), (16, rf 0 0 4 x3), (0, rf 0 0 4 x3), (1, I a1), (2, I a2), (3, I a3), (10, I x2)] [sl 0 x3] ?_
 refine qA_mv (⟨38, [(24, rf 0 0 4 x3), (23, I (w64 (a2 + x2))), (20, rf 0 0 4 x3), (19, I (w64 (a1 + x2))), (16, rf 0 0 4 x3), (0, rf 0 0 4 x3), (1, I a1), (2, I a2), (3, I a3), (10, I x2)], [sl 0 x3]⟩) (by kernel_rfl) rfl ?_
 refine qv [] trivial 3 38 [(27, I (w64 (a2 + x2))), (24, rf 0 0 4 x3), (23, I (w64 (a2 + x2))), (20, rf 0 0 4 x3), (19, I (w64 (a1 + x2))), (16, rf 0 0 4 x3), (0, rf 0 0 4 x3), (1, I a1), (2, I a2), (3, I a3), (10, I x2)] [sl 0 x3] ?_
 obtain ⟨v7, hv8, h⟩ := bindS h
 refine qX (some 28) (.ptr 0 0 ((w64 (a2 + x2)).toNat * 4)) 38 [(28, .ptr 0 0 ((w64 (a2 + x2)).toNat * 4)), (23, I (w64 (a2 + x2))), (20, rf 0 0 4 x3), (19, I (w64 (a1 + x2))), (16, rf 0 0 4 x3), (0, rf 0 0 4 x3), (1, I a1), (2, I a2), (3, I a3), (10, I x2)] [sl 0 x3] (fun Γ' hΓ => CoreE.of_y (idrV_sound (n := x3.length) τ_ok (by kernel_rfl) hv8 rfl)) (hL trivial) ?_
 refine qX (some 29) (E v7) 38 [(29, E v7), (23, I (w64 (a2 + x2))), (20, rf 0 0 4 x3), (19, I (w64 (a1 + x2))), (16, rf 0 0 4 x3), (0, rf 0 0 4 x3), (1, I a1), (2, I a2), (3, I a3), (10, I x2)] [sl 0 x3] (fun Γ' hΓ => CoreE.of_y (ldeV_sound (t := 85) (o' := 0) (r := E v7) τ_ok hv8 (by kernel_rfl) (by kernel_rfl))) (hL trivial) ?_
 refine qA_mv (⟨38, [(30, rf 0 0 4 x3), (29, E v7), (23, I (w64 (a2 + x2))), (20, rf 0 0 4 x3), (19, I (w64 (a1 + x2))), (16, rf 0 0 4 x3), (0, rf 0 0 4 x3), (1, I a1), (2, I a2), (3, I a3), (10, I x2)], [sl 0 x3]⟩) (by kernel_rfl) rfl ?_
 refine qv [] trivial 3 38 [(33, I (w64 (a1 + x2))), (30, rf 0 0 4 x3), (29, E v7), (23, I (w64 (a2 + x2))), (20, rf 0 0 4 x3), (19, I (w64 (a1 + x2))), (16, rf 0 0 4 x3), (0, rf 0 0 4 x3), (1, I a1), (2, I a2), (3, I a3), (10, I x2)] [sl 0 x3] ?_
 obtain ⟨v9, hv10, h⟩ := bindS h
 refine qX (some 34) (.ptr 0 0 ((w64 (a1 + x2)).toNat * 4)) 38 [(34, .ptr 0 0 ((w64 (a1 + x2)).toNat * 4)), (29, E v7), (23, I (w64 (a2 + x2))), (20, rf 0 0 4 x3), (19, I (w64 (a1 + x2))), (16, rf 0 0 4 x3), (0, rf 0 0 4 x3), (1, I a1), (2, I a2), (3, I a3), (10, I x2)] [sl 0 x3] (fun Γ' hΓ => CoreE.of_y (idrV_sound (n := x3.length) τ_ok (by kernel_rfl) hv10 rfl)) (hL trivial) ?_
 refine qX (some 35) (E v9) 38 [(35, E v9), (29, E v7), (23, I (w64 (a2 + x2))), (20, rf 0 0 4 x3), (19, I (w64 (a1 + x2))), (16, rf 0 0 4 x3), (0, rf 0 0 4 x3), (1, I a1), (2, I a2), (3, I a3), (10, I x2)] [sl 0 x3] (fun Γ' hΓ => CoreE.of_y (ldeV_sound (t := 85) (o' := 0) (r := E v9) τ_ok hv10 (by kernel_rfl) (by kernel_rfl))) (hL trivial) ?_
 obtain ⟨v11, hv12, h⟩ := bindS h
 refine qX (some 36) (.ptr 0 0 ((w64 (a1 + x2)).toNat * 4)) 38 [(36, .ptr 0 0 ((w64 (a1 + x2)).toNat * 4)), (35, E v9), (29, E v7), (23, I (w64 (a2 + x2))), (20, rf 0 0 4 x3), (0, rf 0 0 4 x3), (1, I a1), (2, I a2), (3, I a3), (10, I x2)] [sl 0 x3] (fun Γ' hΓ => CoreE.of_y (idrV_sound (n := x3.length) τ_ok (by kernel_rfl) hv12 rfl)) (hL trivial) ?_
 refine qX none (.any) 38 [(35, E v9), (23, I (w64 (a2 + x2))), (20, rf 0 0 4 x3), (0, rf 0 0 4 x3), (1, I a1), (2, I a2), (3, I a3), (10, I x2)] [some ⟨0, eL (x3.set (w64 (a1 + x2)).toNat v7)⟩] (fun Γ' hΓ => ste_E (vs := [I v7.fKey, I v7.fBorn, I v7.fDied, A v7.fRow]) τ_ok 85 0 0 0 v7 hv12 (by kernel_rfl) (by kernel_rfl) (by kernel_rfl)) (hL trivial) ?_
 refine qA_ren (st' := ⟨38, [(35, E v9), (23, I (w64 (a2 + x2))), (20, .ref 0 0 0 4 (x3.set (w64 (a1 + x2)).toNat v7).length false), (0, .ref 0 0 0 4 (x3.set (w64 (a1 + x2)).toNat v7).length false), (1, I a1), (2, I a2), (3, I a3), (10, I x2)], [some ⟨0, eL (x3.set (w64 (a1 + x2)).toNat v7)⟩]⟩) 0 (x3.set (w64 (a1 + x2)).toNat v7).length (renC trivial (renC trivial (renC (ren_ref (List.length_set ..).symm) (renC (ren_ref (List.length_set ..).symm) (renC trivial (renC trivial (renC trivial (renC trivial renC0)))))))) (by kernel_rfl) ?_
 obtain ⟨v13, hv14, h⟩ := bindS h
 refine qX (some 37) (.ptr 0 0 ((w64 (a2 + x2)).toNat * 4)) 38 [(37, .ptr 0 0 ((w64 (a2 + x2)).toNat * 4)), (35, E v9), (0, .ref 0 0 0 4 (x3.set (w64 (a1 + x2)).toNat v7).length false), (1, I a1), (2, I a2), (3, I a3), (10, I x2)] [some ⟨0, eL (x3.set (w64 (a1 + x2)).toNat v7)⟩] (fun Γ' hΓ => CoreE.of_y (idrV_sound (n := (x3.set (w64 (a1 + x2)).toNat v7).length) τ_ok (by kernel_rfl) hv14 rfl)) (hL trivial) ?_
 refine qX none (.any) 38 [(0, .ref 0 0 0 4 (x3.set (w64 (a1 + x2)).toNat v7).length false), (1, I a1), (2, I a2), (3, I a3), (10, I x2)] [some ⟨0, eL ((x3.set (w64 (a1 + x2)).toNat v7).set (w64 (a2 + x2)).toNat v9)⟩] (fun Γ' hΓ => ste_E (vs := [I v9.fKey, I v9.fBorn, I v9.fDied, A v9.fRow]) τ_ok 85 0 0 0 v9 hv14 (by kernel_rfl) (by kernel_rfl) (by kernel_rfl)) (hL trivial) ?_
 refine qA_ren (st' := ⟨38, [(0, .ref 0 0 0 4 ((x3.set (w64 (a1 + x2)).toNat v7).set (w64 (a2 + x2)).toNat v9).length false), (1, I a1), (2, I a2), (3, I a3), (10, I x2)], [some ⟨0, eL ((x3.set (w64 (a1 + x2)).toNat v7).set (w64 (a2 + x2)).toNat v9)⟩]⟩) 0 ((x3.set (w64 (a1 + x2)).toNat v7).set (w64 (a2 + x2)).toNat v9).length (renC (ren_ref (List.length_set ..).symm) (renC trivial (renC trivial (renC trivial (renC trivial renC0))))) (by kernel_rfl) ?_
 refine qn 38 [(0, .ref 0 0 0 4 ((x3.set (w64 (a1 + x2)).toNat v7).set (w64 (a2 + x2)).toNat v9).length false), (1, I a1), (2, I a2), (3, I a3), (10, I x2)] [some ⟨0, eL ((x3.set (w64 (a1 + x2)).toNat v7).set (w64 (a2 + x2)).toNat v9)⟩] ?_
 refine rve 38 [(0, .ref 0 0 0 4 ((x3.set (w64 (a1 + x2)).toNat v7).set (w64 (a2 + x2)).toNat v9).length false), (1, I a1), (2, I a2), (3, I a3), (10, I (w64 (x2 + 1)))] [some ⟨0, eL ((x3.set (w64 (a1 + x2)).toNat v7).set (w64 (a2 + x2)).toNat v9)⟩] ?_
 exact ⟨(f4, (w64 (x2 + 1)), ((x3.set (w64 (a1 + x2)).toNat v7).set (w64 (a2 + x2)).toNat v9)), h, Nat.lt_succ_self _, it [0, 1, 2, 3, 10]⟩
 refine pwp_exit ?_
 have h := si h
 subst h
 first | exact ⟨.inl rfl, .tup [], _, 0, by kernel_rfl, (OutP.tup (OutL.nil _)), by decide, by decide, by kernel_rfl⟩ | exact pwp_ret ⟨.inr rfl, .tup [], _, 0, by kernel_rfl, (OutP.tup (OutL.nil _)), by decide, by decide, by kernel_rfl⟩
def spec_l18Copy_l0 (a0 : List T_impl_Entry) : Nat → Int → (List T_impl_Entry) → Option (List T_impl_Entry)
 | 0, _, _ => none
 | f4 + 1, x2, x3 => bif (decide (x2 < (a0.length : Int))) then (getI a0 x2).bind fun v7 => (getI a0 x2).bind fun v9 => (spec_l14Writes v9.fWrites).bind fun v11 => (app x3 ([(T_impl_Entry.mk v7.fTime v11)] : List T_impl_Entry)).bind fun v13 => (spec_l18Copy_l0 a0 f4) (w64 (x2 + 1)) v13 else some x3
def spec_l18Copy (a0 : List T_impl_Entry) : Option (List T_impl_Entry) := spec_l18Copy_l0 a0 FUEL 0 ([] : List T_impl_Entry)
theorem ok_spec_l18Copy {a0 : List T_impl_Entry} {y : List T_impl_Entry} (h : spec_l18Copy a0 = some y) : OK Try.prog 68 [A a0] (O y) := by
 refine ow Try.func68 fun Γ hX => ?_
 unfold spec_l18Copy at h
 refine srve 28 [(0, A a0)] [] ?_
 refine srve 28 [(0, A a0), (3, .arr 2 0 (eL ([] : List T_impl_Entry)) true)] [] ?_
 refine pwp_seq ?_
 refine srve 28 [(0, A a0), (3, .arr 2 0 (eL ([] : List T_impl_Entry)) true), (4, I 0)] [] ?_
 refine pwp_block ?_
 refine pwp_loop (ι := Nat × Int × (List T_impl_Entry)) (fun (f4, x2, x3) => (⟨28, [(0, A a0), (3, rf 0 0 2 x3), (4, I x2)], [sl 0 x3]⟩ : St)) (fun (f4, x2, x3) => spec_l18Copy_l0 a0 f4 x2 x3 = some y) Prod.fst (FUEL, 0, ([] : List T_impl_Entry)) h (Imp.thawS 3 [0, 3, 4] (by kernel_rfl)) ?_
 rintro ⟨f4, x2, x3⟩ h
 dsimp only at h ⊢
 rcases f4 with _ | f4
 cases h
 rw [spec_l18Copy_l0] at h
 refine pwp_seq ?_
 refine srve 28 [(0, A a0), (3, rf 0 0 2 x3), (4, I x2), (9, B (decide (x2 < (a0.length : Int))))] [sl 0 x3] ?_
 refine pc h (fun h => ?_) (fun h => ?_)
 refine pwp_skip ?_
 refine pwp_seq ?_
 refine pwp_block ?_
 refine ip 28 [(0, A a0), (3, rf 0 0 2 x3), (4, I x2)] [sl 0 x3] ?_
 refine pwp_any ([[0], [], [], [], [], [], [], [], [], [], [], [], [], [], [0], [0]]) ([[], [], [], [], [], [], [], [], [], [], [], [], [], [], [0], []]) rfl (by kernel_rfl) ?_
 refine qv [0] (hL trivial) 1 28 [(12, rf 0 0 2 x3), (0, A a0), (3, rf 0 0 2 x3), (4, I x2)] [sl 0 x3] ?_
 refine qv [] trivial 2 28 [(14, I x2), (13, A a0), (12, rf 0 0 2 x3), (0, A a0), (3, rf 0 0 2 x3), (4, I x2)] [sl 0 x3] ?_
 obtain ⟨v7, hv8, h⟩ := bindS h
 refine qX (some 15) (pf v7 0) 28 [(15, pf v7 0), (12, rf 0 0 2 x3), (0, A a0), (3, rf 0 0 2 x3), (4, I x2)] [sl 0 x3] (fun Γ' hΓ => CoreE.of_y (idxV_sound τ_ok (by kernel_rfl) hv8)) trivial ?_
 refine qv [] trivial 4 28 [(19, I x2), (18, A a0), (17, I v7.fTime), (12, rf 0 0 2 x3), (0, A a0), (3, rf 0 0 2 x3), (4, I x2)] [sl 0 x3] ?_
 obtain ⟨v9, hv10, h⟩ := bindS h
 refine qX (some 20) (pf v9 0) 28 [(20, pf v9 0), (17, I v7.fTime), (12, rf 0 0 2 x3), (0, A a0), (3, rf 0 0 2 x3), (4, I x2)] [sl 0 x3] (fun Γ' hΓ => CoreE.of_y (idxV_sound τ_ok (by kernel_rfl) hv10)) trivial ?_
 refine qv [] trivial 2 28 [(22, A v9.fWrites), (17, I v7.fTime), (12, rf 0 0 2 x3), (0, A a0), (3, rf 0 0 2 x3), (4, I x2)] [sl 0 x3] ?_
 obtain ⟨v11, hv12, h⟩ := bindS h
 refine qX (some 23) (A v11) 28 [(23, A v11), (17, I v7.fTime), (12, rf 0 0 2 x3), (0, A a0), (3, rf 0 0 2 x3), (4, I x2)] [sl 0 x3] (fun Γ' hΓ => CoreE.of_g (callV_sound (τ := τ) (by kernel_rfl) rfl (ok_spec_l14Writes hv12) (FzTo.O _))) trivial ?_
 refine qv [] trivial 2 28 [(25, .arr 2 ([(T_impl_Entry.mk v7.fTime v11)] : List T_impl_Entry).length (eL ([(T_impl_Entry.mk v7.fTime v11)] : List T_impl_Entry)) true), (12, rf 0 0 2 x3), (0, A a0), (3, rf 0 0 2 x3), (4, I x2)] [sl 0 x3] ?_
 obtain ⟨v13, hv14, h⟩ := bindS h
 refine qX (some 26) (rf 0 1 2 v13) 28 [(26, rf 0 1 2 v13), (0, A a0), (3, rf 0 0 2 x3), (4, I x2)] [sl 1 v13] (fun Γ' hΓ => app_Ew τ_ok 26 0 0 (ny hΓ hX) hv14 (by kernel_rfl)) (hL trivial) ?_
 refine qvn [0] (hL trivial) 1 28 [(0, A a0), (3, rf 0 1 2 v13), (4, I x2)] [sl 1 v13] ?_
 refine rve 28 [(0, A a0), (3, rf 0 1 2 v13), (4, I (w64 (x2 + 1)))] [sl 1 v13] ?_
 exact ⟨(f4, (w64 (x2 + 1)), v13), h, Nat.lt_succ_self _, (it (st' := ⟨28, [(0, A a0), (3, rf 0 1 2 v13), (4, I (w64 (x2 + 1)))], [sl 1 v13]⟩) [0, 3, 4]).trans (Imp.reverS 0 1 (eL v13) [0, 3, 4] (by kernel_rfl) (by exact (And.intro (eL_frz _) trivial)) (by kernel_rfl))⟩
 refine pwp_exit ?_
 refine srve 28 [(2, rf 0 0 2 x3)] [sl 0 x3] ?_
 have h := si h
 subst h
 exact pwp_ret (rt (rf 0 0 2 x3) (OutP.list (v := 0) (by kernel_rfl)))
def laws_eqValueS_l0 (a0 : List T_impl_Value) (a1 : List T_impl_Value) : Nat → Int → Option Bool
 | 0, _ => none
 | f3 + 1, x2 => bif (decide (x2 < (a0.length : Int))) then (getI a0 x2).bind fun v6 => (getI a1 x2).bind fun v8 => (laws_eqValue v6 v8).bind fun v10 => bif (!v10) then some false else (laws_eqValueS_l0 a0 a1 f3) (w64 (x2 + 1)) else some true
def laws_eqValueS (a0 : List T_impl_Value) (a1 : List T_impl_Value) : Option Bool := bif (!((a0.length : Int) == (a1.length : Int))) then some false else laws_eqValueS_l0 a0 a1 FUEL 0
theorem ok_laws_eqValueS {a0 : List T_impl_Value} {a1 : List T_impl_Value} {y : Bool} (h : laws_eqValueS a0 a1 = some y) : OK Try.prog 79 [A a0, A a1] (B y) := by
 refine ow Try.func79 fun Γ hX => ?_
 unfold laws_eqValueS at h
 refine srve 27 [(0, A a0), (1, A a1)] [] ?_
 refine pwp_seq ?_
 refine srve 27 [(0, A a0), (1, A a1), (10, B (!((a0.length : Int) == (a1.length : Int))))] [] ?_
 refine pc h (fun h => ?_) (fun h => ?_)
 refine srve 27 [(4, B false)] [] ?_
 cases h
 exact pwp_ret rz
 refine pwp_skip ?_
 refine pwp_seq ?_
 refine srve 27 [(0, A a0), (1, A a1), (5, I 0)] [] ?_
 refine pwp_block ?_
 refine pwp_loop (ι := Nat × Int) (fun (f3, x2) => (⟨27, [(0, A a0), (1, A a1), (5, I x2)], []⟩ : St)) (fun (f3, x2) => laws_eqValueS_l0 a0 a1 f3 x2 = some y) Prod.fst (FUEL, 0) h (it [0, 1, 5]) ?_
 rintro ⟨f3, x2⟩ h
 dsimp only at h ⊢
 rcases f3 with _ | f3
 cases h
 rw [laws_eqValueS_l0] at h
 refine pwp_seq ?_
 refine srve 27 [(0, A a0), (1, A a1), (5, I x2), (14, B (decide (x2 < (a0.length : Int))))] [] ?_
 refine pc h (fun h => ?_) (fun h => ?_)
 refine pwp_skip ?_
 refine pwp_seq ?_
 refine pwp_block ?_
 refine pwp_seq ?_
 refine ip 27 [(0, A a0), (1, A a1), (5, I x2)] [] ?_
 refine pN 10 ?_
 refine qv [] trivial 2 27 [(18, I x2), (17, A a0), (0, A a0), (1, A a1), (5, I x2)] [] ?_
 obtain ⟨v6, hv7, h⟩ := bindS h
 refine qX (some 19) (pf v6 0) 27 [(19, pf v6 0), (0, A a0), (1, A a1), (5, I x2)] [] (fun Γ' hΓ => CoreE.of_y (idxV_sound τ_ok (by kernel_rfl) hv7)) trivial ?_
 refine qv [] trivial 3 27 [(22, I x2), (21, A a1), (20, E v6), (0, A a0), (1, A a1), (5, I x2)] [] ?_
 obtain ⟨v8, hv9, h⟩ := bindS h
 refine qX (some 23) (pf v8 0) 27 [(23, pf v8 0), (20, E v6), (0, A a0), (1, A a1), (5, I x2)] [] (fun Γ' hΓ => CoreE.of_y (idxV_sound τ_ok (by kernel_rfl) hv9)) trivial ?_
 refine qv [] trivial 1 27 [(24, E v8), (20, E v6), (0, A a0), (1, A a1), (5, I x2)] [] ?_
 obtain ⟨v10, hv11, h⟩ := bindS h
 refine qX (some 25) (B v10) 27 [(25, B v10), (0, A a0), (1, A a1), (5, I x2)] [] (fun Γ' hΓ => CoreE.of_g (callV_sound (τ := τ) (by kernel_rfl) rfl (ok_laws_eqValue hv11) (FzTo.frz rfl))) trivial ?_
 refine qvn [] trivial 1 27 [(0, A a0), (1, A a1), (5, I x2), (26, B (!v10))] [] ?_
 refine pc h (fun h => ?_) (fun h => ?_)
 refine srve 27 [(4, B false)] [] ?_
 cases h
 exact pwp_ret rz
 refine pwp_skip ?_
 refine rve 27 [(0, A a0), (1, A a1), (5, I (w64 (x2 + 1)))] [] ?_
 exact ⟨(f3, (w64 (x2 + 1))), h, Nat.lt_succ_self _, it [0, 1, 5]⟩
 refine pwp_exit ?_
 refine srve 27 [(4, B true)] [] ?_
 cases h
 exact pwp_ret rz
def laws_markValueS_l0 : Nat → Int → Int → (List T_impl_Value) → Option (Int × List T_impl_Value)
 | 0, _, _, _ => none
 | f5 + 1, x2, x3, x4 => bif (decide (x3 < (x4.length : Int))) then (getI x4 x3).bind fun v8 => (getI (x4.set x3.toNat ({ v8 with fKind := x2 } : T_impl_Value)) x3).bind fun v10 => (laws_markText (w64 ((w64 (x2 + 1)) + 1))).bind fun v12 => (getI ((x4.set x3.toNat ({ v8 with fKind := x2 } : T_impl_Value)).set x3.toNat ({ v10 with fN := (w64 (x2 + 1)) } : T_impl_Value)) x3).bind fun v14 => (laws_markValueS_l0 f5) (w64 ((w64 ((w64 (x2 + 1)) + 1)) + 1)) (w64 (x3 + 1)) (((x4.set x3.toNat ({ v8 with fKind := x2 } : T_impl_Value)).set x3.toNat ({ v10 with fN := (w64 (x2 + 1)) } : T_impl_Value)).set x3.toNat ({ v14 with fS := v12 } : T_impl_Value)) else some (x2, x4)
def laws_markValueS (a0 : List T_impl_Value) (a1 : Int) : Option (Int × List T_impl_Value) := laws_markValueS_l0 FUEL a1 0 a0
theorem len_laws_markValueS_l0 : ∀ (f5 : Nat) (x2 : Int) (x3 : Int) (x4 : List T_impl_Value) (y : Int × List T_impl_Value), laws_markValueS_l0 f5 x2 x3 x4 = some y → y.2.length = x4.length
 | 0, _, _, _, _, h => by cases h
 | f5 + 1, x2, x3, x4, y, h => by
  rw [laws_markValueS_l0] at h
  rcases condS h with h | h
  ·obtain ⟨_, _, h⟩ := bindS h
   obtain ⟨_, _, h⟩ := bindS h
   obtain ⟨_, _, h⟩ := bindS h
   obtain ⟨_, _, h⟩ := bindS h
   have h2 := len_laws_markValueS_l0 f5 _ _ _ _ h
   simp only [List.length_set] at h2
   exact h2
  ·cases h; rfl
theorem len_laws_markValueS {a0 : List T_impl_Value} {a1 : Int} {y : Int × List T_impl_Value} (h : laws_markValueS a0 a1 = some y) : y.2.length = a0.length := by
 unfold laws_markValueS at h
 exact len_laws_markValueS_l0 _ _ _ _ _ h
theorem ok_laws_markValueS {a0 : List T_impl_Value} {a1 : Int} {y : Int × List T_impl_Value} (h : laws_markValueS a0 a1 = some y) : OKd Try.prog 80 3 a0.length (eL a0) [I a1] (.int .i64 y.1) (eL y.2) := by
 refine OKd_of_pwp τ_ok Try.func80 rfl (by kernel_rfl) rfl (O_oc _) (O_oc _) (BlindL.lits (eL_lit DFlat.lit _)) (BlindL.lits (eL_lit DFlat.lit _)) rfl (fun hl => by rw [eL_len, len_laws_markValueS h, ← eL_len]; exact hl) fun Γ hQ => ?_
 refine pwp_imp (Imp.to (st' := ⟨35, [(0, rf 0 0 3 a0), (1, I a1)], [sl 0 a0]⟩) [0, 1] (by kernel_rfl)) ?_
 unfold laws_markValueS at h
 refine srve 35 [(0, rf 0 0 3 a0), (1, I a1)] [sl 0 a0] ?_
 refine pwp_seq ?_
 refine srve 35 [(0, rf 0 0 3 a0), (1, I a1), (5, I 0)] [sl 0 a0] ?_
 refine pwp_block ?_
 refine pwp_loop (ι := Nat × Int × Int × (List T_impl_Value)) (fun (f5, x2, x3, x4) => (⟨35, [(0, rf 0 0 3 x4), (1, I x2), (5, I x3)], [sl 0 x4]⟩ : St)) (fun (f5, x2, x3, x4) => laws_markValueS_l0 f5 x2 x3 x4 = some y) Prod.fst (FUEL, a1, 0, a0) h (it [0, 1, 5]) ?_
 rintro ⟨f5, x2, x3, x4⟩ h
 dsimp only at h ⊢
 rcases f5 with _ | f5
 cases h
 rw [laws_markValueS_l0] at h
 refine pwp_seq ?_
 refine srve 35 [(0, rf 0 0 3 x4), (1, I x2), (5, I x3), (9, B (decide (x3 < (x4.length : Int))))] [sl 0 x4] ?_
 refine pc h (fun h => ?_) (fun h => ?_)
 refine pwp_skip ?_
 refine pwp_seq ?_
 refine pwp_block ?_
 refine srv 3 35 [(0, rf 0 0 3 x4), (1, I x2), (5, I x3), (12, rf 0 0 3 x4), (13, I x3), (14, I x2)] [sl 0 x4] ?_
 obtain ⟨v8, hv9, h⟩ := bindS h
 refine opsP_idr τ_ok 15 0 0 x4.length hv9 rfl (by kernel_rfl) ?_
 refine v 1 35 [(0, rf 0 0 3 x4), (1, I x2), (5, I x3), (14, I x2), (16, .ptr 0 0 (x3.toNat * 3))] [sl 0 x4] ?_
 refine opsP_ste (vs := [I x2]) τ_ok 3 0 0 0 ({ v8 with fKind := x2 } : T_impl_Value) hv9 (by kernel_rfl) (by kernel_rfl) (by kernel_rfl) (renC (ren_ref (List.length_set ..).symm) (renC trivial (renC trivial (renC trivial (renC trivial renC0))))) ?_
 refine ve 0 35 [(0, .ref 0 0 0 3 (x4.set x3.toNat ({ v8 with fKind := x2 } : T_impl_Value)).length false), (1, I x2), (5, I x3)] [some ⟨0, eL (x4.set x3.toNat ({ v8 with fKind := x2 } : T_impl_Value))⟩] ?_
 refine srve 35 [(0, .ref 0 0 0 3 (x4.set x3.toNat ({ v8 with fKind := x2 } : T_impl_Value)).length false), (1, I (w64 (x2 + 1))), (5, I x3)] [some ⟨0, eL (x4.set x3.toNat ({ v8 with fKind := x2 } : T_impl_Value))⟩] ?_
 refine srv 3 35 [(0, .ref 0 0 0 3 (x4.set x3.toNat ({ v8 with fKind := x2 } : T_impl_Value)).length false), (1, I (w64 (x2 + 1))), (5, I x3), (19, .ref 0 0 0 3 (x4.set x3.toNat ({ v8 with fKind := x2 } : T_impl_Value)).length false), (20, I x3), (21, I (w64 (x2 + 1)))] [some ⟨0, eL (x4.set x3.toNat ({ v8 with fKind := x2 } : T_impl_Value))⟩] ?_
 obtain ⟨v10, hv11, h⟩ := bindS h
 refine opsP_idr τ_ok 22 0 0 (x4.set x3.toNat ({ v8 with fKind := x2 } : T_impl_Value)).length hv11 rfl (by kernel_rfl) ?_
 refine v 1 35 [(0, .ref 0 0 0 3 (x4.set x3.toNat ({ v8 with fKind := x2 } : T_impl_Value)).length false), (1, I (w64 (x2 + 1))), (5, I x3), (21, I (w64 (x2 + 1))), (23, .ptr 0 0 (x3.toNat * 3 + 1))] [some ⟨0, eL (x4.set x3.toNat ({ v8 with fKind := x2 } : T_impl_Value))⟩] ?_
 refine opsP_ste (vs := [I (w64 (x2 + 1))]) τ_ok 3 0 0 1 ({ v10 with fN := (w64 (x2 + 1)) } : T_impl_Value) hv11 (by kernel_rfl) (by kernel_rfl) (by kernel_rfl) (renC (ren_ref (List.length_set ..).symm) (renC trivial (renC trivial (renC trivial (renC trivial renC0))))) ?_
 refine ve 0 35 [(0, .ref 0 0 0 3 ((x4.set x3.toNat ({ v8 with fKind := x2 } : T_impl_Value)).set x3.toNat ({ v10 with fN := (w64 (x2 + 1)) } : T_impl_Value)).length false), (1, I (w64 (x2 + 1))), (5, I x3)] [some ⟨0, eL ((x4.set x3.toNat ({ v8 with fKind := x2 } : T_impl_Value)).set x3.toNat ({ v10 with fN := (w64 (x2 + 1)) } : T_impl_Value))⟩] ?_
 refine srve 35 [(0, .ref 0 0 0 3 ((x4.set x3.toNat ({ v8 with fKind := x2 } : T_impl_Value)).set x3.toNat ({ v10 with fN := (w64 (x2 + 1)) } : T_impl_Value)).length false), (1, I (w64 ((w64 (x2 + 1)) + 1))), (5, I x3)] [some ⟨0, eL ((x4.set x3.toNat ({ v8 with fKind := x2 } : T_impl_Value)).set x3.toNat ({ v10 with fN := (w64 (x2 + 1)) } : T_impl_Value))⟩] ?_
 refine srv 3 35 [(0, .ref 0 0 0 3 ((x4.set x3.toNat ({ v8 with fKind := x2 } : T_impl_Value)).set x3.toNat ({ v10 with fN := (w64 (x2 + 1)) } : T_impl_Value)).length false), (1, I (w64 ((w64 (x2 + 1)) + 1))), (5, I x3), (26, .ref 0 0 0 3 ((x4.set x3.toNat ({ v8 with fKind := x2 } : T_impl_Value)).set x3.toNat ({ v10 with fN := (w64 (x2 + 1)) } : T_impl_Value)).length false), (27, I x3), (28, I (w64 ((w64 (x2 + 1)) + 1)))] [some ⟨0, eL ((x4.set x3.toNat ({ v8 with fKind := x2 } : T_impl_Value)).set x3.toNat ({ v10 with fN := (w64 (x2 + 1)) } : T_impl_Value))⟩] ?_
 obtain ⟨v12, hv13, h⟩ := bindS h
 refine cF 29 (ok_laws_markText hv13) ?_
 obtain ⟨v14, hv15, h⟩ := bindS h
 refine opsP_idr τ_ok 30 0 0 ((x4.set x3.toNat ({ v8 with fKind := x2 } : T_impl_Value)).set x3.toNat ({ v10 with fN := (w64 (x2 + 1)) } : T_impl_Value)).length hv15 rfl (by kernel_rfl) ?_
 refine v 1 35 [(0, .ref 0 0 0 3 ((x4.set x3.toNat ({ v8 with fKind := x2 } : T_impl_Value)).set x3.toNat ({ v10 with fN := (w64 (x2 + 1)) } : T_impl_Value)).length false), (1, I (w64 ((w64 (x2 + 1)) + 1))), (5, I x3), (29, S v12), (31, .ptr 0 0 (x3.toNat * 3 + 2))] [some ⟨0, eL ((x4.set x3.toNat ({ v8 with fKind := x2 } : T_impl_Value)).set x3.toNat ({ v10 with fN := (w64 (x2 + 1)) } : T_impl_Value))⟩] ?_
 refine opsP_ste (vs := [S v12]) τ_ok 9 0 0 2 ({ v14 with fS := v12 } : T_impl_Value) hv15 (by kernel_rfl) (by kernel_rfl) (by kernel_rfl) (renC (ren_ref (List.length_set ..).symm) (renC trivial (renC trivial (renC trivial (renC trivial renC0))))) ?_
 refine ve 0 35 [(0, .ref 0 0 0 3 (((x4.set x3.toNat ({ v8 with fKind := x2 } : T_impl_Value)).set x3.toNat ({ v10 with fN := (w64 (x2 + 1)) } : T_impl_Value)).set x3.toNat ({ v14 with fS := v12 } : T_impl_Value)).length false), (1, I (w64 ((w64 (x2 + 1)) + 1))), (5, I x3)] [some ⟨0, eL (((x4.set x3.toNat ({ v8 with fKind := x2 } : T_impl_Value)).set x3.toNat ({ v10 with fN := (w64 (x2 + 1)) } : T_impl_Value)).set x3.toNat ({ v14 with fS := v12 } : T_impl_Value))⟩] ?_
 refine rve 35 [(0, .ref 0 0 0 3 (((x4.set x3.toNat ({ v8 with fKind := x2 } : T_impl_Value)).set x3.toNat ({ v10 with fN := (w64 (x2 + 1)) } : T_impl_Value)).set x3.toNat ({ v14 with fS := v12 } : T_impl_Value)).length false), (1, I (w64 ((w64 ((w64 (x2 + 1)) + 1)) + 1))), (5, I x3)] [some ⟨0, eL (((x4.set x3.toNat ({ v8 with fKind := x2 } : T_impl_Value)).set x3.toNat ({ v10 with fN := (w64 (x2 + 1)) } : T_impl_Value)).set x3.toNat ({ v14 with fS := v12 } : T_impl_Value))⟩] ?_
 refine rve 35 [(0, .ref 0 0 0 3 (((x4.set x3.toNat ({ v8 with fKind := x2 } : T_impl_Value)).set x3.toNat ({ v10 with fN := (w64 (x2 + 1)) } : T_impl_Value)).set x3.toNat ({ v14 with fS := v12 } : T_impl_Value)).length false), (1, I (w64 ((w64 ((w64 (x2 + 1)) + 1)) + 1))), (5, I (w64 (x3 + 1)))] [some ⟨0, eL (((x4.set x3.toNat ({ v8 with fKind := x2 } : T_impl_Value)).set x3.toNat ({ v10 with fN := (w64 (x2 + 1)) } : T_impl_Value)).set x3.toNat ({ v14 with fS := v12 } : T_impl_Value))⟩] ?_
 exact ⟨(f5, (w64 ((w64 ((w64 (x2 + 1)) + 1)) + 1)), (w64 (x3 + 1)), (((x4.set x3.toNat ({ v8 with fKind := x2 } : T_impl_Value)).set x3.toNat ({ v10 with fN := (w64 (x2 + 1)) } : T_impl_Value)).set x3.toNat ({ v14 with fS := v12 } : T_impl_Value))), h, Nat.lt_succ_self _, it [0, 1, 5]⟩
 refine pwp_exit ?_
 refine srve 35 [(4, I x2)] [sl 0 x4] ?_
 have h := si h
 subst h
 exact pwp_ret ⟨.inr rfl, 0, by kernel_rfl, by kernel_rfl⟩
def laws_heldValueS_l0 (a0 : List T_impl_Value) : Nat → Int → Int → Option Int
 | 0, _, _ => none
 | f3 + 1, x1, x2 => bif (decide (x2 < (a0.length : Int))) then (getI a0 x2).bind fun v6 => bif (!(v6.fKind == x1)) then some (-1) else (getI a0 x2).bind fun v9 => bif (!(v9.fN == (w64 (x1 + 1)))) then some (-1) else (getI a0 x2).bind fun v12 => (laws_markText (w64 ((w64 (x1 + 1)) + 1))).bind fun v14 => bif (!(v12.fS.toList == v14.toList)) then some (-1) else (laws_heldValueS_l0 a0 f3) (w64 ((w64 ((w64 (x1 + 1)) + 1)) + 1)) (w64 (x2 + 1)) else some x1
def laws_heldValueS (a0 : List T_impl_Value) (a1 : Int) : Option Int := laws_heldValueS_l0 a0 FUEL a1 0
theorem ok_laws_heldValueS {a0 : List T_impl_Value} {a1 : Int} {y : Int} (h : laws_heldValueS a0 a1 = some y) : OK Try.prog 81 [A a0, I a1] (I y) := by
 refine ow Try.func81 fun Γ hX => ?_
 unfold laws_heldValueS at h
 refine srve 41 [(0, A a0), (1, I a1)] [] ?_
 refine pwp_seq ?_
 refine srve 41 [(0, A a0), (1, I a1), (5, I 0)] [] ?_
 refine pwp_block ?_
 refine pwp_loop (ι := Nat × Int × Int) (fun (f3, x1, x2) => (⟨41, [(0, A a0), (1, I x1), (5, I x2)], []⟩ : St)) (fun (f3, x1, x2) => laws_heldValueS_l0 a0 f3 x1 x2 = some y) Prod.fst (FUEL, a1, 0) h (it [0, 1, 5]) ?_
 rintro ⟨f3, x1, x2⟩ h
 dsimp only at h ⊢
 rcases f3 with _ | f3
 cases h
 rw [laws_heldValueS_l0] at h
 refine pwp_seq ?_
 refine srve 41 [(0, A a0), (1, I x1), (5, I x2), (9, B (decide (x2 < (a0.length : Int))))] [] ?_
 refine pc h (fun h => ?_) (fun h => ?_)
 refine pwp_skip ?_
 refine pwp_seq ?_
 refine pwp_block ?_
 refine pwp_seq ?_
 refine srv 2 41 [(0, A a0), (1, I x1), (5, I x2), (12, A a0), (13, I x2)] [] ?_
 obtain ⟨v6, hv7, h⟩ := bindS h
 refine opsP_idx τ_ok 14 hv7 (by kernel_rfl) ?_
 refine ve 4 41 [(0, A a0), (1, I x1), (5, I x2), (18, B (!(v6.fKind == x1)))] [] ?_
 refine pc h (fun h => ?_) (fun h => ?_)
 refine srve 41 [(4, I (-1))] [] ?_
 cases h
 exact pwp_ret rz
 refine pwp_skip ?_
 refine srve 41 [(0, A a0), (1, I (w64 (x1 + 1))), (5, I x2)] [] ?_
 refine pwp_seq ?_
 refine srv 2 41 [(0, A a0), (1, I (w64 (x1 + 1))), (5, I x2), (21, A a0), (22, I x2)] [] ?_
 obtain ⟨v9, hv10, h⟩ := bindS h
 refine opsP_idx τ_ok 23 hv10 (by kernel_rfl) ?_
 refine ve 4 41 [(0, A a0), (1, I (w64 (x1 + 1))), (5, I x2), (27, B (!(v9.fN == (w64 (x1 + 1)))))] [] ?_
 refine pc h (fun h => ?_) (fun h => ?_)
 refine srve 41 [(4, I (-1))] [] ?_
 cases h
 exact pwp_ret rz
 refine pwp_skip ?_
 refine srve 41 [(0, A a0), (1, I (w64 ((w64 (x1 + 1)) + 1))), (5, I x2)] [] ?_
 refine pwp_seq ?_
 refine pwp_seq ?_
 refine ip 41 [(0, A a0), (1, I (w64 ((w64 (x1 + 1)) + 1))), (5, I x2)] [] ?_
 refine pN 8 ?_
 refine qv [] trivial 2 41 [(31, I x2), (30, A a0), (0, A a0), (1, I (w64 ((w64 (x1 + 1)) + 1))), (5, I x2)] [] ?_
 obtain ⟨v12, hv13, h⟩ := bindS h
 refine qX (some 32) (pf v12 0) 41 [(32, pf v12 0), (0, A a0), (1, I (w64 ((w64 (x1 + 1)) + 1))), (5, I x2)] [] (fun Γ' hΓ => CoreE.of_y (idxV_sound τ_ok (by kernel_rfl) hv13)) trivial ?_
 refine qv [] trivial 3 41 [(35, I (w64 ((w64 (x1 + 1)) + 1))), (34, S v12.fS), (0, A a0), (1, I (w64 ((w64 (x1 + 1)) + 1))), (5, I x2)] [] ?_
 obtain ⟨v14, hv15, h⟩ := bindS h
 refine qX (some 36) (S v14) 41 [(36, S v14), (34, S v12.fS), (0, A a0), (1, I (w64 ((w64 (x1 + 1)) + 1))), (5, I x2)] [] (fun Γ' hΓ => CoreE.of_g (callV_sound (τ := τ) (by kernel_rfl) rfl (ok_laws_markText hv15) (FzTo.frz rfl))) trivial ?_
 refine qvn [] trivial 1 41 [(0, A a0), (1, I (w64 ((w64 (x1 + 1)) + 1))), (5, I x2), (37, B (!(v12.fS.toList == v14.toList)))] [] ?_
 refine pc h (fun h => ?_) (fun h => ?_)
 refine srve 41 [(4, I (-1))] [] ?_
 cases h
 exact pwp_ret rz
 refine pwp_skip ?_
 refine rve 41 [(0, A a0), (1, I (w64 ((w64 ((w64 (x1 + 1)) + 1)) + 1))), (5, I x2)] [] ?_
 refine rve 41 [(0, A a0), (1, I (w64 ((w64 ((w64 (x1 + 1)) + 1)) + 1))), (5, I (w64 (x2 + 1)))] [] ?_
 exact ⟨(f3, (w64 ((w64 ((w64 (x1 + 1)) + 1)) + 1)), (w64 (x2 + 1))), h, Nat.lt_succ_self _, it [0, 1, 5]⟩
 refine pwp_exit ?_
 refine srve 41 [(4, I x1)] [] ?_
 cases h
 exact pwp_ret rz
def impl_Value_ok (a0 : T_impl_Value) : Option Bool := bif (a0.fKind == 0) then some (eq_T_impl_Value a0 (T_impl_Value.mk 0 0 (ByteArray.mk #[]))) else bif (a0.fKind == 1) then bif (a0.fS.toList == (ByteArray.mk #[]).toList) then (impl_between a0.fN (-9999) 9999).bind fun v3 => some v3 else some false else bif (a0.fKind == 2) then bif (a0.fN == 0) then bif (decide ((a0.fS.size : Int) ≤ 6)) then (impl_letters a0.fS).bind fun v7 => some v7 else some false else some false else bif (a0.fKind == 3) then bif (a0.fS.toList == (ByteArray.mk #[]).toList) then (impl_between a0.fN 0 1).bind fun v12 => some v12 else some false else some false
theorem ok_impl_Value_ok {a0 : T_impl_Value} {y : Bool} (h : impl_Value_ok a0 = some y) : OK Try.prog 92 [E a0] (B y) := by
 refine ow Try.func92 fun Γ hX => ?_
 unfold impl_Value_ok at h
 refine srve 46 [(1, pf a0 0)] [] ?_
 refine pwp_seq ?_
 refine srve 46 [(1, pf a0 0), (4, I a0.fKind)] [] ?_
 refine pwp_block ?_
 refine srve 46 [(1, pf a0 0), (4, I a0.fKind), (5, B (a0.fKind == 0))] [] ?_
 refine pc h (fun h => ?_) (fun h => ?_)
 refine srve 46 [(2, B (eq_T_impl_Value a0 (T_impl_Value.mk 0 0 (ByteArray.mk #[]))))] [] ?_
 cases h
 exact pwp_ret rz
 refine srve 46 [(1, pf a0 0), (4, I a0.fKind), (10, B (a0.fKind == 1))] [] ?_
 refine pc h (fun h => ?_) (fun h => ?_)
 refine srv 4 46 [(1, pf a0 0), (15, B (a0.fS.toList == (ByteArray.mk #[]).toList))] [] ?_
 rcases fk (a0.fS.toList == (ByteArray.mk #[]).toList) with hc5 | hc5
 replace h := bT hc5 h
 rw [hc5]
 refine v 2 46 [(15, B true), (17, I a0.fN)] [] ?_
 obtain ⟨v3, hv4, h⟩ := bindS h
 refine cF 18 (ok_impl_between hv4) ?_
 refine ve 2 46 [(2, B v3)] [] ?_
 cases h
 exact pwp_ret rz
 replace h := bF hc5 h
 rw [hc5]
 refine ve 5 46 [(2, B false)] [] ?_
 cases h
 exact pwp_ret rz
 refine srve 46 [(1, pf a0 0), (4, I a0.fKind), (20, B (a0.fKind == 2))] [] ?_
 refine pc h (fun h => ?_) (fun h => ?_)
 refine srv 4 46 [(1, pf a0 0), (25, B (a0.fN == 0))] [] ?_
 rcases fk (a0.fN == 0) with hc10 | hc10
 replace h := bT hc10 h
 rw [hc10]
 refine v 6 46 [(1, pf a0 0), (31, B (decide ((a0.fS.size : Int) ≤ 6)))] [] ?_
 rcases fk (decide ((a0.fS.size : Int) ≤ 6)) with hc9 | hc9
 replace h := bT hc9 h
 rw [hc9]
 refine v 2 46 [(31, B true), (33, S a0.fS)] [] ?_
 obtain ⟨v7, hv8, h⟩ := bindS h
 refine cF 34 (ok_impl_letters hv8) ?_
 refine ve 2 46 [(2, B v7)] [] ?_
 cases h
 exact pwp_ret rz
 replace h := bF hc9 h
 rw [hc9]
 refine ve 5 46 [(2, B false)] [] ?_
 cases h
 exact pwp_ret rz
 replace h := bF hc10 h
 rw [hc10]
 refine ve 11 46 [(2, B false)] [] ?_
 cases h
 exact pwp_ret rz
 refine srve 46 [(1, pf a0 0), (36, B (a0.fKind == 3))] [] ?_
 refine pc h (fun h => ?_) (fun h => ?_)
 refine srv 4 46 [(1, pf a0 0), (41, B (a0.fS.toList == (ByteArray.mk #[]).toList))] [] ?_
 rcases fk (a0.fS.toList == (ByteArray.mk #[]).toList) with hc14 | hc14
 replace h := bT hc14 h
 rw [hc14]
 refine v 2 46 [(41, B true), (43, I a0.fN)] [] ?_
 obtain ⟨v12, hv13, h⟩ := bindS h
 refine cF 44 (ok_impl_between hv13) ?_
 refine ve 2 46 [(2, B v12)] [] ?_
 cases h
 exact pwp_ret rz
 replace h := bF hc14 h
 rw [hc14]
 refine ve 5 46 [(2, B false)] [] ?_
 cases h
 exact pwp_ret rz
 refine pwp_skip ?_
 refine srve 46 [(2, B false)] [] ?_
 cases h
 exact pwp_ret rz
def impl_clone_impl_Value (a0 : List T_impl_Value) : Option (List T_impl_Value) := bif ((a0.length : Int) == 0) then some ([] : List T_impl_Value) else (app [] a0).bind fun v2 => (slices_Clip_impl_Value_impl_Value v2).bind fun v4 => some v4
theorem ok_impl_clone_impl_Value {a0 : List T_impl_Value} {y : List T_impl_Value} (h : impl_clone_impl_Value a0 = some y) : OK Try.prog 93 [A a0] (A y) := by
 refine ow Try.func93 fun Γ hX => ?_
 unfold impl_clone_impl_Value at h
 refine srve 9 [(0, A a0)] [] ?_
 refine pwp_seq ?_
 refine srve 9 [(0, A a0), (5, B ((a0.length : Int) == 0))] [] ?_
 refine pc h (fun h => ?_) (fun h => ?_)
 refine srve 9 [(2, .arr 3 0 (eL ([] : List T_impl_Value)) true)] [] ?_
 refine ip 9 [(2, .arr 3 0 (eL ([] : List T_impl_Value)) true)] [] ?_
 refine pwp_imp (Imp.unfS (st' := ⟨9, [(2, A ([] : List T_impl_Value))], []⟩) 2 [2] (by kernel_rfl)) ?_
 cases h
 exact pwp_ret rz
 refine pwp_skip ?_
 refine srv 1 9 [(6, A a0)] [] ?_
 obtain ⟨v2, hv3, h⟩ := bindS h
 refine opsP_apn τ_ok 7 0 (nx hX) hv3 (by kernel_rfl) ?_
 refine v 0 9 [(7, rf 0 1 3 v2)] [sl 1 v2] ?_
 refine opsP_imp (Imp.freezeB (v := 1) (cs := eL v2) (st' := ⟨9, [(7, A v2)], [none]⟩) 0 1 (nx hX) (by kernel_rfl) (eL_frz _) (wholeC (whole_is (eL_len v2).symm) wholeC0) (HpRel.key HpRel.nil) (by kernel_rfl) rfl (nx hX)) ?_
 obtain ⟨v4, hv5, h⟩ := bindS h
 refine cF 8 (ok_slices_Clip_impl_Value_impl_Value hv5) ?_
 refine ve 1 9 [(2, A v4)] [none] ?_
 cases h
 exact pwp_ret rz
def laws_eqWrite (a0 : T_impl_Write) (a1 : T_impl_Write) : Option Bool := bif (!(a0.fKey == a1.fKey)) then some false else (laws_eqValueS a0.fRow a1.fRow).bind fun v2 => bif (!v2) then some false else bif (!(a0.fGone == a1.fGone)) then some false else some true
theorem ok_laws_eqWrite {a0 : T_impl_Write} {a1 : T_impl_Write} {y : Bool} (h : laws_eqWrite a0 a1 = some y) : OK Try.prog 96 [E a0, E a1] (B y) := by
 refine ow Try.func96 fun Γ hX => ?_
 unfold laws_eqWrite at h
 refine srve 21 [(2, pf a0 0), (3, pf a1 0)] [] ?_
 refine pwp_seq ?_
 refine srve 21 [(2, pf a0 0), (3, pf a1 0), (9, B (!(a0.fKey == a1.fKey)))] [] ?_
 refine pc h (fun h => ?_) (fun h => ?_)
 refine srve 21 [(4, B false)] [] ?_
 cases h
 exact pwp_ret rz
 refine pwp_skip ?_
 refine pwp_seq ?_
 refine srv 4 21 [(2, pf a0 0), (3, pf a1 0), (11, A a0.fRow), (13, A a1.fRow)] [] ?_
 obtain ⟨v2, hv3, h⟩ := bindS h
 refine cF 14 (ok_laws_eqValueS hv3) ?_
 refine ve 1 21 [(2, pf a0 0), (3, pf a1 0), (15, B (!v2))] [] ?_
 refine pc h (fun h => ?_) (fun h => ?_)
 refine srve 21 [(4, B false)] [] ?_
 cases h
 exact pwp_ret rz
 refine pwp_skip ?_
 refine pwp_seq ?_
 refine srve 21 [(20, B (!(a0.fGone == a1.fGone)))] [] ?_
 refine pc h (fun h => ?_) (fun h => ?_)
 refine srve 21 [(4, B false)] [] ?_
 cases h
 exact pwp_ret rz
 refine pwp_skip ?_
 refine srve 21 [(4, B true)] [] ?_
 cases h
 exact pwp_ret rz
def slices_DeleteFunc_impl_Entry_impl_Entry_j1 (x6 : Int) (K9 : Int → Int → (List T_impl_Entry) → Option (List T_impl_Entry)) (x11 : Int) (x12 : List T_impl_Entry) (x13 : T_impl_Entry) : Option (List T_impl_Entry) := K9 x11 (w64 (x6 + 1)) x12
def slices_DeleteFunc_impl_Entry_impl_Entry_l0 (a1 : T_impl_Entry → Option Bool) : Nat → Int → Int → (List T_impl_Entry) → Option (List T_impl_Entry)
 | 0, _, _, _ => none
 | f8 + 1, x5, x6, x7 => bif (decide (x6 < (x7.length : Int))) then (getI x7 x6).bind fun v14 => (a1 v14).bind fun v16 => bif (!v16) then (getI x7 x5).bind fun v19 => slices_DeleteFunc_impl_Entry_impl_Entry_j1 x6 (slices_DeleteFunc_impl_Entry_impl_Entry_l0 a1 f8) (w64 (x5 + 1)) (x7.set x5.toNat v14) v14 else slices_DeleteFunc_impl_Entry_impl_Entry_j1 x6 (slices_DeleteFunc_impl_Entry_impl_Entry_l0 a1 f8) x5 x7 v14 else (slI x7 (some x5) none none).bind fun v21 => (slI (x7.take x5.toNat ++ List.replicate v21.length (T_impl_Entry.mk 0 [])) none (some x5) none).bind fun v23 => some v23
def slices_DeleteFunc_impl_Entry_impl_Entry (a0 : List T_impl_Entry) (a1 : T_impl_Entry → Option Bool) : Option (List T_impl_Entry) := (slices_IndexFunc_impl_Entry_impl_Entry a0 a1).bind fun v1 => bif (v1 == (-1)) then some a0 else slices_DeleteFunc_impl_Entry_impl_Entry_l0 a1 FUEL v1 (w64 (v1 + 1)) a0
theorem ok_slices_DeleteFunc_impl_Entry_impl_Entry {a0 : List T_impl_Entry} {g1 : FuncId} {c1 : List V} (hz1 : frzL c1 = true) {a1 : T_impl_Entry → Option Bool} (hp1 : ∀ x0 y, a1 x0 = some y → OK Try.prog g1 ([E x0] ++ c1) (B y)) {y : List T_impl_Entry} (h : slices_DeleteFunc_impl_Entry_impl_Entry a0 a1 = some y) : OKm Try.prog 100 [O a0, .fn g1 c1] (O y) := by
 refine OKm_of_pwp (sl := [rf 0 0 2 a0, .fn g1 c1]) (bs := [⟨0, eL a0⟩]) τ_ok Try.func100 rfl (by kernel_rfl) rfl (by kernel_rfl) fun Γ hX => ?_
 refine pwp_imp (Imp.to (st' := ⟨42, [(0, rf 0 0 2 a0), (1, .fn g1 c1)], [sl 0 a0]⟩) [0, 1] (by kernel_rfl)) ?_
 unfold slices_DeleteFunc_impl_Entry_impl_Entry at h
 refine srveM [7] 42 [(0, rf 0 0 2 a0), (1, .fn g1 c1)] [sl 0 a0] ?_
 refine srvM [7] 2 42 [(0, rf 0 0 2 a0), (1, .fn g1 c1), (8, rf 0 0 2 a0), (9, .fn g1 c1)] [sl 0 a0] ?_
 obtain ⟨v1, hv2, h⟩ := bindS h
 refine opsP_callV (xs := [rf 0 0 2 a0, .fn g1 c1]) τ 10 (ok_slices_IndexFunc_impl_Entry_impl_Entry (hz1) (hp1) hv2) (Blind.lit _) (FzTo.frz rfl) (by kernel_rfl) (ViewL.cons (View.whole (v := 0) a0 (by kernel_rfl) rfl) (ViewL.cons (View.frz hz1) (ViewL.nil _))) ?_
 refine veM [7] 1 42 [(0, rf 0 0 2 a0), (1, .fn g1 c1), (5, I v1)] [sl 0 a0] ?_
 refine pwp_seq ?_
 refine srveM [7] 42 [(0, rf 0 0 2 a0), (1, .fn g1 c1), (5, I v1), (12, B (v1 == (-1)))] [sl 0 a0] ?_
 refine pc h (fun h => ?_) (fun h => ?_)
 refine srveM [7] 42 [(4, rf 0 0 2 a0)] [sl 0 a0] ?_
 have h := si h
 subst h
 exact pwp_ret (rt (rf 0 0 2 a0) (OutP.list (v := 0) (by kernel_rfl)))
 refine pwp_skip ?_
 refine pwp_seq ?_
 refine srveM [7] 42 [(0, rf 0 0 2 a0), (1, .fn g1 c1), (5, I v1), (6, I (w64 (v1 + 1)))] [sl 0 a0] ?_
 refine pwp_block ?_
 refine pwp_loop (ι := Nat × Int × Int × (List T_impl_Entry)) (fun (f8, x5, x6, x7) => (⟨42, [(0, rf 0 0 2 x7), (1, .fn g1 c1), (5, I x5), (6, I x6)], [sl 0 x7]⟩ : St)) (fun (f8, x5, x6, x7) => slices_DeleteFunc_impl_Entry_impl_Entry_l0 a1 f8 x5 x6 x7 = some y) Prod.fst (FUEL, v1, (w64 (v1 + 1)), a0) h (it [0, 1, 5, 6]) ?_
 rintro ⟨f8, x5, x6, x7⟩ h
 dsimp only at h ⊢
 rcases f8 with _ | f8
 cases h
 rw [slices_DeleteFunc_impl_Entry_impl_Entry_l0] at h
 refine pwp_seq ?_
 refine srveM [7] 42 [(0, rf 0 0 2 x7), (1, .fn g1 c1), (5, I x5), (6, I x6), (19, B (decide (x6 < (x7.length : Int))))] [sl 0 x7] ?_
 refine pc h (fun h => ?_) (fun h => ?_)
 refine pwp_skip ?_
 refine pwp_seq ?_
 refine pwp_join (σ := Int × (List T_impl_Entry) × T_impl_Entry) (fun (x11, x12, x13) => (⟨42, [(0, rf 0 0 2 x12), (1, .fn g1 c1), (5, I x11), (6, I x6)], [sl 0 x12, sc 0 x13]⟩ : St)) (fun (x11, x12, x13) => slices_DeleteFunc_impl_Entry_impl_Entry_j1 x6 (slices_DeleteFunc_impl_Entry_impl_Entry_l0 a1 f8) x11 x12 x13 = some y) ?_ ?_
 refine pwp_block ?_
 refine srvM [7] 2 42 [(0, rf 0 0 2 x7), (1, .fn g1 c1), (5, I x5), (6, I x6), (22, rf 0 0 2 x7), (23, I x6)] [sl 0 x7] ?_
 obtain ⟨v14, hv15, h⟩ := bindS h
 refine opsP_idr τ_ok 24 0 0 x7.length hv15 rfl (by kernel_rfl) ?_
 refine opsP_lde (r := E v14) τ_ok 25 28 0 hv15 (by kernel_rfl) (by kernel_rfl) ?_
 refine veM [7] 2 42 [(0, rf 0 0 2 x7), (1, .fn g1 c1), (5, I x5), (6, I x6), (7, .ptr 1 0 0)] [sl 0 x7, sc 0 v14] ?_
 refine srvM [7] 2 42 [(0, rf 0 0 2 x7), (1, .fn g1 c1), (5, I x5), (6, I x6), (7, .ptr 1 0 0), (26, .fn g1 c1), (27, E v14)] [sl 0 x7, sc 0 v14] ?_
 obtain ⟨v16, hv17, h⟩ := bindS h
 refine opsP_callF τ 28 (hp1 _ _ hv17) (FzTo.frz rfl) (frz_app (xs := [E v14]) rfl hz1) (by kernel_rfl) ?_
 refine veM [7] 1 42 [(0, rf 0 0 2 x7), (1, .fn g1 c1), (5, I x5), (6, I x6), (7, .ptr 1 0 0), (29, B (!v16))] [sl 0 x7, sc 0 v14] ?_
 refine pc h (fun h => ?_) (fun h => ?_)
 refine srvM [7] 3 42 [(0, rf 0 0 2 x7), (1, .fn g1 c1), (5, I x5), (6, I x6), (30, rf 0 0 2 x7), (31, I x5), (32, E v14)] [sl 0 x7, sc 0 v14] ?_
 obtain ⟨v19, hv20, h⟩ := bindS h
 refine opsP_idr τ_ok 33 0 0 x7.length hv20 rfl (by kernel_rfl) ?_
 refine vM [7] 0 42 [(0, rf 0 0 2 x7), (1, .fn g1 c1), (5, I x5), (6, I x6), (32, E v14), (33, .ptr 0 0 (x5.toNat * 2))] [sl 0 x7, sc 0 v14] ?_
 refine opsP_ste (vs := [I v14.fTime, A v14.fWrites]) τ_ok 28 0 0 0 v14 hv20 (by kernel_rfl) (by kernel_rfl) (by kernel_rfl) (renC (ren_ref (List.length_set ..).symm) (renC trivial (renC trivial (renC trivial (renC trivial (renC trivial renC0)))))) ?_
 refine veM [7] 0 42 [(0, .ref 0 0 0 2 (x7.set x5.toNat v14).length false), (1, .fn g1 c1), (5, I x5), (6, I x6)] [some ⟨0, eL (x7.set x5.toNat v14)⟩, sc 0 v14] ?_
 refine rveM [7] 42 [(0, .ref 0 0 0 2 (x7.set x5.toNat v14).length false), (1, .fn g1 c1), (5, I (w64 (x5 + 1))), (6, I x6)] [some ⟨0, eL (x7.set x5.toNat v14)⟩, sc 0 v14] ?_
 exact ⟨((w64 (x5 + 1)), (x7.set x5.toNat v14), v14), h, it [0, 1, 5, 6]⟩
 refine pwp_skip ?_
 exact ⟨(x5, x7, v14), h, it [0, 1, 5, 6]⟩
 rintro ⟨x11, x12, x13⟩ h
 dsimp only at h ⊢
 unfold slices_DeleteFunc_impl_Entry_impl_Entry_j1 at h
 refine rveM [7] 42 [(0, rf 0 0 2 x12), (1, .fn g1 c1), (5, I x11), (6, I (w64 (x6 + 1)))] [sl 0 x12, sc 0 x13] ?_
 exact ⟨(f8, x11, (w64 (x6 + 1)), x12), h, Nat.lt_succ_self _, (it (st' := ⟨42, [(0, rf 0 0 2 x12), (1, .fn g1 c1), (5, I x11), (6, I (w64 (x6 + 1)))], [sl 0 x12, sc 0 x13]⟩) [0, 1, 5, 6]).trans (Imp.truncS 1 (nx hX) (by kernel_rfl) (allBelow_mem (by exact (And.intro rfl (And.intro (below_frz (show frz (.fn g1 c1) = true from hz1)) (And.intro rfl (And.intro rfl trivial)))))) (by exact (And.intro (frz_below (eL_frz _)) trivial)) (by kernel_rfl))⟩
 refine pwp_exit ?_
 refine srvM [7] 2 42 [(0, rf 0 0 2 x7), (5, I x5), (36, rf 0 0 2 x7), (37, I x5)] [sl 0 x7] ?_
 obtain ⟨v21, hv22, h⟩ := bindS h
 refine opsP_slr τ_ok 38 0 0 x7.length hv22 rfl (by kernel_rfl) ?_
 refine opsP_E (dd := none) (x := .any) (clr_E (z := (T_impl_Entry.mk 0 [])) τ_ok 0 0 x5.toNat v21.length (slI_tail hv22).1 (by kernel_rfl)) ?_
 refine io 42 [(0, rf 0 0 2 x7), (5, I x5), (36, rf 0 0 2 x7), (37, I x5)] [some ⟨0, eL (x7.take x5.toNat ++ List.replicate v21.length (T_impl_Entry.mk 0 []))⟩] ?_
 refine opsP_imp (Imp.of_eq (st' := ⟨42, [(0, .ref 0 0 0 2 (x7.take x5.toNat ++ List.replicate v21.length (T_impl_Entry.mk 0 [])).length false), (5, I x5), (36, .ref 0 0 0 2 (x7.take x5.toNat ++ List.replicate v21.length (T_impl_Entry.mk 0 [])).length false), (37, I x5)], [some ⟨0, eL (x7.take x5.toNat ++ List.replicate v21.length (T_impl_Entry.mk 0 []))⟩]⟩) (by simp only [clr_len (slI_tail hv22).1])) ?_
 refine veM [7] 0 42 [(0, .ref 0 0 0 2 (x7.take x5.toNat ++ List.replicate v21.length (T_impl_Entry.mk 0 [])).length false), (5, I x5)] [some ⟨0, eL (x7.take x5.toNat ++ List.replicate v21.length (T_impl_Entry.mk 0 []))⟩] ?_
 refine srvM [7] 2 42 [(39, .ref 0 0 0 2 (x7.take x5.toNat ++ List.replicate v21.length (T_impl_Entry.mk 0 [])).length false), (40, I x5)] [some ⟨0, eL (x7.take x5.toNat ++ List.replicate v21.length (T_impl_Entry.mk 0 []))⟩] ?_
 obtain ⟨v23, hv24, h⟩ := bindS h
 refine opsP_slr τ_ok 41 0 0 (x7.take x5.toNat ++ List.replicate v21.length (T_impl_Entry.mk 0 [])).length hv24 rfl (by kernel_rfl) ?_
 refine veM [7] 1 42 [(4, rf 0 0 2 v23)] [some ⟨0, eL (x7.take x5.toNat ++ List.replicate v21.length (T_impl_Entry.mk 0 []))⟩] ?_
 refine ip 42 [(4, rf 0 0 2 v23)] [some ⟨0, eL (x7.take x5.toNat ++ List.replicate v21.length (T_impl_Entry.mk 0 []))⟩] ?_
 refine pwp_imp (Imp.cut (st' := ⟨42, [(4, rf 0 0 2 v23)], [sl 0 v23]⟩) 0 0 (x7.take x5.toNat ++ List.replicate v21.length (T_impl_Entry.mk 0 [])) v23 (by kernel_rfl) (slI_view hv24) (by kernel_rfl)) ?_
 have h := si h
 subst h
 exact pwp_ret (rt (rf 0 0 2 v23) (OutP.list (v := 0) (by kernel_rfl)))
def slices_ContainsFunc_impl_Value_impl_Value (a0 : List T_impl_Value) (a1 : T_impl_Value → Option Bool) : Option Bool := (slices_IndexFunc_impl_Value_impl_Value a0 a1).bind fun v1 => some (decide (v1 ≥ 0))
theorem ok_slices_ContainsFunc_impl_Value_impl_Value {a0 : List T_impl_Value} {g1 : FuncId} {c1 : List V} (hz1 : frzL c1 = true) {a1 : T_impl_Value → Option Bool} (hp1 : ∀ x0 y, a1 x0 = some y → OK Try.prog g1 ([E x0] ++ c1) (B y)) {y : Bool} (h : slices_ContainsFunc_impl_Value_impl_Value a0 a1 = some y) : OK Try.prog 115 [A a0, .fn g1 c1] (B y) := by
 refine ow Try.func115 fun Γ hX => ?_
 unfold slices_ContainsFunc_impl_Value_impl_Value at h
 refine srve 9 [(0, A a0), (1, .fn g1 c1)] [] ?_
 refine srv 2 9 [(5, A a0), (6, .fn g1 c1)] [] ?_
 obtain ⟨v1, hv2, h⟩ := bindS h
 refine opsP_callF τ 7 (ok_slices_IndexFunc_impl_Value_impl_Value (hz1) (hp1) hv2) (FzTo.frz rfl) (by simp only [frzL, frz, hz1, Bool.and_true]) (by kernel_rfl) ?_
 refine ve 2 9 [(4, B (decide (v1 ≥ 0)))] [] ?_
 cases h
 exact pwp_ret rz
def impl_RowOk_1 (a0 : T_impl_Value) : Option Bool := (impl_Value_ok a0).bind fun v1 => some (!v1)
theorem ok_impl_RowOk_1 {a0 : T_impl_Value} {y : Bool} (h : impl_RowOk_1 a0 = some y) : OK Try.prog 116 [E a0] (B y) := by
 refine ow Try.func116 fun Γ hX => ?_
 unfold impl_RowOk_1 at h
 refine srve 6 [(1, pf a0 0)] [] ?_
 refine srv 1 6 [(3, E a0)] [] ?_
 obtain ⟨v1, hv2, h⟩ := bindS h
 refine cF 4 (ok_impl_Value_ok hv2) ?_
 refine ve 2 6 [(2, B (!v1))] [] ?_
 cases h
 exact pwp_ret rz
def cmp_Compare_int (a0 : Int) (a1 : Int) : Option Int := (cmp_isNaN_int a0).bind fun v1 => (cmp_isNaN_int a1).bind fun v3 => bif v1 then bif v3 then some 0 else some (-1) else bif v3 then some 1 else bif (decide (a0 < a1)) then some (-1) else bif (decide (a0 > a1)) then some 1 else some 0
theorem ok_cmp_Compare_int {a0 : Int} {a1 : Int} {y : Int} (h : cmp_Compare_int a0 a1 = some y) : OK Try.prog 122 [I a0, I a1] (I y) := by
 refine ow Try.func122 fun Γ hX => ?_
 unfold cmp_Compare_int at h
 refine srve 20 [(0, I a0), (1, I a1)] [] ?_
 refine srv 1 20 [(0, I a0), (1, I a1), (7, I a0)] [] ?_
 obtain ⟨v1, hv2, h⟩ := bindS h
 refine cF 8 (ok_cmp_isNaN_int hv2) ?_
 refine ve 1 20 [(0, I a0), (1, I a1), (5, B v1)] [] ?_
 refine srv 1 20 [(0, I a0), (1, I a1), (5, B v1), (9, I a1)] [] ?_
 obtain ⟨v3, hv4, h⟩ := bindS h
 refine cF 10 (ok_cmp_isNaN_int hv4) ?_
 refine ve 1 20 [(0, I a0), (1, I a1), (5, B v1), (6, B v3)] [] ?_
 refine pwp_seq ?_
 refine srve 20 [(0, I a0), (1, I a1), (6, B v3), (11, B v1)] [] ?_
 refine pc h (fun h => ?_) (fun h => ?_)
 refine pwp_seq ?_
 refine srve 20 [(12, B v3)] [] ?_
 refine pc h (fun h => ?_) (fun h => ?_)
 refine srve 20 [(4, I 0)] [] ?_
 cases h
 exact pwp_ret rz
 refine pwp_skip ?_
 refine srve 20 [(4, I (-1))] [] ?_
 cases h
 exact pwp_ret rz
 refine pwp_skip ?_
 refine pwp_seq ?_
 refine srve 20 [(0, I a0), (1, I a1), (13, B v3)] [] ?_
 refine pc h (fun h => ?_) (fun h => ?_)
 refine srve 20 [(4, I 1)] [] ?_
 cases h
 exact pwp_ret rz
 refine pwp_skip ?_
 refine pwp_seq ?_
 refine srve 20 [(0, I a0), (1, I a1), (16, B (decide (a0 < a1)))] [] ?_
 refine pc h (fun h => ?_) (fun h => ?_)
 refine srve 20 [(4, I (-1))] [] ?_
 cases h
 exact pwp_ret rz
 refine pwp_skip ?_
 refine pwp_seq ?_
 refine srve 20 [(19, B (decide (a0 > a1)))] [] ?_
 refine pc h (fun h => ?_) (fun h => ?_)
 refine srve 20 [(4, I 1)] [] ?_
 cases h
 exact pwp_ret rz
 refine pwp_skip ?_
 refine srve 20 [(4, I 0)] [] ?_
 cases h
 exact pwp_ret rz
def laws_szValueS_l0 (a0 : List T_laws_Value) : Nat → Int → Int → Option Int
 | 0, _, _ => none
 | f4 + 1, x2, x3 => bif (decide (x3 < (a0.length : Int))) then (getI a0 x3).bind fun v7 => (laws_szValue v7 x2).bind fun v9 => bif (decide (v9 < 0)) then some (-1) else (laws_szValueS_l0 a0 f4) v9 (w64 (x3 + 1)) else some x2
def laws_szValueS (a0 : List T_laws_Value) (a1 : Int) : Option Int := bif (decide ((w64 (a1 - (a0.length : Int))) < 0)) then some (-1) else laws_szValueS_l0 a0 FUEL (w64 (a1 - (a0.length : Int))) 0
theorem ok_laws_szValueS {a0 : List T_laws_Value} {a1 : Int} {y : Int} (h : laws_szValueS a0 a1 = some y) : OK Try.prog 124 [A a0, I a1] (I y) := by
 refine ow Try.func124 fun Γ hX => ?_
 unfold laws_szValueS at h
 refine srve 27 [(0, A a0), (1, I a1)] [] ?_
 refine srve 27 [(0, A a0), (1, I (w64 (a1 - (a0.length : Int))))] [] ?_
 refine pwp_seq ?_
 refine srve 27 [(0, A a0), (1, I (w64 (a1 - (a0.length : Int)))), (11, B (decide ((w64 (a1 - (a0.length : Int))) < 0)))] [] ?_
 refine pc h (fun h => ?_) (fun h => ?_)
 refine srve 27 [(4, I (-1))] [] ?_
 cases h
 exact pwp_ret rz
 refine pwp_skip ?_
 refine pwp_seq ?_
 refine srve 27 [(0, A a0), (1, I (w64 (a1 - (a0.length : Int)))), (5, I 0)] [] ?_
 refine pwp_block ?_
 refine pwp_loop (ι := Nat × Int × Int) (fun (f4, x2, x3) => (⟨27, [(0, A a0), (1, I x2), (5, I x3)], []⟩ : St)) (fun (f4, x2, x3) => laws_szValueS_l0 a0 f4 x2 x3 = some y) Prod.fst (FUEL, (w64 (a1 - (a0.length : Int))), 0) h (it [0, 1, 5]) ?_
 rintro ⟨f4, x2, x3⟩ h
 dsimp only at h ⊢
 rcases f4 with _ | f4
 cases h
 rw [laws_szValueS_l0] at h
 refine pwp_seq ?_
 refine srve 27 [(0, A a0), (1, I x2), (5, I x3), (15, B (decide (x3 < (a0.length : Int))))] [] ?_
 refine pc h (fun h => ?_) (fun h => ?_)
 refine pwp_skip ?_
 refine pwp_seq ?_
 refine pwp_block ?_
 refine srv 2 27 [(0, A a0), (1, I x2), (5, I x3), (18, A a0), (19, I x3)] [] ?_
 obtain ⟨v7, hv8, h⟩ := bindS h
 refine opsP_idx τ_ok 20 hv8 (by kernel_rfl) ?_
 refine v 2 27 [(0, A a0), (5, I x3), (21, E v7), (22, I x2)] [] ?_
 obtain ⟨v9, hv10, h⟩ := bindS h
 refine cF 23 (ok_laws_szValue hv10) ?_
 refine ve 1 27 [(0, A a0), (1, I v9), (5, I x3)] [] ?_
 refine srve 27 [(0, A a0), (1, I v9), (5, I x3), (25, B (decide (v9 < 0)))] [] ?_
 refine pc h (fun h => ?_) (fun h => ?_)
 refine srve 27 [(4, I (-1))] [] ?_
 cases h
 exact pwp_ret rz
 refine pwp_skip ?_
 refine rve 27 [(0, A a0), (1, I v9), (5, I (w64 (x3 + 1)))] [] ?_
 exact ⟨(f4, v9, (w64 (x3 + 1))), h, Nat.lt_succ_self _, it [0, 1, 5]⟩
 refine pwp_exit ?_
 refine srve 27 [(4, I x2)] [] ?_
 cases h
 exact pwp_ret rz
def laws_toValueS_l0 (a0 : List T_laws_Value) : Nat → Int → (List T_impl_Value) → Option (List T_impl_Value)
 | 0, _, _ => none
 | f6 + 1, x4, x5 => bif (decide (x4 < (a0.length : Int))) then (getI a0 x4).bind fun v9 => (laws_toValue v9).bind fun v11 => (getI x5 x4).bind fun v13 => (laws_toValueS_l0 a0 f6) (w64 (x4 + 1)) (x5.set x4.toNat v11) else some x5
def laws_toValueS (a0 : List T_laws_Value) : Option (List T_impl_Value) := (mkI (a0.length : Int) (T_impl_Value.mk 0 0 (ByteArray.mk #[]))).bind fun v1 => laws_toValueS_l0 a0 FUEL 0 v1
theorem ok_laws_toValueS {a0 : List T_laws_Value} {y : List T_impl_Value} (h : laws_toValueS a0 = some y) : OK Try.prog 125 [A a0] (O y) := by
 refine ow Try.func125 fun Γ hX => ?_
 unfold laws_toValueS at h
 refine srve 23 [(0, A a0)] [] ?_
 refine srv 2 23 [(0, A a0), (6, I (a0.length : Int))] [] ?_
 obtain ⟨v1, hv2, h⟩ := bindS h
 refine opsP_mk τ_ok 7 0 _ hv2 (by kernel_rfl) (by kernel_rfl) ?_
 refine ve 1 23 [(0, A a0), (3, rf 0 0 3 v1)] [sl 0 v1] ?_
 refine pwp_seq ?_
 refine srve 23 [(0, A a0), (3, rf 0 0 3 v1), (4, I 0)] [sl 0 v1] ?_
 refine pwp_block ?_
 refine pwp_loop (ι := Nat × Int × (List T_impl_Value)) (fun (f6, x4, x5) => (⟨23, [(0, A a0), (3, rf 0 0 3 x5), (4, I x4)], [sl 0 x5]⟩ : St)) (fun (f6, x4, x5) => laws_toValueS_l0 a0 f6 x4 x5 = some y) Prod.fst (FUEL, 0, v1) h (it [0, 3, 4]) ?_
 rintro ⟨f6, x4, x5⟩ h
 dsimp only at h ⊢
 rcases f6 with _ | f6
 cases h
 rw [laws_toValueS_l0] at h
 refine pwp_seq ?_
 refine srve 23 [(0, A a0), (3, rf 0 0 3 x5), (4, I x4), (11, B (decide (x4 < (a0.length : Int))))] [sl 0 x5] ?_
 refine pc h (fun h => ?_) (fun h => ?_)
 refine pwp_skip ?_
 refine pwp_seq ?_
 refine pwp_block ?_
 refine rv 4 23 [(0, A a0), (3, rf 0 0 3 x5), (4, I x4), (14, rf 0 0 3 x5), (15, I x4), (16, A a0), (17, I x4)] [sl 0 x5] ?_
 obtain ⟨v9, hv10, h⟩ := bindS h
 refine opsP_idx τ_ok 18 hv10 (by kernel_rfl) ?_
 refine v 1 23 [(0, A a0), (3, rf 0 0 3 x5), (4, I x4), (14, rf 0 0 3 x5), (15, I x4), (19, E v9)] [sl 0 x5] ?_
 obtain ⟨v11, hv12, h⟩ := bindS h
 refine cF 20 (ok_laws_toValue hv12) ?_
 obtain ⟨v13, hv14, h⟩ := bindS h
 refine opsP_idr τ_ok 21 0 0 x5.length hv14 rfl (by kernel_rfl) ?_
 refine v 0 23 [(0, A a0), (3, rf 0 0 3 x5), (4, I x4), (20, E v11), (21, .ptr 0 0 (x4.toNat * 3))] [sl 0 x5] ?_
 refine opsP_ste (vs := [I v11.fKind, I v11.fN, S v11.fS]) τ_ok 81 0 0 0 v11 hv14 (by kernel_rfl) (by kernel_rfl) (by kernel_rfl) (renC trivial (renC (ren_ref (List.length_set ..).symm) (renC trivial (renC trivial (renC trivial renC0))))) ?_
 refine ve 0 23 [(0, A a0), (3, .ref 0 0 0 3 (x5.set x4.toNat v11).length false), (4, I x4)] [some ⟨0, eL (x5.set x4.toNat v11)⟩] ?_
 refine rve 23 [(0, A a0), (3, .ref 0 0 0 3 (x5.set x4.toNat v11).length false), (4, I (w64 (x4 + 1)))] [some ⟨0, eL (x5.set x4.toNat v11)⟩] ?_
 exact ⟨(f6, (w64 (x4 + 1)), (x5.set x4.toNat v11)), h, Nat.lt_succ_self _, it [0, 3, 4]⟩
 refine pwp_exit ?_
 refine srve 23 [(2, rf 0 0 3 x5)] [sl 0 x5] ?_
 have h := si h
 subst h
 exact pwp_ret (rt (rf 0 0 3 x5) (OutP.list (v := 0) (by kernel_rfl)))
def spec_ValueOk (a0 : T_impl_Value) : Option Bool := bif (a0.fKind == 0) then bif (a0.fN == 0) then some (a0.fS.toList == (ByteArray.mk #[]).toList) else some false else bif (a0.fKind == 1) then (spec_l1In a0.fN (-9999) 9999).bind fun v4 => bif v4 then some (a0.fS.toList == (ByteArray.mk #[]).toList) else some false else bif (a0.fKind == 2) then bif (a0.fN == 0) then (spec_l1Text a0.fS).bind fun v8 => some v8 else some false else bif (a0.fKind == 3) then (spec_l1In a0.fN 0 1).bind fun v12 => bif v12 then some (a0.fS.toList == (ByteArray.mk #[]).toList) else some false else some false
theorem ok_spec_ValueOk {a0 : T_impl_Value} {y : Bool} (h : spec_ValueOk a0 = some y) : OK Try.prog 128 [E a0] (B y) := by
 refine ow Try.func128 fun Γ hX => ?_
 unfold spec_ValueOk at h
 refine srve 45 [(1, pf a0 0)] [] ?_
 refine pwp_seq ?_
 refine srve 45 [(1, pf a0 0), (4, I a0.fKind)] [] ?_
 refine pwp_block ?_
 refine srve 45 [(1, pf a0 0), (4, I a0.fKind), (5, B (a0.fKind == 0))] [] ?_
 refine pc h (fun h => ?_) (fun h => ?_)
 refine srv 4 45 [(1, pf a0 0), (10, B (a0.fN == 0))] [] ?_
 rcases fk (a0.fN == 0) with hc2 | hc2
 replace h := bT hc2 h
 rw [hc2]
 refine ve 5 45 [(2, B (a0.fS.toList == (ByteArray.mk #[]).toList))] [] ?_
 cases h
 exact pwp_ret rz
 replace h := bF hc2 h
 rw [hc2]
 refine ve 5 45 [(2, B false)] [] ?_
 cases h
 exact pwp_ret rz
 refine srve 45 [(1, pf a0 0), (4, I a0.fKind), (15, B (a0.fKind == 1))] [] ?_
 refine pc h (fun h => ?_) (fun h => ?_)
 refine srv 2 45 [(1, pf a0 0), (18, I a0.fN)] [] ?_
 obtain ⟨v4, hv5, h⟩ := bindS h
 refine cF 19 (ok_spec_l1In hv5) ?_
 refine v 1 45 [(1, pf a0 0), (20, B v4)] [] ?_
 rcases Bool.eq_false_or_eq_true v4 with hc6 | hc6
 replace h := bT hc6 h
 rw [hc6]
 refine ve 5 45 [(2, B (a0.fS.toList == (ByteArray.mk #[]).toList))] [] ?_
 cases h
 exact pwp_ret rz
 replace h := bF hc6 h
 rw [hc6]
 refine ve 5 45 [(2, B false)] [] ?_
 cases h
 exact pwp_ret rz
 refine srve 45 [(1, pf a0 0), (4, I a0.fKind), (25, B (a0.fKind == 2))] [] ?_
 refine pc h (fun h => ?_) (fun h => ?_)
 refine srv 4 45 [(1, pf a0 0), (30, B (a0.fN == 0))] [] ?_
 rcases fk (a0.fN == 0) with hc10 | hc10
 replace h := bT hc10 h
 rw [hc10]
 refine v 2 45 [(30, B true), (32, S a0.fS)] [] ?_
 obtain ⟨v8, hv9, h⟩ := bindS h
 refine cF 33 (ok_spec_l1Text hv9) ?_
 refine ve 2 45 [(2, B v8)] [] ?_
 cases h
 exact pwp_ret rz
 replace h := bF hc10 h
 rw [hc10]
 refine ve 5 45 [(2, B false)] [] ?_
 cases h
 exact pwp_ret rz
 refine srve 45 [(1, pf a0 0), (35, B (a0.fKind == 3))] [] ?_
 refine pc h (fun h => ?_) (fun h => ?_)
 refine srv 2 45 [(1, pf a0 0), (38, I a0.fN)] [] ?_
 obtain ⟨v12, hv13, h⟩ := bindS h
 refine cF 39 (ok_spec_l1In hv13) ?_
 refine v 1 45 [(1, pf a0 0), (40, B v12)] [] ?_
 rcases Bool.eq_false_or_eq_true v12 with hc14 | hc14
 replace h := bT hc14 h
 rw [hc14]
 refine ve 5 45 [(2, B (a0.fS.toList == (ByteArray.mk #[]).toList))] [] ?_
 cases h
 exact pwp_ret rz
 replace h := bF hc14 h
 rw [hc14]
 refine ve 5 45 [(2, B false)] [] ?_
 cases h
 exact pwp_ret rz
 refine pwp_skip ?_
 refine srve 45 [(2, B false)] [] ?_
 cases h
 exact pwp_ret rz
def slices_rotateCmpFunc_impl_Version_l0 (a2 : Int) (a4 : T_impl_Version → T_impl_Version → Option Int) : Nat → Int → Int → (List T_impl_Version) → Option (List T_impl_Version)
 | 0, _, _, _ => none
 | f5 + 1, x2, x3, x4 => bif (!(x2 == x3)) then bif (decide (x2 > x3)) then (slices_swapRangeCmpFunc_impl_Version x4 (w64 (a2 - x2)) a2 x3 a4).bind fun v9 => (slices_rotateCmpFunc_impl_Version_l0 a2 a4 f5) (w64 (x2 - x3)) x3 v9 else (slices_swapRangeCmpFunc_impl_Version x4 (w64 (a2 - x2)) (w64 ((w64 (a2 + x3)) - x2)) x2 a4).bind fun v11 => (slices_rotateCmpFunc_impl_Version_l0 a2 a4 f5) x2 (w64 (x3 - x2)) v11 else (slices_swapRangeCmpFunc_impl_Version x4 (w64 (a2 - x2)) a2 x2 a4).bind fun v13 => some v13
def slices_rotateCmpFunc_impl_Version_w (a0 : List T_impl_Version) (a1 : Int) (a2 : Int) (a3 : Int) (a4 : T_impl_Version → T_impl_Version → Option Int) : Option (List T_impl_Version) := slices_rotateCmpFunc_impl_Version_l0 a2 a4 FUEL (w64 (a2 - a1)) (w64 (a3 - a2)) a0
def slices_rotateCmpFunc_impl_Version (a0 : List T_impl_Version) (a1 : Int) (a2 : Int) (a3 : Int) (a4 : T_impl_Version → T_impl_Version → Option Int) : Option (List T_impl_Version) := (slices_rotateCmpFunc_impl_Version_w a0 a1 a2 a3 a4).bind fun y => bif (y.length == a0.length) then some y else none
theorem len_slices_rotateCmpFunc_impl_Version {a0 : List T_impl_Version} {a1 : Int} {a2 : Int} {a3 : Int} {a4 : T_impl_Version → T_impl_Version → Option Int} {y : List T_impl_Version} (h : slices_rotateCmpFunc_impl_Version a0 a1 a2 a3 a4 = some y) : y.length = a0.length := (bindLen (f := fun y : List T_impl_Version => y) h).2
theorem ok_slices_rotateCmpFunc_impl_Version {a0 : List T_impl_Version} {a1 : Int} {a2 : Int} {a3 : Int} {g4 : FuncId} {c4 : List V} (hz4 : frzL c4 = true) {a4 : T_impl_Version → T_impl_Version → Option Int} (hp4 : ∀ x0 x1 y, a4 x0 x1 = some y → OK Try.prog g4 ([E x0, E x1] ++ c4) (I y)) {y : List T_impl_Version} (h : slices_rotateCmpFunc_impl_Version a0 a1 a2 a3 a4 = some y) : OKs Try.prog 139 [] 4 a0.length (eL a0) [I a1, I a2, I a3, .fn g4 c4] (.tup []) (eL y) := by
 refine OKs_of_pwp τ_ok Try.func139 rfl (by kernel_rfl) rfl (eL_frz _) (eL_frz _) (by rw [eL_len, eL_len, len_slices_rotateCmpFunc_impl_Version h]) fun Γ hQ => ?_
 refine pwp_imp (Imp.to (st' := ⟨58, [(0, rf 0 0 4 a0), (1, I a1), (2, I a2), (3, I a3), (4, .fn g4 c4)], [sl 0 a0]⟩) [0, 1, 2, 3, 4] (by kernel_rfl)) ?_
 have h := (bindLen (f := fun y : List T_impl_Version => y) h).1
 unfold slices_rotateCmpFunc_impl_Version_w at h
 refine srve 58 [(0, rf 0 0 4 a0), (2, I a2), (3, I a3), (4, .fn g4 c4), (10, I (w64 (a2 - a1)))] [sl 0 a0] ?_
 refine srve 58 [(0, rf 0 0 4 a0), (2, I a2), (4, .fn g4 c4), (10, I (w64 (a2 - a1))), (11, I (w64 (a3 - a2)))] [sl 0 a0] ?_
 refine pwp_seq ?_
 refine pwp_block ?_
 refine pwp_loop (ι := Nat × Int × Int × (List T_impl_Version)) (fun (f5, x2, x3, x4) => (⟨58, [(0, rf 0 0 4 x4), (2, I a2), (4, .fn g4 c4), (10, I x2), (11, I x3)], [sl 0 x4]⟩ : St)) (fun (f5, x2, x3, x4) => slices_rotateCmpFunc_impl_Version_l0 a2 a4 f5 x2 x3 x4 = some y) Prod.fst (FUEL, (w64 (a2 - a1)), (w64 (a3 - a2)), a0) h (it [0, 2, 4, 10, 11]) ?_
 rintro ⟨f5, x2, x3, x4⟩ h
 dsimp only at h ⊢
 rcases f5 with _ | f5
 cases h
 rw [slices_rotateCmpFunc_impl_Version_l0] at h
 refine pwp_seq ?_
 refine srve 58 [(0, rf 0 0 4 x4), (2, I a2), (4, .fn g4 c4), (10, I x2), (11, I x3), (20, B (!(x2 == x3)))] [sl 0 x4] ?_
 refine pc h (fun h => ?_) (fun h => ?_)
 refine pwp_skip ?_
 refine pwp_block ?_
 refine srve 58 [(0, rf 0 0 4 x4), (2, I a2), (4, .fn g4 c4), (10, I x2), (11, I x3), (23, B (decide (x2 > x3)))] [sl 0 x4] ?_
 refine pc h (fun h => ?_) (fun h => ?_)
 refine srv 7 58 [(0, rf 0 0 4 x4), (2, I a2), (4, .fn g4 c4), (10, I x2), (11, I x3), (24, rf 0 0 4 x4), (27, I (w64 (a2 - x2))), (28, I a2), (29, I x3), (30, .fn g4 c4)] [sl 0 x4] ?_
 obtain ⟨v9, hv10, h⟩ := bindS h
 refine opsP_E (dd := some 31) (x := .tup []) (callS_E τ 31 0 0 (ok_slices_swapRangeCmpFunc_impl_Version (hz4) (hp4) hv10) (FzTo.tup FzToL.nil) rfl (by simp only [frzL, frz, hz4, Bool.and_true]) (by kernel_rfl)) ?_
 refine io 58 [(0, rf 0 0 4 x4), (2, I a2), (4, .fn g4 c4), (10, I x2), (11, I x3), (24, rf 0 0 4 x4), (27, I (w64 (a2 - x2))), (28, I a2), (29, I x3), (30, .fn g4 c4), (31, .tup [])] [sl 0 v9] ?_
 refine opsP_ren (st' := ⟨58, [(0, rf 0 0 4 v9), (2, I a2), (4, .fn g4 c4), (10, I x2), (11, I x3), (24, rf 0 0 4 v9), (27, I (w64 (a2 - x2))), (28, I a2), (29, I x3), (30, .fn g4 c4), (31, .tup [])], [sl 0 v9]⟩) 0 v9.length (renC (ren_ref (len_slices_swapRangeCmpFunc_impl_Version hv10).symm) (renC trivial (renC trivial (renC trivial (renC trivial (renC (ren_ref (len_slices_swapRangeCmpFunc_impl_Version hv10).symm) (renC trivial (renC trivial (renC trivial (renC trivial (renC trivial renC0))))))))))) (by kernel_rfl) ?_
 refine ve 0 58 [(0, rf 0 0 4 v9), (2, I a2), (4, .fn g4 c4), (10, I x2), (11, I x3)] [sl 0 v9] ?_
 refine rve 58 [(0, rf 0 0 4 v9), (2, I a2), (4, .fn g4 c4), (10, I (w64 (x2 - x3))), (11, I x3)] [sl 0 v9] ?_
 exact ⟨(f5, (w64 (x2 - x3)), x3, v9), h, Nat.lt_succ_self _, it [0, 2, 4, 10, 11]⟩
 refine srv 11 58 [(0, rf 0 0 4 x4), (2, I a2), (4, .fn g4 c4), (10, I x2), (11, I x3), (35, rf 0 0 4 x4), (38, I (w64 (a2 - x2))), (43, I (w64 ((w64 (a2 + x3)) - x2))), (44, I x2), (45, .fn g4 c4)] [sl 0 x4] ?_
 obtain ⟨v11, hv12, h⟩ := bindS h
 refine opsP_E (dd := some 46) (x := .tup []) (callS_E τ 46 0 0 (ok_slices_swapRangeCmpFunc_impl_Version (hz4) (hp4) hv12) (FzTo.tup FzToL.nil) rfl (by simp only [frzL, frz, hz4, Bool.and_true]) (by kernel_rfl)) ?_
 refine io 58 [(0, rf 0 0 4 x4), (2, I a2), (4, .fn g4 c4), (10, I x2), (11, I x3), (35, rf 0 0 4 x4), (38, I (w64 (a2 - x2))), (43, I (w64 ((w64 (a2 + x3)) - x2))), (44, I x2), (45, .fn g4 c4), (46, .tup [])] [sl 0 v11] ?_
 refine opsP_ren (st' := ⟨58, [(0, rf 0 0 4 v11), (2, I a2), (4, .fn g4 c4), (10, I x2), (11, I x3), (35, rf 0 0 4 v11), (38, I (w64 (a2 - x2))), (43, I (w64 ((w64 (a2 + x3)) - x2))), (44, I x2), (45, .fn g4 c4), (46, .tup [])], [sl 0 v11]⟩) 0 v11.length (renC (ren_ref (len_slices_swapRangeCmpFunc_impl_Version hv12).symm) (renC trivial (renC trivial (renC trivial (renC trivial (renC (ren_ref (len_slices_swapRangeCmpFunc_impl_Version hv12).symm) (renC trivial (renC trivial (renC trivial (renC trivial (renC trivial renC0))))))))))) (by kernel_rfl) ?_
 refine ve 0 58 [(0, rf 0 0 4 v11), (2, I a2), (4, .fn g4 c4), (10, I x2), (11, I x3)] [sl 0 v11] ?_
 refine rve 58 [(0, rf 0 0 4 v11), (2, I a2), (4, .fn g4 c4), (10, I x2), (11, I (w64 (x3 - x2)))] [sl 0 v11] ?_
 exact ⟨(f5, x2, (w64 (x3 - x2)), v11), h, Nat.lt_succ_self _, it [0, 2, 4, 10, 11]⟩
 refine pwp_exit ?_
 refine rv 7 58 [(50, rf 0 0 4 x4), (53, I (w64 (a2 - x2))), (54, I a2), (55, I x2), (56, .fn g4 c4)] [sl 0 x4] ?_
 obtain ⟨v13, hv14, h⟩ := bindS h
 refine opsP_E (dd := some 57) (x := .tup []) (callS_E τ 57 0 0 (ok_slices_swapRangeCmpFunc_impl_Version (hz4) (hp4) hv14) (FzTo.tup FzToL.nil) rfl (by simp only [frzL, frz, hz4, Bool.and_true]) (by kernel_rfl)) ?_
 refine io 58 [(50, rf 0 0 4 x4), (53, I (w64 (a2 - x2))), (54, I a2), (55, I x2), (56, .fn g4 c4), (57, .tup [])] [sl 0 v13] ?_
 refine opsP_ren (st' := ⟨58, [(50, rf 0 0 4 v13), (53, I (w64 (a2 - x2))), (54, I a2), (55, I x2), (56, .fn g4 c4), (57, .tup [])], [sl 0 v13]⟩) 0 v13.length (renC (ren_ref (len_slices_swapRangeCmpFunc_impl_Version hv14).symm) (renC trivial (renC trivial (renC trivial (renC trivial (renC trivial renC0)))))) (by kernel_rfl) ?_
 refine ve 0 58 [] [sl 0 v13] ?_
 have h := si h
 subst h
 first | exact ⟨.inl rfl, .tup [], _, 0, by kernel_rfl, (OutP.tup (OutL.nil _)), by decide, by decide, by kernel_rfl⟩ | exact pwp_ret ⟨.inr rfl, .tup [], _, 0, by kernel_rfl, (OutP.tup (OutL.nil _)), by decide, by decide, by kernel_rfl⟩
def laws_eqValueSS_l0 (a0 : List (List T_impl_Value)) (a1 : List (List T_impl_Value)) : Nat → Int → Option Bool
 | 0, _ => none
 | f3 + 1, x2 => bif (decide (x2 < (a0.length : Int))) then (getI a0 x2).bind fun v6 => (getI a1 x2).bind fun v8 => (laws_eqValueS v6 v8).bind fun v10 => bif (!v10) then some false else (laws_eqValueSS_l0 a0 a1 f3) (w64 (x2 + 1)) else some true
def laws_eqValueSS (a0 : List (List T_impl_Value)) (a1 : List (List T_impl_Value)) : Option Bool := bif (!((a0.length : Int) == (a1.length : Int))) then some false else laws_eqValueSS_l0 a0 a1 FUEL 0
theorem ok_laws_eqValueSS {a0 : List (List T_impl_Value)} {a1 : List (List T_impl_Value)} {y : Bool} (h : laws_eqValueSS a0 a1 = some y) : OK Try.prog 40 [A a0, A a1] (B y) := by
 refine ow Try.func40 fun Γ hX => ?_
 unfold laws_eqValueSS at h
 refine srve 27 [(0, A a0), (1, A a1)] [] ?_
 refine pwp_seq ?_
 refine srve 27 [(0, A a0), (1, A a1), (10, B (!((a0.length : Int) == (a1.length : Int))))] [] ?_
 refine pc h (fun h => ?_) (fun h => ?_)
 refine srve 27 [(4, B false)] [] ?_
 cases h
 exact pwp_ret rz
 refine pwp_skip ?_
 refine pwp_seq ?_
 refine srve 27 [(0, A a0), (1, A a1), (5, I 0)] [] ?_
 refine pwp_block ?_
 refine pwp_loop (ι := Nat × Int) (fun (f3, x2) => (⟨27, [(0, A a0), (1, A a1), (5, I x2)], []⟩ : St)) (fun (f3, x2) => laws_eqValueSS_l0 a0 a1 f3 x2 = some y) Prod.fst (FUEL, 0) h (it [0, 1, 5]) ?_
 rintro ⟨f3, x2⟩ h
 dsimp only at h ⊢
 rcases f3 with _ | f3
 cases h
 rw [laws_eqValueSS_l0] at h
 refine pwp_seq ?_
 refine srve 27 [(0, A a0), (1, A a1), (5, I x2), (14, B (decide (x2 < (a0.length : Int))))] [] ?_
 refine pc h (fun h => ?_) (fun h => ?_)
 refine pwp_skip ?_
 refine pwp_seq ?_
 refine pwp_block ?_
 refine pwp_seq ?_
 refine ip 27 [(0, A a0), (1, A a1), (5, I x2)] [] ?_
 refine pN 10 ?_
 refine qv [] trivial 2 27 [(18, I x2), (17, A a0), (0, A a0), (1, A a1), (5, I x2)] [] ?_
 obtain ⟨v6, hv7, h⟩ := bindS h
 refine qX (some 19) (pf v6 0) 27 [(19, pf v6 0), (0, A a0), (1, A a1), (5, I x2)] [] (fun Γ' hΓ => CoreE.of_y (idxV_sound τ_ok (by kernel_rfl) hv7)) trivial ?_
 refine qv [] trivial 3 27 [(22, I x2), (21, A a1), (20, A v6), (0, A a0), (1, A a1), (5, I x2)] [] ?_
 obtain ⟨v8, hv9, h⟩ := bindS h
 refine qX (some 23) (pf v8 0) 27 [(23, pf v8 0), (20, A v6), (0, A a0), (1, A a1), (5, I x2)] [] (fun Γ' hΓ => CoreE.of_y (idxV_sound τ_ok (by kernel_rfl) hv9)) trivial ?_
 refine qv [] trivial 1 27 [(24, A v8), (20, A v6), (0, A a0), (1, A a1), (5, I x2)] [] ?_
 obtain ⟨v10, hv11, h⟩ := bindS h
 refine qX (some 25) (B v10) 27 [(25, B v10), (0, A a0), (1, A a1), (5, I x2)] [] (fun Γ' hΓ => CoreE.of_g (callV_sound (τ := τ) (by kernel_rfl) rfl (ok_laws_eqValueS hv11) (FzTo.frz rfl))) trivial ?_
 refine qvn [] trivial 1 27 [(0, A a0), (1, A a1), (5, I x2), (26, B (!v10))] [] ?_
 refine pc h (fun h => ?_) (fun h => ?_)
 refine srve 27 [(4, B false)] [] ?_
 cases h
 exact pwp_ret rz
 refine pwp_skip ?_
 refine rve 27 [(0, A a0), (1, A a1), (5, I (w64 (x2 + 1)))] [] ?_
 exact ⟨(f3, (w64 (x2 + 1))), h, Nat.lt_succ_self _, it [0, 1, 5]⟩
 refine pwp_exit ?_
 refine srve 27 [(4, B true)] [] ?_
 cases h
 exact pwp_ret rz
def laws_markValueSS_l0 : Nat → Int → Int → (List (List T_impl_Value)) → Option (Int × List (List T_impl_Value))
 | 0, _, _, _ => none
 | f5 + 1, x2, x3, x4 => bif (decide (x3 < (x4.length : Int))) then (getI x4 x3).bind fun v8 => (laws_markValueS v8 x2).bind fun v10 => (laws_markValueSS_l0 f5) v10.1 (w64 (x3 + 1)) (x4.set x3.toNat v10.2) else some (x2, x4)
def laws_markValueSS (a0 : List (List T_impl_Value)) (a1 : Int) : Option (Int × List (List T_impl_Value)) := laws_markValueSS_l0 FUEL a1 0 a0
theorem len_laws_markValueSS_l0 : ∀ (f5 : Nat) (x2 : Int) (x3 : Int) (x4 : List (List T_impl_Value)) (y : Int × List (List T_impl_Value)), laws_markValueSS_l0 f5 x2 x3 x4 = some y → y.2.length = x4.length
 | 0, _, _, _, _, h => by cases h
 | f5 + 1, x2, x3, x4, y, h => by
  rw [laws_markValueSS_l0] at h
  rcases condS h with h | h
  ·obtain ⟨_, _, h⟩ := bindS h
   obtain ⟨_, _, h⟩ := bindS h
   have h2 := len_laws_markValueSS_l0 f5 _ _ _ _ h
   simp only [List.length_set] at h2
   exact h2
  ·cases h; rfl
theorem len_laws_markValueSS {a0 : List (List T_impl_Value)} {a1 : Int} {y : Int × List (List T_impl_Value)} (h : laws_markValueSS a0 a1 = some y) : y.2.length = a0.length := by
 unfold laws_markValueSS at h
 exact len_laws_markValueSS_l0 _ _ _ _ _ h
theorem ok_laws_markValueSS {a0 : List (List T_impl_Value)} {a1 : Int} {y : Int × List (List T_impl_Value)} (h : laws_markValueSS a0 a1 = some y) : OKd Try.prog 41 1 a0.length (dL a0) [I a1] (.int .i64 y.1) (dL y.2) := by
 refine OKd_of_pwp τ_ok Try.func41 rfl (by kernel_rfl) rfl (dL_oc _) (dL_oc _) (dL_bl _) (dL_bl _) rfl (fun hl => by rw [dL_len, len_laws_markValueSS h, ← dL_len]; exact hl) fun Γ hQ => ?_
 refine pwp_imp (Imp.to (st' := ⟨19, [(0, rf 0 0 1 a0), (1, I a1)], [some ⟨0, dL a0⟩]⟩) [0, 1] (by kernel_rfl)) ?_
 unfold laws_markValueSS at h
 refine srve 19 [(0, rf 0 0 1 a0), (1, I a1)] [some ⟨0, dL a0⟩] ?_
 refine pwp_seq ?_
 refine srve 19 [(0, rf 0 0 1 a0), (1, I a1), (5, I 0)] [some ⟨0, dL a0⟩] ?_
 refine pwp_block ?_
 refine pwp_loop (ι := Nat × Int × Int × (List (List T_impl_Value))) (fun (f5, x2, x3, x4) => (⟨19, [(0, rf 0 0 1 x4), (1, I x2), (5, I x3)], [some ⟨0, dL x4⟩]⟩ : St)) (fun (f5, x2, x3, x4) => laws_markValueSS_l0 f5 x2 x3 x4 = some y) Prod.fst (FUEL, a1, 0, a0) h (it [0, 1, 5]) ?_
 rintro ⟨f5, x2, x3, x4⟩ h
 dsimp only at h ⊢
 rcases f5 with _ | f5
 cases h
 rw [laws_markValueSS_l0] at h
 refine pwp_seq ?_
 refine srve 19 [(0, rf 0 0 1 x4), (1, I x2), (5, I x3), (9, B (decide (x3 < (x4.length : Int))))] [some ⟨0, dL x4⟩] ?_
 refine pc h (fun h => ?_) (fun h => ?_)
 refine pwp_skip ?_
 refine pwp_seq ?_
 refine pwp_block ?_
 refine rv 2 19 [(0, rf 0 0 1 x4), (1, I x2), (5, I x3), (12, rf 0 0 1 x4), (13, I x3)] [some ⟨0, dL x4⟩] ?_
 obtain ⟨v8, hv9, h⟩ := bindS h
 refine opsP_idr τ_ok 14 0 0 x4.length hv9 rfl (by kernel_rfl) ?_
 refine io 19 [(0, rf 0 0 1 x4), (1, I x2), (5, I x3), (12, rf 0 0 1 x4), (13, I x3), (14, .ptr 0 0 (x3.toNat * 1))] [some ⟨0, dL x4⟩] ?_
 refine opsP_imp (Imp.ghosts 1 (st' := ⟨19, [(0, rf 0 0 1 x4), (1, I x2), (5, I x3), (12, rf 0 0 1 x4), (13, I x3), (14, .ptr 0 0 (x3.toNat * 1))], [some ⟨0, dL x4⟩, some ⟨0, []⟩]⟩) (by kernel_rfl)) ?_
 refine opsP_E (dd := some 15) (x := rf 1 1 3 v8) (CoreE.pre (H1 := [some ⟨0, setL (dL x4) (x3.toNat * 1 + 0) [rf 1 1 3 v8]⟩, sl 1 v8]) (HStep.openL (cs0 := []) (xs := x4) (s := 3) (n := v8.length) (f := false) (cs := eL v8) 0 0 1 0 0 hv9 (by kernel_rfl) (by kernel_rfl) (by kernel_rfl) (by kernel_rfl) (by decide) (by first | exact pn hQ | exact pk hQ) (by kernel_rfl)) (ldo_E (xs := x4) τ_ok 15 73 0 hv9 (by kernel_rfl) (by kernel_rfl) (by kernel_rfl))) ?_
 refine v 1 19 [(0, rf 0 0 1 x4), (5, I x3), (15, rf 1 1 3 v8), (16, I x2)] [some ⟨0, setL (dL x4) (x3.toNat * 1 + 0) [rf 1 1 3 v8]⟩, sl 1 v8] ?_
 obtain ⟨v10, hv11, h⟩ := bindS h
 refine opsP_E (dd := some 17) (x := I v10.1) ((callD_E τ 17 1 1 (ok_laws_markValueS hv11) (by kernel_rfl)).then (H2 := [some ⟨0, dL (x4.set x3.toNat v10.2)⟩, some ⟨2, []⟩]) (HStep.nestL (xs := x4) (vs := [rf 1 1 3 v8]) 0 0 0 v10.2 hv9 (by kernel_rfl) (OutL.cons (OutP.listn (v := 1) (xs := v10.2) (len_laws_markValueS hv11) (by kernel_rfl)) (OutL.nil _)) (by decide) (by decide) (by first | exact pn hQ | exact pk hQ) (by kernel_rfl) (by kernel_rfl) (by kernel_rfl) (by kernel_rfl))) ?_
 refine io 19 [(0, rf 0 0 1 x4), (5, I x3), (16, I x2), (17, I v10.1)] [some ⟨0, dL (x4.set x3.toNat v10.2)⟩, some ⟨2, []⟩] ?_
 refine opsP_ren (st' := ⟨19, [(0, .ref 0 0 0 1 (x4.set x3.toNat v10.2).length false), (5, I x3), (16, I x2), (17, I v10.1)], [some ⟨0, dL (x4.set x3.toNat v10.2)⟩, some ⟨2, []⟩]⟩) 0 (x4.set x3.toNat v10.2).length (renC (ren_ref (List.length_set ..).symm) (renC trivial (renC trivial (renC trivial renC0)))) (by kernel_rfl) ?_
 refine ve 1 19 [(0, .ref 0 0 0 1 (x4.set x3.toNat v10.2).length false), (1, I v10.1), (5, I x3)] [some ⟨0, dL (x4.set x3.toNat v10.2)⟩, some ⟨2, []⟩] ?_
 refine rve 19 [(0, .ref 0 0 0 1 (x4.set x3.toNat v10.2).length false), (1, I v10.1), (5, I (w64 (x3 + 1)))] [some ⟨0, dL (x4.set x3.toNat v10.2)⟩, some ⟨2, []⟩] ?_
 exact ⟨(f5, v10.1, (w64 (x3 + 1)), (x4.set x3.toNat v10.2)), h, Nat.lt_succ_self _, (it (st' := ⟨19, [(0, .ref 0 0 0 1 (x4.set x3.toNat v10.2).length false), (1, I v10.1), (5, I (w64 (x3 + 1)))], [some ⟨0, dL (x4.set x3.toNat v10.2)⟩, some ⟨2, []⟩]⟩) [0, 1, 5]).trans (Imp.truncS 1 (pl hQ) (by kernel_rfl) (allBelow_mem (by exact (And.intro rfl (And.intro rfl (And.intro rfl trivial))))) (by exact (And.intro (dL_below _ _) trivial)) (by kernel_rfl))⟩
 refine pwp_exit ?_
 refine srve 19 [(4, I x2)] [some ⟨0, dL x4⟩] ?_
 have h := si h
 subst h
 exact pwp_ret ⟨.inr rfl, 0, by kernel_rfl, by kernel_rfl⟩
def laws_heldValueSS_l0 (a0 : List (List T_impl_Value)) : Nat → Int → Int → Option Int
 | 0, _, _ => none
 | f3 + 1, x1, x2 => bif (decide (x2 < (a0.length : Int))) then (getI a0 x2).bind fun v6 => (laws_heldValueS v6 x1).bind fun v8 => bif (decide (v8 < 0)) then some (-1) else (laws_heldValueSS_l0 a0 f3) v8 (w64 (x2 + 1)) else some x1
def laws_heldValueSS (a0 : List (List T_impl_Value)) (a1 : Int) : Option Int := laws_heldValueSS_l0 a0 FUEL a1 0
theorem ok_laws_heldValueSS {a0 : List (List T_impl_Value)} {a1 : Int} {y : Int} (h : laws_heldValueSS a0 a1 = some y) : OK Try.prog 42 [A a0, I a1] (I y) := by
 refine ow Try.func42 fun Γ hX => ?_
 unfold laws_heldValueSS at h
 refine srve 21 [(0, A a0), (1, I a1)] [] ?_
 refine pwp_seq ?_
 refine srve 21 [(0, A a0), (1, I a1), (5, I 0)] [] ?_
 refine pwp_block ?_
 refine pwp_loop (ι := Nat × Int × Int) (fun (f3, x1, x2) => (⟨21, [(0, A a0), (1, I x1), (5, I x2)], []⟩ : St)) (fun (f3, x1, x2) => laws_heldValueSS_l0 a0 f3 x1 x2 = some y) Prod.fst (FUEL, a1, 0) h (it [0, 1, 5]) ?_
 rintro ⟨f3, x1, x2⟩ h
 dsimp only at h ⊢
 rcases f3 with _ | f3
 cases h
 rw [laws_heldValueSS_l0] at h
 refine pwp_seq ?_
 refine srve 21 [(0, A a0), (1, I x1), (5, I x2), (9, B (decide (x2 < (a0.length : Int))))] [] ?_
 refine pc h (fun h => ?_) (fun h => ?_)
 refine pwp_skip ?_
 refine pwp_seq ?_
 refine pwp_block ?_
 refine srv 2 21 [(0, A a0), (1, I x1), (5, I x2), (12, A a0), (13, I x2)] [] ?_
 obtain ⟨v6, hv7, h⟩ := bindS h
 refine opsP_idx τ_ok 14 hv7 (by kernel_rfl) ?_
 refine v 2 21 [(0, A a0), (5, I x2), (15, A v6), (16, I x1)] [] ?_
 obtain ⟨v8, hv9, h⟩ := bindS h
 refine cF 17 (ok_laws_heldValueS hv9) ?_
 refine ve 1 21 [(0, A a0), (1, I v8), (5, I x2)] [] ?_
 refine srve 21 [(0, A a0), (1, I v8), (5, I x2), (19, B (decide (v8 < 0)))] [] ?_
 refine pc h (fun h => ?_) (fun h => ?_)
 refine srve 21 [(4, I (-1))] [] ?_
 cases h
 exact pwp_ret rz
 refine pwp_skip ?_
 refine rve 21 [(0, A a0), (1, I v8), (5, I (w64 (x2 + 1)))] [] ?_
 exact ⟨(f3, v8, (w64 (x2 + 1))), h, Nat.lt_succ_self _, it [0, 1, 5]⟩
 refine pwp_exit ?_
 refine srve 21 [(4, I x1)] [] ?_
 cases h
 exact pwp_ret rz
def laws_eqWriteS_l0 (a0 : List T_impl_Write) (a1 : List T_impl_Write) : Nat → Int → Option Bool
 | 0, _ => none
 | f3 + 1, x2 => bif (decide (x2 < (a0.length : Int))) then (getI a0 x2).bind fun v6 => (getI a1 x2).bind fun v8 => (laws_eqWrite v6 v8).bind fun v10 => bif (!v10) then some false else (laws_eqWriteS_l0 a0 a1 f3) (w64 (x2 + 1)) else some true
def laws_eqWriteS (a0 : List T_impl_Write) (a1 : List T_impl_Write) : Option Bool := bif (!((a0.length : Int) == (a1.length : Int))) then some false else laws_eqWriteS_l0 a0 a1 FUEL 0
theorem ok_laws_eqWriteS {a0 : List T_impl_Write} {a1 : List T_impl_Write} {y : Bool} (h : laws_eqWriteS a0 a1 = some y) : OK Try.prog 63 [A a0, A a1] (B y) := by
 refine ow Try.func63 fun Γ hX => ?_
 unfold laws_eqWriteS at h
 refine srve 27 [(0, A a0), (1, A a1)] [] ?_
 refine pwp_seq ?_
 refine srve 27 [(0, A a0), (1, A a1), (10, B (!((a0.length : Int) == (a1.length : Int))))] [] ?_
 refine pc h (fun h => ?_) (fun h => ?_)
 refine srve 27 [(4, B false)] [] ?_
 cases h
 exact pwp_ret rz
 refine pwp_skip ?_
 refine pwp_seq ?_
 refine srve 27 [(0, A a0), (1, A a1), (5, I 0)] [] ?_
 refine pwp_block ?_
 refine pwp_loop (ι := Nat × Int) (fun (f3, x2) => (⟨27, [(0, A a0), (1, A a1), (5, I x2)], []⟩ : St)) (fun (f3, x2) => laws_eqWriteS_l0 a0 a1 f3 x2 = some y) Prod.fst (FUEL, 0) h (it [0, 1, 5]) ?_
 rintro ⟨f3, x2⟩ h
 dsimp only at h ⊢
 rcases f3 with _ | f3
 cases h
 rw [laws_eqWriteS_l0] at h
 refine pwp_seq ?_
 refine srve 27 [(0, A a0), (1, A a1), (5, I x2), (14, B (decide (x2 < (a0.length : Int))))] [] ?_
 refine pc h (fun h => ?_) (fun h => ?_)
 refine pwp_skip ?_
 refine pwp_seq ?_
 refine pwp_block ?_
 refine pwp_seq ?_
 refine ip 27 [(0, A a0), (1, A a1), (5, I x2)] [] ?_
 refine pN 10 ?_
 refine qv [] trivial 2 27 [(18, I x2), (17, A a0), (0, A a0), (1, A a1), (5, I x2)] [] ?_
 obtain ⟨v6, hv7, h⟩ := bindS h
 refine qX (some 19) (pf v6 0) 27 [(19, pf v6 0), (0, A a0), (1, A a1), (5, I x2)] [] (fun Γ' hΓ => CoreE.of_y (idxV_sound τ_ok (by kernel_rfl) hv7)) trivial ?_
 refine qv [] trivial 3 27 [(22, I x2), (21, A a1), (20, E v6), (0, A a0), (1, A a1), (5, I x2)] [] ?_
 obtain ⟨v8, hv9, h⟩ := bindS h
 refine qX (some 23) (pf v8 0) 27 [(23, pf v8 0), (20, E v6), (0, A a0), (1, A a1), (5, I x2)] [] (fun Γ' hΓ => CoreE.of_y (idxV_sound τ_ok (by kernel_rfl) hv9)) trivial ?_
 refine qv [] trivial 1 27 [(24, E v8), (20, E v6), (0, A a0), (1, A a1), (5, I x2)] [] ?_
 obtain ⟨v10, hv11, h⟩ := bindS h
 refine qX (some 25) (B v10) 27 [(25, B v10), (0, A a0), (1, A a1), (5, I x2)] [] (fun Γ' hΓ => CoreE.of_g (callV_sound (τ := τ) (by kernel_rfl) rfl (ok_laws_eqWrite hv11) (FzTo.frz rfl))) trivial ?_
 refine qvn [] trivial 1 27 [(0, A a0), (1, A a1), (5, I x2), (26, B (!v10))] [] ?_
 refine pc h (fun h => ?_) (fun h => ?_)
 refine srve 27 [(4, B false)] [] ?_
 cases h
 exact pwp_ret rz
 refine pwp_skip ?_
 refine rve 27 [(0, A a0), (1, A a1), (5, I (w64 (x2 + 1)))] [] ?_
 exact ⟨(f3, (w64 (x2 + 1))), h, Nat.lt_succ_self _, it [0, 1, 5]⟩
 refine pwp_exit ?_
 refine srve 27 [(4, B true)] [] ?_
 cases h
 exact pwp_ret rz
def laws_markWriteS_l0 : Nat → Int → Int → (List T_impl_Write) → Option (Int × List T_impl_Write)
 | 0, _, _, _ => none
 | f5 + 1, x2, x3, x4 => bif (decide (x3 < (x4.length : Int))) then (getI x4 x3).bind fun v8 => (getI (x4.set x3.toNat ({ v8 with fKey := x2 } : T_impl_Write)) x3).bind fun v10 => (laws_markValueS v10.fRow (w64 (x2 + 1))).bind fun v12 => (getI ((x4.set x3.toNat ({ v8 with fKey := x2 } : T_impl_Write)).set x3.toNat ({ v10 with fRow := v12.2 } : T_impl_Write)) x3).bind fun v14 => (laws_markWriteS_l0 f5) (w64 (v12.1 + 1)) (w64 (x3 + 1)) (((x4.set x3.toNat ({ v8 with fKey := x2 } : T_impl_Write)).set x3.toNat ({ v10 with fRow := v12.2 } : T_impl_Write)).set x3.toNat ({ v14 with fGone := ((v12.1.tmod 3) == 0) } : T_impl_Write)) else some (x2, x4)
def laws_markWriteS (a0 : List T_impl_Write) (a1 : Int) : Option (Int × List T_impl_Write) := laws_markWriteS_l0 FUEL a1 0 a0
theorem len_laws_markWriteS_l0 : ∀ (f5 : Nat) (x2 : Int) (x3 : Int) (x4 : List T_impl_Write) (y : Int × List T_impl_Write), laws_markWriteS_l0 f5 x2 x3 x4 = some y → y.2.length = x4.length
 | 0, _, _, _, _, h => by cases h
 | f5 + 1, x2, x3, x4, y, h => by
  rw [laws_markWriteS_l0] at h
  rcases condS h with h | h
  ·obtain ⟨_, _, h⟩ := bindS h
   obtain ⟨_, _, h⟩ := bindS h
   obtain ⟨_, _, h⟩ := bindS h
   obtain ⟨_, _, h⟩ := bindS h
   have h2 := len_laws_markWriteS_l0 f5 _ _ _ _ h
   simp only [List.length_set] at h2
   exact h2
  ·cases h; rfl
theorem len_laws_markWriteS {a0 : List T_impl_Write} {a1 : Int} {y : Int × List T_impl_Write} (h : laws_markWriteS a0 a1 = some y) : y.2.length = a0.length := by
 unfold laws_markWriteS at h
 exact len_laws_markWriteS_l0 _ _ _ _ _ h
theorem ok_laws_markWriteS {a0 : List T_impl_Write} {a1 : Int} {y : Int × List T_impl_Write} (h : laws_markWriteS a0 a1 = some y) : OKd Try.prog 64 3 a0.length (dL a0) [I a1] (.int .i64 y.1) (dL y.2) := by
 refine OKd_of_pwp τ_ok Try.func64 rfl (by kernel_rfl) rfl (dL_oc _) (dL_oc _) (dL_bl _) (dL_bl _) rfl (fun hl => by rw [dL_len, len_laws_markWriteS h, ← dL_len]; exact hl) fun Γ hQ => ?_
 refine pwp_imp (Imp.to (st' := ⟨36, [(0, rf 0 0 3 a0), (1, I a1)], [some ⟨0, dL a0⟩]⟩) [0, 1] (by kernel_rfl)) ?_
 unfold laws_markWriteS at h
 refine srve 36 [(0, rf 0 0 3 a0), (1, I a1)] [some ⟨0, dL a0⟩] ?_
 refine pwp_seq ?_
 refine srve 36 [(0, rf 0 0 3 a0), (1, I a1), (5, I 0)] [some ⟨0, dL a0⟩] ?_
 refine pwp_block ?_
 refine pwp_loop (ι := Nat × Int × Int × (List T_impl_Write)) (fun (f5, x2, x3, x4) => (⟨36, [(0, rf 0 0 3 x4), (1, I x2), (5, I x3)], [some ⟨0, dL x4⟩]⟩ : St)) (fun (f5, x2, x3, x4) => laws_markWriteS_l0 f5 x2 x3 x4 = some y) Prod.fst (FUEL, a1, 0, a0) h (it [0, 1, 5]) ?_
 rintro ⟨f5, x2, x3, x4⟩ h
 dsimp only at h ⊢
 rcases f5 with _ | f5
 cases h
 rw [laws_markWriteS_l0] at h
 refine pwp_seq ?_
 refine srve 36 [(0, rf 0 0 3 x4), (1, I x2), (5, I x3), (9, B (decide (x3 < (x4.length : Int))))] [some ⟨0, dL x4⟩] ?_
 refine pc h (fun h => ?_) (fun h => ?_)
 refine pwp_skip ?_
 refine pwp_seq ?_
 refine pwp_block ?_
 refine srv 3 36 [(0, rf 0 0 3 x4), (1, I x2), (5, I x3), (12, rf 0 0 3 x4), (13, I x3), (14, I x2)] [some ⟨0, dL x4⟩] ?_
 obtain ⟨v8, hv9, h⟩ := bindS h
 refine opsP_idr τ_ok 15 0 0 x4.length hv9 rfl (by kernel_rfl) ?_
 refine v 1 36 [(0, rf 0 0 3 x4), (1, I x2), (5, I x3), (14, I x2), (16, .ptr 0 0 (x3.toNat * 3))] [some ⟨0, dL x4⟩] ?_
 refine opsP_E (dd := none) (x := .any) (stdl_E (xs := x4) (vs := [I x2]) τ_ok 3 0 0 0 ({ v8 with fKey := x2 } : T_impl_Write) hv9 (by kernel_rfl) (by kernel_rfl) (by kernel_rfl)) ?_
 refine io 36 [(0, rf 0 0 3 x4), (1, I x2), (5, I x3), (14, I x2)] [some ⟨0, dL (x4.set x3.toNat ({ v8 with fKey := x2 } : T_impl_Write))⟩] ?_
 refine opsP_ren (st' := ⟨36, [(0, .ref 0 0 0 3 (x4.set x3.toNat ({ v8 with fKey := x2 } : T_impl_Write)).length false), (1, I x2), (5, I x3), (14, I x2)], [some ⟨0, dL (x4.set x3.toNat ({ v8 with fKey := x2 } : T_impl_Write))⟩]⟩) 0 (x4.set x3.toNat ({ v8 with fKey := x2 } : T_impl_Write)).length (renC (ren_ref (List.length_set ..).symm) (renC trivial (renC trivial (renC trivial renC0)))) (by kernel_rfl) ?_
 refine ve 0 36 [(0, .ref 0 0 0 3 (x4.set x3.toNat ({ v8 with fKey := x2 } : T_impl_Write)).length false), (1, I x2), (5, I x3)] [some ⟨0, dL (x4.set x3.toNat ({ v8 with fKey := x2 } : T_impl_Write))⟩] ?_
 refine srve 36 [(0, .ref 0 0 0 3 (x4.set x3.toNat ({ v8 with fKey := x2 } : T_impl_Write)).length false), (1, I (w64 (x2 + 1))), (5, I x3)] [some ⟨0, dL (x4.set x3.toNat ({ v8 with fKey := x2 } : T_impl_Write))⟩] ?_
 refine srv 2 36 [(0, .ref 0 0 0 3 (x4.set x3.toNat ({ v8 with fKey := x2 } : T_impl_Write)).length false), (1, I (w64 (x2 + 1))), (5, I x3), (19, .ref 0 0 0 3 (x4.set x3.toNat ({ v8 with fKey := x2 } : T_impl_Write)).length false), (20, I x3)] [some ⟨0, dL (x4.set x3.toNat ({ v8 with fKey := x2 } : T_impl_Write))⟩] ?_
 obtain ⟨v10, hv11, h⟩ := bindS h
 refine opsP_idr τ_ok 21 0 0 (x4.set x3.toNat ({ v8 with fKey := x2 } : T_impl_Write)).length hv11 rfl (by kernel_rfl) ?_
 refine v 1 36 [(0, .ref 0 0 0 3 (x4.set x3.toNat ({ v8 with fKey := x2 } : T_impl_Write)).length false), (1, I (w64 (x2 + 1))), (5, I x3), (22, .ptr 0 0 (x3.toNat * 3 + 1))] [some ⟨0, dL (x4.set x3.toNat ({ v8 with fKey := x2 } : T_impl_Write))⟩] ?_
 refine io 36 [(0, .ref 0 0 0 3 (x4.set x3.toNat ({ v8 with fKey := x2 } : T_impl_Write)).length false), (1, I (w64 (x2 + 1))), (5, I x3), (22, .ptr 0 0 (x3.toNat * 3 + 1))] [some ⟨0, dL (x4.set x3.toNat ({ v8 with fKey := x2 } : T_impl_Write))⟩] ?_
 refine opsP_imp (Imp.ghosts 1 (st' := ⟨36, [(0, .ref 0 0 0 3 (x4.set x3.toNat ({ v8 with fKey := x2 } : T_impl_Write)).length false), (1, I (w64 (x2 + 1))), (5, I x3), (22, .ptr 0 0 (x3.toNat * 3 + 1))], [some ⟨0, dL (x4.set x3.toNat ({ v8 with fKey := x2 } : T_impl_Write))⟩, some ⟨0, []⟩]⟩) (by kernel_rfl)) ?_
 refine opsP_E (dd := some 23) (x := rf 1 1 3 v10.fRow) (CoreE.pre (H1 := [some ⟨0, setL (dL (x4.set x3.toNat ({ v8 with fKey := x2 } : T_impl_Write))) (x3.toNat * 3 + 1) [rf 1 1 3 v10.fRow]⟩, sl 1 v10.fRow]) (HStep.openL (cs0 := []) (xs := (x4.set x3.toNat ({ v8 with fKey := x2 } : T_impl_Write))) (s := 3) (n := v10.fRow.length) (f := false) (cs := eL v10.fRow) 0 0 1 0 1 hv11 (by kernel_rfl) (by kernel_rfl) (by kernel_rfl) (by kernel_rfl) (by decide) (by first | exact pn hQ | exact pk hQ) (by kernel_rfl)) (ldo_E (xs := (x4.set x3.toNat ({ v8 with fKey := x2 } : T_impl_Write))) τ_ok 23 73 1 hv11 (by kernel_rfl) (by kernel_rfl) (by kernel_rfl))) ?_
 refine v 1 36 [(0, .ref 0 0 0 3 (x4.set x3.toNat ({ v8 with fKey := x2 } : T_impl_Write)).length false), (5, I x3), (23, rf 1 1 3 v10.fRow), (24, I (w64 (x2 + 1)))] [some ⟨0, setL (dL (x4.set x3.toNat ({ v8 with fKey := x2 } : T_impl_Write))) (x3.toNat * 3 + 1) [rf 1 1 3 v10.fRow]⟩, sl 1 v10.fRow] ?_
 obtain ⟨v12, hv13, h⟩ := bindS h
 refine opsP_E (dd := some 25) (x := I v12.1) ((callD_E τ 25 1 1 (ok_laws_markValueS hv13) (by kernel_rfl)).then (H2 := [some ⟨0, dL ((x4.set x3.toNat ({ v8 with fKey := x2 } : T_impl_Write)).set x3.toNat ({ v10 with fRow := v12.2 } : T_impl_Write))⟩, some ⟨2, []⟩]) (HStep.nestL (xs := (x4.set x3.toNat ({ v8 with fKey := x2 } : T_impl_Write))) (vs := [rf 1 1 3 v10.fRow]) 0 0 1 ({ v10 with fRow := v12.2 } : T_impl_Write) hv11 (by kernel_rfl) (OutL.cons (OutP.listn (v := 1) (xs := v12.2) (len_laws_markValueS hv13) (by kernel_rfl)) (OutL.nil _)) (by decide) (by decide) (by first | exact pn hQ | exact pk hQ) (by kernel_rfl) (by kernel_rfl) (by kernel_rfl) (by kernel_rfl))) ?_
 refine io 36 [(0, .ref 0 0 0 3 (x4.set x3.toNat ({ v8 with fKey := x2 } : T_impl_Write)).length false), (5, I x3), (24, I (w64 (x2 + 1))), (25, I v12.1)] [some ⟨0, dL ((x4.set x3.toNat ({ v8 with fKey := x2 } : T_impl_Write)).set x3.toNat ({ v10 with fRow := v12.2 } : T_impl_Write))⟩, some ⟨2, []⟩] ?_
 refine opsP_ren (st' := ⟨36, [(0, .ref 0 0 0 3 ((x4.set x3.toNat ({ v8 with fKey := x2 } : T_impl_Write)).set x3.toNat ({ v10 with fRow := v12.2 } : T_impl_Write)).length false), (5, I x3), (24, I (w64 (x2 + 1))), (25, I v12.1)], [some ⟨0, dL ((x4.set x3.toNat ({ v8 with fKey := x2 } : T_impl_Write)).set x3.toNat ({ v10 with fRow := v12.2 } : T_impl_Write))⟩, some ⟨2, []⟩]⟩) 0 ((x4.set x3.toNat ({ v8 with fKey := x2 } : T_impl_Write)).set x3.toNat ({ v10 with fRow := v12.2 } : T_impl_Write)).length (renC (ren_ref (List.length_set ..).symm) (renC trivial (renC trivial (renC trivial renC0)))) (by kernel_rfl) ?_
 refine ve 1 36 [(0, .ref 0 0 0 3 ((x4.set x3.toNat ({ v8 with fKey := x2 } : T_impl_Write)).set x3.toNat ({ v10 with fRow := v12.2 } : T_impl_Write)).length false), (1, I v12.1), (5, I x3)] [some ⟨0, dL ((x4.set x3.toNat ({ v8 with fKey := x2 } : T_impl_Write)).set x3.toNat ({ v10 with fRow := v12.2 } : T_impl_Write))⟩, some ⟨2, []⟩] ?_
 refine srv 5 36 [(0, .ref 0 0 0 3 ((x4.set x3.toNat ({ v8 with fKey := x2 } : T_impl_Write)).set x3.toNat ({ v10 with fRow := v12.2 } : T_impl_Write)).length false), (1, I v12.1), (5, I x3), (26, .ref 0 0 0 3 ((x4.set x3.toNat ({ v8 with fKey := x2 } : T_impl_Write)).set x3.toNat ({ v10 with fRow := v12.2 } : T_impl_Write)).length false), (27, I x3), (30, B ((v12.1.tmod 3) == 0))] [some ⟨0, dL ((x4.set x3.toNat ({ v8 with fKey := x2 } : T_impl_Write)).set x3.toNat ({ v10 with fRow := v12.2 } : T_impl_Write))⟩, some ⟨2, []⟩] ?_
 obtain ⟨v14, hv15, h⟩ := bindS h
 refine opsP_idr τ_ok 31 0 0 ((x4.set x3.toNat ({ v8 with fKey := x2 } : T_impl_Write)).set x3.toNat ({ v10 with fRow := v12.2 } : T_impl_Write)).length hv15 rfl (by kernel_rfl) ?_
 refine v 1 36 [(0, .ref 0 0 0 3 ((x4.set x3.toNat ({ v8 with fKey := x2 } : T_impl_Write)).set x3.toNat ({ v10 with fRow := v12.2 } : T_impl_Write)).length false), (1, I v12.1), (5, I x3), (30, B ((v12.1.tmod 3) == 0)), (32, .ptr 0 0 (x3.toNat * 3 + 2))] [some ⟨0, dL ((x4.set x3.toNat ({ v8 with fKey := x2 } : T_impl_Write)).set x3.toNat ({ v10 with fRow := v12.2 } : T_impl_Write))⟩, some ⟨2, []⟩] ?_
 refine opsP_E (dd := none) (x := .any) (stdl_E (xs := ((x4.set x3.toNat ({ v8 with fKey := x2 } : T_impl_Write)).set x3.toNat ({ v10 with fRow := v12.2 } : T_impl_Write))) (vs := [B ((v12.1.tmod 3) == 0)]) τ_ok 4 0 0 2 ({ v14 with fGone := ((v12.1.tmod 3) == 0) } : T_impl_Write) hv15 (by kernel_rfl) (by kernel_rfl) (by kernel_rfl)) ?_
 refine io 36 [(0, .ref 0 0 0 3 ((x4.set x3.toNat ({ v8 with fKey := x2 } : T_impl_Write)).set x3.toNat ({ v10 with fRow := v12.2 } : T_impl_Write)).length false), (1, I v12.1), (5, I x3), (30, B ((v12.1.tmod 3) == 0))] [some ⟨0, dL (((x4.set x3.toNat ({ v8 with fKey := x2 } : T_impl_Write)).set x3.toNat ({ v10 with fRow := v12.2 } : T_impl_Write)).set x3.toNat ({ v14 with fGone := ((v12.1.tmod 3) == 0) } : T_impl_Write))⟩, some ⟨2, []⟩] ?_
 refine opsP_ren (st' := ⟨36, [(0, .ref 0 0 0 3 (((x4.set x3.toNat ({ v8 with fKey := x2 } : T_impl_Write)).set x3.toNat ({ v10 with fRow := v12.2 } : T_impl_Write)).set x3.toNat ({ v14 with fGone := ((v12.1.tmod 3) == 0) } : T_impl_Write)).length false), (1, I v12.1), (5, I x3), (30, B ((v12.1.tmod 3) == 0))], [some ⟨0, dL (((x4.set x3.toNat ({ v8 with fKey := x2 } : T_impl_Write)).set x3.toNat ({ v10 with fRow := v12.2 } : T_impl_Write)).set x3.toNat ({ v14 with fGone := ((v12.1.tmod 3) == 0) } : T_impl_Write))⟩, some ⟨2, []⟩]⟩) 0 (((x4.set x3.toNat ({ v8 with fKey := x2 } : T_impl_Write)).set x3.toNat ({ v10 with fRow := v12.2 } : T_impl_Write)).set x3.toNat ({ v14 with fGone := ((v12.1.tmod 3) == 0) } : T_impl_Write)).length (renC (ren_ref (List.length_set ..).symm) (renC trivial (renC trivial (renC trivial renC0)))) (by kernel_rfl) ?_
 refine ve 0 36 [(0, .ref 0 0 0 3 (((x4.set x3.toNat ({ v8 with fKey := x2 } : T_impl_Write)).set x3.toNat ({ v10 with fRow := v12.2 } : T_impl_Write)).set x3.toNat ({ v14 with fGone := ((v12.1.tmod 3) == 0) } : T_impl_Write)).length false), (1, I v12.1), (5, I x3)] [some ⟨0, dL (((x4.set x3.toNat ({ v8 with fKey := x2 } : T_impl_Write)).set x3.toNat ({ v10 with fRow := v12.2 } : T_impl_Write)).set x3.toNat ({ v14 with fGone := ((v12.1.tmod 3) == 0) } : T_impl_Write))⟩, some ⟨2, []⟩] ?_
 refine rve 36 [(0, .ref 0 0 0 3 (((x4.set x3.toNat ({ v8 with fKey := x2 } : T_impl_Write)).set x3.toNat ({ v10 with fRow := v12.2 } : T_impl_Write)).set x3.toNat ({ v14 with fGone := ((v12.1.tmod 3) == 0) } : T_impl_Write)).length false), (1, I (w64 (v12.1 + 1))), (5, I x3)] [some ⟨0, dL (((x4.set x3.toNat ({ v8 with fKey := x2 } : T_impl_Write)).set x3.toNat ({ v10 with fRow := v12.2 } : T_impl_Write)).set x3.toNat ({ v14 with fGone := ((v12.1.tmod 3) == 0) } : T_impl_Write))⟩, some ⟨2, []⟩] ?_
 refine rve 36 [(0, .ref 0 0 0 3 (((x4.set x3.toNat ({ v8 with fKey := x2 } : T_impl_Write)).set x3.toNat ({ v10 with fRow := v12.2 } : T_impl_Write)).set x3.toNat ({ v14 with fGone := ((v12.1.tmod 3) == 0) } : T_impl_Write)).length false), (1, I (w64 (v12.1 + 1))), (5, I (w64 (x3 + 1)))] [some ⟨0, dL (((x4.set x3.toNat ({ v8 with fKey := x2 } : T_impl_Write)).set x3.toNat ({ v10 with fRow := v12.2 } : T_impl_Write)).set x3.toNat ({ v14 with fGone := ((v12.1.tmod 3) == 0) } : T_impl_Write))⟩, some ⟨2, []⟩] ?_
 exact ⟨(f5, (w64 (v12.1 + 1)), (w64 (x3 + 1)), (((x4.set x3.toNat ({ v8 with fKey := x2 } : T_impl_Write)).set x3.toNat ({ v10 with fRow := v12.2 } : T_impl_Write)).set x3.toNat ({ v14 with fGone := ((v12.1.tmod 3) == 0) } : T_impl_Write))), h, Nat.lt_succ_self _, (it (st' := ⟨36, [(0, .ref 0 0 0 3 (((x4.set x3.toNat ({ v8 with fKey := x2 } : T_impl_Write)).set x3.toNat ({ v10 with fRow := v12.2 } : T_impl_Write)).set x3.toNat ({ v14 with fGone := ((v12.1.tmod 3) == 0) } : T_impl_Write)).length false), (1, I (w64 (v12.1 + 1))), (5, I (w64 (x3 + 1)))], [some ⟨0, dL (((x4.set x3.toNat ({ v8 with fKey := x2 } : T_impl_Write)).set x3.toNat ({ v10 with fRow := v12.2 } : T_impl_Write)).set x3.toNat ({ v14 with fGone := ((v12.1.tmod 3) == 0) } : T_impl_Write))⟩, some ⟨2, []⟩]⟩) [0, 1, 5]).trans (Imp.truncS 1 (pl hQ) (by kernel_rfl) (allBelow_mem (by exact (And.intro rfl (And.intro rfl (And.intro rfl trivial))))) (by exact (And.intro (dL_below _ _) trivial)) (by kernel_rfl))⟩
 refine pwp_exit ?_
 refine srve 36 [(4, I x2)] [some ⟨0, dL x4⟩] ?_
 have h := si h
 subst h
 exact pwp_ret ⟨.inr rfl, 0, by kernel_rfl, by kernel_rfl⟩
def impl_versionsCopy_l0 (a0 : List T_impl_Version) : Nat → Int → (List T_impl_Version) → Option (List T_impl_Version)
 | 0, _, _ => none
 | f4 + 1, x2, x3 => bif (decide (x2 < (a0.length : Int))) then (getI a0 x2).bind fun v7 => (impl_clone_impl_Value v7.fRow).bind fun v9 => (app x3 ([{ v7 with fRow := v9 }] : List T_impl_Version)).bind fun v11 => (impl_versionsCopy_l0 a0 f4) (w64 (x2 + 1)) v11 else (slices_Clip_impl_Version_impl_Version x3).bind fun v13 => some v13
def impl_versionsCopy (a0 : List T_impl_Version) : Option (List T_impl_Version) := impl_versionsCopy_l0 a0 FUEL 0 ([] : List T_impl_Version)
theorem ok_impl_versionsCopy {a0 : List T_impl_Version} {y : List T_impl_Version} (h : impl_versionsCopy a0 = some y) : OK Try.prog 70 [A a0] (A y) := by
 refine ow Try.func70 fun Γ hX => ?_
 unfold impl_versionsCopy at h
 refine srveM [5] 23 [(0, A a0)] [] ?_
 refine srveM [5] 23 [(0, A a0), (3, .arr 4 0 (eL ([] : List T_impl_Version)) true)] [] ?_
 refine pwp_seq ?_
 refine srveM [5] 23 [(3, .arr 4 0 (eL ([] : List T_impl_Version)) true), (6, A a0), (7, I (a0.length : Int)), (8, I 0)] [] ?_
 refine pwp_block ?_
 refine pwp_loop (ι := Nat × Int × (List T_impl_Version)) (fun (f4, x2, x3) => (⟨23, [(3, rf 0 0 4 x3), (6, A a0), (7, I (a0.length : Int)), (8, I x2)], [sl 0 x3]⟩ : St)) (fun (f4, x2, x3) => impl_versionsCopy_l0 a0 f4 x2 x3 = some y) Prod.fst (FUEL, 0, ([] : List T_impl_Version)) h (Imp.thawS 3 [3, 6, 7, 8] (by kernel_rfl)) ?_
 rintro ⟨f4, x2, x3⟩ h
 dsimp only at h ⊢
 rcases f4 with _ | f4
 cases h
 rw [impl_versionsCopy_l0] at h
 refine srveM [5] 23 [(3, rf 0 0 4 x3), (6, A a0), (7, I (a0.length : Int)), (8, I x2), (9, B (decide (x2 < (a0.length : Int))))] [sl 0 x3] ?_
 refine pwp_seq ?_
 refine pc h (fun h => ?_) (fun h => ?_)
 refine pwp_skip ?_
 refine pwp_seq ?_
 refine pwp_block ?_
 refine pwp_seq ?_
 refine pwp_region ?_
 obtain ⟨v7, hv8, h⟩ := bindS h
 refine opsP_idx τ_ok 10 hv8 (by kernel_rfl) ?_
 refine veM [5] 3 23 [(3, rf 0 0 4 x3), (5, .ptr 1 0 0), (6, A a0), (7, I (a0.length : Int)), (8, I x2)] [sl 0 x3, sc 0 v7] ?_
 refine srvM [5] 2 23 [(3, rf 0 0 4 x3), (5, .ptr 1 0 0), (6, A a0), (7, I (a0.length : Int)), (8, I x2), (13, A v7.fRow)] [sl 0 x3, sc 0 v7] ?_
 obtain ⟨v9, hv10, h⟩ := bindS h
 refine cF 14 (ok_impl_clone_impl_Value hv10) ?_
 refine veM [5] 2 23 [(3, rf 0 0 4 x3), (5, .ptr 1 0 0), (6, A a0), (7, I (a0.length : Int)), (8, I x2)] [sl 0 x3, some ⟨0, Enc.cells ({ v7 with fRow := v9 })⟩] ?_
 refine rvM [5] 3 23 [(6, A a0), (7, I (a0.length : Int)), (8, I x2), (16, rf 0 0 4 x3), (18, .arr 4 ([{ v7 with fRow := v9 }] : List T_impl_Version).length (eL ([{ v7 with fRow := v9 }] : List T_impl_Version)) true)] [sl 0 x3, some ⟨0, Enc.cells ({ v7 with fRow := v9 })⟩] ?_
 obtain ⟨v11, hv12, h⟩ := bindS h
 refine opsP_app τ_ok 19 0 0 (nx hX) hv12 (by kernel_rfl) ?_
 refine veM [5] 1 23 [(3, rf 0 1 4 v11), (6, A a0), (7, I (a0.length : Int)), (8, I x2)] [sl 1 v11, some ⟨0, Enc.cells ({ v7 with fRow := v9 })⟩] ?_
 refine rveM [5] 23 [(3, rf 0 1 4 v11), (6, A a0), (7, I (a0.length : Int)), (8, I (w64 (x2 + 1)))] [sl 1 v11, some ⟨0, Enc.cells ({ v7 with fRow := v9 })⟩] ?_
 exact ⟨(f4, (w64 (x2 + 1)), v11), h, Nat.lt_succ_self _, qt (it (st' := ⟨23, [(3, rf 0 1 4 v11), (6, A a0), (7, I (a0.length : Int)), (8, I (w64 (x2 + 1)))], [sl 1 v11, some ⟨0, Enc.cells ({ v7 with fRow := v9 })⟩]⟩) [3, 6, 7, 8]) (qt (Imp.truncS (st' := ⟨23, [(3, rf 0 1 4 v11), (6, A a0), (7, I (a0.length : Int)), (8, I (w64 (x2 + 1)))], [sl 1 v11]⟩) 1 (nx hX) (by kernel_rfl) (allBelow_mem (by exact (And.intro rfl (And.intro rfl (And.intro rfl (And.intro rfl trivial)))))) (by exact (And.intro (frz_below (eL_frz _)) trivial)) (by kernel_rfl)) (Imp.reverS 0 1 (eL v11) [3, 6, 7, 8] (by kernel_rfl) (by exact (And.intro (eL_frz _) trivial)) (by kernel_rfl)))⟩
 refine pwp_exit ?_
 refine srvM [5] 1 23 [(21, rf 0 0 4 x3)] [sl 0 x3] ?_
 refine opsP_imp (Imp.freezeB (v := 0) (cs := eL x3) (st' := ⟨23, [(21, A x3)], [none]⟩) 0 0 (nx hX) (by kernel_rfl) (eL_frz _) (wholeC (whole_is (eL_len x3).symm) wholeC0) (HpRel.key HpRel.nil) (by kernel_rfl) rfl (nx hX)) ?_
 obtain ⟨v13, hv14, h⟩ := bindS h
 refine cF 22 (ok_slices_Clip_impl_Version_impl_Version hv14) ?_
 refine veM [5] 1 23 [(2, A v13)] [none] ?_
 cases h
 exact pwp_ret rz
def impl_writesCopy_l0 (a0 : List T_impl_Write) : Nat → Int → (List T_impl_Write) → Option (List T_impl_Write)
 | 0, _, _ => none
 | f4 + 1, x2, x3 => bif (decide (x2 < (a0.length : Int))) then (getI a0 x2).bind fun v7 => (impl_clone_impl_Value v7.fRow).bind fun v9 => (app x3 ([{ v7 with fRow := v9 }] : List T_impl_Write)).bind fun v11 => (impl_writesCopy_l0 a0 f4) (w64 (x2 + 1)) v11 else (slices_Clip_impl_Write_impl_Write x3).bind fun v13 => some v13
def impl_writesCopy (a0 : List T_impl_Write) : Option (List T_impl_Write) := impl_writesCopy_l0 a0 FUEL 0 ([] : List T_impl_Write)
theorem ok_impl_writesCopy {a0 : List T_impl_Write} {y : List T_impl_Write} (h : impl_writesCopy a0 = some y) : OK Try.prog 84 [A a0] (A y) := by
 refine ow Try.func84 fun Γ hX => ?_
 unfold impl_writesCopy at h
 refine srveM [5] 23 [(0, A a0)] [] ?_
 refine srveM [5] 23 [(0, A a0), (3, .arr 3 0 (eL ([] : List T_impl_Write)) true)] [] ?_
 refine pwp_seq ?_
 refine srveM [5] 23 [(3, .arr 3 0 (eL ([] : List T_impl_Write)) true), (6, A a0), (7, I (a0.length : Int)), (8, I 0)] [] ?_
 refine pwp_block ?_
 refine pwp_loop (ι := Nat × Int × (List T_impl_Write)) (fun (f4, x2, x3) => (⟨23, [(3, rf 0 0 3 x3), (6, A a0), (7, I (a0.length : Int)), (8, I x2)], [sl 0 x3]⟩ : St)) (fun (f4, x2, x3) => impl_writesCopy_l0 a0 f4 x2 x3 = some y) Prod.fst (FUEL, 0, ([] : List T_impl_Write)) h (Imp.thawS 3 [3, 6, 7, 8] (by kernel_rfl)) ?_
 rintro ⟨f4, x2, x3⟩ h
 dsimp only at h ⊢
 rcases f4 with _ | f4
 cases h
 rw [impl_writesCopy_l0] at h
 refine srveM [5] 23 [(3, rf 0 0 3 x3), (6, A a0), (7, I (a0.length : Int)), (8, I x2), (9, B (decide (x2 < (a0.length : Int))))] [sl 0 x3] ?_
 refine pwp_seq ?_
 refine pc h (fun h => ?_) (fun h => ?_)
 refine pwp_skip ?_
 refine pwp_seq ?_
 refine pwp_block ?_
 refine pwp_seq ?_
 refine pwp_region ?_
 obtain ⟨v7, hv8, h⟩ := bindS h
 refine opsP_idx τ_ok 10 hv8 (by kernel_rfl) ?_
 refine veM [5] 3 23 [(3, rf 0 0 3 x3), (5, .ptr 1 0 0), (6, A a0), (7, I (a0.length : Int)), (8, I x2)] [sl 0 x3, sc 0 v7] ?_
 refine srvM [5] 2 23 [(3, rf 0 0 3 x3), (5, .ptr 1 0 0), (6, A a0), (7, I (a0.length : Int)), (8, I x2), (13, A v7.fRow)] [sl 0 x3, sc 0 v7] ?_
 obtain ⟨v9, hv10, h⟩ := bindS h
 refine cF 14 (ok_impl_clone_impl_Value hv10) ?_
 refine veM [5] 2 23 [(3, rf 0 0 3 x3), (5, .ptr 1 0 0), (6, A a0), (7, I (a0.length : Int)), (8, I x2)] [sl 0 x3, some ⟨0, Enc.cells ({ v7 with fRow := v9 })⟩] ?_
 refine rvM [5] 3 23 [(6, A a0), (7, I (a0.length : Int)), (8, I x2), (16, rf 0 0 3 x3), (18, .arr 3 ([{ v7 with fRow := v9 }] : List T_impl_Write).length (eL ([{ v7 with fRow := v9 }] : List T_impl_Write)) true)] [sl 0 x3, some ⟨0, Enc.cells ({ v7 with fRow := v9 })⟩] ?_
 obtain ⟨v11, hv12, h⟩ := bindS h
 refine opsP_app τ_ok 19 0 0 (nx hX) hv12 (by kernel_rfl) ?_
 refine veM [5] 1 23 [(3, rf 0 1 3 v11), (6, A a0), (7, I (a0.length : Int)), (8, I x2)] [sl 1 v11, some ⟨0, Enc.cells ({ v7 with fRow := v9 })⟩] ?_
 refine rveM [5] 23 [(3, rf 0 1 3 v11), (6, A a0), (7, I (a0.length : Int)), (8, I (w64 (x2 + 1)))] [sl 1 v11, some ⟨0, Enc.cells ({ v7 with fRow := v9 })⟩] ?_
 exact ⟨(f4, (w64 (x2 + 1)), v11), h, Nat.lt_succ_self _, qt (it (st' := ⟨23, [(3, rf 0 1 3 v11), (6, A a0), (7, I (a0.length : Int)), (8, I (w64 (x2 + 1)))], [sl 1 v11, some ⟨0, Enc.cells ({ v7 with fRow := v9 })⟩]⟩) [3, 6, 7, 8]) (qt (Imp.truncS (st' := ⟨23, [(3, rf 0 1 3 v11), (6, A a0), (7, I (a0.length : Int)), (8, I (w64 (x2 + 1)))], [sl 1 v11]⟩) 1 (nx hX) (by kernel_rfl) (allBelow_mem (by exact (And.intro rfl (And.intro rfl (And.intro rfl (And.intro rfl trivial)))))) (by exact (And.intro (frz_below (eL_frz _)) trivial)) (by kernel_rfl)) (Imp.reverS 0 1 (eL v11) [3, 6, 7, 8] (by kernel_rfl) (by exact (And.intro (eL_frz _) trivial)) (by kernel_rfl)))⟩
 refine pwp_exit ?_
 refine srvM [5] 1 23 [(21, rf 0 0 3 x3)] [sl 0 x3] ?_
 refine opsP_imp (Imp.freezeB (v := 0) (cs := eL x3) (st' := ⟨23, [(21, A x3)], [none]⟩) 0 0 (nx hX) (by kernel_rfl) (eL_frz _) (wholeC (whole_is (eL_len x3).symm) wholeC0) (HpRel.key HpRel.nil) (by kernel_rfl) rfl (nx hX)) ?_
 obtain ⟨v13, hv14, h⟩ := bindS h
 refine cF 22 (ok_slices_Clip_impl_Write_impl_Write hv14) ?_
 refine veM [5] 1 23 [(2, A v13)] [none] ?_
 cases h
 exact pwp_ret rz
def impl_RowOk (a0 : List T_impl_Value) : Option Bool := bif (decide ((a0.length : Int) ≤ 4)) then (slices_ContainsFunc_impl_Value_impl_Value a0 impl_RowOk_1).bind fun v1 => some (!v1) else some false
theorem ok_impl_RowOk {a0 : List T_impl_Value} {y : Bool} (h : impl_RowOk a0 = some y) : OK Try.prog 91 [A a0] (B y) := by
 refine ow Try.func91 fun Γ hX => ?_
 unfold impl_RowOk at h
 refine srve 11 [(0, A a0)] [] ?_
 refine srv 4 11 [(0, A a0), (6, B (decide ((a0.length : Int) ≤ 4)))] [] ?_
 rcases fk (decide ((a0.length : Int) ≤ 4)) with hc3 | hc3
 replace h := bT hc3 h
 rw [hc3]
 refine v 1 11 [(6, B true), (7, A a0)] [] ?_
 obtain ⟨v1, hv2, h⟩ := bindS h
 refine cF 8 (ok_slices_ContainsFunc_impl_Value_impl_Value (rfl) (fun _ w hw => ok_impl_RowOk_1 hw) hv2) ?_
 refine ve 3 11 [(2, B (!v1))] [] ?_
 cases h
 exact pwp_ret rz
 replace h := bF hc3 h
 rw [hc3]
 refine ve 5 11 [(2, B false)] [] ?_
 cases h
 exact pwp_ret rz
def laws_szWrite (a0 : T_laws_Write) (a1 : Int) : Option Int := (laws_szValueS a0.fRow a1).bind fun v1 => bif (decide (v1 < 0)) then some (-1) else some v1
theorem ok_laws_szWrite {a0 : T_laws_Write} {a1 : Int} {y : Int} (h : laws_szWrite a0 a1 = some y) : OK Try.prog 103 [E a0, I a1] (I y) := by
 refine ow Try.func103 fun Γ hX => ?_
 unfold laws_szWrite at h
 refine srve 12 [(1, I a1), (2, pf a0 0)] [] ?_
 refine srv 3 12 [(6, A a0.fRow), (7, I a1)] [] ?_
 obtain ⟨v1, hv2, h⟩ := bindS h
 refine cF 8 (ok_laws_szValueS hv2) ?_
 refine ve 1 12 [(1, I v1)] [] ?_
 refine pwp_seq ?_
 refine srve 12 [(1, I v1), (10, B (decide (v1 < 0)))] [] ?_
 refine pc h (fun h => ?_) (fun h => ?_)
 refine srve 12 [(4, I (-1))] [] ?_
 cases h
 exact pwp_ret rz
 refine pwp_skip ?_
 refine srve 12 [(4, I v1)] [] ?_
 cases h
 exact pwp_ret rz
def spec_RowOk_l0 (a0 : List T_impl_Value) : Nat → Int → Option Bool
 | 0, _ => none
 | f2 + 1, x1 => bif (decide (x1 < (a0.length : Int))) then (getI a0 x1).bind fun v5 => (spec_ValueOk v5).bind fun v7 => bif (!v7) then some false else (spec_RowOk_l0 a0 f2) (w64 (x1 + 1)) else some (decide ((a0.length : Int) ≤ 4))
def spec_RowOk (a0 : List T_impl_Value) : Option Bool := spec_RowOk_l0 a0 FUEL 0
theorem ok_spec_RowOk {a0 : List T_impl_Value} {y : Bool} (h : spec_RowOk a0 = some y) : OK Try.prog 110 [A a0] (B y) := by
 refine ow Try.func110 fun Γ hX => ?_
 unfold spec_RowOk at h
 refine srve 19 [(0, A a0)] [] ?_
 refine pwp_seq ?_
 refine srve 19 [(0, A a0), (3, I 0)] [] ?_
 refine pwp_block ?_
 refine pwp_loop (ι := Nat × Int) (fun (f2, x1) => (⟨19, [(0, A a0), (3, I x1)], []⟩ : St)) (fun (f2, x1) => spec_RowOk_l0 a0 f2 x1 = some y) Prod.fst (FUEL, 0) h (it [0, 3]) ?_
 rintro ⟨f2, x1⟩ h
 dsimp only at h ⊢
 rcases f2 with _ | f2
 cases h
 rw [spec_RowOk_l0] at h
 refine pwp_seq ?_
 refine srve 19 [(0, A a0), (3, I x1), (7, B (decide (x1 < (a0.length : Int))))] [] ?_
 refine pc h (fun h => ?_) (fun h => ?_)
 refine pwp_skip ?_
 refine pwp_seq ?_
 refine pwp_block ?_
 refine srv 2 19 [(0, A a0), (3, I x1), (10, A a0), (11, I x1)] [] ?_
 obtain ⟨v5, hv6, h⟩ := bindS h
 refine opsP_idx τ_ok 12 hv6 (by kernel_rfl) ?_
 refine v 1 19 [(0, A a0), (3, I x1), (13, E v5)] [] ?_
 obtain ⟨v7, hv8, h⟩ := bindS h
 refine cF 14 (ok_spec_ValueOk hv8) ?_
 refine ve 1 19 [(0, A a0), (3, I x1), (15, B (!v7))] [] ?_
 refine pc h (fun h => ?_) (fun h => ?_)
 refine srve 19 [(2, B false)] [] ?_
 cases h
 exact pwp_ret rz
 refine pwp_skip ?_
 refine rve 19 [(0, A a0), (3, I (w64 (x1 + 1)))] [] ?_
 exact ⟨(f2, (w64 (x1 + 1))), h, Nat.lt_succ_self _, it [0, 3]⟩
 refine pwp_exit ?_
 refine srve 19 [(2, B (decide ((a0.length : Int) ≤ 4)))] [] ?_
 cases h
 exact pwp_ret rz
def spec_l13Version (a0 : T_impl_Version) : Option Bool := (spec_l1In a0.fKey 0 4).bind fun v1 => bif v1 then (spec_l1In a0.fBorn 1 40).bind fun v3 => bif v3 then bif (a0.fDied == 0) then (spec_RowOk a0.fRow).bind fun v5 => some v5 else (spec_l1In a0.fDied (w64 (a0.fBorn + 1)) 40).bind fun v7 => bif v7 then (spec_RowOk a0.fRow).bind fun v9 => some v9 else some false else some false else some false
theorem ok_spec_l13Version {a0 : T_impl_Version} {y : Bool} (h : spec_l13Version a0 = some y) : OK Try.prog 114 [E a0] (B y) := by
 refine ow Try.func114 fun Γ hX => ?_
 unfold spec_l13Version at h
 refine srve 29 [(1, pf a0 0)] [] ?_
 refine srv 2 29 [(1, pf a0 0), (4, I a0.fKey)] [] ?_
 obtain ⟨v1, hv2, h⟩ := bindS h
 refine cF 5 (ok_spec_l1In hv2) ?_
 refine v 1 29 [(1, pf a0 0), (6, B v1)] [] ?_
 rcases Bool.eq_false_or_eq_true v1 with hc14 | hc14
 replace h := bT hc14 h
 rw [hc14]
 refine v 2 29 [(1, pf a0 0), (6, B true), (8, I a0.fBorn)] [] ?_
 obtain ⟨v3, hv4, h⟩ := bindS h
 refine cF 9 (ok_spec_l1In hv4) ?_
 refine v 2 29 [(1, pf a0 0), (11, B v3)] [] ?_
 rcases Bool.eq_false_or_eq_true v3 with hc13 | hc13
 replace h := bT hc13 h
 rw [hc13]
 refine v 4 29 [(1, pf a0 0), (11, B true), (15, B (a0.fDied == 0))] [] ?_
 rcases fk (a0.fDied == 0) with hc12 | hc12
 replace h := bT hc12 h
 rw [hc12]
 refine v 11 29 [(24, B true), (26, A a0.fRow)] [] ?_
 obtain ⟨v5, hv6, h⟩ := bindS h
 refine cF 27 (ok_spec_RowOk hv6) ?_
 refine ve 2 29 [(2, B v5)] [] ?_
 cases h
 exact pwp_ret rz
 replace h := bF hc12 h
 rw [hc12]
 refine v 5 29 [(1, pf a0 0), (11, B true), (15, B false), (17, I a0.fDied), (20, I (w64 (a0.fBorn + 1)))] [] ?_
 obtain ⟨v7, hv8, h⟩ := bindS h
 refine cF 21 (ok_spec_l1In hv8) ?_
 refine v 3 29 [(1, pf a0 0), (24, B v7)] [] ?_
 rcases Bool.eq_false_or_eq_true v7 with hc11 | hc11
 replace h := bT hc11 h
 rw [hc11]
 refine v 2 29 [(24, B true), (26, A a0.fRow)] [] ?_
 obtain ⟨v9, hv10, h⟩ := bindS h
 refine cF 27 (ok_spec_RowOk hv10) ?_
 refine ve 2 29 [(2, B v9)] [] ?_
 cases h
 exact pwp_ret rz
 replace h := bF hc11 h
 rw [hc11]
 refine ve 5 29 [(2, B false)] [] ?_
 cases h
 exact pwp_ret rz
 replace h := bF hc13 h
 rw [hc13]
 refine ve 18 29 [(2, B false)] [] ?_
 cases h
 exact pwp_ret rz
 replace h := bF hc14 h
 rw [hc14]
 refine ve 23 29 [(2, B false)] [] ?_
 cases h
 exact pwp_ret rz
def impl_written_1 (a0 : T_impl_Version) (a1 : T_impl_Version) : Option Int := (cmp_Compare_int a0.fKey a1.fKey).bind fun v1 => (cmp_Compare_int a0.fBorn a1.fBorn).bind fun v3 => (cmp_Or_int ([v1, v3])).bind fun v5 => some v5
theorem ok_impl_written_1 {a0 : T_impl_Version} {a1 : T_impl_Version} {y : Int} (h : impl_written_1 a0 a1 = some y) : OK Try.prog 120 [E a0, E a1] (I y) := by
 refine ow Try.func120 fun Γ hX => ?_
 unfold impl_written_1 at h
 refine srve 17 [(2, pf a0 0), (3, pf a1 0)] [] ?_
 refine pwp_seq ?_
 refine ip 17 [(2, pf a0 0), (3, pf a1 0)] [] ?_
 refine pN 13 ?_
 refine qv [] trivial 4 17 [(8, I a1.fKey), (6, I a0.fKey), (2, pf a0 0), (3, pf a1 0)] [] ?_
 obtain ⟨v1, hv2, h⟩ := bindS h
 refine qX (some 9) (I v1) 17 [(9, I v1), (2, pf a0 0), (3, pf a1 0)] [] (fun Γ' hΓ => CoreE.of_g (callV_sound (τ := τ) (by kernel_rfl) rfl (ok_cmp_Compare_int hv2) (FzTo.frz rfl))) trivial ?_
 refine qv [] trivial 4 17 [(13, I a1.fBorn), (11, I a0.fBorn), (9, I v1)] [] ?_
 obtain ⟨v3, hv4, h⟩ := bindS h
 refine qX (some 14) (I v3) 17 [(14, I v3), (9, I v1)] [] (fun Γ' hΓ => CoreE.of_g (callV_sound (τ := τ) (by kernel_rfl) rfl (ok_cmp_Compare_int hv4) (FzTo.frz rfl))) trivial ?_
 refine qv [] trivial 1 17 [(15, .arr 1 ([v1, v3] : List Int).length (eL ([v1, v3] : List Int)) true)] [] ?_
 obtain ⟨v5, hv6, h⟩ := bindS h
 refine qX (some 16) (I v5) 17 [(16, I v5)] [] (fun Γ' hΓ => CoreE.of_g (callV_sound (τ := τ) (by kernel_rfl) rfl (ok_cmp_Or_int hv6) (FzTo.frz rfl))) trivial ?_
 refine qvn [] trivial 1 17 [(4, I v5)] [] ?_
 cases h
 exact pwp_ret rz
def slices_symMergeCmpFunc_impl_Version_l1 (x3 : Int) : Nat → Int → (List T_impl_Version) → Option (List T_impl_Version)
 | 0, _, _ => none
 | f18 + 1, x16, x17 => bif (decide (x16 < (w64 (x3 - 1)))) then (getI x17 (w64 (x16 + 1))).bind fun v21 => (getI x17 x16).bind fun v23 => (getI x17 x16).bind fun v25 => (getI (x17.set x16.toNat v21) (w64 (x16 + 1))).bind fun v27 => (slices_symMergeCmpFunc_impl_Version_l1 x3 f18) (w64 (x16 + 1)) ((x17.set x16.toNat v21).set (w64 (x16 + 1)).toNat v23) else some x17
def slices_symMergeCmpFunc_impl_Version_l0 (a0 : List T_impl_Version) (a1 : Int) (a4 : T_impl_Version → T_impl_Version → Option Int) : Nat → Int → Int → Option (List T_impl_Version)
 | 0, _, _ => none
 | f5 + 1, x3, x4 => bif (decide (x3 < x4)) then (getI a0 (w64 (shrU (u64 (w64 (x3 + x4))) 1))).bind fun v8 => (getI a0 a1).bind fun v10 => (a4 v8 v10).bind fun v12 => bif (decide (v12 < 0)) then (slices_symMergeCmpFunc_impl_Version_l0 a0 a1 a4 f5) (w64 ((w64 (shrU (u64 (w64 (x3 + x4))) 1)) + 1)) x4 else (slices_symMergeCmpFunc_impl_Version_l0 a0 a1 a4 f5) x3 (w64 (shrU (u64 (w64 (x3 + x4))) 1)) else slices_symMergeCmpFunc_impl_Version_l1 x3 FUEL a1 a0
def slices_symMergeCmpFunc_impl_Version_l3 (x31 : Int) : Nat → Int → (List T_impl_Version) → Option (List T_impl_Version)
 | 0, _, _ => none
 | f46 + 1, x44, x45 => bif (decide (x44 > x31)) then (getI x45 (w64 (x44 - 1))).bind fun v49 => (getI x45 x44).bind fun v51 => (getI x45 x44).bind fun v53 => (getI (x45.set x44.toNat v49) (w64 (x44 - 1))).bind fun v55 => (slices_symMergeCmpFunc_impl_Version_l3 x31 f46) (w64 (x44 - 1)) ((x45.set x44.toNat v49).set (w64 (x44 - 1)).toNat v51) else some x45
def slices_symMergeCmpFunc_impl_Version_l2 (a0 : List T_impl_Version) (a2 : Int) (a4 : T_impl_Version → T_impl_Version → Option Int) : Nat → Int → Int → Option (List T_impl_Version)
 | 0, _, _ => none
 | f33 + 1, x31, x32 => bif (decide (x31 < x32)) then (getI a0 a2).bind fun v36 => (getI a0 (w64 (shrU (u64 (w64 (x31 + x32))) 1))).bind fun v38 => (a4 v36 v38).bind fun v40 => bif (!(decide (v40 < 0))) then (slices_symMergeCmpFunc_impl_Version_l2 a0 a2 a4 f33) (w64 ((w64 (shrU (u64 (w64 (x31 + x32))) 1)) + 1)) x32 else (slices_symMergeCmpFunc_impl_Version_l2 a0 a2 a4 f33) x31 (w64 (shrU (u64 (w64 (x31 + x32))) 1)) else slices_symMergeCmpFunc_impl_Version_l3 x31 FUEL a2 a0
def slices_symMergeCmpFunc_impl_Version_j8 (rec0 : (List T_impl_Version) → Int → Int → Int → Option (List T_impl_Version)) (a1 : Int) (a2 : Int) (a3 : Int) (x60 : Int) (x73 : List T_impl_Version) (x74 : Bool) : Option (List T_impl_Version) := bif x74 then (rec0 x73 (w64 (shrU (u64 (w64 (a1 + a3))) 1)) (w64 ((w64 ((w64 (shrU (u64 (w64 (a1 + a3))) 1)) + a2)) - x60)) a3).bind fun v76 => some v76 else some x73
def slices_symMergeCmpFunc_impl_Version_j7 (rec0 : (List T_impl_Version) → Int → Int → Int → Option (List T_impl_Version)) (a1 : Int) (a2 : Int) (a3 : Int) (x60 : Int) (x73 : List T_impl_Version) : Option (List T_impl_Version) := bif (decide ((w64 (shrU (u64 (w64 (a1 + a3))) 1)) < (w64 ((w64 ((w64 (shrU (u64 (w64 (a1 + a3))) 1)) + a2)) - x60)))) then slices_symMergeCmpFunc_impl_Version_j8 rec0 a1 a2 a3 x60 x73 (decide ((w64 ((w64 ((w64 (shrU (u64 (w64 (a1 + a3))) 1)) + a2)) - x60)) < a3)) else slices_symMergeCmpFunc_impl_Version_j8 rec0 a1 a2 a3 x60 x73 false
def slices_symMergeCmpFunc_impl_Version_j9 (rec0 : (List T_impl_Version) → Int → Int → Int → Option (List T_impl_Version)) (a1 : Int) (a2 : Int) (a3 : Int) (x60 : Int) (x72 : List T_impl_Version) (x79 : Bool) : Option (List T_impl_Version) := bif x79 then (rec0 x72 a1 x60 (w64 (shrU (u64 (w64 (a1 + a3))) 1))).bind fun v81 => slices_symMergeCmpFunc_impl_Version_j7 rec0 a1 a2 a3 x60 v81 else slices_symMergeCmpFunc_impl_Version_j7 rec0 a1 a2 a3 x60 x72
def slices_symMergeCmpFunc_impl_Version_j6 (rec0 : (List T_impl_Version) → Int → Int → Int → Option (List T_impl_Version)) (a1 : Int) (a2 : Int) (a3 : Int) (x60 : Int) (x72 : List T_impl_Version) : Option (List T_impl_Version) := bif (decide (a1 < x60)) then slices_symMergeCmpFunc_impl_Version_j9 rec0 a1 a2 a3 x60 x72 (decide (x60 < (w64 (shrU (u64 (w64 (a1 + a3))) 1)))) else slices_symMergeCmpFunc_impl_Version_j9 rec0 a1 a2 a3 x60 x72 false
def slices_symMergeCmpFunc_impl_Version_j10 (rec0 : (List T_impl_Version) → Int → Int → Int → Option (List T_impl_Version)) (a0 : List T_impl_Version) (a1 : Int) (a2 : Int) (a3 : Int) (a4 : T_impl_Version → T_impl_Version → Option Int) (x60 : Int) (x84 : Bool) : Option (List T_impl_Version) := bif x84 then (slices_rotateCmpFunc_impl_Version a0 x60 a2 (w64 ((w64 ((w64 (shrU (u64 (w64 (a1 + a3))) 1)) + a2)) - x60)) a4).bind fun v86 => slices_symMergeCmpFunc_impl_Version_j6 rec0 a1 a2 a3 x60 v86 else slices_symMergeCmpFunc_impl_Version_j6 rec0 a1 a2 a3 x60 a0
def slices_symMergeCmpFunc_impl_Version_l5 (rec0 : (List T_impl_Version) → Int → Int → Int → Option (List T_impl_Version)) (a0 : List T_impl_Version) (a1 : Int) (a2 : Int) (a3 : Int) (a4 : T_impl_Version → T_impl_Version → Option Int) : Nat → Int → Int → Option (List T_impl_Version)
 | 0, _, _ => none
 | f62 + 1, x60, x61 => bif (decide (x60 < x61)) then (getI a0 (w64 ((w64 ((w64 ((w64 (shrU (u64 (w64 (a1 + a3))) 1)) + a2)) - 1)) - (w64 (shrU (u64 (w64 (x60 + x61))) 1))))).bind fun v65 => (getI a0 (w64 (shrU (u64 (w64 (x60 + x61))) 1))).bind fun v67 => (a4 v65 v67).bind fun v69 => bif (!(decide (v69 < 0))) then (slices_symMergeCmpFunc_impl_Version_l5 rec0 a0 a1 a2 a3 a4 f62) (w64 ((w64 (shrU (u64 (w64 (x60 + x61))) 1)) + 1)) x61 else (slices_symMergeCmpFunc_impl_Version_l5 rec0 a0 a1 a2 a3 a4 f62) x60 (w64 (shrU (u64 (w64 (x60 + x61))) 1)) else bif (decide (x60 < a2)) then slices_symMergeCmpFunc_impl_Version_j10 rec0 a0 a1 a2 a3 a4 x60 (decide (a2 < (w64 ((w64 ((w64 (shrU (u64 (w64 (a1 + a3))) 1)) + a2)) - x60)))) else slices_symMergeCmpFunc_impl_Version_j10 rec0 a0 a1 a2 a3 a4 x60 false
def slices_symMergeCmpFunc_impl_Version_j4 (rec0 : (List T_impl_Version) → Int → Int → Int → Option (List T_impl_Version)) (a0 : List T_impl_Version) (a1 : Int) (a2 : Int) (a3 : Int) (a4 : T_impl_Version → T_impl_Version → Option Int) (x57 : Int) (x58 : Int) : Option (List T_impl_Version) := slices_symMergeCmpFunc_impl_Version_l5 rec0 a0 a1 a2 a3 a4 FUEL x57 x58
def slices_symMergeCmpFunc_impl_Version_s (rec0 : (List T_impl_Version) → Int → Int → Int → Option (List T_impl_Version)) (a0 : List T_impl_Version) (a1 : Int) (a2 : Int) (a3 : Int) (a4 : T_impl_Version → T_impl_Version → Option Int) : Option (List T_impl_Version) := bif ((w64 (a2 - a1)) == 1) then slices_symMergeCmpFunc_impl_Version_l0 a0 a1 a4 FUEL a2 a3 else bif ((w64 (a3 - a2)) == 1) then slices_symMergeCmpFunc_impl_Version_l2 a0 a2 a4 FUEL a1 a2 else bif (decide (a2 > (w64 (shrU (u64 (w64 (a1 + a3))) 1)))) then slices_symMergeCmpFunc_impl_Version_j4 rec0 a0 a1 a2 a3 a4 (w64 ((w64 ((w64 (shrU (u64 (w64 (a1 + a3))) 1)) + a2)) - a3)) (w64 (shrU (u64 (w64 (a1 + a3))) 1)) else slices_symMergeCmpFunc_impl_Version_j4 rec0 a0 a1 a2 a3 a4 a1 a2
def slices_symMergeCmpFunc_impl_Version_f (a4 : T_impl_Version → T_impl_Version → Option Int) : Nat → (List T_impl_Version) → Int → Int → Int → Option (List T_impl_Version)
 | 0, _, _, _, _ => none
 | f + 1, a0, a1, a2, a3 => (slices_symMergeCmpFunc_impl_Version_s (slices_symMergeCmpFunc_impl_Version_f a4 f) a0 a1 a2 a3 a4).bind fun y => bif (y.length == a0.length) then some y else none
def slices_symMergeCmpFunc_impl_Version (a0 : List T_impl_Version) (a1 : Int) (a2 : Int) (a3 : Int) (a4 : T_impl_Version → T_impl_Version → Option Int) : Option (List T_impl_Version) := slices_symMergeCmpFunc_impl_Version_f a4 FUEL a0 a1 a2 a3
theorem len_slices_symMergeCmpFunc_impl_Version_f (a4 : T_impl_Version → T_impl_Version → Option Int) : ∀ (f : Nat) {a0 : List T_impl_Version} {a1 : Int} {a2 : Int} {a3 : Int} {y : List T_impl_Version}, slices_symMergeCmpFunc_impl_Version_f a4 f a0 a1 a2 a3 = some y → y.length = a0.length
 | 0, _, _, _, _, _, h => by cases h
 | f + 1, _, _, _, _, _, h => (bindLen (f := fun y : List T_impl_Version => y) h).2
theorem len_slices_symMergeCmpFunc_impl_Version {a0 : List T_impl_Version} {a1 : Int} {a2 : Int} {a3 : Int} {a4 : T_impl_Version → T_impl_Version → Option Int} {y : List T_impl_Version} (h : slices_symMergeCmpFunc_impl_Version a0 a1 a2 a3 a4 = some y) : y.length = a0.length := len_slices_symMergeCmpFunc_impl_Version_f _ FUEL h
theorem ok_slices_symMergeCmpFunc_impl_Version_s {g4 : FuncId} {c4 : List V} (hz4 : frzL c4 = true) {a4 : T_impl_Version → T_impl_Version → Option Int} (hp4 : ∀ x0 x1 y, a4 x0 x1 = some y → OK Try.prog g4 ([E x0, E x1] ++ c4) (I y)) {a0 : List T_impl_Version} {a1 : Int} {a2 : Int} {a3 : Int} {rec0 : (List T_impl_Version) → Int → Int → Int → Option (List T_impl_Version)} (hrec : ∀ {a0 : List T_impl_Version} {a1 : Int} {a2 : Int} {a3 : Int} {y : List T_impl_Version}, rec0 a0 a1 a2 a3 = some y → OKs Try.prog 138 [] 4 a0.length (eL a0) [I a1, I a2, I a3, .fn g4 c4] (.tup []) (eL y)) (len_rec0 : ∀ {a0 : List T_impl_Version} {a1 : Int} {a2 : Int} {a3 : Int} {y : List T_impl_Version}, rec0 a0 a1 a2 a3 = some y → y.length = a0.length) {y : List T_impl_Version} (hl : y.length = a0.length) (h : slices_symMergeCmpFunc_impl_Version_s rec0 a0 a1 a2 a3 a4 = some y) : OKs Try.prog 138 [] 4 a0.length (eL a0) [I a1, I a2, I a3, .fn g4 c4] (.tup []) (eL y) := by
 refine OKs_of_pwp τ_ok Try.func138 rfl (by kernel_rfl) rfl (eL_frz _) (eL_frz _) (by rw [eL_len, eL_len, hl]) fun Γ hQ => ?_
 refine pwp_imp (Imp.to (st' := ⟨220, [(0, rf 0 0 4 a0), (1, I a1), (2, I a2), (3, I a3), (4, .fn g4 c4)], [sl 0 a0]⟩) [0, 1, 2, 3, 4] (by kernel_rfl)) ?_
 unfold slices_symMergeCmpFunc_impl_Version_s at h
 refine pwp_seq ?_
 refine srve 220 [(0, rf 0 0 4 a0), (1, I a1), (2, I a2), (3, I a3), (4, .fn g4 c4), (28, B ((w64 (a2 - a1)) == 1))] [sl 0 a0] ?_
 refine pc h (fun h => ?_) (fun h => ?_)
 refine srve 220 [(0, rf 0 0 4 a0), (1, I a1), (3, I a3), (4, .fn g4 c4), (10, I a2)] [sl 0 a0] ?_
 refine srve 220 [(0, rf 0 0 4 a0), (1, I a1), (4, .fn g4 c4), (10, I a2), (11, I a3)] [sl 0 a0] ?_
 refine pwp_seq ?_
 refine pwp_block ?_
 refine pwp_loop (ι := Nat × Int × Int) (fun (f5, x3, x4) => (⟨220, [(0, rf 0 0 4 a0), (1, I a1), (4, .fn g4 c4), (10, I x3), (11, I x4)], [sl 0 a0]⟩ : St)) (fun (f5, x3, x4) => slices_symMergeCmpFunc_impl_Version_l0 a0 a1 a4 f5 x3 x4 = some y) Prod.fst (FUEL, a2, a3) h (it [0, 1, 4, 10, 11]) ?_
 rintro ⟨f5, x3, x4⟩ h
 dsimp only at h ⊢
 rcases f5 with _ | f5
 cases h
 rw [slices_symMergeCmpFunc_impl_Version_l0] at h
 refine pwp_seq ?_
 refine srve 220 [(0, rf 0 0 4 a0), (1, I a1), (4, .fn g4 c4), (10, I x3), (11, I x4), (33, B (decide (x3 < x4)))] [sl 0 a0] ?_
 refine pc h (fun h => ?_) (fun h => ?_)
 refine pwp_skip ?_
 refine pwp_block ?_
 refine srve 220 [(0, rf 0 0 4 a0), (1, I a1), (4, .fn g4 c4), (10, I x3), (11, I x4), (12, I (w64 (shrU (u64 (w64 (x3 + x4))) 1)))] [sl 0 a0] ?_
 refine pwp_seq ?_
 refine ip 220 [(0, rf 0 0 4 a0), (1, I a1), (4, .fn g4 c4), (10, I x3), (11, I x4), (12, I (w64 (shrU (u64 (w64 (x3 + x4))) 1)))] [sl 0 a0] ?_
 refine pwp_any ([[], [0], [], [0], [0], [0], [], [0], [0], [], []]) ([[], [], [], [], [], [], [], [], [], [], []]) rfl (by kernel_rfl) ?_
 refine qA_mv (⟨220, [(40, .fn g4 c4), (0, rf 0 0 4 a0), (1, I a1), (4, .fn g4 c4), (10, I x3), (11, I x4), (12, I (w64 (shrU (u64 (w64 (x3 + x4))) 1)))], [sl 0 a0]⟩) (by kernel_rfl) rfl ?_
 refine qv [0] (hL trivial) 1 220 [(41, rf 0 0 4 a0), (40, .fn g4 c4), (0, rf 0 0 4 a0), (1, I a1), (4, .fn g4 c4), (10, I x3), (11, I x4), (12, I (w64 (shrU (u64 (w64 (x3 + x4))) 1)))] [sl 0 a0] ?_
 refine qv [] trivial 1 220 [(42, I (w64 (shrU (u64 (w64 (x3 + x4))) 1))), (41, rf 0 0 4 a0), (40, .fn g4 c4), (0, rf 0 0 4 a0), (1, I a1), (4, .fn g4 c4), (10, I x3), (11, I x4), (12, I (w64 (shrU (u64 (w64 (x3 + x4))) 1)))] [sl 0 a0] ?_
 obtain ⟨v8, hv9, h⟩ := bindS h
 refine qX (some 43) (.ptr 0 0 ((w64 (shrU (u64 (w64 (x3 + x4))) 1)).toNat * 4)) 220 [(43, .ptr 0 0 ((w64 (shrU (u64 (w64 (x3 + x4))) 1)).toNat * 4)), (40, .fn g4 c4), (0, rf 0 0 4 a0), (1, I a1), (4, .fn g4 c4), (10, I x3), (11, I x4), (12, I (w64 (shrU (u64 (w64 (x3 + x4))) 1)))] [sl 0 a0] (fun Γ' hΓ => CoreE.of_y (idrV_sound (n := a0.length) τ_ok (by kernel_rfl) hv9 rfl)) (hL trivial) ?_
 refine qX (some 44) (E v8) 220 [(44, E v8), (40, .fn g4 c4), (0, rf 0 0 4 a0), (1, I a1), (4, .fn g4 c4), (10, I x3), (11, I x4), (12, I (w64 (shrU (u64 (w64 (x3 + x4))) 1)))] [sl 0 a0] (fun Γ' hΓ => CoreE.of_y (ldeV_sound (t := 85) (o' := 0) (r := E v8) τ_ok hv9 (by kernel_rfl) (by kernel_rfl))) (hL trivial) ?_
 refine qv [0] (hL trivial) 1 220 [(45, rf 0 0 4 a0), (44, E v8), (40, .fn g4 c4), (0, rf 0 0 4 a0), (1, I a1), (4, .fn g4 c4), (10, I x3), (11, I x4), (12, I (w64 (shrU (u64 (w64 (x3 + x4))) 1)))] [sl 0 a0] ?_
 refine qv [] trivial 1 220 [(46, I a1), (45, rf 0 0 4 a0), (44, E v8), (40, .fn g4 c4), (0, rf 0 0 4 a0), (1, I a1), (4, .fn g4 c4), (10, I x3), (11, I x4), (12, I (w64 (shrU (u64 (w64 (x3 + x4))) 1)))] [sl 0 a0] ?_
 obtain ⟨v10, hv11, h⟩ := bindS h
 refine qX (some 47) (.ptr 0 0 (a1.toNat * 4)) 220 [(47, .ptr 0 0 (a1.toNat * 4)), (44, E v8), (40, .fn g4 c4), (0, rf 0 0 4 a0), (1, I a1), (4, .fn g4 c4), (10, I x3), (11, I x4), (12, I (w64 (shrU (u64 (w64 (x3 + x4))) 1)))] [sl 0 a0] (fun Γ' hΓ => CoreE.of_y (idrV_sound (n := a0.length) τ_ok (by kernel_rfl) hv11 rfl)) (hL trivial) ?_
 refine qX (some 48) (E v10) 220 [(48, E v10), (44, E v8), (40, .fn g4 c4), (0, rf 0 0 4 a0), (1, I a1), (4, .fn g4 c4), (10, I x3), (11, I x4), (12, I (w64 (shrU (u64 (w64 (x3 + x4))) 1)))] [sl 0 a0] (fun Γ' hΓ => CoreE.of_y (ldeV_sound (t := 85) (o' := 0) (r := E v10) τ_ok hv11 (by kernel_rfl) (by kernel_rfl))) (hL trivial) ?_
 obtain ⟨v12, hv13, h⟩ := bindS h
 refine qX (some 49) (I v12) 220 [(49, I v12), (0, rf 0 0 4 a0), (1, I a1), (4, .fn g4 c4), (10, I x3), (11, I x4), (12, I (w64 (shrU (u64 (w64 (x3 + x4))) 1)))] [sl 0 a0] (fun Γ' hΓ => CoreE.of_g (callV_sound (τ := τ) (by kernel_rfl) (frz_app (xs := [E v8, E v10]) rfl hz4) (hp4 _ _ _ hv13) (FzTo.frz rfl))) trivial ?_
 refine qvn [] trivial 1 220 [(0, rf 0 0 4 a0), (1, I a1), (4, .fn g4 c4), (10, I x3), (11, I x4), (12, I (w64 (shrU (u64 (w64 (x3 + x4))) 1))), (50, B (decide (v12 < 0)))] [sl 0 a0] ?_
 refine pc h (fun h => ?_) (fun h => ?_)
 refine rve 220 [(0, rf 0 0 4 a0), (1, I a1), (4, .fn g4 c4), (10, I (w64 ((w64 (shrU (u64 (w64 (x3 + x4))) 1)) + 1))), (11, I x4)] [sl 0 a0] ?_
 exact ⟨(f5, (w64 ((w64 (shrU (u64 (w64 (x3 + x4))) 1)) + 1)), x4), h, Nat.lt_succ_self _, it [0, 1, 4, 10, 11]⟩
 refine rve 220 [(0, rf 0 0 4 a0), (1, I a1), (4, .fn g4 c4), (10, I x3), (11, I (w64 (shrU (u64 (w64 (x3 + x4))) 1)))] [sl 0 a0] ?_
 exact ⟨(f5, x3, (w64 (shrU (u64 (w64 (x3 + x4))) 1))), h, Nat.lt_succ_self _, it [0, 1, 4, 10, 11]⟩
 refine pwp_exit ?_
 refine pwp_seq ?_
 refine srve 220 [(0, rf 0 0 4 a0), (10, I x3), (13, I a1)] [sl 0 a0] ?_
 refine pwp_block ?_
 refine pwp_loop (ι := Nat × Int × (List T_impl_Version)) (fun (f18, x16, x17) => (⟨220, [(0, rf 0 0 4 x17), (10, I x3), (13, I x16)], [sl 0 x17]⟩ : St)) (fun (f18, x16, x17) => slices_symMergeCmpFunc_impl_Version_l1 x3 f18 x16 x17 = some y) Prod.fst (FUEL, a1, a0) h (it [0, 10, 13]) ?_
 rintro ⟨f18, x16, x17⟩ h
 dsimp only at h ⊢
 rcases f18 with _ | f18
 cases h
 rw [slices_symMergeCmpFunc_impl_Version_l1] at h
 refine pwp_seq ?_
 refine srve 220 [(0, rf 0 0 4 x17), (10, I x3), (13, I x16), (58, B (decide (x16 < (w64 (x3 - 1)))))] [sl 0 x17] ?_
 refine pc h (fun h => ?_) (fun h => ?_)
 refine pwp_skip ?_
 refine pwp_seq ?_
 refine pwp_block ?_
 refine ip 220 [(0, rf 0 0 4 x17), (10, I x3), (13, I x16)] [sl 0 x17] ?_
 refine pwp_any ([[], [], [], [], [], [], [], [], [0], [0], [], [], [0], [0], [0], [0], [0], [0]]) ([[], [], [], [], [], [], [], [], [], [], [], [], [], [], [], [0], [], [0]]) rfl (by kernel_rfl) ?_
 refine qA_mv (⟨220, [(61, rf 0 0 4 x17), (0, rf 0 0 4 x17), (10, I x3), (13, I x16)], [sl 0 x17]⟩) (by kernel_rfl) rfl ?_
 refine qv [] trivial 1 220 [(62, I x16), (61, rf 0 0 4 x17), (0, rf 0 0 4 x17), (10, I x3), (13, I x16)] [sl 0 x17] ?_
 refine qA_mv (⟨220, [(63, rf 0 0 4 x17), (62, I x16), (61, rf 0 0 4 x17), (0, rf 0 0 4 x17), (10, I x3), (13, I x16)], [sl 0 x17]⟩) (by kernel_rfl) rfl ?_
 refine qv [] trivial 2 220 [(65, I (w64 (x16 + 1))), (63, rf 0 0 4 x17), (62, I x16), (61, rf 0 0 4 x17), (0, rf 0 0 4 x17), (10, I x3), (13, I x16)] [sl 0 x17] ?_
 refine qA_mv (⟨220, [(66, rf 0 0 4 x17), (65, I (w64 (x16 + 1))), (63, rf 0 0 4 x17), (62, I x16), (61, rf 0 0 4 x17), (0, rf 0 0 4 x17), (10, I x3), (13, I x16)], [sl 0 x17]⟩) (by kernel_rfl) rfl ?_
 refine qv [] trivial 2 220 [(68, I (w64 (x16 + 1))), (66, rf 0 0 4 x17), (65, I (w64 (x16 + 1))), (63, rf 0 0 4 x17), (62, I x16), (61, rf 0 0 4 x17), (0, rf 0 0 4 x17), (10, I x3), (13, I x16)] [sl 0 x17] ?_
 obtain ⟨v21, hv22, h⟩ := bindS h
 refine qX (some 69) (.ptr 0 0 ((w64 (x16 + 1)).toNat * 4)) 220 [(69, .ptr 0 0 ((w64 (x16 + 1)).toNat * 4)), (65, I (w64 (x16 + 1))), (63, rf 0 0 4 x17), (62, I x16), (61, rf 0 0 4 x17), (0, rf 0 0 4 x17), (10, I x3), (13, I x16)] [sl 0 x17] (fun Γ' hΓ => CoreE.of_y (idrV_sound (n := x17.length) τ_ok (by kernel_rfl) hv22 rfl)) (hL trivial) ?_
 refine qX (some 70) (E v21) 220 [(70, E v21), (65, I (w64 (x16 + 1))), (63, rf 0 0 4 x17), (62, I x16), (61, rf 0 0 4 x17), (0, rf 0 0 4 x17), (10, I x3), (13, I x16)] [sl 0 x17] (fun Γ' hΓ => CoreE.of_y (ldeV_sound (t := 85) (o' := 0) (r := E v21) τ_ok hv22 (by kernel_rfl) (by kernel_rfl))) (hL trivial) ?_
 refine qA_mv (⟨220, [(71, rf 0 0 4 x17), (70, E v21), (65, I (w64 (x16 + 1))), (63, rf 0 0 4 x17), (62, I x16), (61, rf 0 0 4 x17), (0, rf 0 0 4 x17), (10, I x3), (13, I x16)], [sl 0 x17]⟩) (by kernel_rfl) rfl ?_
 refine qv [] trivial 1 220 [(72, I x16), (71, rf 0 0 4 x17), (70, E v21), (65, I (w64 (x16 + 1))), (63, rf 0 0 4 x17), (62, I x16), (61, rf 0 0 4 x17), (0, rf 0 0 4 x17), (10, I x3), (13, I x16)] [sl 0 x17] ?_
 obtain ⟨v23, hv24, h⟩ := bindS h
 refine qX (some 73) (.ptr 0 0 (x16.toNat * 4)) 220 [(73, .ptr 0 0 (x16.toNat * 4)), (70, E v21), (65, I (w64 (x16 + 1))), (63, rf 0 0 4 x17), (62, I x16), (61, rf 0 0 4 x17), (0, rf 0 0 4 x17), (10, I x3), (13, I x16)] [sl 0 x17] (fun Γ' hΓ => CoreE.of_y (idrV_sound (n := x17.length) τ_ok (by kernel_rfl) hv24 rfl)) (hL trivial) ?_
 refine qX (some 74) (E v23) 220 [(74, E v23), (70, E v21), (65, I (w64 (x16 + 1))), (63, rf 0 0 4 x17), (62, I x16), (61, rf 0 0 4 x17), (0, rf 0 0 4 x17), (10, I x3), (13, I x16)] [sl 0 x17] (fun Γ' hΓ => CoreE.of_y (ldeV_sound (t := 85) (o' := 0) (r := E v23) τ_ok hv24 (by kernel_rfl) (by kernel_rfl))) (hL trivial) ?_
 obtain ⟨v25, hv26, h⟩ := bindS h
 refine qX (some 75) (.ptr 0 0 (x16.toNat * 4)) 220 [(75, .ptr 0 0 (x16.toNat * 4)), (74, E v23), (70, E v21), (65, I (w64 (x16 + 1))), (63, rf 0 0 4 x17), (0, rf 0 0 4 x17), (10, I x3), (13, I x16)] [sl 0 x17] (fun Γ' hΓ => CoreE.of_y (idrV_sound (n := x17.length) τ_ok (by kernel_rfl) hv26 rfl)) (hL trivial) ?_
 refine qX none (.any) 220 [(74, E v23), (65, I (w64 (x16 + 1))), (63, rf 0 0 4 x17), (0, rf 0 0 4 x17), (10, I x3), (13, I x16)] [some ⟨0, eL (x17.set x16.toNat v21)⟩] (fun Γ' hΓ => ste_E (vs := [I v21.fKey, I v21.fBorn, I v21.fDied, A v21.fRow]) τ_ok 85 0 0 0 v21 hv26 (by kernel_rfl) (by kernel_rfl) (by kernel_rfl)) (hL trivial) ?_
 refine qA_ren (st' := ⟨220, [(74, E v23), (65, I (w64 (x16 + 1))), (63, .ref 0 0 0 4 (x17.set x16.toNat v21).length false), (0, .ref 0 0 0 4 (x17.set x16.toNat v21).length false), (10, I x3), (13, I x16)], [some ⟨0, eL (x17.set x16.toNat v21)⟩]⟩) 0 (x17.set x16.toNat v21).length (renC trivial (renC trivial (renC (ren_ref (List.length_set ..).symm) (renC (ren_ref (List.length_set ..).symm) (renC trivial (renC trivial renC0)))))) (by kernel_rfl) ?_
 obtain ⟨v27, hv28, h⟩ := bindS h
 refine qX (some 76) (.ptr 0 0 ((w64 (x16 + 1)).toNat * 4)) 220 [(76, .ptr 0 0 ((w64 (x16 + 1)).toNat * 4)), (74, E v23), (0, .ref 0 0 0 4 (x17.set x16.toNat v21).length false), (10, I x3), (13, I x16)] [some ⟨0, eL (x17.set x16.toNat v21)⟩] (fun Γ' hΓ => CoreE.of_y (idrV_sound (n := (x17.set x16.toNat v21).length) τ_ok (by kernel_rfl) hv28 rfl)) (hL trivial) ?_
 refine qX none (.any) 220 [(0, .ref 0 0 0 4 (x17.set x16.toNat v21).length false), (10, I x3), (13, I x16)] [some ⟨0, eL ((x17.set x16.toNat v21).set (w64 (x16 + 1)).toNat v23)⟩] (fun Γ' hΓ => ste_E (vs := [I v23.fKey, I v23.fBorn, I v23.fDied, A v23.fRow]) τ_ok 85 0 0 0 v23 hv28 (by kernel_rfl) (by kernel_rfl) (by kernel_rfl)) (hL trivial) ?_
 refine qA_ren (st' := ⟨220, [(0, .ref 0 0 0 4 ((x17.set x16.toNat v21).set (w64 (x16 + 1)).toNat v23).length false), (10, I x3), (13, I x16)], [some ⟨0, eL ((x17.set x16.toNat v21).set (w64 (x16 + 1)).toNat v23)⟩]⟩) 0 ((x17.set x16.toNat v21).set (w64 (x16 + 1)).toNat v23).length (renC (ren_ref (List.length_set ..).symm) (renC trivial (renC trivial renC0))) (by kernel_rfl) ?_
 refine qn 220 [(0, .ref 0 0 0 4 ((x17.set x16.toNat v21).set (w64 (x16 + 1)).toNat v23).length false), (10, I x3), (13, I x16)] [some ⟨0, eL ((x17.set x16.toNat v21).set (w64 (x16 + 1)).toNat v23)⟩] ?_
 refine rve 220 [(0, .ref 0 0 0 4 ((x17.set x16.toNat v21).set (w64 (x16 + 1)).toNat v23).length false), (10, I x3), (13, I (w64 (x16 + 1)))] [some ⟨0, eL ((x17.set x16.toNat v21).set (w64 (x16 + 1)).toNat v23)⟩] ?_
 exact ⟨(f18, (w64 (x16 + 1)), ((x17.set x16.toNat v21).set (w64 (x16 + 1)).toNat v23)), h, Nat.lt_succ_self _, it [0, 10, 13]⟩
 refine pwp_exit ?_
 have h := si h
 subst h
 first | exact ⟨.inl rfl, .tup [], _, 0, by kernel_rfl, (OutP.tup (OutL.nil _)), by decide, by decide, by kernel_rfl⟩ | exact pwp_ret ⟨.inr rfl, .tup [], _, 0, by kernel_rfl, (OutP.tup (OutL.nil _)), by decide, by decide, by kernel_rfl⟩
 refine pwp_skip ?_
 refine pwp_seq ?_
 refine srve 220 [(0, rf 0 0 4 a0), (1, I a1), (2, I a2), (3, I a3), (4, .fn g4 c4), (80, B ((w64 (a3 - a2)) == 1))] [sl 0 a0] ?_
 refine pc h (fun h => ?_) (fun h => ?_)
 refine srve 220 [(0, rf 0 0 4 a0), (2, I a2), (4, .fn g4 c4), (14, I a1)] [sl 0 a0] ?_
 refine srve 220 [(0, rf 0 0 4 a0), (2, I a2), (4, .fn g4 c4), (14, I a1), (15, I a2)] [sl 0 a0] ?_
 refine pwp_seq ?_
 refine pwp_block ?_
 refine pwp_loop (ι := Nat × Int × Int) (fun (f33, x31, x32) => (⟨220, [(0, rf 0 0 4 a0), (2, I a2), (4, .fn g4 c4), (14, I x31), (15, I x32)], [sl 0 a0]⟩ : St)) (fun (f33, x31, x32) => slices_symMergeCmpFunc_impl_Version_l2 a0 a2 a4 f33 x31 x32 = some y) Prod.fst (FUEL, a1, a2) h (it [0, 2, 4, 14, 15]) ?_
 rintro ⟨f33, x31, x32⟩ h
 dsimp only at h ⊢
 rcases f33 with _ | f33
 cases h
 rw [slices_symMergeCmpFunc_impl_Version_l2] at h
 refine pwp_seq ?_
 refine srve 220 [(0, rf 0 0 4 a0), (2, I a2), (4, .fn g4 c4), (14, I x31), (15, I x32), (85, B (decide (x31 < x32)))] [sl 0 a0] ?_
 refine pc h (fun h => ?_) (fun h => ?_)
 refine pwp_skip ?_
 refine pwp_block ?_
 refine srve 220 [(0, rf 0 0 4 a0), (2, I a2), (4, .fn g4 c4), (14, I x31), (15, I x32), (16, I (w64 (shrU (u64 (w64 (x31 + x32))) 1)))] [sl 0 a0] ?_
 refine pwp_seq ?_
 refine ip 220 [(0, rf 0 0 4 a0), (2, I a2), (4, .fn g4 c4), (14, I x31), (15, I x32), (16, I (w64 (shrU (u64 (w64 (x31 + x32))) 1)))] [sl 0 a0] ?_
 refine pwp_any ([[], [0], [], [0], [0], [0], [], [0], [0], [], [], []]) ([[], [], [], [], [], [], [], [], [], [], [], []]) rfl (by kernel_rfl) ?_
 refine qA_mv (⟨220, [(92, .fn g4 c4), (0, rf 0 0 4 a0), (2, I a2), (4, .fn g4 c4), (14, I x31), (15, I x32), (16, I (w64 (shrU (u64 (w64 (x31 + x32))) 1)))], [sl 0 a0]⟩) (by kernel_rfl) rfl ?_
 refine qv [0] (hL trivial) 1 220 [(93, rf 0 0 4 a0), (92, .fn g4 c4), (0, rf 0 0 4 a0), (2, I a2), (4, .fn g4 c4), (14, I x31), (15, I x32), (16, I (w64 (shrU (u64 (w64 (x31 + x32))) 1)))] [sl 0 a0] ?_
 refine qv [] trivial 1 220 [(94, I a2), (93, rf 0 0 4 a0), (92, .fn g4 c4), (0, rf 0 0 4 a0), (2, I a2), (4, .fn g4 c4), (14, I x31), (15, I x32), (16, I (w64 (shrU (u64 (w64 (x31 + x32))) 1)))] [sl 0 a0] ?_
 obtain ⟨v36, hv37, h⟩ := bindS h
 refine qX (some 95) (.ptr 0 0 (a2.toNat * 4)) 220 [(95, .ptr 0 0 (a2.toNat * 4)), (92, .fn g4 c4), (0, rf 0 0 4 a0), (2, I a2), (4, .fn g4 c4), (14, I x31), (15, I x32), (16, I (w64 (shrU (u64 (w64 (x31 + x32))) 1)))] [sl 0 a0] (fun Γ' hΓ => CoreE.of_y (idrV_sound (n := a0.length) τ_ok (by kernel_rfl) hv37 rfl)) (hL trivial) ?_
 refine qX (some 96) (E v36) 220 [(96, E v36), (92, .fn g4 c4), (0, rf 0 0 4 a0), (2, I a2), (4, .fn g4 c4), (14, I x31), (15, I x32), (16, I (w64 (shrU (u64 (w64 (x31 + x32))) 1)))] [sl 0 a0] (fun Γ' hΓ => CoreE.of_y (ldeV_sound (t := 85) (o' := 0) (r := E v36) τ_ok hv37 (by kernel_rfl) (by kernel_rfl))) (hL trivial) ?_
 refine qv [0] (hL trivial) 1 220 [(97, rf 0 0 4 a0), (96, E v36), (92, .fn g4 c4), (0, rf 0 0 4 a0), (2, I a2), (4, .fn g4 c4), (14, I x31), (15, I x32), (16, I (w64 (shrU (u64 (w64 (x31 + x32))) 1)))] [sl 0 a0] ?_
 refine qv [] trivial 1 220 [(98, I (w64 (shrU (u64 (w64 (x31 + x32))) 1))), (97, rf 0 0 4 a0), (96, E v36), (92, .fn g4 c4), (0, rf 0 0 4 a0), (2, I a2), (4, .fn g4 c4), (14, I x31), (15, I x32), (16, I (w64 (shrU (u64 (w64 (x31 + x32))) 1)))] [sl 0 a0] ?_
 obtain ⟨v38, hv39, h⟩ := bindS h
 refine qX (some 99) (.ptr 0 0 ((w64 (shrU (u64 (w64 (x31 + x32))) 1)).toNat * 4)) 220 [(99, .ptr 0 0 ((w64 (shrU (u64 (w64 (x31 + x32))) 1)).toNat * 4)), (96, E v36), (92, .fn g4 c4), (0, rf 0 0 4 a0), (2, I a2), (4, .fn g4 c4), (14, I x31), (15, I x32), (16, I (w64 (shrU (u64 (w64 (x31 + x32))) 1)))] [sl 0 a0] (fun Γ' hΓ => CoreE.of_y (idrV_sound (n := a0.length) τ_ok (by kernel_rfl) hv39 rfl)) (hL trivial) ?_
 refine qX (some 100) (E v38) 220 [(100, E v38), (96, E v36), (92, .fn g4 c4), (0, rf 0 0 4 a0), (2, I a2), (4, .fn g4 c4), (14, I x31), (15, I x32), (16, I (w64 (shrU (u64 (w64 (x31 + x32))) 1)))] [sl 0 a0] (fun Γ' hΓ => CoreE.of_y (ldeV_sound (t := 85) (o' := 0) (r := E v38) τ_ok hv39 (by kernel_rfl) (by kernel_rfl))) (hL trivial) ?_
 obtain ⟨v40, hv41, h⟩ := bindS h
 refine qX (some 101) (I v40) 220 [(101, I v40), (0, rf 0 0 4 a0), (2, I a2), (4, .fn g4 c4), (14, I x31), (15, I x32), (16, I (w64 (shrU (u64 (w64 (x31 + x32))) 1)))] [sl 0 a0] (fun Γ' hΓ => CoreE.of_g (callV_sound (τ := τ) (by kernel_rfl) (frz_app (xs := [E v36, E v38]) rfl hz4) (hp4 _ _ _ hv41) (FzTo.frz rfl))) trivial ?_
 refine qvn [] trivial 2 220 [(0, rf 0 0 4 a0), (2, I a2), (4, .fn g4 c4), (14, I x31), (15, I x32), (16, I (w64 (shrU (u64 (w64 (x31 + x32))) 1))), (103, B (!(decide (v40 < 0))))] [sl 0 a0] ?_
 refine pc h (fun h => ?_) (fun h => ?_)
 refine rve 220 [(0, rf 0 0 4 a0), (2, I a2), (4, .fn g4 c4), (14, I (w64 ((w64 (shrU (u64 (w64 (x31 + x32))) 1)) + 1))), (15, I x32)] [sl 0 a0] ?_
 exact ⟨(f33, (w64 ((w64 (shrU (u64 (w64 (x31 + x32))) 1)) + 1)), x32), h, Nat.lt_succ_self _, it [0, 2, 4, 14, 15]⟩
 refine rve 220 [(0, rf 0 0 4 a0), (2, I a2), (4, .fn g4 c4), (14, I x31), (15, I (w64 (shrU (u64 (w64 (x31 + x32))) 1)))] [sl 0 a0] ?_
 exact ⟨(f33, x31, (w64 (shrU (u64 (w64 (x31 + x32))) 1))), h, Nat.lt_succ_self _, it [0, 2, 4, 14, 15]⟩
 refine pwp_exit ?_
 refine pwp_seq ?_
 refine srve 220 [(0, rf 0 0 4 a0), (14, I x31), (17, I a2)] [sl 0 a0] ?_
 refine pwp_block ?_
 refine pwp_loop (ι := Nat × Int × (List T_impl_Version)) (fun (f46, x44, x45) => (⟨220, [(0, rf 0 0 4 x45), (14, I x31), (17, I x44)], [sl 0 x45]⟩ : St)) (fun (f46, x44, x45) => slices_symMergeCmpFunc_impl_Version_l3 x31 f46 x44 x45 = some y) Prod.fst (FUEL, a2, a0) h (it [0, 14, 17]) ?_
 rintro ⟨f46, x44, x45⟩ h
 dsimp only at h ⊢
 rcases f46 with _ | f46
 cases h
 rw [slices_symMergeCmpFunc_impl_Version_l3] at h
 refine pwp_seq ?_
 refine srve 220 [(0, rf 0 0 4 x45), (14, I x31), (17, I x44), (110, B (decide (x44 > x31)))] [sl 0 x45] ?_
 refine pc h (fun h => ?_) (fun h => ?_)
 refine pwp_skip ?_
 refine pwp_seq ?_
 refine pwp_block ?_
 refine ip 220 [(0, rf 0 0 4 x45), (14, I x31), (17, I x44)] [sl 0 x45] ?_
 refine pwp_any ([[], [], [], [], [], [], [], [], [0], [0], [], [], [0], [0], [0], [0], [0], [0]]) ([[], [], [], [], [], [], [], [], [], [], [], [], [], [], [], [0], [], [0]]) rfl (by kernel_rfl) ?_
 refine qA_mv (⟨220, [(113, rf 0 0 4 x45), (0, rf 0 0 4 x45), (14, I x31), (17, I x44)], [sl 0 x45]⟩) (by kernel_rfl) rfl ?_
 refine qv [] trivial 1 220 [(114, I x44), (113, rf 0 0 4 x45), (0, rf 0 0 4 x45), (14, I x31), (17, I x44)] [sl 0 x45] ?_
 refine qA_mv (⟨220, [(115, rf 0 0 4 x45), (114, I x44), (113, rf 0 0 4 x45), (0, rf 0 0 4 x45), (14, I x31), (17, I x44)], [sl 0 x45]⟩) (by kernel_rfl) rfl ?_
 refine qv [] trivial 2 220 [(117, I (w64 (x44 - 1))), (115, rf 0 0 4 x45), (114, I x44), (113, rf 0 0 4 x45), (0, rf 0 0 4 x45), (14, I x31), (17, I x44)] [sl 0 x45] ?_
 refine qA_mv (⟨220, [(118, rf 0 0 4 x45), (117, I (w64 (x44 - 1))), (115, rf 0 0 4 x45), (114, I x44), (113, rf 0 0 4 x45), (0, rf 0 0 4 x45), (14, I x31), (17, I x44)], [sl 0 x45]⟩) (by kernel_rfl) rfl ?_
 refine qv [] trivial 2 220 [(120, I (w64 (x44 - 1))), (118, rf 0 0 4 x45), (117, I (w64 (x44 - 1))), (115, rf 0 0 4 x45), (114, I x44), (113, rf 0 0 4 x45), (0, rf 0 0 4 x45), (14, I x31), (17, I x44)] [sl 0 x45] ?_
 obtain ⟨v49, hv50, h⟩ := bindS h
 refine qX (some 121) (.ptr 0 0 ((w64 (x44 - 1)).toNat * 4)) 220 [(121, .ptr 0 0 ((w64 (x44 - 1)).toNat * 4)), (117, I (w64 (x44 - 1))), (115, rf 0 0 4 x45), (114, I x44), (113, rf 0 0 4 x45), (0, rf 0 0 4 x45), (14, I x31), (17, I x44)] [sl 0 x45] (fun Γ' hΓ => CoreE.of_y (idrV_sound (n := x45.length) τ_ok (by kernel_rfl) hv50 rfl)) (hL trivial) ?_
 refine qX (some 122) (E v49) 220 [(122, E v49), (117, I (w64 (x44 - 1))), (115, rf 0 0 4 x45), (114, I x44), (113, rf 0 0 4 x45), (0, rf 0 0 4 x45), (14, I x31), (17, I x44)] [sl 0 x45] (fun Γ' hΓ => CoreE.of_y (ldeV_sound (t := 85) (o' := 0) (r := E v49) τ_ok hv50 (by kernel_rfl) (by kernel_rfl))) (hL trivial) ?_
 refine qA_mv (⟨220, [(123, rf 0 0 4 x45), (122, E v49), (117, I (w64 (x44 - 1))), (115, rf 0 0 4 x45), (114, I x44), (113, rf 0 0 4 x45), (0, rf 0 0 4 x45), (14, I x31), (17, I x44)], [sl 0 x45]⟩) (by kernel_rfl) rfl ?_
 refine qv [] trivial 1 220 [(124, I x44), (123, rf 0 0 4 x45), (122, E v49), (117, I (w64 (x44 - 1))), (115, rf 0 0 4 x45), (114, I x44), (113, rf 0 0 4 x45), (0, rf 0 0 4 x45), (14, I x31), (17, I x44)] [sl 0 x45] ?_
 obtain ⟨v51, hv52, h⟩ := bindS h
 refine qX (some 125) (.ptr 0 0 (x44.toNat * 4)) 220 [(125, .ptr 0 0 (x44.toNat * 4)), (122, E v49), (117, I (w64 (x44 - 1))), (115, rf 0 0 4 x45), (114, I x44), (113, rf 0 0 4 x45), (0, rf 0 0 4 x45), (14, I x31), (17, I x44)] [sl 0 x45] (fun Γ' hΓ => CoreE.of_y (idrV_sound (n := x45.length) τ_ok (by kernel_rfl) hv52 rfl)) (hL trivial) ?_
 refine qX (some 126) (E v51) 220 [(126, E v51), (122, E v49), (117, I (w64 (x44 - 1))), (115, rf 0 0 4 x45), (114, I x44), (113, rf 0 0 4 x45), (0, rf 0 0 4 x45), (14, I x31), (17, I x44)] [sl 0 x45] (fun Γ' hΓ => CoreE.of_y (ldeV_sound (t := 85) (o' := 0) (r := E v51) τ_ok hv52 (by kernel_rfl) (by kernel_rfl))) (hL trivial) ?_
 obtain ⟨v53, hv54, h⟩ := bindS h
 refine qX (some 127) (.ptr 0 0 (x44.toNat * 4)) 220 [(127, .ptr 0 0 (x44.toNat * 4)), (126, E v51), (122, E v49), (117, I (w64 (x44 - 1))), (115, rf 0 0 4 x45), (0, rf 0 0 4 x45), (14, I x31), (17, I x44)] [sl 0 x45] (fun Γ' hΓ => CoreE.of_y (idrV_sound (n := x45.length) τ_ok (by kernel_rfl) hv54 rfl)) (hL trivial) ?_
 refine qX none (.any) 220 [(126, E v51), (117, I (w64 (x44 - 1))), (115, rf 0 0 4 x45), (0, rf 0 0 4 x45), (14, I x31), (17, I x44)] [some ⟨0, eL (x45.set x44.toNat v49)⟩] (fun Γ' hΓ => ste_E (vs := [I v49.fKey, I v49.fBorn, I v49.fDied, A v49.fRow]) τ_ok 85 0 0 0 v49 hv54 (by kernel_rfl) (by kernel_rfl) (by kernel_rfl)) (hL trivial) ?_
 refine qA_ren (st' := ⟨220, [(126, E v51), (117, I (w64 (x44 - 1))), (115, .ref 0 0 0 4 (x45.set x44.toNat v49).length false), (0, .ref 0 0 0 4 (x45.set x44.toNat v49).length false), (14, I x31), (17, I x44)], [some ⟨0, eL (x45.set x44.toNat v49)⟩]⟩) 0 (x45.set x44.toNat v49).length (renC trivial (renC trivial (renC (ren_ref (List.length_set ..).symm) (renC (ren_ref (List.length_set ..).symm) (renC trivial (renC trivial renC0)))))) (by kernel_rfl) ?_
 obtain ⟨v55, hv56, h⟩ := bindS h
 refine qX (some 128) (.ptr 0 0 ((w64 (x44 - 1)).toNat * 4)) 220 [(128, .ptr 0 0 ((w64 (x44 - 1)).toNat * 4)), (126, E v51), (0, .ref 0 0 0 4 (x45.set x44.toNat v49).length false), (14, I x31), (17, I x44)] [some ⟨0, eL (x45.set x44.toNat v49)⟩] (fun Γ' hΓ => CoreE.of_y (idrV_sound (n := (x45.set x44.toNat v49).length) τ_ok (by kernel_rfl) hv56 rfl)) (hL trivial) ?_
 refine qX none (.any) 220 [(0, .ref 0 0 0 4 (x45.set x44.toNat v49).length false), (14, I x31), (17, I x44)] [some ⟨0, eL ((x45.set x44.toNat v49).set (w64 (x44 - 1)).toNat v51)⟩] (fun Γ' hΓ => ste_E (vs := [I v51.fKey, I v51.fBorn, I v51.fDied, A v51.fRow]) τ_ok 85 0 0 0 v51 hv56 (by kernel_rfl) (by kernel_rfl) (by kernel_rfl)) (hL trivial) ?_
 refine qA_ren (st' := ⟨220, [(0, .ref 0 0 0 4 ((x45.set x44.toNat v49).set (w64 (x44 - 1)).toNat v51).length false), (14, I x31), (17, I x44)], [some ⟨0, eL ((x45.set x44.toNat v49).set (w64 (x44 - 1)).toNat v51)⟩]⟩) 0 ((x45.set x44.toNat v49).set (w64 (x44 - 1)).toNat v51).length (renC (ren_ref (List.length_set ..).symm) (renC trivial (renC trivial renC0))) (by kernel_rfl) ?_
 refine qn 220 [(0, .ref 0 0 0 4 ((x45.set x44.toNat v49).set (w64 (x44 - 1)).toNat v51).length false), (14, I x31), (17, I x44)] [some ⟨0, eL ((x45.set x44.toNat v49).set (w64 (x44 - 1)).toNat v51)⟩] ?_
 refine rve 220 [(0, .ref 0 0 0 4 ((x45.set x44.toNat v49).set (w64 (x44 - 1)).toNat v51).length false), (14, I x31), (17, I (w64 (x44 - 1)))] [some ⟨0, eL ((x45.set x44.toNat v49).set (w64 (x44 - 1)).toNat v51)⟩] ?_
 exact ⟨(f46, (w64 (x44 - 1)), ((x45.set x44.toNat v49).set (w64 (x44 - 1)).toNat v51)), h, Nat.lt_succ_self _, it [0, 14, 17]⟩
 refine pwp_exit ?_
 have h := si h
 subst h
 first | exact ⟨.inl rfl, .tup [], _, 0, by kernel_rfl, (OutP.tup (OutL.nil _)), by decide, by decide, by kernel_rfl⟩ | exact pwp_ret ⟨.inr rfl, .tup [], _, 0, by kernel_rfl, (OutP.tup (OutL.nil _)), by decide, by decide, by kernel_rfl⟩
 refine pwp_skip ?_
 refine srve 220 [(0, rf 0 0 4 a0), (1, I a1), (2, I a2), (3, I a3), (4, .fn g4 c4), (18, I (w64 (shrU (u64 (w64 (a1 + a3))) 1)))] [sl 0 a0] ?_
 refine srve 220 [(0, rf 0 0 4 a0), (1, I a1), (2, I a2), (3, I a3), (4, .fn g4 c4), (18, I (w64 (shrU (u64 (w64 (a1 + a3))) 1))), (19, I (w64 ((w64 (shrU (u64 (w64 (a1 + a3))) 1)) + a2)))] [sl 0 a0] ?_
 refine srve 220 [(0, rf 0 0 4 a0), (1, I a1), (2, I a2), (3, I a3), (4, .fn g4 c4), (18, I (w64 (shrU (u64 (w64 (a1 + a3))) 1))), (19, I (w64 ((w64 (shrU (u64 (w64 (a1 + a3))) 1)) + a2)))] [sl 0 a0] ?_
 refine pwp_seq ?_
 refine pwp_join (σ := Int × Int) (fun (x57, x58) => (⟨220, [(0, rf 0 0 4 a0), (1, I a1), (2, I a2), (3, I a3), (4, .fn g4 c4), (18, I (w64 (shrU (u64 (w64 (a1 + a3))) 1))), (19, I (w64 ((w64 (shrU (u64 (w64 (a1 + a3))) 1)) + a2))), (20, I x57), (21, I x58)], [sl 0 a0]⟩ : St)) (fun (x57, x58) => slices_symMergeCmpFunc_impl_Version_j4 rec0 a0 a1 a2 a3 a4 x57 x58 = some y) ?_ ?_
 refine srve 220 [(0, rf 0 0 4 a0), (1, I a1), (2, I a2), (3, I a3), (4, .fn g4 c4), (18, I (w64 (shrU (u64 (w64 (a1 + a3))) 1))), (19, I (w64 ((w64 (shrU (u64 (w64 (a1 + a3))) 1)) + a2))), (140, B (decide (a2 > (w64 (shrU (u64 (w64 (a1 + a3))) 1)))))] [sl 0 a0] ?_
 refine pc h (fun h => ?_) (fun h => ?_)
 refine srve 220 [(0, rf 0 0 4 a0), (1, I a1), (2, I a2), (3, I a3), (4, .fn g4 c4), (18, I (w64 (shrU (u64 (w64 (a1 + a3))) 1))), (19, I (w64 ((w64 (shrU (u64 (w64 (a1 + a3))) 1)) + a2))), (20, I (w64 ((w64 ((w64 (shrU (u64 (w64 (a1 + a3))) 1)) + a2)) - a3)))] [sl 0 a0] ?_
 refine rve 220 [(0, rf 0 0 4 a0), (1, I a1), (2, I a2), (3, I a3), (4, .fn g4 c4), (18, I (w64 (shrU (u64 (w64 (a1 + a3))) 1))), (19, I (w64 ((w64 (shrU (u64 (w64 (a1 + a3))) 1)) + a2))), (20, I (w64 ((w64 ((w64 (shrU (u64 (w64 (a1 + a3))) 1)) + a2)) - a3))), (21, I (w64 (shrU (u64 (w64 (a1 + a3))) 1)))] [sl 0 a0] ?_
 exact ⟨((w64 ((w64 ((w64 (shrU (u64 (w64 (a1 + a3))) 1)) + a2)) - a3)), (w64 (shrU (u64 (w64 (a1 + a3))) 1))), h, it [0, 1, 2, 3, 4, 18, 19, 20, 21]⟩
 refine srve 220 [(0, rf 0 0 4 a0), (1, I a1), (2, I a2), (3, I a3), (4, .fn g4 c4), (18, I (w64 (shrU (u64 (w64 (a1 + a3))) 1))), (19, I (w64 ((w64 (shrU (u64 (w64 (a1 + a3))) 1)) + a2))), (20, I a1)] [sl 0 a0] ?_
 refine rve 220 [(0, rf 0 0 4 a0), (1, I a1), (2, I a2), (3, I a3), (4, .fn g4 c4), (18, I (w64 (shrU (u64 (w64 (a1 + a3))) 1))), (19, I (w64 ((w64 (shrU (u64 (w64 (a1 + a3))) 1)) + a2))), (20, I a1), (21, I a2)] [sl 0 a0] ?_
 exact ⟨(a1, a2), h, it [0, 1, 2, 3, 4, 18, 19, 20, 21]⟩
 rintro ⟨x57, x58⟩ h
 dsimp only at h ⊢
 unfold slices_symMergeCmpFunc_impl_Version_j4 at h
 refine srve 220 [(0, rf 0 0 4 a0), (1, I a1), (2, I a2), (3, I a3), (4, .fn g4 c4), (18, I (w64 (shrU (u64 (w64 (a1 + a3))) 1))), (19, I (w64 ((w64 (shrU (u64 (w64 (a1 + a3))) 1)) + a2))), (20, I x57), (21, I x58), (22, I (w64 ((w64 ((w64 (shrU (u64 (w64 (a1 + a3))) 1)) + a2)) - 1)))] [sl 0 a0] ?_
 refine pwp_seq ?_
 refine pwp_block ?_
 refine pwp_loop (ι := Nat × Int × Int) (fun (f62, x60, x61) => (⟨220, [(0, rf 0 0 4 a0), (1, I a1), (2, I a2), (3, I a3), (4, .fn g4 c4), (18, I (w64 (shrU (u64 (w64 (a1 + a3))) 1))), (19, I (w64 ((w64 (shrU (u64 (w64 (a1 + a3))) 1)) + a2))), (20, I x60), (21, I x61), (22, I (w64 ((w64 ((w64 (shrU (u64 (w64 (a1 + a3))) 1)) + a2)) - 1)))], [sl 0 a0]⟩ : St)) (fun (f62, x60, x61) => slices_symMergeCmpFunc_impl_Version_l5 rec0 a0 a1 a2 a3 a4 f62 x60 x61 = some y) Prod.fst (FUEL, x57, x58) h (it [0, 1, 2, 3, 4, 18, 19, 20, 21, 22]) ?_
 rintro ⟨f62, x60, x61⟩ h
 dsimp only at h ⊢
 rcases f62 with _ | f62
 cases h
 rw [slices_symMergeCmpFunc_impl_Version_l5] at h
 refine pwp_seq ?_
 refine srve 220 [(0, rf 0 0 4 a0), (1, I a1), (2, I a2), (3, I a3), (4, .fn g4 c4), (18, I (w64 (shrU (u64 (w64 (a1 + a3))) 1))), (19, I (w64 ((w64 (shrU (u64 (w64 (a1 + a3))) 1)) + a2))), (20, I x60), (21, I x61), (22, I (w64 ((w64 ((w64 (shrU (u64 (w64 (a1 + a3))) 1)) + a2)) - 1))), (151, B (decide (x60 < x61)))] [sl 0 a0] ?_
 refine pc h (fun h => ?_) (fun h => ?_)
 refine pwp_skip ?_
 refine pwp_block ?_
 refine srve 220 [(0, rf 0 0 4 a0), (1, I a1), (2, I a2), (3, I a3), (4, .fn g4 c4), (18, I (w64 (shrU (u64 (w64 (a1 + a3))) 1))), (19, I (w64 ((w64 (shrU (u64 (w64 (a1 + a3))) 1)) + a2))), (20, I x60), (21, I x61), (22, I (w64 ((w64 ((w64 (shrU (u64 (w64 (a1 + a3))) 1)) + a2)) - 1))), (23, I (w64 (shrU (u64 (w64 (x60 + x61))) 1)))] [sl 0 a0] ?_
 refine pwp_seq ?_
 refine ip 220 [(0, rf 0 0 4 a0), (1, I a1), (2, I a2), (3, I a3), (4, .fn g4 c4), (18, I (w64 (shrU (u64 (w64 (a1 + a3))) 1))), (19, I (w64 ((w64 (shrU (u64 (w64 (a1 + a3))) 1)) + a2))), (20, I x60), (21, I x61), (22, I (w64 ((w64 ((w64 (shrU (u64 (w64 (a1 + a3))) 1)) + a2)) - 1))), (23, I (w64 (shrU (u64 (w64 (x60 + x61))) 1)))] [sl 0 a0] ?_
 refine pwp_any ([[], [0], [], [], [], [0], [0], [0], [], [0], [0], [], [], []]) ([[], [], [], [], [], [], [], [], [], [], [], [], [], []]) rfl (by kernel_rfl) ?_
 refine qA_mv (⟨220, [(158, .fn g4 c4), (0, rf 0 0 4 a0), (1, I a1), (2, I a2), (3, I a3), (4, .fn g4 c4), (18, I (w64 (shrU (u64 (w64 (a1 + a3))) 1))), (19, I (w64 ((w64 (shrU (u64 (w64 (a1 + a3))) 1)) + a2))), (20, I x60), (21, I x61), (22, I (w64 ((w64 ((w64 (shrU (u64 (w64 (a1 + a3))) 1)) + a2)) - 1))), (23, I (w64 (shrU (u64 (w64 (x60 + x61))) 1)))], [sl 0 a0]⟩) (by kernel_rfl) rfl ?_
 refine qv [0] (hL trivial) 1 220 [(159, rf 0 0 4 a0), (158, .fn g4 c4), (0, rf 0 0 4 a0), (1, I a1), (2, I a2), (3, I a3), (4, .fn g4 c4), (18, I (w64 (shrU (u64 (w64 (a1 + a3))) 1))), (19, I (w64 ((w64 (shrU (u64 (w64 (a1 + a3))) 1)) + a2))), (20, I x60), (21, I x61), (22, I (w64 ((w64 ((w64 (shrU (u64 (w64 (a1 + a3))) 1)) + a2)) - 1))), (23, I (w64 (shrU (u64 (w64 (x60 + x61))) 1)))] [sl 0 a0] ?_
 refine qv [] trivial 3 220 [(162, I (w64 ((w64 ((w64 ((w64 (shrU (u64 (w64 (a1 + a3))) 1)) + a2)) - 1)) - (w64 (shrU (u64 (w64 (x60 + x61))) 1))))), (159, rf 0 0 4 a0), (158, .fn g4 c4), (0, rf 0 0 4 a0), (1, I a1), (2, I a2), (3, I a3), (4, .fn g4 c4), (18, I (w64 (shrU (u64 (w64 (a1 + a3))) 1))), (19, I (w64 ((w64 (shrU (u64 (w64 (a1 + a3))) 1)) + a2))), (20, I x60), (21, I x61), (22, I (w64 ((w64 ((w64 (shrU (u64 (w64 (a1 + a3))) 1)) + a2)) - 1))), (23, I (w64 (shrU (u64 (w64 (x60 + x61))) 1)))] [sl 0 a0] ?_
 obtain ⟨v65, hv66, h⟩ := bindS h
 refine qX (some 163) (.ptr 0 0 ((w64 ((w64 ((w64 ((w64 (shrU (u64 (w64 (a1 + a3))) 1)) + a2)) - 1)) - (w64 (shrU (u64 (w64 (x60 + x61))) 1)))).toNat * 4)) 220 [(163, .ptr 0 0 ((w64 ((w64 ((w64 ((w64 (shrU (u64 (w64 (a1 + a3))) 1)) + a2)) - 1)) - (w64 (shrU (u64 (w64 (x60 + x61))) 1)))).toNat * 4)), (158, .fn g4 c4), (0, rf 0 0 4 a0), (1, I a1), (2, I a2), (3, I a3), (4, .fn g4 c4), (18, I (w64 (shrU (u64 (w64 (a1 + a3))) 1))), (19, I (w64 ((w64 (shrU (u64 (w64 (a1 + a3))) 1)) + a2))), (20, I x60), (21, I x61), (22, I (w64 ((w64 ((w64 (shrU (u64 (w64 (a1 + a3))) 1)) + a2)) - 1))), (23, I (w64 (shrU (u64 (w64 (x60 + x61))) 1)))] [sl 0 a0] (fun Γ' hΓ => CoreE.of_y (idrV_sound (n := a0.length) τ_ok (by kernel_rfl) hv66 rfl)) (hL trivial) ?_
 refine qX (some 164) (E v65) 220 [(164, E v65), (158, .fn g4 c4), (0, rf 0 0 4 a0), (1, I a1), (2, I a2), (3, I a3), (4, .fn g4 c4), (18, I (w64 (shrU (u64 (w64 (a1 + a3))) 1))), (19, I (w64 ((w64 (shrU (u64 (w64 (a1 + a3))) 1)) + a2))), (20, I x60), (21, I x61), (22, I (w64 ((w64 ((w64 (shrU (u64 (w64 (a1 + a3))) 1)) + a2)) - 1))), (23, I (w64 (shrU (u64 (w64 (x60 + x61))) 1)))] [sl 0 a0] (fun Γ' hΓ => CoreE.of_y (ldeV_sound (t := 85) (o' := 0) (r := E v65) τ_ok hv66 (by kernel_rfl) (by kernel_rfl))) (hL trivial) ?_
 refine qv [0] (hL trivial) 1 220 [(165, rf 0 0 4 a0), (164, E v65), (158, .fn g4 c4), (0, rf 0 0 4 a0), (1, I a1), (2, I a2), (3, I a3), (4, .fn g4 c4), (18, I (w64 (shrU (u64 (w64 (a1 + a3))) 1))), (19, I (w64 ((w64 (shrU (u64 (w64 (a1 + a3))) 1)) + a2))), (20, I x60), (21, I x61), (22, I (w64 ((w64 ((w64 (shrU (u64 (w64 (a1 + a3))) 1)) + a2)) - 1))), (23, I (w64 (shrU (u64 (w64 (x60 + x61))) 1)))] [sl 0 a0] ?_
 refine qv [] trivial 1 220 [(166, I (w64 (shrU (u64 (w64 (x60 + x61))) 1))), (165, rf 0 0 4 a0), (164, E v65), (158, .fn g4 c4), (0, rf 0 0 4 a0), (1, I a1), (2, I a2), (3, I a3), (4, .fn g4 c4), (18, I (w64 (shrU (u64 (w64 (a1 + a3))) 1))), (19, I (w64 ((w64 (shrU (u64 (w64 (a1 + a3))) 1)) + a2))), (20, I x60), (21, I x61), (22, I (w64 ((w64 ((w64 (shrU (u64 (w64 (a1 + a3))) 1)) + a2)) - 1))), (23, I (w64 (shrU (u64 (w64 (x60 + x61))) 1)))] [sl 0 a0] ?_
 obtain ⟨v67, hv68, h⟩ := bindS h
 refine qX (some 167) (.ptr 0 0 ((w64 (shrU (u64 (w64 (x60 + x61))) 1)).toNat * 4)) 220 [(167, .ptr 0 0 ((w64 (shrU (u64 (w64 (x60 + x61))) 1)).toNat * 4)), (164, E v65), (158, .fn g4 c4), (0, rf 0 0 4 a0), (1, I a1), (2, I a2), (3, I a3), (4, .fn g4 c4), (18, I (w64 (shrU (u64 (w64 (a1 + a3))) 1))), (19, I (w64 ((w64 (shrU (u64 (w64 (a1 + a3))) 1)) + a2))), (20, I x60), (21, I x61), (22, I (w64 ((w64 ((w64 (shrU (u64 (w64 (a1 + a3))) 1)) + a2)) - 1))), (23, I (w64 (shrU (u64 (w64 (x60 + x61))) 1)))] [sl 0 a0] (fun Γ' hΓ => CoreE.of_y (idrV_sound (n := a0.length) τ_ok (by kernel_rfl) hv68 rfl)) (hL trivial) ?_
 refine qX (some 168) (E v67) 220 [(168, E v67), (164, E v65), (158, .fn g4 c4), (0, rf 0 0 4 a0), (1, I a1), (2, I a2), (3, I a3), (4, .fn g4 c4), (18, I (w64 (shrU (u64 (w64 (a1 + a3))) 1))), (19, I (w64 ((w64 (shrU (u64 (w64 (a1 + a3))) 1)) + a2))), (20, I x60), (21, I x61), (22, I (w64 ((w64 ((w64 (shrU (u64 (w64 (a1 + a3))) 1)) + a2)) - 1))), (23, I (w64 (shrU (u64 (w64 (x60 + x61))) 1)))] [sl 0 a0] (fun Γ' hΓ => CoreE.of_y (ldeV_sound (t := 85) (o' := 0) (r := E v67) τ_ok hv68 (by kernel_rfl) (by kernel_rfl))) (hL trivial) ?_
 obtain ⟨v69, hv70, h⟩ := bindS h
 refine qX (some 169) (I v69) 220 [(169, I v69), (0, rf 0 0 4 a0), (1, I a1), (2, I a2), (3, I a3), (4, .fn g4 c4), (18, I (w64 (shrU (u64 (w64 (a1 + a3))) 1))), (19, I (w64 ((w64 (shrU (u64 (w64 (a1 + a3))) 1)) + a2))), (20, I x60), (21, I x61), (22, I (w64 ((w64 ((w64 (shrU (u64 (w64 (a1 + a3))) 1)) + a2)) - 1))), (23, I (w64 (shrU (u64 (w64 (x60 + x61))) 1)))] [sl 0 a0] (fun Γ' hΓ => CoreE.of_g (callV_sound (τ := τ) (by kernel_rfl) (frz_app (xs := [E v65, E v67]) rfl hz4) (hp4 _ _ _ hv70) (FzTo.frz rfl))) trivial ?_
 refine qvn [] trivial 2 220 [(0, rf 0 0 4 a0), (1, I a1), (2, I a2), (3, I a3), (4, .fn g4 c4), (18, I (w64 (shrU (u64 (w64 (a1 + a3))) 1))), (19, I (w64 ((w64 (shrU (u64 (w64 (a1 + a3))) 1)) + a2))), (20, I x60), (21, I x61), (22, I (w64 ((w64 ((w64 (shrU (u64 (w64 (a1 + a3))) 1)) + a2)) - 1))), (23, I (w64 (shrU (u64 (w64 (x60 + x61))) 1))), (171, B (!(decide (v69 < 0))))] [sl 0 a0] ?_
 refine pc h (fun h => ?_) (fun h => ?_)
 refine rve 220 [(0, rf 0 0 4 a0), (1, I a1), (2, I a2), (3, I a3), (4, .fn g4 c4), (18, I (w64 (shrU (u64 (w64 (a1 + a3))) 1))), (19, I (w64 ((w64 (shrU (u64 (w64 (a1 + a3))) 1)) + a2))), (20, I (w64 ((w64 (shrU (u64 (w64 (x60 + x61))) 1)) + 1))), (21, I x61), (22, I (w64 ((w64 ((w64 (shrU (u64 (w64 (a1 + a3))) 1)) + a2)) - 1)))] [sl 0 a0] ?_
 exact ⟨(f62, (w64 ((w64 (shrU (u64 (w64 (x60 + x61))) 1)) + 1)), x61), h, Nat.lt_succ_self _, it [0, 1, 2, 3, 4, 18, 19, 20, 21, 22]⟩
 refine rve 220 [(0, rf 0 0 4 a0), (1, I a1), (2, I a2), (3, I a3), (4, .fn g4 c4), (18, I (w64 (shrU (u64 (w64 (a1 + a3))) 1))), (19, I (w64 ((w64 (shrU (u64 (w64 (a1 + a3))) 1)) + a2))), (20, I x60), (21, I (w64 (shrU (u64 (w64 (x60 + x61))) 1))), (22, I (w64 ((w64 ((w64 (shrU (u64 (w64 (a1 + a3))) 1)) + a2)) - 1)))] [sl 0 a0] ?_
 exact ⟨(f62, x60, (w64 (shrU (u64 (w64 (x60 + x61))) 1))), h, Nat.lt_succ_self _, it [0, 1, 2, 3, 4, 18, 19, 20, 21, 22]⟩
 refine pwp_exit ?_
 refine srve 220 [(0, rf 0 0 4 a0), (1, I a1), (2, I a2), (3, I a3), (4, .fn g4 c4), (18, I (w64 (shrU (u64 (w64 (a1 + a3))) 1))), (20, I x60), (24, I (w64 ((w64 ((w64 (shrU (u64 (w64 (a1 + a3))) 1)) + a2)) - x60)))] [sl 0 a0] ?_
 refine pwp_seq ?_
 refine pwp_join (σ := (List T_impl_Version)) (fun x72 => (⟨220, [(0, rf 0 0 4 x72), (1, I a1), (3, I a3), (4, .fn g4 c4), (18, I (w64 (shrU (u64 (w64 (a1 + a3))) 1))), (20, I x60), (24, I (w64 ((w64 ((w64 (shrU (u64 (w64 (a1 + a3))) 1)) + a2)) - x60)))], [sl 0 x72]⟩ : St)) (fun x72 => slices_symMergeCmpFunc_impl_Version_j6 rec0 a1 a2 a3 x60 x72 = some y) ?_ ?_
 refine pwp_seq ?_
 refine pwp_join (σ := Bool) (fun x84 => (⟨220, [(0, rf 0 0 4 a0), (1, I a1), (2, I a2), (3, I a3), (4, .fn g4 c4), (18, I (w64 (shrU (u64 (w64 (a1 + a3))) 1))), (20, I x60), (24, I (w64 ((w64 ((w64 (shrU (u64 (w64 (a1 + a3))) 1)) + a2)) - x60))), (185, B x84)], [sl 0 a0]⟩ : St)) (fun x84 => slices_symMergeCmpFunc_impl_Version_j10 rec0 a0 a1 a2 a3 a4 x60 x84 = some y) ?_ ?_
 refine rv 4 220 [(0, rf 0 0 4 a0), (1, I a1), (2, I a2), (3, I a3), (4, .fn g4 c4), (18, I (w64 (shrU (u64 (w64 (a1 + a3))) 1))), (20, I x60), (24, I (w64 ((w64 ((w64 (shrU (u64 (w64 (a1 + a3))) 1)) + a2)) - x60))), (181, B (decide (x60 < a2)))] [sl 0 a0] ?_
 rcases fk (decide (x60 < a2)) with hc88 | hc88
 replace h := bT hc88 h
 rw [hc88]
 refine ve 4 220 [(0, rf 0 0 4 a0), (1, I a1), (2, I a2), (3, I a3), (4, .fn g4 c4), (18, I (w64 (shrU (u64 (w64 (a1 + a3))) 1))), (20, I x60), (24, I (w64 ((w64 ((w64 (shrU (u64 (w64 (a1 + a3))) 1)) + a2)) - x60))), (185, B (decide (a2 < (w64 ((w64 ((w64 (shrU (u64 (w64 (a1 + a3))) 1)) + a2)) - x60)))))] [sl 0 a0] ?_
 exact ⟨(decide (a2 < (w64 ((w64 ((w64 (shrU (u64 (w64 (a1 + a3))) 1)) + a2)) - x60)))), h, it [0, 1, 2, 3, 4, 18, 20, 24, 185]⟩
 replace h := bF hc88 h
 rw [hc88]
 refine ve 4 220 [(0, rf 0 0 4 a0), (1, I a1), (2, I a2), (3, I a3), (4, .fn g4 c4), (18, I (w64 (shrU (u64 (w64 (a1 + a3))) 1))), (20, I x60), (24, I (w64 ((w64 ((w64 (shrU (u64 (w64 (a1 + a3))) 1)) + a2)) - x60))), (185, B false)] [sl 0 a0] ?_
 exact ⟨false, h, it [0, 1, 2, 3, 4, 18, 20, 24, 185]⟩
 rintro x84 h
 unfold slices_symMergeCmpFunc_impl_Version_j10 at h
 refine pc h (fun h => ?_) (fun h => ?_)
 refine rv 5 220 [(0, rf 0 0 4 a0), (1, I a1), (3, I a3), (4, .fn g4 c4), (18, I (w64 (shrU (u64 (w64 (a1 + a3))) 1))), (20, I x60), (24, I (w64 ((w64 ((w64 (shrU (u64 (w64 (a1 + a3))) 1)) + a2)) - x60))), (186, rf 0 0 4 a0), (187, I x60), (188, I a2), (189, I (w64 ((w64 ((w64 (shrU (u64 (w64 (a1 + a3))) 1)) + a2)) - x60))), (190, .fn g4 c4)] [sl 0 a0] ?_
 obtain ⟨v86, hv87, h⟩ := bindS h
 refine opsP_E (dd := some 191) (x := .tup []) (callS_E τ 191 0 0 (ok_slices_rotateCmpFunc_impl_Version (hz4) (hp4) hv87) (FzTo.tup FzToL.nil) rfl (by simp only [frzL, frz, hz4, Bool.and_true]) (by kernel_rfl)) ?_
 refine io 220 [(0, rf 0 0 4 a0), (1, I a1), (3, I a3), (4, .fn g4 c4), (18, I (w64 (shrU (u64 (w64 (a1 + a3))) 1))), (20, I x60), (24, I (w64 ((w64 ((w64 (shrU (u64 (w64 (a1 + a3))) 1)) + a2)) - x60))), (186, rf 0 0 4 a0), (187, I x60), (188, I a2), (189, I (w64 ((w64 ((w64 (shrU (u64 (w64 (a1 + a3))) 1)) + a2)) - x60))), (190, .fn g4 c4), (191, .tup [])] [sl 0 v86] ?_
 refine opsP_ren (st' := ⟨220, [(0, rf 0 0 4 v86), (1, I a1), (3, I a3), (4, .fn g4 c4), (18, I (w64 (shrU (u64 (w64 (a1 + a3))) 1))), (20, I x60), (24, I (w64 ((w64 ((w64 (shrU (u64 (w64 (a1 + a3))) 1)) + a2)) - x60))), (186, rf 0 0 4 v86), (187, I x60), (188, I a2), (189, I (w64 ((w64 ((w64 (shrU (u64 (w64 (a1 + a3))) 1)) + a2)) - x60))), (190, .fn g4 c4), (191, .tup [])], [sl 0 v86]⟩) 0 v86.length (renC (ren_ref (len_slices_rotateCmpFunc_impl_Version hv87).symm) (renC trivial (renC trivial (renC trivial (renC trivial (renC trivial (renC trivial (renC (ren_ref (len_slices_rotateCmpFunc_impl_Version hv87).symm) (renC trivial (renC trivial (renC trivial (renC trivial (renC trivial renC0))))))))))))) (by kernel_rfl) ?_
 refine ve 0 220 [(0, rf 0 0 4 v86), (1, I a1), (3, I a3), (4, .fn g4 c4), (18, I (w64 (shrU (u64 (w64 (a1 + a3))) 1))), (20, I x60), (24, I (w64 ((w64 ((w64 (shrU (u64 (w64 (a1 + a3))) 1)) + a2)) - x60)))] [sl 0 v86] ?_
 exact ⟨v86, h, it [0, 1, 3, 4, 18, 20, 24]⟩
 refine pwp_skip ?_
 exact ⟨a0, h, it [0, 1, 3, 4, 18, 20, 24]⟩
 rintro x72 h
 unfold slices_symMergeCmpFunc_impl_Version_j6 at h
 refine pwp_seq ?_
 refine pwp_join (σ := (List T_impl_Version)) (fun x73 => (⟨220, [(0, rf 0 0 4 x73), (3, I a3), (4, .fn g4 c4), (18, I (w64 (shrU (u64 (w64 (a1 + a3))) 1))), (24, I (w64 ((w64 ((w64 (shrU (u64 (w64 (a1 + a3))) 1)) + a2)) - x60)))], [sl 0 x73]⟩ : St)) (fun x73 => slices_symMergeCmpFunc_impl_Version_j7 rec0 a1 a2 a3 x60 x73 = some y) ?_ ?_
 refine pwp_seq ?_
 refine pwp_join (σ := Bool) (fun x79 => (⟨220, [(0, rf 0 0 4 x72), (1, I a1), (3, I a3), (4, .fn g4 c4), (18, I (w64 (shrU (u64 (w64 (a1 + a3))) 1))), (20, I x60), (24, I (w64 ((w64 ((w64 (shrU (u64 (w64 (a1 + a3))) 1)) + a2)) - x60))), (199, B x79)], [sl 0 x72]⟩ : St)) (fun x79 => slices_symMergeCmpFunc_impl_Version_j9 rec0 a1 a2 a3 x60 x72 x79 = some y) ?_ ?_
 refine rv 4 220 [(0, rf 0 0 4 x72), (1, I a1), (3, I a3), (4, .fn g4 c4), (18, I (w64 (shrU (u64 (w64 (a1 + a3))) 1))), (20, I x60), (24, I (w64 ((w64 ((w64 (shrU (u64 (w64 (a1 + a3))) 1)) + a2)) - x60))), (195, B (decide (a1 < x60)))] [sl 0 x72] ?_
 rcases fk (decide (a1 < x60)) with hc83 | hc83
 replace h := bT hc83 h
 rw [hc83]
 refine ve 4 220 [(0, rf 0 0 4 x72), (1, I a1), (3, I a3), (4, .fn g4 c4), (18, I (w64 (shrU (u64 (w64 (a1 + a3))) 1))), (20, I x60), (24, I (w64 ((w64 ((w64 (shrU (u64 (w64 (a1 + a3))) 1)) + a2)) - x60))), (199, B (decide (x60 < (w64 (shrU (u64 (w64 (a1 + a3))) 1)))))] [sl 0 x72] ?_
 exact ⟨(decide (x60 < (w64 (shrU (u64 (w64 (a1 + a3))) 1)))), h, it [0, 1, 3, 4, 18, 20, 24, 199]⟩
 replace h := bF hc83 h
 rw [hc83]
 refine ve 4 220 [(0, rf 0 0 4 x72), (1, I a1), (3, I a3), (4, .fn g4 c4), (18, I (w64 (shrU (u64 (w64 (a1 + a3))) 1))), (20, I x60), (24, I (w64 ((w64 ((w64 (shrU (u64 (w64 (a1 + a3))) 1)) + a2)) - x60))), (199, B false)] [sl 0 x72] ?_
 exact ⟨false, h, it [0, 1, 3, 4, 18, 20, 24, 199]⟩
 rintro x79 h
 unfold slices_symMergeCmpFunc_impl_Version_j9 at h
 refine pc h (fun h => ?_) (fun h => ?_)
 refine rv 5 220 [(0, rf 0 0 4 x72), (3, I a3), (4, .fn g4 c4), (18, I (w64 (shrU (u64 (w64 (a1 + a3))) 1))), (24, I (w64 ((w64 ((w64 (shrU (u64 (w64 (a1 + a3))) 1)) + a2)) - x60))), (200, rf 0 0 4 x72), (201, I a1), (202, I x60), (203, I (w64 (shrU (u64 (w64 (a1 + a3))) 1))), (204, .fn g4 c4)] [sl 0 x72] ?_
 obtain ⟨v81, hv82, h⟩ := bindS h
 refine opsP_E (dd := some 205) (x := .tup []) (callS_E τ 205 0 0 (hrec hv82) (FzTo.tup FzToL.nil) rfl (by simp only [frzL, frz, hz4, Bool.and_true]) (by kernel_rfl)) ?_
 refine io 220 [(0, rf 0 0 4 x72), (3, I a3), (4, .fn g4 c4), (18, I (w64 (shrU (u64 (w64 (a1 + a3))) 1))), (24, I (w64 ((w64 ((w64 (shrU (u64 (w64 (a1 + a3))) 1)) + a2)) - x60))), (200, rf 0 0 4 x72), (201, I a1), (202, I x60), (203, I (w64 (shrU (u64 (w64 (a1 + a3))) 1))), (204, .fn g4 c4), (205, .tup [])] [sl 0 v81] ?_
 refine opsP_ren (st' := ⟨220, [(0, rf 0 0 4 v81), (3, I a3), (4, .fn g4 c4), (18, I (w64 (shrU (u64 (w64 (a1 + a3))) 1))), (24, I (w64 ((w64 ((w64 (shrU (u64 (w64 (a1 + a3))) 1)) + a2)) - x60))), (200, rf 0 0 4 v81), (201, I a1), (202, I x60), (203, I (w64 (shrU (u64 (w64 (a1 + a3))) 1))), (204, .fn g4 c4), (205, .tup [])], [sl 0 v81]⟩) 0 v81.length (renC (ren_ref (len_rec0 hv82).symm) (renC trivial (renC trivial (renC trivial (renC trivial (renC (ren_ref (len_rec0 hv82).symm) (renC trivial (renC trivial (renC trivial (renC trivial (renC trivial renC0))))))))))) (by kernel_rfl) ?_
 refine ve 0 220 [(0, rf 0 0 4 v81), (3, I a3), (4, .fn g4 c4), (18, I (w64 (shrU (u64 (w64 (a1 + a3))) 1))), (24, I (w64 ((w64 ((w64 (shrU (u64 (w64 (a1 + a3))) 1)) + a2)) - x60)))] [sl 0 v81] ?_
 exact ⟨v81, h, it [0, 3, 4, 18, 24]⟩
 refine pwp_skip ?_
 exact ⟨x72, h, it [0, 3, 4, 18, 24]⟩
 rintro x73 h
 unfold slices_symMergeCmpFunc_impl_Version_j7 at h
 refine pwp_seq ?_
 refine pwp_join (σ := Bool) (fun x74 => (⟨220, [(0, rf 0 0 4 x73), (3, I a3), (4, .fn g4 c4), (18, I (w64 (shrU (u64 (w64 (a1 + a3))) 1))), (24, I (w64 ((w64 ((w64 (shrU (u64 (w64 (a1 + a3))) 1)) + a2)) - x60))), (213, B x74)], [sl 0 x73]⟩ : St)) (fun x74 => slices_symMergeCmpFunc_impl_Version_j8 rec0 a1 a2 a3 x60 x73 x74 = some y) ?_ ?_
 refine rv 4 220 [(0, rf 0 0 4 x73), (3, I a3), (4, .fn g4 c4), (18, I (w64 (shrU (u64 (w64 (a1 + a3))) 1))), (24, I (w64 ((w64 ((w64 (shrU (u64 (w64 (a1 + a3))) 1)) + a2)) - x60))), (209, B (decide ((w64 (shrU (u64 (w64 (a1 + a3))) 1)) < (w64 ((w64 ((w64 (shrU (u64 (w64 (a1 + a3))) 1)) + a2)) - x60)))))] [sl 0 x73] ?_
 rcases fk (decide ((w64 (shrU (u64 (w64 (a1 + a3))) 1)) < (w64 ((w64 ((w64 (shrU (u64 (w64 (a1 + a3))) 1)) + a2)) - x60)))) with hc78 | hc78
 replace h := bT hc78 h
 rw [hc78]
 refine ve 4 220 [(0, rf 0 0 4 x73), (3, I a3), (4, .fn g4 c4), (18, I (w64 (shrU (u64 (w64 (a1 + a3))) 1))), (24, I (w64 ((w64 ((w64 (shrU (u64 (w64 (a1 + a3))) 1)) + a2)) - x60))), (213, B (decide ((w64 ((w64 ((w64 (shrU (u64 (w64 (a1 + a3))) 1)) + a2)) - x60)) < a3)))] [sl 0 x73] ?_
 exact ⟨(decide ((w64 ((w64 ((w64 (shrU (u64 (w64 (a1 + a3))) 1)) + a2)) - x60)) < a3)), h, it [0, 3, 4, 18, 24, 213]⟩
 replace h := bF hc78 h
 rw [hc78]
 refine ve 4 220 [(0, rf 0 0 4 x73), (3, I a3), (4, .fn g4 c4), (18, I (w64 (shrU (u64 (w64 (a1 + a3))) 1))), (24, I (w64 ((w64 ((w64 (shrU (u64 (w64 (a1 + a3))) 1)) + a2)) - x60))), (213, B false)] [sl 0 x73] ?_
 exact ⟨false, h, it [0, 3, 4, 18, 24, 213]⟩
 rintro x74 h
 unfold slices_symMergeCmpFunc_impl_Version_j8 at h
 refine pc h (fun h => ?_) (fun h => ?_)
 refine rv 5 220 [(214, rf 0 0 4 x73), (215, I (w64 (shrU (u64 (w64 (a1 + a3))) 1))), (216, I (w64 ((w64 ((w64 (shrU (u64 (w64 (a1 + a3))) 1)) + a2)) - x60))), (217, I a3), (218, .fn g4 c4)] [sl 0 x73] ?_
 obtain ⟨v76, hv77, h⟩ := bindS h
 refine opsP_E (dd := some 219) (x := .tup []) (callS_E τ 219 0 0 (hrec hv77) (FzTo.tup FzToL.nil) rfl (by simp only [frzL, frz, hz4, Bool.and_true]) (by kernel_rfl)) ?_
 refine io 220 [(214, rf 0 0 4 x73), (215, I (w64 (shrU (u64 (w64 (a1 + a3))) 1))), (216, I (w64 ((w64 ((w64 (shrU (u64 (w64 (a1 + a3))) 1)) + a2)) - x60))), (217, I a3), (218, .fn g4 c4), (219, .tup [])] [sl 0 v76] ?_
 refine opsP_ren (st' := ⟨220, [(214, rf 0 0 4 v76), (215, I (w64 (shrU (u64 (w64 (a1 + a3))) 1))), (216, I (w64 ((w64 ((w64 (shrU (u64 (w64 (a1 + a3))) 1)) + a2)) - x60))), (217, I a3), (218, .fn g4 c4), (219, .tup [])], [sl 0 v76]⟩) 0 v76.length (renC (ren_ref (len_rec0 hv77).symm) (renC trivial (renC trivial (renC trivial (renC trivial (renC trivial renC0)))))) (by kernel_rfl) ?_
 refine ve 0 220 [] [sl 0 v76] ?_
 have h := si h
 subst h
 first | exact ⟨.inl rfl, .tup [], _, 0, by kernel_rfl, (OutP.tup (OutL.nil _)), by decide, by decide, by kernel_rfl⟩ | exact pwp_ret ⟨.inr rfl, .tup [], _, 0, by kernel_rfl, (OutP.tup (OutL.nil _)), by decide, by decide, by kernel_rfl⟩
 refine pwp_skip ?_
 have h := si h
 subst h
 first | exact ⟨.inl rfl, .tup [], _, 0, by kernel_rfl, (OutP.tup (OutL.nil _)), by decide, by decide, by kernel_rfl⟩ | exact pwp_ret ⟨.inr rfl, .tup [], _, 0, by kernel_rfl, (OutP.tup (OutL.nil _)), by decide, by decide, by kernel_rfl⟩
theorem ok_slices_symMergeCmpFunc_impl_Version_f {g4 : FuncId} {c4 : List V} (hz4 : frzL c4 = true) {a4 : T_impl_Version → T_impl_Version → Option Int} (hp4 : ∀ x0 x1 y, a4 x0 x1 = some y → OK Try.prog g4 ([E x0, E x1] ++ c4) (I y)) : ∀ (f : Nat) {a0 : List T_impl_Version} {a1 : Int} {a2 : Int} {a3 : Int} {y : List T_impl_Version}, slices_symMergeCmpFunc_impl_Version_f a4 f a0 a1 a2 a3 = some y → OKs Try.prog 138 [] 4 a0.length (eL a0) [I a1, I a2, I a3, .fn g4 c4] (.tup []) (eL y)
 | 0, _, _, _, _, _, h => by cases h
 | f + 1, _, _, _, _, _, h => ok_slices_symMergeCmpFunc_impl_Version_s hz4 hp4 (ok_slices_symMergeCmpFunc_impl_Version_f hz4 hp4 f) (len_slices_symMergeCmpFunc_impl_Version_f _ f) (bindLen (f := fun y : List T_impl_Version => y) h).2 (bindLen (f := fun y : List T_impl_Version => y) h).1
theorem ok_slices_symMergeCmpFunc_impl_Version {a0 : List T_impl_Version} {a1 : Int} {a2 : Int} {a3 : Int} {g4 : FuncId} {c4 : List V} (hz4 : frzL c4 = true) {a4 : T_impl_Version → T_impl_Version → Option Int} (hp4 : ∀ x0 x1 y, a4 x0 x1 = some y → OK Try.prog g4 ([E x0, E x1] ++ c4) (I y)) {y : List T_impl_Version} (h : slices_symMergeCmpFunc_impl_Version a0 a1 a2 a3 a4 = some y) : OKs Try.prog 138 [] 4 a0.length (eL a0) [I a1, I a2, I a3, .fn g4 c4] (.tup []) (eL y) := ok_slices_symMergeCmpFunc_impl_Version_f hz4 hp4 FUEL h
def slices_Clip_impl_Version_impl_Version_R (a0 : List T_impl_Version) : Option (List T_impl_Version) := (slI a0 none (some (a0.length : Int)) (some (a0.length : Int))).bind fun v1 => some v1
theorem ok_slices_Clip_impl_Version_impl_Version_R {a0 : List T_impl_Version} {y : List T_impl_Version} (h : slices_Clip_impl_Version_impl_Version_R a0 = some y) : OKm Try.prog 98 [O a0] (O y) := by
 refine OKm_of_pwp (sl := [rf 0 0 4 a0]) (bs := [⟨0, eL a0⟩]) τ_ok Try.func98 rfl (by kernel_rfl) rfl (by kernel_rfl) fun Γ hX => ?_
 refine pwp_imp (Imp.to (st' := ⟨9, [(0, rf 0 0 4 a0)], [sl 0 a0]⟩) [0] (by kernel_rfl)) ?_
 unfold slices_Clip_impl_Version_impl_Version_R at h
 refine srve 9 [(0, rf 0 0 4 a0)] [sl 0 a0] ?_
 refine srv 5 9 [(3, rf 0 0 4 a0), (5, I (a0.length : Int)), (7, I (a0.length : Int))] [sl 0 a0] ?_
 obtain ⟨v1, hv2, h⟩ := bindS h
 refine opsP_slr τ_ok 8 0 0 a0.length hv2 rfl (by kernel_rfl) ?_
 refine ve 1 9 [(2, rf 0 0 4 v1)] [sl 0 a0] ?_
 refine ip 9 [(2, rf 0 0 4 v1)] [sl 0 a0] ?_
 refine pwp_imp (Imp.cut (st' := ⟨9, [(2, rf 0 0 4 v1)], [sl 0 v1]⟩) 0 0 a0 v1 (by kernel_rfl) (slI_view hv2) (by kernel_rfl)) ?_
 have h := si h
 subst h
 exact pwp_ret (rt (rf 0 0 4 v1) (OutP.list (v := 0) (by kernel_rfl)))
def laws_eqEntry (a0 : T_impl_Entry) (a1 : T_impl_Entry) : Option Bool := bif (!(a0.fTime == a1.fTime)) then some false else (laws_eqWriteS a0.fWrites a1.fWrites).bind fun v2 => bif (!v2) then some false else some true
theorem ok_laws_eqEntry {a0 : T_impl_Entry} {a1 : T_impl_Entry} {y : Bool} (h : laws_eqEntry a0 a1 = some y) : OK Try.prog 22 [E a0, E a1] (B y) := by
 refine ow Try.func22 fun Γ hX => ?_
 unfold laws_eqEntry at h
 refine srve 16 [(2, pf a0 0), (3, pf a1 0)] [] ?_
 refine pwp_seq ?_
 refine srve 16 [(2, pf a0 0), (3, pf a1 0), (9, B (!(a0.fTime == a1.fTime)))] [] ?_
 refine pc h (fun h => ?_) (fun h => ?_)
 refine srve 16 [(4, B false)] [] ?_
 cases h
 exact pwp_ret rz
 refine pwp_skip ?_
 refine pwp_seq ?_
 refine srv 4 16 [(11, A a0.fWrites), (13, A a1.fWrites)] [] ?_
 obtain ⟨v2, hv3, h⟩ := bindS h
 refine cF 14 (ok_laws_eqWriteS hv3) ?_
 refine ve 1 16 [(15, B (!v2))] [] ?_
 refine pc h (fun h => ?_) (fun h => ?_)
 refine srve 16 [(4, B false)] [] ?_
 cases h
 exact pwp_ret rz
 refine pwp_skip ?_
 refine srve 16 [(4, B true)] [] ?_
 cases h
 exact pwp_ret rz
def laws_eqEntryS_l0 (a0 : List T_impl_Entry) (a1 : List T_impl_Entry) : Nat → Int → Option Bool
 | 0, _ => none
 | f3 + 1, x2 => bif (decide (x2 < (a0.length : Int))) then (getI a0 x2).bind fun v6 => (getI a1 x2).bind fun v8 => (laws_eqEntry v6 v8).bind fun v10 => bif (!v10) then some false else (laws_eqEntryS_l0 a0 a1 f3) (w64 (x2 + 1)) else some true
def laws_eqEntryS (a0 : List T_impl_Entry) (a1 : List T_impl_Entry) : Option Bool := bif (!((a0.length : Int) == (a1.length : Int))) then some false else laws_eqEntryS_l0 a0 a1 FUEL 0
theorem ok_laws_eqEntryS {a0 : List T_impl_Entry} {a1 : List T_impl_Entry} {y : Bool} (h : laws_eqEntryS a0 a1 = some y) : OK Try.prog 23 [A a0, A a1] (B y) := by
 refine ow Try.func23 fun Γ hX => ?_
 unfold laws_eqEntryS at h
 refine srve 27 [(0, A a0), (1, A a1)] [] ?_
 refine pwp_seq ?_
 refine srve 27 [(0, A a0), (1, A a1), (10, B (!((a0.length : Int) == (a1.length : Int))))] [] ?_
 refine pc h (fun h => ?_) (fun h => ?_)
 refine srve 27 [(4, B false)] [] ?_
 cases h
 exact pwp_ret rz
 refine pwp_skip ?_
 refine pwp_seq ?_
 refine srve 27 [(0, A a0), (1, A a1), (5, I 0)] [] ?_
 refine pwp_block ?_
 refine pwp_loop (ι := Nat × Int) (fun (f3, x2) => (⟨27, [(0, A a0), (1, A a1), (5, I x2)], []⟩ : St)) (fun (f3, x2) => laws_eqEntryS_l0 a0 a1 f3 x2 = some y) Prod.fst (FUEL, 0) h (it [0, 1, 5]) ?_
 rintro ⟨f3, x2⟩ h
 dsimp only at h ⊢
 rcases f3 with _ | f3
 cases h
 rw [laws_eqEntryS_l0] at h
 refine pwp_seq ?_
 refine srve 27 [(0, A a0), (1, A a1), (5, I x2), (14, B (decide (x2 < (a0.length : Int))))] [] ?_
 refine pc h (fun h => ?_) (fun h => ?_)
 refine pwp_skip ?_
 refine pwp_seq ?_
 refine pwp_block ?_
 refine pwp_seq ?_
 refine ip 27 [(0, A a0), (1, A a1), (5, I x2)] [] ?_
 refine pN 10 ?_
 refine qv [] trivial 2 27 [(18, I x2), (17, A a0), (0, A a0), (1, A a1), (5, I x2)] [] ?_
 obtain ⟨v6, hv7, h⟩ := bindS h
 refine qX (some 19) (pf v6 0) 27 [(19, pf v6 0), (0, A a0), (1, A a1), (5, I x2)] [] (fun Γ' hΓ => CoreE.of_y (idxV_sound τ_ok (by kernel_rfl) hv7)) trivial ?_
 refine qv [] trivial 3 27 [(22, I x2), (21, A a1), (20, E v6), (0, A a0), (1, A a1), (5, I x2)] [] ?_
 obtain ⟨v8, hv9, h⟩ := bindS h
 refine qX (some 23) (pf v8 0) 27 [(23, pf v8 0), (20, E v6), (0, A a0), (1, A a1), (5, I x2)] [] (fun Γ' hΓ => CoreE.of_y (idxV_sound τ_ok (by kernel_rfl) hv9)) trivial ?_
 refine qv [] trivial 1 27 [(24, E v8), (20, E v6), (0, A a0), (1, A a1), (5, I x2)] [] ?_
 obtain ⟨v10, hv11, h⟩ := bindS h
 refine qX (some 25) (B v10) 27 [(25, B v10), (0, A a0), (1, A a1), (5, I x2)] [] (fun Γ' hΓ => CoreE.of_g (callV_sound (τ := τ) (by kernel_rfl) rfl (ok_laws_eqEntry hv11) (FzTo.frz rfl))) trivial ?_
 refine qvn [] trivial 1 27 [(0, A a0), (1, A a1), (5, I x2), (26, B (!v10))] [] ?_
 refine pc h (fun h => ?_) (fun h => ?_)
 refine srve 27 [(4, B false)] [] ?_
 cases h
 exact pwp_ret rz
 refine pwp_skip ?_
 refine rve 27 [(0, A a0), (1, A a1), (5, I (w64 (x2 + 1)))] [] ?_
 exact ⟨(f3, (w64 (x2 + 1))), h, Nat.lt_succ_self _, it [0, 1, 5]⟩
 refine pwp_exit ?_
 refine srve 27 [(4, B true)] [] ?_
 cases h
 exact pwp_ret rz
def laws_markEntryS_l0 : Nat → Int → Int → (List T_impl_Entry) → Option (Int × List T_impl_Entry)
 | 0, _, _, _ => none
 | f5 + 1, x2, x3, x4 => bif (decide (x3 < (x4.length : Int))) then (getI x4 x3).bind fun v8 => (getI (x4.set x3.toNat ({ v8 with fTime := x2 } : T_impl_Entry)) x3).bind fun v10 => (laws_markWriteS v10.fWrites (w64 (x2 + 1))).bind fun v12 => (laws_markEntryS_l0 f5) v12.1 (w64 (x3 + 1)) ((x4.set x3.toNat ({ v8 with fTime := x2 } : T_impl_Entry)).set x3.toNat ({ v10 with fWrites := v12.2 } : T_impl_Entry)) else some (x2, x4)
def laws_markEntryS (a0 : List T_impl_Entry) (a1 : Int) : Option (Int × List T_impl_Entry) := laws_markEntryS_l0 FUEL a1 0 a0
theorem len_laws_markEntryS_l0 : ∀ (f5 : Nat) (x2 : Int) (x3 : Int) (x4 : List T_impl_Entry) (y : Int × List T_impl_Entry), laws_markEntryS_l0 f5 x2 x3 x4 = some y → y.2.length = x4.length
 | 0, _, _, _, _, h => by cases h
 | f5 + 1, x2, x3, x4, y, h => by
  rw [laws_markEntryS_l0] at h
  rcases condS h with h | h
  ·obtain ⟨_, _, h⟩ := bindS h
   obtain ⟨_, _, h⟩ := bindS h
   obtain ⟨_, _, h⟩ := bindS h
   have h2 := len_laws_markEntryS_l0 f5 _ _ _ _ h
   simp only [List.length_set] at h2
   exact h2
  ·cases h; rfl
theorem len_laws_markEntryS {a0 : List T_impl_Entry} {a1 : Int} {y : Int × List T_impl_Entry} (h : laws_markEntryS a0 a1 = some y) : y.2.length = a0.length := by
 unfold laws_markEntryS at h
 exact len_laws_markEntryS_l0 _ _ _ _ _ h
theorem ok_laws_markEntryS {a0 : List T_impl_Entry} {a1 : Int} {y : Int × List T_impl_Entry} (h : laws_markEntryS a0 a1 = some y) : OKd Try.prog 24 2 a0.length (dL a0) [I a1] (.int .i64 y.1) (dL y.2) := by
 refine OKd_of_pwp τ_ok Try.func24 rfl (by kernel_rfl) rfl (dL_oc _) (dL_oc _) (dL_bl _) (dL_bl _) rfl (fun hl => by rw [dL_len, len_laws_markEntryS h, ← dL_len]; exact hl) fun Γ hQ => ?_
 refine pwp_imp (Imp.to (st' := ⟨27, [(0, rf 0 0 2 a0), (1, I a1)], [some ⟨0, dL a0⟩]⟩) [0, 1] (by kernel_rfl)) ?_
 unfold laws_markEntryS at h
 refine srve 27 [(0, rf 0 0 2 a0), (1, I a1)] [some ⟨0, dL a0⟩] ?_
 refine pwp_seq ?_
 refine srve 27 [(0, rf 0 0 2 a0), (1, I a1), (5, I 0)] [some ⟨0, dL a0⟩] ?_
 refine pwp_block ?_
 refine pwp_loop (ι := Nat × Int × Int × (List T_impl_Entry)) (fun (f5, x2, x3, x4) => (⟨27, [(0, rf 0 0 2 x4), (1, I x2), (5, I x3)], [some ⟨0, dL x4⟩]⟩ : St)) (fun (f5, x2, x3, x4) => laws_markEntryS_l0 f5 x2 x3 x4 = some y) Prod.fst (FUEL, a1, 0, a0) h (it [0, 1, 5]) ?_
 rintro ⟨f5, x2, x3, x4⟩ h
 dsimp only at h ⊢
 rcases f5 with _ | f5
 cases h
 rw [laws_markEntryS_l0] at h
 refine pwp_seq ?_
 refine srve 27 [(0, rf 0 0 2 x4), (1, I x2), (5, I x3), (9, B (decide (x3 < (x4.length : Int))))] [some ⟨0, dL x4⟩] ?_
 refine pc h (fun h => ?_) (fun h => ?_)
 refine pwp_skip ?_
 refine pwp_seq ?_
 refine pwp_block ?_
 refine srv 3 27 [(0, rf 0 0 2 x4), (1, I x2), (5, I x3), (12, rf 0 0 2 x4), (13, I x3), (14, I x2)] [some ⟨0, dL x4⟩] ?_
 obtain ⟨v8, hv9, h⟩ := bindS h
 refine opsP_idr τ_ok 15 0 0 x4.length hv9 rfl (by kernel_rfl) ?_
 refine v 1 27 [(0, rf 0 0 2 x4), (1, I x2), (5, I x3), (14, I x2), (16, .ptr 0 0 (x3.toNat * 2))] [some ⟨0, dL x4⟩] ?_
 refine opsP_E (dd := none) (x := .any) (stdl_E (xs := x4) (vs := [I x2]) τ_ok 3 0 0 0 ({ v8 with fTime := x2 } : T_impl_Entry) hv9 (by kernel_rfl) (by kernel_rfl) (by kernel_rfl)) ?_
 refine io 27 [(0, rf 0 0 2 x4), (1, I x2), (5, I x3), (14, I x2)] [some ⟨0, dL (x4.set x3.toNat ({ v8 with fTime := x2 } : T_impl_Entry))⟩] ?_
 refine opsP_ren (st' := ⟨27, [(0, .ref 0 0 0 2 (x4.set x3.toNat ({ v8 with fTime := x2 } : T_impl_Entry)).length false), (1, I x2), (5, I x3), (14, I x2)], [some ⟨0, dL (x4.set x3.toNat ({ v8 with fTime := x2 } : T_impl_Entry))⟩]⟩) 0 (x4.set x3.toNat ({ v8 with fTime := x2 } : T_impl_Entry)).length (renC (ren_ref (List.length_set ..).symm) (renC trivial (renC trivial (renC trivial renC0)))) (by kernel_rfl) ?_
 refine ve 0 27 [(0, .ref 0 0 0 2 (x4.set x3.toNat ({ v8 with fTime := x2 } : T_impl_Entry)).length false), (1, I x2), (5, I x3)] [some ⟨0, dL (x4.set x3.toNat ({ v8 with fTime := x2 } : T_impl_Entry))⟩] ?_
 refine srve 27 [(0, .ref 0 0 0 2 (x4.set x3.toNat ({ v8 with fTime := x2 } : T_impl_Entry)).length false), (1, I (w64 (x2 + 1))), (5, I x3)] [some ⟨0, dL (x4.set x3.toNat ({ v8 with fTime := x2 } : T_impl_Entry))⟩] ?_
 refine rv 2 27 [(0, .ref 0 0 0 2 (x4.set x3.toNat ({ v8 with fTime := x2 } : T_impl_Entry)).length false), (1, I (w64 (x2 + 1))), (5, I x3), (19, .ref 0 0 0 2 (x4.set x3.toNat ({ v8 with fTime := x2 } : T_impl_Entry)).length false), (20, I x3)] [some ⟨0, dL (x4.set x3.toNat ({ v8 with fTime := x2 } : T_impl_Entry))⟩] ?_
 obtain ⟨v10, hv11, h⟩ := bindS h
 refine opsP_idr τ_ok 21 0 0 (x4.set x3.toNat ({ v8 with fTime := x2 } : T_impl_Entry)).length hv11 rfl (by kernel_rfl) ?_
 refine v 1 27 [(0, .ref 0 0 0 2 (x4.set x3.toNat ({ v8 with fTime := x2 } : T_impl_Entry)).length false), (1, I (w64 (x2 + 1))), (5, I x3), (22, .ptr 0 0 (x3.toNat * 2 + 1))] [some ⟨0, dL (x4.set x3.toNat ({ v8 with fTime := x2 } : T_impl_Entry))⟩] ?_
 refine io 27 [(0, .ref 0 0 0 2 (x4.set x3.toNat ({ v8 with fTime := x2 } : T_impl_Entry)).length false), (1, I (w64 (x2 + 1))), (5, I x3), (22, .ptr 0 0 (x3.toNat * 2 + 1))] [some ⟨0, dL (x4.set x3.toNat ({ v8 with fTime := x2 } : T_impl_Entry))⟩] ?_
 refine opsP_imp (Imp.ghosts 1 (st' := ⟨27, [(0, .ref 0 0 0 2 (x4.set x3.toNat ({ v8 with fTime := x2 } : T_impl_Entry)).length false), (1, I (w64 (x2 + 1))), (5, I x3), (22, .ptr 0 0 (x3.toNat * 2 + 1))], [some ⟨0, dL (x4.set x3.toNat ({ v8 with fTime := x2 } : T_impl_Entry))⟩, some ⟨0, []⟩]⟩) (by kernel_rfl)) ?_
 refine opsP_E (dd := some 23) (x := rf 1 1 3 v10.fWrites) (CoreE.pre (H1 := [some ⟨0, setL (dL (x4.set x3.toNat ({ v8 with fTime := x2 } : T_impl_Entry))) (x3.toNat * 2 + 1) [rf 1 1 3 v10.fWrites]⟩, some ⟨1, dL v10.fWrites⟩]) (HStep.openL (cs0 := []) (xs := (x4.set x3.toNat ({ v8 with fTime := x2 } : T_impl_Entry))) (s := 3) (n := v10.fWrites.length) (f := false) (cs := dL v10.fWrites) 0 0 1 0 1 hv11 (by kernel_rfl) (by kernel_rfl) (by kernel_rfl) (by kernel_rfl) (by decide) (by first | exact pn hQ | exact pk hQ) (by kernel_rfl)) (ldo_E (xs := (x4.set x3.toNat ({ v8 with fTime := x2 } : T_impl_Entry))) τ_ok 23 26 1 hv11 (by kernel_rfl) (by kernel_rfl) (by kernel_rfl))) ?_
 refine v 1 27 [(0, .ref 0 0 0 2 (x4.set x3.toNat ({ v8 with fTime := x2 } : T_impl_Entry)).length false), (5, I x3), (23, rf 1 1 3 v10.fWrites), (24, I (w64 (x2 + 1)))] [some ⟨0, setL (dL (x4.set x3.toNat ({ v8 with fTime := x2 } : T_impl_Entry))) (x3.toNat * 2 + 1) [rf 1 1 3 v10.fWrites]⟩, some ⟨1, dL v10.fWrites⟩] ?_
 obtain ⟨v12, hv13, h⟩ := bindS h
 refine opsP_E (dd := some 25) (x := I v12.1) ((callD_E τ 25 1 1 (ok_laws_markWriteS hv13) (by kernel_rfl)).then (H2 := [some ⟨0, dL ((x4.set x3.toNat ({ v8 with fTime := x2 } : T_impl_Entry)).set x3.toNat ({ v10 with fWrites := v12.2 } : T_impl_Entry))⟩, some ⟨2, []⟩]) (HStep.nestL (xs := (x4.set x3.toNat ({ v8 with fTime := x2 } : T_impl_Entry))) (vs := [rf 1 1 3 v10.fWrites]) 0 0 1 ({ v10 with fWrites := v12.2 } : T_impl_Entry) hv11 (by kernel_rfl) (OutL.cons (OutP.listDn (v := 1) (xs := v12.2) (len_laws_markWriteS hv13) (by kernel_rfl)) (OutL.nil _)) (by decide) (by decide) (by first | exact pn hQ | exact pk hQ) (by kernel_rfl) (by kernel_rfl) (by kernel_rfl) (by kernel_rfl))) ?_
 refine io 27 [(0, .ref 0 0 0 2 (x4.set x3.toNat ({ v8 with fTime := x2 } : T_impl_Entry)).length false), (5, I x3), (24, I (w64 (x2 + 1))), (25, I v12.1)] [some ⟨0, dL ((x4.set x3.toNat ({ v8 with fTime := x2 } : T_impl_Entry)).set x3.toNat ({ v10 with fWrites := v12.2 } : T_impl_Entry))⟩, some ⟨2, []⟩] ?_
 refine opsP_ren (st' := ⟨27, [(0, .ref 0 0 0 2 ((x4.set x3.toNat ({ v8 with fTime := x2 } : T_impl_Entry)).set x3.toNat ({ v10 with fWrites := v12.2 } : T_impl_Entry)).length false), (5, I x3), (24, I (w64 (x2 + 1))), (25, I v12.1)], [some ⟨0, dL ((x4.set x3.toNat ({ v8 with fTime := x2 } : T_impl_Entry)).set x3.toNat ({ v10 with fWrites := v12.2 } : T_impl_Entry))⟩, some ⟨2, []⟩]⟩) 0 ((x4.set x3.toNat ({ v8 with fTime := x2 } : T_impl_Entry)).set x3.toNat ({ v10 with fWrites := v12.2 } : T_impl_Entry)).length (renC (ren_ref (List.length_set ..).symm) (renC trivial (renC trivial (renC trivial renC0)))) (by kernel_rfl) ?_
 refine ve 1 27 [(0, .ref 0 0 0 2 ((x4.set x3.toNat ({ v8 with fTime := x2 } : T_impl_Entry)).set x3.toNat ({ v10 with fWrites := v12.2 } : T_impl_Entry)).length false), (1, I v12.1), (5, I x3)] [some ⟨0, dL ((x4.set x3.toNat ({ v8 with fTime := x2 } : T_impl_Entry)).set x3.toNat ({ v10 with fWrites := v12.2 } : T_impl_Entry))⟩, some ⟨2, []⟩] ?_
 refine rve 27 [(0, .ref 0 0 0 2 ((x4.set x3.toNat ({ v8 with fTime := x2 } : T_impl_Entry)).set x3.toNat ({ v10 with fWrites := v12.2 } : T_impl_Entry)).length false), (1, I v12.1), (5, I (w64 (x3 + 1)))] [some ⟨0, dL ((x4.set x3.toNat ({ v8 with fTime := x2 } : T_impl_Entry)).set x3.toNat ({ v10 with fWrites := v12.2 } : T_impl_Entry))⟩, some ⟨2, []⟩] ?_
 exact ⟨(f5, v12.1, (w64 (x3 + 1)), ((x4.set x3.toNat ({ v8 with fTime := x2 } : T_impl_Entry)).set x3.toNat ({ v10 with fWrites := v12.2 } : T_impl_Entry))), h, Nat.lt_succ_self _, (it (st' := ⟨27, [(0, .ref 0 0 0 2 ((x4.set x3.toNat ({ v8 with fTime := x2 } : T_impl_Entry)).set x3.toNat ({ v10 with fWrites := v12.2 } : T_impl_Entry)).length false), (1, I v12.1), (5, I (w64 (x3 + 1)))], [some ⟨0, dL ((x4.set x3.toNat ({ v8 with fTime := x2 } : T_impl_Entry)).set x3.toNat ({ v10 with fWrites := v12.2 } : T_impl_Entry))⟩, some ⟨2, []⟩]⟩) [0, 1, 5]).trans (Imp.truncS 1 (pl hQ) (by kernel_rfl) (allBelow_mem (by exact (And.intro rfl (And.intro rfl (And.intro rfl trivial))))) (by exact (And.intro (dL_below _ _) trivial)) (by kernel_rfl))⟩
 refine pwp_exit ?_
 refine srve 27 [(4, I x2)] [some ⟨0, dL x4⟩] ?_
 have h := si h
 subst h
 exact pwp_ret ⟨.inr rfl, 0, by kernel_rfl, by kernel_rfl⟩
def laws_markEntry (a0 : T_impl_Entry) (a1 : Int) : Option Int := (laws_markWriteS a0.fWrites a1).bind fun v1 => some v1.1
theorem ok_laws_markEntry {a0 : T_impl_Entry} {a1 : Int} {y : Int} (h : laws_markEntry a0 a1 = some y) : OKm Try.prog 25 [.agg (DEnc.cells a0), I a1] (I y) := by
 refine OKm_of_pwp (sl := [.agg [I a0.fTime, rf 0 0 3 a0.fWrites], I a1]) (bs := [⟨0, dL a0.fWrites⟩]) τ_ok Try.func25 rfl (by kernel_rfl) rfl (by kernel_rfl) fun Γ hX => ?_
 refine pwp_imp (Imp.to (st' := ⟨10, [(0, .agg [I a0.fTime, rf 0 0 3 a0.fWrites]), (1, I a1)], [some ⟨0, dL a0.fWrites⟩]⟩) [0, 1] (by kernel_rfl)) ?_
 unfold laws_markEntry at h
 refine srveM [2] 10 [(1, I a1), (2, .ptr 1 0 0)] [some ⟨0, dL a0.fWrites⟩, some ⟨0, [I a0.fTime, rf 0 0 3 a0.fWrites]⟩] ?_
 refine srvM [2] 3 10 [(6, rf 0 0 3 a0.fWrites), (7, I a1)] [some ⟨0, dL a0.fWrites⟩, some ⟨0, [I a0.fTime, rf 0 0 3 a0.fWrites]⟩] ?_
 obtain ⟨v1, hv2, h⟩ := bindS h
 refine opsP_E (dd := some 8) (x := I v1.1) (callD_E τ 8 0 0 (ok_laws_markWriteS hv2) (by kernel_rfl)) ?_
 refine io 10 [(6, rf 0 0 3 a0.fWrites), (7, I a1), (8, I v1.1)] [some ⟨0, dL v1.2⟩, some ⟨0, [I a0.fTime, rf 0 0 3 a0.fWrites]⟩] ?_
 refine opsP_ren (st' := ⟨10, [(6, rf 0 0 3 v1.2), (7, I a1), (8, I v1.1)], [some ⟨0, dL v1.2⟩, some ⟨0, [I a0.fTime, rf 0 0 3 a0.fWrites]⟩]⟩) 0 v1.2.length (renC (ren_ref (len_laws_markWriteS hv2).symm) (renC trivial (renC trivial renC0))) (by kernel_rfl) ?_
 refine veM [2] 1 10 [(1, I v1.1)] [some ⟨0, dL v1.2⟩, some ⟨0, [I a0.fTime, rf 0 0 3 a0.fWrites]⟩] ?_
 refine srveM [2] 10 [(4, I v1.1)] [some ⟨0, dL v1.2⟩, some ⟨0, [I a0.fTime, rf 0 0 3 a0.fWrites]⟩] ?_
 cases h
 exact pwp_ret rz
def impl_WritesOk_j1 (x1 : Int) (K3 : Int → Option Bool) (x7 : Bool) : Option Bool := bif x7 then some false else K3 (w64 (x1 + 1))
def impl_WritesOk_l0 (a0 : List T_impl_Write) : Nat → Int → Option Bool
 | 0, _ => none
 | f2 + 1, x1 => bif (decide (x1 < (a0.length : Int))) then (getI a0 x1).bind fun v5 => (impl_keyOk v5.fKey).bind fun v9 => bif (!v9) then impl_WritesOk_j1 x1 (impl_WritesOk_l0 a0 f2) true else (impl_RowOk v5.fRow).bind fun v11 => bif (!v11) then impl_WritesOk_j1 x1 (impl_WritesOk_l0 a0 f2) true else bif v5.fGone then bif (decide ((v5.fRow.length : Int) > 0)) then impl_WritesOk_j1 x1 (impl_WritesOk_l0 a0 f2) true else bif (decide (x1 > 0)) then (getI a0 (w64 (x1 - 1))).bind fun v13 => impl_WritesOk_j1 x1 (impl_WritesOk_l0 a0 f2) (decide (v13.fKey ≥ v5.fKey)) else impl_WritesOk_j1 x1 (impl_WritesOk_l0 a0 f2) false else bif (decide (x1 > 0)) then (getI a0 (w64 (x1 - 1))).bind fun v17 => impl_WritesOk_j1 x1 (impl_WritesOk_l0 a0 f2) (decide (v17.fKey ≥ v5.fKey)) else impl_WritesOk_j1 x1 (impl_WritesOk_l0 a0 f2) false else some (decide ((a0.length : Int) ≤ 5))
def impl_WritesOk (a0 : List T_impl_Write) : Option Bool := impl_WritesOk_l0 a0 FUEL 0
end Go.D
