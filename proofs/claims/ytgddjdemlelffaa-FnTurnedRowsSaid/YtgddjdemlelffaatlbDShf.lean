import Derived.Test.YtgddjdemlelffaatlbDClr
import Derived.Test.YtgddjdemlelffaatlbDFz
import Derived.Shelf.RegionOpenPlain
import Derived.WalkKit
import Derived.Deep.LoopGhost
import Derived.Deep.RegionLaw
import Derived.Lib.Walk
import Derived.Lib.SliceRun
import Derived.Lib.Overlaps
import Derived.Lib.AppendZerosOnto
import Derived.Laws.Externs
import Derived.Laws.IdiomCopy
set_option linter.unusedVariables false
set_option linter.unusedSimpArgs false
namespace Go.D
open Go.Lib Go.RowKit
def delFn (nm : String) (tg : Array TypeId) (tn : Array String) (tS tI tB tN : TypeId) : Func :=
  { name := nm, origin := "slices.Delete", targs := tg, params := #[tS, tI, tI], resultTypes := #[tS], nfree := 0, ntmps := 33, results := #[ResultVar.tmp 6], body := some
        ((Code.region 0 #[{ dst := some 6, op := Op.assign (Operand.const (Value.slice none 0 0)), type := tS, pos := "slices.go:224", after := #[], guard := none }] false).seq
        ((Code.region 1 #[{ dst := some 8, op := Op.move (Operand.tmp 0), type := tS, pos := "slices.go:225", after := #[], guard := none },
          { dst := some 9, op := Op.move (Operand.tmp 1), type := tI, pos := "slices.go:225", after := #[], guard := none },
          { dst := some 10, op := Op.move (Operand.tmp 2), type := tI, pos := "slices.go:225", after := #[], guard := none },
          { dst := some 11, op := Op.move (Operand.tmp 0), type := tS, pos := "slices.go:225", after := #[], guard := none },
          { dst := some 12, op := Op.call { callee := Callee.builtin Builtin.len, args := #[Operand.tmp 11], argTypes := #[tS] }, type := tI, pos := "slices.go:225", after := #[{ on := 3, ground := Ground.data }], guard := none },
          { dst := some 13, op := Op.slice tS (Operand.tmp 8) (some (Operand.tmp 9)) (some (Operand.tmp 10)) (some (Operand.tmp 12)), type := tS, pos := "slices.go:225", after := #[{ on := 0, ground := Ground.data }, { on := 1, ground := Ground.data }, { on := 2, ground := Ground.data }, { on := 4, ground := Ground.data }], guard := none }] false).seq
        (((Code.region 2 #[{ dst := some 14, op := Op.move (Operand.tmp 1), type := tI, pos := "slices.go:227", after := #[], guard := none },
          { dst := some 15, op := Op.move (Operand.tmp 2), type := tI, pos := "slices.go:227", after := #[], guard := none },
          { dst := some 16, op := Op.binOp BinOp.eql tI (Operand.tmp 14) (Operand.tmp 15) tI, type := tB, pos := "slices.go:227", after := #[{ on := 0, ground := Ground.data }, { on := 1, ground := Ground.data }], guard := none }] false).seq (Code.cond (Operand.tmp 16)
        ((Code.region 3 #[{ dst := some 17, op := Op.move (Operand.tmp 0), type := tS, pos := "slices.go:228", after := #[], guard := none },
          { dst := some 6, op := Op.assign (Operand.tmp 17), type := tS, pos := "slices.go:228", after := #[{ on := 0, ground := Ground.data }, { on := 0, ground := Ground.phase }], guard := none }] false).seq Code.ret) Code.skip)).seq
        ((Code.region 4 #[{ dst := some 18, op := Op.move (Operand.tmp 0), type := tS, pos := "slices.go:231", after := #[], guard := none },
          { dst := some 19, op := Op.call { callee := Callee.builtin Builtin.len, args := #[Operand.tmp 18], argTypes := #[tS] }, type := tI, pos := "slices.go:231", after := #[{ on := 0, ground := Ground.data }], guard := none },
          { dst := some 7, op := Op.assign (Operand.tmp 19), type := tI, pos := "slices.go:231", after := #[{ on := 1, ground := Ground.data }, { on := 0, ground := Ground.phase }, { on := 1, ground := Ground.phase }], guard := none }] false).seq
        ((Code.region 5 #[{ dst := some 20, op := Op.move (Operand.tmp 0), type := tS, pos := "slices.go:232", after := #[], guard := none },
          { dst := some 21, op := Op.move (Operand.tmp 1), type := tI, pos := "slices.go:232", after := #[], guard := none },
          { dst := some 22, op := Op.slice tS (Operand.tmp 20) none (some (Operand.tmp 21)) none, type := tS, pos := "slices.go:232", after := #[{ on := 0, ground := Ground.data }, { on := 1, ground := Ground.data }], guard := none },
          { dst := some 23, op := Op.move (Operand.tmp 0), type := tS, pos := "slices.go:232", after := #[], guard := none },
          { dst := some 24, op := Op.move (Operand.tmp 2), type := tI, pos := "slices.go:232", after := #[], guard := none },
          { dst := some 25, op := Op.slice tS (Operand.tmp 23) (some (Operand.tmp 24)) none none, type := tS, pos := "slices.go:232", after := #[{ on := 3, ground := Ground.data }, { on := 4, ground := Ground.data }], guard := none },
          { dst := some 26, op := Op.call { callee := Callee.builtin Builtin.append, args := #[Operand.tmp 22, Operand.tmp 25], argTypes := #[tS, tS] }, type := tS, pos := "slices.go:232", after := #[{ on := 2, ground := Ground.data }, { on := 5, ground := Ground.data }], guard := none },
          { dst := some 0, op := Op.assign (Operand.tmp 26), type := tS, pos := "slices.go:232", after := #[{ on := 6, ground := Ground.data }, { on := 6, ground := Ground.chain }, { on := 0, ground := Ground.phase }, { on := 1, ground := Ground.phase }, { on := 2, ground := Ground.phase }, { on := 3, ground := Ground.phase }, { on := 4, ground := Ground.phase }, { on := 5, ground := Ground.phase }, { on := 6, ground := Ground.phase }], guard := none }] true).seq
        ((Code.region 6 #[{ dst := some 27, op := Op.move (Operand.tmp 0), type := tS, pos := "slices.go:233", after := #[], guard := none },
          { dst := some 28, op := Op.move (Operand.tmp 0), type := tS, pos := "slices.go:233", after := #[], guard := none },
          { dst := some 29, op := Op.call { callee := Callee.builtin Builtin.len, args := #[Operand.tmp 28], argTypes := #[tS] }, type := tI, pos := "slices.go:233", after := #[{ on := 1, ground := Ground.data }], guard := none },
          { dst := some 30, op := Op.move (Operand.tmp 7), type := tI, pos := "slices.go:233", after := #[], guard := none },
          { dst := some 31, op := Op.slice tS (Operand.tmp 27) (some (Operand.tmp 29)) (some (Operand.tmp 30)) none, type := tS, pos := "slices.go:233", after := #[{ on := 0, ground := Ground.data }, { on := 2, ground := Ground.data }, { on := 3, ground := Ground.data }], guard := none },
          { dst := none, op := Op.call { callee := Callee.builtin Builtin.clear, args := #[Operand.tmp 31], argTypes := #[tS] }, type := tN, pos := "slices.go:233", after := #[{ on := 4, ground := Ground.data }], guard := none }] false).seq
        ((Code.region 7 #[{ dst := some 32, op := Op.move (Operand.tmp 0), type := tS, pos := "slices.go:234", after := #[], guard := none },
          { dst := some 6, op := Op.assign (Operand.tmp 32), type := tS, pos := "slices.go:234", after := #[{ on := 0, ground := Ground.data }, { on := 0, ground := Ground.phase }], guard := none }] false).seq Code.ret))))))), norace := false, file := "slices/slices.go", endLine := 235, tmpNames := tn }
theorem delFn_ntmps (nm : String) (tg : Array TypeId) (tn : Array String) (tS tI tB tN : TypeId) : (delFn nm tg tn tS tI tB tN).ntmps = 33 := rfl
structure ShT (P : Program) (tS tI tB tN tE : TypeId) (s : Nat) : Prop where
 mixed : P.follows .mixedOrders = true
 t0 : P.underlying tN = some (TypeDesc.tuple #[])
 a0 : ∀ w, (isAgg tN).run P w = .ok false w
 z0 : ∀ w, (Go.sizeOf tN).run P w = .ok 1 w
 v0 : ∀ w, (zeroValue tN).run P w = .ok (Value.tuple #[]) w
 t3 : P.underlying tI = some (TypeDesc.int IntKind.i64)
 a3 : ∀ w, (isAgg tI).run P w = .ok false w
 z3 : ∀ w, (Go.sizeOf tI).run P w = .ok 1 w
 v3 : ∀ w, (zeroValue tI).run P w = .ok (Value.int IntKind.i64 0) w
 t4 : P.underlying tB = some (TypeDesc.bool)
 a4 : ∀ w, (isAgg tB).run P w = .ok false w
 z4 : ∀ w, (Go.sizeOf tB).run P w = .ok 1 w
 v4 : ∀ w, (zeroValue tB).run P w = .ok (Value.bool false) w
 t22 : P.underlying tS = some (TypeDesc.slice tE)
 a22 : ∀ w, (isAgg tS).run P w = .ok false w
 z22 : ∀ w, (Go.sizeOf tS).run P w = .ok 1 w
 v22 : ∀ w, (zeroValue tS).run P w = .ok (Value.slice none 0 0) w
 z23 : ∀ w, (Go.sizeOf tE).run P w = .ok s w
theorem run_clear_gen {P : Program} (w : World) (t e ty : TypeId) (zz : Value) (ht : P.underlying t = some (.slice e)) (hzv : (zeroValue e).run P w = .ok zz w) (us : List Value) (b o n c : Nat) (hn : 0 < n) (hus : (Builtin.zeroCells zz.cells n).toList = us)
  (h1 : ∀ u ∈ us, u.oneCell' = true) (hc : ∀ j, j < us.length → (w.cell? ⟨b, o + j, none⟩).isSome = true) (hf : ∀ j, j < us.length → w.frozen? ⟨b, o + j, none⟩ = false) :
  (Builtin.clear_ #[t] ty #[.slice (some ⟨b, o, none⟩) n c]).run P w = .ok (.tuple #[]) (w.setCells b o us) := by
 have hst : (storeCells ⟨b, o, none⟩ us).run P w = .ok () (w.setCells b o us) := by
  have := run_storeCells_cells (P := P) b o us 0 w (by simpa using hc) (by simpa using hf) h1
  rwa [Nat.add_zero] at this
 obtain ⟨m, rfl⟩ : ∃ m, n = m + 1 := ⟨n - 1, by omega⟩
 simp [Builtin.clear_, run_underlying ht, hzv, hus, hst]
section
variable {P : Program} {f : FuncId} {nm : String} {tg : Array TypeId} {tn : Array String} {tS tI tB tN tE : TypeId} {s : Nat}
set_option maxHeartbeats 4000000 in
set_option maxRecDepth 1000000 in
theorem shf_delete0 (T : ShT P tS tI tB tN tE s) (hf : P.funcs[f]? = some (delFn nm tg tn tS tI tB tN)) (A : Option Addr) (n cap i : Nat) (hcap : n ≤ cap) (hi : i ≤ n) (w : World) :
  Calls P f #[.slice A n cap, .int .i64 i, .int .i64 i] w fun e w' => e = .returned (.slice A n cap) ∧ w' = w := by
 have mixed := T.mixed; have t0 := T.t0; have a0 := T.a0; have z0 := T.z0; have v0 := T.v0; have t3 := T.t3; have a3 := T.a3; have z3 := T.z3; have v3 := T.v3; have t4 := T.t4; have a4 := T.a4; have z4 := T.z4; have v4 := T.v4; have t22 := T.t22; have a22 := T.a22; have z22 := T.z22; have v22 := T.v22; have z23 := T.z23
 go_enter hf, delFn_ntmps
 go_wp2
 all_goals (go_ret; exact ⟨rfl, rfl⟩)
set_option maxHeartbeats 4000000 in
set_option maxRecDepth 1000000 in
theorem shf_delete (T : ShT P tS tI tB tN tE s) (hf : P.funcs[f]? = some (delFn nm tg tn tS tI tB tN)) (i0 : TypeInfo) (hi0 : P.info? tE = some i0) (hz1 : i0.size = s) (zz : Value) (hzv : ∀ w, (zeroValue tE).run P w = .ok zz w)
    (hs0 : 0 < s) (hzs : zz.cells.size = s) (hzo : ∀ n, ∀ u ∈ (Builtin.zeroCells zz.cells n).toList, u.oneCell' = true) (b n cap i j : Nat) (us : List Value) (hul : us.length = n * s) (w : World) (c : Array Value) (e : TypeId)
    (hh : w.heap[b]? = some (.cells c e (0, 0))) (hlie : ∀ t, t < us.length → c[t]? = us[t]?) (hcap : n ≤ cap) (hfit : cap * s ≤ c.size) (hm : cap ≤ 9223372036854775807) (hlt : i < j) (hj : j ≤ n) (h1 : ∀ u ∈ us, u.oneCell' = true) :
    Calls P f #[.slice (some ⟨b, 0, none⟩) n cap, .int .i64 i, .int .i64 j] w fun ex w' => ex = .returned (.slice (some ⟨b, 0, none⟩) (i + (n - j)) cap) ∧
      w' = (w.drew.setCells b (i * s) (us.drop (j * s))).setCells b ((i + (n - j)) * s) (Builtin.zeroCells zz.cells (j - i)).toList := by
  have mixed := T.mixed; have t0 := T.t0; have a0 := T.a0; have z0 := T.z0; have v0 := T.v0; have t3 := T.t3; have a3 := T.a3; have z3 := T.z3; have v3 := T.v3; have t4 := T.t4; have a4 := T.a4; have z4 := T.z4; have v4 := T.v4; have t22 := T.t22; have a22 := T.a22; have z22 := T.z22; have v22 := T.v22; have z23 := T.z23
  have hns : n * s ≤ c.size := Nat.le_trans (Nat.mul_le_mul_right s hcap) hfit
  have hjs : j * s ≤ n * s := Nat.mul_le_mul_right s hj
  have his : i * s ≤ j * s := Nat.mul_le_mul_right s (by omega)
  obtain ⟨news, hnews⟩ : ∃ news, news = us.drop (j * s) := ⟨_, rfl⟩
  have hlen : news.length = (n - j) * s := by rw [hnews, List.length_drop, hul, Nat.sub_mul]
  have hfit0 : i * s + news.length ≤ c.size := by rw [hlen, Nat.sub_mul]; omega
  obtain ⟨A, hA, hsrc⟩ : ∃ A : Addr, (if cap = j then some (⟨b, 0, none⟩ : Addr) else some ⟨b, j * s, none⟩) = some A ∧ Hid (∀ t u, news[t]? = some u → w.drew.cell? (A.add t) = some u) := by
    by_cases h : cap = j
    · refine ⟨⟨b, 0, none⟩, by simp [h], fun t u hu => ?_⟩
      have h0 : news.length = 0 := by rw [hlen]; have : n - j = 0 := by omega
                                      rw [this, Nat.zero_mul]
      rw [List.length_eq_zero_iff.1 h0] at hu
      simp at hu
    · refine ⟨⟨b, j * s, none⟩, by simp [h], fun t u hu => ?_⟩
      have ht := (List.getElem?_eq_some_iff.1 hu).1
      rw [Addr.add_lit]
      show w.cell? _ = _
      rw [cell_of_heap hh, hlie _ (by rw [hul]; rw [hlen, Nat.sub_mul] at ht; omega), ← hu, hnews, List.getElem?_drop]
  have s1 : Hid (news.length = (n - j) * s) := hlen
  have s2 : Hid (∀ u ∈ news, u.oneCell' = true) := fun u hu => h1 u (List.mem_of_mem_drop (hnews ▸ hu))
  have s3 : Hid (∀ t, t < news.length → (w.drew.cell? ⟨b, 0 + i * s + t, none⟩).isSome = true ∧ w.drew.frozen? ⟨b, 0 + i * s + t, none⟩ = false) := fun t ht => by
    rw [Nat.zero_add]
    refine ⟨?_, frozen_of_heap (w := w.drew) hh _⟩
    show (w.cell? _).isSome = true
    rw [cell_of_heap hh, Array.getElem?_eq_getElem (by omega)]
    rfl
  obtain ⟨W1, hW1⟩ : ∃ W1, W1 = w.drew.setCells b (i * s) news := ⟨_, rfl⟩
  obtain ⟨c1, hh1, hc1, _⟩ := heap_setCells b news (i * s) w.drew hh hfit0
  rw [← hW1] at hh1
  obtain ⟨zs, hzeq⟩ : ∃ zs, zs = (Builtin.zeroCells zz.cells (j - i)).toList := ⟨_, rfl⟩
  have hzl : zs.length = (j - i) * s := by rw [hzeq]; simp [Builtin.zeroCells, hzs]
  have hnj : (i + (n - j)) * s + (j - i) * s = n * s := by rw [← Nat.add_mul]; congr 1; omega
  have hcl : ∀ ty, (Builtin.clear_ #[tS] ty #[.slice (some ⟨b, (i + (n - j)) * s, none⟩) (n - (i + (n - j))) (cap - (i + (n - j)))]).run P W1 = .ok (.tuple #[]) (W1.setCells b ((i + (n - j)) * s) zs) := fun ty => by
    rw [show n - (i + (n - j)) = j - i by omega]
    exact run_clear_gen W1 tS tE ty zz t22 (hzv _) zs b _ _ _ (by omega) hzeq.symm (fun u hu => hzo _ u (hzeq ▸ hu)) (fun k hk => by rw [cell_of_heap hh1, Array.getElem?_eq_getElem (by omega)]; rfl) (fun k hk => frozen_of_heap hh1 _)
  have hW : Hid (W1 = w.drew.setCells b (0 + i * s) news) := by rw [Nat.zero_add]; exact hW1
  have hic : i ≤ cap := by omega
  have hjc : j ≤ cap := by omega
  have X : Hid ((w.drew.setCells b (i * s) news).setCells b ((i + (n - j)) * s) zs = W1.setCells b ((i + (n - j)) * s) zs) := by rw [hW1]; rfl
  rw [← hnews, ← hzeq, X.out]
  have hcc : ¬ (cap = i + (n - j)) := by omega
  clear hW1 hnews hlen hzeq hzl hh1 hc1 hfit0 hnj hlie hh hul hns hjs his hzo hzs
  go_enter hf, delFn_ntmps
  go_wp2_with fail
  go_region_law_o (refine step_append_room rfl (.tmp 22) (.tmp 25) tS rfl tE i0 s t22 hi0 hz1 b 0 i cap (by simp [Act.eval, Act.put]) A (n - j) (cap - j) news (by simp [Act.eval, Act.put]) s1.out hsrc.out s2.out (by omega) s3.out ?_; rw [← hW.out])
  go_wp2
  go_ret
  exact ⟨rfl, rfl⟩
end
end Go.D
