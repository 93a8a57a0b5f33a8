import Derived.Test.YtgddjdemlelffaatlbDShf
set_option linter.unusedVariables false
set_option linter.unusedSimpArgs false
namespace Go.D
open Go.Lib Go.RowKit
def insFn (nm : String) (tg : Array TypeId) (tn : Array String) (tS tI tB tN : TypeId) (gO gR : FuncId) : Func :=
  { name := nm, origin := "slices.Insert", targs := tg, params := #[tS, tI, tS], resultTypes := #[tS], nfree := 0, ntmps := 95, results := #[ResultVar.tmp 6], body := some
        ((Code.region 0 #[{ dst := some 6, op := Op.assign (Operand.const (Value.slice none 0 0)), type := tS, pos := "slices.go:136", after := #[], guard := none }] false).seq
        ((Code.region 1 #[{ dst := some 10, op := Op.move (Operand.tmp 0), type := tS, pos := "slices.go:137", after := #[], guard := none },
          { dst := some 11, op := Op.move (Operand.tmp 1), type := tI, pos := "slices.go:137", after := #[], guard := none },
          { dst := some 12, op := Op.slice tS (Operand.tmp 10) (some (Operand.tmp 11)) none none, type := tS, pos := "slices.go:137", after := #[{ on := 0, ground := Ground.data }, { on := 1, ground := Ground.data }], guard := none }] false).seq
        ((Code.region 2 #[{ dst := some 13, op := Op.move (Operand.tmp 2), type := tS, pos := "slices.go:139", after := #[], guard := none },
          { dst := some 14, op := Op.call { callee := Callee.builtin Builtin.len, args := #[Operand.tmp 13], argTypes := #[tS] }, type := tI, pos := "slices.go:139", after := #[{ on := 0, ground := Ground.data }], guard := none },
          { dst := some 7, op := Op.assign (Operand.tmp 14), type := tI, pos := "slices.go:139", after := #[{ on := 1, ground := Ground.data }, { on := 0, ground := Ground.phase }, { on := 1, ground := Ground.phase }], guard := none }] false).seq
        (((Code.region 3 #[{ dst := some 15, op := Op.move (Operand.tmp 7), type := tI, pos := "slices.go:140", after := #[], guard := none },
          { dst := some 16, op := Op.binOp BinOp.eql tI (Operand.tmp 15) (Operand.const (Value.int IntKind.i64 0)) tI, type := tB, pos := "slices.go:140", after := #[{ on := 0, ground := Ground.data }], guard := none }] false).seq (Code.cond (Operand.tmp 16)
        ((Code.region 4 #[{ dst := some 17, op := Op.move (Operand.tmp 0), type := tS, pos := "slices.go:141", after := #[], guard := none },
          { dst := some 6, op := Op.assign (Operand.tmp 17), type := tS, pos := "slices.go:141", after := #[{ on := 0, ground := Ground.data }, { on := 0, ground := Ground.phase }], guard := none }] false).seq Code.ret) Code.skip)).seq
        ((Code.region 5 #[{ dst := some 18, op := Op.move (Operand.tmp 0), type := tS, pos := "slices.go:143", after := #[], guard := none },
          { dst := some 19, op := Op.call { callee := Callee.builtin Builtin.len, args := #[Operand.tmp 18], argTypes := #[tS] }, type := tI, pos := "slices.go:143", after := #[{ on := 0, ground := Ground.data }], guard := none },
          { dst := some 8, op := Op.assign (Operand.tmp 19), type := tI, pos := "slices.go:143", after := #[{ on := 1, ground := Ground.data }, { on := 0, ground := Ground.phase }, { on := 1, ground := Ground.phase }], guard := none }] false).seq
        (((Code.region 6 #[{ dst := some 20, op := Op.move (Operand.tmp 1), type := tI, pos := "slices.go:144", after := #[], guard := none },
          { dst := some 21, op := Op.move (Operand.tmp 8), type := tI, pos := "slices.go:144", after := #[], guard := none },
          { dst := some 22, op := Op.binOp BinOp.eql tI (Operand.tmp 20) (Operand.tmp 21) tI, type := tB, pos := "slices.go:144", after := #[{ on := 0, ground := Ground.data }, { on := 1, ground := Ground.data }], guard := none }] false).seq (Code.cond (Operand.tmp 22)
        ((Code.region 7 #[{ dst := some 23, op := Op.move (Operand.tmp 0), type := tS, pos := "slices.go:145", after := #[], guard := none },
          { dst := some 24, op := Op.move (Operand.tmp 2), type := tS, pos := "slices.go:145", after := #[], guard := none },
          { dst := some 25, op := Op.call { callee := Callee.builtin Builtin.append, args := #[Operand.tmp 23, Operand.tmp 24], argTypes := #[tS, tS] }, type := tS, pos := "slices.go:145", after := #[{ on := 0, ground := Ground.data }, { on := 1, ground := Ground.data }], guard := none },
          { dst := some 6, op := Op.assign (Operand.tmp 25), type := tS, pos := "slices.go:145", after := #[{ on := 2, ground := Ground.data }, { on := 2, ground := Ground.chain }, { on := 0, ground := Ground.phase }, { on := 1, ground := Ground.phase }, { on := 2, ground := Ground.phase }], guard := none }] false).seq Code.ret) Code.skip)).seq
        (((Code.region 8 #[{ dst := some 26, op := Op.move (Operand.tmp 8), type := tI, pos := "slices.go:147", after := #[], guard := none },
          { dst := some 27, op := Op.move (Operand.tmp 7), type := tI, pos := "slices.go:147", after := #[], guard := none },
          { dst := some 28, op := Op.binOp BinOp.add tI (Operand.tmp 26) (Operand.tmp 27) tI, type := tI, pos := "slices.go:147", after := #[{ on := 0, ground := Ground.data }, { on := 1, ground := Ground.data }], guard := none },
          { dst := some 29, op := Op.move (Operand.tmp 0), type := tS, pos := "slices.go:147", after := #[], guard := none },
          { dst := some 30, op := Op.call { callee := Callee.builtin Builtin.cap, args := #[Operand.tmp 29], argTypes := #[tS] }, type := tI, pos := "slices.go:147", after := #[{ on := 3, ground := Ground.data }], guard := none },
          { dst := some 31, op := Op.binOp BinOp.gtr tI (Operand.tmp 28) (Operand.tmp 30) tI, type := tB, pos := "slices.go:147", after := #[{ on := 2, ground := Ground.data }, { on := 4, ground := Ground.data }], guard := none }] false).seq (Code.cond (Operand.tmp 31)
        ((Code.region 9 #[{ dst := some 32, op := Op.move (Operand.tmp 0), type := tS, pos := "slices.go:152", after := #[], guard := none },
          { dst := some 33, op := Op.move (Operand.tmp 1), type := tI, pos := "slices.go:152", after := #[], guard := none },
          { dst := some 34, op := Op.slice tS (Operand.tmp 32) none (some (Operand.tmp 33)) none, type := tS, pos := "slices.go:152", after := #[{ on := 0, ground := Ground.data }, { on := 1, ground := Ground.data }], guard := none },
          { dst := some 35, op := Op.move (Operand.tmp 8), type := tI, pos := "slices.go:152", after := #[], guard := none },
          { dst := some 36, op := Op.move (Operand.tmp 7), type := tI, pos := "slices.go:152", after := #[], guard := none },
          { dst := some 37, op := Op.binOp BinOp.add tI (Operand.tmp 35) (Operand.tmp 36) tI, type := tI, pos := "slices.go:152", after := #[{ on := 3, ground := Ground.data }, { on := 4, ground := Ground.data }], guard := none },
          { dst := some 38, op := Op.move (Operand.tmp 1), type := tI, pos := "slices.go:152", after := #[], guard := none },
          { dst := some 39, op := Op.binOp BinOp.sub tI (Operand.tmp 37) (Operand.tmp 38) tI, type := tI, pos := "slices.go:152", after := #[{ on := 5, ground := Ground.data }, { on := 6, ground := Ground.data }], guard := none },
          { dst := some 40, op := Op.call { callee := Callee.builtin Builtin.append, args := #[Operand.tmp 34, Operand.tmp 39], argTypes := #[tS, tI] }, type := tS, pos := "slices.go:152", after := #[{ on := 2, ground := Ground.data }, { on := 7, ground := Ground.data }], guard := none },
          { dst := some 9, op := Op.assign (Operand.tmp 40), type := tS, pos := "slices.go:152", after := #[{ on := 8, ground := Ground.data }, { on := 8, ground := Ground.chain }, { on := 0, ground := Ground.phase }, { on := 1, ground := Ground.phase }, { on := 2, ground := Ground.phase }, { on := 3, ground := Ground.phase }, { on := 4, ground := Ground.phase }, { on := 5, ground := Ground.phase }, { on := 6, ground := Ground.phase }, { on := 7, ground := Ground.phase }, { on := 8, ground := Ground.phase }], guard := none }] false).seq
        ((Code.region 10 #[{ dst := some 41, op := Op.move (Operand.tmp 9), type := tS, pos := "slices.go:153", after := #[], guard := none },
          { dst := some 42, op := Op.move (Operand.tmp 1), type := tI, pos := "slices.go:153", after := #[], guard := none },
          { dst := some 43, op := Op.slice tS (Operand.tmp 41) (some (Operand.tmp 42)) none none, type := tS, pos := "slices.go:153", after := #[{ on := 0, ground := Ground.data }, { on := 1, ground := Ground.data }], guard := none },
          { dst := some 44, op := Op.move (Operand.tmp 2), type := tS, pos := "slices.go:153", after := #[], guard := none },
          { dst := some 45, op := Op.call { callee := Callee.builtin Builtin.copy, args := #[Operand.tmp 43, Operand.tmp 44], argTypes := #[tS, tS] }, type := tI, pos := "slices.go:153", after := #[{ on := 2, ground := Ground.data }, { on := 3, ground := Ground.data }], guard := none }] false).seq
        ((Code.region 11 #[{ dst := some 46, op := Op.move (Operand.tmp 9), type := tS, pos := "slices.go:154", after := #[], guard := none },
          { dst := some 47, op := Op.move (Operand.tmp 1), type := tI, pos := "slices.go:154", after := #[], guard := none },
          { dst := some 48, op := Op.move (Operand.tmp 7), type := tI, pos := "slices.go:154", after := #[], guard := none },
          { dst := some 49, op := Op.binOp BinOp.add tI (Operand.tmp 47) (Operand.tmp 48) tI, type := tI, pos := "slices.go:154", after := #[{ on := 1, ground := Ground.data }, { on := 2, ground := Ground.data }], guard := none },
          { dst := some 50, op := Op.slice tS (Operand.tmp 46) (some (Operand.tmp 49)) none none, type := tS, pos := "slices.go:154", after := #[{ on := 0, ground := Ground.data }, { on := 3, ground := Ground.data }], guard := none },
          { dst := some 51, op := Op.move (Operand.tmp 0), type := tS, pos := "slices.go:154", after := #[], guard := none },
          { dst := some 52, op := Op.move (Operand.tmp 1), type := tI, pos := "slices.go:154", after := #[], guard := none },
          { dst := some 53, op := Op.slice tS (Operand.tmp 51) (some (Operand.tmp 52)) none none, type := tS, pos := "slices.go:154", after := #[{ on := 5, ground := Ground.data }, { on := 6, ground := Ground.data }], guard := none },
          { dst := some 54, op := Op.call { callee := Callee.builtin Builtin.copy, args := #[Operand.tmp 50, Operand.tmp 53], argTypes := #[tS, tS] }, type := tI, pos := "slices.go:154", after := #[{ on := 4, ground := Ground.data }, { on := 7, ground := Ground.data }], guard := none }] true).seq
        ((Code.region 12 #[{ dst := some 55, op := Op.move (Operand.tmp 9), type := tS, pos := "slices.go:155", after := #[], guard := none },
          { dst := some 6, op := Op.assign (Operand.tmp 55), type := tS, pos := "slices.go:155", after := #[{ on := 0, ground := Ground.data }, { on := 0, ground := Ground.phase }], guard := none }] false).seq Code.ret)))) Code.skip)).seq
        ((Code.region 13 #[{ dst := some 56, op := Op.move (Operand.tmp 0), type := tS, pos := "slices.go:157", after := #[], guard := none },
          { dst := some 57, op := Op.move (Operand.tmp 8), type := tI, pos := "slices.go:157", after := #[], guard := none },
          { dst := some 58, op := Op.move (Operand.tmp 7), type := tI, pos := "slices.go:157", after := #[], guard := none },
          { dst := some 59, op := Op.binOp BinOp.add tI (Operand.tmp 57) (Operand.tmp 58) tI, type := tI, pos := "slices.go:157", after := #[{ on := 1, ground := Ground.data }, { on := 2, ground := Ground.data }], guard := none },
          { dst := some 60, op := Op.slice tS (Operand.tmp 56) none (some (Operand.tmp 59)) none, type := tS, pos := "slices.go:157", after := #[{ on := 0, ground := Ground.data }, { on := 3, ground := Ground.data }], guard := none },
          { dst := some 0, op := Op.assign (Operand.tmp 60), type := tS, pos := "slices.go:157", after := #[{ on := 4, ground := Ground.data }, { on := 0, ground := Ground.phase }, { on := 1, ground := Ground.phase }, { on := 2, ground := Ground.phase }, { on := 3, ground := Ground.phase }, { on := 4, ground := Ground.phase }], guard := none }] false).seq
        (((Code.region 14 #[{ dst := some 61, op := Op.move (Operand.tmp 2), type := tS, pos := "slices.go:173", after := #[], guard := none },
          { dst := some 62, op := Op.move (Operand.tmp 0), type := tS, pos := "slices.go:173", after := #[], guard := none },
          { dst := some 63, op := Op.move (Operand.tmp 1), type := tI, pos := "slices.go:173", after := #[], guard := none },
          { dst := some 64, op := Op.move (Operand.tmp 7), type := tI, pos := "slices.go:173", after := #[], guard := none },
          { dst := some 65, op := Op.binOp BinOp.add tI (Operand.tmp 63) (Operand.tmp 64) tI, type := tI, pos := "slices.go:173", after := #[{ on := 2, ground := Ground.data }, { on := 3, ground := Ground.data }], guard := none },
          { dst := some 66, op := Op.slice tS (Operand.tmp 62) (some (Operand.tmp 65)) none none, type := tS, pos := "slices.go:173", after := #[{ on := 1, ground := Ground.data }, { on := 4, ground := Ground.data }], guard := none },
          { dst := some 67, op := Op.call { callee := Callee.value (Operand.func gO), args := #[Operand.tmp 61, Operand.tmp 66], argTypes := #[tS, tS] }, type := tB, pos := "slices.go:173", after := #[{ on := 0, ground := Ground.data }, { on := 5, ground := Ground.data }], guard := none },
          { dst := some 68, op := Op.unOp UnOp.not tB (Operand.tmp 67), type := tB, pos := "slices.go:173", after := #[{ on := 6, ground := Ground.data }], guard := none }] false).seq (Code.cond (Operand.tmp 68)
        ((Code.region 15 #[{ dst := some 69, op := Op.move (Operand.tmp 0), type := tS, pos := "slices.go:178", after := #[], guard := none },
          { dst := some 70, op := Op.move (Operand.tmp 1), type := tI, pos := "slices.go:178", after := #[], guard := none },
          { dst := some 71, op := Op.move (Operand.tmp 7), type := tI, pos := "slices.go:178", after := #[], guard := none },
          { dst := some 72, op := Op.binOp BinOp.add tI (Operand.tmp 70) (Operand.tmp 71) tI, type := tI, pos := "slices.go:178", after := #[{ on := 1, ground := Ground.data }, { on := 2, ground := Ground.data }], guard := none },
          { dst := some 73, op := Op.slice tS (Operand.tmp 69) (some (Operand.tmp 72)) none none, type := tS, pos := "slices.go:178", after := #[{ on := 0, ground := Ground.data }, { on := 3, ground := Ground.data }], guard := none },
          { dst := some 74, op := Op.move (Operand.tmp 0), type := tS, pos := "slices.go:178", after := #[], guard := none },
          { dst := some 75, op := Op.move (Operand.tmp 1), type := tI, pos := "slices.go:178", after := #[], guard := none },
          { dst := some 76, op := Op.slice tS (Operand.tmp 74) (some (Operand.tmp 75)) none none, type := tS, pos := "slices.go:178", after := #[{ on := 5, ground := Ground.data }, { on := 6, ground := Ground.data }], guard := none },
          { dst := some 77, op := Op.call { callee := Callee.builtin Builtin.copy, args := #[Operand.tmp 73, Operand.tmp 76], argTypes := #[tS, tS] }, type := tI, pos := "slices.go:178", after := #[{ on := 4, ground := Ground.data }, { on := 7, ground := Ground.data }], guard := none }] true).seq
        ((Code.region 16 #[{ dst := some 78, op := Op.move (Operand.tmp 0), type := tS, pos := "slices.go:186", after := #[], guard := none },
          { dst := some 79, op := Op.move (Operand.tmp 1), type := tI, pos := "slices.go:186", after := #[], guard := none },
          { dst := some 80, op := Op.slice tS (Operand.tmp 78) (some (Operand.tmp 79)) none none, type := tS, pos := "slices.go:186", after := #[{ on := 0, ground := Ground.data }, { on := 1, ground := Ground.data }], guard := none },
          { dst := some 81, op := Op.move (Operand.tmp 2), type := tS, pos := "slices.go:186", after := #[], guard := none },
          { dst := some 82, op := Op.call { callee := Callee.builtin Builtin.copy, args := #[Operand.tmp 80, Operand.tmp 81], argTypes := #[tS, tS] }, type := tI, pos := "slices.go:186", after := #[{ on := 2, ground := Ground.data }, { on := 3, ground := Ground.data }], guard := none }] false).seq
        ((Code.region 17 #[{ dst := some 83, op := Op.move (Operand.tmp 0), type := tS, pos := "slices.go:193", after := #[], guard := none },
          { dst := some 6, op := Op.assign (Operand.tmp 83), type := tS, pos := "slices.go:193", after := #[{ on := 0, ground := Ground.data }, { on := 0, ground := Ground.phase }], guard := none }] false).seq Code.ret))) Code.skip)).seq
        ((Code.region 18 #[{ dst := some 84, op := Op.move (Operand.tmp 0), type := tS, pos := "slices.go:200", after := #[], guard := none },
          { dst := some 85, op := Op.move (Operand.tmp 8), type := tI, pos := "slices.go:200", after := #[], guard := none },
          { dst := some 86, op := Op.slice tS (Operand.tmp 84) (some (Operand.tmp 85)) none none, type := tS, pos := "slices.go:200", after := #[{ on := 0, ground := Ground.data }, { on := 1, ground := Ground.data }], guard := none },
          { dst := some 87, op := Op.move (Operand.tmp 2), type := tS, pos := "slices.go:200", after := #[], guard := none },
          { dst := some 88, op := Op.call { callee := Callee.builtin Builtin.copy, args := #[Operand.tmp 86, Operand.tmp 87], argTypes := #[tS, tS] }, type := tI, pos := "slices.go:200", after := #[{ on := 2, ground := Ground.data }, { on := 3, ground := Ground.data }], guard := none }] false).seq
        ((Code.region 19 #[{ dst := some 89, op := Op.move (Operand.tmp 0), type := tS, pos := "slices.go:207", after := #[], guard := none },
          { dst := some 90, op := Op.move (Operand.tmp 1), type := tI, pos := "slices.go:207", after := #[], guard := none },
          { dst := some 91, op := Op.slice tS (Operand.tmp 89) (some (Operand.tmp 90)) none none, type := tS, pos := "slices.go:207", after := #[{ on := 0, ground := Ground.data }, { on := 1, ground := Ground.data }], guard := none },
          { dst := some 92, op := Op.move (Operand.tmp 7), type := tI, pos := "slices.go:207", after := #[], guard := none },
          { dst := some 93, op := Op.call { callee := Callee.value (Operand.func gR), args := #[Operand.tmp 91, Operand.tmp 92], argTypes := #[tS, tI] }, type := tN, pos := "slices.go:207", after := #[{ on := 2, ground := Ground.data }, { on := 3, ground := Ground.data }], guard := none }] false).seq
        ((Code.region 20 #[{ dst := some 94, op := Op.move (Operand.tmp 0), type := tS, pos := "slices.go:214", after := #[], guard := none },
          { dst := some 6, op := Op.assign (Operand.tmp 94), type := tS, pos := "slices.go:214", after := #[{ on := 0, ground := Ground.data }, { on := 0, ground := Ground.phase }], guard := none }] false).seq Code.ret)))))))))))), norace := false, file := "slices/slices.go", endLine := 215, met := [Departure.appendOfMake], tmpNames := (["s", "i", "v", "s", "i", "v", "", "m", "n", "s2", "", "", "", "", "", "", "", "", "", "", "", "", "", "", "", "", "", "", "", "", "", "", "", "", "", "", "", "", "", "", "", "", "", "", "", "", ""].append ["", "", "", "", "", "", "", "", "", "", "", "", "", "", "", "", "", "", "", "", "", "", "", "", "", "", "", "", "", "", "", "", "", "", "", "", "", "", "", "", "", "", "", "", "", "", "", ""]).toArray }
theorem insFn_ntmps (nm : String) (tg : Array TypeId) (tn : Array String) (tS tI tB tN : TypeId) (gO gR : FuncId) : (insFn nm tg tn tS tI tB tN gO gR).ntmps = 95 := rfl
section
variable {P : Program}
theorem run_copy_gen (w : World) (dT sT ty elem : TypeId) (s : Nat) (b o dLen dCap : Nat) (a : Addr) (sLen sCap : Nat) (cs : List Value)
  (hu : P.underlying dT = some (.slice elem)) (hz : ∀ w, (Go.sizeOf elem).run P w = .ok s w) (q : Nat) (hq : Nat.min sLen dLen = q) (hn : cs.length = q * s)
  (hsrc : ∀ j v, cs[j]? = some v → w.cell? (a.add j) = some v) (hc : ∀ j, j < cs.length → (w.cell? ⟨b, o + j, none⟩).isSome = true) (hf : ∀ j, j < cs.length → w.frozen? ⟨b, o + j, none⟩ = false) (h1 : ∀ v ∈ cs, v.oneCell' = true) :
  (Builtin.copy_ #[dT, sT] ty #[.slice (some ⟨b, o, none⟩) dLen dCap, .slice (some a) sLen sCap]).run P w = .ok (goInt q) (w.setCells b o cs) := by
 have hl := run_firstCells_some (P := P) w s q a sLen sCap cs hn hsrc
 have hst := run_storeCells_cells (P := P) b o cs 0 w (by simpa using hc) (by simpa using hf) h1
 rw [Nat.add_zero] at hst
 simp [Builtin.copy_, run_underlying hu, Builtin.lenOf, hz, hq, hl, hst]
theorem wp_copyD (w : World) {o : Oper} {a : Act} {K : Act → World → Prop} {Q : Exit → Act → World → Prop} (d x : Operand) (t t' : TypeId)
  (ho : o.op = .call { callee := .builtin .copy, args := #[d, x], argTypes := #[t, t'] }) (v u : Value) (hd : a.eval d = v) (hx : a.eval x = u) {v' : Value} {w' : World}
  (hr : (Builtin.copy_ #[t, t'] o.type #[v, u]).run P w = .ok v' w') (h : K (a.put o.dst v') w') : o.wp P a w K Q := by
 unfold Oper.wp execOp
 simp only [ho, resolve, invoke, builtin, Sem.run_bind, Sem.run_pure, Result.andThen_ok, List.map_toArray, List.map_cons, List.map_nil, hd, hx, hr]
 exact h
theorem wpList_copyD (w : World) {ops : Array Oper} {rest : List Oper} {o : Oper} {a : Act} {Q : Exit → Act → World → Prop} (hgd : o.guard = none) (d x : Operand) (t t' : TypeId)
  (ho : o.op = .call { callee := .builtin .copy, args := #[d, x], argTypes := #[t, t'] }) (v u : Value) (hd : a.eval d = v) (hx : a.eval x = u) {v' : Value} {w' : World}
  (hr : (Builtin.copy_ #[t, t'] o.type #[v, u]).run P w = .ok v' w') (h : wpList P ops Q rest (a.put o.dst v') w') : wpList P ops Q (o :: rest) a w :=
 wpList_plain hgd fun _ hK => wp_copyD w d x t t' ho v u hd hx hr (hK _ _ h)
theorem step_copyD {ops : Array Oper} {o : Oper} {a : Act} {w : World} {K : Act → World → Prop} {Q : Exit → Act → World → Prop} {E : Prop}
  (hg : o.guard = none) (d x : Operand) (t t' : TypeId) (ho : o.op = .call { callee := .builtin .copy, args := #[d, x], argTypes := #[t, t'] })
  (v u : Value) (hd : a.eval d = v) (hx : a.eval x = u) {v' : Value} {w' : World} (hr : (Builtin.copy_ #[t, t'] o.type #[v, u]).run P w = .ok v' w') (hK : K (a.put o.dst v') w') :
  if Region.wanted o (yielded ops a.tmps) = true then Oper.wp P o a w K Q else E := by
 rw [if_pos (by simp [Region.wanted, hg])]
 exact wp_copyD w d x t t' ho v u hd hx hr hK
variable {f gO gR : FuncId} {nm : String} {tg : Array TypeId} {tn : Array String} {tS tI tB tN tE : TypeId} {s : Nat}
set_option maxHeartbeats 4000000 in
set_option maxRecDepth 1000000 in
theorem shf_ins_end (T : ShT P tS tI tB tN tE s) (hf : P.funcs[f]? = some (insFn nm tg tn tS tI tB tN gO gR)) (A B : Option Addr) (n cap m vc : Nat) (hcap : n ≤ cap) (hm : 0 < m) (r : Value) (w w1 : World)
  (hrun : ∀ ty, (Builtin.append_ #[tS, tS] ty #[.slice A n cap, .slice B m vc]).run P w = .ok r w1) :
  Calls P f #[.slice A n cap, .int .i64 n, .slice B m vc] w fun e w' => e = .returned r ∧ w' = w1 := by
 have mixed := T.mixed; have t0 := T.t0; have a0 := T.a0; have z0 := T.z0; have v0 := T.v0; have t3 := T.t3; have a3 := T.a3; have z3 := T.z3; have v3 := T.v3; have t4 := T.t4; have a4 := T.a4; have z4 := T.z4; have v4 := T.v4; have t22 := T.t22; have a22 := T.a22; have z22 := T.z22; have v22 := T.v22; have z23 := T.z23
 have hz1 : ¬ ((m : Int) = 0) := by omega
 go_enter hf, insFn_ntmps
 go_wp2_with (at_builtin; refine Lib.wpList_append_run _ rfl _ _ _ _ rfl _ _ rfl rfl _ _ (hrun _) ?_)
 all_goals (go_ret; exact ⟨rfl, rfl⟩)
set_option maxHeartbeats 4000000 in
set_option maxRecDepth 1000000 in
theorem shf_ins_shift (T : ShT P tS tI tB tN tE s) (hf : P.funcs[f]? = some (insFn nm tg tn tS tI tB tN gO gR))
  (hO : ∀ (x y : Value) (w : World), (callFunc gO #[x, y]).run P w = ((Extern.SlicesOverlaps.overlaps #[tS, tS] #[tB] #[x, y]).run P w).andThen fun v w' => .ok (.value v) w')
  (hs0 : 0 < s) (b n cap i vb m vc : Nat) (us vs : List Value) (hul : us.length = n * s) (hvl : vs.length = m * s) (w : World) (c cv : Array Value) (e ev : TypeId)
  (hh : w.heap[b]? = some (.cells c e (0, 0))) (hhv : w.heap[vb]? = some (.cells cv ev (0, 0))) (hne : vb ≠ b) (hlie : ∀ t, t < us.length → c[t]? = us[t]?) (hliev : ∀ t, t < vs.length → cv[t]? = vs[t]?)
  (hm : 0 < m) (hroom : n + m ≤ cap) (hfit : cap * s ≤ c.size) (hc63 : cap ≤ 9223372036854775807) (hi : i < n) (h1 : ∀ u ∈ us, u.oneCell' = true) (h1v : ∀ u ∈ vs, u.oneCell' = true) :
  Calls P f #[.slice (some ⟨b, 0, none⟩) n cap, .int .i64 i, .slice (some ⟨vb, 0, none⟩) m vc] w fun ex w' => ex = .returned (.slice (some ⟨b, 0, none⟩) (n + m) cap) ∧
   w' = (w.drew.setCells b ((i + m) * s) (us.drop (i * s))).setCells b (i * s) vs := by
 have mixed := T.mixed; have t0 := T.t0; have a0 := T.a0; have z0 := T.z0; have v0 := T.v0; have t3 := T.t3; have a3 := T.a3; have z3 := T.z3; have v3 := T.v3; have t4 := T.t4; have a4 := T.a4; have z4 := T.z4; have v4 := T.v4; have t22 := T.t22; have a22 := T.a22; have z22 := T.z22; have v22 := T.v22; have z23 := T.z23
 have hz1 : ¬ ((m : Int) = 0) := by omega
 have hz2 : ¬ ((i : Int) = (n : Int)) := by omega
 have hcm : 0 < cap * s := Nat.mul_pos (by omega) hs0
 have hov : ∀ lb cb, (callFunc gO #[.slice (some ⟨vb, 0, none⟩) m vc, .slice (some ⟨b, (i + m) * s, none⟩) lb cb]).run P w = .ok (.value (.bool false)) w := fun lb cb => by
  rw [hO, Lib.run_overlaps_apart w tS tB tE t22 s z23 ⟨vb, 0, none⟩ ⟨b, (i + m) * s, none⟩ m vc lb cb hne ev e cv.size c.size (by simp [World.shape?, hhv]) (by simp [World.shape?, hh]) (by omega) (frozen_of_heap hhv _) (frozen_of_heap hhv _)]
  rfl
 have his : i * s ≤ n * s := Nat.mul_le_mul_right s (by omega)
 have hns : (n + m) * s ≤ cap * s := Nat.mul_le_mul_right s hroom
 have hnm : (n + m) * s = n * s + m * s := Nat.add_mul _ _ _
 have him : (i + m) * s = i * s + m * s := Nat.add_mul _ _ _
 have hdl : (us.drop (i * s)).length = (n - i) * s := by rw [List.length_drop, hul, Nat.sub_mul]
 have hdl' : (us.drop (i * s)).length = n * s - i * s := by rw [List.length_drop, hul]
 have hw1 : IntKind.i64.wrap ((i : Int) + (m : Int)) = (i : Int) + (m : Int) := by rw [IntKind.wrap_i64]; omega
 have hb1 : (0 : Int) ≤ (i : Int) + (m : Int) := by omega
 have hin : i ≤ n := by omega
 have htn : ((i : Int) + (m : Int)).toNat = i + m := by omega
 have hb2 : ¬ (cap = i + m) := by omega
 have hb3 : (i : Int) ≤ (n : Int) + (m : Int) := by omega
 have hb4 : ¬ (cap = i) := by omega
 have hcp1 : ∀ ty dc sc, (Builtin.copy_ #[tS, tS] ty #[.slice (some ⟨b, (i + m) * s, none⟩) (n + m - (i + m)) dc, .slice (some ⟨b, i * s, none⟩) (n + m - i) sc]).run P w.drew = .ok (goInt (n - i : Nat)) (w.drew.setCells b ((i + m) * s) (us.drop (i * s))) := fun ty dc sc =>
  run_copy_gen w.drew _ _ ty tE s b ((i + m) * s) (n + m - (i + m)) dc ⟨b, i * s, none⟩ (n + m - i) sc (us.drop (i * s)) t22 z23 (n - i) (by simp only [Nat.min_def]; split <;> omega) hdl
   (fun j v hj => by
    rw [Addr.add_lit, cell_of_heap (w := w.drew) hh]
    have hlt := (List.getElem?_eq_some_iff.1 hj).1
    rw [List.getElem?_drop] at hj
    rw [hlie _ (by omega), hj])
   (fun j hj => by rw [cell_of_heap (w := w.drew) hh, Array.getElem?_eq_getElem (by omega)]; rfl) (fun j hj => frozen_of_heap (w := w.drew) hh _) (fun v hv => h1 v (List.mem_of_mem_drop hv))
 obtain ⟨W1, hW1⟩ : ∃ W1, W1 = w.drew.setCells b ((i + m) * s) (us.drop (i * s)) := ⟨_, rfl⟩
 obtain ⟨c1, hh1, hc1, _⟩ := heap_setCells b (us.drop (i * s)) ((i + m) * s) w.drew hh (by omega)
 have hhv1 : W1.heap[vb]? = some (.cells cv ev (0, 0)) := by
  rw [hW1, (setCells_grew w.drew b ((i + m) * s) (us.drop (i * s))).2.2.2.2.1 vb hne]; exact hhv
 rw [← hW1] at hh1
 have hcp2 : ∀ (W : World), W.heap = W1.heap → ∀ ty dc, (Builtin.copy_ #[tS, tS] ty #[.slice (some ⟨b, i * s, none⟩) (n + m - i) dc, .slice (some ⟨vb, 0, none⟩) m vc]).run P W = .ok (goInt m) (W.setCells b (i * s) vs) := fun W hW ty dc =>
  run_copy_gen W _ _ ty tE s b (i * s) (n + m - i) dc ⟨vb, 0, none⟩ m vc vs t22 z23 m (by simp only [Nat.min_def]; split <;> omega) hvl
   (fun j v hj => by
    have hlt := (List.getElem?_eq_some_iff.1 hj).1
    rw [Addr.add_lit, Nat.zero_add, cell_of_heap (by rw [hW]; exact hhv1), hliev _ hlt, hj])
   (fun j hj => by rw [cell_of_heap (by rw [hW]; exact hh1), Array.getElem?_eq_getElem (by omega)]; rfl) (fun j hj => frozen_of_heap (by rw [hW]; exact hh1) _) h1v
 rw [← hW1] at hcp1
 have X : Hid ((w.drew.setCells b ((i + m) * s) (us.drop (i * s))).setCells b (i * s) vs = W1.setCells b (i * s) vs) := by rw [hW1]; rfl
 rw [X.out]
 clear hW1 hhv1 hh1 hc1 hdl hdl' hlie hliev hul hvl h1 h1v hO hh hhv X him hnm hns his hcm hfit
 go_enter hf, insFn_ntmps
 go_wp2_with (simp only [hov])
 go_region_law_o (refine step_copyD rfl _ _ tS tS rfl _ _ (by simp [Act.eval, Act.put]) (by simp [Act.eval, Act.put]) (hcp1 _ _ _) ?_)
 go_wp2_with (at_builtin; refine wpList_copyD _ rfl _ _ tS tS rfl _ _ rfl rfl (hcp2 _ rfl _ _) ?_)
 go_ret
 exact ⟨rfl, rfl⟩
set_option maxHeartbeats 4000000 in
set_option maxRecDepth 1000000 in
theorem shf_ins_grow (T : ShT P tS tI tB tN tE s) (hf : P.funcs[f]? = some (insFn nm tg tn tS tI tB tN gO gR)) (i0 : TypeInfo) (hi0 : P.info? tE = some i0) (hz1 : i0.size = s) (zz : Value) (hzz : i0.zero = some zz) (hzs : zz.cells.size = s) (hby : i0.bytes ≤ 1024)
  (hs0 : 0 < s) (b n cap i vb m vc : Nat) (us vs : List Value) (hul : us.length = n * s) (hvl : vs.length = m * s) (w : World) (c cv : Array Value) (e ev : TypeId)
  (hh : w.heap[b]? = some (.cells c e (0, 0))) (hhv : w.heap[vb]? = some (.cells cv ev (0, 0))) (hlie : ∀ t, t < us.length → c[t]? = us[t]?) (hliev : ∀ t, t < vs.length → cv[t]? = vs[t]?)
  (hm : 0 < m) (hnc : n ≤ cap) (hroom : cap < n + m) (hbig : n + m < 68719476736) (hi : i < n) (h1 : ∀ u ∈ us, u.oneCell' = true) (h1v : ∀ u ∈ vs, u.oneCell' = true) :
  Calls P f #[.slice (some ⟨b, 0, none⟩) n cap, .int .i64 i, .slice (some ⟨vb, 0, none⟩) m vc] w fun ex w' => ex = .returned (.slice (some ⟨w.heap.size, 0, none⟩) (n + m) (grownCap w (n + m) cap tE)) ∧
   w' = ((w.alloc (.cells ((us.take (i * s)).toArray ++ Builtin.zeroCells zz.cells (n + m - i) ++ Builtin.zeroCells zz.cells (grownCap w (n + m) cap tE - (n + m))) tE)).drew.setCells w.heap.size (i * s) vs).drew.setCells w.heap.size ((i + m) * s) (us.drop (i * s)) := by
 have mixed := T.mixed; have t0 := T.t0; have a0 := T.a0; have z0 := T.z0; have v0 := T.v0; have t3 := T.t3; have a3 := T.a3; have z3 := T.z3; have v3 := T.v3; have t4 := T.t4; have a4 := T.a4; have z4 := T.z4; have v4 := T.v4; have t22 := T.t22; have a22 := T.a22; have z22 := T.z22; have v22 := T.v22; have z23 := T.z23
 have hq1 : ¬ ((m : Int) = 0) := by omega
 have hq2 : ¬ ((i : Int) = (n : Int)) := by omega
 have hq3 : (cap : Int) < (n : Int) + (m : Int) := by omega
 have hbw : b < w.heap.size := (Array.getElem?_eq_some_iff.1 hh).1
 have hvw : vb < w.heap.size := (Array.getElem?_eq_some_iff.1 hhv).1
 have his : i * s ≤ n * s := Nat.mul_le_mul_right s (by omega)
 have hnm : (n + m) * s = n * s + m * s := Nat.add_mul _ _ _
 have him : (i + m) * s = i * s + m * s := Nat.add_mul _ _ _
 have hkk : (n : Int) + (m : Int) - (i : Int) = ((n + m - i : Nat) : Int) := by omega
 have hik : i + (n + m - i) = n + m := by omega
 have hold : (Builtin.firstCells i0.size i (.slice (some ⟨b, 0, none⟩) i cap)).run P w.drew = .ok (us.take (i * s)).toArray w.drew := by
  rw [hz1]
  exact run_firstCells_some w.drew s i ⟨b, 0, none⟩ i cap (us.take (i * s)) (by rw [List.length_take]; omega) (fun j v hj => by
   rw [Addr.add_lit, Nat.zero_add, cell_of_heap (w := w.drew) hh]
   have hlt := (List.getElem?_eq_some_iff.1 hj).1
   rw [List.length_take] at hlt
   rw [List.getElem?_take, if_pos (by omega)] at hj
   rw [hlie _ (by omega), hj])
 have hfit : Builtin.nextslicecap (n + m) cap * i0.bytes ≤ 281474976710656 := by
  have e1 := nextslicecap_le hroom
  calc Builtin.nextslicecap (n + m) cap * i0.bytes ≤ (2 * (n + m)) * 1024 := Nat.mul_le_mul e1 hby
   _ ≤ 281474976710656 := by omega
 have hrz : ∀ ty, (Builtin.append_ #[tS, tI] ty #[.slice (some ⟨b, 0, none⟩) i cap, .int .i64 ((n : Int) + (m : Int) - (i : Int))]).run P w =
   .ok (.slice (some ⟨w.heap.size, 0, none⟩) (n + m) (grownCap w (n + m) cap tE)) (w.drew.alloc (.cells ((us.take (i * s)).toArray ++ Builtin.zeroCells zz.cells (n + m - i) ++ Builtin.zeroCells zz.cells (grownCap w (n + m) cap tE - (n + m))) tE)) := fun ty => by
  have h := Lib.run_append_grow_zeros w tS tI ty tE i0 zz .i64 .i64 t22 t3 hi0 hzz (some ⟨b, 0, none⟩) i cap (us.take (i * s)) hold (n + m - i) (by omega) (by omega) (by omega) (by omega)
   (Nat.le_trans (Nat.mul_le_mul (Nat.sub_le _ _) hby) (by omega)) (by rw [hik]; exact hfit)
  rw [hik] at h
  rw [hkk]
  exact h
 have hGn : n + m ≤ grownCap w (n + m) cap tE := grownCap_ge w _ _ _
 have hG63 : grownCap w (n + m) cap tE ≤ 9223372036854775807 := by
  have := grownCap_le_maxLen w (n + m) cap tE (by unfold maxLen; omega)
  unfold maxLen at this
  omega
 obtain ⟨G, hG⟩ : ∃ G, G = grownCap w (n + m) cap tE := ⟨_, rfl⟩
 obtain ⟨ROW, hROW⟩ : ∃ ROW : Array Value, ROW = (us.take (i * s)).toArray ++ Builtin.zeroCells zz.cells (n + m - i) ++ Builtin.zeroCells zz.cells (G - (n + m)) := ⟨_, rfl⟩
 rw [← hG] at hrz hGn hG63 ⊢
 rw [← hROW] at hrz ⊢
 have hRl : (n + m) * s ≤ ROW.size := by
  have e1 : (n + m - i) * s = (n + m) * s - i * s := Nat.sub_mul _ _ _
  rw [hROW]
  simp only [Array.size_append, List.size_toArray, List.length_take, Builtin.zeroCells, Array.size_map, Array.size_range, hzs]
  omega
 obtain ⟨W1, hW1⟩ : ∃ W1, W1 = w.drew.alloc (.cells ROW tE) := ⟨_, rfl⟩
 rw [← hW1] at hrz
 have hhn : W1.heap[w.heap.size]? = some (.cells ROW tE (0, 0)) := by
  rw [hW1]
  show (w.heap.push (.cells ROW tE))[w.heap.size]? = _
  simp
 have hho : ∀ k, k < w.heap.size → W1.heap[k]? = w.heap[k]? := fun k hk => by
  rw [hW1]
  show (w.heap.push (.cells ROW tE))[k]? = _
  rw [Array.getElem?_push, if_neg (by omega)]
 have hdl : (us.drop (i * s)).length = (n - i) * s := by rw [List.length_drop, hul, Nat.sub_mul]
 have hdl' : (us.drop (i * s)).length = n * s - i * s := by rw [List.length_drop, hul]
 have hcpA : ∀ (W : World), W.heap = W1.heap → ∀ ty dc, (Builtin.copy_ #[tS, tS] ty #[.slice (some ⟨w.heap.size, i * s, none⟩) (n + m - i) dc, .slice (some ⟨vb, 0, none⟩) m vc]).run P W = .ok (goInt m) (W.setCells w.heap.size (i * s) vs) := fun W hW ty dc =>
  run_copy_gen W _ _ ty tE s w.heap.size (i * s) (n + m - i) dc ⟨vb, 0, none⟩ m vc vs t22 z23 m (by simp only [Nat.min_def]; split <;> omega) hvl
   (fun j v hj => by
    have hlt := (List.getElem?_eq_some_iff.1 hj).1
    rw [Addr.add_lit, Nat.zero_add, cell_of_heap (by rw [hW, hho _ hvw]; exact hhv), hliev _ hlt, hj])
   (fun j hj => by rw [cell_of_heap (by rw [hW]; exact hhn), Array.getElem?_eq_getElem (by omega)]; rfl) (fun j hj => frozen_of_heap (by rw [hW]; exact hhn) _) h1v
 obtain ⟨c2, hh2, hc2, _⟩ := heap_setCells w.heap.size vs (i * s) W1 hhn (by omega)
 have hh2b : (W1.setCells w.heap.size (i * s) vs).heap[b]? = some (.cells c e (0, 0)) := by
  rw [(setCells_grew W1 w.heap.size (i * s) vs).2.2.2.2.1 b (by omega), hho _ hbw]; exact hh
 have hcpB : ∀ (W : World), W.heap = (W1.setCells w.heap.size (i * s) vs).heap → ∀ ty dc sc, (Builtin.copy_ #[tS, tS] ty #[.slice (some ⟨w.heap.size, (i + m) * s, none⟩) (n + m - (i + m)) dc, .slice (some ⟨b, i * s, none⟩) (n - i) sc]).run P W = .ok (goInt (n - i : Nat)) (W.setCells w.heap.size ((i + m) * s) (us.drop (i * s))) := fun W hW ty dc sc =>
  run_copy_gen W _ _ ty tE s w.heap.size ((i + m) * s) (n + m - (i + m)) dc ⟨b, i * s, none⟩ (n - i) sc (us.drop (i * s)) t22 z23 (n - i) (by simp only [Nat.min_def]; split <;> omega) hdl
   (fun j v hj => by
    have hlt := (List.getElem?_eq_some_iff.1 hj).1
    rw [List.getElem?_drop] at hj
    rw [Addr.add_lit, cell_of_heap (by rw [hW]; exact hh2b), hlie _ (by omega), hj])
   (fun j hj => by rw [cell_of_heap (by rw [hW]; exact hh2), Array.getElem?_eq_getElem (by omega)]; rfl)
   (fun j hj => frozen_of_heap (by rw [hW]; exact hh2) _) (fun v hv => h1 v (List.mem_of_mem_drop hv))
 have hhA : ∀ vs', ((w.alloc (.cells ROW tE)).drew.setCells w.heap.size (i * s) vs').drew.heap = (W1.setCells w.heap.size (i * s) vs').heap := fun vs' => by
  rw [hW1]
  have key : ∀ (vs : List Value) (o : Nat) (A B : World), A.heap = B.heap → (A.setCells w.heap.size o vs).heap = (B.setCells w.heap.size o vs).heap := by
   intro vs
   induction vs with
   | nil => intro o A B h; exact h
   | cons v r ih => intro o A B h; exact ih _ _ _ (by simp only [World.setCell, h])
  exact key vs' _ _ _ rfl
 have hw1 : IntKind.i64.wrap ((i : Int) + (m : Int)) = (i : Int) + (m : Int) := by rw [IntKind.wrap_i64]; omega
 have hGi : ¬ (G = i) := by omega
 have hGim : ¬ (G = i + m) := by omega
 have hci : ¬ (cap = i) := by omega
 have hb1 : (0 : Int) ≤ (i : Int) + (m : Int) := by omega
 have hin : i ≤ n := by omega
 have htn : ((i : Int) + (m : Int)).toNat = i + m := by omega
 have hb3 : (i : Int) ≤ (n : Int) := by omega
 have hW1h : (w.alloc (.cells ROW tE)).drew.heap = W1.heap := by rw [hW1]; rfl
 have hW2h := hhA vs
 subst hW1
 clear hkk hik hold hROW hG hRl hhA hh2 hh2b hhn hho hdl hdl' hlie hliev hul hvl h1 h1v hh hhv hfit hby hc2 hz1 hzs him hnm his
 go_enter hf, insFn_ntmps
 go_wp2_with (first
  | (at_builtin; refine Lib.wpList_append_run _ rfl _ _ _ _ rfl _ _ rfl rfl _ _ (hrz _) ?_)
  | (at_builtin; refine wpList_copyD _ rfl _ _ tS tS rfl _ _ rfl rfl (hcpA _ hW1h _ _) ?_)
  | (at_builtin; refine wpList_copyD _ rfl _ _ tS tS rfl _ _ rfl rfl (hcpB _ rfl _ _ _) ?_))
 go_region_law_o (refine step_copyD rfl _ _ tS tS rfl (.slice (some ⟨w.heap.size, (i + m) * s, none⟩) (n + m - (i + m)) (G - (i + m))) (.slice (some ⟨b, i * s, none⟩) (n - i) (cap - i)) (by simp [Act.eval, Act.put]) (by simp [Act.eval, Act.put]) (hcpB _ hW2h tI (G - (i + m)) (cap - i)) ?_)
 go_wp2
 go_ret
 exact ⟨rfl, rfl⟩
end
end Go.D
