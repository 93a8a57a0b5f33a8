import Derived.Test.YtpkclpjdpanekaaDDeep4
import Derived.Test.YtpkclpjdpanekaaProg
import Derived.KernelRfl
set_option linter.unusedVariables false
set_option linter.unusedSimpArgs false
namespace Go.D
open Go.Proofs
structure T_impl_Column where
  fKind : Int
  fEmpty : Bool
instance : Enc T_impl_Column := ⟨2, fun x => [I x.fKind, B x.fEmpty], true, fun _ => rfl, by decide, fun _ => rfl, fun _ => rfl⟩
structure T_impl_Value where
  fKind : Int
  fN : Int
  fS : ByteArray
instance : Enc T_impl_Value := ⟨3, fun x => [I x.fKind, I x.fN, S x.fS], true, fun _ => rfl, by decide, fun _ => rfl, fun _ => rfl⟩
structure T_impl_Table where
  fColumns : List T_impl_Column
  fRows : List (List T_impl_Value)
instance : Enc T_impl_Table := ⟨2, fun x => [A x.fColumns, A x.fRows], true, fun _ => rfl, by decide, fun _ => rfl, fun _ => rfl⟩
structure T_impl_Part where
  fKind : Int
  fN : Int
  fV : T_impl_Value
instance : Enc T_impl_Part := ⟨5, fun x => [I x.fKind, I x.fN, I x.fV.fKind, I x.fV.fN, S x.fV.fS], true, fun _ => rfl, by decide, fun _ => rfl, fun _ => rfl⟩
structure T_impl_Step where
  fKind : Int
  fA : Int
  fB : Int
  fN : Int
  fE : List T_impl_Part
  fList : List Int
instance : Enc T_impl_Step := ⟨6, fun x => [I x.fKind, I x.fA, I x.fB, I x.fN, A x.fE, A x.fList], true, fun _ => rfl, by decide, fun _ => rfl, fun _ => rfl⟩
structure T_impl_Answer where
  fPlan : List T_impl_Step
  fRows : List (List T_impl_Value)
  fMarks : List Int
instance : Enc T_impl_Answer := ⟨3, fun x => [A x.fPlan, A x.fRows, A x.fMarks], true, fun _ => rfl, by decide, fun _ => rfl, fun _ => rfl⟩
structure T_impl_Shelf where
  fTables : List T_impl_Table
  fMarks : List Int
  fKept : List T_impl_Answer
instance : Enc T_impl_Shelf := ⟨3, fun x => [A x.fTables, A x.fMarks, A x.fKept], true, fun _ => rfl, by decide, fun _ => rfl, fun _ => rfl⟩
structure T_laws_Column where
  fKind : Int
  fEmpty : Bool
instance : Enc T_laws_Column := ⟨2, fun x => [I x.fKind, B x.fEmpty], true, fun _ => rfl, by decide, fun _ => rfl, fun _ => rfl⟩
structure T_laws_Value where
  fKind : Int
  fN : Int
  fS : ByteArray
instance : Enc T_laws_Value := ⟨3, fun x => [I x.fKind, I x.fN, S x.fS], true, fun _ => rfl, by decide, fun _ => rfl, fun _ => rfl⟩
structure T_laws_Table where
  fColumns : List T_laws_Column
  fRows : List (List T_laws_Value)
instance : Enc T_laws_Table := ⟨2, fun x => [A x.fColumns, A x.fRows], true, fun _ => rfl, by decide, fun _ => rfl, fun _ => rfl⟩
structure T_laws_Part where
  fKind : Int
  fN : Int
  fV : T_laws_Value
instance : Enc T_laws_Part := ⟨5, fun x => [I x.fKind, I x.fN, I x.fV.fKind, I x.fV.fN, S x.fV.fS], true, fun _ => rfl, by decide, fun _ => rfl, fun _ => rfl⟩
structure T_laws_Step where
  fKind : Int
  fA : Int
  fB : Int
  fN : Int
  fE : List T_laws_Part
  fList : List Int
instance : Enc T_laws_Step := ⟨6, fun x => [I x.fKind, I x.fA, I x.fB, I x.fN, A x.fE, A x.fList], true, fun _ => rfl, by decide, fun _ => rfl, fun _ => rfl⟩
structure T_impl_made where
  fColumns : List T_impl_Column
  fMost : Int
instance : Enc T_impl_made := ⟨2, fun x => [A x.fColumns, I x.fMost], true, fun _ => rfl, by decide, fun _ => rfl, fun _ => rfl⟩
structure T_laws_Tally where
  fKey : List T_laws_Value
  fRows : Int
  fMany : Int
  fSum : Int
instance : Enc T_laws_Tally := ⟨4, fun x => [A x.fKey, I x.fRows, I x.fMany, I x.fSum], true, fun _ => rfl, by decide, fun _ => rfl, fun _ => rfl⟩
structure T_laws_Delta where
  fRow : List T_laws_Value
  fMany : Int
instance : Enc T_laws_Delta := ⟨2, fun x => [A x.fRow, I x.fMany], true, fun _ => rfl, by decide, fun _ => rfl, fun _ => rfl⟩
structure T_impl_Delta where
  fRow : List T_impl_Value
  fMany : Int
instance : Enc T_impl_Delta := ⟨2, fun x => [A x.fRow, I x.fMany], true, fun _ => rfl, by decide, fun _ => rfl, fun _ => rfl⟩
structure T_impl_Tally where
  fKey : List T_impl_Value
  fRows : Int
  fMany : Int
  fSum : Int
instance : Enc T_impl_Tally := ⟨4, fun x => [A x.fKey, I x.fRows, I x.fMany, I x.fSum], true, fun _ => rfl, by decide, fun _ => rfl, fun _ => rfl⟩
def eq_T_impl_Value (x y : T_impl_Value) : Bool := andB [x.fKind == y.fKind, x.fN == y.fN, x.fS.toList == y.fS.toList]
instance : DFlat T_impl_Column := ⟨fun _ => rfl⟩
instance : DFlat T_impl_Value := ⟨fun _ => rfl⟩
instance : DEnc T_impl_Table := ⟨fun x => [O x.fColumns, OD x.fRows], fun _ => rfl, fun x => (FzToL.cons (FzTo.O _) (FzToL.cons (FzTo.OD _) FzToL.nil)), fun _ => rfl, fun x => (BlindL.cons (Blind.O DFlat.lit _) (BlindL.cons (Blind.OD _) BlindL.nil))⟩
instance : DNest T_impl_Table := ⟨⟩
instance : DOne T_impl_Table := ⟨fun _ => rfl⟩
instance : DFlat T_impl_Part := ⟨fun _ => rfl⟩
instance : DEnc T_impl_Step := ⟨fun x => [I x.fKind, I x.fA, I x.fB, I x.fN, O x.fE, O x.fList], fun _ => rfl, fun x => (FzToL.cons (FzTo.lit _) (FzToL.cons (FzTo.lit _) (FzToL.cons (FzTo.lit _) (FzToL.cons (FzTo.lit _) (FzToL.cons (FzTo.O _) (FzToL.cons (FzTo.O _) FzToL.nil)))))), fun _ => rfl, fun x => (BlindL.cons (Blind.lit _) (BlindL.cons (Blind.lit _) (BlindL.cons (Blind.lit _) (BlindL.cons (Blind.lit _) (BlindL.cons (Blind.O DFlat.lit _) (BlindL.cons (Blind.O DFlat.lit _) BlindL.nil))))))⟩
instance : DNest T_impl_Step := ⟨⟩
instance : DOne T_impl_Step := ⟨fun _ => rfl⟩
instance : DEnc T_impl_Answer := ⟨fun x => [OD x.fPlan, OD x.fRows, O x.fMarks], fun _ => rfl, fun x => (FzToL.cons (FzTo.OD _) (FzToL.cons (FzTo.OD _) (FzToL.cons (FzTo.O _) FzToL.nil))), fun _ => rfl, fun x => (BlindL.cons (Blind.OD _) (BlindL.cons (Blind.OD _) (BlindL.cons (Blind.O DFlat.lit _) BlindL.nil)))⟩
instance : DNest T_impl_Answer := ⟨⟩
instance : DOne T_impl_Answer := ⟨fun _ => rfl⟩
instance : DEnc T_impl_Shelf := ⟨fun x => [OD x.fTables, O x.fMarks, OD x.fKept], fun _ => rfl, fun x => (FzToL.cons (FzTo.OD _) (FzToL.cons (FzTo.O _) (FzToL.cons (FzTo.OD _) FzToL.nil))), fun _ => rfl, fun x => (BlindL.cons (Blind.OD _) (BlindL.cons (Blind.O DFlat.lit _) (BlindL.cons (Blind.OD _) BlindL.nil)))⟩
instance : DNest T_impl_Shelf := ⟨⟩
instance : DOne T_impl_Shelf := ⟨fun _ => rfl⟩
instance : DFlat T_laws_Column := ⟨fun _ => rfl⟩
instance : DFlat T_laws_Value := ⟨fun _ => rfl⟩
instance : DEnc T_laws_Table := ⟨fun x => [O x.fColumns, OD x.fRows], fun _ => rfl, fun x => (FzToL.cons (FzTo.O _) (FzToL.cons (FzTo.OD _) FzToL.nil)), fun _ => rfl, fun x => (BlindL.cons (Blind.O DFlat.lit _) (BlindL.cons (Blind.OD _) BlindL.nil))⟩
instance : DNest T_laws_Table := ⟨⟩
instance : DOne T_laws_Table := ⟨fun _ => rfl⟩
instance : DFlat T_laws_Part := ⟨fun _ => rfl⟩
instance : DEnc T_laws_Step := ⟨fun x => [I x.fKind, I x.fA, I x.fB, I x.fN, O x.fE, O x.fList], fun _ => rfl, fun x => (FzToL.cons (FzTo.lit _) (FzToL.cons (FzTo.lit _) (FzToL.cons (FzTo.lit _) (FzToL.cons (FzTo.lit _) (FzToL.cons (FzTo.O _) (FzToL.cons (FzTo.O _) FzToL.nil)))))), fun _ => rfl, fun x => (BlindL.cons (Blind.lit _) (BlindL.cons (Blind.lit _) (BlindL.cons (Blind.lit _) (BlindL.cons (Blind.lit _) (BlindL.cons (Blind.O DFlat.lit _) (BlindL.cons (Blind.O DFlat.lit _) BlindL.nil))))))⟩
instance : DNest T_laws_Step := ⟨⟩
instance : DOne T_laws_Step := ⟨fun _ => rfl⟩
instance : DEnc T_impl_made := ⟨fun x => [O x.fColumns, I x.fMost], fun _ => rfl, fun x => (FzToL.cons (FzTo.O _) (FzToL.cons (FzTo.lit _) FzToL.nil)), fun _ => rfl, fun x => (BlindL.cons (Blind.O DFlat.lit _) (BlindL.cons (Blind.lit _) BlindL.nil))⟩
instance : DNest T_impl_made := ⟨⟩
instance : DOne T_impl_made := ⟨fun _ => rfl⟩
instance : DEnc T_laws_Tally := ⟨fun x => [O x.fKey, I x.fRows, I x.fMany, I x.fSum], fun _ => rfl, fun x => (FzToL.cons (FzTo.O _) (FzToL.cons (FzTo.lit _) (FzToL.cons (FzTo.lit _) (FzToL.cons (FzTo.lit _) FzToL.nil)))), fun _ => rfl, fun x => (BlindL.cons (Blind.O DFlat.lit _) (BlindL.cons (Blind.lit _) (BlindL.cons (Blind.lit _) (BlindL.cons (Blind.lit _) BlindL.nil))))⟩
instance : DNest T_laws_Tally := ⟨⟩
instance : DOne T_laws_Tally := ⟨fun _ => rfl⟩
instance : DEnc T_laws_Delta := ⟨fun x => [O x.fRow, I x.fMany], fun _ => rfl, fun x => (FzToL.cons (FzTo.O _) (FzToL.cons (FzTo.lit _) FzToL.nil)), fun _ => rfl, fun x => (BlindL.cons (Blind.O DFlat.lit _) (BlindL.cons (Blind.lit _) BlindL.nil))⟩
instance : DNest T_laws_Delta := ⟨⟩
instance : DOne T_laws_Delta := ⟨fun _ => rfl⟩
instance : DEnc T_impl_Delta := ⟨fun x => [O x.fRow, I x.fMany], fun _ => rfl, fun x => (FzToL.cons (FzTo.O _) (FzToL.cons (FzTo.lit _) FzToL.nil)), fun _ => rfl, fun x => (BlindL.cons (Blind.O DFlat.lit _) (BlindL.cons (Blind.lit _) BlindL.nil))⟩
instance : DNest T_impl_Delta := ⟨⟩
instance : DOne T_impl_Delta := ⟨fun _ => rfl⟩
instance : DEnc T_impl_Tally := ⟨fun x => [O x.fKey, I x.fRows, I x.fMany, I x.fSum], fun _ => rfl, fun x => (FzToL.cons (FzTo.O _) (FzToL.cons (FzTo.lit _) (FzToL.cons (FzTo.lit _) (FzToL.cons (FzTo.lit _) FzToL.nil)))), fun _ => rfl, fun x => (BlindL.cons (Blind.O DFlat.lit _) (BlindL.cons (Blind.lit _) (BlindL.cons (Blind.lit _) (BlindL.cons (Blind.lit _) BlindL.nil))))⟩
instance : DNest T_impl_Tally := ⟨⟩
instance : DOne T_impl_Tally := ⟨fun _ => rfl⟩
theorem tab_ok2 : TIok Try.prog 2 ⟨.int .i64, 1, 8, [.lit (.int .i64 0)], false⟩ := tiok Try.type2 Try.underlying2 rfl rfl rfl (fun w M => FrL.cons' (Fr.lit' w M _) (FrL.nil' w M)) (fun fs h => by cases h) (rfl) (fun h => by cases h)
theorem tab_ok3 : TIok Try.prog 3 ⟨.int .i64, 1, 8, [.lit (.int .i64 0)], false⟩ := tiok Try.type3 Try.underlying3 rfl rfl rfl (fun w M => FrL.cons' (Fr.lit' w M _) (FrL.nil' w M)) (fun fs h => by cases h) (rfl) (fun h => by cases h)
theorem tab_ok4 : TIok Try.prog 4 ⟨.bool, 1, 1, [.lit (.bool false)], false⟩ := tiok Try.type4 Try.underlying4 rfl rfl rfl (fun w M => FrL.cons' (Fr.lit' w M _) (FrL.nil' w M)) (fun fs h => by cases h) (rfl) (fun h => by cases h)
theorem tab_ok5 : TIok Try.prog 5 ⟨.int .u8, 1, 1, [.lit (.int .u8 0)], false⟩ := tiok Try.type5 Try.underlying5 rfl rfl rfl (fun w M => FrL.cons' (Fr.lit' w M _) (FrL.nil' w M)) (fun fs h => by cases h) (rfl) (fun h => by cases h)
theorem tab_ok7 : TIok Try.prog 7 ⟨.struct [(2, 0), (3, 1), (4, 2), (6, 3)], 4, 24, [.lit (.int .i64 0), .lit (.int .i64 0), .lit (.bool false), .lit (.int .u8 0)], false⟩ := tiok Try.type7 Try.underlying7 rfl rfl rfl (fun w M => FrL.cons' (Fr.lit' w M _) (FrL.cons' (Fr.lit' w M _) (FrL.cons' (Fr.lit' w M _) (FrL.cons' (Fr.lit' w M _) (FrL.nil' w M))))) (fun fs h => ⟨_, rfl⟩) (⟨_, rfl, rfl⟩) (fun h => by cases h)
theorem tab_ok9 : TIok Try.prog 9 ⟨.str, 1, 16, [.lit (.string ⟨#[]⟩)], false⟩ := tiok Try.type9 Try.underlying9 rfl rfl rfl (fun w M => FrL.cons' (Fr.lit' w M _) (FrL.nil' w M)) (fun fs h => by cases h) (rfl) (fun h => by cases h)
theorem tab_ok15 : TIok Try.prog 15 ⟨.ptr 210, 1, 8, [.lit (.pointer none)], false⟩ := tiok Try.type15 Try.underlying15 rfl rfl rfl (fun w M => FrL.cons' (Fr.lit' w M _) (FrL.nil' w M)) (fun fs h => by cases h) (rfl) (fun h => by cases h)
theorem tab_ok16 : TIok Try.prog 16 ⟨.ptr 213, 1, 8, [.lit (.pointer none)], false⟩ := tiok Try.type16 Try.underlying16 rfl rfl rfl (fun w M => FrL.cons' (Fr.lit' w M _) (FrL.nil' w M)) (fun fs h => by cases h) (rfl) (fun h => by cases h)
theorem tab_ok17 : TIok Try.prog 17 ⟨.ptr 222, 1, 8, [.lit (.pointer none)], false⟩ := tiok Try.type17 Try.underlying17 rfl rfl rfl (fun w M => FrL.cons' (Fr.lit' w M _) (FrL.nil' w M)) (fun fs h => by cases h) (rfl) (fun h => by cases h)
theorem tab_ok22 : TIok Try.prog 22 ⟨.slice 66, 1, 24, [.arr 2 0 [] false], false⟩ := tiok Try.type22 Try.underlying22 rfl rfl rfl (fun w M => FrL.cons' (Fr.nil w M _ (by decide)) (FrL.nil' w M)) (fun fs h => by cases h) (rfl) (fun h => by cases h)
theorem tab_ok23 : TIok Try.prog 23 ⟨.slice 70, 1, 24, [.arr 6 0 [] false], false⟩ := tiok Try.type23 Try.underlying23 rfl rfl rfl (fun w M => FrL.cons' (Fr.nil w M _ (by decide)) (FrL.nil' w M)) (fun fs h => by cases h) (rfl) (fun h => by cases h)
theorem tab_ok26 : TIok Try.prog 26 ⟨.slice 88, 1, 24, [.arr 2 0 [] false], false⟩ := tiok Try.type26 Try.underlying26 rfl rfl rfl (fun w M => FrL.cons' (Fr.nil w M _ (by decide)) (FrL.nil' w M)) (fun fs h => by cases h) (rfl) (fun h => by cases h)
theorem tab_ok28 : TIok Try.prog 28 ⟨.slice 77, 1, 24, [.arr 2 0 [] false], false⟩ := tiok Try.type28 Try.underlying28 rfl rfl rfl (fun w M => FrL.cons' (Fr.nil w M _ (by decide)) (FrL.nil' w M)) (fun fs h => by cases h) (rfl) (fun h => by cases h)
theorem tab_ok30 : TIok Try.prog 30 ⟨.slice 81, 1, 24, [.arr 6 0 [] false], false⟩ := tiok Try.type30 Try.underlying30 rfl rfl rfl (fun w M => FrL.cons' (Fr.nil w M _ (by decide)) (FrL.nil' w M)) (fun fs h => by cases h) (rfl) (fun h => by cases h)
theorem tab_ok39 : TIok Try.prog 39 ⟨.slice 3, 1, 24, [.arr 1 0 [] false], false⟩ := tiok Try.type39 Try.underlying39 rfl rfl rfl (fun w M => FrL.cons' (Fr.nil w M _ (by decide)) (FrL.nil' w M)) (fun fs h => by cases h) (rfl) (fun h => by cases h)
theorem tab_ok40 : TIok Try.prog 40 ⟨.slice 152, 1, 24, [.arr 3 0 [] false], false⟩ := tiok Try.type40 Try.underlying40 rfl rfl rfl (fun w M => FrL.cons' (Fr.nil w M _ (by decide)) (FrL.nil' w M)) (fun fs h => by cases h) (rfl) (fun h => by cases h)
theorem tab_ok41 : TIok Try.prog 41 ⟨.struct [(28, 0), (39, 1), (40, 2)], 3, 72, [.arr 2 0 [] false, .arr 1 0 [] false, .arr 3 0 [] false], false⟩ := tiok Try.type41 Try.underlying41 rfl rfl rfl (fun w M => FrL.cons' (Fr.nil w M _ (by decide)) (FrL.cons' (Fr.nil w M _ (by decide)) (FrL.cons' (Fr.nil w M _ (by decide)) (FrL.nil' w M)))) (fun fs h => ⟨_, rfl⟩) (⟨_, rfl, rfl⟩) (fun h => by cases h)
theorem tab_ok42 : TIok Try.prog 42 ⟨.struct [(28, 0), (39, 1), (40, 2)], 3, 72, [.arr 2 0 [] false, .arr 1 0 [] false, .arr 3 0 [] false], false⟩ := tiok Try.type42 Try.underlying42 rfl rfl rfl (fun w M => FrL.cons' (Fr.nil w M _ (by decide)) (FrL.cons' (Fr.nil w M _ (by decide)) (FrL.cons' (Fr.nil w M _ (by decide)) (FrL.nil' w M)))) (fun fs h => ⟨_, rfl⟩) (⟨_, rfl, rfl⟩) (fun h => by cases h)
theorem tab_ok47 : TIok Try.prog 47 ⟨.slice 105, 1, 24, [.arr 4 0 [] false], false⟩ := tiok Try.type47 Try.underlying47 rfl rfl rfl (fun w M => FrL.cons' (Fr.nil w M _ (by decide)) (FrL.nil' w M)) (fun fs h => by cases h) (rfl) (fun h => by cases h)
theorem tab_ok48 : TIok Try.prog 48 ⟨.slice 108, 1, 24, [.arr 2 0 [] false], false⟩ := tiok Try.type48 Try.underlying48 rfl rfl rfl (fun w M => FrL.cons' (Fr.nil w M _ (by decide)) (FrL.nil' w M)) (fun fs h => by cases h) (rfl) (fun h => by cases h)
theorem tab_ok51 : TIok Try.prog 51 ⟨.slice 120, 1, 24, [.arr 4 0 [] false], false⟩ := tiok Try.type51 Try.underlying51 rfl rfl rfl (fun w M => FrL.cons' (Fr.nil w M _ (by decide)) (FrL.nil' w M)) (fun fs h => by cases h) (rfl) (fun h => by cases h)
theorem tab_ok55 : TIok Try.prog 55 ⟨.slice 113, 1, 24, [.arr 2 0 [] false], false⟩ := tiok Try.type55 Try.underlying55 rfl rfl rfl (fun w M => FrL.cons' (Fr.nil w M _ (by decide)) (FrL.nil' w M)) (fun fs h => by cases h) (rfl) (fun h => by cases h)
theorem tab_ok63 : TIok Try.prog 63 ⟨.slice 171, 1, 24, [.arr 2 0 [] false], false⟩ := tiok Try.type63 Try.underlying63 rfl rfl rfl (fun w M => FrL.cons' (Fr.nil w M _ (by decide)) (FrL.nil' w M)) (fun fs h => by cases h) (rfl) (fun h => by cases h)
theorem tab_ok64 : TIok Try.prog 64 ⟨.slice 103, 1, 24, [.arr 1 0 [] false], false⟩ := tiok Try.type64 Try.underlying64 rfl rfl rfl (fun w M => FrL.cons' (Fr.nil w M _ (by decide)) (FrL.nil' w M)) (fun fs h => by cases h) (rfl) (fun h => by cases h)
theorem tab_ok65 : TIok Try.prog 65 ⟨.struct [(63, 0), (64, 1)], 2, 48, [.arr 2 0 [] false, .arr 1 0 [] false], false⟩ := tiok Try.type65 Try.underlying65 rfl rfl rfl (fun w M => FrL.cons' (Fr.nil w M _ (by decide)) (FrL.cons' (Fr.nil w M _ (by decide)) (FrL.nil' w M))) (fun fs h => ⟨_, rfl⟩) (⟨_, rfl, rfl⟩) (fun h => by cases h)
theorem tab_ok66 : TIok Try.prog 66 ⟨.struct [(63, 0), (64, 1)], 2, 48, [.arr 2 0 [] false, .arr 1 0 [] false], false⟩ := tiok Try.type66 Try.underlying66 rfl rfl rfl (fun w M => FrL.cons' (Fr.nil w M _ (by decide)) (FrL.cons' (Fr.nil w M _ (by decide)) (FrL.nil' w M))) (fun fs h => ⟨_, rfl⟩) (⟨_, rfl, rfl⟩) (fun h => by cases h)
theorem tab_ok68 : TIok Try.prog 68 ⟨.slice 167, 1, 24, [.arr 5 0 [] false], false⟩ := tiok Try.type68 Try.underlying68 rfl rfl rfl (fun w M => FrL.cons' (Fr.nil w M _ (by decide)) (FrL.nil' w M)) (fun fs h => by cases h) (rfl) (fun h => by cases h)
theorem tab_ok69 : TIok Try.prog 69 ⟨.struct [(3, 0), (3, 1), (3, 2), (3, 3), (68, 4), (39, 5)], 6, 80, [.lit (.int .i64 0), .lit (.int .i64 0), .lit (.int .i64 0), .lit (.int .i64 0), .arr 5 0 [] false, .arr 1 0 [] false], false⟩ := tiok Try.type69 Try.underlying69 rfl rfl rfl (fun w M => FrL.cons' (Fr.lit' w M _) (FrL.cons' (Fr.lit' w M _) (FrL.cons' (Fr.lit' w M _) (FrL.cons' (Fr.lit' w M _) (FrL.cons' (Fr.nil w M _ (by decide)) (FrL.cons' (Fr.nil w M _ (by decide)) (FrL.nil' w M))))))) (fun fs h => ⟨_, rfl⟩) (⟨_, rfl, rfl⟩) (fun h => by cases h)
theorem tab_ok70 : TIok Try.prog 70 ⟨.struct [(3, 0), (3, 1), (3, 2), (3, 3), (68, 4), (39, 5)], 6, 80, [.lit (.int .i64 0), .lit (.int .i64 0), .lit (.int .i64 0), .lit (.int .i64 0), .arr 5 0 [] false, .arr 1 0 [] false], false⟩ := tiok Try.type70 Try.underlying70 rfl rfl rfl (fun w M => FrL.cons' (Fr.lit' w M _) (FrL.cons' (Fr.lit' w M _) (FrL.cons' (Fr.lit' w M _) (FrL.cons' (Fr.lit' w M _) (FrL.cons' (Fr.nil w M _ (by decide)) (FrL.cons' (Fr.nil w M _ (by decide)) (FrL.nil' w M))))))) (fun fs h => ⟨_, rfl⟩) (⟨_, rfl, rfl⟩) (fun h => by cases h)
theorem tab_ok72 : TIok Try.prog 72 ⟨.slice 26, 1, 24, [.arr 1 0 [] false], false⟩ := tiok Try.type72 Try.underlying72 rfl rfl rfl (fun w M => FrL.cons' (Fr.nil w M _ (by decide)) (FrL.nil' w M)) (fun fs h => by cases h) (rfl) (fun h => by cases h)
theorem tab_ok75 : TIok Try.prog 75 ⟨.slice 111, 1, 24, [.arr 1 0 [] false], false⟩ := tiok Try.type75 Try.underlying75 rfl rfl rfl (fun w M => FrL.cons' (Fr.nil w M _ (by decide)) (FrL.nil' w M)) (fun fs h => by cases h) (rfl) (fun h => by cases h)
theorem tab_ok76 : TIok Try.prog 76 ⟨.struct [(26, 0), (75, 1)], 2, 48, [.arr 2 0 [] false, .arr 1 0 [] false], false⟩ := tiok Try.type76 Try.underlying76 rfl rfl rfl (fun w M => FrL.cons' (Fr.nil w M _ (by decide)) (FrL.cons' (Fr.nil w M _ (by decide)) (FrL.nil' w M))) (fun fs h => ⟨_, rfl⟩) (⟨_, rfl, rfl⟩) (fun h => by cases h)
theorem tab_ok77 : TIok Try.prog 77 ⟨.struct [(26, 0), (75, 1)], 2, 48, [.arr 2 0 [] false, .arr 1 0 [] false], false⟩ := tiok Try.type77 Try.underlying77 rfl rfl rfl (fun w M => FrL.cons' (Fr.nil w M _ (by decide)) (FrL.cons' (Fr.nil w M _ (by decide)) (FrL.nil' w M))) (fun fs h => ⟨_, rfl⟩) (⟨_, rfl, rfl⟩) (fun h => by cases h)
theorem tab_ok79 : TIok Try.prog 79 ⟨.slice 142, 1, 24, [.arr 5 0 [] false], false⟩ := tiok Try.type79 Try.underlying79 rfl rfl rfl (fun w M => FrL.cons' (Fr.nil w M _ (by decide)) (FrL.nil' w M)) (fun fs h => by cases h) (rfl) (fun h => by cases h)
theorem tab_ok80 : TIok Try.prog 80 ⟨.struct [(3, 0), (3, 1), (3, 2), (3, 3), (79, 4), (39, 5)], 6, 80, [.lit (.int .i64 0), .lit (.int .i64 0), .lit (.int .i64 0), .lit (.int .i64 0), .arr 5 0 [] false, .arr 1 0 [] false], false⟩ := tiok Try.type80 Try.underlying80 rfl rfl rfl (fun w M => FrL.cons' (Fr.lit' w M _) (FrL.cons' (Fr.lit' w M _) (FrL.cons' (Fr.lit' w M _) (FrL.cons' (Fr.lit' w M _) (FrL.cons' (Fr.nil w M _ (by decide)) (FrL.cons' (Fr.nil w M _ (by decide)) (FrL.nil' w M))))))) (fun fs h => ⟨_, rfl⟩) (⟨_, rfl, rfl⟩) (fun h => by cases h)
theorem tab_ok81 : TIok Try.prog 81 ⟨.struct [(3, 0), (3, 1), (3, 2), (3, 3), (79, 4), (39, 5)], 6, 80, [.lit (.int .i64 0), .lit (.int .i64 0), .lit (.int .i64 0), .lit (.int .i64 0), .arr 5 0 [] false, .arr 1 0 [] false], false⟩ := tiok Try.type81 Try.underlying81 rfl rfl rfl (fun w M => FrL.cons' (Fr.lit' w M _) (FrL.cons' (Fr.lit' w M _) (FrL.cons' (Fr.lit' w M _) (FrL.cons' (Fr.lit' w M _) (FrL.cons' (Fr.nil w M _ (by decide)) (FrL.cons' (Fr.nil w M _ (by decide)) (FrL.nil' w M))))))) (fun fs h => ⟨_, rfl⟩) (⟨_, rfl, rfl⟩) (fun h => by cases h)
theorem tab_ok83 : TIok Try.prog 83 ⟨.slice 90, 1, 24, [.arr 2 0 [] false], false⟩ := tiok Try.type83 Try.underlying83 rfl rfl rfl (fun w M => FrL.cons' (Fr.nil w M _ (by decide)) (FrL.nil' w M)) (fun fs h => by cases h) (rfl) (fun h => by cases h)
theorem tab_ok87 : TIok Try.prog 87 ⟨.struct [(3, 0), (4, 1)], 2, 16, [.lit (.int .i64 0), .lit (.bool false)], false⟩ := tiok Try.type87 Try.underlying87 rfl rfl rfl (fun w M => FrL.cons' (Fr.lit' w M _) (FrL.cons' (Fr.lit' w M _) (FrL.nil' w M))) (fun fs h => ⟨_, rfl⟩) (⟨_, rfl, rfl⟩) (fun h => by cases h)
theorem tab_ok88 : TIok Try.prog 88 ⟨.struct [(3, 0), (4, 1)], 2, 16, [.lit (.int .i64 0), .lit (.bool false)], false⟩ := tiok Try.type88 Try.underlying88 rfl rfl rfl (fun w M => FrL.cons' (Fr.lit' w M _) (FrL.cons' (Fr.lit' w M _) (FrL.nil' w M))) (fun fs h => ⟨_, rfl⟩) (⟨_, rfl, rfl⟩) (fun h => by cases h)
theorem tab_ok89 : TIok Try.prog 89 ⟨.struct [(26, 0), (3, 1)], 2, 32, [.arr 2 0 [] false, .lit (.int .i64 0)], false⟩ := tiok Try.type89 Try.underlying89 rfl rfl rfl (fun w M => FrL.cons' (Fr.nil w M _ (by decide)) (FrL.cons' (Fr.lit' w M _) (FrL.nil' w M))) (fun fs h => ⟨_, rfl⟩) (⟨_, rfl, rfl⟩) (fun h => by cases h)
theorem tab_ok90 : TIok Try.prog 90 ⟨.struct [(26, 0), (3, 1)], 2, 32, [.arr 2 0 [] false, .lit (.int .i64 0)], false⟩ := tiok Try.type90 Try.underlying90 rfl rfl rfl (fun w M => FrL.cons' (Fr.nil w M _ (by decide)) (FrL.cons' (Fr.lit' w M _) (FrL.nil' w M))) (fun fs h => ⟨_, rfl⟩) (⟨_, rfl, rfl⟩) (fun h => by cases h)
theorem tab_ok103 : TIok Try.prog 103 ⟨.slice 165, 1, 24, [.arr 3 0 [] false], false⟩ := tiok Try.type103 Try.underlying103 rfl rfl rfl (fun w M => FrL.cons' (Fr.nil w M _ (by decide)) (FrL.nil' w M)) (fun fs h => by cases h) (rfl) (fun h => by cases h)
theorem tab_ok104 : TIok Try.prog 104 ⟨.struct [(103, 0), (3, 1), (3, 2), (3, 3)], 4, 48, [.arr 3 0 [] false, .lit (.int .i64 0), .lit (.int .i64 0), .lit (.int .i64 0)], false⟩ := tiok Try.type104 Try.underlying104 rfl rfl rfl (fun w M => FrL.cons' (Fr.nil w M _ (by decide)) (FrL.cons' (Fr.lit' w M _) (FrL.cons' (Fr.lit' w M _) (FrL.cons' (Fr.lit' w M _) (FrL.nil' w M))))) (fun fs h => ⟨_, rfl⟩) (⟨_, rfl, rfl⟩) (fun h => by cases h)
theorem tab_ok105 : TIok Try.prog 105 ⟨.struct [(103, 0), (3, 1), (3, 2), (3, 3)], 4, 48, [.arr 3 0 [] false, .lit (.int .i64 0), .lit (.int .i64 0), .lit (.int .i64 0)], false⟩ := tiok Try.type105 Try.underlying105 rfl rfl rfl (fun w M => FrL.cons' (Fr.nil w M _ (by decide)) (FrL.cons' (Fr.lit' w M _) (FrL.cons' (Fr.lit' w M _) (FrL.cons' (Fr.lit' w M _) (FrL.nil' w M))))) (fun fs h => ⟨_, rfl⟩) (⟨_, rfl, rfl⟩) (fun h => by cases h)
theorem tab_ok107 : TIok Try.prog 107 ⟨.struct [(103, 0), (3, 1)], 2, 32, [.arr 3 0 [] false, .lit (.int .i64 0)], false⟩ := tiok Try.type107 Try.underlying107 rfl rfl rfl (fun w M => FrL.cons' (Fr.nil w M _ (by decide)) (FrL.cons' (Fr.lit' w M _) (FrL.nil' w M))) (fun fs h => ⟨_, rfl⟩) (⟨_, rfl, rfl⟩) (fun h => by cases h)
theorem tab_ok108 : TIok Try.prog 108 ⟨.struct [(103, 0), (3, 1)], 2, 32, [.arr 3 0 [] false, .lit (.int .i64 0)], false⟩ := tiok Try.type108 Try.underlying108 rfl rfl rfl (fun w M => FrL.cons' (Fr.nil w M _ (by decide)) (FrL.cons' (Fr.lit' w M _) (FrL.nil' w M))) (fun fs h => ⟨_, rfl⟩) (⟨_, rfl, rfl⟩) (fun h => by cases h)
theorem tab_ok111 : TIok Try.prog 111 ⟨.slice 118, 1, 24, [.arr 3 0 [] false], false⟩ := tiok Try.type111 Try.underlying111 rfl rfl rfl (fun w M => FrL.cons' (Fr.nil w M _ (by decide)) (FrL.nil' w M)) (fun fs h => by cases h) (rfl) (fun h => by cases h)
theorem tab_ok112 : TIok Try.prog 112 ⟨.struct [(111, 0), (3, 1)], 2, 32, [.arr 3 0 [] false, .lit (.int .i64 0)], false⟩ := tiok Try.type112 Try.underlying112 rfl rfl rfl (fun w M => FrL.cons' (Fr.nil w M _ (by decide)) (FrL.cons' (Fr.lit' w M _) (FrL.nil' w M))) (fun fs h => ⟨_, rfl⟩) (⟨_, rfl, rfl⟩) (fun h => by cases h)
theorem tab_ok113 : TIok Try.prog 113 ⟨.struct [(111, 0), (3, 1)], 2, 32, [.arr 3 0 [] false, .lit (.int .i64 0)], false⟩ := tiok Try.type113 Try.underlying113 rfl rfl rfl (fun w M => FrL.cons' (Fr.nil w M _ (by decide)) (FrL.cons' (Fr.lit' w M _) (FrL.nil' w M))) (fun fs h => ⟨_, rfl⟩) (⟨_, rfl, rfl⟩) (fun h => by cases h)
theorem tab_ok114 : TIok Try.prog 114 ⟨.func, 1, 8, [.lit .nilFunc], false⟩ := tiok Try.type114 Try.underlying114 rfl rfl rfl (fun w M => FrL.cons' (Fr.lit' w M _) (FrL.nil' w M)) (fun fs h => by cases h) (⟨_, _, _, rfl⟩) (fun h => by cases h)
theorem tab_ok117 : TIok Try.prog 117 ⟨.struct [(3, 0), (3, 1), (9, 2)], 3, 32, [.lit (.int .i64 0), .lit (.int .i64 0), .lit (.string ⟨#[]⟩)], false⟩ := tiok Try.type117 Try.underlying117 rfl rfl rfl (fun w M => FrL.cons' (Fr.lit' w M _) (FrL.cons' (Fr.lit' w M _) (FrL.cons' (Fr.lit' w M _) (FrL.nil' w M)))) (fun fs h => ⟨_, rfl⟩) (⟨_, rfl, rfl⟩) (fun h => by cases h)
theorem tab_ok118 : TIok Try.prog 118 ⟨.struct [(3, 0), (3, 1), (9, 2)], 3, 32, [.lit (.int .i64 0), .lit (.int .i64 0), .lit (.string ⟨#[]⟩)], true⟩ := tiok Try.type118 Try.underlying118 rfl rfl rfl (fun w M => FrL.cons' (Fr.lit' w M _) (FrL.cons' (Fr.lit' w M _) (FrL.cons' (Fr.lit' w M _) (FrL.nil' w M)))) (fun fs h => ⟨_, rfl⟩) (⟨_, rfl, rfl⟩) (fun h => ⟨Try.stoodInHeld118, Try.eqGuardType118, by simp [Program.fieldsOf, Try.underlying118]⟩)
theorem tab_ok119 : TIok Try.prog 119 ⟨.struct [(111, 0), (3, 1), (3, 2), (3, 3)], 4, 48, [.arr 3 0 [] false, .lit (.int .i64 0), .lit (.int .i64 0), .lit (.int .i64 0)], false⟩ := tiok Try.type119 Try.underlying119 rfl rfl rfl (fun w M => FrL.cons' (Fr.nil w M _ (by decide)) (FrL.cons' (Fr.lit' w M _) (FrL.cons' (Fr.lit' w M _) (FrL.cons' (Fr.lit' w M _) (FrL.nil' w M))))) (fun fs h => ⟨_, rfl⟩) (⟨_, rfl, rfl⟩) (fun h => by cases h)
theorem tab_ok120 : TIok Try.prog 120 ⟨.struct [(111, 0), (3, 1), (3, 2), (3, 3)], 4, 48, [.arr 3 0 [] false, .lit (.int .i64 0), .lit (.int .i64 0), .lit (.int .i64 0)], false⟩ := tiok Try.type120 Try.underlying120 rfl rfl rfl (fun w M => FrL.cons' (Fr.nil w M _ (by decide)) (FrL.cons' (Fr.lit' w M _) (FrL.cons' (Fr.lit' w M _) (FrL.cons' (Fr.lit' w M _) (FrL.nil' w M))))) (fun fs h => ⟨_, rfl⟩) (⟨_, rfl, rfl⟩) (fun h => by cases h)
theorem tab_ok141 : TIok Try.prog 141 ⟨.struct [(3, 0), (3, 1), (118, 2)], 5, 48, [.lit (.int .i64 0), .lit (.int .i64 0), .lit (.int .i64 0), .lit (.int .i64 0), .lit (.string ⟨#[]⟩)], false⟩ := tiok Try.type141 Try.underlying141 rfl rfl rfl (fun w M => FrL.cons' (Fr.lit' w M _) (FrL.cons' (Fr.lit' w M _) (FrL.cons' (Fr.lit' w M _) (FrL.cons' (Fr.lit' w M _) (FrL.cons' (Fr.lit' w M _) (FrL.nil' w M)))))) (fun fs h => ⟨_, rfl⟩) (⟨_, rfl, rfl⟩) (fun h => by cases h)
theorem tab_ok142 : TIok Try.prog 142 ⟨.struct [(3, 0), (3, 1), (118, 2)], 5, 48, [.lit (.int .i64 0), .lit (.int .i64 0), .lit (.int .i64 0), .lit (.int .i64 0), .lit (.string ⟨#[]⟩)], false⟩ := tiok Try.type142 Try.underlying142 rfl rfl rfl (fun w M => FrL.cons' (Fr.lit' w M _) (FrL.cons' (Fr.lit' w M _) (FrL.cons' (Fr.lit' w M _) (FrL.cons' (Fr.lit' w M _) (FrL.cons' (Fr.lit' w M _) (FrL.nil' w M)))))) (fun fs h => ⟨_, rfl⟩) (⟨_, rfl, rfl⟩) (fun h => by cases h)
theorem tab_ok148 : TIok Try.prog 148 ⟨.func, 1, 8, [.lit .nilFunc], false⟩ := tiok Try.type148 Try.underlying148 rfl rfl rfl (fun w M => FrL.cons' (Fr.lit' w M _) (FrL.nil' w M)) (fun fs h => by cases h) (⟨_, _, _, rfl⟩) (fun h => by cases h)
theorem tab_ok151 : TIok Try.prog 151 ⟨.struct [(30, 0), (75, 1), (39, 2)], 3, 72, [.arr 6 0 [] false, .arr 1 0 [] false, .arr 1 0 [] false], false⟩ := tiok Try.type151 Try.underlying151 rfl rfl rfl (fun w M => FrL.cons' (Fr.nil w M _ (by decide)) (FrL.cons' (Fr.nil w M _ (by decide)) (FrL.cons' (Fr.nil w M _ (by decide)) (FrL.nil' w M)))) (fun fs h => ⟨_, rfl⟩) (⟨_, rfl, rfl⟩) (fun h => by cases h)
theorem tab_ok152 : TIok Try.prog 152 ⟨.struct [(30, 0), (75, 1), (39, 2)], 3, 72, [.arr 6 0 [] false, .arr 1 0 [] false, .arr 1 0 [] false], false⟩ := tiok Try.type152 Try.underlying152 rfl rfl rfl (fun w M => FrL.cons' (Fr.nil w M _ (by decide)) (FrL.cons' (Fr.nil w M _ (by decide)) (FrL.cons' (Fr.nil w M _ (by decide)) (FrL.nil' w M)))) (fun fs h => ⟨_, rfl⟩) (⟨_, rfl, rfl⟩) (fun h => by cases h)
theorem tab_ok159 : TIok Try.prog 159 ⟨.func, 1, 8, [.lit .nilFunc], false⟩ := tiok Try.type159 Try.underlying159 rfl rfl rfl (fun w M => FrL.cons' (Fr.lit' w M _) (FrL.nil' w M)) (fun fs h => by cases h) (⟨_, _, _, rfl⟩) (fun h => by cases h)
theorem tab_ok161 : TIok Try.prog 161 ⟨.ptr 120, 1, 8, [.lit (.pointer none)], false⟩ := tiok Try.type161 Try.underlying161 rfl rfl rfl (fun w M => FrL.cons' (Fr.lit' w M _) (FrL.nil' w M)) (fun fs h => by cases h) (rfl) (fun h => by cases h)
theorem tab_ok165 : TIok Try.prog 165 ⟨.struct [(3, 0), (3, 1), (9, 2)], 3, 32, [.lit (.int .i64 0), .lit (.int .i64 0), .lit (.string ⟨#[]⟩)], false⟩ := tiok Try.type165 Try.underlying165 rfl rfl rfl (fun w M => FrL.cons' (Fr.lit' w M _) (FrL.cons' (Fr.lit' w M _) (FrL.cons' (Fr.lit' w M _) (FrL.nil' w M)))) (fun fs h => ⟨_, rfl⟩) (⟨_, rfl, rfl⟩) (fun h => by cases h)
theorem tab_ok166 : TIok Try.prog 166 ⟨.struct [(3, 0), (3, 1), (165, 2)], 5, 48, [.lit (.int .i64 0), .lit (.int .i64 0), .lit (.int .i64 0), .lit (.int .i64 0), .lit (.string ⟨#[]⟩)], false⟩ := tiok Try.type166 Try.underlying166 rfl rfl rfl (fun w M => FrL.cons' (Fr.lit' w M _) (FrL.cons' (Fr.lit' w M _) (FrL.cons' (Fr.lit' w M _) (FrL.cons' (Fr.lit' w M _) (FrL.cons' (Fr.lit' w M _) (FrL.nil' w M)))))) (fun fs h => ⟨_, rfl⟩) (⟨_, rfl, rfl⟩) (fun h => by cases h)
theorem tab_ok167 : TIok Try.prog 167 ⟨.struct [(3, 0), (3, 1), (165, 2)], 5, 48, [.lit (.int .i64 0), .lit (.int .i64 0), .lit (.int .i64 0), .lit (.int .i64 0), .lit (.string ⟨#[]⟩)], false⟩ := tiok Try.type167 Try.underlying167 rfl rfl rfl (fun w M => FrL.cons' (Fr.lit' w M _) (FrL.cons' (Fr.lit' w M _) (FrL.cons' (Fr.lit' w M _) (FrL.cons' (Fr.lit' w M _) (FrL.cons' (Fr.lit' w M _) (FrL.nil' w M)))))) (fun fs h => ⟨_, rfl⟩) (⟨_, rfl, rfl⟩) (fun h => by cases h)
theorem tab_ok171 : TIok Try.prog 171 ⟨.struct [(3, 0), (4, 1)], 2, 16, [.lit (.int .i64 0), .lit (.bool false)], false⟩ := tiok Try.type171 Try.underlying171 rfl rfl rfl (fun w M => FrL.cons' (Fr.lit' w M _) (FrL.cons' (Fr.lit' w M _) (FrL.nil' w M))) (fun fs h => ⟨_, rfl⟩) (⟨_, rfl, rfl⟩) (fun h => by cases h)
theorem tab_ok175 : TIok Try.prog 175 ⟨.slice 5, 1, 24, [.arr 1 0 [] false], false⟩ := tiok Try.type175 Try.underlying175 rfl rfl rfl (fun w M => FrL.cons' (Fr.nil w M _ (by decide)) (FrL.nil' w M)) (fun fs h => by cases h) (rfl) (fun h => by cases h)
theorem tab_ok179 : TIok Try.prog 179 ⟨.func, 1, 8, [.lit .nilFunc], false⟩ := tiok Try.type179 Try.underlying179 rfl rfl rfl (fun w M => FrL.cons' (Fr.lit' w M _) (FrL.nil' w M)) (fun fs h => by cases h) (⟨_, _, _, rfl⟩) (fun h => by cases h)
theorem tab_ok183 : TIok Try.prog 183 ⟨.func, 1, 8, [.lit .nilFunc], false⟩ := tiok Try.type183 Try.underlying183 rfl rfl rfl (fun w M => FrL.cons' (Fr.lit' w M _) (FrL.nil' w M)) (fun fs h => by cases h) (⟨_, _, _, rfl⟩) (fun h => by cases h)
theorem tab_ok184 : TIok Try.prog 184 ⟨.func, 1, 8, [.lit .nilFunc], false⟩ := tiok Try.type184 Try.underlying184 rfl rfl rfl (fun w M => FrL.cons' (Fr.lit' w M _) (FrL.nil' w M)) (fun fs h => by cases h) (⟨_, _, _, rfl⟩) (fun h => by cases h)
theorem tab_ok203 : TIok Try.prog 203 ⟨.func, 1, 8, [.lit .nilFunc], false⟩ := tiok Try.type203 Try.underlying203 rfl rfl rfl (fun w M => FrL.cons' (Fr.lit' w M _) (FrL.nil' w M)) (fun fs h => by cases h) (⟨_, _, _, rfl⟩) (fun h => by cases h)
def tab : List (Nat × TI) := [
  (2, ⟨.int .i64, 1, 8, [.lit (.int .i64 0)], false⟩),
  (3, ⟨.int .i64, 1, 8, [.lit (.int .i64 0)], false⟩),
  (4, ⟨.bool, 1, 1, [.lit (.bool false)], false⟩),
  (5, ⟨.int .u8, 1, 1, [.lit (.int .u8 0)], false⟩),
  (7, ⟨.struct [(2, 0), (3, 1), (4, 2), (6, 3)], 4, 24, [.lit (.int .i64 0), .lit (.int .i64 0), .lit (.bool false), .lit (.int .u8 0)], false⟩),
  (9, ⟨.str, 1, 16, [.lit (.string ⟨#[]⟩)], false⟩),
  (15, ⟨.ptr 210, 1, 8, [.lit (.pointer none)], false⟩),
  (16, ⟨.ptr 213, 1, 8, [.lit (.pointer none)], false⟩),
  (17, ⟨.ptr 222, 1, 8, [.lit (.pointer none)], false⟩),
  (22, ⟨.slice 66, 1, 24, [.arr 2 0 [] false], false⟩),
  (23, ⟨.slice 70, 1, 24, [.arr 6 0 [] false], false⟩),
  (26, ⟨.slice 88, 1, 24, [.arr 2 0 [] false], false⟩),
  (28, ⟨.slice 77, 1, 24, [.arr 2 0 [] false], false⟩),
  (30, ⟨.slice 81, 1, 24, [.arr 6 0 [] false], false⟩),
  (39, ⟨.slice 3, 1, 24, [.arr 1 0 [] false], false⟩),
  (40, ⟨.slice 152, 1, 24, [.arr 3 0 [] false], false⟩),
  (41, ⟨.struct [(28, 0), (39, 1), (40, 2)], 3, 72, [.arr 2 0 [] false, .arr 1 0 [] false, .arr 3 0 [] false], false⟩),
  (42, ⟨.struct [(28, 0), (39, 1), (40, 2)], 3, 72, [.arr 2 0 [] false, .arr 1 0 [] false, .arr 3 0 [] false], false⟩),
  (47, ⟨.slice 105, 1, 24, [.arr 4 0 [] false], false⟩),
  (48, ⟨.slice 108, 1, 24, [.arr 2 0 [] false], false⟩),
  (51, ⟨.slice 120, 1, 24, [.arr 4 0 [] false], false⟩),
  (55, ⟨.slice 113, 1, 24, [.arr 2 0 [] false], false⟩),
  (63, ⟨.slice 171, 1, 24, [.arr 2 0 [] false], false⟩),
  (64, ⟨.slice 103, 1, 24, [.arr 1 0 [] false], false⟩),
  (65, ⟨.struct [(63, 0), (64, 1)], 2, 48, [.arr 2 0 [] false, .arr 1 0 [] false], false⟩),
  (66, ⟨.struct [(63, 0), (64, 1)], 2, 48, [.arr 2 0 [] false, .arr 1 0 [] false], false⟩),
  (68, ⟨.slice 167, 1, 24, [.arr 5 0 [] false], false⟩),
  (69, ⟨.struct [(3, 0), (3, 1), (3, 2), (3, 3), (68, 4), (39, 5)], 6, 80, [.lit (.int .i64 0), .lit (.int .i64 0), .lit (.int .i64 0), .lit (.int .i64 0), .arr 5 0 [] false, .arr 1 0 [] false], false⟩),
  (70, ⟨.struct [(3, 0), (3, 1), (3, 2), (3, 3), (68, 4), (39, 5)], 6, 80, [.lit (.int .i64 0), .lit (.int .i64 0), .lit (.int .i64 0), .lit (.int .i64 0), .arr 5 0 [] false, .arr 1 0 [] false], false⟩),
  (72, ⟨.slice 26, 1, 24, [.arr 1 0 [] false], false⟩),
  (75, ⟨.slice 111, 1, 24, [.arr 1 0 [] false], false⟩),
  (76, ⟨.struct [(26, 0), (75, 1)], 2, 48, [.arr 2 0 [] false, .arr 1 0 [] false], false⟩),
  (77, ⟨.struct [(26, 0), (75, 1)], 2, 48, [.arr 2 0 [] false, .arr 1 0 [] false], false⟩),
  (79, ⟨.slice 142, 1, 24, [.arr 5 0 [] false], false⟩),
  (80, ⟨.struct [(3, 0), (3, 1), (3, 2), (3, 3), (79, 4), (39, 5)], 6, 80, [.lit (.int .i64 0), .lit (.int .i64 0), .lit (.int .i64 0), .lit (.int .i64 0), .arr 5 0 [] false, .arr 1 0 [] false], false⟩),
  (81, ⟨.struct [(3, 0), (3, 1), (3, 2), (3, 3), (79, 4), (39, 5)], 6, 80, [.lit (.int .i64 0), .lit (.int .i64 0), .lit (.int .i64 0), .lit (.int .i64 0), .arr 5 0 [] false, .arr 1 0 [] false], false⟩),
  (83, ⟨.slice 90, 1, 24, [.arr 2 0 [] false], false⟩),
  (87, ⟨.struct [(3, 0), (4, 1)], 2, 16, [.lit (.int .i64 0), .lit (.bool false)], false⟩),
  (88, ⟨.struct [(3, 0), (4, 1)], 2, 16, [.lit (.int .i64 0), .lit (.bool false)], false⟩),
  (89, ⟨.struct [(26, 0), (3, 1)], 2, 32, [.arr 2 0 [] false, .lit (.int .i64 0)], false⟩),
  (90, ⟨.struct [(26, 0), (3, 1)], 2, 32, [.arr 2 0 [] false, .lit (.int .i64 0)], false⟩),
  (103, ⟨.slice 165, 1, 24, [.arr 3 0 [] false], false⟩),
  (104, ⟨.struct [(103, 0), (3, 1), (3, 2), (3, 3)], 4, 48, [.arr 3 0 [] false, .lit (.int .i64 0), .lit (.int .i64 0), .lit (.int .i64 0)], false⟩),
  (105, ⟨.struct [(103, 0), (3, 1), (3, 2), (3, 3)], 4, 48, [.arr 3 0 [] false, .lit (.int .i64 0), .lit (.int .i64 0), .lit (.int .i64 0)], false⟩),
  (107, ⟨.struct [(103, 0), (3, 1)], 2, 32, [.arr 3 0 [] false, .lit (.int .i64 0)], false⟩),
  (108, ⟨.struct [(103, 0), (3, 1)], 2, 32, [.arr 3 0 [] false, .lit (.int .i64 0)], false⟩),
  (111, ⟨.slice 118, 1, 24, [.arr 3 0 [] false], false⟩),
  (112, ⟨.struct [(111, 0), (3, 1)], 2, 32, [.arr 3 0 [] false, .lit (.int .i64 0)], false⟩),
  (113, ⟨.struct [(111, 0), (3, 1)], 2, 32, [.arr 3 0 [] false, .lit (.int .i64 0)], false⟩),
  (114, ⟨.func, 1, 8, [.lit .nilFunc], false⟩),
  (117, ⟨.struct [(3, 0), (3, 1), (9, 2)], 3, 32, [.lit (.int .i64 0), .lit (.int .i64 0), .lit (.string ⟨#[]⟩)], false⟩),
  (118, ⟨.struct [(3, 0), (3, 1), (9, 2)], 3, 32, [.lit (.int .i64 0), .lit (.int .i64 0), .lit (.string ⟨#[]⟩)], true⟩),
  (119, ⟨.struct [(111, 0), (3, 1), (3, 2), (3, 3)], 4, 48, [.arr 3 0 [] false, .lit (.int .i64 0), .lit (.int .i64 0), .lit (.int .i64 0)], false⟩),
  (120, ⟨.struct [(111, 0), (3, 1), (3, 2), (3, 3)], 4, 48, [.arr 3 0 [] false, .lit (.int .i64 0), .lit (.int .i64 0), .lit (.int .i64 0)], false⟩),
  (141, ⟨.struct [(3, 0), (3, 1), (118, 2)], 5, 48, [.lit (.int .i64 0), .lit (.int .i64 0), .lit (.int .i64 0), .lit (.int .i64 0), .lit (.string ⟨#[]⟩)], false⟩),
  (142, ⟨.struct [(3, 0), (3, 1), (118, 2)], 5, 48, [.lit (.int .i64 0), .lit (.int .i64 0), .lit (.int .i64 0), .lit (.int .i64 0), .lit (.string ⟨#[]⟩)], false⟩),
  (148, ⟨.func, 1, 8, [.lit .nilFunc], false⟩),
  (151, ⟨.struct [(30, 0), (75, 1), (39, 2)], 3, 72, [.arr 6 0 [] false, .arr 1 0 [] false, .arr 1 0 [] false], false⟩),
  (152, ⟨.struct [(30, 0), (75, 1), (39, 2)], 3, 72, [.arr 6 0 [] false, .arr 1 0 [] false, .arr 1 0 [] false], false⟩),
  (159, ⟨.func, 1, 8, [.lit .nilFunc], false⟩),
  (161, ⟨.ptr 120, 1, 8, [.lit (.pointer none)], false⟩),
  (165, ⟨.struct [(3, 0), (3, 1), (9, 2)], 3, 32, [.lit (.int .i64 0), .lit (.int .i64 0), .lit (.string ⟨#[]⟩)], false⟩),
  (166, ⟨.struct [(3, 0), (3, 1), (165, 2)], 5, 48, [.lit (.int .i64 0), .lit (.int .i64 0), .lit (.int .i64 0), .lit (.int .i64 0), .lit (.string ⟨#[]⟩)], false⟩),
  (167, ⟨.struct [(3, 0), (3, 1), (165, 2)], 5, 48, [.lit (.int .i64 0), .lit (.int .i64 0), .lit (.int .i64 0), .lit (.int .i64 0), .lit (.string ⟨#[]⟩)], false⟩),
  (171, ⟨.struct [(3, 0), (4, 1)], 2, 16, [.lit (.int .i64 0), .lit (.bool false)], false⟩),
  (175, ⟨.slice 5, 1, 24, [.arr 1 0 [] false], false⟩),
  (179, ⟨.func, 1, 8, [.lit .nilFunc], false⟩),
  (183, ⟨.func, 1, 8, [.lit .nilFunc], false⟩),
  (184, ⟨.func, 1, 8, [.lit .nilFunc], false⟩),
  (203, ⟨.func, 1, 8, [.lit .nilFunc], false⟩)]
def τ : Tau := tabOf tab
theorem τ_ok : TOK Try.prog τ := tabOf_ok tab ⟨tab_ok2, ⟨tab_ok3, ⟨tab_ok4, ⟨tab_ok5, ⟨tab_ok7, ⟨tab_ok9, ⟨tab_ok15, ⟨tab_ok16, ⟨tab_ok17, ⟨tab_ok22, ⟨tab_ok23, ⟨tab_ok26, ⟨tab_ok28, ⟨tab_ok30, ⟨tab_ok39, ⟨tab_ok40, ⟨tab_ok41, ⟨tab_ok42, ⟨tab_ok47, ⟨tab_ok48, ⟨tab_ok51, ⟨tab_ok55, ⟨tab_ok63, ⟨tab_ok64, ⟨tab_ok65, ⟨tab_ok66, ⟨tab_ok68, ⟨tab_ok69, ⟨tab_ok70, ⟨tab_ok72, ⟨tab_ok75, ⟨tab_ok76, ⟨tab_ok77, ⟨tab_ok79, ⟨tab_ok80, ⟨tab_ok81, ⟨tab_ok83, ⟨tab_ok87, ⟨tab_ok88, ⟨tab_ok89, ⟨tab_ok90, ⟨tab_ok103, ⟨tab_ok104, ⟨tab_ok105, ⟨tab_ok107, ⟨tab_ok108, ⟨tab_ok111, ⟨tab_ok112, ⟨tab_ok113, ⟨tab_ok114, ⟨tab_ok117, ⟨tab_ok118, ⟨tab_ok119, ⟨tab_ok120, ⟨tab_ok141, ⟨tab_ok142, ⟨tab_ok148, ⟨tab_ok151, ⟨tab_ok152, ⟨tab_ok159, ⟨tab_ok161, ⟨tab_ok165, ⟨tab_ok166, ⟨tab_ok167, ⟨tab_ok171, ⟨tab_ok175, ⟨tab_ok179, ⟨tab_ok183, ⟨tab_ok184, ⟨tab_ok203, trivial⟩⟩⟩⟩⟩⟩⟩⟩⟩⟩⟩⟩⟩⟩⟩⟩⟩⟩⟩⟩⟩⟩⟩⟩⟩⟩⟩⟩⟩⟩⟩⟩⟩⟩⟩⟩⟩⟩⟩⟩⟩⟩⟩⟩⟩⟩⟩⟩⟩⟩⟩⟩⟩⟩⟩⟩⟩⟩⟩⟩⟩⟩⟩⟩⟩⟩⟩⟩⟩⟩
theorem zi_ok77 : ZIok Try.prog 77 [.arr 2 0 [] true, .arr 1 0 [] true] := ziok Try.type77 rfl (fun w M => FrL.cons' (Fr.nilF w M _ (by decide)) (FrL.cons' (Fr.nilF w M _ (by decide)) (FrL.nil' w M)))
theorem zi_ok81 : ZIok Try.prog 81 [.lit (.int .i64 0), .lit (.int .i64 0), .lit (.int .i64 0), .lit (.int .i64 0), .arr 5 0 [] true, .arr 1 0 [] true] := ziok Try.type81 rfl (fun w M => FrL.cons' (Fr.lit' w M _) (FrL.cons' (Fr.lit' w M _) (FrL.cons' (Fr.lit' w M _) (FrL.cons' (Fr.lit' w M _) (FrL.cons' (Fr.nilF w M _ (by decide)) (FrL.cons' (Fr.nilF w M _ (by decide)) (FrL.nil' w M)))))))
theorem zi_ok90 : ZIok Try.prog 90 [.arr 2 0 [] true, .lit (.int .i64 0)] := ziok Try.type90 rfl (fun w M => FrL.cons' (Fr.nilF w M _ (by decide)) (FrL.cons' (Fr.lit' w M _) (FrL.nil' w M)))
theorem dz_ok77 : DZok Try.prog 77 (DEnc.cells (T_impl_Table.mk [] [])) := dzok Try.type77 rfl (fun w M => OwL.cons' (Ow.nilF w M _ (by decide)) (OwL.cons' (Ow.nilF w M _ (by decide)) (OwL.nil' w M)))
theorem dz_ok81 : DZok Try.prog 81 (DEnc.cells (T_impl_Step.mk 0 0 0 0 [] [])) := dzok Try.type81 rfl (fun w M => OwL.cons' (Ow.lit' w M _) (OwL.cons' (Ow.lit' w M _) (OwL.cons' (Ow.lit' w M _) (OwL.cons' (Ow.lit' w M _) (OwL.cons' (Ow.nilF w M _ (by decide)) (OwL.cons' (Ow.nilF w M _ (by decide)) (OwL.nil' w M)))))))
theorem dz_ok111 : DZok Try.prog 111 (DEnc.cells ([] : List T_impl_Value)) := dzok Try.type111 rfl (fun w M => OwL.cons' (Ow.nilF w M _ (by decide)) (OwL.nil' w M))
theorem v {Γ : Ctx} {ops : Array Oper} {Q : Exit → St → Prop} {j : Nat} {st : St} (n : Nat) (nt : Nat) (T : List (Nat × V)) (H : Hp) (hk : opsP Try.prog Γ ops Q (j + n) ⟨nt, T, H⟩) (h : (evS τ [] ops n j st).map (fun s => s.keep (T.map (·.1))) = some ⟨nt, T, H⟩ := by kernel_rfl) : opsP Try.prog Γ ops Q j st := opsP_evk' (st' := ⟨nt, T, H⟩) τ_ok [] n (T.map (·.1)) h hk
theorem vM {Γ : Ctx} {ops : Array Oper} {Q : Exit → St → Prop} {j : Nat} {st : St} (mu : List Nat) (n : Nat) (nt : Nat) (T : List (Nat × V)) (H : Hp) (hk : opsP Try.prog Γ ops Q (j + n) ⟨nt, T, H⟩) (h : (evS τ mu ops n j st).map (fun s => s.keep (T.map (·.1))) = some ⟨nt, T, H⟩ := by kernel_rfl) : opsP Try.prog Γ ops Q j st := opsP_evk' (st' := ⟨nt, T, H⟩) τ_ok mu n (T.map (·.1)) h hk
theorem ve {Γ : Ctx} {ops : Array Oper} {Q : Exit → St → Prop} {j : Nat} {st : St} (n : Nat) (nt : Nat) (T : List (Nat × V)) (H : Hp) (hk : Q .normal ⟨nt, T, H⟩) (h : (evS τ [] ops n j st).map (fun s => s.keep (T.map (·.1))) = some ⟨nt, T, H⟩ := by kernel_rfl) (he : ops.size = j + n := by rfl) : opsP Try.prog Γ ops Q j st := opsP_evk' (st' := ⟨nt, T, H⟩) τ_ok [] n (T.map (·.1)) h (opsP_end he hk)
theorem veM {Γ : Ctx} {ops : Array Oper} {Q : Exit → St → Prop} {j : Nat} {st : St} (mu : List Nat) (n : Nat) (nt : Nat) (T : List (Nat × V)) (H : Hp) (hk : Q .normal ⟨nt, T, H⟩) (h : (evS τ mu ops n j st).map (fun s => s.keep (T.map (·.1))) = some ⟨nt, T, H⟩ := by kernel_rfl) (he : ops.size = j + n := by rfl) : opsP Try.prog Γ ops Q j st := opsP_evk' (st' := ⟨nt, T, H⟩) τ_ok mu n (T.map (·.1)) h (opsP_end he hk)
theorem rv {Γ : Ctx} {ops : Array Oper} {Q : Exit → St → Prop} {id : Nat} {st : St} (n : Nat) (nt : Nat) (T : List (Nat × V)) (H : Hp) (hk : opsP Try.prog Γ ops Q (0 + n) ⟨nt, T, H⟩) (h : (evS τ [] ops n 0 st).map (fun s => s.keep (T.map (·.1))) = some ⟨nt, T, H⟩ := by kernel_rfl) : pwp Try.prog Γ (.region id ops false) Q st := pwp_region (opsP_evk' (st' := ⟨nt, T, H⟩) τ_ok [] n (T.map (·.1)) h hk)
theorem rvM {Γ : Ctx} {ops : Array Oper} {Q : Exit → St → Prop} {id : Nat} {st : St} (mu : List Nat) (n : Nat) (nt : Nat) (T : List (Nat × V)) (H : Hp) (hk : opsP Try.prog Γ ops Q (0 + n) ⟨nt, T, H⟩) (h : (evS τ mu ops n 0 st).map (fun s => s.keep (T.map (·.1))) = some ⟨nt, T, H⟩ := by kernel_rfl) : pwp Try.prog Γ (.region id ops false) Q st := pwp_region (opsP_evk' (st' := ⟨nt, T, H⟩) τ_ok mu n (T.map (·.1)) h hk)
theorem rve {Γ : Ctx} {ops : Array Oper} {Q : Exit → St → Prop} {id : Nat} {st : St} (nt : Nat) (T : List (Nat × V)) (H : Hp) (hk : Q .normal ⟨nt, T, H⟩) (h : (evS τ [] ops ops.size 0 st).map (fun s => s.keep (T.map (·.1))) = some ⟨nt, T, H⟩ := by kernel_rfl) : pwp Try.prog Γ (.region id ops false) Q st := pwp_region (opsP_evk' (st' := ⟨nt, T, H⟩) τ_ok [] ops.size (T.map (·.1)) h (opsP_end (Nat.zero_add _).symm hk))
theorem rveM {Γ : Ctx} {ops : Array Oper} {Q : Exit → St → Prop} {id : Nat} {st : St} (mu : List Nat) (nt : Nat) (T : List (Nat × V)) (H : Hp) (hk : Q .normal ⟨nt, T, H⟩) (h : (evS τ mu ops ops.size 0 st).map (fun s => s.keep (T.map (·.1))) = some ⟨nt, T, H⟩ := by kernel_rfl) : pwp Try.prog Γ (.region id ops false) Q st := pwp_region (opsP_evk' (st' := ⟨nt, T, H⟩) τ_ok mu ops.size (T.map (·.1)) h (opsP_end (Nat.zero_add _).symm hk))
theorem srv {Γ : Ctx} {ops : Array Oper} {Q : Exit → St → Prop} {id : Nat} {y : Code} {st : St} (n : Nat) (nt : Nat) (T : List (Nat × V)) (H : Hp) (hk : opsP Try.prog Γ ops (Dthen (fun st' => pwp Try.prog Γ y Q st') Q) (0 + n) ⟨nt, T, H⟩) (h : (evS τ [] ops n 0 st).map (fun s => s.keep (T.map (·.1))) = some ⟨nt, T, H⟩ := by kernel_rfl) : pwp Try.prog Γ (.seq (.region id ops false) y) Q st := pwp_seq (pwp_region (opsP_evk' (st' := ⟨nt, T, H⟩) τ_ok [] n (T.map (·.1)) h hk))
theorem srvM {Γ : Ctx} {ops : Array Oper} {Q : Exit → St → Prop} {id : Nat} {y : Code} {st : St} (mu : List Nat) (n : Nat) (nt : Nat) (T : List (Nat × V)) (H : Hp) (hk : opsP Try.prog Γ ops (Dthen (fun st' => pwp Try.prog Γ y Q st') Q) (0 + n) ⟨nt, T, H⟩) (h : (evS τ mu ops n 0 st).map (fun s => s.keep (T.map (·.1))) = some ⟨nt, T, H⟩ := by kernel_rfl) : pwp Try.prog Γ (.seq (.region id ops false) y) Q st := pwp_seq (pwp_region (opsP_evk' (st' := ⟨nt, T, H⟩) τ_ok mu n (T.map (·.1)) h hk))
theorem srve {Γ : Ctx} {ops : Array Oper} {Q : Exit → St → Prop} {id : Nat} {y : Code} {st : St} (nt : Nat) (T : List (Nat × V)) (H : Hp) (hk : pwp Try.prog Γ y Q ⟨nt, T, H⟩) (h : (evS τ [] ops ops.size 0 st).map (fun s => s.keep (T.map (·.1))) = some ⟨nt, T, H⟩ := by kernel_rfl) : pwp Try.prog Γ (.seq (.region id ops false) y) Q st := pwp_seq (pwp_region (opsP_evk' (st' := ⟨nt, T, H⟩) τ_ok [] ops.size (T.map (·.1)) h (opsP_end (Nat.zero_add _).symm hk)))
theorem srveM {Γ : Ctx} {ops : Array Oper} {Q : Exit → St → Prop} {id : Nat} {y : Code} {st : St} (mu : List Nat) (nt : Nat) (T : List (Nat × V)) (H : Hp) (hk : pwp Try.prog Γ y Q ⟨nt, T, H⟩) (h : (evS τ mu ops ops.size 0 st).map (fun s => s.keep (T.map (·.1))) = some ⟨nt, T, H⟩ := by kernel_rfl) : pwp Try.prog Γ (.seq (.region id ops false) y) Q st := pwp_seq (pwp_region (opsP_evk' (st' := ⟨nt, T, H⟩) τ_ok mu ops.size (T.map (·.1)) h (opsP_end (Nat.zero_add _).symm hk)))
theorem pc {α : Type} {Γ : Ctx} {Q : Exit → St → Prop} {st : St} {o : Operand} {c d : Code} {e : Bool} {a b : Option α} {x : Option α} (h : (bif e then a else b) = x) (ht : a = x → pwp Try.prog Γ c Q st) (hf : b = x → pwp Try.prog Γ d Q st) (hc : evalV st o = some (.lit (.bool e)) := by kernel_rfl) : pwp Try.prog Γ (.cond o c d) Q st := pwp_cond e hc (fun q => ht (bifT q h)) (fun q => hf (bifF q h))
theorem rz {fn : Func} {out : V} {st : St} (hx : resV τ st fn.results.toList = some out := by kernel_rfl) (hz : frz out = true := by kernel_rfl) : Qret τ fn out .ret st := ⟨.inr rfl, out, [], hx, OutP.frz hz, List.nodup_nil⟩
theorem rt {fn : Func} {out : V} {st : St} (x : V) {ks : List Nat} (ho : OutP st.H x out ks) (hx : resV τ st fn.results.toList = some x := by kernel_rfl) (hn : ks.Nodup := by decide) : Qret τ fn out .ret st := ⟨.inr rfl, x, ks, hx, ho, hn⟩
theorem si {α : Type} {a b : α} (h : some a = some b) : a = b := Option.some.inj h
theorem fk (b : Bool) : b = true ∨ b = false := Bool.eq_false_or_eq_true b
theorem bT {α : Type} {c : Bool} {a b x : α} (hc : c = true) (h : (bif c then a else b) = x) : a = x := bifT hc h
theorem bF {α : Type} {c : Bool} {a b x : α} (hc : c = false) (h : (bif c then a else b) = x) : b = x := bifF hc h
end Go.D
