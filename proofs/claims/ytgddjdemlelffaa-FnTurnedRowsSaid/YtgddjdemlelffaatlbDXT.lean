import Derived.Test.YtgddjdemlelffaatlbDFz
import Derived.Test.YtgddjdemlelffaatlbDClr
import Derived.Test.YtgddjdemlelffaaProg
import Derived.KernelRfl
set_option linter.unusedVariables false
set_option linter.unusedSimpArgs false
namespace Go.D
open Go.Proofs
structure T_impl_Value where
 fKind : Int
 fN : Int
 fS : ByteArray
instance : Enc T_impl_Value := ⟨3, fun x => [I x.fKind, I x.fN, S x.fS], true, fun _ => rfl, by decide, fun _ => rfl, fun _ => rfl⟩
structure T_impl_Delta where
 fRow : List T_impl_Value
 fMany : Int
instance : Enc T_impl_Delta := ⟨2, fun x => [A x.fRow, I x.fMany], true, fun _ => rfl, by decide, fun _ => rfl, fun _ => rfl⟩
structure T_impl_Change where
 fIn : Int
 fRow : List T_impl_Value
 fCome : Bool
instance : Enc T_impl_Change := ⟨3, fun x => [I x.fIn, A x.fRow, B x.fCome], true, fun _ => rfl, by decide, fun _ => rfl, fun _ => rfl⟩
structure T_impl_Version where
 fKey : Int
 fBorn : Int
 fDied : Int
 fRow : List T_impl_Value
instance : Enc T_impl_Version := ⟨4, fun x => [I x.fKey, I x.fBorn, I x.fDied, A x.fRow], true, fun _ => rfl, by decide, fun _ => rfl, fun _ => rfl⟩
structure T_impl_Write where
 fKey : Int
 fRow : List T_impl_Value
 fGone : Bool
instance : Enc T_impl_Write := ⟨3, fun x => [I x.fKey, A x.fRow, B x.fGone], true, fun _ => rfl, by decide, fun _ => rfl, fun _ => rfl⟩
structure T_impl_Txn where
 fState : Int
 fBegin : Int
 fEnd : Int
 fReads : List Int
 fWrites : List T_impl_Write
instance : Enc T_impl_Txn := ⟨5, fun x => [I x.fState, I x.fBegin, I x.fEnd, A x.fReads, A x.fWrites], true, fun _ => rfl, by decide, fun _ => rfl, fun _ => rfl⟩
structure T_impl_House where
 fList : List T_impl_Version
 fClock : Int
 fTxns : List T_impl_Txn
instance : Enc T_impl_House := ⟨3, fun x => [A x.fList, I x.fClock, A x.fTxns], true, fun _ => rfl, by decide, fun _ => rfl, fun _ => rfl⟩
structure T_impl_Edge where
 fFrom : Int
 fTo : Int
 fKind : Int
instance : Enc T_impl_Edge := ⟨3, fun x => [I x.fFrom, I x.fTo, I x.fKind], true, fun _ => rfl, by decide, fun _ => rfl, fun _ => rfl⟩
structure T_impl_Tally where
 fKey : List T_impl_Value
 fRows : Int
 fMany : Int
 fSum : Int
instance : Enc T_impl_Tally := ⟨4, fun x => [A x.fKey, I x.fRows, I x.fMany, I x.fSum], true, fun _ => rfl, by decide, fun _ => rfl, fun _ => rfl⟩
structure T_laws_Value where
 fKind : Int
 fN : Int
 fS : ByteArray
instance : Enc T_laws_Value := ⟨3, fun x => [I x.fKind, I x.fN, S x.fS], true, fun _ => rfl, by decide, fun _ => rfl, fun _ => rfl⟩
structure T_laws_Tally where
 fKey : List T_laws_Value
 fRows : Int
 fMany : Int
 fSum : Int
instance : Enc T_laws_Tally := ⟨4, fun x => [A x.fKey, I x.fRows, I x.fMany, I x.fSum], true, fun _ => rfl, by decide, fun _ => rfl, fun _ => rfl⟩
structure T_laws_Delta where
 fRow : List T_laws_Value
 fMany : Int
instance : Enc T_laws_Delta := ⟨2, fun x => [A x.fRow, I x.fMany], true, fun _ => rfl, by decide, fun _ => rfl, fun _ => rfl⟩
structure T_spec_l20Rd where
 fB : List UInt8
 fP : Int
instance : Enc T_spec_l20Rd := ⟨2, fun x => [A x.fB, I x.fP], true, fun _ => rfl, by decide, fun _ => rfl, fun _ => rfl⟩
structure T_impl_Column where
 fKind : Int
 fEmpty : Bool
instance : Enc T_impl_Column := ⟨2, fun x => [I x.fKind, B x.fEmpty], true, fun _ => rfl, by decide, fun _ => rfl, fun _ => rfl⟩
structure T_impl_Move where
 fKind : Int
 fWho : Int
 fKey : Int
 fRow : List T_impl_Value
instance : Enc T_impl_Move := ⟨4, fun x => [I x.fKind, I x.fWho, I x.fKey, A x.fRow], true, fun _ => rfl, by decide, fun _ => rfl, fun _ => rfl⟩
def eq_T_impl_Value (x y : T_impl_Value) : Bool := andB [x.fKind == y.fKind, x.fN == y.fN, x.fS.toList == y.fS.toList]
instance : DFlat T_impl_Value := ⟨fun _ => rfl⟩
instance : DEnc T_impl_Delta := ⟨fun x => [O x.fRow, I x.fMany], fun _ => rfl, fun x => (FzToL.cons (FzTo.O _) (FzToL.cons (FzTo.lit _) FzToL.nil)), fun _ => rfl⟩
instance : DNest T_impl_Delta := ⟨⟩
instance : DOne T_impl_Delta := ⟨fun _ => rfl⟩
instance : DBl T_impl_Delta := ⟨fun x => (BlindL.cons (Blind.O DFlat.lit _) (BlindL.cons (Blind.lit _) BlindL.nil))⟩
instance : DEnc T_impl_Change := ⟨fun x => [I x.fIn, O x.fRow, B x.fCome], fun _ => rfl, fun x => (FzToL.cons (FzTo.lit _) (FzToL.cons (FzTo.O _) (FzToL.cons (FzTo.lit _) FzToL.nil))), fun _ => rfl⟩
instance : DNest T_impl_Change := ⟨⟩
instance : DOne T_impl_Change := ⟨fun _ => rfl⟩
instance : DBl T_impl_Change := ⟨fun x => (BlindL.cons (Blind.lit _) (BlindL.cons (Blind.O DFlat.lit _) (BlindL.cons (Blind.lit _) BlindL.nil)))⟩
instance : DEnc T_impl_Version := ⟨fun x => [I x.fKey, I x.fBorn, I x.fDied, O x.fRow], fun _ => rfl, fun x => (FzToL.cons (FzTo.lit _) (FzToL.cons (FzTo.lit _) (FzToL.cons (FzTo.lit _) (FzToL.cons (FzTo.O _) FzToL.nil)))), fun _ => rfl⟩
instance : DNest T_impl_Version := ⟨⟩
instance : DOne T_impl_Version := ⟨fun _ => rfl⟩
instance : DBl T_impl_Version := ⟨fun x => (BlindL.cons (Blind.lit _) (BlindL.cons (Blind.lit _) (BlindL.cons (Blind.lit _) (BlindL.cons (Blind.O DFlat.lit _) BlindL.nil))))⟩
instance : DEnc T_impl_Write := ⟨fun x => [I x.fKey, O x.fRow, B x.fGone], fun _ => rfl, fun x => (FzToL.cons (FzTo.lit _) (FzToL.cons (FzTo.O _) (FzToL.cons (FzTo.lit _) FzToL.nil))), fun _ => rfl⟩
instance : DNest T_impl_Write := ⟨⟩
instance : DOne T_impl_Write := ⟨fun _ => rfl⟩
instance : DBl T_impl_Write := ⟨fun x => (BlindL.cons (Blind.lit _) (BlindL.cons (Blind.O DFlat.lit _) (BlindL.cons (Blind.lit _) BlindL.nil)))⟩
instance : DEnc T_impl_Txn := ⟨fun x => [I x.fState, I x.fBegin, I x.fEnd, O x.fReads, OD x.fWrites], fun _ => rfl, fun x => (FzToL.cons (FzTo.lit _) (FzToL.cons (FzTo.lit _) (FzToL.cons (FzTo.lit _) (FzToL.cons (FzTo.O _) (FzToL.cons (FzTo.OD _) FzToL.nil))))), fun _ => rfl⟩
instance : DNest T_impl_Txn := ⟨⟩
instance : DOne T_impl_Txn := ⟨fun _ => rfl⟩
instance : DBl T_impl_Txn := ⟨fun x => (BlindL.cons (Blind.lit _) (BlindL.cons (Blind.lit _) (BlindL.cons (Blind.lit _) (BlindL.cons (Blind.O DFlat.lit _) (BlindL.cons (Blind.OD _) BlindL.nil)))))⟩
instance : DEnc T_impl_House := ⟨fun x => [OD x.fList, I x.fClock, OD x.fTxns], fun _ => rfl, fun x => (FzToL.cons (FzTo.OD _) (FzToL.cons (FzTo.lit _) (FzToL.cons (FzTo.OD _) FzToL.nil))), fun _ => rfl⟩
instance : DNest T_impl_House := ⟨⟩
instance : DOne T_impl_House := ⟨fun _ => rfl⟩
instance : DBl T_impl_House := ⟨fun x => (BlindL.cons (Blind.OD _) (BlindL.cons (Blind.lit _) (BlindL.cons (Blind.OD _) BlindL.nil)))⟩
instance : DFlat T_impl_Edge := ⟨fun _ => rfl⟩
instance : DEnc T_impl_Tally := ⟨fun x => [O x.fKey, I x.fRows, I x.fMany, I x.fSum], fun _ => rfl, fun x => (FzToL.cons (FzTo.O _) (FzToL.cons (FzTo.lit _) (FzToL.cons (FzTo.lit _) (FzToL.cons (FzTo.lit _) FzToL.nil)))), fun _ => rfl⟩
instance : DNest T_impl_Tally := ⟨⟩
instance : DOne T_impl_Tally := ⟨fun _ => rfl⟩
instance : DBl T_impl_Tally := ⟨fun x => (BlindL.cons (Blind.O DFlat.lit _) (BlindL.cons (Blind.lit _) (BlindL.cons (Blind.lit _) (BlindL.cons (Blind.lit _) BlindL.nil))))⟩
instance : DFlat T_laws_Value := ⟨fun _ => rfl⟩
instance : DEnc T_laws_Tally := ⟨fun x => [O x.fKey, I x.fRows, I x.fMany, I x.fSum], fun _ => rfl, fun x => (FzToL.cons (FzTo.O _) (FzToL.cons (FzTo.lit _) (FzToL.cons (FzTo.lit _) (FzToL.cons (FzTo.lit _) FzToL.nil)))), fun _ => rfl⟩
instance : DNest T_laws_Tally := ⟨⟩
instance : DOne T_laws_Tally := ⟨fun _ => rfl⟩
instance : DBl T_laws_Tally := ⟨fun x => (BlindL.cons (Blind.O DFlat.lit _) (BlindL.cons (Blind.lit _) (BlindL.cons (Blind.lit _) (BlindL.cons (Blind.lit _) BlindL.nil))))⟩
instance : DEnc T_laws_Delta := ⟨fun x => [O x.fRow, I x.fMany], fun _ => rfl, fun x => (FzToL.cons (FzTo.O _) (FzToL.cons (FzTo.lit _) FzToL.nil)), fun _ => rfl⟩
instance : DNest T_laws_Delta := ⟨⟩
instance : DOne T_laws_Delta := ⟨fun _ => rfl⟩
instance : DBl T_laws_Delta := ⟨fun x => (BlindL.cons (Blind.O DFlat.lit _) (BlindL.cons (Blind.lit _) BlindL.nil))⟩
instance : DEnc T_spec_l20Rd := ⟨fun x => [O x.fB, I x.fP], fun _ => rfl, fun x => (FzToL.cons (FzTo.O _) (FzToL.cons (FzTo.lit _) FzToL.nil)), fun _ => rfl⟩
instance : DNest T_spec_l20Rd := ⟨⟩
instance : DOne T_spec_l20Rd := ⟨fun _ => rfl⟩
instance : DBl T_spec_l20Rd := ⟨fun x => (BlindL.cons (Blind.O DFlat.lit _) (BlindL.cons (Blind.lit _) BlindL.nil))⟩
instance : DFlat T_impl_Column := ⟨fun _ => rfl⟩
instance : DEnc T_impl_Move := ⟨fun x => [I x.fKind, I x.fWho, I x.fKey, O x.fRow], fun _ => rfl, fun x => (FzToL.cons (FzTo.lit _) (FzToL.cons (FzTo.lit _) (FzToL.cons (FzTo.lit _) (FzToL.cons (FzTo.O _) FzToL.nil)))), fun _ => rfl⟩
instance : DNest T_impl_Move := ⟨⟩
instance : DOne T_impl_Move := ⟨fun _ => rfl⟩
instance : DBl T_impl_Move := ⟨fun x => (BlindL.cons (Blind.lit _) (BlindL.cons (Blind.lit _) (BlindL.cons (Blind.lit _) (BlindL.cons (Blind.O DFlat.lit _) BlindL.nil))))⟩
theorem tab_ok2 : TIok Try.prog 2 ⟨.int .i64, 1, 8, [.lit (.int .i64 0)], false⟩ := tiok Try.type2 Try.underlying2 rfl rfl rfl (fun w M => FrL.cons' (Fr.lit' w M _) (FrL.nil' w M)) (fun fs h => by cases h) (rfl) (fun h => by cases h)
theorem tab_ok3 : TIok Try.prog 3 ⟨.int .i64, 1, 8, [.lit (.int .i64 0)], false⟩ := tiok Try.type3 Try.underlying3 rfl rfl rfl (fun w M => FrL.cons' (Fr.lit' w M _) (FrL.nil' w M)) (fun fs h => by cases h) (rfl) (fun h => by cases h)
theorem tab_ok4 : TIok Try.prog 4 ⟨.bool, 1, 1, [.lit (.bool false)], false⟩ := tiok Try.type4 Try.underlying4 rfl rfl rfl (fun w M => FrL.cons' (Fr.lit' w M _) (FrL.nil' w M)) (fun fs h => by cases h) (rfl) (fun h => by cases h)
theorem tab_ok5 : TIok Try.prog 5 ⟨.int .u8, 1, 1, [.lit (.int .u8 0)], false⟩ := tiok Try.type5 Try.underlying5 rfl rfl rfl (fun w M => FrL.cons' (Fr.lit' w M _) (FrL.nil' w M)) (fun fs h => by cases h) (rfl) (fun h => by cases h)
theorem tab_ok7 : TIok Try.prog 7 ⟨.struct [(2, 0), (3, 1), (4, 2), (6, 3)], 4, 24, [.lit (.int .i64 0), .lit (.int .i64 0), .lit (.bool false), .lit (.int .u8 0)], false⟩ := tiok Try.type7 Try.underlying7 rfl rfl rfl (fun w M => FrL.cons' (Fr.lit' w M _) (FrL.cons' (Fr.lit' w M _) (FrL.cons' (Fr.lit' w M _) (FrL.cons' (Fr.lit' w M _) (FrL.nil' w M))))) (fun fs h => ⟨_, rfl⟩) (⟨_, rfl, rfl⟩) (fun h => by cases h)
theorem tab_ok9 : TIok Try.prog 9 ⟨.str, 1, 16, [.lit (.string ⟨#[]⟩)], false⟩ := tiok Try.type9 Try.underlying9 rfl rfl rfl (fun w M => FrL.cons' (Fr.lit' w M _) (FrL.nil' w M)) (fun fs h => by cases h) (rfl) (fun h => by cases h)
theorem tab_ok12 : TIok Try.prog 12 ⟨.int .u64, 1, 8, [.lit (.int .u64 0)], false⟩ := tiok Try.type12 Try.underlying12 rfl rfl rfl (fun w M => FrL.cons' (Fr.lit' w M _) (FrL.nil' w M)) (fun fs h => by cases h) (rfl) (fun h => by cases h)
theorem tab_ok15 : TIok Try.prog 15 ⟨.ptr 221, 1, 8, [.lit (.pointer none)], false⟩ := tiok Try.type15 Try.underlying15 rfl rfl rfl (fun w M => FrL.cons' (Fr.lit' w M _) (FrL.nil' w M)) (fun fs h => by cases h) (rfl) (fun h => by cases h)
theorem tab_ok16 : TIok Try.prog 16 ⟨.ptr 224, 1, 8, [.lit (.pointer none)], false⟩ := tiok Try.type16 Try.underlying16 rfl rfl rfl (fun w M => FrL.cons' (Fr.lit' w M _) (FrL.nil' w M)) (fun fs h => by cases h) (rfl) (fun h => by cases h)
theorem tab_ok17 : TIok Try.prog 17 ⟨.ptr 234, 1, 8, [.lit (.pointer none)], false⟩ := tiok Try.type17 Try.underlying17 rfl rfl rfl (fun w M => FrL.cons' (Fr.lit' w M _) (FrL.nil' w M)) (fun fs h => by cases h) (rfl) (fun h => by cases h)
theorem tab_ok22 : TIok Try.prog 22 ⟨.slice 5, 1, 24, [.arr 1 0 [] false], false⟩ := tiok Try.type22 Try.underlying22 rfl rfl rfl (fun w M => FrL.cons' (Fr.nil w M _ (by decide)) (FrL.nil' w M)) (fun fs h => by cases h) (rfl) (fun h => by cases h)
theorem tab_ok23 : TIok Try.prog 23 ⟨.slice 29, 1, 24, [.arr 1 0 [] false], false⟩ := tiok Try.type23 Try.underlying23 rfl rfl rfl (fun w M => FrL.cons' (Fr.nil w M _ (by decide)) (FrL.nil' w M)) (fun fs h => by cases h) (rfl) (fun h => by cases h)
theorem tab_ok26 : TIok Try.prog 26 ⟨.slice 31, 1, 24, [.arr 2 0 [] false], false⟩ := tiok Try.type26 Try.underlying26 rfl rfl rfl (fun w M => FrL.cons' (Fr.nil w M _ (by decide)) (FrL.nil' w M)) (fun fs h => by cases h) (rfl) (fun h => by cases h)
theorem tab_ok29 : TIok Try.prog 29 ⟨.slice 84, 1, 24, [.arr 3 0 [] false], false⟩ := tiok Try.type29 Try.underlying29 rfl rfl rfl (fun w M => FrL.cons' (Fr.nil w M _ (by decide)) (FrL.nil' w M)) (fun fs h => by cases h) (rfl) (fun h => by cases h)
theorem tab_ok30 : TIok Try.prog 30 ⟨.struct [(29, 0), (3, 1)], 2, 32, [.arr 3 0 [] false, .lit (.int .i64 0)], false⟩ := tiok Try.type30 Try.underlying30 rfl rfl rfl (fun w M => FrL.cons' (Fr.nil w M _ (by decide)) (FrL.cons' (Fr.lit' w M _) (FrL.nil' w M))) (fun fs h => ⟨_, rfl⟩) (⟨_, rfl, rfl⟩) (fun h => by cases h)
theorem tab_ok31 : TIok Try.prog 31 ⟨.struct [(29, 0), (3, 1)], 2, 32, [.arr 3 0 [] false, .lit (.int .i64 0)], false⟩ := tiok Try.type31 Try.underlying31 rfl rfl rfl (fun w M => FrL.cons' (Fr.nil w M _ (by decide)) (FrL.cons' (Fr.lit' w M _) (FrL.nil' w M))) (fun fs h => ⟨_, rfl⟩) (⟨_, rfl, rfl⟩) (fun h => by cases h)
theorem tab_ok42 : TIok Try.prog 42 ⟨.slice 100, 1, 24, [.arr 4 0 [] false], false⟩ := tiok Try.type42 Try.underlying42 rfl rfl rfl (fun w M => FrL.cons' (Fr.nil w M _ (by decide)) (FrL.nil' w M)) (fun fs h => by cases h) (rfl) (fun h => by cases h)
theorem tab_ok47 : TIok Try.prog 47 ⟨.slice 106, 1, 24, [.arr 4 0 [] false], false⟩ := tiok Try.type47 Try.underlying47 rfl rfl rfl (fun w M => FrL.cons' (Fr.nil w M _ (by decide)) (FrL.nil' w M)) (fun fs h => by cases h) (rfl) (fun h => by cases h)
theorem tab_ok48 : TIok Try.prog 48 ⟨.slice 109, 1, 24, [.arr 2 0 [] false], false⟩ := tiok Try.type48 Try.underlying48 rfl rfl rfl (fun w M => FrL.cons' (Fr.nil w M _ (by decide)) (FrL.nil' w M)) (fun fs h => by cases h) (rfl) (fun h => by cases h)
theorem tab_ok56 : TIok Try.prog 56 ⟨.slice 119, 1, 24, [.arr 4 0 [] false], false⟩ := tiok Try.type56 Try.underlying56 rfl rfl rfl (fun w M => FrL.cons' (Fr.nil w M _ (by decide)) (FrL.nil' w M)) (fun fs h => by cases h) (rfl) (fun h => by cases h)
theorem tab_ok59 : TIok Try.prog 59 ⟨.slice 62, 1, 24, [.arr 3 0 [] false], false⟩ := tiok Try.type59 Try.underlying59 rfl rfl rfl (fun w M => FrL.cons' (Fr.nil w M _ (by decide)) (FrL.nil' w M)) (fun fs h => by cases h) (rfl) (fun h => by cases h)
theorem tab_ok61 : TIok Try.prog 61 ⟨.struct [(3, 0), (29, 1), (4, 2)], 3, 40, [.lit (.int .i64 0), .arr 3 0 [] false, .lit (.bool false)], false⟩ := tiok Try.type61 Try.underlying61 rfl rfl rfl (fun w M => FrL.cons' (Fr.lit' w M _) (FrL.cons' (Fr.nil w M _ (by decide)) (FrL.cons' (Fr.lit' w M _) (FrL.nil' w M)))) (fun fs h => ⟨_, rfl⟩) (⟨_, rfl, rfl⟩) (fun h => by cases h)
theorem tab_ok62 : TIok Try.prog 62 ⟨.struct [(3, 0), (29, 1), (4, 2)], 3, 40, [.lit (.int .i64 0), .arr 3 0 [] false, .lit (.bool false)], false⟩ := tiok Try.type62 Try.underlying62 rfl rfl rfl (fun w M => FrL.cons' (Fr.lit' w M _) (FrL.cons' (Fr.nil w M _ (by decide)) (FrL.cons' (Fr.lit' w M _) (FrL.nil' w M)))) (fun fs h => ⟨_, rfl⟩) (⟨_, rfl, rfl⟩) (fun h => by cases h)
theorem tab_ok65 : TIok Try.prog 65 ⟨.slice 77, 1, 24, [.arr 5 0 [] false], false⟩ := tiok Try.type65 Try.underlying65 rfl rfl rfl (fun w M => FrL.cons' (Fr.nil w M _ (by decide)) (FrL.nil' w M)) (fun fs h => by cases h) (rfl) (fun h => by cases h)
theorem tab_ok66 : TIok Try.prog 66 ⟨.struct [(56, 0), (3, 1), (65, 2)], 3, 56, [.arr 4 0 [] false, .lit (.int .i64 0), .arr 5 0 [] false], false⟩ := tiok Try.type66 Try.underlying66 rfl rfl rfl (fun w M => FrL.cons' (Fr.nil w M _ (by decide)) (FrL.cons' (Fr.lit' w M _) (FrL.cons' (Fr.nil w M _ (by decide)) (FrL.nil' w M)))) (fun fs h => ⟨_, rfl⟩) (⟨_, rfl, rfl⟩) (fun h => by cases h)
theorem tab_ok67 : TIok Try.prog 67 ⟨.struct [(56, 0), (3, 1), (65, 2)], 3, 56, [.arr 4 0 [] false, .lit (.int .i64 0), .arr 5 0 [] false], false⟩ := tiok Try.type67 Try.underlying67 rfl rfl rfl (fun w M => FrL.cons' (Fr.nil w M _ (by decide)) (FrL.cons' (Fr.lit' w M _) (FrL.cons' (Fr.nil w M _ (by decide)) (FrL.nil' w M)))) (fun fs h => ⟨_, rfl⟩) (⟨_, rfl, rfl⟩) (fun h => by cases h)
theorem tab_ok69 : TIok Try.prog 69 ⟨.slice 73, 1, 24, [.arr 3 0 [] false], false⟩ := tiok Try.type69 Try.underlying69 rfl rfl rfl (fun w M => FrL.cons' (Fr.nil w M _ (by decide)) (FrL.nil' w M)) (fun fs h => by cases h) (rfl) (fun h => by cases h)
theorem tab_ok72 : TIok Try.prog 72 ⟨.struct [(3, 0), (3, 1), (3, 2)], 3, 24, [.lit (.int .i64 0), .lit (.int .i64 0), .lit (.int .i64 0)], false⟩ := tiok Try.type72 Try.underlying72 rfl rfl rfl (fun w M => FrL.cons' (Fr.lit' w M _) (FrL.cons' (Fr.lit' w M _) (FrL.cons' (Fr.lit' w M _) (FrL.nil' w M)))) (fun fs h => ⟨_, rfl⟩) (⟨_, rfl, rfl⟩) (fun h => by cases h)
theorem tab_ok73 : TIok Try.prog 73 ⟨.struct [(3, 0), (3, 1), (3, 2)], 3, 24, [.lit (.int .i64 0), .lit (.int .i64 0), .lit (.int .i64 0)], true⟩ := tiok Try.type73 Try.underlying73 rfl rfl rfl (fun w M => FrL.cons' (Fr.lit' w M _) (FrL.cons' (Fr.lit' w M _) (FrL.cons' (Fr.lit' w M _) (FrL.nil' w M)))) (fun fs h => ⟨_, rfl⟩) (⟨_, rfl, rfl⟩) (fun h => ⟨Try.stoodInHeld73, Try.eqGuardType73, by simp [Program.fieldsOf, Try.underlying73]⟩)
theorem tab_ok74 : TIok Try.prog 74 ⟨.slice 3, 1, 24, [.arr 1 0 [] false], false⟩ := tiok Try.type74 Try.underlying74 rfl rfl rfl (fun w M => FrL.cons' (Fr.nil w M _ (by decide)) (FrL.nil' w M)) (fun fs h => by cases h) (rfl) (fun h => by cases h)
theorem tab_ok75 : TIok Try.prog 75 ⟨.slice 185, 1, 24, [.arr 3 0 [] false], false⟩ := tiok Try.type75 Try.underlying75 rfl rfl rfl (fun w M => FrL.cons' (Fr.nil w M _ (by decide)) (FrL.nil' w M)) (fun fs h => by cases h) (rfl) (fun h => by cases h)
theorem tab_ok76 : TIok Try.prog 76 ⟨.struct [(3, 0), (3, 1), (3, 2), (74, 3), (75, 4)], 5, 72, [.lit (.int .i64 0), .lit (.int .i64 0), .lit (.int .i64 0), .arr 1 0 [] false, .arr 3 0 [] false], false⟩ := tiok Try.type76 Try.underlying76 rfl rfl rfl (fun w M => FrL.cons' (Fr.lit' w M _) (FrL.cons' (Fr.lit' w M _) (FrL.cons' (Fr.lit' w M _) (FrL.cons' (Fr.nil w M _ (by decide)) (FrL.cons' (Fr.nil w M _ (by decide)) (FrL.nil' w M)))))) (fun fs h => ⟨_, rfl⟩) (⟨_, rfl, rfl⟩) (fun h => by cases h)
theorem tab_ok77 : TIok Try.prog 77 ⟨.struct [(3, 0), (3, 1), (3, 2), (74, 3), (75, 4)], 5, 72, [.lit (.int .i64 0), .lit (.int .i64 0), .lit (.int .i64 0), .arr 1 0 [] false, .arr 3 0 [] false], false⟩ := tiok Try.type77 Try.underlying77 rfl rfl rfl (fun w M => FrL.cons' (Fr.lit' w M _) (FrL.cons' (Fr.lit' w M _) (FrL.cons' (Fr.lit' w M _) (FrL.cons' (Fr.nil w M _ (by decide)) (FrL.cons' (Fr.nil w M _ (by decide)) (FrL.nil' w M)))))) (fun fs h => ⟨_, rfl⟩) (⟨_, rfl, rfl⟩) (fun h => by cases h)
theorem tab_ok79 : TIok Try.prog 79 ⟨.ptr 131, 1, 8, [.lit (.pointer none)], false⟩ := tiok Try.type79 Try.underlying79 rfl rfl rfl (fun w M => FrL.cons' (Fr.lit' w M _) (FrL.nil' w M)) (fun fs h => by cases h) (rfl) (fun h => by cases h)
theorem tab_ok81 : TIok Try.prog 81 ⟨.func, 1, 8, [.lit .nilFunc], false⟩ := tiok Try.type81 Try.underlying81 rfl rfl rfl (fun w M => FrL.cons' (Fr.lit' w M _) (FrL.nil' w M)) (fun fs h => by cases h) (⟨_, _, _, rfl⟩) (fun h => by cases h)
theorem tab_ok83 : TIok Try.prog 83 ⟨.struct [(3, 0), (3, 1), (9, 2)], 3, 32, [.lit (.int .i64 0), .lit (.int .i64 0), .lit (.string ⟨#[]⟩)], false⟩ := tiok Try.type83 Try.underlying83 rfl rfl rfl (fun w M => FrL.cons' (Fr.lit' w M _) (FrL.cons' (Fr.lit' w M _) (FrL.cons' (Fr.lit' w M _) (FrL.nil' w M)))) (fun fs h => ⟨_, rfl⟩) (⟨_, rfl, rfl⟩) (fun h => by cases h)
theorem tab_ok84 : TIok Try.prog 84 ⟨.struct [(3, 0), (3, 1), (9, 2)], 3, 32, [.lit (.int .i64 0), .lit (.int .i64 0), .lit (.string ⟨#[]⟩)], true⟩ := tiok Try.type84 Try.underlying84 rfl rfl rfl (fun w M => FrL.cons' (Fr.lit' w M _) (FrL.cons' (Fr.lit' w M _) (FrL.cons' (Fr.lit' w M _) (FrL.nil' w M)))) (fun fs h => ⟨_, rfl⟩) (⟨_, rfl, rfl⟩) (fun h => ⟨Try.stoodInHeld84, Try.eqGuardType84, by simp [Program.fieldsOf, Try.underlying84]⟩)
theorem tab_ok87 : TIok Try.prog 87 ⟨.func, 1, 8, [.lit .nilFunc], false⟩ := tiok Try.type87 Try.underlying87 rfl rfl rfl (fun w M => FrL.cons' (Fr.lit' w M _) (FrL.nil' w M)) (fun fs h => by cases h) (⟨_, _, _, rfl⟩) (fun h => by cases h)
theorem tab_ok88 : TIok Try.prog 88 ⟨.func, 1, 8, [.lit .nilFunc], false⟩ := tiok Try.type88 Try.underlying88 rfl rfl rfl (fun w M => FrL.cons' (Fr.lit' w M _) (FrL.nil' w M)) (fun fs h => by cases h) (⟨_, _, _, rfl⟩) (fun h => by cases h)
theorem tab_ok90 : TIok Try.prog 90 ⟨.func, 1, 8, [.lit .nilFunc], false⟩ := tiok Try.type90 Try.underlying90 rfl rfl rfl (fun w M => FrL.cons' (Fr.lit' w M _) (FrL.nil' w M)) (fun fs h => by cases h) (⟨_, _, _, rfl⟩) (fun h => by cases h)
theorem tab_ok99 : TIok Try.prog 99 ⟨.struct [(29, 0), (3, 1), (3, 2), (3, 3)], 4, 48, [.arr 3 0 [] false, .lit (.int .i64 0), .lit (.int .i64 0), .lit (.int .i64 0)], false⟩ := tiok Try.type99 Try.underlying99 rfl rfl rfl (fun w M => FrL.cons' (Fr.nil w M _ (by decide)) (FrL.cons' (Fr.lit' w M _) (FrL.cons' (Fr.lit' w M _) (FrL.cons' (Fr.lit' w M _) (FrL.nil' w M))))) (fun fs h => ⟨_, rfl⟩) (⟨_, rfl, rfl⟩) (fun h => by cases h)
theorem tab_ok100 : TIok Try.prog 100 ⟨.struct [(29, 0), (3, 1), (3, 2), (3, 3)], 4, 48, [.arr 3 0 [] false, .lit (.int .i64 0), .lit (.int .i64 0), .lit (.int .i64 0)], false⟩ := tiok Try.type100 Try.underlying100 rfl rfl rfl (fun w M => FrL.cons' (Fr.nil w M _ (by decide)) (FrL.cons' (Fr.lit' w M _) (FrL.cons' (Fr.lit' w M _) (FrL.cons' (Fr.lit' w M _) (FrL.nil' w M))))) (fun fs h => ⟨_, rfl⟩) (⟨_, rfl, rfl⟩) (fun h => by cases h)
theorem tab_ok104 : TIok Try.prog 104 ⟨.slice 178, 1, 24, [.arr 3 0 [] false], false⟩ := tiok Try.type104 Try.underlying104 rfl rfl rfl (fun w M => FrL.cons' (Fr.nil w M _ (by decide)) (FrL.nil' w M)) (fun fs h => by cases h) (rfl) (fun h => by cases h)
theorem tab_ok105 : TIok Try.prog 105 ⟨.struct [(104, 0), (3, 1), (3, 2), (3, 3)], 4, 48, [.arr 3 0 [] false, .lit (.int .i64 0), .lit (.int .i64 0), .lit (.int .i64 0)], false⟩ := tiok Try.type105 Try.underlying105 rfl rfl rfl (fun w M => FrL.cons' (Fr.nil w M _ (by decide)) (FrL.cons' (Fr.lit' w M _) (FrL.cons' (Fr.lit' w M _) (FrL.cons' (Fr.lit' w M _) (FrL.nil' w M))))) (fun fs h => ⟨_, rfl⟩) (⟨_, rfl, rfl⟩) (fun h => by cases h)
theorem tab_ok106 : TIok Try.prog 106 ⟨.struct [(104, 0), (3, 1), (3, 2), (3, 3)], 4, 48, [.arr 3 0 [] false, .lit (.int .i64 0), .lit (.int .i64 0), .lit (.int .i64 0)], false⟩ := tiok Try.type106 Try.underlying106 rfl rfl rfl (fun w M => FrL.cons' (Fr.nil w M _ (by decide)) (FrL.cons' (Fr.lit' w M _) (FrL.cons' (Fr.lit' w M _) (FrL.cons' (Fr.lit' w M _) (FrL.nil' w M))))) (fun fs h => ⟨_, rfl⟩) (⟨_, rfl, rfl⟩) (fun h => by cases h)
theorem tab_ok108 : TIok Try.prog 108 ⟨.struct [(104, 0), (3, 1)], 2, 32, [.arr 3 0 [] false, .lit (.int .i64 0)], false⟩ := tiok Try.type108 Try.underlying108 rfl rfl rfl (fun w M => FrL.cons' (Fr.nil w M _ (by decide)) (FrL.cons' (Fr.lit' w M _) (FrL.nil' w M))) (fun fs h => ⟨_, rfl⟩) (⟨_, rfl, rfl⟩) (fun h => by cases h)
theorem tab_ok109 : TIok Try.prog 109 ⟨.struct [(104, 0), (3, 1)], 2, 32, [.arr 3 0 [] false, .lit (.int .i64 0)], false⟩ := tiok Try.type109 Try.underlying109 rfl rfl rfl (fun w M => FrL.cons' (Fr.nil w M _ (by decide)) (FrL.cons' (Fr.lit' w M _) (FrL.nil' w M))) (fun fs h => ⟨_, rfl⟩) (⟨_, rfl, rfl⟩) (fun h => by cases h)
theorem tab_ok118 : TIok Try.prog 118 ⟨.struct [(3, 0), (3, 1), (3, 2), (29, 3)], 4, 48, [.lit (.int .i64 0), .lit (.int .i64 0), .lit (.int .i64 0), .arr 3 0 [] false], false⟩ := tiok Try.type118 Try.underlying118 rfl rfl rfl (fun w M => FrL.cons' (Fr.lit' w M _) (FrL.cons' (Fr.lit' w M _) (FrL.cons' (Fr.lit' w M _) (FrL.cons' (Fr.nil w M _ (by decide)) (FrL.nil' w M))))) (fun fs h => ⟨_, rfl⟩) (⟨_, rfl, rfl⟩) (fun h => by cases h)
theorem tab_ok119 : TIok Try.prog 119 ⟨.struct [(3, 0), (3, 1), (3, 2), (29, 3)], 4, 48, [.lit (.int .i64 0), .lit (.int .i64 0), .lit (.int .i64 0), .arr 3 0 [] false], false⟩ := tiok Try.type119 Try.underlying119 rfl rfl rfl (fun w M => FrL.cons' (Fr.lit' w M _) (FrL.cons' (Fr.lit' w M _) (FrL.cons' (Fr.lit' w M _) (FrL.cons' (Fr.nil w M _ (by decide)) (FrL.nil' w M))))) (fun fs h => ⟨_, rfl⟩) (⟨_, rfl, rfl⟩) (fun h => by cases h)
theorem tab_ok127 : TIok Try.prog 127 ⟨.slice 140, 1, 24, [.arr 2 0 [] false], false⟩ := tiok Try.type127 Try.underlying127 rfl rfl rfl (fun w M => FrL.cons' (Fr.nil w M _ (by decide)) (FrL.nil' w M)) (fun fs h => by cases h) (rfl) (fun h => by cases h)
theorem tab_ok130 : TIok Try.prog 130 ⟨.struct [(22, 0), (3, 1)], 2, 32, [.arr 1 0 [] false, .lit (.int .i64 0)], false⟩ := tiok Try.type130 Try.underlying130 rfl rfl rfl (fun w M => FrL.cons' (Fr.nil w M _ (by decide)) (FrL.cons' (Fr.lit' w M _) (FrL.nil' w M))) (fun fs h => ⟨_, rfl⟩) (⟨_, rfl, rfl⟩) (fun h => by cases h)
theorem tab_ok131 : TIok Try.prog 131 ⟨.struct [(22, 0), (3, 1)], 2, 32, [.arr 1 0 [] false, .lit (.int .i64 0)], false⟩ := tiok Try.type131 Try.underlying131 rfl rfl rfl (fun w M => FrL.cons' (Fr.nil w M _ (by decide)) (FrL.cons' (Fr.lit' w M _) (FrL.nil' w M))) (fun fs h => ⟨_, rfl⟩) (⟨_, rfl, rfl⟩) (fun h => by cases h)
theorem tab_ok139 : TIok Try.prog 139 ⟨.struct [(3, 0), (4, 1)], 2, 16, [.lit (.int .i64 0), .lit (.bool false)], false⟩ := tiok Try.type139 Try.underlying139 rfl rfl rfl (fun w M => FrL.cons' (Fr.lit' w M _) (FrL.cons' (Fr.lit' w M _) (FrL.nil' w M))) (fun fs h => ⟨_, rfl⟩) (⟨_, rfl, rfl⟩) (fun h => by cases h)
theorem tab_ok140 : TIok Try.prog 140 ⟨.struct [(3, 0), (4, 1)], 2, 16, [.lit (.int .i64 0), .lit (.bool false)], false⟩ := tiok Try.type140 Try.underlying140 rfl rfl rfl (fun w M => FrL.cons' (Fr.lit' w M _) (FrL.cons' (Fr.lit' w M _) (FrL.nil' w M))) (fun fs h => ⟨_, rfl⟩) (⟨_, rfl, rfl⟩) (fun h => by cases h)
theorem tab_ok143 : TIok Try.prog 143 ⟨.func, 1, 8, [.lit .nilFunc], false⟩ := tiok Try.type143 Try.underlying143 rfl rfl rfl (fun w M => FrL.cons' (Fr.lit' w M _) (FrL.nil' w M)) (fun fs h => by cases h) (⟨_, _, _, rfl⟩) (fun h => by cases h)
theorem tab_ok145 : TIok Try.prog 145 ⟨.ptr 100, 1, 8, [.lit (.pointer none)], false⟩ := tiok Try.type145 Try.underlying145 rfl rfl rfl (fun w M => FrL.cons' (Fr.lit' w M _) (FrL.nil' w M)) (fun fs h => by cases h) (rfl) (fun h => by cases h)
theorem tab_ok165 : TIok Try.prog 165 ⟨.slice 23, 1, 24, [.arr 1 0 [] false], false⟩ := tiok Try.type165 Try.underlying165 rfl rfl rfl (fun w M => FrL.cons' (Fr.nil w M _ (by decide)) (FrL.nil' w M)) (fun fs h => by cases h) (rfl) (fun h => by cases h)
theorem tab_ok170 : TIok Try.prog 170 ⟨.func, 1, 8, [.lit .nilFunc], false⟩ := tiok Try.type170 Try.underlying170 rfl rfl rfl (fun w M => FrL.cons' (Fr.lit' w M _) (FrL.nil' w M)) (fun fs h => by cases h) (⟨_, _, _, rfl⟩) (fun h => by cases h)
theorem tab_ok175 : TIok Try.prog 175 ⟨.int .u64, 1, 8, [.lit (.int .u64 0)], false⟩ := tiok Try.type175 Try.underlying175 rfl rfl rfl (fun w M => FrL.cons' (Fr.lit' w M _) (FrL.nil' w M)) (fun fs h => by cases h) (rfl) (fun h => by cases h)
theorem tab_ok178 : TIok Try.prog 178 ⟨.struct [(3, 0), (3, 1), (9, 2)], 3, 32, [.lit (.int .i64 0), .lit (.int .i64 0), .lit (.string ⟨#[]⟩)], false⟩ := tiok Try.type178 Try.underlying178 rfl rfl rfl (fun w M => FrL.cons' (Fr.lit' w M _) (FrL.cons' (Fr.lit' w M _) (FrL.cons' (Fr.lit' w M _) (FrL.nil' w M)))) (fun fs h => ⟨_, rfl⟩) (⟨_, rfl, rfl⟩) (fun h => by cases h)
theorem tab_ok184 : TIok Try.prog 184 ⟨.struct [(3, 0), (29, 1), (4, 2)], 3, 40, [.lit (.int .i64 0), .arr 3 0 [] false, .lit (.bool false)], false⟩ := tiok Try.type184 Try.underlying184 rfl rfl rfl (fun w M => FrL.cons' (Fr.lit' w M _) (FrL.cons' (Fr.nil w M _ (by decide)) (FrL.cons' (Fr.lit' w M _) (FrL.nil' w M)))) (fun fs h => ⟨_, rfl⟩) (⟨_, rfl, rfl⟩) (fun h => by cases h)
theorem tab_ok185 : TIok Try.prog 185 ⟨.struct [(3, 0), (29, 1), (4, 2)], 3, 40, [.lit (.int .i64 0), .arr 3 0 [] false, .lit (.bool false)], false⟩ := tiok Try.type185 Try.underlying185 rfl rfl rfl (fun w M => FrL.cons' (Fr.lit' w M _) (FrL.cons' (Fr.nil w M _ (by decide)) (FrL.cons' (Fr.lit' w M _) (FrL.nil' w M)))) (fun fs h => ⟨_, rfl⟩) (⟨_, rfl, rfl⟩) (fun h => by cases h)
theorem tab_ok188 : TIok Try.prog 188 ⟨.slice 190, 1, 24, [.arr 4 0 [] false], false⟩ := tiok Try.type188 Try.underlying188 rfl rfl rfl (fun w M => FrL.cons' (Fr.nil w M _ (by decide)) (FrL.nil' w M)) (fun fs h => by cases h) (rfl) (fun h => by cases h)
theorem tab_ok189 : TIok Try.prog 189 ⟨.struct [(3, 0), (3, 1), (3, 2), (29, 3)], 4, 48, [.lit (.int .i64 0), .lit (.int .i64 0), .lit (.int .i64 0), .arr 3 0 [] false], false⟩ := tiok Try.type189 Try.underlying189 rfl rfl rfl (fun w M => FrL.cons' (Fr.lit' w M _) (FrL.cons' (Fr.lit' w M _) (FrL.cons' (Fr.lit' w M _) (FrL.cons' (Fr.nil w M _ (by decide)) (FrL.nil' w M))))) (fun fs h => ⟨_, rfl⟩) (⟨_, rfl, rfl⟩) (fun h => by cases h)
theorem tab_ok190 : TIok Try.prog 190 ⟨.struct [(3, 0), (3, 1), (3, 2), (29, 3)], 4, 48, [.lit (.int .i64 0), .lit (.int .i64 0), .lit (.int .i64 0), .arr 3 0 [] false], false⟩ := tiok Try.type190 Try.underlying190 rfl rfl rfl (fun w M => FrL.cons' (Fr.lit' w M _) (FrL.cons' (Fr.lit' w M _) (FrL.cons' (Fr.lit' w M _) (FrL.cons' (Fr.nil w M _ (by decide)) (FrL.nil' w M))))) (fun fs h => ⟨_, rfl⟩) (⟨_, rfl, rfl⟩) (fun h => by cases h)
theorem tab_ok196 : TIok Try.prog 196 ⟨.func, 1, 8, [.lit .nilFunc], false⟩ := tiok Try.type196 Try.underlying196 rfl rfl rfl (fun w M => FrL.cons' (Fr.lit' w M _) (FrL.nil' w M)) (fun fs h => by cases h) (⟨_, _, _, rfl⟩) (fun h => by cases h)
theorem tab_ok213 : TIok Try.prog 213 ⟨.slice 9, 1, 24, [.arr 1 0 [] false], false⟩ := tiok Try.type213 Try.underlying213 rfl rfl rfl (fun w M => FrL.cons' (Fr.nil w M _ (by decide)) (FrL.nil' w M)) (fun fs h => by cases h) (rfl) (fun h => by cases h)
def tab : List (Nat × TI) := [
 (2, ⟨.int .i64, 1, 8, [.lit (.int .i64 0)], false⟩),
 (3, ⟨.int .i64, 1, 8, [.lit (.int .i64 0)], false⟩),
 (4, ⟨.bool, 1, 1, [.lit (.bool false)], false⟩),
 (5, ⟨.int .u8, 1, 1, [.lit (.int .u8 0)], false⟩),
 (7, ⟨.struct [(2, 0), (3, 1), (4, 2), (6, 3)], 4, 24, [.lit (.int .i64 0), .lit (.int .i64 0), .lit (.bool false), .lit (.int .u8 0)], false⟩),
 (9, ⟨.str, 1, 16, [.lit (.string ⟨#[]⟩)], false⟩),
 (12, ⟨.int .u64, 1, 8, [.lit (.int .u64 0)], false⟩),
 (15, ⟨.ptr 221, 1, 8, [.lit (.pointer none)], false⟩),
 (16, ⟨.ptr 224, 1, 8, [.lit (.pointer none)], false⟩),
 (17, ⟨.ptr 234, 1, 8, [.lit (.pointer none)], false⟩),
 (22, ⟨.slice 5, 1, 24, [.arr 1 0 [] false], false⟩),
 (23, ⟨.slice 29, 1, 24, [.arr 1 0 [] false], false⟩),
 (26, ⟨.slice 31, 1, 24, [.arr 2 0 [] false], false⟩),
 (29, ⟨.slice 84, 1, 24, [.arr 3 0 [] false], false⟩),
 (30, ⟨.struct [(29, 0), (3, 1)], 2, 32, [.arr 3 0 [] false, .lit (.int .i64 0)], false⟩),
 (31, ⟨.struct [(29, 0), (3, 1)], 2, 32, [.arr 3 0 [] false, .lit (.int .i64 0)], false⟩),
 (42, ⟨.slice 100, 1, 24, [.arr 4 0 [] false], false⟩),
 (47, ⟨.slice 106, 1, 24, [.arr 4 0 [] false], false⟩),
 (48, ⟨.slice 109, 1, 24, [.arr 2 0 [] false], false⟩),
 (56, ⟨.slice 119, 1, 24, [.arr 4 0 [] false], false⟩),
 (59, ⟨.slice 62, 1, 24, [.arr 3 0 [] false], false⟩),
 (61, ⟨.struct [(3, 0), (29, 1), (4, 2)], 3, 40, [.lit (.int .i64 0), .arr 3 0 [] false, .lit (.bool false)], false⟩),
 (62, ⟨.struct [(3, 0), (29, 1), (4, 2)], 3, 40, [.lit (.int .i64 0), .arr 3 0 [] false, .lit (.bool false)], false⟩),
 (65, ⟨.slice 77, 1, 24, [.arr 5 0 [] false], false⟩),
 (66, ⟨.struct [(56, 0), (3, 1), (65, 2)], 3, 56, [.arr 4 0 [] false, .lit (.int .i64 0), .arr 5 0 [] false], false⟩),
 (67, ⟨.struct [(56, 0), (3, 1), (65, 2)], 3, 56, [.arr 4 0 [] false, .lit (.int .i64 0), .arr 5 0 [] false], false⟩),
 (69, ⟨.slice 73, 1, 24, [.arr 3 0 [] false], false⟩),
 (72, ⟨.struct [(3, 0), (3, 1), (3, 2)], 3, 24, [.lit (.int .i64 0), .lit (.int .i64 0), .lit (.int .i64 0)], false⟩),
 (73, ⟨.struct [(3, 0), (3, 1), (3, 2)], 3, 24, [.lit (.int .i64 0), .lit (.int .i64 0), .lit (.int .i64 0)], true⟩),
 (74, ⟨.slice 3, 1, 24, [.arr 1 0 [] false], false⟩),
 (75, ⟨.slice 185, 1, 24, [.arr 3 0 [] false], false⟩),
 (76, ⟨.struct [(3, 0), (3, 1), (3, 2), (74, 3), (75, 4)], 5, 72, [.lit (.int .i64 0), .lit (.int .i64 0), .lit (.int .i64 0), .arr 1 0 [] false, .arr 3 0 [] false], false⟩),
 (77, ⟨.struct [(3, 0), (3, 1), (3, 2), (74, 3), (75, 4)], 5, 72, [.lit (.int .i64 0), .lit (.int .i64 0), .lit (.int .i64 0), .arr 1 0 [] false, .arr 3 0 [] false], false⟩),
 (79, ⟨.ptr 131, 1, 8, [.lit (.pointer none)], false⟩),
 (81, ⟨.func, 1, 8, [.lit .nilFunc], false⟩),
 (83, ⟨.struct [(3, 0), (3, 1), (9, 2)], 3, 32, [.lit (.int .i64 0), .lit (.int .i64 0), .lit (.string ⟨#[]⟩)], false⟩),
 (84, ⟨.struct [(3, 0), (3, 1), (9, 2)], 3, 32, [.lit (.int .i64 0), .lit (.int .i64 0), .lit (.string ⟨#[]⟩)], true⟩),
 (87, ⟨.func, 1, 8, [.lit .nilFunc], false⟩),
 (88, ⟨.func, 1, 8, [.lit .nilFunc], false⟩),
 (90, ⟨.func, 1, 8, [.lit .nilFunc], false⟩),
 (99, ⟨.struct [(29, 0), (3, 1), (3, 2), (3, 3)], 4, 48, [.arr 3 0 [] false, .lit (.int .i64 0), .lit (.int .i64 0), .lit (.int .i64 0)], false⟩),
 (100, ⟨.struct [(29, 0), (3, 1), (3, 2), (3, 3)], 4, 48, [.arr 3 0 [] false, .lit (.int .i64 0), .lit (.int .i64 0), .lit (.int .i64 0)], false⟩),
 (104, ⟨.slice 178, 1, 24, [.arr 3 0 [] false], false⟩),
 (105, ⟨.struct [(104, 0), (3, 1), (3, 2), (3, 3)], 4, 48, [.arr 3 0 [] false, .lit (.int .i64 0), .lit (.int .i64 0), .lit (.int .i64 0)], false⟩),
 (106, ⟨.struct [(104, 0), (3, 1), (3, 2), (3, 3)], 4, 48, [.arr 3 0 [] false, .lit (.int .i64 0), .lit (.int .i64 0), .lit (.int .i64 0)], false⟩),
 (108, ⟨.struct [(104, 0), (3, 1)], 2, 32, [.arr 3 0 [] false, .lit (.int .i64 0)], false⟩),
 (109, ⟨.struct [(104, 0), (3, 1)], 2, 32, [.arr 3 0 [] false, .lit (.int .i64 0)], false⟩),
 (118, ⟨.struct [(3, 0), (3, 1), (3, 2), (29, 3)], 4, 48, [.lit (.int .i64 0), .lit (.int .i64 0), .lit (.int .i64 0), .arr 3 0 [] false], false⟩),
 (119, ⟨.struct [(3, 0), (3, 1), (3, 2), (29, 3)], 4, 48, [.lit (.int .i64 0), .lit (.int .i64 0), .lit (.int .i64 0), .arr 3 0 [] false], false⟩),
 (127, ⟨.slice 140, 1, 24, [.arr 2 0 [] false], false⟩),
 (130, ⟨.struct [(22, 0), (3, 1)], 2, 32, [.arr 1 0 [] false, .lit (.int .i64 0)], false⟩),
 (131, ⟨.struct [(22, 0), (3, 1)], 2, 32, [.arr 1 0 [] false, .lit (.int .i64 0)], false⟩),
 (139, ⟨.struct [(3, 0), (4, 1)], 2, 16, [.lit (.int .i64 0), .lit (.bool false)], false⟩),
 (140, ⟨.struct [(3, 0), (4, 1)], 2, 16, [.lit (.int .i64 0), .lit (.bool false)], false⟩),
 (143, ⟨.func, 1, 8, [.lit .nilFunc], false⟩),
 (145, ⟨.ptr 100, 1, 8, [.lit (.pointer none)], false⟩),
 (165, ⟨.slice 23, 1, 24, [.arr 1 0 [] false], false⟩),
 (170, ⟨.func, 1, 8, [.lit .nilFunc], false⟩),
 (175, ⟨.int .u64, 1, 8, [.lit (.int .u64 0)], false⟩),
 (178, ⟨.struct [(3, 0), (3, 1), (9, 2)], 3, 32, [.lit (.int .i64 0), .lit (.int .i64 0), .lit (.string ⟨#[]⟩)], false⟩),
 (184, ⟨.struct [(3, 0), (29, 1), (4, 2)], 3, 40, [.lit (.int .i64 0), .arr 3 0 [] false, .lit (.bool false)], false⟩),
 (185, ⟨.struct [(3, 0), (29, 1), (4, 2)], 3, 40, [.lit (.int .i64 0), .arr 3 0 [] false, .lit (.bool false)], false⟩),
 (188, ⟨.slice 190, 1, 24, [.arr 4 0 [] false], false⟩),
 (189, ⟨.struct [(3, 0), (3, 1), (3, 2), (29, 3)], 4, 48, [.lit (.int .i64 0), .lit (.int .i64 0), .lit (.int .i64 0), .arr 3 0 [] false], false⟩),
 (190, ⟨.struct [(3, 0), (3, 1), (3, 2), (29, 3)], 4, 48, [.lit (.int .i64 0), .lit (.int .i64 0), .lit (.int .i64 0), .arr 3 0 [] false], false⟩),
 (196, ⟨.func, 1, 8, [.lit .nilFunc], false⟩),
 (213, ⟨.slice 9, 1, 24, [.arr 1 0 [] false], false⟩)]
def τ : Tau := tabOf tab
theorem τ_ok : TOK Try.prog τ := tabOf_ok tab ⟨tab_ok2, ⟨tab_ok3, ⟨tab_ok4, ⟨tab_ok5, ⟨tab_ok7, ⟨tab_ok9, ⟨tab_ok12, ⟨tab_ok15, ⟨tab_ok16, ⟨tab_ok17, ⟨tab_ok22, ⟨tab_ok23, ⟨tab_ok26, ⟨tab_ok29, ⟨tab_ok30, ⟨tab_ok31, ⟨tab_ok42, ⟨tab_ok47, ⟨tab_ok48, ⟨tab_ok56, ⟨tab_ok59, ⟨tab_ok61, ⟨tab_ok62, ⟨tab_ok65, ⟨tab_ok66, ⟨tab_ok67, ⟨tab_ok69, ⟨tab_ok72, ⟨tab_ok73, ⟨tab_ok74, ⟨tab_ok75, ⟨tab_ok76, ⟨tab_ok77, ⟨tab_ok79, ⟨tab_ok81, ⟨tab_ok83, ⟨tab_ok84, ⟨tab_ok87, ⟨tab_ok88, ⟨tab_ok90, ⟨tab_ok99, ⟨tab_ok100, ⟨tab_ok104, ⟨tab_ok105, ⟨tab_ok106, ⟨tab_ok108, ⟨tab_ok109, ⟨tab_ok118, ⟨tab_ok119, ⟨tab_ok127, ⟨tab_ok130, ⟨tab_ok131, ⟨tab_ok139, ⟨tab_ok140, ⟨tab_ok143, ⟨tab_ok145, ⟨tab_ok165, ⟨tab_ok170, ⟨tab_ok175, ⟨tab_ok178, ⟨tab_ok184, ⟨tab_ok185, ⟨tab_ok188, ⟨tab_ok189, ⟨tab_ok190, ⟨tab_ok196, ⟨tab_ok213, trivial⟩⟩⟩⟩⟩⟩⟩⟩⟩⟩⟩⟩⟩⟩⟩⟩⟩⟩⟩⟩⟩⟩⟩⟩⟩⟩⟩⟩⟩⟩⟩⟩⟩⟩⟩⟩⟩⟩⟩⟩⟩⟩⟩⟩⟩⟩⟩⟩⟩⟩⟩⟩⟩⟩⟩⟩⟩⟩⟩⟩⟩⟩⟩⟩⟩⟩⟩
theorem v {Γ : Ctx} {ops : Array Oper} {Q : Exit → St → Prop} {j : Nat} {st : St} (n : Nat) (nt : Nat) (T : List (Nat × V)) (H : Hp) (hk : opsP Try.prog Γ ops Q (j + n) ⟨nt, T, H⟩) (h : (evS τ [] ops n j st).map (fun s => s.keep (T.map (·.1))) = some ⟨nt, T, H⟩ := by kernel_rfl) : opsP Try.prog Γ ops Q j st := opsP_evk' (st' := ⟨nt, T, H⟩) τ_ok [] n (T.map (·.1)) h hk
theorem vM {Γ : Ctx} {ops : Array Oper} {Q : Exit → St → Prop} {j : Nat} {st : St} (mu : List Nat) (n : Nat) (nt : Nat) (T : List (Nat × V)) (H : Hp) (hk : opsP Try.prog Γ ops Q (j + n) ⟨nt, T, H⟩) (h : (evS τ mu ops n j st).map (fun s => s.keep (T.map (·.1))) = some ⟨nt, T, H⟩ := by kernel_rfl) : opsP Try.prog Γ ops Q j st := opsP_evk' (st' := ⟨nt, T, H⟩) τ_ok mu n (T.map (·.1)) h hk
theorem ve {Γ : Ctx} {ops : Array Oper} {Q : Exit → St → Prop} {j : Nat} {st : St} (n : Nat) (nt : Nat) (T : List (Nat × V)) (H : Hp) (hk : Q .normal ⟨nt, T, H⟩) (h : (evS τ [] ops n j st).map (fun s => s.keep (T.map (·.1))) = some ⟨nt, T, H⟩ := by kernel_rfl) (he : ops.size = j + n := by rfl) : opsP Try.prog Γ ops Q j st := opsP_evk' (st' := ⟨nt, T, H⟩) τ_ok [] n (T.map (·.1)) h (opsP_end he hk)
theorem veM {Γ : Ctx} {ops : Array Oper} {Q : Exit → St → Prop} {j : Nat} {st : St} (mu : List Nat) (n : Nat) (nt : Nat) (T : List (Nat × V)) (H : Hp) (hk : Q .normal ⟨nt, T, H⟩) (h : (evS τ mu ops n j st).map (fun s => s.keep (T.map (·.1))) = some ⟨nt, T, H⟩ := by kernel_rfl) (he : ops.size = j + n := by rfl) : opsP Try.prog Γ ops Q j st := opsP_evk' (st' := ⟨nt, T, H⟩) τ_ok mu n (T.map (·.1)) h (opsP_end he hk)
theorem rv {Γ : Ctx} {ops : Array Oper} {Q : Exit → St → Prop} {id : Nat} {st : St} (n : Nat) (nt : Nat) (T : List (Nat × V)) (H : Hp) (hk : opsP Try.prog Γ ops Q (0 + n) ⟨nt, T, H⟩) (h : (evS τ [] ops n 0 st).map (fun s => s.keep (T.map (·.1))) = some ⟨nt, T, H⟩ := by kernel_rfl) : pwp Try.prog Γ (.region id ops false) Q st := pwp_region (opsP_evk' (st' := ⟨nt, T, H⟩) τ_ok [] n (T.map (·.1)) h hk)
theorem rvM {Γ : Ctx} {ops : Array Oper} {Q : Exit → St → Prop} {id : Nat} {st : St} (mu : List Nat) (n : Nat) (nt : Nat) (T : List (Nat × V)) (H : Hp) (hk : opsP Try.prog Γ ops Q (0 + n) ⟨nt, T, H⟩) (h : (evS τ mu ops n 0 st).map (fun s => s.keep (T.map (·.1))) = some ⟨nt, T, H⟩ := by kernel_rfl) : pwp Try.prog Γ (.region id ops false) Q st := pwp_region (opsP_evk' (st' := ⟨nt, T, H⟩) τ_ok mu n (T.map (·.1)) h hk)
theorem rve {Γ : Ctx} {ops : Array Oper} {Q : Exit → St → Prop} {id : Nat} {st : St} (nt : Nat) (T : List (Nat × V)) (H : Hp) (hk : Q .normal ⟨nt, T, H⟩) (h : (evS τ [] ops ops.size 0 st).map (fun s => s.keep (T.map (·.1))) = some ⟨nt, T, H⟩ := by kernel_rfl) : pwp Try.prog Γ (.region id ops false) Q st := pwp_region (opsP_evk' (st' := ⟨nt, T, H⟩) τ_ok [] ops.size (T.map (·.1)) h (opsP_end (Nat.zero_add _).symm hk))
theorem rveM {Γ : Ctx} {ops : Array Oper} {Q : Exit → St → Prop} {id : Nat} {st : St} (mu : List Nat) (nt : Nat) (T : List (Nat × V)) (H : Hp) (hk : Q .normal ⟨nt, T, H⟩) (h : (evS τ mu ops ops.size 0 st).map (fun s => s.keep (T.map (·.1))) = some ⟨nt, T, H⟩ := by kernel_rfl) : pwp Try.prog Γ (.region id ops false) Q st := pwp_region (opsP_evk' (st' := ⟨nt, T, H⟩) τ_ok mu ops.size (T.map (·.1)) h (opsP_end (Nat.zero_add _).symm hk))
theorem srv {Γ : Ctx} {ops : Array Oper} {Q : Exit → St → Prop} {id : Nat} {y : Code} {st : St} (n : Nat) (nt : Nat) (T : List (Nat × V)) (H : Hp) (hk : opsP Try.prog Γ ops (Dthen (fun st' => pwp Try.prog Γ y Q st') Q) (0 + n) ⟨nt, T, H⟩) (h : (evS τ [] ops n 0 st).map (fun s => s.keep (T.map (·.1))) = some ⟨nt, T, H⟩ := by kernel_rfl) : pwp Try.prog Γ (.seq (.region id ops false) y) Q st := pwp_seq (pwp_region (opsP_evk' (st' := ⟨nt, T, H⟩) τ_ok [] n (T.map (·.1)) h hk))
theorem srvM {Γ : Ctx} {ops : Array Oper} {Q : Exit → St → Prop} {id : Nat} {y : Code} {st : St} (mu : List Nat) (n : Nat) (nt : Nat) (T : List (Nat × V)) (H : Hp) (hk : opsP Try.prog Γ ops (Dthen (fun st' => pwp Try.prog Γ y Q st') Q) (0 + n) ⟨nt, T, H⟩) (h : (evS τ mu ops n 0 st).map (fun s => s.keep (T.map (·.1))) = some ⟨nt, T, H⟩ := by kernel_rfl) : pwp Try.prog Γ (.seq (.region id ops false) y) Q st := pwp_seq (pwp_region (opsP_evk' (st' := ⟨nt, T, H⟩) τ_ok mu n (T.map (·.1)) h hk))
theorem srve {Γ : Ctx} {ops : Array Oper} {Q : Exit → St → Prop} {id : Nat} {y : Code} {st : St} (nt : Nat) (T : List (Nat × V)) (H : Hp) (hk : pwp Try.prog Γ y Q ⟨nt, T, H⟩) (h : (evS τ [] ops ops.size 0 st).map (fun s => s.keep (T.map (·.1))) = some ⟨nt, T, H⟩ := by kernel_rfl) : pwp Try.prog Γ (.seq (.region id ops false) y) Q st := pwp_seq (pwp_region (opsP_evk' (st' := ⟨nt, T, H⟩) τ_ok [] ops.size (T.map (·.1)) h (opsP_end (Nat.zero_add _).symm hk)))
theorem srveM {Γ : Ctx} {ops : Array Oper} {Q : Exit → St → Prop} {id : Nat} {y : Code} {st : St} (mu : List Nat) (nt : Nat) (T : List (Nat × V)) (H : Hp) (hk : pwp Try.prog Γ y Q ⟨nt, T, H⟩) (h : (evS τ mu ops ops.size 0 st).map (fun s => s.keep (T.map (·.1))) = some ⟨nt, T, H⟩ := by kernel_rfl) : pwp Try.prog Γ (.seq (.region id ops false) y) Q st := pwp_seq (pwp_region (opsP_evk' (st' := ⟨nt, T, H⟩) τ_ok mu ops.size (T.map (·.1)) h (opsP_end (Nat.zero_add _).symm hk)))
theorem pc {α : Type} {Γ : Ctx} {Q : Exit → St → Prop} {st : St} {o : Operand} {c d : Code} {e : Bool} {a b : Option α} {x : Option α} (h : (bif e then a else b) = x) (ht : a = x → pwp Try.prog Γ c Q st) (hf : b = x → pwp Try.prog Γ d Q st) (hc : evalV st o = some (.lit (.bool e)) := by kernel_rfl) : pwp Try.prog Γ (.cond o c d) Q st := pwp_cond e hc (fun q => ht (bifT q h)) (fun q => hf (bifF q h))
theorem rz {fn : Func} {out : V} {st : St} (hx : resV τ st fn.results.toList = some out := by kernel_rfl) (hz : frz out = true := by kernel_rfl) : Qret τ fn out .ret st := ⟨.inr rfl, out, [], hx, OutP.frz hz, List.nodup_nil⟩
theorem rt {fn : Func} {out : V} {st : St} (x : V) {ks : List Nat} (ho : OutP st.H x out ks) (hx : resV τ st fn.results.toList = some x := by kernel_rfl) (hn : ks.Nodup := by decide) : Qret τ fn out .ret st := ⟨.inr rfl, x, ks, hx, ho, hn⟩
theorem si {α : Type} {a b : α} (h : some a = some b) : a = b := Option.some.inj h
theorem fk (b : Bool) : b = true ∨ b = false := Bool.eq_false_or_eq_true b
theorem bT {α : Type} {c : Bool} {a b x : α} (hc : c = true) (h : (bif c then a else b) = x) : a = x := bifT hc h
theorem bF {α : Type} {c : Bool} {a b x : α} (hc : c = false) (h : (bif c then a else b) = x) : b = x := bifF hc h
theorem qv {Γ : Ctx} {ops : Array Oper} {vis mod : List (List Nat)} {Q : Exit → St → Prop} {q N j : Nat} {st : St} (ks : List Nat) (hp : hpIn ks (maskH ks 0 st.H)) (n nt : Nat) (T : List (Nat × V)) (H : Hp) (hk : qA Try.prog Γ ops vis mod (fun st' => opsP Try.prog Γ ops Q q st') (N - n) (j + n) ⟨nt, T, H⟩) (h : evO τ [] ops vis mod ks (N - n) n j st T = some ⟨nt, T, H⟩ := by kernel_rfl) (hN : N - n + n = N := by rfl) : qA Try.prog Γ ops vis mod (fun st' => opsP Try.prog Γ ops Q q st') N j st := hN ▸ qA_evO τ_ok [] ks n T hp h hk
theorem qvn {Γ : Ctx} {ops : Array Oper} {vis mod : List (List Nat)} {Q : Exit → St → Prop} {N j : Nat} {st : St} (ks : List Nat) (hp : hpIn ks (maskH ks 0 st.H)) (n nt : Nat) (T : List (Nat × V)) (H : Hp) (hk : Q .normal ⟨nt, T, H⟩) (h : (evA τ [] ops vis mod ks n j st).map (fun s => s.keep (T.map (·.1))) = some ⟨nt, T, H⟩ := by kernel_rfl) (hN : N = n := by rfl) : qA Try.prog Γ ops vis mod (fun st' => opsP Try.prog Γ ops Q ops.size st') N j st := hN ▸ qA_evN τ_ok [] ks n T hp h hk
theorem qvM {Γ : Ctx} {ops : Array Oper} {vis mod : List (List Nat)} {Q : Exit → St → Prop} {q N j : Nat} {st : St} (mu : List Nat) (ks : List Nat) (hp : hpIn ks (maskH ks 0 st.H)) (n nt : Nat) (T : List (Nat × V)) (H : Hp) (hk : qA Try.prog Γ ops vis mod (fun st' => opsP Try.prog Γ ops Q q st') (N - n) (j + n) ⟨nt, T, H⟩) (h : evO τ mu ops vis mod ks (N - n) n j st T = some ⟨nt, T, H⟩ := by kernel_rfl) (hN : N - n + n = N := by rfl) : qA Try.prog Γ ops vis mod (fun st' => opsP Try.prog Γ ops Q q st') N j st := hN ▸ qA_evO τ_ok mu ks n T hp h hk
theorem qvnM {Γ : Ctx} {ops : Array Oper} {vis mod : List (List Nat)} {Q : Exit → St → Prop} {N j : Nat} {st : St} (mu : List Nat) (ks : List Nat) (hp : hpIn ks (maskH ks 0 st.H)) (n nt : Nat) (T : List (Nat × V)) (H : Hp) (hk : Q .normal ⟨nt, T, H⟩) (h : (evA τ mu ops vis mod ks n j st).map (fun s => s.keep (T.map (·.1))) = some ⟨nt, T, H⟩ := by kernel_rfl) (hN : N = n := by rfl) : qA Try.prog Γ ops vis mod (fun st' => opsP Try.prog Γ ops Q ops.size st') N j st := hN ▸ qA_evN τ_ok mu ks n T hp h hk
theorem qX {Γ : Ctx} {ops : Array Oper} {vis mod : List (List Nat)} {Q : Exit → St → Prop} {q n j : Nat} {st : St} {Hm' : Hp} (dd : Option Nat) (x : V) (nt : Nat) (T : List (Nat × V)) (H : Hp) (h : ∀ Γ' : Ctx, (∀ i b, Γ'.L i b → Γ.L i b) → CoreE Try.prog Γ' ops j (stA ops vis j st) dd Hm' x) (hp : hpIn (lk vis j) Hm') (hk : qA Try.prog Γ ops vis mod (fun st' => opsP Try.prog Γ ops Q q st') n (j + 1) ⟨nt, T, H⟩) (hl : Nat.beq Hm'.length st.H.length = true := by kernel_rfl) (hm : fillH (lk mod j) 0 (maskH (lk vis j) 0 st.H) Hm' = Hm' := by kernel_rfl) (hx : dd = none ∨ okA (lk vis j) x = true ∨ frz x = true := by first | exact .inl rfl | exact .inr (.inl rfl) | exact .inr (.inr rfl)) (he : offE ops n (j + 1) T ((st.inH (fillH (lk mod j) 0 st.H Hm')).put dd x) = some ⟨nt, T, H⟩ := by kernel_rfl) : qA Try.prog Γ ops vis mod (fun st' => opsP Try.prog Γ ops Q q st') (n + 1) j st := qA_EO T h hp hk hl hm hx he
theorem qn {Γ : Ctx} {ops : Array Oper} {vis mod : List (List Nat)} {Q : Exit → St → Prop} {j : Nat} {st : St} (nt : Nat) (T : List (Nat × V)) (H : Hp) (hk : Q .normal ⟨nt, T, H⟩) (h : st.keep (T.map (·.1)) = ⟨nt, T, H⟩ := by kernel_rfl) : qA Try.prog Γ ops vis mod (fun st' => opsP Try.prog Γ ops Q ops.size st') 0 j st := qA_end (opsP_imp (Imp.to _ h) (opsP_end rfl hk))
theorem pN {Γ : Ctx} {ops : Array Oper} {Q : Exit → St → Prop} {st : St} {id : Nat} (n : Nat) (h : qA Try.prog Γ ops (List.replicate n []) (List.replicate n []) (fun st' => opsP Try.prog Γ ops Q ops.size st') ops.size 0 st) (hB : anyB ops (List.replicate n []) (List.replicate n []) = true := by kernel_rfl) : pwp Try.prog Γ (.region id ops true) Q st := pwp_any _ _ rfl hB h
theorem qt {Γ : Ctx} {a b c : St} (h : Imp Γ a b) (k : Imp Γ b c) : Imp Γ a c := h.trans k
theorem it {Γ : Ctx} {st st' : St} (ks : List Nat) (h : st.keep ks = st' := by kernel_rfl) : Imp Γ st st' := Imp.to ks h
theorem ip {Γ : Ctx} {c : Code} {Q : Exit → St → Prop} {st : St} (nt : Nat) (T : List (Nat × V)) (H : Hp) (hk : pwp Try.prog Γ c Q ⟨nt, T, H⟩) (h : st.keep (T.map (·.1)) = ⟨nt, T, H⟩ := by kernel_rfl) : pwp Try.prog Γ c Q st := pwp_imp (Imp.to _ h) hk
theorem io {Γ : Ctx} {ops : Array Oper} {j : Nat} {Q : Exit → St → Prop} {st : St} (nt : Nat) (T : List (Nat × V)) (H : Hp) (hk : opsP Try.prog Γ ops Q j ⟨nt, T, H⟩) (h : st.keep (T.map (·.1)) = ⟨nt, T, H⟩ := by kernel_rfl) : opsP Try.prog Γ ops Q j st := opsP_imp (Imp.to _ h) hk
theorem cF {Γ : Ctx} {ops : Array Oper} {j : Nat} {Q : Exit → St → Prop} {st : St} {g : FuncId} {xs : List V} {out x : V} (d : Nat) (hok : OK Try.prog g xs out) (hk : opsP Try.prog Γ ops Q (j + 1) (st.set d x)) (hf : FzTo out x := by exact FzTo.frz rfl) (hz : frzL xs = true := by rfl) (h : callV τ ops j st = some (d, g, xs) := by kernel_rfl) : opsP Try.prog Γ ops Q j st := opsP_callF τ d hok hf hz h hk
theorem cB {Γ : Ctx} {ops : Array Oper} {j : Nat} {Q : Exit → St → Prop} {st : St} {g : FuncId} {cs xs : List V} {out x : V} {cs' : List V} (d k ver : Nat) (hok : OKb Try.prog g cs xs out cs') (hk : opsP Try.prog Γ ops Q (j + 1) ({ st with H := setH st.H k (some ⟨ver, cs'⟩) }.set d x)) (hf : FzTo out x := by exact FzTo.frz rfl) (hz : frzL xs = true := by rfl) (h : calV τ ops j st = some ⟨d, g, k, ver, cs, xs⟩ := by kernel_rfl) : opsP Try.prog Γ ops Q j st := opsP_callB τ d k ver hok hf hz h hk
theorem cFo {Γ : Ctx} {ops : Array Oper} {j : Nat} {Q : Exit → St → Prop} {st : St} {g : FuncId} {xs : List V} {out x : V} (d : Nat) (hok : OK Try.prog g xs out) (hk : opsP Try.prog Γ ops Q (j + 1) (st.set d x)) (hf : FzTo out x := by exact FzTo.O _) (hz : frzL xs = true := by rfl) (h : callV τ ops j st = some (d, g, xs) := by kernel_rfl) : opsP Try.prog Γ ops Q j st := opsP_callF τ d hok hf hz h hk
theorem cBo {Γ : Ctx} {ops : Array Oper} {j : Nat} {Q : Exit → St → Prop} {st : St} {g : FuncId} {cs xs : List V} {out x : V} {cs' : List V} (d k ver : Nat) (hok : OKb Try.prog g cs xs out cs') (hk : opsP Try.prog Γ ops Q (j + 1) ({ st with H := setH st.H k (some ⟨ver, cs'⟩) }.set d x)) (hf : FzTo out x := by exact FzTo.O _) (hz : frzL xs = true := by rfl) (h : calV τ ops j st = some ⟨d, g, k, ver, cs, xs⟩ := by kernel_rfl) : opsP Try.prog Γ ops Q j st := opsP_callB τ d k ver hok hf hz h hk
theorem ow {f : FuncId} {fn : Func} {c : Code} {ins : List V} {out : V} (hf : Try.prog.funcs[f]? = some fn) (h : ∀ Γ, (∀ i b, ¬ Γ.L i b) → pwp Try.prog Γ c (Qret τ fn out) ⟨fn.ntmps, numbered 0 ins, []⟩) (hb : fn.body = some c := by exact rfl) (hnm : (fn.name == "runtime.NumGoroutine") = false := by kernel_rfl) (hn : Nat.ble ins.length fn.ntmps = true := by rfl) : OK Try.prog f ins out := OK_of_pwp τ_ok hf hb hnm hn h
end Go.D
