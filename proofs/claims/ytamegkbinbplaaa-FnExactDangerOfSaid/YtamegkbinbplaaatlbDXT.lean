import Derived.Test.YtamegkbinbplaaatlbDFz
import Derived.Test.YtamegkbinbplaaatlbDClr
import Derived.Test.YtamegkbinbplaaaProg
import Derived.KernelRfl
set_option linter.unusedVariables false
set_option linter.unusedSimpArgs false
namespace Go.D
open Go.Proofs
structure T_laws_Value where
 fKind : Int
 fN : Int
 fS : ByteArray
instance : Enc T_laws_Value := ⟨3, fun x => [I x.fKind, I x.fN, S x.fS], true, fun _ => rfl, by decide, fun _ => rfl, fun _ => rfl⟩
structure T_laws_Version where
 fKey : Int
 fBorn : Int
 fDied : Int
 fRow : List T_laws_Value
instance : Enc T_laws_Version := ⟨4, fun x => [I x.fKey, I x.fBorn, I x.fDied, A x.fRow], true, fun _ => rfl, by decide, fun _ => rfl, fun _ => rfl⟩
structure T_laws_Write where
 fKey : Int
 fRow : List T_laws_Value
 fGone : Bool
instance : Enc T_laws_Write := ⟨3, fun x => [I x.fKey, A x.fRow, B x.fGone], true, fun _ => rfl, by decide, fun _ => rfl, fun _ => rfl⟩
structure T_laws_Txn where
 fState : Int
 fBegin : Int
 fEnd : Int
 fReads : List Int
 fWrites : List T_laws_Write
instance : Enc T_laws_Txn := ⟨5, fun x => [I x.fState, I x.fBegin, I x.fEnd, A x.fReads, A x.fWrites], true, fun _ => rfl, by decide, fun _ => rfl, fun _ => rfl⟩
structure T_laws_House where
 fList : List T_laws_Version
 fClock : Int
 fTxns : List T_laws_Txn
instance : Enc T_laws_House := ⟨3, fun x => [A x.fList, I x.fClock, A x.fTxns], true, fun _ => rfl, by decide, fun _ => rfl, fun _ => rfl⟩
structure T_impl_Value where
 fKind : Int
 fN : Int
 fS : ByteArray
instance : Enc T_impl_Value := ⟨3, fun x => [I x.fKind, I x.fN, S x.fS], true, fun _ => rfl, by decide, fun _ => rfl, fun _ => rfl⟩
structure T_impl_Version where
 fKey : Int
 fBorn : Int
 fDied : Int
 fRow : List T_impl_Value
instance : Enc T_impl_Version := ⟨4, fun x => [I x.fKey, I x.fBorn, I x.fDied, A x.fRow], true, fun _ => rfl, by decide, fun _ => rfl, fun _ => rfl⟩
structure T_impl_Write where
 fKey : Int
 fRow : List T_impl_Value
 fGone : Bool
instance : Enc T_impl_Write := ⟨3, fun x => [I x.fKey, A x.fRow, B x.fGone], true, fun _ => rfl, by decide, fun _ => rfl, fun _ => rfl⟩
structure T_impl_Txn where
 fState : Int
 fBegin : Int
 fEnd : Int
 fReads : List Int
 fWrites : List T_impl_Write
instance : Enc T_impl_Txn := ⟨5, fun x => [I x.fState, I x.fBegin, I x.fEnd, A x.fReads, A x.fWrites], true, fun _ => rfl, by decide, fun _ => rfl, fun _ => rfl⟩
structure T_impl_House where
 fList : List T_impl_Version
 fClock : Int
 fTxns : List T_impl_Txn
instance : Enc T_impl_House := ⟨3, fun x => [A x.fList, I x.fClock, A x.fTxns], true, fun _ => rfl, by decide, fun _ => rfl, fun _ => rfl⟩
structure T_impl_Edge where
 fFrom : Int
 fTo : Int
 fKind : Int
instance : Enc T_impl_Edge := ⟨3, fun x => [I x.fFrom, I x.fTo, I x.fKind], true, fun _ => rfl, by decide, fun _ => rfl, fun _ => rfl⟩
structure T_impl_Ask where
 fWho : Int
 fKey : Int
 fKind : Int
instance : Enc T_impl_Ask := ⟨3, fun x => [I x.fWho, I x.fKey, I x.fKind], true, fun _ => rfl, by decide, fun _ => rfl, fun _ => rfl⟩
structure T_impl_Locks where
 fHeld : List T_impl_Ask
 fQueue : List T_impl_Ask
instance : Enc T_impl_Locks := ⟨2, fun x => [A x.fHeld, A x.fQueue], true, fun _ => rfl, by decide, fun _ => rfl, fun _ => rfl⟩
structure T_laws_Ask where
 fWho : Int
 fKey : Int
 fKind : Int
instance : Enc T_laws_Ask := ⟨3, fun x => [I x.fWho, I x.fKey, I x.fKind], true, fun _ => rfl, by decide, fun _ => rfl, fun _ => rfl⟩
structure T_laws_Locks where
 fHeld : List T_laws_Ask
 fQueue : List T_laws_Ask
instance : Enc T_laws_Locks := ⟨2, fun x => [A x.fHeld, A x.fQueue], true, fun _ => rfl, by decide, fun _ => rfl, fun _ => rfl⟩
structure T_spec_l20Rd where
 fB : List UInt8
 fP : Int
instance : Enc T_spec_l20Rd := ⟨2, fun x => [A x.fB, I x.fP], true, fun _ => rfl, by decide, fun _ => rfl, fun _ => rfl⟩
structure T_impl_Move where
 fKind : Int
 fWho : Int
 fKey : Int
 fRow : List T_impl_Value
instance : Enc T_impl_Move := ⟨4, fun x => [I x.fKind, I x.fWho, I x.fKey, A x.fRow], true, fun _ => rfl, by decide, fun _ => rfl, fun _ => rfl⟩
structure T_impl_Column where
 fKind : Int
 fEmpty : Bool
instance : Enc T_impl_Column := ⟨2, fun x => [I x.fKind, B x.fEmpty], true, fun _ => rfl, by decide, fun _ => rfl, fun _ => rfl⟩
def eq_T_impl_Edge (x y : T_impl_Edge) : Bool := andB [x.fFrom == y.fFrom, x.fTo == y.fTo, x.fKind == y.fKind]
def eq_T_impl_Value (x y : T_impl_Value) : Bool := andB [x.fKind == y.fKind, x.fN == y.fN, x.fS.toList == y.fS.toList]
instance : DFlat T_laws_Value := ⟨fun _ => rfl⟩
instance : DEnc T_laws_Version := ⟨fun x => [I x.fKey, I x.fBorn, I x.fDied, O x.fRow], fun _ => rfl, fun x => (FzToL.cons (FzTo.lit _) (FzToL.cons (FzTo.lit _) (FzToL.cons (FzTo.lit _) (FzToL.cons (FzTo.O _) FzToL.nil)))), fun _ => rfl⟩
instance : DNest T_laws_Version := ⟨⟩
instance : DOne T_laws_Version := ⟨fun _ => rfl⟩
instance : DBl T_laws_Version := ⟨fun x => (BlindL.cons (Blind.lit _) (BlindL.cons (Blind.lit _) (BlindL.cons (Blind.lit _) (BlindL.cons (Blind.O DFlat.lit _) BlindL.nil))))⟩
instance : DEnc T_laws_Write := ⟨fun x => [I x.fKey, O x.fRow, B x.fGone], fun _ => rfl, fun x => (FzToL.cons (FzTo.lit _) (FzToL.cons (FzTo.O _) (FzToL.cons (FzTo.lit _) FzToL.nil))), fun _ => rfl⟩
instance : DNest T_laws_Write := ⟨⟩
instance : DOne T_laws_Write := ⟨fun _ => rfl⟩
instance : DBl T_laws_Write := ⟨fun x => (BlindL.cons (Blind.lit _) (BlindL.cons (Blind.O DFlat.lit _) (BlindL.cons (Blind.lit _) BlindL.nil)))⟩
instance : DEnc T_laws_Txn := ⟨fun x => [I x.fState, I x.fBegin, I x.fEnd, O x.fReads, OD x.fWrites], fun _ => rfl, fun x => (FzToL.cons (FzTo.lit _) (FzToL.cons (FzTo.lit _) (FzToL.cons (FzTo.lit _) (FzToL.cons (FzTo.O _) (FzToL.cons (FzTo.OD _) FzToL.nil))))), fun _ => rfl⟩
instance : DNest T_laws_Txn := ⟨⟩
instance : DOne T_laws_Txn := ⟨fun _ => rfl⟩
instance : DBl T_laws_Txn := ⟨fun x => (BlindL.cons (Blind.lit _) (BlindL.cons (Blind.lit _) (BlindL.cons (Blind.lit _) (BlindL.cons (Blind.O DFlat.lit _) (BlindL.cons (Blind.OD _) BlindL.nil)))))⟩
instance : DEnc T_laws_House := ⟨fun x => [OD x.fList, I x.fClock, OD x.fTxns], fun _ => rfl, fun x => (FzToL.cons (FzTo.OD _) (FzToL.cons (FzTo.lit _) (FzToL.cons (FzTo.OD _) FzToL.nil))), fun _ => rfl⟩
instance : DNest T_laws_House := ⟨⟩
instance : DOne T_laws_House := ⟨fun _ => rfl⟩
instance : DBl T_laws_House := ⟨fun x => (BlindL.cons (Blind.OD _) (BlindL.cons (Blind.lit _) (BlindL.cons (Blind.OD _) BlindL.nil)))⟩
instance : DFlat T_impl_Value := ⟨fun _ => rfl⟩
instance : DEnc T_impl_Version := ⟨fun x => [I x.fKey, I x.fBorn, I x.fDied, O x.fRow], fun _ => rfl, fun x => (FzToL.cons (FzTo.lit _) (FzToL.cons (FzTo.lit _) (FzToL.cons (FzTo.lit _) (FzToL.cons (FzTo.O _) FzToL.nil)))), fun _ => rfl⟩
instance : DNest T_impl_Version := ⟨⟩
instance : DOne T_impl_Version := ⟨fun _ => rfl⟩
instance : DBl T_impl_Version := ⟨fun x => (BlindL.cons (Blind.lit _) (BlindL.cons (Blind.lit _) (BlindL.cons (Blind.lit _) (BlindL.cons (Blind.O DFlat.lit _) BlindL.nil))))⟩
instance : DEnc T_impl_Write := ⟨fun x => [I x.fKey, O x.fRow, B x.fGone], fun _ => rfl, fun x => (FzToL.cons (FzTo.lit _) (FzToL.cons (FzTo.O _) (FzToL.cons (FzTo.lit _) FzToL.nil))), fun _ => rfl⟩
instance : DNest T_impl_Write := ⟨⟩
instance : DOne T_impl_Write := ⟨fun _ => rfl⟩
instance : DBl T_impl_Write := ⟨fun x => (BlindL.cons (Blind.lit _) (BlindL.cons (Blind.O DFlat.lit _) (BlindL.cons (Blind.lit _) BlindL.nil)))⟩
instance : DEnc T_impl_Txn := ⟨fun x => [I x.fState, I x.fBegin, I x.fEnd, O x.fReads, OD x.fWrites], fun _ => rfl, fun x => (FzToL.cons (FzTo.lit _) (FzToL.cons (FzTo.lit _) (FzToL.cons (FzTo.lit _) (FzToL.cons (FzTo.O _) (FzToL.cons (FzTo.OD _) FzToL.nil))))), fun _ => rfl⟩
instance : DNest T_impl_Txn := ⟨⟩
instance : DOne T_impl_Txn := ⟨fun _ => rfl⟩
instance : DBl T_impl_Txn := ⟨fun x => (BlindL.cons (Blind.lit _) (BlindL.cons (Blind.lit _) (BlindL.cons (Blind.lit _) (BlindL.cons (Blind.O DFlat.lit _) (BlindL.cons (Blind.OD _) BlindL.nil)))))⟩
instance : DEnc T_impl_House := ⟨fun x => [OD x.fList, I x.fClock, OD x.fTxns], fun _ => rfl, fun x => (FzToL.cons (FzTo.OD _) (FzToL.cons (FzTo.lit _) (FzToL.cons (FzTo.OD _) FzToL.nil))), fun _ => rfl⟩
instance : DNest T_impl_House := ⟨⟩
instance : DOne T_impl_House := ⟨fun _ => rfl⟩
instance : DBl T_impl_House := ⟨fun x => (BlindL.cons (Blind.OD _) (BlindL.cons (Blind.lit _) (BlindL.cons (Blind.OD _) BlindL.nil)))⟩
instance : DFlat T_impl_Edge := ⟨fun _ => rfl⟩
instance : DFlat T_impl_Ask := ⟨fun _ => rfl⟩
instance : DEnc T_impl_Locks := ⟨fun x => [O x.fHeld, O x.fQueue], fun _ => rfl, fun x => (FzToL.cons (FzTo.O _) (FzToL.cons (FzTo.O _) FzToL.nil)), fun _ => rfl⟩
instance : DNest T_impl_Locks := ⟨⟩
instance : DOne T_impl_Locks := ⟨fun _ => rfl⟩
instance : DBl T_impl_Locks := ⟨fun x => (BlindL.cons (Blind.O DFlat.lit _) (BlindL.cons (Blind.O DFlat.lit _) BlindL.nil))⟩
instance : DFlat T_laws_Ask := ⟨fun _ => rfl⟩
instance : DEnc T_laws_Locks := ⟨fun x => [O x.fHeld, O x.fQueue], fun _ => rfl, fun x => (FzToL.cons (FzTo.O _) (FzToL.cons (FzTo.O _) FzToL.nil)), fun _ => rfl⟩
instance : DNest T_laws_Locks := ⟨⟩
instance : DOne T_laws_Locks := ⟨fun _ => rfl⟩
instance : DBl T_laws_Locks := ⟨fun x => (BlindL.cons (Blind.O DFlat.lit _) (BlindL.cons (Blind.O DFlat.lit _) BlindL.nil))⟩
instance : DEnc T_spec_l20Rd := ⟨fun x => [O x.fB, I x.fP], fun _ => rfl, fun x => (FzToL.cons (FzTo.O _) (FzToL.cons (FzTo.lit _) FzToL.nil)), fun _ => rfl⟩
instance : DNest T_spec_l20Rd := ⟨⟩
instance : DOne T_spec_l20Rd := ⟨fun _ => rfl⟩
instance : DBl T_spec_l20Rd := ⟨fun x => (BlindL.cons (Blind.O DFlat.lit _) (BlindL.cons (Blind.lit _) BlindL.nil))⟩
instance : DEnc T_impl_Move := ⟨fun x => [I x.fKind, I x.fWho, I x.fKey, O x.fRow], fun _ => rfl, fun x => (FzToL.cons (FzTo.lit _) (FzToL.cons (FzTo.lit _) (FzToL.cons (FzTo.lit _) (FzToL.cons (FzTo.O _) FzToL.nil)))), fun _ => rfl⟩
instance : DNest T_impl_Move := ⟨⟩
instance : DOne T_impl_Move := ⟨fun _ => rfl⟩
instance : DBl T_impl_Move := ⟨fun x => (BlindL.cons (Blind.lit _) (BlindL.cons (Blind.lit _) (BlindL.cons (Blind.lit _) (BlindL.cons (Blind.O DFlat.lit _) BlindL.nil))))⟩
instance : DFlat T_impl_Column := ⟨fun _ => rfl⟩
theorem tab_ok2 : TIok Try.prog 2 ⟨.int .i64, 1, 8, [.lit (.int .i64 0)], false⟩ := tiok Try.type2 Try.underlying2 rfl rfl rfl (fun w M => FrL.cons' (Fr.lit' w M _) (FrL.nil' w M)) (fun fs h => by cases h) (rfl) (fun h => by cases h)
theorem tab_ok3 : TIok Try.prog 3 ⟨.int .i64, 1, 8, [.lit (.int .i64 0)], false⟩ := tiok Try.type3 Try.underlying3 rfl rfl rfl (fun w M => FrL.cons' (Fr.lit' w M _) (FrL.nil' w M)) (fun fs h => by cases h) (rfl) (fun h => by cases h)
theorem tab_ok4 : TIok Try.prog 4 ⟨.bool, 1, 1, [.lit (.bool false)], false⟩ := tiok Try.type4 Try.underlying4 rfl rfl rfl (fun w M => FrL.cons' (Fr.lit' w M _) (FrL.nil' w M)) (fun fs h => by cases h) (rfl) (fun h => by cases h)
theorem tab_ok5 : TIok Try.prog 5 ⟨.int .u8, 1, 1, [.lit (.int .u8 0)], false⟩ := tiok Try.type5 Try.underlying5 rfl rfl rfl (fun w M => FrL.cons' (Fr.lit' w M _) (FrL.nil' w M)) (fun fs h => by cases h) (rfl) (fun h => by cases h)
theorem tab_ok7 : TIok Try.prog 7 ⟨.struct [(2, 0), (3, 1), (4, 2), (6, 3)], 4, 24, [.lit (.int .i64 0), .lit (.int .i64 0), .lit (.bool false), .lit (.int .u8 0)], false⟩ := tiok Try.type7 Try.underlying7 rfl rfl rfl (fun w M => FrL.cons' (Fr.lit' w M _) (FrL.cons' (Fr.lit' w M _) (FrL.cons' (Fr.lit' w M _) (FrL.cons' (Fr.lit' w M _) (FrL.nil' w M))))) (fun fs h => ⟨_, rfl⟩) (⟨_, rfl, rfl⟩) (fun h => by cases h)
theorem tab_ok9 : TIok Try.prog 9 ⟨.str, 1, 16, [.lit (.string ⟨#[]⟩)], false⟩ := tiok Try.type9 Try.underlying9 rfl rfl rfl (fun w M => FrL.cons' (Fr.lit' w M _) (FrL.nil' w M)) (fun fs h => by cases h) (rfl) (fun h => by cases h)
theorem tab_ok12 : TIok Try.prog 12 ⟨.int .u64, 1, 8, [.lit (.int .u64 0)], false⟩ := tiok Try.type12 Try.underlying12 rfl rfl rfl (fun w M => FrL.cons' (Fr.lit' w M _) (FrL.nil' w M)) (fun fs h => by cases h) (rfl) (fun h => by cases h)
theorem tab_ok15 : TIok Try.prog 15 ⟨.ptr 249, 1, 8, [.lit (.pointer none)], false⟩ := tiok Try.type15 Try.underlying15 rfl rfl rfl (fun w M => FrL.cons' (Fr.lit' w M _) (FrL.nil' w M)) (fun fs h => by cases h) (rfl) (fun h => by cases h)
theorem tab_ok16 : TIok Try.prog 16 ⟨.ptr 252, 1, 8, [.lit (.pointer none)], false⟩ := tiok Try.type16 Try.underlying16 rfl rfl rfl (fun w M => FrL.cons' (Fr.lit' w M _) (FrL.nil' w M)) (fun fs h => by cases h) (rfl) (fun h => by cases h)
theorem tab_ok17 : TIok Try.prog 17 ⟨.ptr 261, 1, 8, [.lit (.pointer none)], false⟩ := tiok Try.type17 Try.underlying17 rfl rfl rfl (fun w M => FrL.cons' (Fr.lit' w M _) (FrL.nil' w M)) (fun fs h => by cases h) (rfl) (fun h => by cases h)
theorem tab_ok22 : TIok Try.prog 22 ⟨.slice 120, 1, 24, [.arr 4 0 [] false], false⟩ := tiok Try.type22 Try.underlying22 rfl rfl rfl (fun w M => FrL.cons' (Fr.nil w M _ (by decide)) (FrL.nil' w M)) (fun fs h => by cases h) (rfl) (fun h => by cases h)
theorem tab_ok23 : TIok Try.prog 23 ⟨.slice 124, 1, 24, [.arr 5 0 [] false], false⟩ := tiok Try.type23 Try.underlying23 rfl rfl rfl (fun w M => FrL.cons' (Fr.nil w M _ (by decide)) (FrL.nil' w M)) (fun fs h => by cases h) (rfl) (fun h => by cases h)
theorem tab_ok24 : TIok Try.prog 24 ⟨.struct [(22, 0), (3, 1), (23, 2)], 3, 56, [.arr 4 0 [] false, .lit (.int .i64 0), .arr 5 0 [] false], false⟩ := tiok Try.type24 Try.underlying24 rfl rfl rfl (fun w M => FrL.cons' (Fr.nil w M _ (by decide)) (FrL.cons' (Fr.lit' w M _) (FrL.cons' (Fr.nil w M _ (by decide)) (FrL.nil' w M)))) (fun fs h => ⟨_, rfl⟩) (⟨_, rfl, rfl⟩) (fun h => by cases h)
theorem tab_ok25 : TIok Try.prog 25 ⟨.struct [(22, 0), (3, 1), (23, 2)], 3, 56, [.arr 4 0 [] false, .lit (.int .i64 0), .arr 5 0 [] false], false⟩ := tiok Try.type25 Try.underlying25 rfl rfl rfl (fun w M => FrL.cons' (Fr.nil w M _ (by decide)) (FrL.cons' (Fr.lit' w M _) (FrL.cons' (Fr.nil w M _ (by decide)) (FrL.nil' w M)))) (fun fs h => ⟨_, rfl⟩) (⟨_, rfl, rfl⟩) (fun h => by cases h)
theorem tab_ok27 : TIok Try.prog 27 ⟨.slice 46, 1, 24, [.arr 3 0 [] false], false⟩ := tiok Try.type27 Try.underlying27 rfl rfl rfl (fun w M => FrL.cons' (Fr.nil w M _ (by decide)) (FrL.nil' w M)) (fun fs h => by cases h) (rfl) (fun h => by cases h)
theorem tab_ok29 : TIok Try.prog 29 ⟨.slice 130, 1, 24, [.arr 4 0 [] false], false⟩ := tiok Try.type29 Try.underlying29 rfl rfl rfl (fun w M => FrL.cons' (Fr.nil w M _ (by decide)) (FrL.nil' w M)) (fun fs h => by cases h) (rfl) (fun h => by cases h)
theorem tab_ok30 : TIok Try.prog 30 ⟨.slice 50, 1, 24, [.arr 5 0 [] false], false⟩ := tiok Try.type30 Try.underlying30 rfl rfl rfl (fun w M => FrL.cons' (Fr.nil w M _ (by decide)) (FrL.nil' w M)) (fun fs h => by cases h) (rfl) (fun h => by cases h)
theorem tab_ok31 : TIok Try.prog 31 ⟨.struct [(29, 0), (3, 1), (30, 2)], 3, 56, [.arr 4 0 [] false, .lit (.int .i64 0), .arr 5 0 [] false], false⟩ := tiok Try.type31 Try.underlying31 rfl rfl rfl (fun w M => FrL.cons' (Fr.nil w M _ (by decide)) (FrL.cons' (Fr.lit' w M _) (FrL.cons' (Fr.nil w M _ (by decide)) (FrL.nil' w M)))) (fun fs h => ⟨_, rfl⟩) (⟨_, rfl, rfl⟩) (fun h => by cases h)
theorem tab_ok32 : TIok Try.prog 32 ⟨.struct [(29, 0), (3, 1), (30, 2)], 3, 56, [.arr 4 0 [] false, .lit (.int .i64 0), .arr 5 0 [] false], false⟩ := tiok Try.type32 Try.underlying32 rfl rfl rfl (fun w M => FrL.cons' (Fr.nil w M _ (by decide)) (FrL.cons' (Fr.lit' w M _) (FrL.cons' (Fr.nil w M _ (by decide)) (FrL.nil' w M)))) (fun fs h => ⟨_, rfl⟩) (⟨_, rfl, rfl⟩) (fun h => by cases h)
theorem tab_ok39 : TIok Try.prog 39 ⟨.slice 5, 1, 24, [.arr 1 0 [] false], false⟩ := tiok Try.type39 Try.underlying39 rfl rfl rfl (fun w M => FrL.cons' (Fr.nil w M _ (by decide)) (FrL.nil' w M)) (fun fs h => by cases h) (rfl) (fun h => by cases h)
theorem tab_ok41 : TIok Try.prog 41 ⟨.slice 3, 1, 24, [.arr 1 0 [] false], false⟩ := tiok Try.type41 Try.underlying41 rfl rfl rfl (fun w M => FrL.cons' (Fr.nil w M _ (by decide)) (FrL.nil' w M)) (fun fs h => by cases h) (rfl) (fun h => by cases h)
theorem tab_ok45 : TIok Try.prog 45 ⟨.struct [(3, 0), (3, 1), (3, 2)], 3, 24, [.lit (.int .i64 0), .lit (.int .i64 0), .lit (.int .i64 0)], false⟩ := tiok Try.type45 Try.underlying45 rfl rfl rfl (fun w M => FrL.cons' (Fr.lit' w M _) (FrL.cons' (Fr.lit' w M _) (FrL.cons' (Fr.lit' w M _) (FrL.nil' w M)))) (fun fs h => ⟨_, rfl⟩) (⟨_, rfl, rfl⟩) (fun h => by cases h)
theorem tab_ok46 : TIok Try.prog 46 ⟨.struct [(3, 0), (3, 1), (3, 2)], 3, 24, [.lit (.int .i64 0), .lit (.int .i64 0), .lit (.int .i64 0)], true⟩ := tiok Try.type46 Try.underlying46 rfl rfl rfl (fun w M => FrL.cons' (Fr.lit' w M _) (FrL.cons' (Fr.lit' w M _) (FrL.cons' (Fr.lit' w M _) (FrL.nil' w M)))) (fun fs h => ⟨_, rfl⟩) (⟨_, rfl, rfl⟩) (fun h => ⟨Try.stoodInHeld46, Try.eqGuardType46, by simp [Program.fieldsOf, Try.underlying46]⟩)
theorem tab_ok48 : TIok Try.prog 48 ⟨.slice 174, 1, 24, [.arr 3 0 [] false], false⟩ := tiok Try.type48 Try.underlying48 rfl rfl rfl (fun w M => FrL.cons' (Fr.nil w M _ (by decide)) (FrL.nil' w M)) (fun fs h => by cases h) (rfl) (fun h => by cases h)
theorem tab_ok49 : TIok Try.prog 49 ⟨.struct [(3, 0), (3, 1), (3, 2), (41, 3), (48, 4)], 5, 72, [.lit (.int .i64 0), .lit (.int .i64 0), .lit (.int .i64 0), .arr 1 0 [] false, .arr 3 0 [] false], false⟩ := tiok Try.type49 Try.underlying49 rfl rfl rfl (fun w M => FrL.cons' (Fr.lit' w M _) (FrL.cons' (Fr.lit' w M _) (FrL.cons' (Fr.lit' w M _) (FrL.cons' (Fr.nil w M _ (by decide)) (FrL.cons' (Fr.nil w M _ (by decide)) (FrL.nil' w M)))))) (fun fs h => ⟨_, rfl⟩) (⟨_, rfl, rfl⟩) (fun h => by cases h)
theorem tab_ok50 : TIok Try.prog 50 ⟨.struct [(3, 0), (3, 1), (3, 2), (41, 3), (48, 4)], 5, 72, [.lit (.int .i64 0), .lit (.int .i64 0), .lit (.int .i64 0), .arr 1 0 [] false, .arr 3 0 [] false], false⟩ := tiok Try.type50 Try.underlying50 rfl rfl rfl (fun w M => FrL.cons' (Fr.lit' w M _) (FrL.cons' (Fr.lit' w M _) (FrL.cons' (Fr.lit' w M _) (FrL.cons' (Fr.nil w M _ (by decide)) (FrL.cons' (Fr.nil w M _ (by decide)) (FrL.nil' w M)))))) (fun fs h => ⟨_, rfl⟩) (⟨_, rfl, rfl⟩) (fun h => by cases h)
theorem tab_ok55 : TIok Try.prog 55 ⟨.slice 107, 1, 24, [.arr 3 0 [] false], false⟩ := tiok Try.type55 Try.underlying55 rfl rfl rfl (fun w M => FrL.cons' (Fr.nil w M _ (by decide)) (FrL.nil' w M)) (fun fs h => by cases h) (rfl) (fun h => by cases h)
theorem tab_ok56 : TIok Try.prog 56 ⟨.struct [(55, 0), (55, 1)], 2, 48, [.arr 3 0 [] false, .arr 3 0 [] false], false⟩ := tiok Try.type56 Try.underlying56 rfl rfl rfl (fun w M => FrL.cons' (Fr.nil w M _ (by decide)) (FrL.cons' (Fr.nil w M _ (by decide)) (FrL.nil' w M))) (fun fs h => ⟨_, rfl⟩) (⟨_, rfl, rfl⟩) (fun h => by cases h)
theorem tab_ok57 : TIok Try.prog 57 ⟨.struct [(55, 0), (55, 1)], 2, 48, [.arr 3 0 [] false, .arr 3 0 [] false], false⟩ := tiok Try.type57 Try.underlying57 rfl rfl rfl (fun w M => FrL.cons' (Fr.nil w M _ (by decide)) (FrL.cons' (Fr.nil w M _ (by decide)) (FrL.nil' w M))) (fun fs h => ⟨_, rfl⟩) (⟨_, rfl, rfl⟩) (fun h => by cases h)
theorem tab_ok67 : TIok Try.prog 67 ⟨.slice 161, 1, 24, [.arr 3 0 [] false], false⟩ := tiok Try.type67 Try.underlying67 rfl rfl rfl (fun w M => FrL.cons' (Fr.nil w M _ (by decide)) (FrL.nil' w M)) (fun fs h => by cases h) (rfl) (fun h => by cases h)
theorem tab_ok68 : TIok Try.prog 68 ⟨.struct [(67, 0), (67, 1)], 2, 48, [.arr 3 0 [] false, .arr 3 0 [] false], false⟩ := tiok Try.type68 Try.underlying68 rfl rfl rfl (fun w M => FrL.cons' (Fr.nil w M _ (by decide)) (FrL.cons' (Fr.nil w M _ (by decide)) (FrL.nil' w M))) (fun fs h => ⟨_, rfl⟩) (⟨_, rfl, rfl⟩) (fun h => by cases h)
theorem tab_ok69 : TIok Try.prog 69 ⟨.struct [(67, 0), (67, 1)], 2, 48, [.arr 3 0 [] false, .arr 3 0 [] false], false⟩ := tiok Try.type69 Try.underlying69 rfl rfl rfl (fun w M => FrL.cons' (Fr.nil w M _ (by decide)) (FrL.cons' (Fr.nil w M _ (by decide)) (FrL.nil' w M))) (fun fs h => ⟨_, rfl⟩) (⟨_, rfl, rfl⟩) (fun h => by cases h)
theorem tab_ok87 : TIok Try.prog 87 ⟨.ptr 143, 1, 8, [.lit (.pointer none)], false⟩ := tiok Try.type87 Try.underlying87 rfl rfl rfl (fun w M => FrL.cons' (Fr.lit' w M _) (FrL.nil' w M)) (fun fs h => by cases h) (rfl) (fun h => by cases h)
theorem tab_ok91 : TIok Try.prog 91 ⟨.func, 1, 8, [.lit .nilFunc], false⟩ := tiok Try.type91 Try.underlying91 rfl rfl rfl (fun w M => FrL.cons' (Fr.lit' w M _) (FrL.nil' w M)) (fun fs h => by cases h) (⟨_, _, _, rfl⟩) (fun h => by cases h)
theorem tab_ok92 : TIok Try.prog 92 ⟨.struct [(3, 0), (3, 1), (9, 2)], 3, 32, [.lit (.int .i64 0), .lit (.int .i64 0), .lit (.string ⟨#[]⟩)], false⟩ := tiok Try.type92 Try.underlying92 rfl rfl rfl (fun w M => FrL.cons' (Fr.lit' w M _) (FrL.cons' (Fr.lit' w M _) (FrL.cons' (Fr.lit' w M _) (FrL.nil' w M)))) (fun fs h => ⟨_, rfl⟩) (⟨_, rfl, rfl⟩) (fun h => by cases h)
theorem tab_ok93 : TIok Try.prog 93 ⟨.struct [(3, 0), (3, 1), (9, 2)], 3, 32, [.lit (.int .i64 0), .lit (.int .i64 0), .lit (.string ⟨#[]⟩)], true⟩ := tiok Try.type93 Try.underlying93 rfl rfl rfl (fun w M => FrL.cons' (Fr.lit' w M _) (FrL.cons' (Fr.lit' w M _) (FrL.cons' (Fr.lit' w M _) (FrL.nil' w M)))) (fun fs h => ⟨_, rfl⟩) (⟨_, rfl, rfl⟩) (fun h => ⟨Try.stoodInHeld93, Try.eqGuardType93, by simp [Program.fieldsOf, Try.underlying93]⟩)
theorem tab_ok98 : TIok Try.prog 98 ⟨.func, 1, 8, [.lit .nilFunc], false⟩ := tiok Try.type98 Try.underlying98 rfl rfl rfl (fun w M => FrL.cons' (Fr.lit' w M _) (FrL.nil' w M)) (fun fs h => by cases h) (⟨_, _, _, rfl⟩) (fun h => by cases h)
theorem tab_ok99 : TIok Try.prog 99 ⟨.func, 1, 8, [.lit .nilFunc], false⟩ := tiok Try.type99 Try.underlying99 rfl rfl rfl (fun w M => FrL.cons' (Fr.lit' w M _) (FrL.nil' w M)) (fun fs h => by cases h) (⟨_, _, _, rfl⟩) (fun h => by cases h)
theorem tab_ok102 : TIok Try.prog 102 ⟨.slice 4, 1, 24, [.arr 1 0 [] false], false⟩ := tiok Try.type102 Try.underlying102 rfl rfl rfl (fun w M => FrL.cons' (Fr.nil w M _ (by decide)) (FrL.nil' w M)) (fun fs h => by cases h) (rfl) (fun h => by cases h)
theorem tab_ok106 : TIok Try.prog 106 ⟨.struct [(3, 0), (3, 1), (3, 2)], 3, 24, [.lit (.int .i64 0), .lit (.int .i64 0), .lit (.int .i64 0)], false⟩ := tiok Try.type106 Try.underlying106 rfl rfl rfl (fun w M => FrL.cons' (Fr.lit' w M _) (FrL.cons' (Fr.lit' w M _) (FrL.cons' (Fr.lit' w M _) (FrL.nil' w M)))) (fun fs h => ⟨_, rfl⟩) (⟨_, rfl, rfl⟩) (fun h => by cases h)
theorem tab_ok107 : TIok Try.prog 107 ⟨.struct [(3, 0), (3, 1), (3, 2)], 3, 24, [.lit (.int .i64 0), .lit (.int .i64 0), .lit (.int .i64 0)], true⟩ := tiok Try.type107 Try.underlying107 rfl rfl rfl (fun w M => FrL.cons' (Fr.lit' w M _) (FrL.cons' (Fr.lit' w M _) (FrL.cons' (Fr.lit' w M _) (FrL.nil' w M)))) (fun fs h => ⟨_, rfl⟩) (⟨_, rfl, rfl⟩) (fun h => ⟨Try.stoodInHeld107, Try.eqGuardType107, by simp [Program.fieldsOf, Try.underlying107]⟩)
theorem tab_ok109 : TIok Try.prog 109 ⟨.func, 1, 8, [.lit .nilFunc], false⟩ := tiok Try.type109 Try.underlying109 rfl rfl rfl (fun w M => FrL.cons' (Fr.lit' w M _) (FrL.nil' w M)) (fun fs h => by cases h) (⟨_, _, _, rfl⟩) (fun h => by cases h)
theorem tab_ok118 : TIok Try.prog 118 ⟨.slice 194, 1, 24, [.arr 3 0 [] false], false⟩ := tiok Try.type118 Try.underlying118 rfl rfl rfl (fun w M => FrL.cons' (Fr.nil w M _ (by decide)) (FrL.nil' w M)) (fun fs h => by cases h) (rfl) (fun h => by cases h)
theorem tab_ok119 : TIok Try.prog 119 ⟨.struct [(3, 0), (3, 1), (3, 2), (118, 3)], 4, 48, [.lit (.int .i64 0), .lit (.int .i64 0), .lit (.int .i64 0), .arr 3 0 [] false], false⟩ := tiok Try.type119 Try.underlying119 rfl rfl rfl (fun w M => FrL.cons' (Fr.lit' w M _) (FrL.cons' (Fr.lit' w M _) (FrL.cons' (Fr.lit' w M _) (FrL.cons' (Fr.nil w M _ (by decide)) (FrL.nil' w M))))) (fun fs h => ⟨_, rfl⟩) (⟨_, rfl, rfl⟩) (fun h => by cases h)
theorem tab_ok120 : TIok Try.prog 120 ⟨.struct [(3, 0), (3, 1), (3, 2), (118, 3)], 4, 48, [.lit (.int .i64 0), .lit (.int .i64 0), .lit (.int .i64 0), .arr 3 0 [] false], false⟩ := tiok Try.type120 Try.underlying120 rfl rfl rfl (fun w M => FrL.cons' (Fr.lit' w M _) (FrL.cons' (Fr.lit' w M _) (FrL.cons' (Fr.lit' w M _) (FrL.cons' (Fr.nil w M _ (by decide)) (FrL.nil' w M))))) (fun fs h => ⟨_, rfl⟩) (⟨_, rfl, rfl⟩) (fun h => by cases h)
theorem tab_ok122 : TIok Try.prog 122 ⟨.slice 197, 1, 24, [.arr 3 0 [] false], false⟩ := tiok Try.type122 Try.underlying122 rfl rfl rfl (fun w M => FrL.cons' (Fr.nil w M _ (by decide)) (FrL.nil' w M)) (fun fs h => by cases h) (rfl) (fun h => by cases h)
theorem tab_ok123 : TIok Try.prog 123 ⟨.struct [(3, 0), (3, 1), (3, 2), (41, 3), (122, 4)], 5, 72, [.lit (.int .i64 0), .lit (.int .i64 0), .lit (.int .i64 0), .arr 1 0 [] false, .arr 3 0 [] false], false⟩ := tiok Try.type123 Try.underlying123 rfl rfl rfl (fun w M => FrL.cons' (Fr.lit' w M _) (FrL.cons' (Fr.lit' w M _) (FrL.cons' (Fr.lit' w M _) (FrL.cons' (Fr.nil w M _ (by decide)) (FrL.cons' (Fr.nil w M _ (by decide)) (FrL.nil' w M)))))) (fun fs h => ⟨_, rfl⟩) (⟨_, rfl, rfl⟩) (fun h => by cases h)
theorem tab_ok124 : TIok Try.prog 124 ⟨.struct [(3, 0), (3, 1), (3, 2), (41, 3), (122, 4)], 5, 72, [.lit (.int .i64 0), .lit (.int .i64 0), .lit (.int .i64 0), .arr 1 0 [] false, .arr 3 0 [] false], false⟩ := tiok Try.type124 Try.underlying124 rfl rfl rfl (fun w M => FrL.cons' (Fr.lit' w M _) (FrL.cons' (Fr.lit' w M _) (FrL.cons' (Fr.lit' w M _) (FrL.cons' (Fr.nil w M _ (by decide)) (FrL.cons' (Fr.nil w M _ (by decide)) (FrL.nil' w M)))))) (fun fs h => ⟨_, rfl⟩) (⟨_, rfl, rfl⟩) (fun h => by cases h)
theorem tab_ok128 : TIok Try.prog 128 ⟨.slice 93, 1, 24, [.arr 3 0 [] false], false⟩ := tiok Try.type128 Try.underlying128 rfl rfl rfl (fun w M => FrL.cons' (Fr.nil w M _ (by decide)) (FrL.nil' w M)) (fun fs h => by cases h) (rfl) (fun h => by cases h)
theorem tab_ok129 : TIok Try.prog 129 ⟨.struct [(3, 0), (3, 1), (3, 2), (128, 3)], 4, 48, [.lit (.int .i64 0), .lit (.int .i64 0), .lit (.int .i64 0), .arr 3 0 [] false], false⟩ := tiok Try.type129 Try.underlying129 rfl rfl rfl (fun w M => FrL.cons' (Fr.lit' w M _) (FrL.cons' (Fr.lit' w M _) (FrL.cons' (Fr.lit' w M _) (FrL.cons' (Fr.nil w M _ (by decide)) (FrL.nil' w M))))) (fun fs h => ⟨_, rfl⟩) (⟨_, rfl, rfl⟩) (fun h => by cases h)
theorem tab_ok130 : TIok Try.prog 130 ⟨.struct [(3, 0), (3, 1), (3, 2), (128, 3)], 4, 48, [.lit (.int .i64 0), .lit (.int .i64 0), .lit (.int .i64 0), .arr 3 0 [] false], false⟩ := tiok Try.type130 Try.underlying130 rfl rfl rfl (fun w M => FrL.cons' (Fr.lit' w M _) (FrL.cons' (Fr.lit' w M _) (FrL.cons' (Fr.lit' w M _) (FrL.cons' (Fr.nil w M _ (by decide)) (FrL.nil' w M))))) (fun fs h => ⟨_, rfl⟩) (⟨_, rfl, rfl⟩) (fun h => by cases h)
theorem tab_ok142 : TIok Try.prog 142 ⟨.struct [(39, 0), (3, 1)], 2, 32, [.arr 1 0 [] false, .lit (.int .i64 0)], false⟩ := tiok Try.type142 Try.underlying142 rfl rfl rfl (fun w M => FrL.cons' (Fr.nil w M _ (by decide)) (FrL.cons' (Fr.lit' w M _) (FrL.nil' w M))) (fun fs h => ⟨_, rfl⟩) (⟨_, rfl, rfl⟩) (fun h => by cases h)
theorem tab_ok143 : TIok Try.prog 143 ⟨.struct [(39, 0), (3, 1)], 2, 32, [.arr 1 0 [] false, .lit (.int .i64 0)], false⟩ := tiok Try.type143 Try.underlying143 rfl rfl rfl (fun w M => FrL.cons' (Fr.nil w M _ (by decide)) (FrL.cons' (Fr.lit' w M _) (FrL.nil' w M))) (fun fs h => ⟨_, rfl⟩) (⟨_, rfl, rfl⟩) (fun h => by cases h)
theorem tab_ok161 : TIok Try.prog 161 ⟨.struct [(3, 0), (3, 1), (3, 2)], 3, 24, [.lit (.int .i64 0), .lit (.int .i64 0), .lit (.int .i64 0)], false⟩ := tiok Try.type161 Try.underlying161 rfl rfl rfl (fun w M => FrL.cons' (Fr.lit' w M _) (FrL.cons' (Fr.lit' w M _) (FrL.cons' (Fr.lit' w M _) (FrL.nil' w M)))) (fun fs h => ⟨_, rfl⟩) (⟨_, rfl, rfl⟩) (fun h => by cases h)
theorem tab_ok173 : TIok Try.prog 173 ⟨.struct [(3, 0), (128, 1), (4, 2)], 3, 40, [.lit (.int .i64 0), .arr 3 0 [] false, .lit (.bool false)], false⟩ := tiok Try.type173 Try.underlying173 rfl rfl rfl (fun w M => FrL.cons' (Fr.lit' w M _) (FrL.cons' (Fr.nil w M _ (by decide)) (FrL.cons' (Fr.lit' w M _) (FrL.nil' w M)))) (fun fs h => ⟨_, rfl⟩) (⟨_, rfl, rfl⟩) (fun h => by cases h)
theorem tab_ok174 : TIok Try.prog 174 ⟨.struct [(3, 0), (128, 1), (4, 2)], 3, 40, [.lit (.int .i64 0), .arr 3 0 [] false, .lit (.bool false)], false⟩ := tiok Try.type174 Try.underlying174 rfl rfl rfl (fun w M => FrL.cons' (Fr.lit' w M _) (FrL.cons' (Fr.nil w M _ (by decide)) (FrL.cons' (Fr.lit' w M _) (FrL.nil' w M)))) (fun fs h => ⟨_, rfl⟩) (⟨_, rfl, rfl⟩) (fun h => by cases h)
theorem tab_ok175 : TIok Try.prog 175 ⟨.func, 1, 8, [.lit .nilFunc], false⟩ := tiok Try.type175 Try.underlying175 rfl rfl rfl (fun w M => FrL.cons' (Fr.lit' w M _) (FrL.nil' w M)) (fun fs h => by cases h) (⟨_, _, _, rfl⟩) (fun h => by cases h)
theorem tab_ok179 : TIok Try.prog 179 ⟨.slice 181, 1, 24, [.arr 4 0 [] false], false⟩ := tiok Try.type179 Try.underlying179 rfl rfl rfl (fun w M => FrL.cons' (Fr.nil w M _ (by decide)) (FrL.nil' w M)) (fun fs h => by cases h) (rfl) (fun h => by cases h)
theorem tab_ok180 : TIok Try.prog 180 ⟨.struct [(3, 0), (3, 1), (3, 2), (128, 3)], 4, 48, [.lit (.int .i64 0), .lit (.int .i64 0), .lit (.int .i64 0), .arr 3 0 [] false], false⟩ := tiok Try.type180 Try.underlying180 rfl rfl rfl (fun w M => FrL.cons' (Fr.lit' w M _) (FrL.cons' (Fr.lit' w M _) (FrL.cons' (Fr.lit' w M _) (FrL.cons' (Fr.nil w M _ (by decide)) (FrL.nil' w M))))) (fun fs h => ⟨_, rfl⟩) (⟨_, rfl, rfl⟩) (fun h => by cases h)
theorem tab_ok181 : TIok Try.prog 181 ⟨.struct [(3, 0), (3, 1), (3, 2), (128, 3)], 4, 48, [.lit (.int .i64 0), .lit (.int .i64 0), .lit (.int .i64 0), .arr 3 0 [] false], false⟩ := tiok Try.type181 Try.underlying181 rfl rfl rfl (fun w M => FrL.cons' (Fr.lit' w M _) (FrL.cons' (Fr.lit' w M _) (FrL.cons' (Fr.lit' w M _) (FrL.cons' (Fr.nil w M _ (by decide)) (FrL.nil' w M))))) (fun fs h => ⟨_, rfl⟩) (⟨_, rfl, rfl⟩) (fun h => by cases h)
theorem tab_ok191 : TIok Try.prog 191 ⟨.int .u64, 1, 8, [.lit (.int .u64 0)], false⟩ := tiok Try.type191 Try.underlying191 rfl rfl rfl (fun w M => FrL.cons' (Fr.lit' w M _) (FrL.nil' w M)) (fun fs h => by cases h) (rfl) (fun h => by cases h)
theorem tab_ok192 : TIok Try.prog 192 ⟨.ptr 57, 1, 8, [.lit (.pointer none)], false⟩ := tiok Try.type192 Try.underlying192 rfl rfl rfl (fun w M => FrL.cons' (Fr.lit' w M _) (FrL.nil' w M)) (fun fs h => by cases h) (rfl) (fun h => by cases h)
theorem tab_ok194 : TIok Try.prog 194 ⟨.struct [(3, 0), (3, 1), (9, 2)], 3, 32, [.lit (.int .i64 0), .lit (.int .i64 0), .lit (.string ⟨#[]⟩)], false⟩ := tiok Try.type194 Try.underlying194 rfl rfl rfl (fun w M => FrL.cons' (Fr.lit' w M _) (FrL.cons' (Fr.lit' w M _) (FrL.cons' (Fr.lit' w M _) (FrL.nil' w M)))) (fun fs h => ⟨_, rfl⟩) (⟨_, rfl, rfl⟩) (fun h => by cases h)
theorem tab_ok196 : TIok Try.prog 196 ⟨.struct [(3, 0), (118, 1), (4, 2)], 3, 40, [.lit (.int .i64 0), .arr 3 0 [] false, .lit (.bool false)], false⟩ := tiok Try.type196 Try.underlying196 rfl rfl rfl (fun w M => FrL.cons' (Fr.lit' w M _) (FrL.cons' (Fr.nil w M _ (by decide)) (FrL.cons' (Fr.lit' w M _) (FrL.nil' w M)))) (fun fs h => ⟨_, rfl⟩) (⟨_, rfl, rfl⟩) (fun h => by cases h)
theorem tab_ok197 : TIok Try.prog 197 ⟨.struct [(3, 0), (118, 1), (4, 2)], 3, 40, [.lit (.int .i64 0), .arr 3 0 [] false, .lit (.bool false)], false⟩ := tiok Try.type197 Try.underlying197 rfl rfl rfl (fun w M => FrL.cons' (Fr.lit' w M _) (FrL.cons' (Fr.nil w M _ (by decide)) (FrL.cons' (Fr.lit' w M _) (FrL.nil' w M)))) (fun fs h => ⟨_, rfl⟩) (⟨_, rfl, rfl⟩) (fun h => by cases h)
theorem tab_ok210 : TIok Try.prog 210 ⟨.slice 234, 1, 24, [.arr 2 0 [] false], false⟩ := tiok Try.type210 Try.underlying210 rfl rfl rfl (fun w M => FrL.cons' (Fr.nil w M _ (by decide)) (FrL.nil' w M)) (fun fs h => by cases h) (rfl) (fun h => by cases h)
theorem tab_ok213 : TIok Try.prog 213 ⟨.int .i64, 1, 8, [.lit (.int .i64 0)], false⟩ := tiok Try.type213 Try.underlying213 rfl rfl rfl (fun w M => FrL.cons' (Fr.lit' w M _) (FrL.nil' w M)) (fun fs h => by cases h) (rfl) (fun h => by cases h)
theorem tab_ok222 : TIok Try.prog 222 ⟨.int .u64, 1, 8, [.lit (.int .u64 0)], false⟩ := tiok Try.type222 Try.underlying222 rfl rfl rfl (fun w M => FrL.cons' (Fr.lit' w M _) (FrL.nil' w M)) (fun fs h => by cases h) (rfl) (fun h => by cases h)
theorem tab_ok233 : TIok Try.prog 233 ⟨.struct [(3, 0), (4, 1)], 2, 16, [.lit (.int .i64 0), .lit (.bool false)], false⟩ := tiok Try.type233 Try.underlying233 rfl rfl rfl (fun w M => FrL.cons' (Fr.lit' w M _) (FrL.cons' (Fr.lit' w M _) (FrL.nil' w M))) (fun fs h => ⟨_, rfl⟩) (⟨_, rfl, rfl⟩) (fun h => by cases h)
theorem tab_ok234 : TIok Try.prog 234 ⟨.struct [(3, 0), (4, 1)], 2, 16, [.lit (.int .i64 0), .lit (.bool false)], false⟩ := tiok Try.type234 Try.underlying234 rfl rfl rfl (fun w M => FrL.cons' (Fr.lit' w M _) (FrL.cons' (Fr.lit' w M _) (FrL.nil' w M))) (fun fs h => ⟨_, rfl⟩) (⟨_, rfl, rfl⟩) (fun h => by cases h)
theorem tab_ok236 : TIok Try.prog 236 ⟨.int .u64, 1, 8, [.lit (.int .u64 0)], false⟩ := tiok Try.type236 Try.underlying236 rfl rfl rfl (fun w M => FrL.cons' (Fr.lit' w M _) (FrL.nil' w M)) (fun fs h => by cases h) (rfl) (fun h => by cases h)
theorem tab_ok243 : TIok Try.prog 243 ⟨.slice 9, 1, 24, [.arr 1 0 [] false], false⟩ := tiok Try.type243 Try.underlying243 rfl rfl rfl (fun w M => FrL.cons' (Fr.nil w M _ (by decide)) (FrL.nil' w M)) (fun fs h => by cases h) (rfl) (fun h => by cases h)
def tab : List (Nat × TI) := [
 (2, ⟨.int .i64, 1, 8, [.lit (.int .i64 0)], false⟩),
 (3, ⟨.int .i64, 1, 8, [.lit (.int .i64 0)], false⟩),
 (4, ⟨.bool, 1, 1, [.lit (.bool false)], false⟩),
 (5, ⟨.int .u8, 1, 1, [.lit (.int .u8 0)], false⟩),
 (7, ⟨.struct [(2, 0), (3, 1), (4, 2), (6, 3)], 4, 24, [.lit (.int .i64 0), .lit (.int .i64 0), .lit (.bool false), .lit (.int .u8 0)], false⟩),
 (9, ⟨.str, 1, 16, [.lit (.string ⟨#[]⟩)], false⟩),
 (12, ⟨.int .u64, 1, 8, [.lit (.int .u64 0)], false⟩),
 (15, ⟨.ptr 249, 1, 8, [.lit (.pointer none)], false⟩),
 (16, ⟨.ptr 252, 1, 8, [.lit (.pointer none)], false⟩),
 (17, ⟨.ptr 261, 1, 8, [.lit (.pointer none)], false⟩),
 (22, ⟨.slice 120, 1, 24, [.arr 4 0 [] false], false⟩),
 (23, ⟨.slice 124, 1, 24, [.arr 5 0 [] false], false⟩),
 (24, ⟨.struct [(22, 0), (3, 1), (23, 2)], 3, 56, [.arr 4 0 [] false, .lit (.int .i64 0), .arr 5 0 [] false], false⟩),
 (25, ⟨.struct [(22, 0), (3, 1), (23, 2)], 3, 56, [.arr 4 0 [] false, .lit (.int .i64 0), .arr 5 0 [] false], false⟩),
 (27, ⟨.slice 46, 1, 24, [.arr 3 0 [] false], false⟩),
 (29, ⟨.slice 130, 1, 24, [.arr 4 0 [] false], false⟩),
 (30, ⟨.slice 50, 1, 24, [.arr 5 0 [] false], false⟩),
 (31, ⟨.struct [(29, 0), (3, 1), (30, 2)], 3, 56, [.arr 4 0 [] false, .lit (.int .i64 0), .arr 5 0 [] false], false⟩),
 (32, ⟨.struct [(29, 0), (3, 1), (30, 2)], 3, 56, [.arr 4 0 [] false, .lit (.int .i64 0), .arr 5 0 [] false], false⟩),
 (39, ⟨.slice 5, 1, 24, [.arr 1 0 [] false], false⟩),
 (41, ⟨.slice 3, 1, 24, [.arr 1 0 [] false], false⟩),
 (45, ⟨.struct [(3, 0), (3, 1), (3, 2)], 3, 24, [.lit (.int .i64 0), .lit (.int .i64 0), .lit (.int .i64 0)], false⟩),
 (46, ⟨.struct [(3, 0), (3, 1), (3, 2)], 3, 24, [.lit (.int .i64 0), .lit (.int .i64 0), .lit (.int .i64 0)], true⟩),
 (48, ⟨.slice 174, 1, 24, [.arr 3 0 [] false], false⟩),
 (49, ⟨.struct [(3, 0), (3, 1), (3, 2), (41, 3), (48, 4)], 5, 72, [.lit (.int .i64 0), .lit (.int .i64 0), .lit (.int .i64 0), .arr 1 0 [] false, .arr 3 0 [] false], false⟩),
 (50, ⟨.struct [(3, 0), (3, 1), (3, 2), (41, 3), (48, 4)], 5, 72, [.lit (.int .i64 0), .lit (.int .i64 0), .lit (.int .i64 0), .arr 1 0 [] false, .arr 3 0 [] false], false⟩),
 (55, ⟨.slice 107, 1, 24, [.arr 3 0 [] false], false⟩),
 (56, ⟨.struct [(55, 0), (55, 1)], 2, 48, [.arr 3 0 [] false, .arr 3 0 [] false], false⟩),
 (57, ⟨.struct [(55, 0), (55, 1)], 2, 48, [.arr 3 0 [] false, .arr 3 0 [] false], false⟩),
 (67, ⟨.slice 161, 1, 24, [.arr 3 0 [] false], false⟩),
 (68, ⟨.struct [(67, 0), (67, 1)], 2, 48, [.arr 3 0 [] false, .arr 3 0 [] false], false⟩),
 (69, ⟨.struct [(67, 0), (67, 1)], 2, 48, [.arr 3 0 [] false, .arr 3 0 [] false], false⟩),
 (87, ⟨.ptr 143, 1, 8, [.lit (.pointer none)], false⟩),
 (91, ⟨.func, 1, 8, [.lit .nilFunc], false⟩),
 (92, ⟨.struct [(3, 0), (3, 1), (9, 2)], 3, 32, [.lit (.int .i64 0), .lit (.int .i64 0), .lit (.string ⟨#[]⟩)], false⟩),
 (93, ⟨.struct [(3, 0), (3, 1), (9, 2)], 3, 32, [.lit (.int .i64 0), .lit (.int .i64 0), .lit (.string ⟨#[]⟩)], true⟩),
 (98, ⟨.func, 1, 8, [.lit .nilFunc], false⟩),
 (99, ⟨.func, 1, 8, [.lit .nilFunc], false⟩),
 (102, ⟨.slice 4, 1, 24, [.arr 1 0 [] false], false⟩),
 (106, ⟨.struct [(3, 0), (3, 1), (3, 2)], 3, 24, [.lit (.int .i64 0), .lit (.int .i64 0), .lit (.int .i64 0)], false⟩),
 (107, ⟨.struct [(3, 0), (3, 1), (3, 2)], 3, 24, [.lit (.int .i64 0), .lit (.int .i64 0), .lit (.int .i64 0)], true⟩),
 (109, ⟨.func, 1, 8, [.lit .nilFunc], false⟩),
 (118, ⟨.slice 194, 1, 24, [.arr 3 0 [] false], false⟩),
 (119, ⟨.struct [(3, 0), (3, 1), (3, 2), (118, 3)], 4, 48, [.lit (.int .i64 0), .lit (.int .i64 0), .lit (.int .i64 0), .arr 3 0 [] false], false⟩),
 (120, ⟨.struct [(3, 0), (3, 1), (3, 2), (118, 3)], 4, 48, [.lit (.int .i64 0), .lit (.int .i64 0), .lit (.int .i64 0), .arr 3 0 [] false], false⟩),
 (122, ⟨.slice 197, 1, 24, [.arr 3 0 [] false], false⟩),
 (123, ⟨.struct [(3, 0), (3, 1), (3, 2), (41, 3), (122, 4)], 5, 72, [.lit (.int .i64 0), .lit (.int .i64 0), .lit (.int .i64 0), .arr 1 0 [] false, .arr 3 0 [] false], false⟩),
 (124, ⟨.struct [(3, 0), (3, 1), (3, 2), (41, 3), (122, 4)], 5, 72, [.lit (.int .i64 0), .lit (.int .i64 0), .lit (.int .i64 0), .arr 1 0 [] false, .arr 3 0 [] false], false⟩),
 (128, ⟨.slice 93, 1, 24, [.arr 3 0 [] false], false⟩),
 (129, ⟨.struct [(3, 0), (3, 1), (3, 2), (128, 3)], 4, 48, [.lit (.int .i64 0), .lit (.int .i64 0), .lit (.int .i64 0), .arr 3 0 [] false], false⟩),
 (130, ⟨.struct [(3, 0), (3, 1), (3, 2), (128, 3)], 4, 48, [.lit (.int .i64 0), .lit (.int .i64 0), .lit (.int .i64 0), .arr 3 0 [] false], false⟩),
 (142, ⟨.struct [(39, 0), (3, 1)], 2, 32, [.arr 1 0 [] false, .lit (.int .i64 0)], false⟩),
 (143, ⟨.struct [(39, 0), (3, 1)], 2, 32, [.arr 1 0 [] false, .lit (.int .i64 0)], false⟩),
 (161, ⟨.struct [(3, 0), (3, 1), (3, 2)], 3, 24, [.lit (.int .i64 0), .lit (.int .i64 0), .lit (.int .i64 0)], false⟩),
 (173, ⟨.struct [(3, 0), (128, 1), (4, 2)], 3, 40, [.lit (.int .i64 0), .arr 3 0 [] false, .lit (.bool false)], false⟩),
 (174, ⟨.struct [(3, 0), (128, 1), (4, 2)], 3, 40, [.lit (.int .i64 0), .arr 3 0 [] false, .lit (.bool false)], false⟩),
 (175, ⟨.func, 1, 8, [.lit .nilFunc], false⟩),
 (179, ⟨.slice 181, 1, 24, [.arr 4 0 [] false], false⟩),
 (180, ⟨.struct [(3, 0), (3, 1), (3, 2), (128, 3)], 4, 48, [.lit (.int .i64 0), .lit (.int .i64 0), .lit (.int .i64 0), .arr 3 0 [] false], false⟩),
 (181, ⟨.struct [(3, 0), (3, 1), (3, 2), (128, 3)], 4, 48, [.lit (.int .i64 0), .lit (.int .i64 0), .lit (.int .i64 0), .arr 3 0 [] false], false⟩),
 (191, ⟨.int .u64, 1, 8, [.lit (.int .u64 0)], false⟩),
 (192, ⟨.ptr 57, 1, 8, [.lit (.pointer none)], false⟩),
 (194, ⟨.struct [(3, 0), (3, 1), (9, 2)], 3, 32, [.lit (.int .i64 0), .lit (.int .i64 0), .lit (.string ⟨#[]⟩)], false⟩),
 (196, ⟨.struct [(3, 0), (118, 1), (4, 2)], 3, 40, [.lit (.int .i64 0), .arr 3 0 [] false, .lit (.bool false)], false⟩),
 (197, ⟨.struct [(3, 0), (118, 1), (4, 2)], 3, 40, [.lit (.int .i64 0), .arr 3 0 [] false, .lit (.bool false)], false⟩),
 (210, ⟨.slice 234, 1, 24, [.arr 2 0 [] false], false⟩),
 (213, ⟨.int .i64, 1, 8, [.lit (.int .i64 0)], false⟩),
 (222, ⟨.int .u64, 1, 8, [.lit (.int .u64 0)], false⟩),
 (233, ⟨.struct [(3, 0), (4, 1)], 2, 16, [.lit (.int .i64 0), .lit (.bool false)], false⟩),
 (234, ⟨.struct [(3, 0), (4, 1)], 2, 16, [.lit (.int .i64 0), .lit (.bool false)], false⟩),
 (236, ⟨.int .u64, 1, 8, [.lit (.int .u64 0)], false⟩),
 (243, ⟨.slice 9, 1, 24, [.arr 1 0 [] false], false⟩)]
def τ : Tau := tabOf tab
theorem τ_ok : TOK Try.prog τ := tabOf_ok tab ⟨tab_ok2, ⟨tab_ok3, ⟨tab_ok4, ⟨tab_ok5, ⟨tab_ok7, ⟨tab_ok9, ⟨tab_ok12, ⟨tab_ok15, ⟨tab_ok16, ⟨tab_ok17, ⟨tab_ok22, ⟨tab_ok23, ⟨tab_ok24, ⟨tab_ok25, ⟨tab_ok27, ⟨tab_ok29, ⟨tab_ok30, ⟨tab_ok31, ⟨tab_ok32, ⟨tab_ok39, ⟨tab_ok41, ⟨tab_ok45, ⟨tab_ok46, ⟨tab_ok48, ⟨tab_ok49, ⟨tab_ok50, ⟨tab_ok55, ⟨tab_ok56, ⟨tab_ok57, ⟨tab_ok67, ⟨tab_ok68, ⟨tab_ok69, ⟨tab_ok87, ⟨tab_ok91, ⟨tab_ok92, ⟨tab_ok93, ⟨tab_ok98, ⟨tab_ok99, ⟨tab_ok102, ⟨tab_ok106, ⟨tab_ok107, ⟨tab_ok109, ⟨tab_ok118, ⟨tab_ok119, ⟨tab_ok120, ⟨tab_ok122, ⟨tab_ok123, ⟨tab_ok124, ⟨tab_ok128, ⟨tab_ok129, ⟨tab_ok130, ⟨tab_ok142, ⟨tab_ok143, ⟨tab_ok161, ⟨tab_ok173, ⟨tab_ok174, ⟨tab_ok175, ⟨tab_ok179, ⟨tab_ok180, ⟨tab_ok181, ⟨tab_ok191, ⟨tab_ok192, ⟨tab_ok194, ⟨tab_ok196, ⟨tab_ok197, ⟨tab_ok210, ⟨tab_ok213, ⟨tab_ok222, ⟨tab_ok233, ⟨tab_ok234, ⟨tab_ok236, ⟨tab_ok243, trivial⟩⟩⟩⟩⟩⟩⟩⟩⟩⟩⟩⟩⟩⟩⟩⟩⟩⟩⟩⟩⟩⟩⟩⟩⟩⟩⟩⟩⟩⟩⟩⟩⟩⟩⟩⟩⟩⟩⟩⟩⟩⟩⟩⟩⟩⟩⟩⟩⟩⟩⟩⟩⟩⟩⟩⟩⟩⟩⟩⟩⟩⟩⟩⟩⟩⟩⟩⟩⟩⟩⟩⟩
theorem zi_ok32 : ZIok Try.prog 32 [.arr 4 0 [] true, .lit (.int .i64 0), .arr 5 0 [] true] := ziok Try.type32 rfl (fun w M => FrL.cons' (Fr.nilF w M _ (by decide)) (FrL.cons' (Fr.lit' w M _) (FrL.cons' (Fr.nilF w M _ (by decide)) (FrL.nil' w M))))
theorem zi_ok50 : ZIok Try.prog 50 [.lit (.int .i64 0), .lit (.int .i64 0), .lit (.int .i64 0), .arr 1 0 [] true, .arr 3 0 [] true] := ziok Try.type50 rfl (fun w M => FrL.cons' (Fr.lit' w M _) (FrL.cons' (Fr.lit' w M _) (FrL.cons' (Fr.lit' w M _) (FrL.cons' (Fr.nilF w M _ (by decide)) (FrL.cons' (Fr.nilF w M _ (by decide)) (FrL.nil' w M))))))
theorem zi_ok130 : ZIok Try.prog 130 [.lit (.int .i64 0), .lit (.int .i64 0), .lit (.int .i64 0), .arr 3 0 [] true] := ziok Try.type130 rfl (fun w M => FrL.cons' (Fr.lit' w M _) (FrL.cons' (Fr.lit' w M _) (FrL.cons' (Fr.lit' w M _) (FrL.cons' (Fr.nilF w M _ (by decide)) (FrL.nil' w M)))))
theorem zi_ok174 : ZIok Try.prog 174 [.lit (.int .i64 0), .arr 3 0 [] true, .lit (.bool false)] := ziok Try.type174 rfl (fun w M => FrL.cons' (Fr.lit' w M _) (FrL.cons' (Fr.nilF w M _ (by decide)) (FrL.cons' (Fr.lit' w M _) (FrL.nil' w M))))
theorem dz_ok50 : DZok Try.prog 50 (DEnc.cells (T_impl_Txn.mk 0 0 0 [] [])) := dzok Try.type50 rfl (fun w M => OwL.cons' (Ow.lit' w M _) (OwL.cons' (Ow.lit' w M _) (OwL.cons' (Ow.lit' w M _) (OwL.cons' (Ow.nilF w M _ (by decide)) (OwL.cons' (Ow.nilF w M _ (by decide)) (OwL.nil' w M))))))
theorem dz_ok130 : DZok Try.prog 130 (DEnc.cells (T_impl_Version.mk 0 0 0 [])) := dzok Try.type130 rfl (fun w M => OwL.cons' (Ow.lit' w M _) (OwL.cons' (Ow.lit' w M _) (OwL.cons' (Ow.lit' w M _) (OwL.cons' (Ow.nilF w M _ (by decide)) (OwL.nil' w M)))))
theorem dz_ok174 : DZok Try.prog 174 (DEnc.cells (T_impl_Write.mk 0 [] false)) := dzok Try.type174 rfl (fun w M => OwL.cons' (Ow.lit' w M _) (OwL.cons' (Ow.nilF w M _ (by decide)) (OwL.cons' (Ow.lit' w M _) (OwL.nil' w M))))
theorem v {Γ : Ctx} {ops : Array Oper} {Q : Exit → St → Prop} {j : Nat} {st : St} (n : Nat) (nt : Nat) (T : List (Nat × V)) (H : Hp) (hk : opsP Try.prog Γ ops Q (j + n) ⟨nt, T, H⟩) (h : (evS τ [] ops n j st).map (fun s => s.keep (T.map (·.1))) = some ⟨nt, T, H⟩ := by kernel_rfl) : opsP Try.prog Γ ops Q j st := opsP_evk' (st' := ⟨nt, T, H⟩) τ_ok [] n (T.map (·.1)) h hk
theorem vM {Γ : Ctx} {ops : Array Oper} {Q : Exit → St → Prop} {j : Nat} {st : St} (mu : List Nat) (n : Nat) (nt : Nat) (T : List (Nat × V)) (H : Hp) (hk : opsP Try.prog Γ ops Q (j + n) ⟨nt, T, H⟩) (h : (evS τ mu ops n j st).map (fun s => s.keep (T.map (·.1))) = some ⟨nt, T, H⟩ := by kernel_rfl) : opsP Try.prog Γ ops Q j st := opsP_evk' (st' := ⟨nt, T, H⟩) τ_ok mu n (T.map (·.1)) h hk
theorem ve {Γ : Ctx} {ops : Array Oper} {Q : Exit → St → Prop} {j : Nat} {st : St} (n : Nat) (nt : Nat) (T : List (Nat × V)) (H : Hp) (hk : Q .normal ⟨nt, T, H⟩) (h : (evS τ [] ops n j st).map (fun s => s.keep (T.map (·.1))) = some ⟨nt, T, H⟩ := by kernel_rfl) (he : ops.size = j + n := by rfl) : opsP Try.prog Γ ops Q j st := opsP_evk' (st' := ⟨nt, T, H⟩) τ_ok [] n (T.map (·.1)) h (opsP_end he hk)
theorem veM {Γ : Ctx} {ops : Array Oper} {Q : Exit → St → Prop} {j : Nat} {st : St} (mu : List Nat) (n : Nat) (nt : Nat) (T : List (Nat × V)) (H : Hp) (hk : Q .normal ⟨nt, T, H⟩) (h : (evS τ mu ops n j st).map (fun s => s.keep (T.map (·.1))) = some ⟨nt, T, H⟩ := by kernel_rfl) (he : ops.size = j + n := by rfl) : opsP Try.prog Γ ops Q j st := opsP_evk' (st' := ⟨nt, T, H⟩) τ_ok mu n (T.map (·.1)) h (opsP_end he hk)
theorem rv {Γ : Ctx} {ops : Array Oper} {Q : Exit → St → Prop} {id : Nat} {st : St} (n : Nat) (nt : Nat) (T : List (Nat × V)) (H : Hp) (hk : opsP Try.prog Γ ops Q (0 + n) ⟨nt, T, H⟩) (h : (evS τ [] ops n 0 st).map (fun s => s.keep (T.map (·.1))) = some ⟨nt, T, H⟩ := by kernel_rfl) : pwp Try.prog Γ (.region id ops false) Q st := pwp_region (opsP_evk' (st' := ⟨nt, T, H⟩) τ_ok [] n (T.map (·.1)) h hk)
theorem rvM {Γ : Ctx} {ops : Array Oper} {Q : Exit → St → Prop} {id : Nat} {st : St} (mu : List Nat) (n : Nat) (nt : Nat) (T : List (Nat × V)) (H : Hp) (hk : opsP Try.prog Γ ops Q (0 + n) ⟨nt, T, H⟩) (h : (evS τ mu ops n 0 st).map (fun s => s.keep (T.map (·.1))) = some ⟨nt, T, H⟩ := by kernel_rfl) : pwp Try.prog Γ (.region id ops false) Q st := pwp_region (opsP_evk' (st' := ⟨nt, T, H⟩) τ_ok mu n (T.map (·.1)) h hk)
theorem rve {Γ : Ctx} {ops : Array Oper} {Q : Exit → St → Prop} {id : Nat} {st : St} (nt : Nat) (T : List (Nat × V)) (H : Hp) (hk : Q .normal ⟨nt, T, H⟩) (h : (evS τ [] ops ops.size 0 st).map (fun s => s.keep (T.map (·.1))) = some ⟨nt, T, H⟩ := by kernel_rfl) : pwp Try.prog Γ (.region id ops false) Q st := pwp_region (opsP_evk' (st' := ⟨nt, T, H⟩) τ_ok [] ops.size (T.map (·.1)) h (opsP_end (Nat.zero_add _).symm hk))
theorem rveM {Γ : Ctx} {ops : Array Oper} {Q : Exit → St → Prop} {id : Nat} {st : St} (mu : List Nat) (nt : Nat) (T : List (Nat × V)) (H : Hp) (hk : Q .normal ⟨nt, T, H⟩) (h : (evS τ mu ops ops.size 0 st).map (fun s => s.keep (T.map (·.1))) = some ⟨nt, T, H⟩ := by kernel_rfl) : pwp Try.prog Γ (.region id ops false) Q st := pwp_region (opsP_evk' (st' := ⟨nt, T, H⟩) τ_ok mu ops.size (T.map (·.1)) h (opsP_end (Nat.zero_add _).symm hk))
theorem srv {Γ : Ctx} {ops : Array Oper} {Q : Exit → St → Prop} {id : Nat} {y : Code} {st : St} (n : Nat) (nt : Nat) (T : List (Nat × V)) (H : Hp) (hk : opsP Try.prog Γ ops (Dthen (fun st' => pwp Try.prog Γ y Q st') Q) (0 + n) ⟨nt, T, H⟩) (h : (evS τ [] ops n 0 st).map (fun s => s.keep (T.map (·.1))) = some ⟨nt, T, H⟩ := by kernel_rfl) : pwp Try.prog Γ (.seq (.region id ops false) y) Q st := pwp_seq (pwp_region (opsP_evk' (st' := ⟨nt, T, H⟩) τ_ok [] n (T.map (·.1)) h hk))
theorem srvM {Γ : Ctx} {ops : Array Oper} {Q : Exit → St → Prop} {id : Nat} {y : Code} {st : St} (mu : List Nat) (n : Nat) (nt : Nat) (T : List (Nat × V)) (H : Hp) (hk : opsP Try.prog Γ ops (Dthen (fun st' => pwp Try.prog Γ y Q st') Q) (0 + n) ⟨nt, T, H⟩) (h : (evS τ mu ops n 0 st).map (fun s => s.keep (T.map (·.1))) = some ⟨nt, T, H⟩ := by kernel_rfl) : pwp Try.prog Γ (.seq (.region id ops false) y) Q st := pwp_seq (pwp_region (opsP_evk' (st' := ⟨nt, T, H⟩) τ_ok mu n (T.map (·.1)) h hk))
theorem srve {Γ : Ctx} {ops : Array Oper} {Q : Exit → St → Prop} {id : Nat} {y : Code} {st : St} (nt : Nat) (T : List (Nat × V)) (H : Hp) (hk : pwp Try.prog Γ y Q ⟨nt, T, H⟩) (h : (evS τ [] ops ops.size 0 st).map (fun s => s.keep (T.map (·.1))) = some ⟨nt, T, H⟩ := by kernel_rfl) : pwp Try.prog Γ (.seq (.region id ops false) y) Q st := pwp_seq (pwp_region (opsP_evk' (st' := ⟨nt, T, H⟩) τ_ok [] ops.size (T.map (·.1)) h (opsP_end (Nat.zero_add _).symm hk)))
theorem srveM {Γ : Ctx} {ops : Array Oper} {Q : Exit → St → Prop} {id : Nat} {y : Code} {st : St} (mu : List Nat) (nt : Nat) (T : List (Nat × V)) (H : Hp) (hk : pwp Try.prog Γ y Q ⟨nt, T, H⟩) (h : (evS τ mu ops ops.size 0 st).map (fun s => s.keep (T.map (·.1))) = some ⟨nt, T, H⟩ := by kernel_rfl) : pwp Try.prog Γ (.seq (.region id ops false) y) Q st := pwp_seq (pwp_region (opsP_evk' (st' := ⟨nt, T, H⟩) τ_ok mu ops.size (T.map (·.1)) h (opsP_end (Nat.zero_add _).symm hk)))
theorem pc {α : Type} {Γ : Ctx} {Q : Exit → St → Prop} {st : St} {o : Operand} {c d : Code} {e : Bool} {a b : Option α} {x : Option α} (h : (bif e then a else b) = x) (ht : a = x → pwp Try.prog Γ c Q st) (hf : b = x → pwp Try.prog Γ d Q st) (hc : evalV st o = some (.lit (.bool e)) := by kernel_rfl) : pwp Try.prog Γ (.cond o c d) Q st := pwp_cond e hc (fun q => ht (bifT q h)) (fun q => hf (bifF q h))
theorem rz {fn : Func} {out : V} {st : St} (hx : resV τ st fn.results.toList = some out := by kernel_rfl) (hz : frz out = true := by kernel_rfl) : Qret τ fn out .ret st := ⟨.inr rfl, out, [], hx, OutP.frz hz, List.nodup_nil⟩
theorem rt {fn : Func} {out : V} {st : St} (x : V) {ks : List Nat} (ho : OutP st.H x out ks) (hx : resV τ st fn.results.toList = some x := by kernel_rfl) (hn : ks.Nodup := by decide) : Qret τ fn out .ret st := ⟨.inr rfl, x, ks, hx, ho, hn⟩
theorem si {α : Type} {a b : α} (h : some a = some b) : a = b := Option.some.inj h
theorem fk (b : Bool) : b = true ∨ b = false := Bool.eq_false_or_eq_true b
theorem bT {α : Type} {c : Bool} {a b x : α} (hc : c = true) (h : (bif c then a else b) = x) : a = x := bifT hc h
theorem bF {α : Type} {c : Bool} {a b x : α} (hc : c = false) (h : (bif c then a else b) = x) : b = x := bifF hc h
theorem qv {Γ : Ctx} {ops : Array Oper} {vis mod : List (List Nat)} {Q : Exit → St → Prop} {q N j : Nat} {st : St} (ks : List Nat) (hp : hpIn ks (maskH ks 0 st.H)) (n nt : Nat) (T : List (Nat × V)) (H : Hp) (hk : qA Try.prog Γ ops vis mod (fun st' => opsP Try.prog Γ ops Q q st') (N - n) (j + n) ⟨nt, T, H⟩) (h : evO τ [] ops vis mod ks (N - n) n j st T = some ⟨nt, T, H⟩ := by kernel_rfl) (hN : N - n + n = N := by rfl) : qA Try.prog Γ ops vis mod (fun st' => opsP Try.prog Γ ops Q q st') N j st := hN ▸ qA_evO τ_ok [] ks n T hp h hk
theorem qvn {Γ : Ctx} {ops : Array Oper} {vis mod : List (List Nat)} {Q : Exit → St → Prop} {N j : Nat} {st : St} (ks : List Nat) (hp : hpIn ks (maskH ks 0 st.H)) (n nt : Nat) (T : List (Nat × V)) (H : Hp) (hk : Q .normal ⟨nt, T, H⟩) (h : (evA τ [] ops vis mod ks n j st).map (fun s => s.keep (T.map (·.1))) = some ⟨nt, T, H⟩ := by kernel_rfl) (hN : N = n := by rfl) : qA Try.prog Γ ops vis mod (fun st' => opsP Try.prog Γ ops Q ops.size st') N j st := hN ▸ qA_evN τ_ok [] ks n T hp h hk
theorem qvM {Γ : Ctx} {ops : Array Oper} {vis mod : List (List Nat)} {Q : Exit → St → Prop} {q N j : Nat} {st : St} (mu : List Nat) (ks : List Nat) (hp : hpIn ks (maskH ks 0 st.H)) (n nt : Nat) (T : List (Nat × V)) (H : Hp) (hk : qA Try.prog Γ ops vis mod (fun st' => opsP Try.prog Γ ops Q q st') (N - n) (j + n) ⟨nt, T, H⟩) (h : evO τ mu ops vis mod ks (N - n) n j st T = some ⟨nt, T, H⟩ := by kernel_rfl) (hN : N - n + n = N := by rfl) : qA Try.prog Γ ops vis mod (fun st' => opsP Try.prog Γ ops Q q st') N j st := hN ▸ qA_evO τ_ok mu ks n T hp h hk
theorem qvnM {Γ : Ctx} {ops : Array Oper} {vis mod : List (List Nat)} {Q : Exit → St → Prop} {N j : Nat} {st : St} (mu : List Nat) (ks : List Nat) (hp : hpIn ks (maskH ks 0 st.H)) (n nt : Nat) (T : List (Nat × V)) (H : Hp) (hk : Q .normal ⟨nt, T, H⟩) (h : (evA τ mu ops vis mod ks n j st).map (fun s => s.keep (T.map (·.1))) = some ⟨nt, T, H⟩ := by kernel_rfl) (hN : N = n := by rfl) : qA Try.prog Γ ops vis mod (fun st' => opsP Try.prog Γ ops Q ops.size st') N j st := hN ▸ qA_evN τ_ok mu ks n T hp h hk
theorem qX {Γ : Ctx} {ops : Array Oper} {vis mod : List (List Nat)} {Q : Exit → St → Prop} {q n j : Nat} {st : St} {Hm' : Hp} (dd : Option Nat) (x : V) (nt : Nat) (T : List (Nat × V)) (H : Hp) (h : ∀ Γ' : Ctx, (∀ i b, Γ'.L i b → Γ.L i b) → CoreE Try.prog Γ' ops j (stA ops vis j st) dd Hm' x) (hp : hpIn (lk vis j) Hm') (hk : qA Try.prog Γ ops vis mod (fun st' => opsP Try.prog Γ ops Q q st') n (j + 1) ⟨nt, T, H⟩) (hl : Nat.beq Hm'.length st.H.length = true := by kernel_rfl) (hm : fillH (lk mod j) 0 (maskH (lk vis j) 0 st.H) Hm' = Hm' := by kernel_rfl) (hx : dd = none ∨ okA (lk vis j) x = true ∨ frz x = true := by first | exact .inl rfl | exact .inr (.inl rfl) | exact .inr (.inr rfl)) (he : offE ops n (j + 1) T ((st.inH (fillH (lk mod j) 0 st.H Hm')).put dd x) = some ⟨nt, T, H⟩ := by kernel_rfl) : qA Try.prog Γ ops vis mod (fun st' => opsP Try.prog Γ ops Q q st') (n + 1) j st := qA_EO T h hp hk hl hm hx he
theorem qn {Γ : Ctx} {ops : Array Oper} {vis mod : List (List Nat)} {Q : Exit → St → Prop} {j : Nat} {st : St} (nt : Nat) (T : List (Nat × V)) (H : Hp) (hk : Q .normal ⟨nt, T, H⟩) (h : st.keep (T.map (·.1)) = ⟨nt, T, H⟩ := by kernel_rfl) : qA Try.prog Γ ops vis mod (fun st' => opsP Try.prog Γ ops Q ops.size st') 0 j st := qA_end (opsP_imp (Imp.to _ h) (opsP_end rfl hk))
theorem pN {Γ : Ctx} {ops : Array Oper} {Q : Exit → St → Prop} {st : St} {id : Nat} (n : Nat) (h : qA Try.prog Γ ops (List.replicate n []) (List.replicate n []) (fun st' => opsP Try.prog Γ ops Q ops.size st') ops.size 0 st) (hB : anyB ops (List.replicate n []) (List.replicate n []) = true := by kernel_rfl) : pwp Try.prog Γ (.region id ops true) Q st := pwp_any _ _ rfl hB h
theorem it {Γ : Ctx} {st st' : St} (ks : List Nat) (h : st.keep ks = st' := by kernel_rfl) : Imp Γ st st' := Imp.to ks h
theorem ip {Γ : Ctx} {c : Code} {Q : Exit → St → Prop} {st : St} (nt : Nat) (T : List (Nat × V)) (H : Hp) (hk : pwp Try.prog Γ c Q ⟨nt, T, H⟩) (h : st.keep (T.map (·.1)) = ⟨nt, T, H⟩ := by kernel_rfl) : pwp Try.prog Γ c Q st := pwp_imp (Imp.to _ h) hk
theorem io {Γ : Ctx} {ops : Array Oper} {j : Nat} {Q : Exit → St → Prop} {st : St} (nt : Nat) (T : List (Nat × V)) (H : Hp) (hk : opsP Try.prog Γ ops Q j ⟨nt, T, H⟩) (h : st.keep (T.map (·.1)) = ⟨nt, T, H⟩ := by kernel_rfl) : opsP Try.prog Γ ops Q j st := opsP_imp (Imp.to _ h) hk
theorem cF {Γ : Ctx} {ops : Array Oper} {j : Nat} {Q : Exit → St → Prop} {st : St} {g : FuncId} {xs : List V} {out x : V} (d : Nat) (hok : OK Try.prog g xs out) (hk : opsP Try.prog Γ ops Q (j + 1) (st.set d x)) (hf : FzTo out x := by exact FzTo.frz rfl) (hz : frzL xs = true := by rfl) (h : callV τ ops j st = some (d, g, xs) := by kernel_rfl) : opsP Try.prog Γ ops Q j st := opsP_callF τ d hok hf hz h hk
theorem cFo {Γ : Ctx} {ops : Array Oper} {j : Nat} {Q : Exit → St → Prop} {st : St} {g : FuncId} {xs : List V} {out x : V} (d : Nat) (hok : OK Try.prog g xs out) (hk : opsP Try.prog Γ ops Q (j + 1) (st.set d x)) (hf : FzTo out x := by exact FzTo.O _) (hz : frzL xs = true := by rfl) (h : callV τ ops j st = some (d, g, xs) := by kernel_rfl) : opsP Try.prog Γ ops Q j st := opsP_callF τ d hok hf hz h hk
theorem ow {f : FuncId} {fn : Func} {c : Code} {ins : List V} {out : V} (hf : Try.prog.funcs[f]? = some fn) (h : ∀ Γ, (∀ i b, ¬ Γ.L i b) → pwp Try.prog Γ c (Qret τ fn out) ⟨fn.ntmps, numbered 0 ins, []⟩) (hb : fn.body = some c := by exact rfl) (hnm : (fn.name == "runtime.NumGoroutine") = false := by kernel_rfl) (hn : Nat.ble ins.length fn.ntmps = true := by rfl) : OK Try.prog f ins out := OK_of_pwp τ_ok hf hb hnm hn h
end Go.D
