import Derived.Test.YtlcjmombcnkfcaaEtDSortI
import Derived.Test.YtlcjmombcnkfcaaEtDLst
import Derived.Test.YtlcjmombcnkfcaaEtDClr
import Derived.Test.YtlcjmombcnkfcaaProg
import Derived.KernelRfl
set_option linter.unusedVariables false
set_option linter.unusedSimpArgs false
namespace Go.D
open Go.Proofs
structure T_impl_Value where
 fKind : Int
 fN : Int
 fS : ByteArray
instance : Enc T_impl_Value := ⟨3, fun x => [I x.fKind, I x.fN, S x.fS], true, fun _ => rfl, by decide, fun _ => rfl, fun _ => rfl⟩
structure T_laws_Value where
 fKind : Int
 fN : Int
 fS : ByteArray
instance : Enc T_laws_Value := ⟨3, fun x => [I x.fKind, I x.fN, S x.fS], true, fun _ => rfl, by decide, fun _ => rfl, fun _ => rfl⟩
structure T_laws_Version where
 fKey : Int
 fBorn : Int
 fDied : Int
 fRow : List T_laws_Value
instance : Enc T_laws_Version := ⟨4, fun x => [I x.fKey, I x.fBorn, I x.fDied, A x.fRow], true, fun _ => rfl, by decide, fun _ => rfl, fun _ => rfl⟩
structure T_impl_Version where
 fKey : Int
 fBorn : Int
 fDied : Int
 fRow : List T_impl_Value
instance : Enc T_impl_Version := ⟨4, fun x => [I x.fKey, I x.fBorn, I x.fDied, A x.fRow], true, fun _ => rfl, by decide, fun _ => rfl, fun _ => rfl⟩
structure T_impl_Mark where
 fV : T_impl_Value
 fKey : Int
 fBorn : Int
 fDied : Int
instance : Enc T_impl_Mark := ⟨6, fun x => [I x.fV.fKind, I x.fV.fN, S x.fV.fS, I x.fKey, I x.fBorn, I x.fDied], true, fun _ => rfl, by decide, fun _ => rfl, fun _ => rfl⟩
structure T_laws_Mark where
 fV : T_laws_Value
 fKey : Int
 fBorn : Int
 fDied : Int
instance : Enc T_laws_Mark := ⟨6, fun x => [I x.fV.fKind, I x.fV.fN, S x.fV.fS, I x.fKey, I x.fBorn, I x.fDied], true, fun _ => rfl, by decide, fun _ => rfl, fun _ => rfl⟩
structure T_laws_Write where
 fKey : Int
 fRow : List T_laws_Value
 fGone : Bool
instance : Enc T_laws_Write := ⟨3, fun x => [I x.fKey, A x.fRow, B x.fGone], true, fun _ => rfl, by decide, fun _ => rfl, fun _ => rfl⟩
structure T_impl_Write where
 fKey : Int
 fRow : List T_impl_Value
 fGone : Bool
instance : Enc T_impl_Write := ⟨3, fun x => [I x.fKey, A x.fRow, B x.fGone], true, fun _ => rfl, by decide, fun _ => rfl, fun _ => rfl⟩
structure T_spec_l20Rd where
 fB : List UInt8
 fP : Int
instance : Enc T_spec_l20Rd := ⟨2, fun x => [A x.fB, I x.fP], true, fun _ => rfl, by decide, fun _ => rfl, fun _ => rfl⟩
structure T_impl_Column where
 fKind : Int
 fEmpty : Bool
instance : Enc T_impl_Column := ⟨2, fun x => [I x.fKind, B x.fEmpty], true, fun _ => rfl, by decide, fun _ => rfl, fun _ => rfl⟩
def eq_T_impl_Value (x y : T_impl_Value) : Bool := andB [x.fKind == y.fKind, x.fN == y.fN, x.fS.toList == y.fS.toList]
instance : DFlat T_impl_Value := ⟨fun _ => rfl⟩
instance : DFlat T_laws_Value := ⟨fun _ => rfl⟩
instance : DEnc T_laws_Version := ⟨fun x => [I x.fKey, I x.fBorn, I x.fDied, O x.fRow], fun _ => rfl, fun x => (FzToL.cons (FzTo.lit _) (FzToL.cons (FzTo.lit _) (FzToL.cons (FzTo.lit _) (FzToL.cons (FzTo.O _) FzToL.nil)))), fun _ => rfl⟩
instance : DNest T_laws_Version := ⟨⟩
instance : DOne T_laws_Version := ⟨fun _ => rfl⟩
instance : DBl T_laws_Version := ⟨fun x => (BlindL.cons (Blind.lit _) (BlindL.cons (Blind.lit _) (BlindL.cons (Blind.lit _) (BlindL.cons (Blind.O DFlat.lit _) BlindL.nil))))⟩
instance : DEnc T_impl_Version := ⟨fun x => [I x.fKey, I x.fBorn, I x.fDied, O x.fRow], fun _ => rfl, fun x => (FzToL.cons (FzTo.lit _) (FzToL.cons (FzTo.lit _) (FzToL.cons (FzTo.lit _) (FzToL.cons (FzTo.O _) FzToL.nil)))), fun _ => rfl⟩
instance : DNest T_impl_Version := ⟨⟩
instance : DOne T_impl_Version := ⟨fun _ => rfl⟩
instance : DBl T_impl_Version := ⟨fun x => (BlindL.cons (Blind.lit _) (BlindL.cons (Blind.lit _) (BlindL.cons (Blind.lit _) (BlindL.cons (Blind.O DFlat.lit _) BlindL.nil))))⟩
instance : DFlat T_impl_Mark := ⟨fun _ => rfl⟩
instance : DFlat T_laws_Mark := ⟨fun _ => rfl⟩
instance : DEnc T_laws_Write := ⟨fun x => [I x.fKey, O x.fRow, B x.fGone], fun _ => rfl, fun x => (FzToL.cons (FzTo.lit _) (FzToL.cons (FzTo.O _) (FzToL.cons (FzTo.lit _) FzToL.nil))), fun _ => rfl⟩
instance : DNest T_laws_Write := ⟨⟩
instance : DOne T_laws_Write := ⟨fun _ => rfl⟩
instance : DBl T_laws_Write := ⟨fun x => (BlindL.cons (Blind.lit _) (BlindL.cons (Blind.O DFlat.lit _) (BlindL.cons (Blind.lit _) BlindL.nil)))⟩
instance : DEnc T_impl_Write := ⟨fun x => [I x.fKey, O x.fRow, B x.fGone], fun _ => rfl, fun x => (FzToL.cons (FzTo.lit _) (FzToL.cons (FzTo.O _) (FzToL.cons (FzTo.lit _) FzToL.nil))), fun _ => rfl⟩
instance : DNest T_impl_Write := ⟨⟩
instance : DOne T_impl_Write := ⟨fun _ => rfl⟩
instance : DBl T_impl_Write := ⟨fun x => (BlindL.cons (Blind.lit _) (BlindL.cons (Blind.O DFlat.lit _) (BlindL.cons (Blind.lit _) BlindL.nil)))⟩
instance : DEnc T_spec_l20Rd := ⟨fun x => [O x.fB, I x.fP], fun _ => rfl, fun x => (FzToL.cons (FzTo.O _) (FzToL.cons (FzTo.lit _) FzToL.nil)), fun _ => rfl⟩
instance : DNest T_spec_l20Rd := ⟨⟩
instance : DOne T_spec_l20Rd := ⟨fun _ => rfl⟩
instance : DBl T_spec_l20Rd := ⟨fun x => (BlindL.cons (Blind.O DFlat.lit _) (BlindL.cons (Blind.lit _) BlindL.nil))⟩
instance : DFlat T_impl_Column := ⟨fun _ => rfl⟩
theorem tab_ok2 : TIok Try.prog 2 ⟨.int .i64, 1, 8, [.lit (.int .i64 0)], false⟩ := tiok Try.type2 Try.underlying2 rfl rfl rfl (fun w M => FrL.cons' (Fr.lit' w M _) (FrL.nil' w M)) (fun fs h => by cases h) (rfl) (fun h => by cases h)
theorem tab_ok3 : TIok Try.prog 3 ⟨.int .i64, 1, 8, [.lit (.int .i64 0)], false⟩ := tiok Try.type3 Try.underlying3 rfl rfl rfl (fun w M => FrL.cons' (Fr.lit' w M _) (FrL.nil' w M)) (fun fs h => by cases h) (rfl) (fun h => by cases h)
theorem tab_ok4 : TIok Try.prog 4 ⟨.bool, 1, 1, [.lit (.bool false)], false⟩ := tiok Try.type4 Try.underlying4 rfl rfl rfl (fun w M => FrL.cons' (Fr.lit' w M _) (FrL.nil' w M)) (fun fs h => by cases h) (rfl) (fun h => by cases h)
theorem tab_ok5 : TIok Try.prog 5 ⟨.int .u8, 1, 1, [.lit (.int .u8 0)], false⟩ := tiok Try.type5 Try.underlying5 rfl rfl rfl (fun w M => FrL.cons' (Fr.lit' w M _) (FrL.nil' w M)) (fun fs h => by cases h) (rfl) (fun h => by cases h)
theorem tab_ok7 : TIok Try.prog 7 ⟨.struct [(2, 0), (3, 1), (4, 2), (6, 3)], 4, 24, [.lit (.int .i64 0), .lit (.int .i64 0), .lit (.bool false), .lit (.int .u8 0)], false⟩ := tiok Try.type7 Try.underlying7 rfl rfl rfl (fun w M => FrL.cons' (Fr.lit' w M _) (FrL.cons' (Fr.lit' w M _) (FrL.cons' (Fr.lit' w M _) (FrL.cons' (Fr.lit' w M _) (FrL.nil' w M))))) (fun fs h => ⟨_, rfl⟩) (⟨_, rfl, rfl⟩) (fun h => by cases h)
theorem tab_ok9 : TIok Try.prog 9 ⟨.str, 1, 16, [.lit (.string ⟨#[]⟩)], false⟩ := tiok Try.type9 Try.underlying9 rfl rfl rfl (fun w M => FrL.cons' (Fr.lit' w M _) (FrL.nil' w M)) (fun fs h => by cases h) (rfl) (fun h => by cases h)
theorem tab_ok12 : TIok Try.prog 12 ⟨.int .u64, 1, 8, [.lit (.int .u64 0)], false⟩ := tiok Try.type12 Try.underlying12 rfl rfl rfl (fun w M => FrL.cons' (Fr.lit' w M _) (FrL.nil' w M)) (fun fs h => by cases h) (rfl) (fun h => by cases h)
theorem tab_ok15 : TIok Try.prog 15 ⟨.ptr 169, 1, 8, [.lit (.pointer none)], false⟩ := tiok Try.type15 Try.underlying15 rfl rfl rfl (fun w M => FrL.cons' (Fr.lit' w M _) (FrL.nil' w M)) (fun fs h => by cases h) (rfl) (fun h => by cases h)
theorem tab_ok16 : TIok Try.prog 16 ⟨.ptr 172, 1, 8, [.lit (.pointer none)], false⟩ := tiok Try.type16 Try.underlying16 rfl rfl rfl (fun w M => FrL.cons' (Fr.lit' w M _) (FrL.nil' w M)) (fun fs h => by cases h) (rfl) (fun h => by cases h)
theorem tab_ok17 : TIok Try.prog 17 ⟨.ptr 180, 1, 8, [.lit (.pointer none)], false⟩ := tiok Try.type17 Try.underlying17 rfl rfl rfl (fun w M => FrL.cons' (Fr.lit' w M _) (FrL.nil' w M)) (fun fs h => by cases h) (rfl) (fun h => by cases h)
theorem tab_ok22 : TIok Try.prog 22 ⟨.slice 64, 1, 24, [.arr 4 0 [] false], false⟩ := tiok Try.type22 Try.underlying22 rfl rfl rfl (fun w M => FrL.cons' (Fr.nil w M _ (by decide)) (FrL.nil' w M)) (fun fs h => by cases h) (rfl) (fun h => by cases h)
theorem tab_ok24 : TIok Try.prog 24 ⟨.slice 70, 1, 24, [.arr 6 0 [] false], false⟩ := tiok Try.type24 Try.underlying24 rfl rfl rfl (fun w M => FrL.cons' (Fr.nil w M _ (by decide)) (FrL.nil' w M)) (fun fs h => by cases h) (rfl) (fun h => by cases h)
theorem tab_ok26 : TIok Try.prog 26 ⟨.slice 66, 1, 24, [.arr 4 0 [] false], false⟩ := tiok Try.type26 Try.underlying26 rfl rfl rfl (fun w M => FrL.cons' (Fr.nil w M _ (by decide)) (FrL.nil' w M)) (fun fs h => by cases h) (rfl) (fun h => by cases h)
theorem tab_ok33 : TIok Try.prog 33 ⟨.slice 5, 1, 24, [.arr 1 0 [] false], false⟩ := tiok Try.type33 Try.underlying33 rfl rfl rfl (fun w M => FrL.cons' (Fr.nil w M _ (by decide)) (FrL.nil' w M)) (fun fs h => by cases h) (rfl) (fun h => by cases h)
theorem tab_ok39 : TIok Try.prog 39 ⟨.slice 105, 1, 24, [.arr 3 0 [] false], false⟩ := tiok Try.type39 Try.underlying39 rfl rfl rfl (fun w M => FrL.cons' (Fr.nil w M _ (by decide)) (FrL.nil' w M)) (fun fs h => by cases h) (rfl) (fun h => by cases h)
theorem tab_ok42 : TIok Try.prog 42 ⟨.slice 3, 1, 24, [.arr 1 0 [] false], false⟩ := tiok Try.type42 Try.underlying42 rfl rfl rfl (fun w M => FrL.cons' (Fr.nil w M _ (by decide)) (FrL.nil' w M)) (fun fs h => by cases h) (rfl) (fun h => by cases h)
theorem tab_ok43 : TIok Try.prog 43 ⟨.slice 47, 1, 24, [.arr 3 0 [] false], false⟩ := tiok Try.type43 Try.underlying43 rfl rfl rfl (fun w M => FrL.cons' (Fr.nil w M _ (by decide)) (FrL.nil' w M)) (fun fs h => by cases h) (rfl) (fun h => by cases h)
theorem tab_ok46 : TIok Try.prog 46 ⟨.struct [(3, 0), (3, 1), (9, 2)], 3, 32, [.lit (.int .i64 0), .lit (.int .i64 0), .lit (.string ⟨#[]⟩)], false⟩ := tiok Try.type46 Try.underlying46 rfl rfl rfl (fun w M => FrL.cons' (Fr.lit' w M _) (FrL.cons' (Fr.lit' w M _) (FrL.cons' (Fr.lit' w M _) (FrL.nil' w M)))) (fun fs h => ⟨_, rfl⟩) (⟨_, rfl, rfl⟩) (fun h => by cases h)
theorem tab_ok47 : TIok Try.prog 47 ⟨.struct [(3, 0), (3, 1), (9, 2)], 3, 32, [.lit (.int .i64 0), .lit (.int .i64 0), .lit (.string ⟨#[]⟩)], true⟩ := tiok Try.type47 Try.underlying47 rfl rfl rfl (fun w M => FrL.cons' (Fr.lit' w M _) (FrL.cons' (Fr.lit' w M _) (FrL.cons' (Fr.lit' w M _) (FrL.nil' w M)))) (fun fs h => ⟨_, rfl⟩) (⟨_, rfl, rfl⟩) (fun h => ⟨Try.stoodInHeld47, Try.eqGuardType47, by simp [Program.fieldsOf, Try.underlying47]⟩)
theorem tab_ok50 : TIok Try.prog 50 ⟨.slice 99, 1, 24, [.arr 6 0 [] false], false⟩ := tiok Try.type50 Try.underlying50 rfl rfl rfl (fun w M => FrL.cons' (Fr.nil w M _ (by decide)) (FrL.nil' w M)) (fun fs h => by cases h) (rfl) (fun h => by cases h)
theorem tab_ok51 : TIok Try.prog 51 ⟨.slice 102, 1, 24, [.arr 3 0 [] false], false⟩ := tiok Try.type51 Try.underlying51 rfl rfl rfl (fun w M => FrL.cons' (Fr.nil w M _ (by decide)) (FrL.nil' w M)) (fun fs h => by cases h) (rfl) (fun h => by cases h)
theorem tab_ok62 : TIok Try.prog 62 ⟨.slice 97, 1, 24, [.arr 3 0 [] false], false⟩ := tiok Try.type62 Try.underlying62 rfl rfl rfl (fun w M => FrL.cons' (Fr.nil w M _ (by decide)) (FrL.nil' w M)) (fun fs h => by cases h) (rfl) (fun h => by cases h)
theorem tab_ok63 : TIok Try.prog 63 ⟨.struct [(3, 0), (3, 1), (3, 2), (62, 3)], 4, 48, [.lit (.int .i64 0), .lit (.int .i64 0), .lit (.int .i64 0), .arr 3 0 [] false], false⟩ := tiok Try.type63 Try.underlying63 rfl rfl rfl (fun w M => FrL.cons' (Fr.lit' w M _) (FrL.cons' (Fr.lit' w M _) (FrL.cons' (Fr.lit' w M _) (FrL.cons' (Fr.nil w M _ (by decide)) (FrL.nil' w M))))) (fun fs h => ⟨_, rfl⟩) (⟨_, rfl, rfl⟩) (fun h => by cases h)
theorem tab_ok64 : TIok Try.prog 64 ⟨.struct [(3, 0), (3, 1), (3, 2), (62, 3)], 4, 48, [.lit (.int .i64 0), .lit (.int .i64 0), .lit (.int .i64 0), .arr 3 0 [] false], false⟩ := tiok Try.type64 Try.underlying64 rfl rfl rfl (fun w M => FrL.cons' (Fr.lit' w M _) (FrL.cons' (Fr.lit' w M _) (FrL.cons' (Fr.lit' w M _) (FrL.cons' (Fr.nil w M _ (by decide)) (FrL.nil' w M))))) (fun fs h => ⟨_, rfl⟩) (⟨_, rfl, rfl⟩) (fun h => by cases h)
theorem tab_ok65 : TIok Try.prog 65 ⟨.struct [(3, 0), (3, 1), (3, 2), (43, 3)], 4, 48, [.lit (.int .i64 0), .lit (.int .i64 0), .lit (.int .i64 0), .arr 3 0 [] false], false⟩ := tiok Try.type65 Try.underlying65 rfl rfl rfl (fun w M => FrL.cons' (Fr.lit' w M _) (FrL.cons' (Fr.lit' w M _) (FrL.cons' (Fr.lit' w M _) (FrL.cons' (Fr.nil w M _ (by decide)) (FrL.nil' w M))))) (fun fs h => ⟨_, rfl⟩) (⟨_, rfl, rfl⟩) (fun h => by cases h)
theorem tab_ok66 : TIok Try.prog 66 ⟨.struct [(3, 0), (3, 1), (3, 2), (43, 3)], 4, 48, [.lit (.int .i64 0), .lit (.int .i64 0), .lit (.int .i64 0), .arr 3 0 [] false], false⟩ := tiok Try.type66 Try.underlying66 rfl rfl rfl (fun w M => FrL.cons' (Fr.lit' w M _) (FrL.cons' (Fr.lit' w M _) (FrL.cons' (Fr.lit' w M _) (FrL.cons' (Fr.nil w M _ (by decide)) (FrL.nil' w M))))) (fun fs h => ⟨_, rfl⟩) (⟨_, rfl, rfl⟩) (fun h => by cases h)
theorem tab_ok69 : TIok Try.prog 69 ⟨.struct [(47, 0), (3, 3), (3, 4), (3, 5)], 6, 56, [.lit (.int .i64 0), .lit (.int .i64 0), .lit (.string ⟨#[]⟩), .lit (.int .i64 0), .lit (.int .i64 0), .lit (.int .i64 0)], false⟩ := tiok Try.type69 Try.underlying69 rfl rfl rfl (fun w M => FrL.cons' (Fr.lit' w M _) (FrL.cons' (Fr.lit' w M _) (FrL.cons' (Fr.lit' w M _) (FrL.cons' (Fr.lit' w M _) (FrL.cons' (Fr.lit' w M _) (FrL.cons' (Fr.lit' w M _) (FrL.nil' w M))))))) (fun fs h => ⟨_, rfl⟩) (⟨_, rfl, rfl⟩) (fun h => by cases h)
theorem tab_ok70 : TIok Try.prog 70 ⟨.struct [(47, 0), (3, 3), (3, 4), (3, 5)], 6, 56, [.lit (.int .i64 0), .lit (.int .i64 0), .lit (.string ⟨#[]⟩), .lit (.int .i64 0), .lit (.int .i64 0), .lit (.int .i64 0)], true⟩ := tiok Try.type70 Try.underlying70 rfl rfl rfl (fun w M => FrL.cons' (Fr.lit' w M _) (FrL.cons' (Fr.lit' w M _) (FrL.cons' (Fr.lit' w M _) (FrL.cons' (Fr.lit' w M _) (FrL.cons' (Fr.lit' w M _) (FrL.cons' (Fr.lit' w M _) (FrL.nil' w M))))))) (fun fs h => ⟨_, rfl⟩) (⟨_, rfl, rfl⟩) (fun h => ⟨Try.stoodInHeld70, Try.eqGuardType70, by simp [Program.fieldsOf, Try.underlying70]⟩)
theorem tab_ok73 : TIok Try.prog 73 ⟨.func, 1, 8, [.lit .nilFunc], false⟩ := tiok Try.type73 Try.underlying73 rfl rfl rfl (fun w M => FrL.cons' (Fr.lit' w M _) (FrL.nil' w M)) (fun fs h => by cases h) (⟨_, _, _, rfl⟩) (fun h => by cases h)
theorem tab_ok82 : TIok Try.prog 82 ⟨.ptr 124, 1, 8, [.lit (.pointer none)], false⟩ := tiok Try.type82 Try.underlying82 rfl rfl rfl (fun w M => FrL.cons' (Fr.lit' w M _) (FrL.nil' w M)) (fun fs h => by cases h) (rfl) (fun h => by cases h)
theorem tab_ok88 : TIok Try.prog 88 ⟨.func, 1, 8, [.lit .nilFunc], false⟩ := tiok Try.type88 Try.underlying88 rfl rfl rfl (fun w M => FrL.cons' (Fr.lit' w M _) (FrL.nil' w M)) (fun fs h => by cases h) (⟨_, _, _, rfl⟩) (fun h => by cases h)
theorem tab_ok90 : TIok Try.prog 90 ⟨.func, 1, 8, [.lit .nilFunc], false⟩ := tiok Try.type90 Try.underlying90 rfl rfl rfl (fun w M => FrL.cons' (Fr.lit' w M _) (FrL.nil' w M)) (fun fs h => by cases h) (⟨_, _, _, rfl⟩) (fun h => by cases h)
theorem tab_ok97 : TIok Try.prog 97 ⟨.struct [(3, 0), (3, 1), (9, 2)], 3, 32, [.lit (.int .i64 0), .lit (.int .i64 0), .lit (.string ⟨#[]⟩)], false⟩ := tiok Try.type97 Try.underlying97 rfl rfl rfl (fun w M => FrL.cons' (Fr.lit' w M _) (FrL.cons' (Fr.lit' w M _) (FrL.cons' (Fr.lit' w M _) (FrL.nil' w M)))) (fun fs h => ⟨_, rfl⟩) (⟨_, rfl, rfl⟩) (fun h => by cases h)
theorem tab_ok98 : TIok Try.prog 98 ⟨.struct [(97, 0), (3, 3), (3, 4), (3, 5)], 6, 56, [.lit (.int .i64 0), .lit (.int .i64 0), .lit (.string ⟨#[]⟩), .lit (.int .i64 0), .lit (.int .i64 0), .lit (.int .i64 0)], false⟩ := tiok Try.type98 Try.underlying98 rfl rfl rfl (fun w M => FrL.cons' (Fr.lit' w M _) (FrL.cons' (Fr.lit' w M _) (FrL.cons' (Fr.lit' w M _) (FrL.cons' (Fr.lit' w M _) (FrL.cons' (Fr.lit' w M _) (FrL.cons' (Fr.lit' w M _) (FrL.nil' w M))))))) (fun fs h => ⟨_, rfl⟩) (⟨_, rfl, rfl⟩) (fun h => by cases h)
theorem tab_ok99 : TIok Try.prog 99 ⟨.struct [(97, 0), (3, 3), (3, 4), (3, 5)], 6, 56, [.lit (.int .i64 0), .lit (.int .i64 0), .lit (.string ⟨#[]⟩), .lit (.int .i64 0), .lit (.int .i64 0), .lit (.int .i64 0)], false⟩ := tiok Try.type99 Try.underlying99 rfl rfl rfl (fun w M => FrL.cons' (Fr.lit' w M _) (FrL.cons' (Fr.lit' w M _) (FrL.cons' (Fr.lit' w M _) (FrL.cons' (Fr.lit' w M _) (FrL.cons' (Fr.lit' w M _) (FrL.cons' (Fr.lit' w M _) (FrL.nil' w M))))))) (fun fs h => ⟨_, rfl⟩) (⟨_, rfl, rfl⟩) (fun h => by cases h)
theorem tab_ok101 : TIok Try.prog 101 ⟨.struct [(3, 0), (62, 1), (4, 2)], 3, 40, [.lit (.int .i64 0), .arr 3 0 [] false, .lit (.bool false)], false⟩ := tiok Try.type101 Try.underlying101 rfl rfl rfl (fun w M => FrL.cons' (Fr.lit' w M _) (FrL.cons' (Fr.nil w M _ (by decide)) (FrL.cons' (Fr.lit' w M _) (FrL.nil' w M)))) (fun fs h => ⟨_, rfl⟩) (⟨_, rfl, rfl⟩) (fun h => by cases h)
theorem tab_ok102 : TIok Try.prog 102 ⟨.struct [(3, 0), (62, 1), (4, 2)], 3, 40, [.lit (.int .i64 0), .arr 3 0 [] false, .lit (.bool false)], false⟩ := tiok Try.type102 Try.underlying102 rfl rfl rfl (fun w M => FrL.cons' (Fr.lit' w M _) (FrL.cons' (Fr.nil w M _ (by decide)) (FrL.cons' (Fr.lit' w M _) (FrL.nil' w M)))) (fun fs h => ⟨_, rfl⟩) (⟨_, rfl, rfl⟩) (fun h => by cases h)
theorem tab_ok104 : TIok Try.prog 104 ⟨.struct [(3, 0), (43, 1), (4, 2)], 3, 40, [.lit (.int .i64 0), .arr 3 0 [] false, .lit (.bool false)], false⟩ := tiok Try.type104 Try.underlying104 rfl rfl rfl (fun w M => FrL.cons' (Fr.lit' w M _) (FrL.cons' (Fr.nil w M _ (by decide)) (FrL.cons' (Fr.lit' w M _) (FrL.nil' w M)))) (fun fs h => ⟨_, rfl⟩) (⟨_, rfl, rfl⟩) (fun h => by cases h)
theorem tab_ok105 : TIok Try.prog 105 ⟨.struct [(3, 0), (43, 1), (4, 2)], 3, 40, [.lit (.int .i64 0), .arr 3 0 [] false, .lit (.bool false)], false⟩ := tiok Try.type105 Try.underlying105 rfl rfl rfl (fun w M => FrL.cons' (Fr.lit' w M _) (FrL.cons' (Fr.nil w M _ (by decide)) (FrL.cons' (Fr.lit' w M _) (FrL.nil' w M)))) (fun fs h => ⟨_, rfl⟩) (⟨_, rfl, rfl⟩) (fun h => by cases h)
theorem tab_ok114 : TIok Try.prog 114 ⟨.int .u64, 1, 8, [.lit (.int .u64 0)], false⟩ := tiok Try.type114 Try.underlying114 rfl rfl rfl (fun w M => FrL.cons' (Fr.lit' w M _) (FrL.nil' w M)) (fun fs h => by cases h) (rfl) (fun h => by cases h)
theorem tab_ok123 : TIok Try.prog 123 ⟨.struct [(33, 0), (3, 1)], 2, 32, [.arr 1 0 [] false, .lit (.int .i64 0)], false⟩ := tiok Try.type123 Try.underlying123 rfl rfl rfl (fun w M => FrL.cons' (Fr.nil w M _ (by decide)) (FrL.cons' (Fr.lit' w M _) (FrL.nil' w M))) (fun fs h => ⟨_, rfl⟩) (⟨_, rfl, rfl⟩) (fun h => by cases h)
theorem tab_ok124 : TIok Try.prog 124 ⟨.struct [(33, 0), (3, 1)], 2, 32, [.arr 1 0 [] false, .lit (.int .i64 0)], false⟩ := tiok Try.type124 Try.underlying124 rfl rfl rfl (fun w M => FrL.cons' (Fr.nil w M _ (by decide)) (FrL.cons' (Fr.lit' w M _) (FrL.nil' w M))) (fun fs h => ⟨_, rfl⟩) (⟨_, rfl, rfl⟩) (fun h => by cases h)
theorem tab_ok135 : TIok Try.prog 135 ⟨.int .i64, 1, 8, [.lit (.int .i64 0)], false⟩ := tiok Try.type135 Try.underlying135 rfl rfl rfl (fun w M => FrL.cons' (Fr.lit' w M _) (FrL.nil' w M)) (fun fs h => by cases h) (rfl) (fun h => by cases h)
theorem tab_ok145 : TIok Try.prog 145 ⟨.int .u64, 1, 8, [.lit (.int .u64 0)], false⟩ := tiok Try.type145 Try.underlying145 rfl rfl rfl (fun w M => FrL.cons' (Fr.lit' w M _) (FrL.nil' w M)) (fun fs h => by cases h) (rfl) (fun h => by cases h)
theorem tab_ok151 : TIok Try.prog 151 ⟨.slice 161, 1, 24, [.arr 2 0 [] false], false⟩ := tiok Try.type151 Try.underlying151 rfl rfl rfl (fun w M => FrL.cons' (Fr.nil w M _ (by decide)) (FrL.nil' w M)) (fun fs h => by cases h) (rfl) (fun h => by cases h)
theorem tab_ok153 : TIok Try.prog 153 ⟨.int .u64, 1, 8, [.lit (.int .u64 0)], false⟩ := tiok Try.type153 Try.underlying153 rfl rfl rfl (fun w M => FrL.cons' (Fr.lit' w M _) (FrL.nil' w M)) (fun fs h => by cases h) (rfl) (fun h => by cases h)
theorem tab_ok160 : TIok Try.prog 160 ⟨.struct [(3, 0), (4, 1)], 2, 16, [.lit (.int .i64 0), .lit (.bool false)], false⟩ := tiok Try.type160 Try.underlying160 rfl rfl rfl (fun w M => FrL.cons' (Fr.lit' w M _) (FrL.cons' (Fr.lit' w M _) (FrL.nil' w M))) (fun fs h => ⟨_, rfl⟩) (⟨_, rfl, rfl⟩) (fun h => by cases h)
theorem tab_ok161 : TIok Try.prog 161 ⟨.struct [(3, 0), (4, 1)], 2, 16, [.lit (.int .i64 0), .lit (.bool false)], false⟩ := tiok Try.type161 Try.underlying161 rfl rfl rfl (fun w M => FrL.cons' (Fr.lit' w M _) (FrL.cons' (Fr.lit' w M _) (FrL.nil' w M))) (fun fs h => ⟨_, rfl⟩) (⟨_, rfl, rfl⟩) (fun h => by cases h)
theorem tab_ok166 : TIok Try.prog 166 ⟨.slice 9, 1, 24, [.arr 1 0 [] false], false⟩ := tiok Try.type166 Try.underlying166 rfl rfl rfl (fun w M => FrL.cons' (Fr.nil w M _ (by decide)) (FrL.nil' w M)) (fun fs h => by cases h) (rfl) (fun h => by cases h)
def tab : List (Nat × TI) := [
 (2, ⟨.int .i64, 1, 8, [.lit (.int .i64 0)], false⟩),
 (3, ⟨.int .i64, 1, 8, [.lit (.int .i64 0)], false⟩),
 (4, ⟨.bool, 1, 1, [.lit (.bool false)], false⟩),
 (5, ⟨.int .u8, 1, 1, [.lit (.int .u8 0)], false⟩),
 (7, ⟨.struct [(2, 0), (3, 1), (4, 2), (6, 3)], 4, 24, [.lit (.int .i64 0), .lit (.int .i64 0), .lit (.bool false), .lit (.int .u8 0)], false⟩),
 (9, ⟨.str, 1, 16, [.lit (.string ⟨#[]⟩)], false⟩),
 (12, ⟨.int .u64, 1, 8, [.lit (.int .u64 0)], false⟩),
 (15, ⟨.ptr 169, 1, 8, [.lit (.pointer none)], false⟩),
 (16, ⟨.ptr 172, 1, 8, [.lit (.pointer none)], false⟩),
 (17, ⟨.ptr 180, 1, 8, [.lit (.pointer none)], false⟩),
 (22, ⟨.slice 64, 1, 24, [.arr 4 0 [] false], false⟩),
 (24, ⟨.slice 70, 1, 24, [.arr 6 0 [] false], false⟩),
 (26, ⟨.slice 66, 1, 24, [.arr 4 0 [] false], false⟩),
 (33, ⟨.slice 5, 1, 24, [.arr 1 0 [] false], false⟩),
 (39, ⟨.slice 105, 1, 24, [.arr 3 0 [] false], false⟩),
 (42, ⟨.slice 3, 1, 24, [.arr 1 0 [] false], false⟩),
 (43, ⟨.slice 47, 1, 24, [.arr 3 0 [] false], false⟩),
 (46, ⟨.struct [(3, 0), (3, 1), (9, 2)], 3, 32, [.lit (.int .i64 0), .lit (.int .i64 0), .lit (.string ⟨#[]⟩)], false⟩),
 (47, ⟨.struct [(3, 0), (3, 1), (9, 2)], 3, 32, [.lit (.int .i64 0), .lit (.int .i64 0), .lit (.string ⟨#[]⟩)], true⟩),
 (50, ⟨.slice 99, 1, 24, [.arr 6 0 [] false], false⟩),
 (51, ⟨.slice 102, 1, 24, [.arr 3 0 [] false], false⟩),
 (62, ⟨.slice 97, 1, 24, [.arr 3 0 [] false], false⟩),
 (63, ⟨.struct [(3, 0), (3, 1), (3, 2), (62, 3)], 4, 48, [.lit (.int .i64 0), .lit (.int .i64 0), .lit (.int .i64 0), .arr 3 0 [] false], false⟩),
 (64, ⟨.struct [(3, 0), (3, 1), (3, 2), (62, 3)], 4, 48, [.lit (.int .i64 0), .lit (.int .i64 0), .lit (.int .i64 0), .arr 3 0 [] false], false⟩),
 (65, ⟨.struct [(3, 0), (3, 1), (3, 2), (43, 3)], 4, 48, [.lit (.int .i64 0), .lit (.int .i64 0), .lit (.int .i64 0), .arr 3 0 [] false], false⟩),
 (66, ⟨.struct [(3, 0), (3, 1), (3, 2), (43, 3)], 4, 48, [.lit (.int .i64 0), .lit (.int .i64 0), .lit (.int .i64 0), .arr 3 0 [] false], false⟩),
 (69, ⟨.struct [(47, 0), (3, 3), (3, 4), (3, 5)], 6, 56, [.lit (.int .i64 0), .lit (.int .i64 0), .lit (.string ⟨#[]⟩), .lit (.int .i64 0), .lit (.int .i64 0), .lit (.int .i64 0)], false⟩),
 (70, ⟨.struct [(47, 0), (3, 3), (3, 4), (3, 5)], 6, 56, [.lit (.int .i64 0), .lit (.int .i64 0), .lit (.string ⟨#[]⟩), .lit (.int .i64 0), .lit (.int .i64 0), .lit (.int .i64 0)], true⟩),
 (73, ⟨.func, 1, 8, [.lit .nilFunc], false⟩),
 (82, ⟨.ptr 124, 1, 8, [.lit (.pointer none)], false⟩),
 (88, ⟨.func, 1, 8, [.lit .nilFunc], false⟩),
 (90, ⟨.func, 1, 8, [.lit .nilFunc], false⟩),
 (97, ⟨.struct [(3, 0), (3, 1), (9, 2)], 3, 32, [.lit (.int .i64 0), .lit (.int .i64 0), .lit (.string ⟨#[]⟩)], false⟩),
 (98, ⟨.struct [(97, 0), (3, 3), (3, 4), (3, 5)], 6, 56, [.lit (.int .i64 0), .lit (.int .i64 0), .lit (.string ⟨#[]⟩), .lit (.int .i64 0), .lit (.int .i64 0), .lit (.int .i64 0)], false⟩),
 (99, ⟨.struct [(97, 0), (3, 3), (3, 4), (3, 5)], 6, 56, [.lit (.int .i64 0), .lit (.int .i64 0), .lit (.string ⟨#[]⟩), .lit (.int .i64 0), .lit (.int .i64 0), .lit (.int .i64 0)], false⟩),
 (101, ⟨.struct [(3, 0), (62, 1), (4, 2)], 3, 40, [.lit (.int .i64 0), .arr 3 0 [] false, .lit (.bool false)], false⟩),
 (102, ⟨.struct [(3, 0), (62, 1), (4, 2)], 3, 40, [.lit (.int .i64 0), .arr 3 0 [] false, .lit (.bool false)], false⟩),
 (104, ⟨.struct [(3, 0), (43, 1), (4, 2)], 3, 40, [.lit (.int .i64 0), .arr 3 0 [] false, .lit (.bool false)], false⟩),
 (105, ⟨.struct [(3, 0), (43, 1), (4, 2)], 3, 40, [.lit (.int .i64 0), .arr 3 0 [] false, .lit (.bool false)], false⟩),
 (114, ⟨.int .u64, 1, 8, [.lit (.int .u64 0)], false⟩),
 (123, ⟨.struct [(33, 0), (3, 1)], 2, 32, [.arr 1 0 [] false, .lit (.int .i64 0)], false⟩),
 (124, ⟨.struct [(33, 0), (3, 1)], 2, 32, [.arr 1 0 [] false, .lit (.int .i64 0)], false⟩),
 (135, ⟨.int .i64, 1, 8, [.lit (.int .i64 0)], false⟩),
 (145, ⟨.int .u64, 1, 8, [.lit (.int .u64 0)], false⟩),
 (151, ⟨.slice 161, 1, 24, [.arr 2 0 [] false], false⟩),
 (153, ⟨.int .u64, 1, 8, [.lit (.int .u64 0)], false⟩),
 (160, ⟨.struct [(3, 0), (4, 1)], 2, 16, [.lit (.int .i64 0), .lit (.bool false)], false⟩),
 (161, ⟨.struct [(3, 0), (4, 1)], 2, 16, [.lit (.int .i64 0), .lit (.bool false)], false⟩),
 (166, ⟨.slice 9, 1, 24, [.arr 1 0 [] false], false⟩)]
def τ : Tau := tabOf tab
theorem τ_ok : TOK Try.prog τ := tabOf_ok tab ⟨tab_ok2, ⟨tab_ok3, ⟨tab_ok4, ⟨tab_ok5, ⟨tab_ok7, ⟨tab_ok9, ⟨tab_ok12, ⟨tab_ok15, ⟨tab_ok16, ⟨tab_ok17, ⟨tab_ok22, ⟨tab_ok24, ⟨tab_ok26, ⟨tab_ok33, ⟨tab_ok39, ⟨tab_ok42, ⟨tab_ok43, ⟨tab_ok46, ⟨tab_ok47, ⟨tab_ok50, ⟨tab_ok51, ⟨tab_ok62, ⟨tab_ok63, ⟨tab_ok64, ⟨tab_ok65, ⟨tab_ok66, ⟨tab_ok69, ⟨tab_ok70, ⟨tab_ok73, ⟨tab_ok82, ⟨tab_ok88, ⟨tab_ok90, ⟨tab_ok97, ⟨tab_ok98, ⟨tab_ok99, ⟨tab_ok101, ⟨tab_ok102, ⟨tab_ok104, ⟨tab_ok105, ⟨tab_ok114, ⟨tab_ok123, ⟨tab_ok124, ⟨tab_ok135, ⟨tab_ok145, ⟨tab_ok151, ⟨tab_ok153, ⟨tab_ok160, ⟨tab_ok161, ⟨tab_ok166, trivial⟩⟩⟩⟩⟩⟩⟩⟩⟩⟩⟩⟩⟩⟩⟩⟩⟩⟩⟩⟩⟩⟩⟩⟩⟩⟩⟩⟩⟩⟩⟩⟩⟩⟩⟩⟩⟩⟩⟩⟩⟩⟩⟩⟩⟩⟩⟩⟩⟩
theorem zi_ok105 : ZIok Try.prog 105 [.lit (.int .i64 0), .arr 3 0 [] true, .lit (.bool false)] := ziok Try.type105 rfl (fun w M => FrL.cons' (Fr.lit' w M _) (FrL.cons' (Fr.nilF w M _ (by decide)) (FrL.cons' (Fr.lit' w M _) (FrL.nil' w M))))
theorem dz_ok105 : DZok Try.prog 105 (DEnc.cells (T_impl_Write.mk 0 [] false)) := dzok Try.type105 rfl (fun w M => OwL.cons' (Ow.lit' w M _) (OwL.cons' (Ow.nilF w M _ (by decide)) (OwL.cons' (Ow.lit' w M _) (OwL.nil' w M))))
theorem v {Γ : Ctx} {ops : Array Oper} {Q : Exit → St → Prop} {j : Nat} {st : St} (n : Nat) (nt : Nat) (T : List (Nat × V)) (H : Hp) (hk : opsP Try.prog Γ ops Q (j + n) ⟨nt, T, H⟩) (h : (evS τ [] ops n j st).map (fun s => s.keep (T.map (·.1))) = some ⟨nt, T, H⟩ := by kernel_rfl) : opsP Try.prog Γ ops Q j st := opsP_evk' (st' := ⟨nt, T, H⟩) τ_ok [] n (T.map (·.1)) h hk
theorem vM {Γ : Ctx} {ops : Array Oper} {Q : Exit → St → Prop} {j : Nat} {st : St} (mu : List Nat) (n : Nat) (nt : Nat) (T : List (Nat × V)) (H : Hp) (hk : opsP Try.prog Γ ops Q (j + n) ⟨nt, T, H⟩) (h : (evS τ mu ops n j st).map (fun s => s.keep (T.map (·.1))) = some ⟨nt, T, H⟩ := by kernel_rfl) : opsP Try.prog Γ ops Q j st := opsP_evk' (st' := ⟨nt, T, H⟩) τ_ok mu n (T.map (·.1)) h hk
theorem ve {Γ : Ctx} {ops : Array Oper} {Q : Exit → St → Prop} {j : Nat} {st : St} (n : Nat) (nt : Nat) (T : List (Nat × V)) (H : Hp) (hk : Q .normal ⟨nt, T, H⟩) (h : (evS τ [] ops n j st).map (fun s => s.keep (T.map (·.1))) = some ⟨nt, T, H⟩ := by kernel_rfl) (he : ops.size = j + n := by rfl) : opsP Try.prog Γ ops Q j st := opsP_evk' (st' := ⟨nt, T, H⟩) τ_ok [] n (T.map (·.1)) h (opsP_end he hk)
theorem veM {Γ : Ctx} {ops : Array Oper} {Q : Exit → St → Prop} {j : Nat} {st : St} (mu : List Nat) (n : Nat) (nt : Nat) (T : List (Nat × V)) (H : Hp) (hk : Q .normal ⟨nt, T, H⟩) (h : (evS τ mu ops n j st).map (fun s => s.keep (T.map (·.1))) = some ⟨nt, T, H⟩ := by kernel_rfl) (he : ops.size = j + n := by rfl) : opsP Try.prog Γ ops Q j st := opsP_evk' (st' := ⟨nt, T, H⟩) τ_ok mu n (T.map (·.1)) h (opsP_end he hk)
theorem rv {Γ : Ctx} {ops : Array Oper} {Q : Exit → St → Prop} {id : Nat} {st : St} (n : Nat) (nt : Nat) (T : List (Nat × V)) (H : Hp) (hk : opsP Try.prog Γ ops Q (0 + n) ⟨nt, T, H⟩) (h : (evS τ [] ops n 0 st).map (fun s => s.keep (T.map (·.1))) = some ⟨nt, T, H⟩ := by kernel_rfl) : pwp Try.prog Γ (.region id ops false) Q st := pwp_region (opsP_evk' (st' := ⟨nt, T, H⟩) τ_ok [] n (T.map (·.1)) h hk)
theorem rvM {Γ : Ctx} {ops : Array Oper} {Q : Exit → St → Prop} {id : Nat} {st : St} (mu : List Nat) (n : Nat) (nt : Nat) (T : List (Nat × V)) (H : Hp) (hk : opsP Try.prog Γ ops Q (0 + n) ⟨nt, T, H⟩) (h : (evS τ mu ops n 0 st).map (fun s => s.keep (T.map (·.1))) = some ⟨nt, T, H⟩ := by kernel_rfl) : pwp Try.prog Γ (.region id ops false) Q st := pwp_region (opsP_evk' (st' := ⟨nt, T, H⟩) τ_ok mu n (T.map (·.1)) h hk)
theorem rve {Γ : Ctx} {ops : Array Oper} {Q : Exit → St → Prop} {id : Nat} {st : St} (nt : Nat) (T : List (Nat × V)) (H : Hp) (hk : Q .normal ⟨nt, T, H⟩) (h : (evS τ [] ops ops.size 0 st).map (fun s => s.keep (T.map (·.1))) = some ⟨nt, T, H⟩ := by kernel_rfl) : pwp Try.prog Γ (.region id ops false) Q st := pwp_region (opsP_evk' (st' := ⟨nt, T, H⟩) τ_ok [] ops.size (T.map (·.1)) h (opsP_end (Nat.zero_add _).symm hk))
theorem rveM {Γ : Ctx} {ops : Array Oper} {Q : Exit → St → Prop} {id : Nat} {st : St} (mu : List Nat) (nt : Nat) (T : List (Nat × V)) (H : Hp) (hk : Q .normal ⟨nt, T, H⟩) (h : (evS τ mu ops ops.size 0 st).map (fun s => s.keep (T.map (·.1))) = some ⟨nt, T, H⟩ := by kernel_rfl) : pwp Try.prog Γ (.region id ops false) Q st := pwp_region (opsP_evk' (st' := ⟨nt, T, H⟩) τ_ok mu ops.size (T.map (·.1)) h (opsP_end (Nat.zero_add _).symm hk))
theorem srv {Γ : Ctx} {ops : Array Oper} {Q : Exit → St → Prop} {id : Nat} {y : Code} {st : St} (n : Nat) (nt : Nat) (T : List (Nat × V)) (H : Hp) (hk : opsP Try.prog Γ ops (Dthen (fun st' => pwp Try.prog Γ y Q st') Q) (0 + n) ⟨nt, T, H⟩) (h : (evS τ [] ops n 0 st).map (fun s => s.keep (T.map (·.1))) = some ⟨nt, T, H⟩ := by kernel_rfl) : pwp Try.prog Γ (.seq (.region id ops false) y) Q st := pwp_seq (pwp_region (opsP_evk' (st' := ⟨nt, T, H⟩) τ_ok [] n (T.map (·.1)) h hk))
theorem srvM {Γ : Ctx} {ops : Array Oper} {Q : Exit → St → Prop} {id : Nat} {y : Code} {st : St} (mu : List Nat) (n : Nat) (nt : Nat) (T : List (Nat × V)) (H : Hp) (hk : opsP Try.prog Γ ops (Dthen (fun st' => pwp Try.prog Γ y Q st') Q) (0 + n) ⟨nt, T, H⟩) (h : (evS τ mu ops n 0 st).map (fun s => s.keep (T.map (·.1))) = some ⟨nt, T, H⟩ := by kernel_rfl) : pwp Try.prog Γ (.seq (.region id ops false) y) Q st := pwp_seq (pwp_region (opsP_evk' (st' := ⟨nt, T, H⟩) τ_ok mu n (T.map (·.1)) h hk))
theorem srve {Γ : Ctx} {ops : Array Oper} {Q : Exit → St → Prop} {id : Nat} {y : Code} {st : St} (nt : Nat) (T : List (Nat × V)) (H : Hp) (hk : pwp Try.prog Γ y Q ⟨nt, T, H⟩) (h : (evS τ [] ops ops.size 0 st).map (fun s => s.keep (T.map (·.1))) = some ⟨nt, T, H⟩ := by kernel_rfl) : pwp Try.prog Γ (.seq (.region id ops false) y) Q st := pwp_seq (pwp_region (opsP_evk' (st' := ⟨nt, T, H⟩) τ_ok [] ops.size (T.map (·.1)) h (opsP_end (Nat.zero_add _).symm hk)))
theorem srveM {Γ : Ctx} {ops : Array Oper} {Q : Exit → St → Prop} {id : Nat} {y : Code} {st : St} (mu : List Nat) (nt : Nat) (T : List (Nat × V)) (H : Hp) (hk : pwp Try.prog Γ y Q ⟨nt, T, H⟩) (h : (evS τ mu ops ops.size 0 st).map (fun s => s.keep (T.map (·.1))) = some ⟨nt, T, H⟩ := by kernel_rfl) : pwp Try.prog Γ (.seq (.region id ops false) y) Q st := pwp_seq (pwp_region (opsP_evk' (st' := ⟨nt, T, H⟩) τ_ok mu ops.size (T.map (·.1)) h (opsP_end (Nat.zero_add _).symm hk)))
theorem pc {α : Type} {Γ : Ctx} {Q : Exit → St → Prop} {st : St} {o : Operand} {c d : Code} {e : Bool} {a b : Option α} {x : Option α} (h : (bif e then a else b) = x) (ht : a = x → pwp Try.prog Γ c Q st) (hf : b = x → pwp Try.prog Γ d Q st) (hc : evalV st o = some (.lit (.bool e)) := by kernel_rfl) : pwp Try.prog Γ (.cond o c d) Q st := pwp_cond e hc (fun q => ht (bifT q h)) (fun q => hf (bifF q h))
theorem rz {fn : Func} {out : V} {st : St} (hx : resV τ st fn.results.toList = some out := by kernel_rfl) (hz : frz out = true := by kernel_rfl) : Qret τ fn out .ret st := ⟨.inr rfl, out, [], hx, OutP.frz hz, List.nodup_nil⟩
theorem rt {fn : Func} {out : V} {st : St} (x : V) {ks : List Nat} (ho : OutP st.H x out ks) (hx : resV τ st fn.results.toList = some x := by kernel_rfl) (hn : ks.Nodup := by decide) : Qret τ fn out .ret st := ⟨.inr rfl, x, ks, hx, ho, hn⟩
theorem si {α : Type} {a b : α} (h : some a = some b) : a = b := Option.some.inj h
theorem fk (b : Bool) : b = true ∨ b = false := Bool.eq_false_or_eq_true b
theorem bT {α : Type} {c : Bool} {a b x : α} (hc : c = true) (h : (bif c then a else b) = x) : a = x := bifT hc h
theorem bF {α : Type} {c : Bool} {a b x : α} (hc : c = false) (h : (bif c then a else b) = x) : b = x := bifF hc h
theorem qv {Γ : Ctx} {ops : Array Oper} {vis mod : List (List Nat)} {Q : Exit → St → Prop} {q N j : Nat} {st : St} (ks : List Nat) (hp : hpIn ks (maskH ks 0 st.H)) (n nt : Nat) (T : List (Nat × V)) (H : Hp) (hk : qA Try.prog Γ ops vis mod (fun st' => opsP Try.prog Γ ops Q q st') (N - n) (j + n) ⟨nt, T, H⟩) (h : evO τ [] ops vis mod ks (N - n) n j st T = some ⟨nt, T, H⟩ := by kernel_rfl) (hN : N - n + n = N := by rfl) : qA Try.prog Γ ops vis mod (fun st' => opsP Try.prog Γ ops Q q st') N j st := hN ▸ qA_evO τ_ok [] ks n T hp h hk
theorem qvn {Γ : Ctx} {ops : Array Oper} {vis mod : List (List Nat)} {Q : Exit → St → Prop} {N j : Nat} {st : St} (ks : List Nat) (hp : hpIn ks (maskH ks 0 st.H)) (n nt : Nat) (T : List (Nat × V)) (H : Hp) (hk : Q .normal ⟨nt, T, H⟩) (h : (evA τ [] ops vis mod ks n j st).map (fun s => s.keep (T.map (·.1))) = some ⟨nt, T, H⟩ := by kernel_rfl) (hN : N = n := by rfl) : qA Try.prog Γ ops vis mod (fun st' => opsP Try.prog Γ ops Q ops.size st') N j st := hN ▸ qA_evN τ_ok [] ks n T hp h hk
theorem qvM {Γ : Ctx} {ops : Array Oper} {vis mod : List (List Nat)} {Q : Exit → St → Prop} {q N j : Nat} {st : St} (mu : List Nat) (ks : List Nat) (hp : hpIn ks (maskH ks 0 st.H)) (n nt : Nat) (T : List (Nat × V)) (H : Hp) (hk : qA Try.prog Γ ops vis mod (fun st' => opsP Try.prog Γ ops Q q st') (N - n) (j + n) ⟨nt, T, H⟩) (h : evO τ mu ops vis mod ks (N - n) n j st T = some ⟨nt, T, H⟩ := by kernel_rfl) (hN : N - n + n = N := by rfl) : qA Try.prog Γ ops vis mod (fun st' => opsP Try.prog Γ ops Q q st') N j st := hN ▸ qA_evO τ_ok mu ks n T hp h hk
theorem qvnM {Γ : Ctx} {ops : Array Oper} {vis mod : List (List Nat)} {Q : Exit → St → Prop} {N j : Nat} {st : St} (mu : List Nat) (ks : List Nat) (hp : hpIn ks (maskH ks 0 st.H)) (n nt : Nat) (T : List (Nat × V)) (H : Hp) (hk : Q .normal ⟨nt, T, H⟩) (h : (evA τ mu ops vis mod ks n j st).map (fun s => s.keep (T.map (·.1))) = some ⟨nt, T, H⟩ := by kernel_rfl) (hN : N = n := by rfl) : qA Try.prog Γ ops vis mod (fun st' => opsP Try.prog Γ ops Q ops.size st') N j st := hN ▸ qA_evN τ_ok mu ks n T hp h hk
theorem qX {Γ : Ctx} {ops : Array Oper} {vis mod : List (List Nat)} {Q : Exit → St → Prop} {q n j : Nat} {st : St} {Hm' : Hp} (dd : Option Nat) (x : V) (nt : Nat) (T : List (Nat × V)) (H : Hp) (h : ∀ Γ' : Ctx, (∀ i b, Γ'.L i b → Γ.L i b) → CoreE Try.prog Γ' ops j (stA ops vis j st) dd Hm' x) (hp : hpIn (lk vis j) Hm') (hk : qA Try.prog Γ ops vis mod (fun st' => opsP Try.prog Γ ops Q q st') n (j + 1) ⟨nt, T, H⟩) (hl : Nat.beq Hm'.length st.H.length = true := by kernel_rfl) (hm : fillH (lk mod j) 0 (maskH (lk vis j) 0 st.H) Hm' = Hm' := by kernel_rfl) (hx : dd = none ∨ okA (lk vis j) x = true ∨ frz x = true := by first | exact .inl rfl | exact .inr (.inl rfl) | exact .inr (.inr rfl)) (he : offE ops n (j + 1) T ((st.inH (fillH (lk mod j) 0 st.H Hm')).put dd x) = some ⟨nt, T, H⟩ := by kernel_rfl) : qA Try.prog Γ ops vis mod (fun st' => opsP Try.prog Γ ops Q q st') (n + 1) j st := qA_EO T h hp hk hl hm hx he
theorem qn {Γ : Ctx} {ops : Array Oper} {vis mod : List (List Nat)} {Q : Exit → St → Prop} {j : Nat} {st : St} (nt : Nat) (T : List (Nat × V)) (H : Hp) (hk : Q .normal ⟨nt, T, H⟩) (h : st.keep (T.map (·.1)) = ⟨nt, T, H⟩ := by kernel_rfl) : qA Try.prog Γ ops vis mod (fun st' => opsP Try.prog Γ ops Q ops.size st') 0 j st := qA_end (opsP_imp (Imp.to _ h) (opsP_end rfl hk))
theorem pN {Γ : Ctx} {ops : Array Oper} {Q : Exit → St → Prop} {st : St} {id : Nat} (n : Nat) (h : qA Try.prog Γ ops (List.replicate n []) (List.replicate n []) (fun st' => opsP Try.prog Γ ops Q ops.size st') ops.size 0 st) (hB : anyB ops (List.replicate n []) (List.replicate n []) = true := by kernel_rfl) : pwp Try.prog Γ (.region id ops true) Q st := pwp_any _ _ rfl hB h
theorem qt {Γ : Ctx} {a b c : St} (h : Imp Γ a b) (k : Imp Γ b c) : Imp Γ a c := h.trans k
theorem it {Γ : Ctx} {st st' : St} (ks : List Nat) (h : st.keep ks = st' := by kernel_rfl) : Imp Γ st st' := Imp.to ks h
theorem ip {Γ : Ctx} {c : Code} {Q : Exit → St → Prop} {st : St} (nt : Nat) (T : List (Nat × V)) (H : Hp) (hk : pwp Try.prog Γ c Q ⟨nt, T, H⟩) (h : st.keep (T.map (·.1)) = ⟨nt, T, H⟩ := by kernel_rfl) : pwp Try.prog Γ c Q st := pwp_imp (Imp.to _ h) hk
theorem io {Γ : Ctx} {ops : Array Oper} {j : Nat} {Q : Exit → St → Prop} {st : St} (nt : Nat) (T : List (Nat × V)) (H : Hp) (hk : opsP Try.prog Γ ops Q j ⟨nt, T, H⟩) (h : st.keep (T.map (·.1)) = ⟨nt, T, H⟩ := by kernel_rfl) : opsP Try.prog Γ ops Q j st := opsP_imp (Imp.to _ h) hk
theorem cF {Γ : Ctx} {ops : Array Oper} {j : Nat} {Q : Exit → St → Prop} {st : St} {g : FuncId} {xs : List V} {out x : V} (d : Nat) (hok : OK Try.prog g xs out) (hk : opsP Try.prog Γ ops Q (j + 1) (st.set d x)) (hf : FzTo out x := by exact FzTo.frz rfl) (hz : frzL xs = true := by rfl) (h : callV τ ops j st = some (d, g, xs) := by kernel_rfl) : opsP Try.prog Γ ops Q j st := opsP_callF τ d hok hf hz h hk
theorem cFo {Γ : Ctx} {ops : Array Oper} {j : Nat} {Q : Exit → St → Prop} {st : St} {g : FuncId} {xs : List V} {out x : V} (d : Nat) (hok : OK Try.prog g xs out) (hk : opsP Try.prog Γ ops Q (j + 1) (st.set d x)) (hf : FzTo out x := by exact FzTo.O _) (hz : frzL xs = true := by rfl) (h : callV τ ops j st = some (d, g, xs) := by kernel_rfl) : opsP Try.prog Γ ops Q j st := opsP_callF τ d hok hf hz h hk
theorem ow {f : FuncId} {fn : Func} {c : Code} {ins : List V} {out : V} (hf : Try.prog.funcs[f]? = some fn) (h : ∀ Γ, (∀ i b, ¬ Γ.L i b) → pwp Try.prog Γ c (Qret τ fn out) ⟨fn.ntmps, numbered 0 ins, []⟩) (hb : fn.body = some c := by exact rfl) (hnm : (fn.name == "runtime.NumGoroutine") = false := by kernel_rfl) (hn : Nat.ble ins.length fn.ntmps = true := by rfl) : OK Try.prog f ins out := OK_of_pwp τ_ok hf hb hnm hn h
end Go.D
