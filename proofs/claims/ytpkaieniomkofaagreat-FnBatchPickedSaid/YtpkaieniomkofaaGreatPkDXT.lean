import Derived.Test.YtpkaieniomkofaaGreatPkDFz
import Derived.Test.YtpkaieniomkofaaGreatProg
import Derived.KernelRfl
set_option linter.unusedVariables false
set_option linter.unusedSimpArgs false
namespace Go.D
open Go.Proofs
structure T_impl_Column where
 fKind : Int
 fEmpty : Bool
instance : Enc T_impl_Column := ⟨2, fun x => [I x.fKind, B x.fEmpty], true, fun _ => rfl, by decide, fun _ => rfl, fun _ => rfl⟩
structure T_impl_Value where
 fKind : Int
 fN : Int
 fS : ByteArray
instance : Enc T_impl_Value := ⟨3, fun x => [I x.fKind, I x.fN, S x.fS], true, fun _ => rfl, by decide, fun _ => rfl, fun _ => rfl⟩
structure T_impl_Table where
 fColumns : List T_impl_Column
 fRows : List (List T_impl_Value)
instance : Enc T_impl_Table := ⟨2, fun x => [A x.fColumns, A x.fRows], true, fun _ => rfl, by decide, fun _ => rfl, fun _ => rfl⟩
structure T_impl_Part where
 fKind : Int
 fN : Int
 fV : T_impl_Value
instance : Enc T_impl_Part := ⟨5, fun x => [I x.fKind, I x.fN, I x.fV.fKind, I x.fV.fN, S x.fV.fS], true, fun _ => rfl, by decide, fun _ => rfl, fun _ => rfl⟩
structure T_impl_Bond where
 fKind : Int
 fIn : Int
 fList : List Int
 fOf : Int
 fTo : List Int
 fFollow : Bool
 fE : List T_impl_Part
instance : Enc T_impl_Bond := ⟨7, fun x => [I x.fKind, I x.fIn, A x.fList, I x.fOf, A x.fTo, B x.fFollow, A x.fE], true, fun _ => rfl, by decide, fun _ => rfl, fun _ => rfl⟩
structure T_impl_Batch where
 fColumns : List (List T_impl_Value)
 fPicked : List Bool
instance : Enc T_impl_Batch := ⟨2, fun x => [A x.fColumns, A x.fPicked], true, fun _ => rfl, by decide, fun _ => rfl, fun _ => rfl⟩
structure T_impl_Change where
 fIn : Int
 fRow : List T_impl_Value
 fCome : Bool
instance : Enc T_impl_Change := ⟨3, fun x => [I x.fIn, A x.fRow, B x.fCome], true, fun _ => rfl, by decide, fun _ => rfl, fun _ => rfl⟩
structure T_impl_Guard where
 fIn : Int
 fE : List T_impl_Part
instance : Enc T_impl_Guard := ⟨2, fun x => [I x.fIn, A x.fE], true, fun _ => rfl, by decide, fun _ => rfl, fun _ => rfl⟩
structure T_impl_made where
 fColumns : List T_impl_Column
 fMost : Int
instance : Enc T_impl_made := ⟨2, fun x => [A x.fColumns, I x.fMost], true, fun _ => rfl, by decide, fun _ => rfl, fun _ => rfl⟩
structure T_spec_l20Rd where
 fB : List UInt8
 fP : Int
instance : Enc T_spec_l20Rd := ⟨2, fun x => [A x.fB, I x.fP], true, fun _ => rfl, by decide, fun _ => rfl, fun _ => rfl⟩
structure T_impl_Step where
 fKind : Int
 fA : Int
 fB : Int
 fN : Int
 fE : List T_impl_Part
 fList : List Int
instance : Enc T_impl_Step := ⟨6, fun x => [I x.fKind, I x.fA, I x.fB, I x.fN, A x.fE, A x.fList], true, fun _ => rfl, by decide, fun _ => rfl, fun _ => rfl⟩
def eq_T_impl_Value (x y : T_impl_Value) : Bool := andB [x.fKind == y.fKind, x.fN == y.fN, x.fS.toList == y.fS.toList]
instance : DFlat T_impl_Column := ⟨fun _ => rfl⟩
instance : DFlat T_impl_Value := ⟨fun _ => rfl⟩
instance : DEnc T_impl_Table := ⟨fun x => [O x.fColumns, OD x.fRows], fun _ => rfl, fun x => (FzToL.cons (FzTo.O _) (FzToL.cons (FzTo.OD _) FzToL.nil)), fun _ => rfl, fun x => (BlindL.cons (Blind.O DFlat.lit _) (BlindL.cons (Blind.OD _) BlindL.nil))⟩
instance : DNest T_impl_Table := ⟨⟩
instance : DOne T_impl_Table := ⟨fun _ => rfl⟩
instance : DFlat T_impl_Part := ⟨fun _ => rfl⟩
instance : DEnc T_impl_Bond := ⟨fun x => [I x.fKind, I x.fIn, O x.fList, I x.fOf, O x.fTo, B x.fFollow, O x.fE], fun _ => rfl, fun x => (FzToL.cons (FzTo.lit _) (FzToL.cons (FzTo.lit _) (FzToL.cons (FzTo.O _) (FzToL.cons (FzTo.lit _) (FzToL.cons (FzTo.O _) (FzToL.cons (FzTo.lit _) (FzToL.cons (FzTo.O _) FzToL.nil))))))), fun _ => rfl, fun x => (BlindL.cons (Blind.lit _) (BlindL.cons (Blind.lit _) (BlindL.cons (Blind.O DFlat.lit _) (BlindL.cons (Blind.lit _) (BlindL.cons (Blind.O DFlat.lit _) (BlindL.cons (Blind.lit _) (BlindL.cons (Blind.O DFlat.lit _) BlindL.nil)))))))⟩
instance : DNest T_impl_Bond := ⟨⟩
instance : DOne T_impl_Bond := ⟨fun _ => rfl⟩
instance : DEnc T_impl_Batch := ⟨fun x => [OD x.fColumns, O x.fPicked], fun _ => rfl, fun x => (FzToL.cons (FzTo.OD _) (FzToL.cons (FzTo.O _) FzToL.nil)), fun _ => rfl, fun x => (BlindL.cons (Blind.OD _) (BlindL.cons (Blind.O DFlat.lit _) BlindL.nil))⟩
instance : DNest T_impl_Batch := ⟨⟩
instance : DOne T_impl_Batch := ⟨fun _ => rfl⟩
instance : DEnc T_impl_Change := ⟨fun x => [I x.fIn, O x.fRow, B x.fCome], fun _ => rfl, fun x => (FzToL.cons (FzTo.lit _) (FzToL.cons (FzTo.O _) (FzToL.cons (FzTo.lit _) FzToL.nil))), fun _ => rfl, fun x => (BlindL.cons (Blind.lit _) (BlindL.cons (Blind.O DFlat.lit _) (BlindL.cons (Blind.lit _) BlindL.nil)))⟩
instance : DNest T_impl_Change := ⟨⟩
instance : DOne T_impl_Change := ⟨fun _ => rfl⟩
instance : DEnc T_impl_Guard := ⟨fun x => [I x.fIn, O x.fE], fun _ => rfl, fun x => (FzToL.cons (FzTo.lit _) (FzToL.cons (FzTo.O _) FzToL.nil)), fun _ => rfl, fun x => (BlindL.cons (Blind.lit _) (BlindL.cons (Blind.O DFlat.lit _) BlindL.nil))⟩
instance : DNest T_impl_Guard := ⟨⟩
instance : DOne T_impl_Guard := ⟨fun _ => rfl⟩
instance : DEnc T_impl_made := ⟨fun x => [O x.fColumns, I x.fMost], fun _ => rfl, fun x => (FzToL.cons (FzTo.O _) (FzToL.cons (FzTo.lit _) FzToL.nil)), fun _ => rfl, fun x => (BlindL.cons (Blind.O DFlat.lit _) (BlindL.cons (Blind.lit _) BlindL.nil))⟩
instance : DNest T_impl_made := ⟨⟩
instance : DOne T_impl_made := ⟨fun _ => rfl⟩
instance : DEnc T_spec_l20Rd := ⟨fun x => [O x.fB, I x.fP], fun _ => rfl, fun x => (FzToL.cons (FzTo.O _) (FzToL.cons (FzTo.lit _) FzToL.nil)), fun _ => rfl, fun x => (BlindL.cons (Blind.O DFlat.lit _) (BlindL.cons (Blind.lit _) BlindL.nil))⟩
instance : DNest T_spec_l20Rd := ⟨⟩
instance : DOne T_spec_l20Rd := ⟨fun _ => rfl⟩
instance : DEnc T_impl_Step := ⟨fun x => [I x.fKind, I x.fA, I x.fB, I x.fN, O x.fE, O x.fList], fun _ => rfl, fun x => (FzToL.cons (FzTo.lit _) (FzToL.cons (FzTo.lit _) (FzToL.cons (FzTo.lit _) (FzToL.cons (FzTo.lit _) (FzToL.cons (FzTo.O _) (FzToL.cons (FzTo.O _) FzToL.nil)))))), fun _ => rfl, fun x => (BlindL.cons (Blind.lit _) (BlindL.cons (Blind.lit _) (BlindL.cons (Blind.lit _) (BlindL.cons (Blind.lit _) (BlindL.cons (Blind.O DFlat.lit _) (BlindL.cons (Blind.O DFlat.lit _) BlindL.nil))))))⟩
instance : DNest T_impl_Step := ⟨⟩
instance : DOne T_impl_Step := ⟨fun _ => rfl⟩
theorem tab_ok2 : TIok Tryz.prog 2 ⟨.int .i64, 1, 8, [.lit (.int .i64 0)], false⟩ := tiok Tryz.type2 Tryz.underlying2 rfl rfl rfl (fun w M => FrL.cons' (Fr.lit' w M _) (FrL.nil' w M)) (fun fs h => by cases h) (rfl) (fun h => by cases h)
theorem tab_ok3 : TIok Tryz.prog 3 ⟨.int .i64, 1, 8, [.lit (.int .i64 0)], false⟩ := tiok Tryz.type3 Tryz.underlying3 rfl rfl rfl (fun w M => FrL.cons' (Fr.lit' w M _) (FrL.nil' w M)) (fun fs h => by cases h) (rfl) (fun h => by cases h)
theorem tab_ok4 : TIok Tryz.prog 4 ⟨.bool, 1, 1, [.lit (.bool false)], false⟩ := tiok Tryz.type4 Tryz.underlying4 rfl rfl rfl (fun w M => FrL.cons' (Fr.lit' w M _) (FrL.nil' w M)) (fun fs h => by cases h) (rfl) (fun h => by cases h)
theorem tab_ok5 : TIok Tryz.prog 5 ⟨.int .u8, 1, 1, [.lit (.int .u8 0)], false⟩ := tiok Tryz.type5 Tryz.underlying5 rfl rfl rfl (fun w M => FrL.cons' (Fr.lit' w M _) (FrL.nil' w M)) (fun fs h => by cases h) (rfl) (fun h => by cases h)
theorem tab_ok7 : TIok Tryz.prog 7 ⟨.struct [(2, 0), (3, 1), (4, 2), (6, 3)], 4, 24, [.lit (.int .i64 0), .lit (.int .i64 0), .lit (.bool false), .lit (.int .u8 0)], false⟩ := tiok Tryz.type7 Tryz.underlying7 rfl rfl rfl (fun w M => FrL.cons' (Fr.lit' w M _) (FrL.cons' (Fr.lit' w M _) (FrL.cons' (Fr.lit' w M _) (FrL.cons' (Fr.lit' w M _) (FrL.nil' w M))))) (fun fs h => ⟨_, rfl⟩) (⟨_, rfl, rfl⟩) (fun h => by cases h)
theorem tab_ok9 : TIok Tryz.prog 9 ⟨.str, 1, 16, [.lit (.string ⟨#[]⟩)], false⟩ := tiok Tryz.type9 Tryz.underlying9 rfl rfl rfl (fun w M => FrL.cons' (Fr.lit' w M _) (FrL.nil' w M)) (fun fs h => by cases h) (rfl) (fun h => by cases h)
theorem tab_ok15 : TIok Tryz.prog 15 ⟨.ptr 203, 1, 8, [.lit (.pointer none)], false⟩ := tiok Tryz.type15 Tryz.underlying15 rfl rfl rfl (fun w M => FrL.cons' (Fr.lit' w M _) (FrL.nil' w M)) (fun fs h => by cases h) (rfl) (fun h => by cases h)
theorem tab_ok16 : TIok Tryz.prog 16 ⟨.ptr 206, 1, 8, [.lit (.pointer none)], false⟩ := tiok Tryz.type16 Tryz.underlying16 rfl rfl rfl (fun w M => FrL.cons' (Fr.lit' w M _) (FrL.nil' w M)) (fun fs h => by cases h) (rfl) (fun h => by cases h)
theorem tab_ok17 : TIok Tryz.prog 17 ⟨.ptr 215, 1, 8, [.lit (.pointer none)], false⟩ := tiok Tryz.type17 Tryz.underlying17 rfl rfl rfl (fun w M => FrL.cons' (Fr.lit' w M _) (FrL.nil' w M)) (fun fs h => by cases h) (rfl) (fun h => by cases h)
theorem tab_ok22 : TIok Tryz.prog 22 ⟨.slice 5, 1, 24, [.arr 1 0 [] false], false⟩ := tiok Tryz.type22 Tryz.underlying22 rfl rfl rfl (fun w M => FrL.cons' (Fr.nil w M _ (by decide)) (FrL.nil' w M)) (fun fs h => by cases h) (rfl) (fun h => by cases h)
theorem tab_ok23 : TIok Tryz.prog 23 ⟨.slice 35, 1, 24, [.arr 2 0 [] false], false⟩ := tiok Tryz.type23 Tryz.underlying23 rfl rfl rfl (fun w M => FrL.cons' (Fr.nil w M _ (by decide)) (FrL.nil' w M)) (fun fs h => by cases h) (rfl) (fun h => by cases h)
theorem tab_ok24 : TIok Tryz.prog 24 ⟨.slice 82, 1, 24, [.arr 2 0 [] false], false⟩ := tiok Tryz.type24 Tryz.underlying24 rfl rfl rfl (fun w M => FrL.cons' (Fr.nil w M _ (by decide)) (FrL.nil' w M)) (fun fs h => by cases h) (rfl) (fun h => by cases h)
theorem tab_ok31 : TIok Tryz.prog 31 ⟨.slice 68, 1, 24, [.arr 1 0 [] false], false⟩ := tiok Tryz.type31 Tryz.underlying31 rfl rfl rfl (fun w M => FrL.cons' (Fr.nil w M _ (by decide)) (FrL.nil' w M)) (fun fs h => by cases h) (rfl) (fun h => by cases h)
theorem tab_ok33 : TIok Tryz.prog 33 ⟨.slice 55, 1, 24, [.arr 2 0 [] false], false⟩ := tiok Tryz.type33 Tryz.underlying33 rfl rfl rfl (fun w M => FrL.cons' (Fr.nil w M _ (by decide)) (FrL.nil' w M)) (fun fs h => by cases h) (rfl) (fun h => by cases h)
theorem tab_ok34 : TIok Tryz.prog 34 ⟨.struct [(33, 0), (31, 1)], 2, 48, [.arr 2 0 [] false, .arr 1 0 [] false], false⟩ := tiok Tryz.type34 Tryz.underlying34 rfl rfl rfl (fun w M => FrL.cons' (Fr.nil w M _ (by decide)) (FrL.cons' (Fr.nil w M _ (by decide)) (FrL.nil' w M))) (fun fs h => ⟨_, rfl⟩) (⟨_, rfl, rfl⟩) (fun h => by cases h)
theorem tab_ok35 : TIok Tryz.prog 35 ⟨.struct [(33, 0), (31, 1)], 2, 48, [.arr 2 0 [] false, .arr 1 0 [] false], false⟩ := tiok Tryz.type35 Tryz.underlying35 rfl rfl rfl (fun w M => FrL.cons' (Fr.nil w M _ (by decide)) (FrL.cons' (Fr.nil w M _ (by decide)) (FrL.nil' w M))) (fun fs h => ⟨_, rfl⟩) (⟨_, rfl, rfl⟩) (fun h => by cases h)
theorem tab_ok38 : TIok Tryz.prog 38 ⟨.slice 3, 1, 24, [.arr 1 0 [] false], false⟩ := tiok Tryz.type38 Tryz.underlying38 rfl rfl rfl (fun w M => FrL.cons' (Fr.nil w M _ (by decide)) (FrL.nil' w M)) (fun fs h => by cases h) (rfl) (fun h => by cases h)
theorem tab_ok39 : TIok Tryz.prog 39 ⟨.slice 138, 1, 24, [.arr 5 0 [] false], false⟩ := tiok Tryz.type39 Tryz.underlying39 rfl rfl rfl (fun w M => FrL.cons' (Fr.nil w M _ (by decide)) (FrL.nil' w M)) (fun fs h => by cases h) (rfl) (fun h => by cases h)
theorem tab_ok40 : TIok Tryz.prog 40 ⟨.struct [(3, 0), (3, 1), (38, 2), (3, 3), (38, 4), (4, 5), (39, 6)], 7, 104, [.lit (.int .i64 0), .lit (.int .i64 0), .arr 1 0 [] false, .lit (.int .i64 0), .arr 1 0 [] false, .lit (.bool false), .arr 5 0 [] false], false⟩ := tiok Tryz.type40 Tryz.underlying40 rfl rfl rfl (fun w M => FrL.cons' (Fr.lit' w M _) (FrL.cons' (Fr.lit' w M _) (FrL.cons' (Fr.nil w M _ (by decide)) (FrL.cons' (Fr.lit' w M _) (FrL.cons' (Fr.nil w M _ (by decide)) (FrL.cons' (Fr.lit' w M _) (FrL.cons' (Fr.nil w M _ (by decide)) (FrL.nil' w M)))))))) (fun fs h => ⟨_, rfl⟩) (⟨_, rfl, rfl⟩) (fun h => by cases h)
theorem tab_ok41 : TIok Tryz.prog 41 ⟨.struct [(3, 0), (3, 1), (38, 2), (3, 3), (38, 4), (4, 5), (39, 6)], 7, 104, [.lit (.int .i64 0), .lit (.int .i64 0), .arr 1 0 [] false, .lit (.int .i64 0), .arr 1 0 [] false, .lit (.bool false), .arr 5 0 [] false], false⟩ := tiok Tryz.type41 Tryz.underlying41 rfl rfl rfl (fun w M => FrL.cons' (Fr.lit' w M _) (FrL.cons' (Fr.lit' w M _) (FrL.cons' (Fr.nil w M _ (by decide)) (FrL.cons' (Fr.lit' w M _) (FrL.cons' (Fr.nil w M _ (by decide)) (FrL.cons' (Fr.lit' w M _) (FrL.cons' (Fr.nil w M _ (by decide)) (FrL.nil' w M)))))))) (fun fs h => ⟨_, rfl⟩) (⟨_, rfl, rfl⟩) (fun h => by cases h)
theorem tab_ok46 : TIok Tryz.prog 46 ⟨.slice 41, 1, 24, [.arr 7 0 [] false], false⟩ := tiok Tryz.type46 Tryz.underlying46 rfl rfl rfl (fun w M => FrL.cons' (Fr.nil w M _ (by decide)) (FrL.nil' w M)) (fun fs h => by cases h) (rfl) (fun h => by cases h)
theorem tab_ok50 : TIok Tryz.prog 50 ⟨.slice 150, 1, 24, [.arr 6 0 [] false], false⟩ := tiok Tryz.type50 Tryz.underlying50 rfl rfl rfl (fun w M => FrL.cons' (Fr.nil w M _ (by decide)) (FrL.nil' w M)) (fun fs h => by cases h) (rfl) (fun h => by cases h)
theorem tab_ok54 : TIok Tryz.prog 54 ⟨.struct [(3, 0), (4, 1)], 2, 16, [.lit (.int .i64 0), .lit (.bool false)], false⟩ := tiok Tryz.type54 Tryz.underlying54 rfl rfl rfl (fun w M => FrL.cons' (Fr.lit' w M _) (FrL.cons' (Fr.lit' w M _) (FrL.nil' w M))) (fun fs h => ⟨_, rfl⟩) (⟨_, rfl, rfl⟩) (fun h => by cases h)
theorem tab_ok55 : TIok Tryz.prog 55 ⟨.struct [(3, 0), (4, 1)], 2, 16, [.lit (.int .i64 0), .lit (.bool false)], true⟩ := tiok Tryz.type55 Tryz.underlying55 rfl rfl rfl (fun w M => FrL.cons' (Fr.lit' w M _) (FrL.cons' (Fr.lit' w M _) (FrL.nil' w M))) (fun fs h => ⟨_, rfl⟩) (⟨_, rfl, rfl⟩) (fun h => ⟨Tryz.stoodInHeld55, Tryz.eqGuardType55, by simp [Program.fieldsOf, Tryz.underlying55]⟩)
theorem tab_ok59 : TIok Tryz.prog 59 ⟨.slice 4, 1, 24, [.arr 1 0 [] false], false⟩ := tiok Tryz.type59 Tryz.underlying59 rfl rfl rfl (fun w M => FrL.cons' (Fr.nil w M _ (by decide)) (FrL.nil' w M)) (fun fs h => by cases h) (rfl) (fun h => by cases h)
theorem tab_ok60 : TIok Tryz.prog 60 ⟨.struct [(31, 0), (59, 1)], 2, 48, [.arr 1 0 [] false, .arr 1 0 [] false], false⟩ := tiok Tryz.type60 Tryz.underlying60 rfl rfl rfl (fun w M => FrL.cons' (Fr.nil w M _ (by decide)) (FrL.cons' (Fr.nil w M _ (by decide)) (FrL.nil' w M))) (fun fs h => ⟨_, rfl⟩) (⟨_, rfl, rfl⟩) (fun h => by cases h)
theorem tab_ok61 : TIok Tryz.prog 61 ⟨.struct [(31, 0), (59, 1)], 2, 48, [.arr 1 0 [] false, .arr 1 0 [] false], false⟩ := tiok Tryz.type61 Tryz.underlying61 rfl rfl rfl (fun w M => FrL.cons' (Fr.nil w M _ (by decide)) (FrL.cons' (Fr.nil w M _ (by decide)) (FrL.nil' w M))) (fun fs h => ⟨_, rfl⟩) (⟨_, rfl, rfl⟩) (fun h => by cases h)
theorem tab_ok68 : TIok Tryz.prog 68 ⟨.slice 90, 1, 24, [.arr 3 0 [] false], false⟩ := tiok Tryz.type68 Tryz.underlying68 rfl rfl rfl (fun w M => FrL.cons' (Fr.nil w M _ (by decide)) (FrL.nil' w M)) (fun fs h => by cases h) (rfl) (fun h => by cases h)
theorem tab_ok70 : TIok Tryz.prog 70 ⟨.struct [(3, 0), (68, 1), (4, 2)], 3, 40, [.lit (.int .i64 0), .arr 3 0 [] false, .lit (.bool false)], false⟩ := tiok Tryz.type70 Tryz.underlying70 rfl rfl rfl (fun w M => FrL.cons' (Fr.lit' w M _) (FrL.cons' (Fr.nil w M _ (by decide)) (FrL.cons' (Fr.lit' w M _) (FrL.nil' w M)))) (fun fs h => ⟨_, rfl⟩) (⟨_, rfl, rfl⟩) (fun h => by cases h)
theorem tab_ok71 : TIok Tryz.prog 71 ⟨.struct [(3, 0), (68, 1), (4, 2)], 3, 40, [.lit (.int .i64 0), .arr 3 0 [] false, .lit (.bool false)], false⟩ := tiok Tryz.type71 Tryz.underlying71 rfl rfl rfl (fun w M => FrL.cons' (Fr.lit' w M _) (FrL.cons' (Fr.nil w M _ (by decide)) (FrL.cons' (Fr.lit' w M _) (FrL.nil' w M)))) (fun fs h => ⟨_, rfl⟩) (⟨_, rfl, rfl⟩) (fun h => by cases h)
theorem tab_ok76 : TIok Tryz.prog 76 ⟨.ptr 131, 1, 8, [.lit (.pointer none)], false⟩ := tiok Tryz.type76 Tryz.underlying76 rfl rfl rfl (fun w M => FrL.cons' (Fr.lit' w M _) (FrL.nil' w M)) (fun fs h => by cases h) (rfl) (fun h => by cases h)
theorem tab_ok81 : TIok Tryz.prog 81 ⟨.struct [(3, 0), (39, 1)], 2, 32, [.lit (.int .i64 0), .arr 5 0 [] false], false⟩ := tiok Tryz.type81 Tryz.underlying81 rfl rfl rfl (fun w M => FrL.cons' (Fr.lit' w M _) (FrL.cons' (Fr.nil w M _ (by decide)) (FrL.nil' w M))) (fun fs h => ⟨_, rfl⟩) (⟨_, rfl, rfl⟩) (fun h => by cases h)
theorem tab_ok82 : TIok Tryz.prog 82 ⟨.struct [(3, 0), (39, 1)], 2, 32, [.lit (.int .i64 0), .arr 5 0 [] false], false⟩ := tiok Tryz.type82 Tryz.underlying82 rfl rfl rfl (fun w M => FrL.cons' (Fr.lit' w M _) (FrL.cons' (Fr.nil w M _ (by decide)) (FrL.nil' w M))) (fun fs h => ⟨_, rfl⟩) (⟨_, rfl, rfl⟩) (fun h => by cases h)
theorem tab_ok85 : TIok Tryz.prog 85 ⟨.func, 1, 8, [.lit .nilFunc], false⟩ := tiok Tryz.type85 Tryz.underlying85 rfl rfl rfl (fun w M => FrL.cons' (Fr.lit' w M _) (FrL.nil' w M)) (fun fs h => by cases h) (⟨_, _, _, rfl⟩) (fun h => by cases h)
theorem tab_ok88 : TIok Tryz.prog 88 ⟨.func, 1, 8, [.lit .nilFunc], false⟩ := tiok Tryz.type88 Tryz.underlying88 rfl rfl rfl (fun w M => FrL.cons' (Fr.lit' w M _) (FrL.nil' w M)) (fun fs h => by cases h) (⟨_, _, _, rfl⟩) (fun h => by cases h)
theorem tab_ok89 : TIok Tryz.prog 89 ⟨.struct [(3, 0), (3, 1), (9, 2)], 3, 32, [.lit (.int .i64 0), .lit (.int .i64 0), .lit (.string ⟨#[]⟩)], false⟩ := tiok Tryz.type89 Tryz.underlying89 rfl rfl rfl (fun w M => FrL.cons' (Fr.lit' w M _) (FrL.cons' (Fr.lit' w M _) (FrL.cons' (Fr.lit' w M _) (FrL.nil' w M)))) (fun fs h => ⟨_, rfl⟩) (⟨_, rfl, rfl⟩) (fun h => by cases h)
theorem tab_ok90 : TIok Tryz.prog 90 ⟨.struct [(3, 0), (3, 1), (9, 2)], 3, 32, [.lit (.int .i64 0), .lit (.int .i64 0), .lit (.string ⟨#[]⟩)], true⟩ := tiok Tryz.type90 Tryz.underlying90 rfl rfl rfl (fun w M => FrL.cons' (Fr.lit' w M _) (FrL.cons' (Fr.lit' w M _) (FrL.cons' (Fr.lit' w M _) (FrL.nil' w M)))) (fun fs h => ⟨_, rfl⟩) (⟨_, rfl, rfl⟩) (fun h => ⟨Tryz.stoodInHeld90, Tryz.eqGuardType90, by simp [Program.fieldsOf, Tryz.underlying90]⟩)
theorem tab_ok94 : TIok Tryz.prog 94 ⟨.func, 1, 8, [.lit .nilFunc], false⟩ := tiok Tryz.type94 Tryz.underlying94 rfl rfl rfl (fun w M => FrL.cons' (Fr.lit' w M _) (FrL.nil' w M)) (fun fs h => by cases h) (⟨_, _, _, rfl⟩) (fun h => by cases h)
theorem tab_ok101 : TIok Tryz.prog 101 ⟨.slice 106, 1, 24, [.arr 2 0 [] false], false⟩ := tiok Tryz.type101 Tryz.underlying101 rfl rfl rfl (fun w M => FrL.cons' (Fr.nil w M _ (by decide)) (FrL.nil' w M)) (fun fs h => by cases h) (rfl) (fun h => by cases h)
theorem tab_ok105 : TIok Tryz.prog 105 ⟨.struct [(33, 0), (3, 1)], 2, 32, [.arr 2 0 [] false, .lit (.int .i64 0)], false⟩ := tiok Tryz.type105 Tryz.underlying105 rfl rfl rfl (fun w M => FrL.cons' (Fr.nil w M _ (by decide)) (FrL.cons' (Fr.lit' w M _) (FrL.nil' w M))) (fun fs h => ⟨_, rfl⟩) (⟨_, rfl, rfl⟩) (fun h => by cases h)
theorem tab_ok106 : TIok Tryz.prog 106 ⟨.struct [(33, 0), (3, 1)], 2, 32, [.arr 2 0 [] false, .lit (.int .i64 0)], false⟩ := tiok Tryz.type106 Tryz.underlying106 rfl rfl rfl (fun w M => FrL.cons' (Fr.nil w M _ (by decide)) (FrL.cons' (Fr.lit' w M _) (FrL.nil' w M))) (fun fs h => ⟨_, rfl⟩) (⟨_, rfl, rfl⟩) (fun h => by cases h)
theorem tab_ok108 : TIok Tryz.prog 108 ⟨.slice 33, 1, 24, [.arr 1 0 [] false], false⟩ := tiok Tryz.type108 Tryz.underlying108 rfl rfl rfl (fun w M => FrL.cons' (Fr.nil w M _ (by decide)) (FrL.nil' w M)) (fun fs h => by cases h) (rfl) (fun h => by cases h)
theorem tab_ok112 : TIok Tryz.prog 112 ⟨.func, 1, 8, [.lit .nilFunc], false⟩ := tiok Tryz.type112 Tryz.underlying112 rfl rfl rfl (fun w M => FrL.cons' (Fr.lit' w M _) (FrL.nil' w M)) (fun fs h => by cases h) (⟨_, _, _, rfl⟩) (fun h => by cases h)
theorem tab_ok130 : TIok Tryz.prog 130 ⟨.struct [(22, 0), (3, 1)], 2, 32, [.arr 1 0 [] false, .lit (.int .i64 0)], false⟩ := tiok Tryz.type130 Tryz.underlying130 rfl rfl rfl (fun w M => FrL.cons' (Fr.nil w M _ (by decide)) (FrL.cons' (Fr.lit' w M _) (FrL.nil' w M))) (fun fs h => ⟨_, rfl⟩) (⟨_, rfl, rfl⟩) (fun h => by cases h)
theorem tab_ok131 : TIok Tryz.prog 131 ⟨.struct [(22, 0), (3, 1)], 2, 32, [.arr 1 0 [] false, .lit (.int .i64 0)], false⟩ := tiok Tryz.type131 Tryz.underlying131 rfl rfl rfl (fun w M => FrL.cons' (Fr.nil w M _ (by decide)) (FrL.cons' (Fr.lit' w M _) (FrL.nil' w M))) (fun fs h => ⟨_, rfl⟩) (⟨_, rfl, rfl⟩) (fun h => by cases h)
theorem tab_ok134 : TIok Tryz.prog 134 ⟨.func, 1, 8, [.lit .nilFunc], false⟩ := tiok Tryz.type134 Tryz.underlying134 rfl rfl rfl (fun w M => FrL.cons' (Fr.lit' w M _) (FrL.nil' w M)) (fun fs h => by cases h) (⟨_, _, _, rfl⟩) (fun h => by cases h)
theorem tab_ok137 : TIok Tryz.prog 137 ⟨.struct [(3, 0), (3, 1), (90, 2)], 5, 48, [.lit (.int .i64 0), .lit (.int .i64 0), .lit (.int .i64 0), .lit (.int .i64 0), .lit (.string ⟨#[]⟩)], false⟩ := tiok Tryz.type137 Tryz.underlying137 rfl rfl rfl (fun w M => FrL.cons' (Fr.lit' w M _) (FrL.cons' (Fr.lit' w M _) (FrL.cons' (Fr.lit' w M _) (FrL.cons' (Fr.lit' w M _) (FrL.cons' (Fr.lit' w M _) (FrL.nil' w M)))))) (fun fs h => ⟨_, rfl⟩) (⟨_, rfl, rfl⟩) (fun h => by cases h)
theorem tab_ok138 : TIok Tryz.prog 138 ⟨.struct [(3, 0), (3, 1), (90, 2)], 5, 48, [.lit (.int .i64 0), .lit (.int .i64 0), .lit (.int .i64 0), .lit (.int .i64 0), .lit (.string ⟨#[]⟩)], false⟩ := tiok Tryz.type138 Tryz.underlying138 rfl rfl rfl (fun w M => FrL.cons' (Fr.lit' w M _) (FrL.cons' (Fr.lit' w M _) (FrL.cons' (Fr.lit' w M _) (FrL.cons' (Fr.lit' w M _) (FrL.cons' (Fr.lit' w M _) (FrL.nil' w M)))))) (fun fs h => ⟨_, rfl⟩) (⟨_, rfl, rfl⟩) (fun h => by cases h)
theorem tab_ok148 : TIok Tryz.prog 148 ⟨.func, 1, 8, [.lit .nilFunc], false⟩ := tiok Tryz.type148 Tryz.underlying148 rfl rfl rfl (fun w M => FrL.cons' (Fr.lit' w M _) (FrL.nil' w M)) (fun fs h => by cases h) (⟨_, _, _, rfl⟩) (fun h => by cases h)
theorem tab_ok149 : TIok Tryz.prog 149 ⟨.struct [(3, 0), (3, 1), (3, 2), (3, 3), (39, 4), (38, 5)], 6, 80, [.lit (.int .i64 0), .lit (.int .i64 0), .lit (.int .i64 0), .lit (.int .i64 0), .arr 5 0 [] false, .arr 1 0 [] false], false⟩ := tiok Tryz.type149 Tryz.underlying149 rfl rfl rfl (fun w M => FrL.cons' (Fr.lit' w M _) (FrL.cons' (Fr.lit' w M _) (FrL.cons' (Fr.lit' w M _) (FrL.cons' (Fr.lit' w M _) (FrL.cons' (Fr.nil w M _ (by decide)) (FrL.cons' (Fr.nil w M _ (by decide)) (FrL.nil' w M))))))) (fun fs h => ⟨_, rfl⟩) (⟨_, rfl, rfl⟩) (fun h => by cases h)
theorem tab_ok150 : TIok Tryz.prog 150 ⟨.struct [(3, 0), (3, 1), (3, 2), (3, 3), (39, 4), (38, 5)], 6, 80, [.lit (.int .i64 0), .lit (.int .i64 0), .lit (.int .i64 0), .lit (.int .i64 0), .arr 5 0 [] false, .arr 1 0 [] false], false⟩ := tiok Tryz.type150 Tryz.underlying150 rfl rfl rfl (fun w M => FrL.cons' (Fr.lit' w M _) (FrL.cons' (Fr.lit' w M _) (FrL.cons' (Fr.lit' w M _) (FrL.cons' (Fr.lit' w M _) (FrL.cons' (Fr.nil w M _ (by decide)) (FrL.cons' (Fr.nil w M _ (by decide)) (FrL.nil' w M))))))) (fun fs h => ⟨_, rfl⟩) (⟨_, rfl, rfl⟩) (fun h => by cases h)
theorem tab_ok158 : TIok Tryz.prog 158 ⟨.slice 31, 1, 24, [.arr 1 0 [] false], false⟩ := tiok Tryz.type158 Tryz.underlying158 rfl rfl rfl (fun w M => FrL.cons' (Fr.nil w M _ (by decide)) (FrL.nil' w M)) (fun fs h => by cases h) (rfl) (fun h => by cases h)
theorem tab_ok172 : TIok Tryz.prog 172 ⟨.ptr 35, 1, 8, [.lit (.pointer none)], false⟩ := tiok Tryz.type172 Tryz.underlying172 rfl rfl rfl (fun w M => FrL.cons' (Fr.lit' w M _) (FrL.nil' w M)) (fun fs h => by cases h) (rfl) (fun h => by cases h)
theorem tab_ok195 : TIok Tryz.prog 195 ⟨.slice 9, 1, 24, [.arr 1 0 [] false], false⟩ := tiok Tryz.type195 Tryz.underlying195 rfl rfl rfl (fun w M => FrL.cons' (Fr.nil w M _ (by decide)) (FrL.nil' w M)) (fun fs h => by cases h) (rfl) (fun h => by cases h)
def tab : List (Nat × TI) := [
 (2, ⟨.int .i64, 1, 8, [.lit (.int .i64 0)], false⟩),
 (3, ⟨.int .i64, 1, 8, [.lit (.int .i64 0)], false⟩),
 (4, ⟨.bool, 1, 1, [.lit (.bool false)], false⟩),
 (5, ⟨.int .u8, 1, 1, [.lit (.int .u8 0)], false⟩),
 (7, ⟨.struct [(2, 0), (3, 1), (4, 2), (6, 3)], 4, 24, [.lit (.int .i64 0), .lit (.int .i64 0), .lit (.bool false), .lit (.int .u8 0)], false⟩),
 (9, ⟨.str, 1, 16, [.lit (.string ⟨#[]⟩)], false⟩),
 (15, ⟨.ptr 203, 1, 8, [.lit (.pointer none)], false⟩),
 (16, ⟨.ptr 206, 1, 8, [.lit (.pointer none)], false⟩),
 (17, ⟨.ptr 215, 1, 8, [.lit (.pointer none)], false⟩),
 (22, ⟨.slice 5, 1, 24, [.arr 1 0 [] false], false⟩),
 (23, ⟨.slice 35, 1, 24, [.arr 2 0 [] false], false⟩),
 (24, ⟨.slice 82, 1, 24, [.arr 2 0 [] false], false⟩),
 (31, ⟨.slice 68, 1, 24, [.arr 1 0 [] false], false⟩),
 (33, ⟨.slice 55, 1, 24, [.arr 2 0 [] false], false⟩),
 (34, ⟨.struct [(33, 0), (31, 1)], 2, 48, [.arr 2 0 [] false, .arr 1 0 [] false], false⟩),
 (35, ⟨.struct [(33, 0), (31, 1)], 2, 48, [.arr 2 0 [] false, .arr 1 0 [] false], false⟩),
 (38, ⟨.slice 3, 1, 24, [.arr 1 0 [] false], false⟩),
 (39, ⟨.slice 138, 1, 24, [.arr 5 0 [] false], false⟩),
 (40, ⟨.struct [(3, 0), (3, 1), (38, 2), (3, 3), (38, 4), (4, 5), (39, 6)], 7, 104, [.lit (.int .i64 0), .lit (.int .i64 0), .arr 1 0 [] false, .lit (.int .i64 0), .arr 1 0 [] false, .lit (.bool false), .arr 5 0 [] false], false⟩),
 (41, ⟨.struct [(3, 0), (3, 1), (38, 2), (3, 3), (38, 4), (4, 5), (39, 6)], 7, 104, [.lit (.int .i64 0), .lit (.int .i64 0), .arr 1 0 [] false, .lit (.int .i64 0), .arr 1 0 [] false, .lit (.bool false), .arr 5 0 [] false], false⟩),
 (46, ⟨.slice 41, 1, 24, [.arr 7 0 [] false], false⟩),
 (50, ⟨.slice 150, 1, 24, [.arr 6 0 [] false], false⟩),
 (54, ⟨.struct [(3, 0), (4, 1)], 2, 16, [.lit (.int .i64 0), .lit (.bool false)], false⟩),
 (55, ⟨.struct [(3, 0), (4, 1)], 2, 16, [.lit (.int .i64 0), .lit (.bool false)], true⟩),
 (59, ⟨.slice 4, 1, 24, [.arr 1 0 [] false], false⟩),
 (60, ⟨.struct [(31, 0), (59, 1)], 2, 48, [.arr 1 0 [] false, .arr 1 0 [] false], false⟩),
 (61, ⟨.struct [(31, 0), (59, 1)], 2, 48, [.arr 1 0 [] false, .arr 1 0 [] false], false⟩),
 (68, ⟨.slice 90, 1, 24, [.arr 3 0 [] false], false⟩),
 (70, ⟨.struct [(3, 0), (68, 1), (4, 2)], 3, 40, [.lit (.int .i64 0), .arr 3 0 [] false, .lit (.bool false)], false⟩),
 (71, ⟨.struct [(3, 0), (68, 1), (4, 2)], 3, 40, [.lit (.int .i64 0), .arr 3 0 [] false, .lit (.bool false)], false⟩),
 (76, ⟨.ptr 131, 1, 8, [.lit (.pointer none)], false⟩),
 (81, ⟨.struct [(3, 0), (39, 1)], 2, 32, [.lit (.int .i64 0), .arr 5 0 [] false], false⟩),
 (82, ⟨.struct [(3, 0), (39, 1)], 2, 32, [.lit (.int .i64 0), .arr 5 0 [] false], false⟩),
 (85, ⟨.func, 1, 8, [.lit .nilFunc], false⟩),
 (88, ⟨.func, 1, 8, [.lit .nilFunc], false⟩),
 (89, ⟨.struct [(3, 0), (3, 1), (9, 2)], 3, 32, [.lit (.int .i64 0), .lit (.int .i64 0), .lit (.string ⟨#[]⟩)], false⟩),
 (90, ⟨.struct [(3, 0), (3, 1), (9, 2)], 3, 32, [.lit (.int .i64 0), .lit (.int .i64 0), .lit (.string ⟨#[]⟩)], true⟩),
 (94, ⟨.func, 1, 8, [.lit .nilFunc], false⟩),
 (101, ⟨.slice 106, 1, 24, [.arr 2 0 [] false], false⟩),
 (105, ⟨.struct [(33, 0), (3, 1)], 2, 32, [.arr 2 0 [] false, .lit (.int .i64 0)], false⟩),
 (106, ⟨.struct [(33, 0), (3, 1)], 2, 32, [.arr 2 0 [] false, .lit (.int .i64 0)], false⟩),
 (108, ⟨.slice 33, 1, 24, [.arr 1 0 [] false], false⟩),
 (112, ⟨.func, 1, 8, [.lit .nilFunc], false⟩),
 (130, ⟨.struct [(22, 0), (3, 1)], 2, 32, [.arr 1 0 [] false, .lit (.int .i64 0)], false⟩),
 (131, ⟨.struct [(22, 0), (3, 1)], 2, 32, [.arr 1 0 [] false, .lit (.int .i64 0)], false⟩),
 (134, ⟨.func, 1, 8, [.lit .nilFunc], false⟩),
 (137, ⟨.struct [(3, 0), (3, 1), (90, 2)], 5, 48, [.lit (.int .i64 0), .lit (.int .i64 0), .lit (.int .i64 0), .lit (.int .i64 0), .lit (.string ⟨#[]⟩)], false⟩),
 (138, ⟨.struct [(3, 0), (3, 1), (90, 2)], 5, 48, [.lit (.int .i64 0), .lit (.int .i64 0), .lit (.int .i64 0), .lit (.int .i64 0), .lit (.string ⟨#[]⟩)], false⟩),
 (148, ⟨.func, 1, 8, [.lit .nilFunc], false⟩),
 (149, ⟨.struct [(3, 0), (3, 1), (3, 2), (3, 3), (39, 4), (38, 5)], 6, 80, [.lit (.int .i64 0), .lit (.int .i64 0), .lit (.int .i64 0), .lit (.int .i64 0), .arr 5 0 [] false, .arr 1 0 [] false], false⟩),
 (150, ⟨.struct [(3, 0), (3, 1), (3, 2), (3, 3), (39, 4), (38, 5)], 6, 80, [.lit (.int .i64 0), .lit (.int .i64 0), .lit (.int .i64 0), .lit (.int .i64 0), .arr 5 0 [] false, .arr 1 0 [] false], false⟩),
 (158, ⟨.slice 31, 1, 24, [.arr 1 0 [] false], false⟩),
 (172, ⟨.ptr 35, 1, 8, [.lit (.pointer none)], false⟩),
 (195, ⟨.slice 9, 1, 24, [.arr 1 0 [] false], false⟩)]
def τ : Tau := tabOf tab
theorem τ_ok : TOK Tryz.prog τ := tabOf_ok tab ⟨tab_ok2, ⟨tab_ok3, ⟨tab_ok4, ⟨tab_ok5, ⟨tab_ok7, ⟨tab_ok9, ⟨tab_ok15, ⟨tab_ok16, ⟨tab_ok17, ⟨tab_ok22, ⟨tab_ok23, ⟨tab_ok24, ⟨tab_ok31, ⟨tab_ok33, ⟨tab_ok34, ⟨tab_ok35, ⟨tab_ok38, ⟨tab_ok39, ⟨tab_ok40, ⟨tab_ok41, ⟨tab_ok46, ⟨tab_ok50, ⟨tab_ok54, ⟨tab_ok55, ⟨tab_ok59, ⟨tab_ok60, ⟨tab_ok61, ⟨tab_ok68, ⟨tab_ok70, ⟨tab_ok71, ⟨tab_ok76, ⟨tab_ok81, ⟨tab_ok82, ⟨tab_ok85, ⟨tab_ok88, ⟨tab_ok89, ⟨tab_ok90, ⟨tab_ok94, ⟨tab_ok101, ⟨tab_ok105, ⟨tab_ok106, ⟨tab_ok108, ⟨tab_ok112, ⟨tab_ok130, ⟨tab_ok131, ⟨tab_ok134, ⟨tab_ok137, ⟨tab_ok138, ⟨tab_ok148, ⟨tab_ok149, ⟨tab_ok150, ⟨tab_ok158, ⟨tab_ok172, ⟨tab_ok195, trivial⟩⟩⟩⟩⟩⟩⟩⟩⟩⟩⟩⟩⟩⟩⟩⟩⟩⟩⟩⟩⟩⟩⟩⟩⟩⟩⟩⟩⟩⟩⟩⟩⟩⟩⟩⟩⟩⟩⟩⟩⟩⟩⟩⟩⟩⟩⟩⟩⟩⟩⟩⟩⟩⟩
theorem zi_ok61 : ZIok Tryz.prog 61 [.arr 1 0 [] true, .arr 1 0 [] true] := ziok Tryz.type61 rfl (fun w M => FrL.cons' (Fr.nilF w M _ (by decide)) (FrL.cons' (Fr.nilF w M _ (by decide)) (FrL.nil' w M)))
theorem v {Γ : Ctx} {ops : Array Oper} {Q : Exit → St → Prop} {j : Nat} {st : St} (n : Nat) (nt : Nat) (T : List (Nat × V)) (H : Hp) (hk : opsP Tryz.prog Γ ops Q (j + n) ⟨nt, T, H⟩) (h : (evS τ [] ops n j st).map (fun s => s.keep (T.map (·.1))) = some ⟨nt, T, H⟩ := by kernel_rfl) : opsP Tryz.prog Γ ops Q j st := opsP_evk' (st' := ⟨nt, T, H⟩) τ_ok [] n (T.map (·.1)) h hk
theorem vM {Γ : Ctx} {ops : Array Oper} {Q : Exit → St → Prop} {j : Nat} {st : St} (mu : List Nat) (n : Nat) (nt : Nat) (T : List (Nat × V)) (H : Hp) (hk : opsP Tryz.prog Γ ops Q (j + n) ⟨nt, T, H⟩) (h : (evS τ mu ops n j st).map (fun s => s.keep (T.map (·.1))) = some ⟨nt, T, H⟩ := by kernel_rfl) : opsP Tryz.prog Γ ops Q j st := opsP_evk' (st' := ⟨nt, T, H⟩) τ_ok mu n (T.map (·.1)) h hk
theorem ve {Γ : Ctx} {ops : Array Oper} {Q : Exit → St → Prop} {j : Nat} {st : St} (n : Nat) (nt : Nat) (T : List (Nat × V)) (H : Hp) (hk : Q .normal ⟨nt, T, H⟩) (h : (evS τ [] ops n j st).map (fun s => s.keep (T.map (·.1))) = some ⟨nt, T, H⟩ := by kernel_rfl) (he : ops.size = j + n := by rfl) : opsP Tryz.prog Γ ops Q j st := opsP_evk' (st' := ⟨nt, T, H⟩) τ_ok [] n (T.map (·.1)) h (opsP_end he hk)
theorem veM {Γ : Ctx} {ops : Array Oper} {Q : Exit → St → Prop} {j : Nat} {st : St} (mu : List Nat) (n : Nat) (nt : Nat) (T : List (Nat × V)) (H : Hp) (hk : Q .normal ⟨nt, T, H⟩) (h : (evS τ mu ops n j st).map (fun s => s.keep (T.map (·.1))) = some ⟨nt, T, H⟩ := by kernel_rfl) (he : ops.size = j + n := by rfl) : opsP Tryz.prog Γ ops Q j st := opsP_evk' (st' := ⟨nt, T, H⟩) τ_ok mu n (T.map (·.1)) h (opsP_end he hk)
theorem rv {Γ : Ctx} {ops : Array Oper} {Q : Exit → St → Prop} {id : Nat} {st : St} (n : Nat) (nt : Nat) (T : List (Nat × V)) (H : Hp) (hk : opsP Tryz.prog Γ ops Q (0 + n) ⟨nt, T, H⟩) (h : (evS τ [] ops n 0 st).map (fun s => s.keep (T.map (·.1))) = some ⟨nt, T, H⟩ := by kernel_rfl) : pwp Tryz.prog Γ (.region id ops false) Q st := pwp_region (opsP_evk' (st' := ⟨nt, T, H⟩) τ_ok [] n (T.map (·.1)) h hk)
theorem rvM {Γ : Ctx} {ops : Array Oper} {Q : Exit → St → Prop} {id : Nat} {st : St} (mu : List Nat) (n : Nat) (nt : Nat) (T : List (Nat × V)) (H : Hp) (hk : opsP Tryz.prog Γ ops Q (0 + n) ⟨nt, T, H⟩) (h : (evS τ mu ops n 0 st).map (fun s => s.keep (T.map (·.1))) = some ⟨nt, T, H⟩ := by kernel_rfl) : pwp Tryz.prog Γ (.region id ops false) Q st := pwp_region (opsP_evk' (st' := ⟨nt, T, H⟩) τ_ok mu n (T.map (·.1)) h hk)
theorem rve {Γ : Ctx} {ops : Array Oper} {Q : Exit → St → Prop} {id : Nat} {st : St} (nt : Nat) (T : List (Nat × V)) (H : Hp) (hk : Q .normal ⟨nt, T, H⟩) (h : (evS τ [] ops ops.size 0 st).map (fun s => s.keep (T.map (·.1))) = some ⟨nt, T, H⟩ := by kernel_rfl) : pwp Tryz.prog Γ (.region id ops false) Q st := pwp_region (opsP_evk' (st' := ⟨nt, T, H⟩) τ_ok [] ops.size (T.map (·.1)) h (opsP_end (Nat.zero_add _).symm hk))
theorem rveM {Γ : Ctx} {ops : Array Oper} {Q : Exit → St → Prop} {id : Nat} {st : St} (mu : List Nat) (nt : Nat) (T : List (Nat × V)) (H : Hp) (hk : Q .normal ⟨nt, T, H⟩) (h : (evS τ mu ops ops.size 0 st).map (fun s => s.keep (T.map (·.1))) = some ⟨nt, T, H⟩ := by kernel_rfl) : pwp Tryz.prog Γ (.region id ops false) Q st := pwp_region (opsP_evk' (st' := ⟨nt, T, H⟩) τ_ok mu ops.size (T.map (·.1)) h (opsP_end (Nat.zero_add _).symm hk))
theorem srv {Γ : Ctx} {ops : Array Oper} {Q : Exit → St → Prop} {id : Nat} {y : Code} {st : St} (n : Nat) (nt : Nat) (T : List (Nat × V)) (H : Hp) (hk : opsP Tryz.prog Γ ops (Dthen (fun st' => pwp Tryz.prog Γ y Q st') Q) (0 + n) ⟨nt, T, H⟩) (h : (evS τ [] ops n 0 st).map (fun s => s.keep (T.map (·.1))) = some ⟨nt, T, H⟩ := by kernel_rfl) : pwp Tryz.prog Γ (.seq (.region id ops false) y) Q st := pwp_seq (pwp_region (opsP_evk' (st' := ⟨nt, T, H⟩) τ_ok [] n (T.map (·.1)) h hk))
theorem srvM {Γ : Ctx} {ops : Array Oper} {Q : Exit → St → Prop} {id : Nat} {y : Code} {st : St} (mu : List Nat) (n : Nat) (nt : Nat) (T : List (Nat × V)) (H : Hp) (hk : opsP Tryz.prog Γ ops (Dthen (fun st' => pwp Tryz.prog Γ y Q st') Q) (0 + n) ⟨nt, T, H⟩) (h : (evS τ mu ops n 0 st).map (fun s => s.keep (T.map (·.1))) = some ⟨nt, T, H⟩ := by kernel_rfl) : pwp Tryz.prog Γ (.seq (.region id ops false) y) Q st := pwp_seq (pwp_region (opsP_evk' (st' := ⟨nt, T, H⟩) τ_ok mu n (T.map (·.1)) h hk))
theorem srve {Γ : Ctx} {ops : Array Oper} {Q : Exit → St → Prop} {id : Nat} {y : Code} {st : St} (nt : Nat) (T : List (Nat × V)) (H : Hp) (hk : pwp Tryz.prog Γ y Q ⟨nt, T, H⟩) (h : (evS τ [] ops ops.size 0 st).map (fun s => s.keep (T.map (·.1))) = some ⟨nt, T, H⟩ := by kernel_rfl) : pwp Tryz.prog Γ (.seq (.region id ops false) y) Q st := pwp_seq (pwp_region (opsP_evk' (st' := ⟨nt, T, H⟩) τ_ok [] ops.size (T.map (·.1)) h (opsP_end (Nat.zero_add _).symm hk)))
theorem srveM {Γ : Ctx} {ops : Array Oper} {Q : Exit → St → Prop} {id : Nat} {y : Code} {st : St} (mu : List Nat) (nt : Nat) (T : List (Nat × V)) (H : Hp) (hk : pwp Tryz.prog Γ y Q ⟨nt, T, H⟩) (h : (evS τ mu ops ops.size 0 st).map (fun s => s.keep (T.map (·.1))) = some ⟨nt, T, H⟩ := by kernel_rfl) : pwp Tryz.prog Γ (.seq (.region id ops false) y) Q st := pwp_seq (pwp_region (opsP_evk' (st' := ⟨nt, T, H⟩) τ_ok mu ops.size (T.map (·.1)) h (opsP_end (Nat.zero_add _).symm hk)))
theorem pc {α : Type} {Γ : Ctx} {Q : Exit → St → Prop} {st : St} {o : Operand} {c d : Code} {e : Bool} {a b : Option α} {x : Option α} (h : (bif e then a else b) = x) (ht : a = x → pwp Tryz.prog Γ c Q st) (hf : b = x → pwp Tryz.prog Γ d Q st) (hc : evalV st o = some (.lit (.bool e)) := by kernel_rfl) : pwp Tryz.prog Γ (.cond o c d) Q st := pwp_cond e hc (fun q => ht (bifT q h)) (fun q => hf (bifF q h))
theorem rz {fn : Func} {out : V} {st : St} (hx : resV τ st fn.results.toList = some out := by kernel_rfl) (hz : frz out = true := by kernel_rfl) : Qret τ fn out .ret st := ⟨.inr rfl, out, [], hx, OutP.frz hz, List.nodup_nil⟩
theorem rt {fn : Func} {out : V} {st : St} (x : V) {ks : List Nat} (ho : OutP st.H x out ks) (hx : resV τ st fn.results.toList = some x := by kernel_rfl) (hn : ks.Nodup := by decide) : Qret τ fn out .ret st := ⟨.inr rfl, x, ks, hx, ho, hn⟩
theorem si {α : Type} {a b : α} (h : some a = some b) : a = b := Option.some.inj h
theorem fk (b : Bool) : b = true ∨ b = false := Bool.eq_false_or_eq_true b
theorem bT {α : Type} {c : Bool} {a b x : α} (hc : c = true) (h : (bif c then a else b) = x) : a = x := bifT hc h
theorem bF {α : Type} {c : Bool} {a b x : α} (hc : c = false) (h : (bif c then a else b) = x) : b = x := bifF hc h
theorem qv {Γ : Ctx} {ops : Array Oper} {vis mod : List (List Nat)} {Q : Exit → St → Prop} {q N j : Nat} {st : St} (ks : List Nat) (hp : hpIn ks (maskH ks 0 st.H)) (n nt : Nat) (T : List (Nat × V)) (H : Hp) (hk : qA Tryz.prog Γ ops vis mod (fun st' => opsP Tryz.prog Γ ops Q q st') (N - n) (j + n) ⟨nt, T, H⟩) (h : evO τ [] ops vis mod ks (N - n) n j st T = some ⟨nt, T, H⟩ := by kernel_rfl) (hN : N - n + n = N := by rfl) : qA Tryz.prog Γ ops vis mod (fun st' => opsP Tryz.prog Γ ops Q q st') N j st := hN ▸ qA_evO τ_ok [] ks n T hp h hk
theorem qvn {Γ : Ctx} {ops : Array Oper} {vis mod : List (List Nat)} {Q : Exit → St → Prop} {N j : Nat} {st : St} (ks : List Nat) (hp : hpIn ks (maskH ks 0 st.H)) (n nt : Nat) (T : List (Nat × V)) (H : Hp) (hk : Q .normal ⟨nt, T, H⟩) (h : (evA τ [] ops vis mod ks n j st).map (fun s => s.keep (T.map (·.1))) = some ⟨nt, T, H⟩ := by kernel_rfl) (hN : N = n := by rfl) : qA Tryz.prog Γ ops vis mod (fun st' => opsP Tryz.prog Γ ops Q ops.size st') N j st := hN ▸ qA_evN τ_ok [] ks n T hp h hk
theorem qvM {Γ : Ctx} {ops : Array Oper} {vis mod : List (List Nat)} {Q : Exit → St → Prop} {q N j : Nat} {st : St} (mu : List Nat) (ks : List Nat) (hp : hpIn ks (maskH ks 0 st.H)) (n nt : Nat) (T : List (Nat × V)) (H : Hp) (hk : qA Tryz.prog Γ ops vis mod (fun st' => opsP Tryz.prog Γ ops Q q st') (N - n) (j + n) ⟨nt, T, H⟩) (h : evO τ mu ops vis mod ks (N - n) n j st T = some ⟨nt, T, H⟩ := by kernel_rfl) (hN : N - n + n = N := by rfl) : qA Tryz.prog Γ ops vis mod (fun st' => opsP Tryz.prog Γ ops Q q st') N j st := hN ▸ qA_evO τ_ok mu ks n T hp h hk
theorem qvnM {Γ : Ctx} {ops : Array Oper} {vis mod : List (List Nat)} {Q : Exit → St → Prop} {N j : Nat} {st : St} (mu : List Nat) (ks : List Nat) (hp : hpIn ks (maskH ks 0 st.H)) (n nt : Nat) (T : List (Nat × V)) (H : Hp) (hk : Q .normal ⟨nt, T, H⟩) (h : (evA τ mu ops vis mod ks n j st).map (fun s => s.keep (T.map (·.1))) = some ⟨nt, T, H⟩ := by kernel_rfl) (hN : N = n := by rfl) : qA Tryz.prog Γ ops vis mod (fun st' => opsP Tryz.prog Γ ops Q ops.size st') N j st := hN ▸ qA_evN τ_ok mu ks n T hp h hk
theorem qX {Γ : Ctx} {ops : Array Oper} {vis mod : List (List Nat)} {Q : Exit → St → Prop} {q n j : Nat} {st : St} {Hm' : Hp} (dd : Option Nat) (x : V) (nt : Nat) (T : List (Nat × V)) (H : Hp) (h : ∀ Γ' : Ctx, (∀ i b, Γ'.L i b → Γ.L i b) → CoreE Tryz.prog Γ' ops j (stA ops vis j st) dd Hm' x) (hp : hpIn (lk vis j) Hm') (hk : qA Tryz.prog Γ ops vis mod (fun st' => opsP Tryz.prog Γ ops Q q st') n (j + 1) ⟨nt, T, H⟩) (hl : Nat.beq Hm'.length st.H.length = true := by kernel_rfl) (hm : fillH (lk mod j) 0 (maskH (lk vis j) 0 st.H) Hm' = Hm' := by kernel_rfl) (hx : dd = none ∨ okA (lk vis j) x = true ∨ frz x = true := by first | exact .inl rfl | exact .inr (.inl rfl) | exact .inr (.inr rfl)) (he : offE ops n (j + 1) T ((st.inH (fillH (lk mod j) 0 st.H Hm')).put dd x) = some ⟨nt, T, H⟩ := by kernel_rfl) : qA Tryz.prog Γ ops vis mod (fun st' => opsP Tryz.prog Γ ops Q q st') (n + 1) j st := qA_EO T h hp hk hl hm hx he
theorem qn {Γ : Ctx} {ops : Array Oper} {vis mod : List (List Nat)} {Q : Exit → St → Prop} {j : Nat} {st : St} (nt : Nat) (T : List (Nat × V)) (H : Hp) (hk : Q .normal ⟨nt, T, H⟩) (h : st.keep (T.map (·.1)) = ⟨nt, T, H⟩ := by kernel_rfl) : qA Tryz.prog Γ ops vis mod (fun st' => opsP Tryz.prog Γ ops Q ops.size st') 0 j st := qA_end (opsP_imp (Imp.to _ h) (opsP_end rfl hk))
theorem pN {Γ : Ctx} {ops : Array Oper} {Q : Exit → St → Prop} {st : St} {id : Nat} (n : Nat) (h : qA Tryz.prog Γ ops (List.replicate n []) (List.replicate n []) (fun st' => opsP Tryz.prog Γ ops Q ops.size st') ops.size 0 st) (hB : anyB ops (List.replicate n []) (List.replicate n []) = true := by kernel_rfl) : pwp Tryz.prog Γ (.region id ops true) Q st := pwp_any _ _ rfl hB h
theorem qt {Γ : Ctx} {a b c : St} (h : Imp Γ a b) (k : Imp Γ b c) : Imp Γ a c := h.trans k
theorem it {Γ : Ctx} {st st' : St} (ks : List Nat) (h : st.keep ks = st' := by kernel_rfl) : Imp Γ st st' := Imp.to ks h
theorem ip {Γ : Ctx} {c : Code} {Q : Exit → St → Prop} {st : St} (nt : Nat) (T : List (Nat × V)) (H : Hp) (hk : pwp Tryz.prog Γ c Q ⟨nt, T, H⟩) (h : st.keep (T.map (·.1)) = ⟨nt, T, H⟩ := by kernel_rfl) : pwp Tryz.prog Γ c Q st := pwp_imp (Imp.to _ h) hk
theorem io {Γ : Ctx} {ops : Array Oper} {j : Nat} {Q : Exit → St → Prop} {st : St} (nt : Nat) (T : List (Nat × V)) (H : Hp) (hk : opsP Tryz.prog Γ ops Q j ⟨nt, T, H⟩) (h : st.keep (T.map (·.1)) = ⟨nt, T, H⟩ := by kernel_rfl) : opsP Tryz.prog Γ ops Q j st := opsP_imp (Imp.to _ h) hk
theorem cF {Γ : Ctx} {ops : Array Oper} {j : Nat} {Q : Exit → St → Prop} {st : St} {g : FuncId} {xs : List V} {out x : V} (d : Nat) (hok : OK Tryz.prog g xs out) (hk : opsP Tryz.prog Γ ops Q (j + 1) (st.set d x)) (hf : FzTo out x := by exact FzTo.frz rfl) (hz : frzL xs = true := by rfl) (h : callV τ ops j st = some (d, g, xs) := by kernel_rfl) : opsP Tryz.prog Γ ops Q j st := opsP_callF τ d hok hf hz h hk
theorem cB {Γ : Ctx} {ops : Array Oper} {j : Nat} {Q : Exit → St → Prop} {st : St} {g : FuncId} {cs xs : List V} {out x : V} {cs' : List V} (d k ver : Nat) (hok : OKb Tryz.prog g cs xs out cs') (hk : opsP Tryz.prog Γ ops Q (j + 1) ({ st with H := setH st.H k (some ⟨ver, cs'⟩) }.set d x)) (hf : FzTo out x := by exact FzTo.frz rfl) (hz : frzL xs = true := by rfl) (h : calV τ ops j st = some ⟨d, g, k, ver, cs, xs⟩ := by kernel_rfl) : opsP Tryz.prog Γ ops Q j st := opsP_callB τ d k ver hok hf hz h hk
theorem cFo {Γ : Ctx} {ops : Array Oper} {j : Nat} {Q : Exit → St → Prop} {st : St} {g : FuncId} {xs : List V} {out x : V} (d : Nat) (hok : OK Tryz.prog g xs out) (hk : opsP Tryz.prog Γ ops Q (j + 1) (st.set d x)) (hf : FzTo out x := by exact FzTo.O _) (hz : frzL xs = true := by rfl) (h : callV τ ops j st = some (d, g, xs) := by kernel_rfl) : opsP Tryz.prog Γ ops Q j st := opsP_callF τ d hok hf hz h hk
theorem cBo {Γ : Ctx} {ops : Array Oper} {j : Nat} {Q : Exit → St → Prop} {st : St} {g : FuncId} {cs xs : List V} {out x : V} {cs' : List V} (d k ver : Nat) (hok : OKb Tryz.prog g cs xs out cs') (hk : opsP Tryz.prog Γ ops Q (j + 1) ({ st with H := setH st.H k (some ⟨ver, cs'⟩) }.set d x)) (hf : FzTo out x := by exact FzTo.O _) (hz : frzL xs = true := by rfl) (h : calV τ ops j st = some ⟨d, g, k, ver, cs, xs⟩ := by kernel_rfl) : opsP Tryz.prog Γ ops Q j st := opsP_callB τ d k ver hok hf hz h hk
theorem ow {f : FuncId} {fn : Func} {c : Code} {ins : List V} {out : V} (hf : Tryz.prog.funcs[f]? = some fn) (h : ∀ Γ, (∀ i b, ¬ Γ.L i b) → pwp Tryz.prog Γ c (Qret τ fn out) ⟨fn.ntmps, numbered 0 ins, []⟩) (hb : fn.body = some c := by exact rfl) (hnm : (fn.name == "runtime.NumGoroutine") = false := by kernel_rfl) (hn : Nat.ble ins.length fn.ntmps = true := by rfl) : OK Tryz.prog f ins out := OK_of_pwp τ_ok hf hb hnm hn h
end Go.D
