import Derived.Test.YtpkclpjdpanekaaGreatBatDPart
import Derived.Test.YtpkclpjdpanekaaGreatProg
import Derived.KernelRfl
set_option linter.unusedVariables false
set_option linter.unusedSimpArgs false
namespace Go.D
open Go.Proofs
structure T_laws_Value where
  fKind : Int
  fN : Int
  fS : ByteArray
instance : Enc T_laws_Value := ⟨3, fun x => [I x.fKind, I x.fN, S x.fS], true, fun _ => rfl, by decide, fun _ => rfl, fun _ => rfl⟩
structure T_laws_Change where
  fIn : Int
  fRow : List T_laws_Value
  fCome : Bool
instance : Enc T_laws_Change := ⟨3, fun x => [I x.fIn, A x.fRow, B x.fCome], true, fun _ => rfl, by decide, fun _ => rfl, fun _ => rfl⟩
structure T_impl_Value where
  fKind : Int
  fN : Int
  fS : ByteArray
instance : Enc T_impl_Value := ⟨3, fun x => [I x.fKind, I x.fN, S x.fS], true, fun _ => rfl, by decide, fun _ => rfl, fun _ => rfl⟩
structure T_impl_Change where
  fIn : Int
  fRow : List T_impl_Value
  fCome : Bool
instance : Enc T_impl_Change := ⟨3, fun x => [I x.fIn, A x.fRow, B x.fCome], true, fun _ => rfl, by decide, fun _ => rfl, fun _ => rfl⟩
structure T_laws_Batch where
  fColumns : List (List T_laws_Value)
  fPicked : List Bool
instance : Enc T_laws_Batch := ⟨2, fun x => [A x.fColumns, A x.fPicked], true, fun _ => rfl, by decide, fun _ => rfl, fun _ => rfl⟩
structure T_impl_Batch where
  fColumns : List (List T_impl_Value)
  fPicked : List Bool
instance : Enc T_impl_Batch := ⟨2, fun x => [A x.fColumns, A x.fPicked], true, fun _ => rfl, by decide, fun _ => rfl, fun _ => rfl⟩
structure T_laws_Column where
  fKind : Int
  fEmpty : Bool
instance : Enc T_laws_Column := ⟨2, fun x => [I x.fKind, B x.fEmpty], true, fun _ => rfl, by decide, fun _ => rfl, fun _ => rfl⟩
structure T_laws_Table where
  fColumns : List T_laws_Column
  fRows : List (List T_laws_Value)
instance : Enc T_laws_Table := ⟨2, fun x => [A x.fColumns, A x.fRows], true, fun _ => rfl, by decide, fun _ => rfl, fun _ => rfl⟩
structure T_laws_Part where
  fKind : Int
  fN : Int
  fV : T_laws_Value
instance : Enc T_laws_Part := ⟨5, fun x => [I x.fKind, I x.fN, I x.fV.fKind, I x.fV.fN, S x.fV.fS], true, fun _ => rfl, by decide, fun _ => rfl, fun _ => rfl⟩
structure T_laws_Bond where
  fKind : Int
  fIn : Int
  fList : List Int
  fOf : Int
  fTo : List Int
  fFollow : Bool
  fE : List T_laws_Part
instance : Enc T_laws_Bond := ⟨7, fun x => [I x.fKind, I x.fIn, A x.fList, I x.fOf, A x.fTo, B x.fFollow, A x.fE], true, fun _ => rfl, by decide, fun _ => rfl, fun _ => rfl⟩
structure T_impl_Part where
  fKind : Int
  fN : Int
  fV : T_impl_Value
instance : Enc T_impl_Part := ⟨5, fun x => [I x.fKind, I x.fN, I x.fV.fKind, I x.fV.fN, S x.fV.fS], true, fun _ => rfl, by decide, fun _ => rfl, fun _ => rfl⟩
structure T_impl_Bond where
  fKind : Int
  fIn : Int
  fList : List Int
  fOf : Int
  fTo : List Int
  fFollow : Bool
  fE : List T_impl_Part
instance : Enc T_impl_Bond := ⟨7, fun x => [I x.fKind, I x.fIn, A x.fList, I x.fOf, A x.fTo, B x.fFollow, A x.fE], true, fun _ => rfl, by decide, fun _ => rfl, fun _ => rfl⟩
structure T_impl_Column where
  fKind : Int
  fEmpty : Bool
instance : Enc T_impl_Column := ⟨2, fun x => [I x.fKind, B x.fEmpty], true, fun _ => rfl, by decide, fun _ => rfl, fun _ => rfl⟩
structure T_impl_Table where
  fColumns : List T_impl_Column
  fRows : List (List T_impl_Value)
instance : Enc T_impl_Table := ⟨2, fun x => [A x.fColumns, A x.fRows], true, fun _ => rfl, by decide, fun _ => rfl, fun _ => rfl⟩
def eq_T_impl_Value (x y : T_impl_Value) : Bool := andB [x.fKind == y.fKind, x.fN == y.fN, x.fS.toList == y.fS.toList]
instance : DFlat T_laws_Value := ⟨fun _ => rfl⟩
instance : DEnc T_laws_Change := ⟨fun x => [I x.fIn, O x.fRow, B x.fCome], fun _ => rfl, fun x => (FzToL.cons (FzTo.lit _) (FzToL.cons (FzTo.O _) (FzToL.cons (FzTo.lit _) FzToL.nil))), fun _ => rfl, fun x => (BlindL.cons (Blind.lit _) (BlindL.cons (Blind.O DFlat.lit _) (BlindL.cons (Blind.lit _) BlindL.nil)))⟩
instance : DNest T_laws_Change := ⟨⟩
instance : DOne T_laws_Change := ⟨fun _ => rfl⟩
instance : DFlat T_impl_Value := ⟨fun _ => rfl⟩
instance : DEnc T_impl_Change := ⟨fun x => [I x.fIn, O x.fRow, B x.fCome], fun _ => rfl, fun x => (FzToL.cons (FzTo.lit _) (FzToL.cons (FzTo.O _) (FzToL.cons (FzTo.lit _) FzToL.nil))), fun _ => rfl, fun x => (BlindL.cons (Blind.lit _) (BlindL.cons (Blind.O DFlat.lit _) (BlindL.cons (Blind.lit _) BlindL.nil)))⟩
instance : DNest T_impl_Change := ⟨⟩
instance : DOne T_impl_Change := ⟨fun _ => rfl⟩
instance : DEnc T_laws_Batch := ⟨fun x => [OD x.fColumns, O x.fPicked], fun _ => rfl, fun x => (FzToL.cons (FzTo.OD _) (FzToL.cons (FzTo.O _) FzToL.nil)), fun _ => rfl, fun x => (BlindL.cons (Blind.OD _) (BlindL.cons (Blind.O DFlat.lit _) BlindL.nil))⟩
instance : DNest T_laws_Batch := ⟨⟩
instance : DOne T_laws_Batch := ⟨fun _ => rfl⟩
instance : DEnc T_impl_Batch := ⟨fun x => [OD x.fColumns, O x.fPicked], fun _ => rfl, fun x => (FzToL.cons (FzTo.OD _) (FzToL.cons (FzTo.O _) FzToL.nil)), fun _ => rfl, fun x => (BlindL.cons (Blind.OD _) (BlindL.cons (Blind.O DFlat.lit _) BlindL.nil))⟩
instance : DNest T_impl_Batch := ⟨⟩
instance : DOne T_impl_Batch := ⟨fun _ => rfl⟩
instance : DFlat T_laws_Column := ⟨fun _ => rfl⟩
instance : DEnc T_laws_Table := ⟨fun x => [O x.fColumns, OD x.fRows], fun _ => rfl, fun x => (FzToL.cons (FzTo.O _) (FzToL.cons (FzTo.OD _) FzToL.nil)), fun _ => rfl, fun x => (BlindL.cons (Blind.O DFlat.lit _) (BlindL.cons (Blind.OD _) BlindL.nil))⟩
instance : DNest T_laws_Table := ⟨⟩
instance : DOne T_laws_Table := ⟨fun _ => rfl⟩
instance : DFlat T_laws_Part := ⟨fun _ => rfl⟩
instance : DEnc T_laws_Bond := ⟨fun x => [I x.fKind, I x.fIn, O x.fList, I x.fOf, O x.fTo, B x.fFollow, O x.fE], fun _ => rfl, fun x => (FzToL.cons (FzTo.lit _) (FzToL.cons (FzTo.lit _) (FzToL.cons (FzTo.O _) (FzToL.cons (FzTo.lit _) (FzToL.cons (FzTo.O _) (FzToL.cons (FzTo.lit _) (FzToL.cons (FzTo.O _) FzToL.nil))))))), fun _ => rfl, fun x => (BlindL.cons (Blind.lit _) (BlindL.cons (Blind.lit _) (BlindL.cons (Blind.O DFlat.lit _) (BlindL.cons (Blind.lit _) (BlindL.cons (Blind.O DFlat.lit _) (BlindL.cons (Blind.lit _) (BlindL.cons (Blind.O DFlat.lit _) BlindL.nil)))))))⟩
instance : DNest T_laws_Bond := ⟨⟩
instance : DOne T_laws_Bond := ⟨fun _ => rfl⟩
instance : DFlat T_impl_Part := ⟨fun _ => rfl⟩
instance : DEnc T_impl_Bond := ⟨fun x => [I x.fKind, I x.fIn, O x.fList, I x.fOf, O x.fTo, B x.fFollow, O x.fE], fun _ => rfl, fun x => (FzToL.cons (FzTo.lit _) (FzToL.cons (FzTo.lit _) (FzToL.cons (FzTo.O _) (FzToL.cons (FzTo.lit _) (FzToL.cons (FzTo.O _) (FzToL.cons (FzTo.lit _) (FzToL.cons (FzTo.O _) FzToL.nil))))))), fun _ => rfl, fun x => (BlindL.cons (Blind.lit _) (BlindL.cons (Blind.lit _) (BlindL.cons (Blind.O DFlat.lit _) (BlindL.cons (Blind.lit _) (BlindL.cons (Blind.O DFlat.lit _) (BlindL.cons (Blind.lit _) (BlindL.cons (Blind.O DFlat.lit _) BlindL.nil)))))))⟩
instance : DNest T_impl_Bond := ⟨⟩
instance : DOne T_impl_Bond := ⟨fun _ => rfl⟩
instance : DFlat T_impl_Column := ⟨fun _ => rfl⟩
instance : DEnc T_impl_Table := ⟨fun x => [O x.fColumns, OD x.fRows], fun _ => rfl, fun x => (FzToL.cons (FzTo.O _) (FzToL.cons (FzTo.OD _) FzToL.nil)), fun _ => rfl, fun x => (BlindL.cons (Blind.O DFlat.lit _) (BlindL.cons (Blind.OD _) BlindL.nil))⟩
instance : DNest T_impl_Table := ⟨⟩
instance : DOne T_impl_Table := ⟨fun _ => rfl⟩
theorem tab_ok2 : TIok Tryz.prog 2 ⟨.int .i64, 1, 8, [.lit (.int .i64 0)], false⟩ := tiok Tryz.type2 Tryz.underlying2 rfl rfl rfl (fun w M => FrL.cons' (Fr.lit' w M _) (FrL.nil' w M)) (fun fs h => by cases h) (rfl) (fun h => by cases h)
theorem tab_ok3 : TIok Tryz.prog 3 ⟨.int .i64, 1, 8, [.lit (.int .i64 0)], false⟩ := tiok Tryz.type3 Tryz.underlying3 rfl rfl rfl (fun w M => FrL.cons' (Fr.lit' w M _) (FrL.nil' w M)) (fun fs h => by cases h) (rfl) (fun h => by cases h)
theorem tab_ok4 : TIok Tryz.prog 4 ⟨.bool, 1, 1, [.lit (.bool false)], false⟩ := tiok Tryz.type4 Tryz.underlying4 rfl rfl rfl (fun w M => FrL.cons' (Fr.lit' w M _) (FrL.nil' w M)) (fun fs h => by cases h) (rfl) (fun h => by cases h)
theorem tab_ok5 : TIok Tryz.prog 5 ⟨.int .u8, 1, 1, [.lit (.int .u8 0)], false⟩ := tiok Tryz.type5 Tryz.underlying5 rfl rfl rfl (fun w M => FrL.cons' (Fr.lit' w M _) (FrL.nil' w M)) (fun fs h => by cases h) (rfl) (fun h => by cases h)
theorem tab_ok7 : TIok Tryz.prog 7 ⟨.struct [(2, 0), (3, 1), (4, 2), (6, 3)], 4, 24, [.lit (.int .i64 0), .lit (.int .i64 0), .lit (.bool false), .lit (.int .u8 0)], false⟩ := tiok Tryz.type7 Tryz.underlying7 rfl rfl rfl (fun w M => FrL.cons' (Fr.lit' w M _) (FrL.cons' (Fr.lit' w M _) (FrL.cons' (Fr.lit' w M _) (FrL.cons' (Fr.lit' w M _) (FrL.nil' w M))))) (fun fs h => ⟨_, rfl⟩) (⟨_, rfl, rfl⟩) (fun h => by cases h)
theorem tab_ok9 : TIok Tryz.prog 9 ⟨.str, 1, 16, [.lit (.string ⟨#[]⟩)], false⟩ := tiok Tryz.type9 Tryz.underlying9 rfl rfl rfl (fun w M => FrL.cons' (Fr.lit' w M _) (FrL.nil' w M)) (fun fs h => by cases h) (rfl) (fun h => by cases h)
theorem tab_ok15 : TIok Tryz.prog 15 ⟨.ptr 197, 1, 8, [.lit (.pointer none)], false⟩ := tiok Tryz.type15 Tryz.underlying15 rfl rfl rfl (fun w M => FrL.cons' (Fr.lit' w M _) (FrL.nil' w M)) (fun fs h => by cases h) (rfl) (fun h => by cases h)
theorem tab_ok16 : TIok Tryz.prog 16 ⟨.ptr 200, 1, 8, [.lit (.pointer none)], false⟩ := tiok Tryz.type16 Tryz.underlying16 rfl rfl rfl (fun w M => FrL.cons' (Fr.lit' w M _) (FrL.nil' w M)) (fun fs h => by cases h) (rfl) (fun h => by cases h)
theorem tab_ok17 : TIok Tryz.prog 17 ⟨.ptr 209, 1, 8, [.lit (.pointer none)], false⟩ := tiok Tryz.type17 Tryz.underlying17 rfl rfl rfl (fun w M => FrL.cons' (Fr.lit' w M _) (FrL.nil' w M)) (fun fs h => by cases h) (rfl) (fun h => by cases h)
theorem tab_ok22 : TIok Tryz.prog 22 ⟨.slice 85, 1, 24, [.arr 2 0 [] false], false⟩ := tiok Tryz.type22 Tryz.underlying22 rfl rfl rfl (fun w M => FrL.cons' (Fr.nil w M _ (by decide)) (FrL.nil' w M)) (fun fs h => by cases h) (rfl) (fun h => by cases h)
theorem tab_ok23 : TIok Tryz.prog 23 ⟨.slice 88, 1, 24, [.arr 7 0 [] false], false⟩ := tiok Tryz.type23 Tryz.underlying23 rfl rfl rfl (fun w M => FrL.cons' (Fr.nil w M _ (by decide)) (FrL.nil' w M)) (fun fs h => by cases h) (rfl) (fun h => by cases h)
theorem tab_ok24 : TIok Tryz.prog 24 ⟨.slice 106, 1, 24, [.arr 3 0 [] false], false⟩ := tiok Tryz.type24 Tryz.underlying24 rfl rfl rfl (fun w M => FrL.cons' (Fr.nil w M _ (by decide)) (FrL.nil' w M)) (fun fs h => by cases h) (rfl) (fun h => by cases h)
theorem tab_ok25 : TIok Tryz.prog 25 ⟨.struct [(3, 0), (24, 1), (4, 2)], 3, 40, [.lit (.int .i64 0), .arr 3 0 [] false, .lit (.bool false)], false⟩ := tiok Tryz.type25 Tryz.underlying25 rfl rfl rfl (fun w M => FrL.cons' (Fr.lit' w M _) (FrL.cons' (Fr.nil w M _ (by decide)) (FrL.cons' (Fr.lit' w M _) (FrL.nil' w M)))) (fun fs h => ⟨_, rfl⟩) (⟨_, rfl, rfl⟩) (fun h => by cases h)
theorem tab_ok26 : TIok Tryz.prog 26 ⟨.struct [(3, 0), (24, 1), (4, 2)], 3, 40, [.lit (.int .i64 0), .arr 3 0 [] false, .lit (.bool false)], false⟩ := tiok Tryz.type26 Tryz.underlying26 rfl rfl rfl (fun w M => FrL.cons' (Fr.lit' w M _) (FrL.cons' (Fr.nil w M _ (by decide)) (FrL.cons' (Fr.lit' w M _) (FrL.nil' w M)))) (fun fs h => ⟨_, rfl⟩) (⟨_, rfl, rfl⟩) (fun h => by cases h)
theorem tab_ok30 : TIok Tryz.prog 30 ⟨.slice 3, 1, 24, [.arr 1 0 [] false], false⟩ := tiok Tryz.type30 Tryz.underlying30 rfl rfl rfl (fun w M => FrL.cons' (Fr.nil w M _ (by decide)) (FrL.nil' w M)) (fun fs h => by cases h) (rfl) (fun h => by cases h)
theorem tab_ok32 : TIok Tryz.prog 32 ⟨.slice 95, 1, 24, [.arr 2 0 [] false], false⟩ := tiok Tryz.type32 Tryz.underlying32 rfl rfl rfl (fun w M => FrL.cons' (Fr.nil w M _ (by decide)) (FrL.nil' w M)) (fun fs h => by cases h) (rfl) (fun h => by cases h)
theorem tab_ok34 : TIok Tryz.prog 34 ⟨.slice 93, 1, 24, [.arr 7 0 [] false], false⟩ := tiok Tryz.type34 Tryz.underlying34 rfl rfl rfl (fun w M => FrL.cons' (Fr.nil w M _ (by decide)) (FrL.nil' w M)) (fun fs h => by cases h) (rfl) (fun h => by cases h)
theorem tab_ok36 : TIok Tryz.prog 36 ⟨.slice 117, 1, 24, [.arr 3 0 [] false], false⟩ := tiok Tryz.type36 Tryz.underlying36 rfl rfl rfl (fun w M => FrL.cons' (Fr.nil w M _ (by decide)) (FrL.nil' w M)) (fun fs h => by cases h) (rfl) (fun h => by cases h)
theorem tab_ok37 : TIok Tryz.prog 37 ⟨.struct [(3, 0), (36, 1), (4, 2)], 3, 40, [.lit (.int .i64 0), .arr 3 0 [] false, .lit (.bool false)], false⟩ := tiok Tryz.type37 Tryz.underlying37 rfl rfl rfl (fun w M => FrL.cons' (Fr.lit' w M _) (FrL.cons' (Fr.nil w M _ (by decide)) (FrL.cons' (Fr.lit' w M _) (FrL.nil' w M)))) (fun fs h => ⟨_, rfl⟩) (⟨_, rfl, rfl⟩) (fun h => by cases h)
theorem tab_ok38 : TIok Tryz.prog 38 ⟨.struct [(3, 0), (36, 1), (4, 2)], 3, 40, [.lit (.int .i64 0), .arr 3 0 [] false, .lit (.bool false)], false⟩ := tiok Tryz.type38 Tryz.underlying38 rfl rfl rfl (fun w M => FrL.cons' (Fr.lit' w M _) (FrL.cons' (Fr.nil w M _ (by decide)) (FrL.cons' (Fr.lit' w M _) (FrL.nil' w M)))) (fun fs h => ⟨_, rfl⟩) (⟨_, rfl, rfl⟩) (fun h => by cases h)
theorem tab_ok49 : TIok Tryz.prog 49 ⟨.slice 115, 1, 24, [.arr 2 0 [] false], false⟩ := tiok Tryz.type49 Tryz.underlying49 rfl rfl rfl (fun w M => FrL.cons' (Fr.nil w M _ (by decide)) (FrL.nil' w M)) (fun fs h => by cases h) (rfl) (fun h => by cases h)
theorem tab_ok50 : TIok Tryz.prog 50 ⟨.slice 24, 1, 24, [.arr 1 0 [] false], false⟩ := tiok Tryz.type50 Tryz.underlying50 rfl rfl rfl (fun w M => FrL.cons' (Fr.nil w M _ (by decide)) (FrL.nil' w M)) (fun fs h => by cases h) (rfl) (fun h => by cases h)
theorem tab_ok51 : TIok Tryz.prog 51 ⟨.slice 4, 1, 24, [.arr 1 0 [] false], false⟩ := tiok Tryz.type51 Tryz.underlying51 rfl rfl rfl (fun w M => FrL.cons' (Fr.nil w M _ (by decide)) (FrL.nil' w M)) (fun fs h => by cases h) (rfl) (fun h => by cases h)
theorem tab_ok52 : TIok Tryz.prog 52 ⟨.struct [(50, 0), (51, 1)], 2, 48, [.arr 1 0 [] false, .arr 1 0 [] false], false⟩ := tiok Tryz.type52 Tryz.underlying52 rfl rfl rfl (fun w M => FrL.cons' (Fr.nil w M _ (by decide)) (FrL.cons' (Fr.nil w M _ (by decide)) (FrL.nil' w M))) (fun fs h => ⟨_, rfl⟩) (⟨_, rfl, rfl⟩) (fun h => by cases h)
theorem tab_ok53 : TIok Tryz.prog 53 ⟨.struct [(50, 0), (51, 1)], 2, 48, [.arr 1 0 [] false, .arr 1 0 [] false], false⟩ := tiok Tryz.type53 Tryz.underlying53 rfl rfl rfl (fun w M => FrL.cons' (Fr.nil w M _ (by decide)) (FrL.cons' (Fr.nil w M _ (by decide)) (FrL.nil' w M))) (fun fs h => ⟨_, rfl⟩) (⟨_, rfl, rfl⟩) (fun h => by cases h)
theorem tab_ok54 : TIok Tryz.prog 54 ⟨.slice 108, 1, 24, [.arr 5 0 [] false], false⟩ := tiok Tryz.type54 Tryz.underlying54 rfl rfl rfl (fun w M => FrL.cons' (Fr.nil w M _ (by decide)) (FrL.nil' w M)) (fun fs h => by cases h) (rfl) (fun h => by cases h)
theorem tab_ok59 : TIok Tryz.prog 59 ⟨.slice 113, 1, 24, [.arr 2 0 [] false], false⟩ := tiok Tryz.type59 Tryz.underlying59 rfl rfl rfl (fun w M => FrL.cons' (Fr.nil w M _ (by decide)) (FrL.nil' w M)) (fun fs h => by cases h) (rfl) (fun h => by cases h)
theorem tab_ok61 : TIok Tryz.prog 61 ⟨.slice 36, 1, 24, [.arr 1 0 [] false], false⟩ := tiok Tryz.type61 Tryz.underlying61 rfl rfl rfl (fun w M => FrL.cons' (Fr.nil w M _ (by decide)) (FrL.nil' w M)) (fun fs h => by cases h) (rfl) (fun h => by cases h)
theorem tab_ok62 : TIok Tryz.prog 62 ⟨.struct [(61, 0), (51, 1)], 2, 48, [.arr 1 0 [] false, .arr 1 0 [] false], false⟩ := tiok Tryz.type62 Tryz.underlying62 rfl rfl rfl (fun w M => FrL.cons' (Fr.nil w M _ (by decide)) (FrL.cons' (Fr.nil w M _ (by decide)) (FrL.nil' w M))) (fun fs h => ⟨_, rfl⟩) (⟨_, rfl, rfl⟩) (fun h => by cases h)
theorem tab_ok63 : TIok Tryz.prog 63 ⟨.struct [(61, 0), (51, 1)], 2, 48, [.arr 1 0 [] false, .arr 1 0 [] false], false⟩ := tiok Tryz.type63 Tryz.underlying63 rfl rfl rfl (fun w M => FrL.cons' (Fr.nil w M _ (by decide)) (FrL.cons' (Fr.nil w M _ (by decide)) (FrL.nil' w M))) (fun fs h => ⟨_, rfl⟩) (⟨_, rfl, rfl⟩) (fun h => by cases h)
theorem tab_ok65 : TIok Tryz.prog 65 ⟨.slice 119, 1, 24, [.arr 5 0 [] false], false⟩ := tiok Tryz.type65 Tryz.underlying65 rfl rfl rfl (fun w M => FrL.cons' (Fr.nil w M _ (by decide)) (FrL.nil' w M)) (fun fs h => by cases h) (rfl) (fun h => by cases h)
theorem tab_ok84 : TIok Tryz.prog 84 ⟨.struct [(49, 0), (50, 1)], 2, 48, [.arr 2 0 [] false, .arr 1 0 [] false], false⟩ := tiok Tryz.type84 Tryz.underlying84 rfl rfl rfl (fun w M => FrL.cons' (Fr.nil w M _ (by decide)) (FrL.cons' (Fr.nil w M _ (by decide)) (FrL.nil' w M))) (fun fs h => ⟨_, rfl⟩) (⟨_, rfl, rfl⟩) (fun h => by cases h)
theorem tab_ok85 : TIok Tryz.prog 85 ⟨.struct [(49, 0), (50, 1)], 2, 48, [.arr 2 0 [] false, .arr 1 0 [] false], false⟩ := tiok Tryz.type85 Tryz.underlying85 rfl rfl rfl (fun w M => FrL.cons' (Fr.nil w M _ (by decide)) (FrL.cons' (Fr.nil w M _ (by decide)) (FrL.nil' w M))) (fun fs h => ⟨_, rfl⟩) (⟨_, rfl, rfl⟩) (fun h => by cases h)
theorem tab_ok87 : TIok Tryz.prog 87 ⟨.struct [(3, 0), (3, 1), (30, 2), (3, 3), (30, 4), (4, 5), (54, 6)], 7, 104, [.lit (.int .i64 0), .lit (.int .i64 0), .arr 1 0 [] false, .lit (.int .i64 0), .arr 1 0 [] false, .lit (.bool false), .arr 5 0 [] false], false⟩ := tiok Tryz.type87 Tryz.underlying87 rfl rfl rfl (fun w M => FrL.cons' (Fr.lit' w M _) (FrL.cons' (Fr.lit' w M _) (FrL.cons' (Fr.nil w M _ (by decide)) (FrL.cons' (Fr.lit' w M _) (FrL.cons' (Fr.nil w M _ (by decide)) (FrL.cons' (Fr.lit' w M _) (FrL.cons' (Fr.nil w M _ (by decide)) (FrL.nil' w M)))))))) (fun fs h => ⟨_, rfl⟩) (⟨_, rfl, rfl⟩) (fun h => by cases h)
theorem tab_ok88 : TIok Tryz.prog 88 ⟨.struct [(3, 0), (3, 1), (30, 2), (3, 3), (30, 4), (4, 5), (54, 6)], 7, 104, [.lit (.int .i64 0), .lit (.int .i64 0), .arr 1 0 [] false, .lit (.int .i64 0), .arr 1 0 [] false, .lit (.bool false), .arr 5 0 [] false], false⟩ := tiok Tryz.type88 Tryz.underlying88 rfl rfl rfl (fun w M => FrL.cons' (Fr.lit' w M _) (FrL.cons' (Fr.lit' w M _) (FrL.cons' (Fr.nil w M _ (by decide)) (FrL.cons' (Fr.lit' w M _) (FrL.cons' (Fr.nil w M _ (by decide)) (FrL.cons' (Fr.lit' w M _) (FrL.cons' (Fr.nil w M _ (by decide)) (FrL.nil' w M)))))))) (fun fs h => ⟨_, rfl⟩) (⟨_, rfl, rfl⟩) (fun h => by cases h)
theorem tab_ok92 : TIok Tryz.prog 92 ⟨.struct [(3, 0), (3, 1), (30, 2), (3, 3), (30, 4), (4, 5), (65, 6)], 7, 104, [.lit (.int .i64 0), .lit (.int .i64 0), .arr 1 0 [] false, .lit (.int .i64 0), .arr 1 0 [] false, .lit (.bool false), .arr 5 0 [] false], false⟩ := tiok Tryz.type92 Tryz.underlying92 rfl rfl rfl (fun w M => FrL.cons' (Fr.lit' w M _) (FrL.cons' (Fr.lit' w M _) (FrL.cons' (Fr.nil w M _ (by decide)) (FrL.cons' (Fr.lit' w M _) (FrL.cons' (Fr.nil w M _ (by decide)) (FrL.cons' (Fr.lit' w M _) (FrL.cons' (Fr.nil w M _ (by decide)) (FrL.nil' w M)))))))) (fun fs h => ⟨_, rfl⟩) (⟨_, rfl, rfl⟩) (fun h => by cases h)
theorem tab_ok93 : TIok Tryz.prog 93 ⟨.struct [(3, 0), (3, 1), (30, 2), (3, 3), (30, 4), (4, 5), (65, 6)], 7, 104, [.lit (.int .i64 0), .lit (.int .i64 0), .arr 1 0 [] false, .lit (.int .i64 0), .arr 1 0 [] false, .lit (.bool false), .arr 5 0 [] false], false⟩ := tiok Tryz.type93 Tryz.underlying93 rfl rfl rfl (fun w M => FrL.cons' (Fr.lit' w M _) (FrL.cons' (Fr.lit' w M _) (FrL.cons' (Fr.nil w M _ (by decide)) (FrL.cons' (Fr.lit' w M _) (FrL.cons' (Fr.nil w M _ (by decide)) (FrL.cons' (Fr.lit' w M _) (FrL.cons' (Fr.nil w M _ (by decide)) (FrL.nil' w M)))))))) (fun fs h => ⟨_, rfl⟩) (⟨_, rfl, rfl⟩) (fun h => by cases h)
theorem tab_ok94 : TIok Tryz.prog 94 ⟨.struct [(59, 0), (61, 1)], 2, 48, [.arr 2 0 [] false, .arr 1 0 [] false], false⟩ := tiok Tryz.type94 Tryz.underlying94 rfl rfl rfl (fun w M => FrL.cons' (Fr.nil w M _ (by decide)) (FrL.cons' (Fr.nil w M _ (by decide)) (FrL.nil' w M))) (fun fs h => ⟨_, rfl⟩) (⟨_, rfl, rfl⟩) (fun h => by cases h)
theorem tab_ok95 : TIok Tryz.prog 95 ⟨.struct [(59, 0), (61, 1)], 2, 48, [.arr 2 0 [] false, .arr 1 0 [] false], false⟩ := tiok Tryz.type95 Tryz.underlying95 rfl rfl rfl (fun w M => FrL.cons' (Fr.nil w M _ (by decide)) (FrL.cons' (Fr.nil w M _ (by decide)) (FrL.nil' w M))) (fun fs h => ⟨_, rfl⟩) (⟨_, rfl, rfl⟩) (fun h => by cases h)
theorem tab_ok105 : TIok Tryz.prog 105 ⟨.struct [(3, 0), (3, 1), (9, 2)], 3, 32, [.lit (.int .i64 0), .lit (.int .i64 0), .lit (.string ⟨#[]⟩)], false⟩ := tiok Tryz.type105 Tryz.underlying105 rfl rfl rfl (fun w M => FrL.cons' (Fr.lit' w M _) (FrL.cons' (Fr.lit' w M _) (FrL.cons' (Fr.lit' w M _) (FrL.nil' w M)))) (fun fs h => ⟨_, rfl⟩) (⟨_, rfl, rfl⟩) (fun h => by cases h)
theorem tab_ok106 : TIok Tryz.prog 106 ⟨.struct [(3, 0), (3, 1), (9, 2)], 3, 32, [.lit (.int .i64 0), .lit (.int .i64 0), .lit (.string ⟨#[]⟩)], false⟩ := tiok Tryz.type106 Tryz.underlying106 rfl rfl rfl (fun w M => FrL.cons' (Fr.lit' w M _) (FrL.cons' (Fr.lit' w M _) (FrL.cons' (Fr.lit' w M _) (FrL.nil' w M)))) (fun fs h => ⟨_, rfl⟩) (⟨_, rfl, rfl⟩) (fun h => by cases h)
theorem tab_ok107 : TIok Tryz.prog 107 ⟨.struct [(3, 0), (3, 1), (106, 2)], 5, 48, [.lit (.int .i64 0), .lit (.int .i64 0), .lit (.int .i64 0), .lit (.int .i64 0), .lit (.string ⟨#[]⟩)], false⟩ := tiok Tryz.type107 Tryz.underlying107 rfl rfl rfl (fun w M => FrL.cons' (Fr.lit' w M _) (FrL.cons' (Fr.lit' w M _) (FrL.cons' (Fr.lit' w M _) (FrL.cons' (Fr.lit' w M _) (FrL.cons' (Fr.lit' w M _) (FrL.nil' w M)))))) (fun fs h => ⟨_, rfl⟩) (⟨_, rfl, rfl⟩) (fun h => by cases h)
theorem tab_ok108 : TIok Tryz.prog 108 ⟨.struct [(3, 0), (3, 1), (106, 2)], 5, 48, [.lit (.int .i64 0), .lit (.int .i64 0), .lit (.int .i64 0), .lit (.int .i64 0), .lit (.string ⟨#[]⟩)], false⟩ := tiok Tryz.type108 Tryz.underlying108 rfl rfl rfl (fun w M => FrL.cons' (Fr.lit' w M _) (FrL.cons' (Fr.lit' w M _) (FrL.cons' (Fr.lit' w M _) (FrL.cons' (Fr.lit' w M _) (FrL.cons' (Fr.lit' w M _) (FrL.nil' w M)))))) (fun fs h => ⟨_, rfl⟩) (⟨_, rfl, rfl⟩) (fun h => by cases h)
theorem tab_ok112 : TIok Tryz.prog 112 ⟨.struct [(3, 0), (4, 1)], 2, 16, [.lit (.int .i64 0), .lit (.bool false)], false⟩ := tiok Tryz.type112 Tryz.underlying112 rfl rfl rfl (fun w M => FrL.cons' (Fr.lit' w M _) (FrL.cons' (Fr.lit' w M _) (FrL.nil' w M))) (fun fs h => ⟨_, rfl⟩) (⟨_, rfl, rfl⟩) (fun h => by cases h)
theorem tab_ok113 : TIok Tryz.prog 113 ⟨.struct [(3, 0), (4, 1)], 2, 16, [.lit (.int .i64 0), .lit (.bool false)], false⟩ := tiok Tryz.type113 Tryz.underlying113 rfl rfl rfl (fun w M => FrL.cons' (Fr.lit' w M _) (FrL.cons' (Fr.lit' w M _) (FrL.nil' w M))) (fun fs h => ⟨_, rfl⟩) (⟨_, rfl, rfl⟩) (fun h => by cases h)
theorem tab_ok115 : TIok Tryz.prog 115 ⟨.struct [(3, 0), (4, 1)], 2, 16, [.lit (.int .i64 0), .lit (.bool false)], false⟩ := tiok Tryz.type115 Tryz.underlying115 rfl rfl rfl (fun w M => FrL.cons' (Fr.lit' w M _) (FrL.cons' (Fr.lit' w M _) (FrL.nil' w M))) (fun fs h => ⟨_, rfl⟩) (⟨_, rfl, rfl⟩) (fun h => by cases h)
theorem tab_ok117 : TIok Tryz.prog 117 ⟨.struct [(3, 0), (3, 1), (9, 2)], 3, 32, [.lit (.int .i64 0), .lit (.int .i64 0), .lit (.string ⟨#[]⟩)], true⟩ := tiok Tryz.type117 Tryz.underlying117 rfl rfl rfl (fun w M => FrL.cons' (Fr.lit' w M _) (FrL.cons' (Fr.lit' w M _) (FrL.cons' (Fr.lit' w M _) (FrL.nil' w M)))) (fun fs h => ⟨_, rfl⟩) (⟨_, rfl, rfl⟩) (fun h => ⟨Tryz.stoodInHeld117, Tryz.eqGuardType117, by simp [Program.fieldsOf, Tryz.underlying117]⟩)
theorem tab_ok118 : TIok Tryz.prog 118 ⟨.struct [(3, 0), (3, 1), (117, 2)], 5, 48, [.lit (.int .i64 0), .lit (.int .i64 0), .lit (.int .i64 0), .lit (.int .i64 0), .lit (.string ⟨#[]⟩)], false⟩ := tiok Tryz.type118 Tryz.underlying118 rfl rfl rfl (fun w M => FrL.cons' (Fr.lit' w M _) (FrL.cons' (Fr.lit' w M _) (FrL.cons' (Fr.lit' w M _) (FrL.cons' (Fr.lit' w M _) (FrL.cons' (Fr.lit' w M _) (FrL.nil' w M)))))) (fun fs h => ⟨_, rfl⟩) (⟨_, rfl, rfl⟩) (fun h => by cases h)
theorem tab_ok119 : TIok Tryz.prog 119 ⟨.struct [(3, 0), (3, 1), (117, 2)], 5, 48, [.lit (.int .i64 0), .lit (.int .i64 0), .lit (.int .i64 0), .lit (.int .i64 0), .lit (.string ⟨#[]⟩)], false⟩ := tiok Tryz.type119 Tryz.underlying119 rfl rfl rfl (fun w M => FrL.cons' (Fr.lit' w M _) (FrL.cons' (Fr.lit' w M _) (FrL.cons' (Fr.lit' w M _) (FrL.cons' (Fr.lit' w M _) (FrL.cons' (Fr.lit' w M _) (FrL.nil' w M)))))) (fun fs h => ⟨_, rfl⟩) (⟨_, rfl, rfl⟩) (fun h => by cases h)
theorem tab_ok135 : TIok Tryz.prog 135 ⟨.func, 1, 8, [.lit .nilFunc], false⟩ := tiok Tryz.type135 Tryz.underlying135 rfl rfl rfl (fun w M => FrL.cons' (Fr.lit' w M _) (FrL.nil' w M)) (fun fs h => by cases h) (⟨_, _, _, rfl⟩) (fun h => by cases h)
theorem tab_ok147 : TIok Tryz.prog 147 ⟨.func, 1, 8, [.lit .nilFunc], false⟩ := tiok Tryz.type147 Tryz.underlying147 rfl rfl rfl (fun w M => FrL.cons' (Fr.lit' w M _) (FrL.nil' w M)) (fun fs h => by cases h) (⟨_, _, _, rfl⟩) (fun h => by cases h)
theorem tab_ok158 : TIok Tryz.prog 158 ⟨.slice 5, 1, 24, [.arr 1 0 [] false], false⟩ := tiok Tryz.type158 Tryz.underlying158 rfl rfl rfl (fun w M => FrL.cons' (Fr.nil w M _ (by decide)) (FrL.nil' w M)) (fun fs h => by cases h) (rfl) (fun h => by cases h)
theorem tab_ok165 : TIok Tryz.prog 165 ⟨.func, 1, 8, [.lit .nilFunc], false⟩ := tiok Tryz.type165 Tryz.underlying165 rfl rfl rfl (fun w M => FrL.cons' (Fr.lit' w M _) (FrL.nil' w M)) (fun fs h => by cases h) (⟨_, _, _, rfl⟩) (fun h => by cases h)
theorem tab_ok169 : TIok Tryz.prog 169 ⟨.func, 1, 8, [.lit .nilFunc], false⟩ := tiok Tryz.type169 Tryz.underlying169 rfl rfl rfl (fun w M => FrL.cons' (Fr.lit' w M _) (FrL.nil' w M)) (fun fs h => by cases h) (⟨_, _, _, rfl⟩) (fun h => by cases h)
theorem tab_ok177 : TIok Tryz.prog 177 ⟨.func, 1, 8, [.lit .nilFunc], false⟩ := tiok Tryz.type177 Tryz.underlying177 rfl rfl rfl (fun w M => FrL.cons' (Fr.lit' w M _) (FrL.nil' w M)) (fun fs h => by cases h) (⟨_, _, _, rfl⟩) (fun h => by cases h)
theorem tab_ok180 : TIok Tryz.prog 180 ⟨.func, 1, 8, [.lit .nilFunc], false⟩ := tiok Tryz.type180 Tryz.underlying180 rfl rfl rfl (fun w M => FrL.cons' (Fr.lit' w M _) (FrL.nil' w M)) (fun fs h => by cases h) (⟨_, _, _, rfl⟩) (fun h => by cases h)
theorem tab_ok183 : TIok Tryz.prog 183 ⟨.slice 59, 1, 24, [.arr 1 0 [] false], false⟩ := tiok Tryz.type183 Tryz.underlying183 rfl rfl rfl (fun w M => FrL.cons' (Fr.nil w M _ (by decide)) (FrL.nil' w M)) (fun fs h => by cases h) (rfl) (fun h => by cases h)
def tab : List (Nat × TI) := [
  (2, ⟨.int .i64, 1, 8, [.lit (.int .i64 0)], false⟩),
  (3, ⟨.int .i64, 1, 8, [.lit (.int .i64 0)], false⟩),
  (4, ⟨.bool, 1, 1, [.lit (.bool false)], false⟩),
  (5, ⟨.int .u8, 1, 1, [.lit (.int .u8 0)], false⟩),
  (7, ⟨.struct [(2, 0), (3, 1), (4, 2), (6, 3)], 4, 24, [.lit (.int .i64 0), .lit (.int .i64 0), .lit (.bool false), .lit (.int .u8 0)], false⟩),
  (9, ⟨.str, 1, 16, [.lit (.string ⟨#[]⟩)], false⟩),
  (15, ⟨.ptr 197, 1, 8, [.lit (.pointer none)], false⟩),
  (16, ⟨.ptr 200, 1, 8, [.lit (.pointer none)], false⟩),
  (17, ⟨.ptr 209, 1, 8, [.lit (.pointer none)], false⟩),
  (22, ⟨.slice 85, 1, 24, [.arr 2 0 [] false], false⟩),
  (23, ⟨.slice 88, 1, 24, [.arr 7 0 [] false], false⟩),
  (24, ⟨.slice 106, 1, 24, [.arr 3 0 [] false], false⟩),
  (25, ⟨.struct [(3, 0), (24, 1), (4, 2)], 3, 40, [.lit (.int .i64 0), .arr 3 0 [] false, .lit (.bool false)], false⟩),
  (26, ⟨.struct [(3, 0), (24, 1), (4, 2)], 3, 40, [.lit (.int .i64 0), .arr 3 0 [] false, .lit (.bool false)], false⟩),
  (30, ⟨.slice 3, 1, 24, [.arr 1 0 [] false], false⟩),
  (32, ⟨.slice 95, 1, 24, [.arr 2 0 [] false], false⟩),
  (34, ⟨.slice 93, 1, 24, [.arr 7 0 [] false], false⟩),
  (36, ⟨.slice 117, 1, 24, [.arr 3 0 [] false], false⟩),
  (37, ⟨.struct [(3, 0), (36, 1), (4, 2)], 3, 40, [.lit (.int .i64 0), .arr 3 0 [] false, .lit (.bool false)], false⟩),
  (38, ⟨.struct [(3, 0), (36, 1), (4, 2)], 3, 40, [.lit (.int .i64 0), .arr 3 0 [] false, .lit (.bool false)], false⟩),
  (49, ⟨.slice 115, 1, 24, [.arr 2 0 [] false], false⟩),
  (50, ⟨.slice 24, 1, 24, [.arr 1 0 [] false], false⟩),
  (51, ⟨.slice 4, 1, 24, [.arr 1 0 [] false], false⟩),
  (52, ⟨.struct [(50, 0), (51, 1)], 2, 48, [.arr 1 0 [] false, .arr 1 0 [] false], false⟩),
  (53, ⟨.struct [(50, 0), (51, 1)], 2, 48, [.arr 1 0 [] false, .arr 1 0 [] false], false⟩),
  (54, ⟨.slice 108, 1, 24, [.arr 5 0 [] false], false⟩),
  (59, ⟨.slice 113, 1, 24, [.arr 2 0 [] false], false⟩),
  (61, ⟨.slice 36, 1, 24, [.arr 1 0 [] false], false⟩),
  (62, ⟨.struct [(61, 0), (51, 1)], 2, 48, [.arr 1 0 [] false, .arr 1 0 [] false], false⟩),
  (63, ⟨.struct [(61, 0), (51, 1)], 2, 48, [.arr 1 0 [] false, .arr 1 0 [] false], false⟩),
  (65, ⟨.slice 119, 1, 24, [.arr 5 0 [] false], false⟩),
  (84, ⟨.struct [(49, 0), (50, 1)], 2, 48, [.arr 2 0 [] false, .arr 1 0 [] false], false⟩),
  (85, ⟨.struct [(49, 0), (50, 1)], 2, 48, [.arr 2 0 [] false, .arr 1 0 [] false], false⟩),
  (87, ⟨.struct [(3, 0), (3, 1), (30, 2), (3, 3), (30, 4), (4, 5), (54, 6)], 7, 104, [.lit (.int .i64 0), .lit (.int .i64 0), .arr 1 0 [] false, .lit (.int .i64 0), .arr 1 0 [] false, .lit (.bool false), .arr 5 0 [] false], false⟩),
  (88, ⟨.struct [(3, 0), (3, 1), (30, 2), (3, 3), (30, 4), (4, 5), (54, 6)], 7, 104, [.lit (.int .i64 0), .lit (.int .i64 0), .arr 1 0 [] false, .lit (.int .i64 0), .arr 1 0 [] false, .lit (.bool false), .arr 5 0 [] false], false⟩),
  (92, ⟨.struct [(3, 0), (3, 1), (30, 2), (3, 3), (30, 4), (4, 5), (65, 6)], 7, 104, [.lit (.int .i64 0), .lit (.int .i64 0), .arr 1 0 [] false, .lit (.int .i64 0), .arr 1 0 [] false, .lit (.bool false), .arr 5 0 [] false], false⟩),
  (93, ⟨.struct [(3, 0), (3, 1), (30, 2), (3, 3), (30, 4), (4, 5), (65, 6)], 7, 104, [.lit (.int .i64 0), .lit (.int .i64 0), .arr 1 0 [] false, .lit (.int .i64 0), .arr 1 0 [] false, .lit (.bool false), .arr 5 0 [] false], false⟩),
  (94, ⟨.struct [(59, 0), (61, 1)], 2, 48, [.arr 2 0 [] false, .arr 1 0 [] false], false⟩),
  (95, ⟨.struct [(59, 0), (61, 1)], 2, 48, [.arr 2 0 [] false, .arr 1 0 [] false], false⟩),
  (105, ⟨.struct [(3, 0), (3, 1), (9, 2)], 3, 32, [.lit (.int .i64 0), .lit (.int .i64 0), .lit (.string ⟨#[]⟩)], false⟩),
  (106, ⟨.struct [(3, 0), (3, 1), (9, 2)], 3, 32, [.lit (.int .i64 0), .lit (.int .i64 0), .lit (.string ⟨#[]⟩)], false⟩),
  (107, ⟨.struct [(3, 0), (3, 1), (106, 2)], 5, 48, [.lit (.int .i64 0), .lit (.int .i64 0), .lit (.int .i64 0), .lit (.int .i64 0), .lit (.string ⟨#[]⟩)], false⟩),
  (108, ⟨.struct [(3, 0), (3, 1), (106, 2)], 5, 48, [.lit (.int .i64 0), .lit (.int .i64 0), .lit (.int .i64 0), .lit (.int .i64 0), .lit (.string ⟨#[]⟩)], false⟩),
  (112, ⟨.struct [(3, 0), (4, 1)], 2, 16, [.lit (.int .i64 0), .lit (.bool false)], false⟩),
  (113, ⟨.struct [(3, 0), (4, 1)], 2, 16, [.lit (.int .i64 0), .lit (.bool false)], false⟩),
  (115, ⟨.struct [(3, 0), (4, 1)], 2, 16, [.lit (.int .i64 0), .lit (.bool false)], false⟩),
  (117, ⟨.struct [(3, 0), (3, 1), (9, 2)], 3, 32, [.lit (.int .i64 0), .lit (.int .i64 0), .lit (.string ⟨#[]⟩)], true⟩),
  (118, ⟨.struct [(3, 0), (3, 1), (117, 2)], 5, 48, [.lit (.int .i64 0), .lit (.int .i64 0), .lit (.int .i64 0), .lit (.int .i64 0), .lit (.string ⟨#[]⟩)], false⟩),
  (119, ⟨.struct [(3, 0), (3, 1), (117, 2)], 5, 48, [.lit (.int .i64 0), .lit (.int .i64 0), .lit (.int .i64 0), .lit (.int .i64 0), .lit (.string ⟨#[]⟩)], false⟩),
  (135, ⟨.func, 1, 8, [.lit .nilFunc], false⟩),
  (147, ⟨.func, 1, 8, [.lit .nilFunc], false⟩),
  (158, ⟨.slice 5, 1, 24, [.arr 1 0 [] false], false⟩),
  (165, ⟨.func, 1, 8, [.lit .nilFunc], false⟩),
  (169, ⟨.func, 1, 8, [.lit .nilFunc], false⟩),
  (177, ⟨.func, 1, 8, [.lit .nilFunc], false⟩),
  (180, ⟨.func, 1, 8, [.lit .nilFunc], false⟩),
  (183, ⟨.slice 59, 1, 24, [.arr 1 0 [] false], false⟩)]
def τ : Tau := tabOf tab
theorem τ_ok : TOK Tryz.prog τ := tabOf_ok tab ⟨tab_ok2, ⟨tab_ok3, ⟨tab_ok4, ⟨tab_ok5, ⟨tab_ok7, ⟨tab_ok9, ⟨tab_ok15, ⟨tab_ok16, ⟨tab_ok17, ⟨tab_ok22, ⟨tab_ok23, ⟨tab_ok24, ⟨tab_ok25, ⟨tab_ok26, ⟨tab_ok30, ⟨tab_ok32, ⟨tab_ok34, ⟨tab_ok36, ⟨tab_ok37, ⟨tab_ok38, ⟨tab_ok49, ⟨tab_ok50, ⟨tab_ok51, ⟨tab_ok52, ⟨tab_ok53, ⟨tab_ok54, ⟨tab_ok59, ⟨tab_ok61, ⟨tab_ok62, ⟨tab_ok63, ⟨tab_ok65, ⟨tab_ok84, ⟨tab_ok85, ⟨tab_ok87, ⟨tab_ok88, ⟨tab_ok92, ⟨tab_ok93, ⟨tab_ok94, ⟨tab_ok95, ⟨tab_ok105, ⟨tab_ok106, ⟨tab_ok107, ⟨tab_ok108, ⟨tab_ok112, ⟨tab_ok113, ⟨tab_ok115, ⟨tab_ok117, ⟨tab_ok118, ⟨tab_ok119, ⟨tab_ok135, ⟨tab_ok147, ⟨tab_ok158, ⟨tab_ok165, ⟨tab_ok169, ⟨tab_ok177, ⟨tab_ok180, ⟨tab_ok183, trivial⟩⟩⟩⟩⟩⟩⟩⟩⟩⟩⟩⟩⟩⟩⟩⟩⟩⟩⟩⟩⟩⟩⟩⟩⟩⟩⟩⟩⟩⟩⟩⟩⟩⟩⟩⟩⟩⟩⟩⟩⟩⟩⟩⟩⟩⟩⟩⟩⟩⟩⟩⟩⟩⟩⟩⟩⟩
theorem zi_ok63 : ZIok Tryz.prog 63 [.arr 1 0 [] true, .arr 1 0 [] true] := ziok Tryz.type63 rfl (fun w M => FrL.cons' (Fr.nilF w M _ (by decide)) (FrL.cons' (Fr.nilF w M _ (by decide)) (FrL.nil' w M)))
theorem dz_ok36 : DZok Tryz.prog 36 (DEnc.cells ([] : List T_impl_Value)) := dzok Tryz.type36 rfl (fun w M => OwL.cons' (Ow.nilF w M _ (by decide)) (OwL.nil' w M))
theorem v {Γ : Ctx} {ops : Array Oper} {Q : Exit → St → Prop} {j : Nat} {st : St} (n : Nat) (nt : Nat) (T : List (Nat × V)) (H : Hp) (hk : opsP Tryz.prog Γ ops Q (j + n) ⟨nt, T, H⟩) (h : (evS τ [] ops n j st).map (fun s => s.keep (T.map (·.1))) = some ⟨nt, T, H⟩ := by kernel_rfl) : opsP Tryz.prog Γ ops Q j st := opsP_evk' (st' := ⟨nt, T, H⟩) τ_ok [] n (T.map (·.1)) h hk
theorem vM {Γ : Ctx} {ops : Array Oper} {Q : Exit → St → Prop} {j : Nat} {st : St} (mu : List Nat) (n : Nat) (nt : Nat) (T : List (Nat × V)) (H : Hp) (hk : opsP Tryz.prog Γ ops Q (j + n) ⟨nt, T, H⟩) (h : (evS τ mu ops n j st).map (fun s => s.keep (T.map (·.1))) = some ⟨nt, T, H⟩ := by kernel_rfl) : opsP Tryz.prog Γ ops Q j st := opsP_evk' (st' := ⟨nt, T, H⟩) τ_ok mu n (T.map (·.1)) h hk
theorem ve {Γ : Ctx} {ops : Array Oper} {Q : Exit → St → Prop} {j : Nat} {st : St} (n : Nat) (nt : Nat) (T : List (Nat × V)) (H : Hp) (hk : Q .normal ⟨nt, T, H⟩) (h : (evS τ [] ops n j st).map (fun s => s.keep (T.map (·.1))) = some ⟨nt, T, H⟩ := by kernel_rfl) (he : ops.size = j + n := by rfl) : opsP Tryz.prog Γ ops Q j st := opsP_evk' (st' := ⟨nt, T, H⟩) τ_ok [] n (T.map (·.1)) h (opsP_end he hk)
theorem veM {Γ : Ctx} {ops : Array Oper} {Q : Exit → St → Prop} {j : Nat} {st : St} (mu : List Nat) (n : Nat) (nt : Nat) (T : List (Nat × V)) (H : Hp) (hk : Q .normal ⟨nt, T, H⟩) (h : (evS τ mu ops n j st).map (fun s => s.keep (T.map (·.1))) = some ⟨nt, T, H⟩ := by kernel_rfl) (he : ops.size = j + n := by rfl) : opsP Tryz.prog Γ ops Q j st := opsP_evk' (st' := ⟨nt, T, H⟩) τ_ok mu n (T.map (·.1)) h (opsP_end he hk)
theorem rv {Γ : Ctx} {ops : Array Oper} {Q : Exit → St → Prop} {id : Nat} {st : St} (n : Nat) (nt : Nat) (T : List (Nat × V)) (H : Hp) (hk : opsP Tryz.prog Γ ops Q (0 + n) ⟨nt, T, H⟩) (h : (evS τ [] ops n 0 st).map (fun s => s.keep (T.map (·.1))) = some ⟨nt, T, H⟩ := by kernel_rfl) : pwp Tryz.prog Γ (.region id ops false) Q st := pwp_region (opsP_evk' (st' := ⟨nt, T, H⟩) τ_ok [] n (T.map (·.1)) h hk)
theorem rvM {Γ : Ctx} {ops : Array Oper} {Q : Exit → St → Prop} {id : Nat} {st : St} (mu : List Nat) (n : Nat) (nt : Nat) (T : List (Nat × V)) (H : Hp) (hk : opsP Tryz.prog Γ ops Q (0 + n) ⟨nt, T, H⟩) (h : (evS τ mu ops n 0 st).map (fun s => s.keep (T.map (·.1))) = some ⟨nt, T, H⟩ := by kernel_rfl) : pwp Tryz.prog Γ (.region id ops false) Q st := pwp_region (opsP_evk' (st' := ⟨nt, T, H⟩) τ_ok mu n (T.map (·.1)) h hk)
theorem rve {Γ : Ctx} {ops : Array Oper} {Q : Exit → St → Prop} {id : Nat} {st : St} (nt : Nat) (T : List (Nat × V)) (H : Hp) (hk : Q .normal ⟨nt, T, H⟩) (h : (evS τ [] ops ops.size 0 st).map (fun s => s.keep (T.map (·.1))) = some ⟨nt, T, H⟩ := by kernel_rfl) : pwp Tryz.prog Γ (.region id ops false) Q st := pwp_region (opsP_evk' (st' := ⟨nt, T, H⟩) τ_ok [] ops.size (T.map (·.1)) h (opsP_end (Nat.zero_add _).symm hk))
theorem rveM {Γ : Ctx} {ops : Array Oper} {Q : Exit → St → Prop} {id : Nat} {st : St} (mu : List Nat) (nt : Nat) (T : List (Nat × V)) (H : Hp) (hk : Q .normal ⟨nt, T, H⟩) (h : (evS τ mu ops ops.size 0 st).map (fun s => s.keep (T.map (·.1))) = some ⟨nt, T, H⟩ := by kernel_rfl) : pwp Tryz.prog Γ (.region id ops false) Q st := pwp_region (opsP_evk' (st' := ⟨nt, T, H⟩) τ_ok mu ops.size (T.map (·.1)) h (opsP_end (Nat.zero_add _).symm hk))
theorem srv {Γ : Ctx} {ops : Array Oper} {Q : Exit → St → Prop} {id : Nat} {y : Code} {st : St} (n : Nat) (nt : Nat) (T : List (Nat × V)) (H : Hp) (hk : opsP Tryz.prog Γ ops (Dthen (fun st' => pwp Tryz.prog Γ y Q st') Q) (0 + n) ⟨nt, T, H⟩) (h : (evS τ [] ops n 0 st).map (fun s => s.keep (T.map (·.1))) = some ⟨nt, T, H⟩ := by kernel_rfl) : pwp Tryz.prog Γ (.seq (.region id ops false) y) Q st := pwp_seq (pwp_region (opsP_evk' (st' := ⟨nt, T, H⟩) τ_ok [] n (T.map (·.1)) h hk))
theorem srvM {Γ : Ctx} {ops : Array Oper} {Q : Exit → St → Prop} {id : Nat} {y : Code} {st : St} (mu : List Nat) (n : Nat) (nt : Nat) (T : List (Nat × V)) (H : Hp) (hk : opsP Tryz.prog Γ ops (Dthen (fun st' => pwp Tryz.prog Γ y Q st') Q) (0 + n) ⟨nt, T, H⟩) (h : (evS τ mu ops n 0 st).map (fun s => s.keep (T.map (·.1))) = some ⟨nt, T, H⟩ := by kernel_rfl) : pwp Tryz.prog Γ (.seq (.region id ops false) y) Q st := pwp_seq (pwp_region (opsP_evk' (st' := ⟨nt, T, H⟩) τ_ok mu n (T.map (·.1)) h hk))
theorem srve {Γ : Ctx} {ops : Array Oper} {Q : Exit → St → Prop} {id : Nat} {y : Code} {st : St} (nt : Nat) (T : List (Nat × V)) (H : Hp) (hk : pwp Tryz.prog Γ y Q ⟨nt, T, H⟩) (h : (evS τ [] ops ops.size 0 st).map (fun s => s.keep (T.map (·.1))) = some ⟨nt, T, H⟩ := by kernel_rfl) : pwp Tryz.prog Γ (.seq (.region id ops false) y) Q st := pwp_seq (pwp_region (opsP_evk' (st' := ⟨nt, T, H⟩) τ_ok [] ops.size (T.map (·.1)) h (opsP_end (Nat.zero_add _).symm hk)))
theorem srveM {Γ : Ctx} {ops : Array Oper} {Q : Exit → St → Prop} {id : Nat} {y : Code} {st : St} (mu : List Nat) (nt : Nat) (T : List (Nat × V)) (H : Hp) (hk : pwp Tryz.prog Γ y Q ⟨nt, T, H⟩) (h : (evS τ mu ops ops.size 0 st).map (fun s => s.keep (T.map (·.1))) = some ⟨nt, T, H⟩ := by kernel_rfl) : pwp Tryz.prog Γ (.seq (.region id ops false) y) Q st := pwp_seq (pwp_region (opsP_evk' (st' := ⟨nt, T, H⟩) τ_ok mu ops.size (T.map (·.1)) h (opsP_end (Nat.zero_add _).symm hk)))
theorem pc {α : Type} {Γ : Ctx} {Q : Exit → St → Prop} {st : St} {o : Operand} {c d : Code} {e : Bool} {a b : Option α} {x : Option α} (h : (bif e then a else b) = x) (ht : a = x → pwp Tryz.prog Γ c Q st) (hf : b = x → pwp Tryz.prog Γ d Q st) (hc : evalV st o = some (.lit (.bool e)) := by kernel_rfl) : pwp Tryz.prog Γ (.cond o c d) Q st := pwp_cond e hc (fun q => ht (bifT q h)) (fun q => hf (bifF q h))
theorem rz {fn : Func} {out : V} {st : St} (hx : resV τ st fn.results.toList = some out := by kernel_rfl) (hz : frz out = true := by kernel_rfl) : Qret τ fn out .ret st := ⟨.inr rfl, out, [], hx, OutP.frz hz, List.nodup_nil⟩
theorem rt {fn : Func} {out : V} {st : St} (x : V) {ks : List Nat} (ho : OutP st.H x out ks) (hx : resV τ st fn.results.toList = some x := by kernel_rfl) (hn : ks.Nodup := by decide) : Qret τ fn out .ret st := ⟨.inr rfl, x, ks, hx, ho, hn⟩
theorem si {α : Type} {a b : α} (h : some a = some b) : a = b := Option.some.inj h
theorem fk (b : Bool) : b = true ∨ b = false := Bool.eq_false_or_eq_true b
theorem bT {α : Type} {c : Bool} {a b x : α} (hc : c = true) (h : (bif c then a else b) = x) : a = x := bifT hc h
theorem bF {α : Type} {c : Bool} {a b x : α} (hc : c = false) (h : (bif c then a else b) = x) : b = x := bifF hc h
end Go.D
