import Derived.Test.YtgnakofgahofjaaBokDPart
import Derived.Test.YtgnakofgahofjaaProg
import Derived.KernelRfl
set_option linter.unusedVariables false
set_option linter.unusedSimpArgs false
namespace Go.D
open Go.Proofs
structure T_impl_Value where
  fKind : Int
  fN : Int
  fS : ByteArray
instance : Enc T_impl_Value := ⟨3, fun x => [I x.fKind, I x.fN, S x.fS], true, fun _ => rfl, by decide, fun _ => rfl, fun _ => rfl⟩
structure T_impl_Part where
  fKind : Int
  fN : Int
  fV : T_impl_Value
instance : Enc T_impl_Part := ⟨5, fun x => [I x.fKind, I x.fN, I x.fV.fKind, I x.fV.fN, S x.fV.fS], true, fun _ => rfl, by decide, fun _ => rfl, fun _ => rfl⟩
structure T_impl_Bond where
  fKind : Int
  fIn : Int
  fList : List Int
  fOf : Int
  fTo : List Int
  fFollow : Bool
  fE : List T_impl_Part
instance : Enc T_impl_Bond := ⟨7, fun x => [I x.fKind, I x.fIn, A x.fList, I x.fOf, A x.fTo, B x.fFollow, A x.fE], true, fun _ => rfl, by decide, fun _ => rfl, fun _ => rfl⟩
structure T_impl_Column where
  fKind : Int
  fEmpty : Bool
instance : Enc T_impl_Column := ⟨2, fun x => [I x.fKind, B x.fEmpty], true, fun _ => rfl, by decide, fun _ => rfl, fun _ => rfl⟩
structure T_impl_Table where
  fColumns : List T_impl_Column
  fRows : List (List T_impl_Value)
instance : Enc T_impl_Table := ⟨2, fun x => [A x.fColumns, A x.fRows], true, fun _ => rfl, by decide, fun _ => rfl, fun _ => rfl⟩
structure T_spec_l20Rd where
  fB : List UInt8
  fP : Int
instance : Enc T_spec_l20Rd := ⟨2, fun x => [A x.fB, I x.fP], true, fun _ => rfl, by decide, fun _ => rfl, fun _ => rfl⟩
def eq_T_impl_Value (x y : T_impl_Value) : Bool := andB [x.fKind == y.fKind, x.fN == y.fN, x.fS.toList == y.fS.toList]
instance : DFlat T_impl_Value := ⟨fun _ => rfl⟩
instance : DFlat T_impl_Part := ⟨fun _ => rfl⟩
instance : DEnc T_impl_Bond := ⟨fun x => [I x.fKind, I x.fIn, O x.fList, I x.fOf, O x.fTo, B x.fFollow, O x.fE], fun _ => rfl, fun x => (FzToL.cons (FzTo.lit _) (FzToL.cons (FzTo.lit _) (FzToL.cons (FzTo.O _) (FzToL.cons (FzTo.lit _) (FzToL.cons (FzTo.O _) (FzToL.cons (FzTo.lit _) (FzToL.cons (FzTo.O _) FzToL.nil))))))), fun _ => rfl, fun x => (BlindL.cons (Blind.lit _) (BlindL.cons (Blind.lit _) (BlindL.cons (Blind.O DFlat.lit _) (BlindL.cons (Blind.lit _) (BlindL.cons (Blind.O DFlat.lit _) (BlindL.cons (Blind.lit _) (BlindL.cons (Blind.O DFlat.lit _) BlindL.nil)))))))⟩
instance : DNest T_impl_Bond := ⟨⟩
instance : DOne T_impl_Bond := ⟨fun _ => rfl⟩
instance : DFlat T_impl_Column := ⟨fun _ => rfl⟩
instance : DEnc T_impl_Table := ⟨fun x => [O x.fColumns, OD x.fRows], fun _ => rfl, fun x => (FzToL.cons (FzTo.O _) (FzToL.cons (FzTo.OD _) FzToL.nil)), fun _ => rfl, fun x => (BlindL.cons (Blind.O DFlat.lit _) (BlindL.cons (Blind.OD _) BlindL.nil))⟩
instance : DNest T_impl_Table := ⟨⟩
instance : DOne T_impl_Table := ⟨fun _ => rfl⟩
instance : DEnc T_spec_l20Rd := ⟨fun x => [O x.fB, I x.fP], fun _ => rfl, fun x => (FzToL.cons (FzTo.O _) (FzToL.cons (FzTo.lit _) FzToL.nil)), fun _ => rfl, fun x => (BlindL.cons (Blind.O DFlat.lit _) (BlindL.cons (Blind.lit _) BlindL.nil))⟩
instance : DNest T_spec_l20Rd := ⟨⟩
instance : DOne T_spec_l20Rd := ⟨fun _ => rfl⟩
theorem tab_ok2 : TIok Try.prog 2 ⟨.int .i64, 1, 8, [.lit (.int .i64 0)], false⟩ := tiok Try.type2 Try.underlying2 rfl rfl rfl (fun w M => FrL.cons' (Fr.lit' w M _) (FrL.nil' w M)) (fun fs h => by cases h) (rfl) (fun h => by cases h)
theorem tab_ok3 : TIok Try.prog 3 ⟨.int .i64, 1, 8, [.lit (.int .i64 0)], false⟩ := tiok Try.type3 Try.underlying3 rfl rfl rfl (fun w M => FrL.cons' (Fr.lit' w M _) (FrL.nil' w M)) (fun fs h => by cases h) (rfl) (fun h => by cases h)
theorem tab_ok4 : TIok Try.prog 4 ⟨.bool, 1, 1, [.lit (.bool false)], false⟩ := tiok Try.type4 Try.underlying4 rfl rfl rfl (fun w M => FrL.cons' (Fr.lit' w M _) (FrL.nil' w M)) (fun fs h => by cases h) (rfl) (fun h => by cases h)
theorem tab_ok5 : TIok Try.prog 5 ⟨.int .u8, 1, 1, [.lit (.int .u8 0)], false⟩ := tiok Try.type5 Try.underlying5 rfl rfl rfl (fun w M => FrL.cons' (Fr.lit' w M _) (FrL.nil' w M)) (fun fs h => by cases h) (rfl) (fun h => by cases h)
theorem tab_ok7 : TIok Try.prog 7 ⟨.struct [(2, 0), (3, 1), (4, 2), (6, 3)], 4, 24, [.lit (.int .i64 0), .lit (.int .i64 0), .lit (.bool false), .lit (.int .u8 0)], false⟩ := tiok Try.type7 Try.underlying7 rfl rfl rfl (fun w M => FrL.cons' (Fr.lit' w M _) (FrL.cons' (Fr.lit' w M _) (FrL.cons' (Fr.lit' w M _) (FrL.cons' (Fr.lit' w M _) (FrL.nil' w M))))) (fun fs h => ⟨_, rfl⟩) (⟨_, rfl, rfl⟩) (fun h => by cases h)
theorem tab_ok9 : TIok Try.prog 9 ⟨.str, 1, 16, [.lit (.string ⟨#[]⟩)], false⟩ := tiok Try.type9 Try.underlying9 rfl rfl rfl (fun w M => FrL.cons' (Fr.lit' w M _) (FrL.nil' w M)) (fun fs h => by cases h) (rfl) (fun h => by cases h)
theorem tab_ok15 : TIok Try.prog 15 ⟨.ptr 107, 1, 8, [.lit (.pointer none)], false⟩ := tiok Try.type15 Try.underlying15 rfl rfl rfl (fun w M => FrL.cons' (Fr.lit' w M _) (FrL.nil' w M)) (fun fs h => by cases h) (rfl) (fun h => by cases h)
theorem tab_ok16 : TIok Try.prog 16 ⟨.ptr 110, 1, 8, [.lit (.pointer none)], false⟩ := tiok Try.type16 Try.underlying16 rfl rfl rfl (fun w M => FrL.cons' (Fr.lit' w M _) (FrL.nil' w M)) (fun fs h => by cases h) (rfl) (fun h => by cases h)
theorem tab_ok17 : TIok Try.prog 17 ⟨.ptr 119, 1, 8, [.lit (.pointer none)], false⟩ := tiok Try.type17 Try.underlying17 rfl rfl rfl (fun w M => FrL.cons' (Fr.lit' w M _) (FrL.nil' w M)) (fun fs h => by cases h) (rfl) (fun h => by cases h)
theorem tab_ok22 : TIok Try.prog 22 ⟨.slice 5, 1, 24, [.arr 1 0 [] false], false⟩ := tiok Try.type22 Try.underlying22 rfl rfl rfl (fun w M => FrL.cons' (Fr.nil w M _ (by decide)) (FrL.nil' w M)) (fun fs h => by cases h) (rfl) (fun h => by cases h)
theorem tab_ok23 : TIok Try.prog 23 ⟨.slice 34, 1, 24, [.arr 2 0 [] false], false⟩ := tiok Try.type23 Try.underlying23 rfl rfl rfl (fun w M => FrL.cons' (Fr.nil w M _ (by decide)) (FrL.nil' w M)) (fun fs h => by cases h) (rfl) (fun h => by cases h)
theorem tab_ok24 : TIok Try.prog 24 ⟨.slice 3, 1, 24, [.arr 1 0 [] false], false⟩ := tiok Try.type24 Try.underlying24 rfl rfl rfl (fun w M => FrL.cons' (Fr.nil w M _ (by decide)) (FrL.nil' w M)) (fun fs h => by cases h) (rfl) (fun h => by cases h)
theorem tab_ok25 : TIok Try.prog 25 ⟨.slice 68, 1, 24, [.arr 5 0 [] false], false⟩ := tiok Try.type25 Try.underlying25 rfl rfl rfl (fun w M => FrL.cons' (Fr.nil w M _ (by decide)) (FrL.nil' w M)) (fun fs h => by cases h) (rfl) (fun h => by cases h)
theorem tab_ok26 : TIok Try.prog 26 ⟨.struct [(3, 0), (3, 1), (24, 2), (3, 3), (24, 4), (4, 5), (25, 6)], 7, 104, [.lit (.int .i64 0), .lit (.int .i64 0), .arr 1 0 [] false, .lit (.int .i64 0), .arr 1 0 [] false, .lit (.bool false), .arr 5 0 [] false], false⟩ := tiok Try.type26 Try.underlying26 rfl rfl rfl (fun w M => FrL.cons' (Fr.lit' w M _) (FrL.cons' (Fr.lit' w M _) (FrL.cons' (Fr.nil w M _ (by decide)) (FrL.cons' (Fr.lit' w M _) (FrL.cons' (Fr.nil w M _ (by decide)) (FrL.cons' (Fr.lit' w M _) (FrL.cons' (Fr.nil w M _ (by decide)) (FrL.nil' w M)))))))) (fun fs h => ⟨_, rfl⟩) (⟨_, rfl, rfl⟩) (fun h => by cases h)
theorem tab_ok27 : TIok Try.prog 27 ⟨.struct [(3, 0), (3, 1), (24, 2), (3, 3), (24, 4), (4, 5), (25, 6)], 7, 104, [.lit (.int .i64 0), .lit (.int .i64 0), .arr 1 0 [] false, .lit (.int .i64 0), .arr 1 0 [] false, .lit (.bool false), .arr 5 0 [] false], false⟩ := tiok Try.type27 Try.underlying27 rfl rfl rfl (fun w M => FrL.cons' (Fr.lit' w M _) (FrL.cons' (Fr.lit' w M _) (FrL.cons' (Fr.nil w M _ (by decide)) (FrL.cons' (Fr.lit' w M _) (FrL.cons' (Fr.nil w M _ (by decide)) (FrL.cons' (Fr.lit' w M _) (FrL.cons' (Fr.nil w M _ (by decide)) (FrL.nil' w M)))))))) (fun fs h => ⟨_, rfl⟩) (⟨_, rfl, rfl⟩) (fun h => by cases h)
theorem tab_ok31 : TIok Try.prog 31 ⟨.slice 47, 1, 24, [.arr 2 0 [] false], false⟩ := tiok Try.type31 Try.underlying31 rfl rfl rfl (fun w M => FrL.cons' (Fr.nil w M _ (by decide)) (FrL.nil' w M)) (fun fs h => by cases h) (rfl) (fun h => by cases h)
theorem tab_ok32 : TIok Try.prog 32 ⟨.slice 62, 1, 24, [.arr 1 0 [] false], false⟩ := tiok Try.type32 Try.underlying32 rfl rfl rfl (fun w M => FrL.cons' (Fr.nil w M _ (by decide)) (FrL.nil' w M)) (fun fs h => by cases h) (rfl) (fun h => by cases h)
theorem tab_ok33 : TIok Try.prog 33 ⟨.struct [(31, 0), (32, 1)], 2, 48, [.arr 2 0 [] false, .arr 1 0 [] false], false⟩ := tiok Try.type33 Try.underlying33 rfl rfl rfl (fun w M => FrL.cons' (Fr.nil w M _ (by decide)) (FrL.cons' (Fr.nil w M _ (by decide)) (FrL.nil' w M))) (fun fs h => ⟨_, rfl⟩) (⟨_, rfl, rfl⟩) (fun h => by cases h)
theorem tab_ok34 : TIok Try.prog 34 ⟨.struct [(31, 0), (32, 1)], 2, 48, [.arr 2 0 [] false, .arr 1 0 [] false], false⟩ := tiok Try.type34 Try.underlying34 rfl rfl rfl (fun w M => FrL.cons' (Fr.nil w M _ (by decide)) (FrL.cons' (Fr.nil w M _ (by decide)) (FrL.nil' w M))) (fun fs h => ⟨_, rfl⟩) (⟨_, rfl, rfl⟩) (fun h => by cases h)
theorem tab_ok39 : TIok Try.prog 39 ⟨.ptr 57, 1, 8, [.lit (.pointer none)], false⟩ := tiok Try.type39 Try.underlying39 rfl rfl rfl (fun w M => FrL.cons' (Fr.lit' w M _) (FrL.nil' w M)) (fun fs h => by cases h) (rfl) (fun h => by cases h)
theorem tab_ok46 : TIok Try.prog 46 ⟨.struct [(3, 0), (4, 1)], 2, 16, [.lit (.int .i64 0), .lit (.bool false)], false⟩ := tiok Try.type46 Try.underlying46 rfl rfl rfl (fun w M => FrL.cons' (Fr.lit' w M _) (FrL.cons' (Fr.lit' w M _) (FrL.nil' w M))) (fun fs h => ⟨_, rfl⟩) (⟨_, rfl, rfl⟩) (fun h => by cases h)
theorem tab_ok47 : TIok Try.prog 47 ⟨.struct [(3, 0), (4, 1)], 2, 16, [.lit (.int .i64 0), .lit (.bool false)], false⟩ := tiok Try.type47 Try.underlying47 rfl rfl rfl (fun w M => FrL.cons' (Fr.lit' w M _) (FrL.cons' (Fr.lit' w M _) (FrL.nil' w M))) (fun fs h => ⟨_, rfl⟩) (⟨_, rfl, rfl⟩) (fun h => by cases h)
theorem tab_ok51 : TIok Try.prog 51 ⟨.func, 1, 8, [.lit .nilFunc], false⟩ := tiok Try.type51 Try.underlying51 rfl rfl rfl (fun w M => FrL.cons' (Fr.lit' w M _) (FrL.nil' w M)) (fun fs h => by cases h) (⟨_, _, _, rfl⟩) (fun h => by cases h)
theorem tab_ok53 : TIok Try.prog 53 ⟨.func, 1, 8, [.lit .nilFunc], false⟩ := tiok Try.type53 Try.underlying53 rfl rfl rfl (fun w M => FrL.cons' (Fr.lit' w M _) (FrL.nil' w M)) (fun fs h => by cases h) (⟨_, _, _, rfl⟩) (fun h => by cases h)
theorem tab_ok54 : TIok Try.prog 54 ⟨.struct [(3, 0), (3, 1), (9, 2)], 3, 32, [.lit (.int .i64 0), .lit (.int .i64 0), .lit (.string ⟨#[]⟩)], false⟩ := tiok Try.type54 Try.underlying54 rfl rfl rfl (fun w M => FrL.cons' (Fr.lit' w M _) (FrL.cons' (Fr.lit' w M _) (FrL.cons' (Fr.lit' w M _) (FrL.nil' w M)))) (fun fs h => ⟨_, rfl⟩) (⟨_, rfl, rfl⟩) (fun h => by cases h)
theorem tab_ok55 : TIok Try.prog 55 ⟨.struct [(3, 0), (3, 1), (9, 2)], 3, 32, [.lit (.int .i64 0), .lit (.int .i64 0), .lit (.string ⟨#[]⟩)], true⟩ := tiok Try.type55 Try.underlying55 rfl rfl rfl (fun w M => FrL.cons' (Fr.lit' w M _) (FrL.cons' (Fr.lit' w M _) (FrL.cons' (Fr.lit' w M _) (FrL.nil' w M)))) (fun fs h => ⟨_, rfl⟩) (⟨_, rfl, rfl⟩) (fun h => ⟨Try.stoodInHeld55, Try.eqGuardType55, by simp [Program.fieldsOf, Try.underlying55]⟩)
theorem tab_ok56 : TIok Try.prog 56 ⟨.struct [(22, 0), (3, 1)], 2, 32, [.arr 1 0 [] false, .lit (.int .i64 0)], false⟩ := tiok Try.type56 Try.underlying56 rfl rfl rfl (fun w M => FrL.cons' (Fr.nil w M _ (by decide)) (FrL.cons' (Fr.lit' w M _) (FrL.nil' w M))) (fun fs h => ⟨_, rfl⟩) (⟨_, rfl, rfl⟩) (fun h => by cases h)
theorem tab_ok57 : TIok Try.prog 57 ⟨.struct [(22, 0), (3, 1)], 2, 32, [.arr 1 0 [] false, .lit (.int .i64 0)], false⟩ := tiok Try.type57 Try.underlying57 rfl rfl rfl (fun w M => FrL.cons' (Fr.nil w M _ (by decide)) (FrL.cons' (Fr.lit' w M _) (FrL.nil' w M))) (fun fs h => ⟨_, rfl⟩) (⟨_, rfl, rfl⟩) (fun h => by cases h)
theorem tab_ok61 : TIok Try.prog 61 ⟨.func, 1, 8, [.lit .nilFunc], false⟩ := tiok Try.type61 Try.underlying61 rfl rfl rfl (fun w M => FrL.cons' (Fr.lit' w M _) (FrL.nil' w M)) (fun fs h => by cases h) (⟨_, _, _, rfl⟩) (fun h => by cases h)
theorem tab_ok62 : TIok Try.prog 62 ⟨.slice 55, 1, 24, [.arr 3 0 [] false], false⟩ := tiok Try.type62 Try.underlying62 rfl rfl rfl (fun w M => FrL.cons' (Fr.nil w M _ (by decide)) (FrL.nil' w M)) (fun fs h => by cases h) (rfl) (fun h => by cases h)
theorem tab_ok67 : TIok Try.prog 67 ⟨.struct [(3, 0), (3, 1), (55, 2)], 5, 48, [.lit (.int .i64 0), .lit (.int .i64 0), .lit (.int .i64 0), .lit (.int .i64 0), .lit (.string ⟨#[]⟩)], false⟩ := tiok Try.type67 Try.underlying67 rfl rfl rfl (fun w M => FrL.cons' (Fr.lit' w M _) (FrL.cons' (Fr.lit' w M _) (FrL.cons' (Fr.lit' w M _) (FrL.cons' (Fr.lit' w M _) (FrL.cons' (Fr.lit' w M _) (FrL.nil' w M)))))) (fun fs h => ⟨_, rfl⟩) (⟨_, rfl, rfl⟩) (fun h => by cases h)
theorem tab_ok68 : TIok Try.prog 68 ⟨.struct [(3, 0), (3, 1), (55, 2)], 5, 48, [.lit (.int .i64 0), .lit (.int .i64 0), .lit (.int .i64 0), .lit (.int .i64 0), .lit (.string ⟨#[]⟩)], false⟩ := tiok Try.type68 Try.underlying68 rfl rfl rfl (fun w M => FrL.cons' (Fr.lit' w M _) (FrL.cons' (Fr.lit' w M _) (FrL.cons' (Fr.lit' w M _) (FrL.cons' (Fr.lit' w M _) (FrL.cons' (Fr.lit' w M _) (FrL.nil' w M)))))) (fun fs h => ⟨_, rfl⟩) (⟨_, rfl, rfl⟩) (fun h => by cases h)
theorem tab_ok71 : TIok Try.prog 71 ⟨.func, 1, 8, [.lit .nilFunc], false⟩ := tiok Try.type71 Try.underlying71 rfl rfl rfl (fun w M => FrL.cons' (Fr.lit' w M _) (FrL.nil' w M)) (fun fs h => by cases h) (⟨_, _, _, rfl⟩) (fun h => by cases h)
theorem tab_ok74 : TIok Try.prog 74 ⟨.func, 1, 8, [.lit .nilFunc], false⟩ := tiok Try.type74 Try.underlying74 rfl rfl rfl (fun w M => FrL.cons' (Fr.lit' w M _) (FrL.nil' w M)) (fun fs h => by cases h) (⟨_, _, _, rfl⟩) (fun h => by cases h)
theorem tab_ok97 : TIok Try.prog 97 ⟨.slice 9, 1, 24, [.arr 1 0 [] false], false⟩ := tiok Try.type97 Try.underlying97 rfl rfl rfl (fun w M => FrL.cons' (Fr.nil w M _ (by decide)) (FrL.nil' w M)) (fun fs h => by cases h) (rfl) (fun h => by cases h)
def tab : List (Nat × TI) := [
  (2, ⟨.int .i64, 1, 8, [.lit (.int .i64 0)], false⟩),
  (3, ⟨.int .i64, 1, 8, [.lit (.int .i64 0)], false⟩),
  (4, ⟨.bool, 1, 1, [.lit (.bool false)], false⟩),
  (5, ⟨.int .u8, 1, 1, [.lit (.int .u8 0)], false⟩),
  (7, ⟨.struct [(2, 0), (3, 1), (4, 2), (6, 3)], 4, 24, [.lit (.int .i64 0), .lit (.int .i64 0), .lit (.bool false), .lit (.int .u8 0)], false⟩),
  (9, ⟨.str, 1, 16, [.lit (.string ⟨#[]⟩)], false⟩),
  (15, ⟨.ptr 107, 1, 8, [.lit (.pointer none)], false⟩),
  (16, ⟨.ptr 110, 1, 8, [.lit (.pointer none)], false⟩),
  (17, ⟨.ptr 119, 1, 8, [.lit (.pointer none)], false⟩),
  (22, ⟨.slice 5, 1, 24, [.arr 1 0 [] false], false⟩),
  (23, ⟨.slice 34, 1, 24, [.arr 2 0 [] false], false⟩),
  (24, ⟨.slice 3, 1, 24, [.arr 1 0 [] false], false⟩),
  (25, ⟨.slice 68, 1, 24, [.arr 5 0 [] false], false⟩),
  (26, ⟨.struct [(3, 0), (3, 1), (24, 2), (3, 3), (24, 4), (4, 5), (25, 6)], 7, 104, [.lit (.int .i64 0), .lit (.int .i64 0), .arr 1 0 [] false, .lit (.int .i64 0), .arr 1 0 [] false, .lit (.bool false), .arr 5 0 [] false], false⟩),
  (27, ⟨.struct [(3, 0), (3, 1), (24, 2), (3, 3), (24, 4), (4, 5), (25, 6)], 7, 104, [.lit (.int .i64 0), .lit (.int .i64 0), .arr 1 0 [] false, .lit (.int .i64 0), .arr 1 0 [] false, .lit (.bool false), .arr 5 0 [] false], false⟩),
  (31, ⟨.slice 47, 1, 24, [.arr 2 0 [] false], false⟩),
  (32, ⟨.slice 62, 1, 24, [.arr 1 0 [] false], false⟩),
  (33, ⟨.struct [(31, 0), (32, 1)], 2, 48, [.arr 2 0 [] false, .arr 1 0 [] false], false⟩),
  (34, ⟨.struct [(31, 0), (32, 1)], 2, 48, [.arr 2 0 [] false, .arr 1 0 [] false], false⟩),
  (39, ⟨.ptr 57, 1, 8, [.lit (.pointer none)], false⟩),
  (46, ⟨.struct [(3, 0), (4, 1)], 2, 16, [.lit (.int .i64 0), .lit (.bool false)], false⟩),
  (47, ⟨.struct [(3, 0), (4, 1)], 2, 16, [.lit (.int .i64 0), .lit (.bool false)], false⟩),
  (51, ⟨.func, 1, 8, [.lit .nilFunc], false⟩),
  (53, ⟨.func, 1, 8, [.lit .nilFunc], false⟩),
  (54, ⟨.struct [(3, 0), (3, 1), (9, 2)], 3, 32, [.lit (.int .i64 0), .lit (.int .i64 0), .lit (.string ⟨#[]⟩)], false⟩),
  (55, ⟨.struct [(3, 0), (3, 1), (9, 2)], 3, 32, [.lit (.int .i64 0), .lit (.int .i64 0), .lit (.string ⟨#[]⟩)], true⟩),
  (56, ⟨.struct [(22, 0), (3, 1)], 2, 32, [.arr 1 0 [] false, .lit (.int .i64 0)], false⟩),
  (57, ⟨.struct [(22, 0), (3, 1)], 2, 32, [.arr 1 0 [] false, .lit (.int .i64 0)], false⟩),
  (61, ⟨.func, 1, 8, [.lit .nilFunc], false⟩),
  (62, ⟨.slice 55, 1, 24, [.arr 3 0 [] false], false⟩),
  (67, ⟨.struct [(3, 0), (3, 1), (55, 2)], 5, 48, [.lit (.int .i64 0), .lit (.int .i64 0), .lit (.int .i64 0), .lit (.int .i64 0), .lit (.string ⟨#[]⟩)], false⟩),
  (68, ⟨.struct [(3, 0), (3, 1), (55, 2)], 5, 48, [.lit (.int .i64 0), .lit (.int .i64 0), .lit (.int .i64 0), .lit (.int .i64 0), .lit (.string ⟨#[]⟩)], false⟩),
  (71, ⟨.func, 1, 8, [.lit .nilFunc], false⟩),
  (74, ⟨.func, 1, 8, [.lit .nilFunc], false⟩),
  (97, ⟨.slice 9, 1, 24, [.arr 1 0 [] false], false⟩)]
def τ : Tau := tabOf tab
theorem τ_ok : TOK Try.prog τ := tabOf_ok tab ⟨tab_ok2, ⟨tab_ok3, ⟨tab_ok4, ⟨tab_ok5, ⟨tab_ok7, ⟨tab_ok9, ⟨tab_ok15, ⟨tab_ok16, ⟨tab_ok17, ⟨tab_ok22, ⟨tab_ok23, ⟨tab_ok24, ⟨tab_ok25, ⟨tab_ok26, ⟨tab_ok27, ⟨tab_ok31, ⟨tab_ok32, ⟨tab_ok33, ⟨tab_ok34, ⟨tab_ok39, ⟨tab_ok46, ⟨tab_ok47, ⟨tab_ok51, ⟨tab_ok53, ⟨tab_ok54, ⟨tab_ok55, ⟨tab_ok56, ⟨tab_ok57, ⟨tab_ok61, ⟨tab_ok62, ⟨tab_ok67, ⟨tab_ok68, ⟨tab_ok71, ⟨tab_ok74, ⟨tab_ok97, trivial⟩⟩⟩⟩⟩⟩⟩⟩⟩⟩⟩⟩⟩⟩⟩⟩⟩⟩⟩⟩⟩⟩⟩⟩⟩⟩⟩⟩⟩⟩⟩⟩⟩⟩⟩
theorem zi_ok27 : ZIok Try.prog 27 [.lit (.int .i64 0), .lit (.int .i64 0), .arr 1 0 [] true, .lit (.int .i64 0), .arr 1 0 [] true, .lit (.bool false), .arr 5 0 [] true] := ziok Try.type27 rfl (fun w M => FrL.cons' (Fr.lit' w M _) (FrL.cons' (Fr.lit' w M _) (FrL.cons' (Fr.nilF w M _ (by decide)) (FrL.cons' (Fr.lit' w M _) (FrL.cons' (Fr.nilF w M _ (by decide)) (FrL.cons' (Fr.lit' w M _) (FrL.cons' (Fr.nilF w M _ (by decide)) (FrL.nil' w M))))))))
theorem v {Γ : Ctx} {ops : Array Oper} {Q : Exit → St → Prop} {j : Nat} {st : St} (n : Nat) (nt : Nat) (T : List (Nat × V)) (H : Hp) (hk : opsP Try.prog Γ ops Q (j + n) ⟨nt, T, H⟩) (h : (evS τ [] ops n j st).map (fun s => s.keep (T.map (·.1))) = some ⟨nt, T, H⟩ := by kernel_rfl) : opsP Try.prog Γ ops Q j st := opsP_evk' (st' := ⟨nt, T, H⟩) τ_ok [] n (T.map (·.1)) h hk
theorem vM {Γ : Ctx} {ops : Array Oper} {Q : Exit → St → Prop} {j : Nat} {st : St} (mu : List Nat) (n : Nat) (nt : Nat) (T : List (Nat × V)) (H : Hp) (hk : opsP Try.prog Γ ops Q (j + n) ⟨nt, T, H⟩) (h : (evS τ mu ops n j st).map (fun s => s.keep (T.map (·.1))) = some ⟨nt, T, H⟩ := by kernel_rfl) : opsP Try.prog Γ ops Q j st := opsP_evk' (st' := ⟨nt, T, H⟩) τ_ok mu n (T.map (·.1)) h hk
theorem ve {Γ : Ctx} {ops : Array Oper} {Q : Exit → St → Prop} {j : Nat} {st : St} (n : Nat) (nt : Nat) (T : List (Nat × V)) (H : Hp) (hk : Q .normal ⟨nt, T, H⟩) (h : (evS τ [] ops n j st).map (fun s => s.keep (T.map (·.1))) = some ⟨nt, T, H⟩ := by kernel_rfl) (he : ops.size = j + n := by rfl) : opsP Try.prog Γ ops Q j st := opsP_evk' (st' := ⟨nt, T, H⟩) τ_ok [] n (T.map (·.1)) h (opsP_end he hk)
theorem veM {Γ : Ctx} {ops : Array Oper} {Q : Exit → St → Prop} {j : Nat} {st : St} (mu : List Nat) (n : Nat) (nt : Nat) (T : List (Nat × V)) (H : Hp) (hk : Q .normal ⟨nt, T, H⟩) (h : (evS τ mu ops n j st).map (fun s => s.keep (T.map (·.1))) = some ⟨nt, T, H⟩ := by kernel_rfl) (he : ops.size = j + n := by rfl) : opsP Try.prog Γ ops Q j st := opsP_evk' (st' := ⟨nt, T, H⟩) τ_ok mu n (T.map (·.1)) h (opsP_end he hk)
theorem rv {Γ : Ctx} {ops : Array Oper} {Q : Exit → St → Prop} {id : Nat} {st : St} (n : Nat) (nt : Nat) (T : List (Nat × V)) (H : Hp) (hk : opsP Try.prog Γ ops Q (0 + n) ⟨nt, T, H⟩) (h : (evS τ [] ops n 0 st).map (fun s => s.keep (T.map (·.1))) = some ⟨nt, T, H⟩ := by kernel_rfl) : pwp Try.prog Γ (.region id ops false) Q st := pwp_region (opsP_evk' (st' := ⟨nt, T, H⟩) τ_ok [] n (T.map (·.1)) h hk)
theorem rvM {Γ : Ctx} {ops : Array Oper} {Q : Exit → St → Prop} {id : Nat} {st : St} (mu : List Nat) (n : Nat) (nt : Nat) (T : List (Nat × V)) (H : Hp) (hk : opsP Try.prog Γ ops Q (0 + n) ⟨nt, T, H⟩) (h : (evS τ mu ops n 0 st).map (fun s => s.keep (T.map (·.1))) = some ⟨nt, T, H⟩ := by kernel_rfl) : pwp Try.prog Γ (.region id ops false) Q st := pwp_region (opsP_evk' (st' := ⟨nt, T, H⟩) τ_ok mu n (T.map (·.1)) h hk)
theorem rve {Γ : Ctx} {ops : Array Oper} {Q : Exit → St → Prop} {id : Nat} {st : St} (nt : Nat) (T : List (Nat × V)) (H : Hp) (hk : Q .normal ⟨nt, T, H⟩) (h : (evS τ [] ops ops.size 0 st).map (fun s => s.keep (T.map (·.1))) = some ⟨nt, T, H⟩ := by kernel_rfl) : pwp Try.prog Γ (.region id ops false) Q st := pwp_region (opsP_evk' (st' := ⟨nt, T, H⟩) τ_ok [] ops.size (T.map (·.1)) h (opsP_end (Nat.zero_add _).symm hk))
theorem rveM {Γ : Ctx} {ops : Array Oper} {Q : Exit → St → Prop} {id : Nat} {st : St} (mu : List Nat) (nt : Nat) (T : List (Nat × V)) (H : Hp) (hk : Q .normal ⟨nt, T, H⟩) (h : (evS τ mu ops ops.size 0 st).map (fun s => s.keep (T.map (·.1))) = some ⟨nt, T, H⟩ := by kernel_rfl) : pwp Try.prog Γ (.region id ops false) Q st := pwp_region (opsP_evk' (st' := ⟨nt, T, H⟩) τ_ok mu ops.size (T.map (·.1)) h (opsP_end (Nat.zero_add _).symm hk))
theorem srv {Γ : Ctx} {ops : Array Oper} {Q : Exit → St → Prop} {id : Nat} {y : Code} {st : St} (n : Nat) (nt : Nat) (T : List (Nat × V)) (H : Hp) (hk : opsP Try.prog Γ ops (Dthen (fun st' => pwp Try.prog Γ y Q st') Q) (0 + n) ⟨nt, T, H⟩) (h : (evS τ [] ops n 0 st).map (fun s => s.keep (T.map (·.1))) = some ⟨nt, T, H⟩ := by kernel_rfl) : pwp Try.prog Γ (.seq (.region id ops false) y) Q st := pwp_seq (pwp_region (opsP_evk' (st' := ⟨nt, T, H⟩) τ_ok [] n (T.map (·.1)) h hk))
theorem srvM {Γ : Ctx} {ops : Array Oper} {Q : Exit → St → Prop} {id : Nat} {y : Code} {st : St} (mu : List Nat) (n : Nat) (nt : Nat) (T : List (Nat × V)) (H : Hp) (hk : opsP Try.prog Γ ops (Dthen (fun st' => pwp Try.prog Γ y Q st') Q) (0 + n) ⟨nt, T, H⟩) (h : (evS τ mu ops n 0 st).map (fun s => s.keep (T.map (·.1))) = some ⟨nt, T, H⟩ := by kernel_rfl) : pwp Try.prog Γ (.seq (.region id ops false) y) Q st := pwp_seq (pwp_region (opsP_evk' (st' := ⟨nt, T, H⟩) τ_ok mu n (T.map (·.1)) h hk))
theorem srve {Γ : Ctx} {ops : Array Oper} {Q : Exit → St → Prop} {id : Nat} {y : Code} {st : St} (nt : Nat) (T : List (Nat × V)) (H : Hp) (hk : pwp Try.prog Γ y Q ⟨nt, T, H⟩) (h : (evS τ [] ops ops.size 0 st).map (fun s => s.keep (T.map (·.1))) = some ⟨nt, T, H⟩ := by kernel_rfl) : pwp Try.prog Γ (.seq (.region id ops false) y) Q st := pwp_seq (pwp_region (opsP_evk' (st' := ⟨nt, T, H⟩) τ_ok [] ops.size (T.map (·.1)) h (opsP_end (Nat.zero_add _).symm hk)))
theorem srveM {Γ : Ctx} {ops : Array Oper} {Q : Exit → St → Prop} {id : Nat} {y : Code} {st : St} (mu : List Nat) (nt : Nat) (T : List (Nat × V)) (H : Hp) (hk : pwp Try.prog Γ y Q ⟨nt, T, H⟩) (h : (evS τ mu ops ops.size 0 st).map (fun s => s.keep (T.map (·.1))) = some ⟨nt, T, H⟩ := by kernel_rfl) : pwp Try.prog Γ (.seq (.region id ops false) y) Q st := pwp_seq (pwp_region (opsP_evk' (st' := ⟨nt, T, H⟩) τ_ok mu ops.size (T.map (·.1)) h (opsP_end (Nat.zero_add _).symm hk)))
theorem pc {α : Type} {Γ : Ctx} {Q : Exit → St → Prop} {st : St} {o : Operand} {c d : Code} {e : Bool} {a b : Option α} {x : Option α} (h : (bif e then a else b) = x) (ht : a = x → pwp Try.prog Γ c Q st) (hf : b = x → pwp Try.prog Γ d Q st) (hc : evalV st o = some (.lit (.bool e)) := by kernel_rfl) : pwp Try.prog Γ (.cond o c d) Q st := pwp_cond e hc (fun q => ht (bifT q h)) (fun q => hf (bifF q h))
theorem rz {fn : Func} {out : V} {st : St} (hx : resV τ st fn.results.toList = some out := by kernel_rfl) (hz : frz out = true := by kernel_rfl) : Qret τ fn out .ret st := ⟨.inr rfl, out, [], hx, OutP.frz hz, List.nodup_nil⟩
theorem rt {fn : Func} {out : V} {st : St} (x : V) {ks : List Nat} (ho : OutP st.H x out ks) (hx : resV τ st fn.results.toList = some x := by kernel_rfl) (hn : ks.Nodup := by decide) : Qret τ fn out .ret st := ⟨.inr rfl, x, ks, hx, ho, hn⟩
theorem si {α : Type} {a b : α} (h : some a = some b) : a = b := Option.some.inj h
theorem fk (b : Bool) : b = true ∨ b = false := Bool.eq_false_or_eq_true b
theorem bT {α : Type} {c : Bool} {a b x : α} (hc : c = true) (h : (bif c then a else b) = x) : a = x := bifT hc h
theorem bF {α : Type} {c : Bool} {a b x : α} (hc : c = false) (h : (bif c then a else b) = x) : b = x := bifF hc h
end Go.D
