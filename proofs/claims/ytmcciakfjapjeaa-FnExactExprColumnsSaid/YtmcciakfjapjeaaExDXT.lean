import Derived.Test.YtmcciakfjapjeaaExDFz
import Derived.Test.YtmcciakfjapjeaaProg
import Derived.KernelRfl
set_option linter.unusedVariables false
set_option linter.unusedSimpArgs false
namespace Go.D
open Go.Proofs
structure T_impl_Column where
 fKind : Int
 fEmpty : Bool
instance : Enc T_impl_Column := ⟨2, fun x => [I x.fKind, B x.fEmpty], true, fun _ => rfl, by decide, fun _ => rfl, fun _ => rfl⟩
structure T_impl_Value where
 fKind : Int
 fN : Int
 fS : ByteArray
instance : Enc T_impl_Value := ⟨3, fun x => [I x.fKind, I x.fN, S x.fS], true, fun _ => rfl, by decide, fun _ => rfl, fun _ => rfl⟩
structure T_impl_Part where
 fKind : Int
 fN : Int
 fV : T_impl_Value
instance : Enc T_impl_Part := ⟨5, fun x => [I x.fKind, I x.fN, I x.fV.fKind, I x.fV.fN, S x.fV.fS], true, fun _ => rfl, by decide, fun _ => rfl, fun _ => rfl⟩
structure T_laws_Value where
 fKind : Int
 fN : Int
 fS : ByteArray
instance : Enc T_laws_Value := ⟨3, fun x => [I x.fKind, I x.fN, S x.fS], true, fun _ => rfl, by decide, fun _ => rfl, fun _ => rfl⟩
structure T_laws_Part where
 fKind : Int
 fN : Int
 fV : T_laws_Value
instance : Enc T_laws_Part := ⟨5, fun x => [I x.fKind, I x.fN, I x.fV.fKind, I x.fV.fN, S x.fV.fS], true, fun _ => rfl, by decide, fun _ => rfl, fun _ => rfl⟩
structure T_laws_Column where
 fKind : Int
 fEmpty : Bool
instance : Enc T_laws_Column := ⟨2, fun x => [I x.fKind, B x.fEmpty], true, fun _ => rfl, by decide, fun _ => rfl, fun _ => rfl⟩
structure T_spec_l20Rd where
 fB : List UInt8
 fP : Int
instance : Enc T_spec_l20Rd := ⟨2, fun x => [A x.fB, I x.fP], true, fun _ => rfl, by decide, fun _ => rfl, fun _ => rfl⟩
def eq_T_impl_Value (x y : T_impl_Value) : Bool := andB [x.fKind == y.fKind, x.fN == y.fN, x.fS.toList == y.fS.toList]
instance : DFlat T_impl_Column := ⟨fun _ => rfl⟩
instance : DFlat T_impl_Value := ⟨fun _ => rfl⟩
instance : DFlat T_impl_Part := ⟨fun _ => rfl⟩
instance : DFlat T_laws_Value := ⟨fun _ => rfl⟩
instance : DFlat T_laws_Part := ⟨fun _ => rfl⟩
instance : DFlat T_laws_Column := ⟨fun _ => rfl⟩
instance : DEnc T_spec_l20Rd := ⟨fun x => [O x.fB, I x.fP], fun _ => rfl, fun x => (FzToL.cons (FzTo.O _) (FzToL.cons (FzTo.lit _) FzToL.nil)), fun _ => rfl⟩
instance : DNest T_spec_l20Rd := ⟨⟩
instance : DOne T_spec_l20Rd := ⟨fun _ => rfl⟩
instance : DBl T_spec_l20Rd := ⟨fun x => (BlindL.cons (Blind.O DFlat.lit _) (BlindL.cons (Blind.lit _) BlindL.nil))⟩
theorem tab_ok2 : TIok Try.prog 2 ⟨.int .i64, 1, 8, [.lit (.int .i64 0)], false⟩ := tiok Try.type2 Try.underlying2 rfl rfl rfl (fun w M => FrL.cons' (Fr.lit' w M _) (FrL.nil' w M)) (fun fs h => by cases h) (rfl) (fun h => by cases h)
theorem tab_ok3 : TIok Try.prog 3 ⟨.int .i64, 1, 8, [.lit (.int .i64 0)], false⟩ := tiok Try.type3 Try.underlying3 rfl rfl rfl (fun w M => FrL.cons' (Fr.lit' w M _) (FrL.nil' w M)) (fun fs h => by cases h) (rfl) (fun h => by cases h)
theorem tab_ok4 : TIok Try.prog 4 ⟨.bool, 1, 1, [.lit (.bool false)], false⟩ := tiok Try.type4 Try.underlying4 rfl rfl rfl (fun w M => FrL.cons' (Fr.lit' w M _) (FrL.nil' w M)) (fun fs h => by cases h) (rfl) (fun h => by cases h)
theorem tab_ok5 : TIok Try.prog 5 ⟨.int .u8, 1, 1, [.lit (.int .u8 0)], false⟩ := tiok Try.type5 Try.underlying5 rfl rfl rfl (fun w M => FrL.cons' (Fr.lit' w M _) (FrL.nil' w M)) (fun fs h => by cases h) (rfl) (fun h => by cases h)
theorem tab_ok7 : TIok Try.prog 7 ⟨.struct [(2, 0), (3, 1), (4, 2), (6, 3)], 4, 24, [.lit (.int .i64 0), .lit (.int .i64 0), .lit (.bool false), .lit (.int .u8 0)], false⟩ := tiok Try.type7 Try.underlying7 rfl rfl rfl (fun w M => FrL.cons' (Fr.lit' w M _) (FrL.cons' (Fr.lit' w M _) (FrL.cons' (Fr.lit' w M _) (FrL.cons' (Fr.lit' w M _) (FrL.nil' w M))))) (fun fs h => ⟨_, rfl⟩) (⟨_, rfl, rfl⟩) (fun h => by cases h)
theorem tab_ok9 : TIok Try.prog 9 ⟨.str, 1, 16, [.lit (.string ⟨#[]⟩)], false⟩ := tiok Try.type9 Try.underlying9 rfl rfl rfl (fun w M => FrL.cons' (Fr.lit' w M _) (FrL.nil' w M)) (fun fs h => by cases h) (rfl) (fun h => by cases h)
theorem tab_ok15 : TIok Try.prog 15 ⟨.ptr 140, 1, 8, [.lit (.pointer none)], false⟩ := tiok Try.type15 Try.underlying15 rfl rfl rfl (fun w M => FrL.cons' (Fr.lit' w M _) (FrL.nil' w M)) (fun fs h => by cases h) (rfl) (fun h => by cases h)
theorem tab_ok16 : TIok Try.prog 16 ⟨.ptr 143, 1, 8, [.lit (.pointer none)], false⟩ := tiok Try.type16 Try.underlying16 rfl rfl rfl (fun w M => FrL.cons' (Fr.lit' w M _) (FrL.nil' w M)) (fun fs h => by cases h) (rfl) (fun h => by cases h)
theorem tab_ok17 : TIok Try.prog 17 ⟨.ptr 151, 1, 8, [.lit (.pointer none)], false⟩ := tiok Try.type17 Try.underlying17 rfl rfl rfl (fun w M => FrL.cons' (Fr.lit' w M _) (FrL.nil' w M)) (fun fs h => by cases h) (rfl) (fun h => by cases h)
theorem tab_ok22 : TIok Try.prog 22 ⟨.slice 5, 1, 24, [.arr 1 0 [] false], false⟩ := tiok Try.type22 Try.underlying22 rfl rfl rfl (fun w M => FrL.cons' (Fr.nil w M _ (by decide)) (FrL.nil' w M)) (fun fs h => by cases h) (rfl) (fun h => by cases h)
theorem tab_ok23 : TIok Try.prog 23 ⟨.slice 32, 1, 24, [.arr 2 0 [] false], false⟩ := tiok Try.type23 Try.underlying23 rfl rfl rfl (fun w M => FrL.cons' (Fr.nil w M _ (by decide)) (FrL.nil' w M)) (fun fs h => by cases h) (rfl) (fun h => by cases h)
theorem tab_ok24 : TIok Try.prog 24 ⟨.slice 58, 1, 24, [.arr 5 0 [] false], false⟩ := tiok Try.type24 Try.underlying24 rfl rfl rfl (fun w M => FrL.cons' (Fr.nil w M _ (by decide)) (FrL.nil' w M)) (fun fs h => by cases h) (rfl) (fun h => by cases h)
theorem tab_ok27 : TIok Try.prog 27 ⟨.slice 3, 1, 24, [.arr 1 0 [] false], false⟩ := tiok Try.type27 Try.underlying27 rfl rfl rfl (fun w M => FrL.cons' (Fr.nil w M _ (by decide)) (FrL.nil' w M)) (fun fs h => by cases h) (rfl) (fun h => by cases h)
theorem tab_ok30 : TIok Try.prog 30 ⟨.slice 34, 1, 24, [.arr 3 0 [] false], false⟩ := tiok Try.type30 Try.underlying30 rfl rfl rfl (fun w M => FrL.cons' (Fr.nil w M _ (by decide)) (FrL.nil' w M)) (fun fs h => by cases h) (rfl) (fun h => by cases h)
theorem tab_ok31 : TIok Try.prog 31 ⟨.struct [(3, 0), (4, 1)], 2, 16, [.lit (.int .i64 0), .lit (.bool false)], false⟩ := tiok Try.type31 Try.underlying31 rfl rfl rfl (fun w M => FrL.cons' (Fr.lit' w M _) (FrL.cons' (Fr.lit' w M _) (FrL.nil' w M))) (fun fs h => ⟨_, rfl⟩) (⟨_, rfl, rfl⟩) (fun h => by cases h)
theorem tab_ok32 : TIok Try.prog 32 ⟨.struct [(3, 0), (4, 1)], 2, 16, [.lit (.int .i64 0), .lit (.bool false)], false⟩ := tiok Try.type32 Try.underlying32 rfl rfl rfl (fun w M => FrL.cons' (Fr.lit' w M _) (FrL.cons' (Fr.lit' w M _) (FrL.nil' w M))) (fun fs h => ⟨_, rfl⟩) (⟨_, rfl, rfl⟩) (fun h => by cases h)
theorem tab_ok33 : TIok Try.prog 33 ⟨.struct [(3, 0), (3, 1), (9, 2)], 3, 32, [.lit (.int .i64 0), .lit (.int .i64 0), .lit (.string ⟨#[]⟩)], false⟩ := tiok Try.type33 Try.underlying33 rfl rfl rfl (fun w M => FrL.cons' (Fr.lit' w M _) (FrL.cons' (Fr.lit' w M _) (FrL.cons' (Fr.lit' w M _) (FrL.nil' w M)))) (fun fs h => ⟨_, rfl⟩) (⟨_, rfl, rfl⟩) (fun h => by cases h)
theorem tab_ok34 : TIok Try.prog 34 ⟨.struct [(3, 0), (3, 1), (9, 2)], 3, 32, [.lit (.int .i64 0), .lit (.int .i64 0), .lit (.string ⟨#[]⟩)], true⟩ := tiok Try.type34 Try.underlying34 rfl rfl rfl (fun w M => FrL.cons' (Fr.lit' w M _) (FrL.cons' (Fr.lit' w M _) (FrL.cons' (Fr.lit' w M _) (FrL.nil' w M)))) (fun fs h => ⟨_, rfl⟩) (⟨_, rfl, rfl⟩) (fun h => ⟨Try.stoodInHeld34, Try.eqGuardType34, by simp [Program.fieldsOf, Try.underlying34]⟩)
theorem tab_ok39 : TIok Try.prog 39 ⟨.slice 67, 1, 24, [.arr 2 0 [] false], false⟩ := tiok Try.type39 Try.underlying39 rfl rfl rfl (fun w M => FrL.cons' (Fr.nil w M _ (by decide)) (FrL.nil' w M)) (fun fs h => by cases h) (rfl) (fun h => by cases h)
theorem tab_ok40 : TIok Try.prog 40 ⟨.slice 65, 1, 24, [.arr 5 0 [] false], false⟩ := tiok Try.type40 Try.underlying40 rfl rfl rfl (fun w M => FrL.cons' (Fr.nil w M _ (by decide)) (FrL.nil' w M)) (fun fs h => by cases h) (rfl) (fun h => by cases h)
theorem tab_ok53 : TIok Try.prog 53 ⟨.ptr 76, 1, 8, [.lit (.pointer none)], false⟩ := tiok Try.type53 Try.underlying53 rfl rfl rfl (fun w M => FrL.cons' (Fr.lit' w M _) (FrL.nil' w M)) (fun fs h => by cases h) (rfl) (fun h => by cases h)
theorem tab_ok57 : TIok Try.prog 57 ⟨.struct [(3, 0), (3, 1), (34, 2)], 5, 48, [.lit (.int .i64 0), .lit (.int .i64 0), .lit (.int .i64 0), .lit (.int .i64 0), .lit (.string ⟨#[]⟩)], false⟩ := tiok Try.type57 Try.underlying57 rfl rfl rfl (fun w M => FrL.cons' (Fr.lit' w M _) (FrL.cons' (Fr.lit' w M _) (FrL.cons' (Fr.lit' w M _) (FrL.cons' (Fr.lit' w M _) (FrL.cons' (Fr.lit' w M _) (FrL.nil' w M)))))) (fun fs h => ⟨_, rfl⟩) (⟨_, rfl, rfl⟩) (fun h => by cases h)
theorem tab_ok58 : TIok Try.prog 58 ⟨.struct [(3, 0), (3, 1), (34, 2)], 5, 48, [.lit (.int .i64 0), .lit (.int .i64 0), .lit (.int .i64 0), .lit (.int .i64 0), .lit (.string ⟨#[]⟩)], false⟩ := tiok Try.type58 Try.underlying58 rfl rfl rfl (fun w M => FrL.cons' (Fr.lit' w M _) (FrL.cons' (Fr.lit' w M _) (FrL.cons' (Fr.lit' w M _) (FrL.cons' (Fr.lit' w M _) (FrL.cons' (Fr.lit' w M _) (FrL.nil' w M)))))) (fun fs h => ⟨_, rfl⟩) (⟨_, rfl, rfl⟩) (fun h => by cases h)
theorem tab_ok61 : TIok Try.prog 61 ⟨.func, 1, 8, [.lit .nilFunc], false⟩ := tiok Try.type61 Try.underlying61 rfl rfl rfl (fun w M => FrL.cons' (Fr.lit' w M _) (FrL.nil' w M)) (fun fs h => by cases h) (⟨_, _, _, rfl⟩) (fun h => by cases h)
theorem tab_ok63 : TIok Try.prog 63 ⟨.struct [(3, 0), (3, 1), (9, 2)], 3, 32, [.lit (.int .i64 0), .lit (.int .i64 0), .lit (.string ⟨#[]⟩)], false⟩ := tiok Try.type63 Try.underlying63 rfl rfl rfl (fun w M => FrL.cons' (Fr.lit' w M _) (FrL.cons' (Fr.lit' w M _) (FrL.cons' (Fr.lit' w M _) (FrL.nil' w M)))) (fun fs h => ⟨_, rfl⟩) (⟨_, rfl, rfl⟩) (fun h => by cases h)
theorem tab_ok64 : TIok Try.prog 64 ⟨.struct [(3, 0), (3, 1), (63, 2)], 5, 48, [.lit (.int .i64 0), .lit (.int .i64 0), .lit (.int .i64 0), .lit (.int .i64 0), .lit (.string ⟨#[]⟩)], false⟩ := tiok Try.type64 Try.underlying64 rfl rfl rfl (fun w M => FrL.cons' (Fr.lit' w M _) (FrL.cons' (Fr.lit' w M _) (FrL.cons' (Fr.lit' w M _) (FrL.cons' (Fr.lit' w M _) (FrL.cons' (Fr.lit' w M _) (FrL.nil' w M)))))) (fun fs h => ⟨_, rfl⟩) (⟨_, rfl, rfl⟩) (fun h => by cases h)
theorem tab_ok65 : TIok Try.prog 65 ⟨.struct [(3, 0), (3, 1), (63, 2)], 5, 48, [.lit (.int .i64 0), .lit (.int .i64 0), .lit (.int .i64 0), .lit (.int .i64 0), .lit (.string ⟨#[]⟩)], false⟩ := tiok Try.type65 Try.underlying65 rfl rfl rfl (fun w M => FrL.cons' (Fr.lit' w M _) (FrL.cons' (Fr.lit' w M _) (FrL.cons' (Fr.lit' w M _) (FrL.cons' (Fr.lit' w M _) (FrL.cons' (Fr.lit' w M _) (FrL.nil' w M)))))) (fun fs h => ⟨_, rfl⟩) (⟨_, rfl, rfl⟩) (fun h => by cases h)
theorem tab_ok67 : TIok Try.prog 67 ⟨.struct [(3, 0), (4, 1)], 2, 16, [.lit (.int .i64 0), .lit (.bool false)], false⟩ := tiok Try.type67 Try.underlying67 rfl rfl rfl (fun w M => FrL.cons' (Fr.lit' w M _) (FrL.cons' (Fr.lit' w M _) (FrL.nil' w M))) (fun fs h => ⟨_, rfl⟩) (⟨_, rfl, rfl⟩) (fun h => by cases h)
theorem tab_ok75 : TIok Try.prog 75 ⟨.struct [(22, 0), (3, 1)], 2, 32, [.arr 1 0 [] false, .lit (.int .i64 0)], false⟩ := tiok Try.type75 Try.underlying75 rfl rfl rfl (fun w M => FrL.cons' (Fr.nil w M _ (by decide)) (FrL.cons' (Fr.lit' w M _) (FrL.nil' w M))) (fun fs h => ⟨_, rfl⟩) (⟨_, rfl, rfl⟩) (fun h => by cases h)
theorem tab_ok76 : TIok Try.prog 76 ⟨.struct [(22, 0), (3, 1)], 2, 32, [.arr 1 0 [] false, .lit (.int .i64 0)], false⟩ := tiok Try.type76 Try.underlying76 rfl rfl rfl (fun w M => FrL.cons' (Fr.nil w M _ (by decide)) (FrL.cons' (Fr.lit' w M _) (FrL.nil' w M))) (fun fs h => ⟨_, rfl⟩) (⟨_, rfl, rfl⟩) (fun h => by cases h)
theorem tab_ok91 : TIok Try.prog 91 ⟨.func, 1, 8, [.lit .nilFunc], false⟩ := tiok Try.type91 Try.underlying91 rfl rfl rfl (fun w M => FrL.cons' (Fr.lit' w M _) (FrL.nil' w M)) (fun fs h => by cases h) (⟨_, _, _, rfl⟩) (fun h => by cases h)
theorem tab_ok97 : TIok Try.prog 97 ⟨.func, 1, 8, [.lit .nilFunc], false⟩ := tiok Try.type97 Try.underlying97 rfl rfl rfl (fun w M => FrL.cons' (Fr.lit' w M _) (FrL.nil' w M)) (fun fs h => by cases h) (⟨_, _, _, rfl⟩) (fun h => by cases h)
theorem tab_ok109 : TIok Try.prog 109 ⟨.slice 9, 1, 24, [.arr 1 0 [] false], false⟩ := tiok Try.type109 Try.underlying109 rfl rfl rfl (fun w M => FrL.cons' (Fr.nil w M _ (by decide)) (FrL.nil' w M)) (fun fs h => by cases h) (rfl) (fun h => by cases h)
theorem tab_ok114 : TIok Try.prog 114 ⟨.int .i64, 1, 8, [.lit (.int .i64 0)], false⟩ := tiok Try.type114 Try.underlying114 rfl rfl rfl (fun w M => FrL.cons' (Fr.lit' w M _) (FrL.nil' w M)) (fun fs h => by cases h) (rfl) (fun h => by cases h)
def tab : List (Nat × TI) := [
 (2, ⟨.int .i64, 1, 8, [.lit (.int .i64 0)], false⟩),
 (3, ⟨.int .i64, 1, 8, [.lit (.int .i64 0)], false⟩),
 (4, ⟨.bool, 1, 1, [.lit (.bool false)], false⟩),
 (5, ⟨.int .u8, 1, 1, [.lit (.int .u8 0)], false⟩),
 (7, ⟨.struct [(2, 0), (3, 1), (4, 2), (6, 3)], 4, 24, [.lit (.int .i64 0), .lit (.int .i64 0), .lit (.bool false), .lit (.int .u8 0)], false⟩),
 (9, ⟨.str, 1, 16, [.lit (.string ⟨#[]⟩)], false⟩),
 (15, ⟨.ptr 140, 1, 8, [.lit (.pointer none)], false⟩),
 (16, ⟨.ptr 143, 1, 8, [.lit (.pointer none)], false⟩),
 (17, ⟨.ptr 151, 1, 8, [.lit (.pointer none)], false⟩),
 (22, ⟨.slice 5, 1, 24, [.arr 1 0 [] false], false⟩),
 (23, ⟨.slice 32, 1, 24, [.arr 2 0 [] false], false⟩),
 (24, ⟨.slice 58, 1, 24, [.arr 5 0 [] false], false⟩),
 (27, ⟨.slice 3, 1, 24, [.arr 1 0 [] false], false⟩),
 (30, ⟨.slice 34, 1, 24, [.arr 3 0 [] false], false⟩),
 (31, ⟨.struct [(3, 0), (4, 1)], 2, 16, [.lit (.int .i64 0), .lit (.bool false)], false⟩),
 (32, ⟨.struct [(3, 0), (4, 1)], 2, 16, [.lit (.int .i64 0), .lit (.bool false)], false⟩),
 (33, ⟨.struct [(3, 0), (3, 1), (9, 2)], 3, 32, [.lit (.int .i64 0), .lit (.int .i64 0), .lit (.string ⟨#[]⟩)], false⟩),
 (34, ⟨.struct [(3, 0), (3, 1), (9, 2)], 3, 32, [.lit (.int .i64 0), .lit (.int .i64 0), .lit (.string ⟨#[]⟩)], true⟩),
 (39, ⟨.slice 67, 1, 24, [.arr 2 0 [] false], false⟩),
 (40, ⟨.slice 65, 1, 24, [.arr 5 0 [] false], false⟩),
 (53, ⟨.ptr 76, 1, 8, [.lit (.pointer none)], false⟩),
 (57, ⟨.struct [(3, 0), (3, 1), (34, 2)], 5, 48, [.lit (.int .i64 0), .lit (.int .i64 0), .lit (.int .i64 0), .lit (.int .i64 0), .lit (.string ⟨#[]⟩)], false⟩),
 (58, ⟨.struct [(3, 0), (3, 1), (34, 2)], 5, 48, [.lit (.int .i64 0), .lit (.int .i64 0), .lit (.int .i64 0), .lit (.int .i64 0), .lit (.string ⟨#[]⟩)], false⟩),
 (61, ⟨.func, 1, 8, [.lit .nilFunc], false⟩),
 (63, ⟨.struct [(3, 0), (3, 1), (9, 2)], 3, 32, [.lit (.int .i64 0), .lit (.int .i64 0), .lit (.string ⟨#[]⟩)], false⟩),
 (64, ⟨.struct [(3, 0), (3, 1), (63, 2)], 5, 48, [.lit (.int .i64 0), .lit (.int .i64 0), .lit (.int .i64 0), .lit (.int .i64 0), .lit (.string ⟨#[]⟩)], false⟩),
 (65, ⟨.struct [(3, 0), (3, 1), (63, 2)], 5, 48, [.lit (.int .i64 0), .lit (.int .i64 0), .lit (.int .i64 0), .lit (.int .i64 0), .lit (.string ⟨#[]⟩)], false⟩),
 (67, ⟨.struct [(3, 0), (4, 1)], 2, 16, [.lit (.int .i64 0), .lit (.bool false)], false⟩),
 (75, ⟨.struct [(22, 0), (3, 1)], 2, 32, [.arr 1 0 [] false, .lit (.int .i64 0)], false⟩),
 (76, ⟨.struct [(22, 0), (3, 1)], 2, 32, [.arr 1 0 [] false, .lit (.int .i64 0)], false⟩),
 (91, ⟨.func, 1, 8, [.lit .nilFunc], false⟩),
 (97, ⟨.func, 1, 8, [.lit .nilFunc], false⟩),
 (109, ⟨.slice 9, 1, 24, [.arr 1 0 [] false], false⟩),
 (114, ⟨.int .i64, 1, 8, [.lit (.int .i64 0)], false⟩)]
def τ : Tau := tabOf tab
theorem τ_ok : TOK Try.prog τ := tabOf_ok tab ⟨tab_ok2, ⟨tab_ok3, ⟨tab_ok4, ⟨tab_ok5, ⟨tab_ok7, ⟨tab_ok9, ⟨tab_ok15, ⟨tab_ok16, ⟨tab_ok17, ⟨tab_ok22, ⟨tab_ok23, ⟨tab_ok24, ⟨tab_ok27, ⟨tab_ok30, ⟨tab_ok31, ⟨tab_ok32, ⟨tab_ok33, ⟨tab_ok34, ⟨tab_ok39, ⟨tab_ok40, ⟨tab_ok53, ⟨tab_ok57, ⟨tab_ok58, ⟨tab_ok61, ⟨tab_ok63, ⟨tab_ok64, ⟨tab_ok65, ⟨tab_ok67, ⟨tab_ok75, ⟨tab_ok76, ⟨tab_ok91, ⟨tab_ok97, ⟨tab_ok109, ⟨tab_ok114, trivial⟩⟩⟩⟩⟩⟩⟩⟩⟩⟩⟩⟩⟩⟩⟩⟩⟩⟩⟩⟩⟩⟩⟩⟩⟩⟩⟩⟩⟩⟩⟩⟩⟩⟩
theorem v {Γ : Ctx} {ops : Array Oper} {Q : Exit → St → Prop} {j : Nat} {st : St} (n : Nat) (nt : Nat) (T : List (Nat × V)) (H : Hp) (hk : opsP Try.prog Γ ops Q (j + n) ⟨nt, T, H⟩) (h : (evS τ [] ops n j st).map (fun s => s.keep (T.map (·.1))) = some ⟨nt, T, H⟩ := by kernel_rfl) : opsP Try.prog Γ ops Q j st := opsP_evk' (st' := ⟨nt, T, H⟩) τ_ok [] n (T.map (·.1)) h hk
theorem vM {Γ : Ctx} {ops : Array Oper} {Q : Exit → St → Prop} {j : Nat} {st : St} (mu : List Nat) (n : Nat) (nt : Nat) (T : List (Nat × V)) (H : Hp) (hk : opsP Try.prog Γ ops Q (j + n) ⟨nt, T, H⟩) (h : (evS τ mu ops n j st).map (fun s => s.keep (T.map (·.1))) = some ⟨nt, T, H⟩ := by kernel_rfl) : opsP Try.prog Γ ops Q j st := opsP_evk' (st' := ⟨nt, T, H⟩) τ_ok mu n (T.map (·.1)) h hk
theorem ve {Γ : Ctx} {ops : Array Oper} {Q : Exit → St → Prop} {j : Nat} {st : St} (n : Nat) (nt : Nat) (T : List (Nat × V)) (H : Hp) (hk : Q .normal ⟨nt, T, H⟩) (h : (evS τ [] ops n j st).map (fun s => s.keep (T.map (·.1))) = some ⟨nt, T, H⟩ := by kernel_rfl) (he : ops.size = j + n := by rfl) : opsP Try.prog Γ ops Q j st := opsP_evk' (st' := ⟨nt, T, H⟩) τ_ok [] n (T.map (·.1)) h (opsP_end he hk)
theorem veM {Γ : Ctx} {ops : Array Oper} {Q : Exit → St → Prop} {j : Nat} {st : St} (mu : List Nat) (n : Nat) (nt : Nat) (T : List (Nat × V)) (H : Hp) (hk : Q .normal ⟨nt, T, H⟩) (h : (evS τ mu ops n j st).map (fun s => s.keep (T.map (·.1))) = some ⟨nt, T, H⟩ := by kernel_rfl) (he : ops.size = j + n := by rfl) : opsP Try.prog Γ ops Q j st := opsP_evk' (st' := ⟨nt, T, H⟩) τ_ok mu n (T.map (·.1)) h (opsP_end he hk)
theorem rv {Γ : Ctx} {ops : Array Oper} {Q : Exit → St → Prop} {id : Nat} {st : St} (n : Nat) (nt : Nat) (T : List (Nat × V)) (H : Hp) (hk : opsP Try.prog Γ ops Q (0 + n) ⟨nt, T, H⟩) (h : (evS τ [] ops n 0 st).map (fun s => s.keep (T.map (·.1))) = some ⟨nt, T, H⟩ := by kernel_rfl) : pwp Try.prog Γ (.region id ops false) Q st := pwp_region (opsP_evk' (st' := ⟨nt, T, H⟩) τ_ok [] n (T.map (·.1)) h hk)
theorem rvM {Γ : Ctx} {ops : Array Oper} {Q : Exit → St → Prop} {id : Nat} {st : St} (mu : List Nat) (n : Nat) (nt : Nat) (T : List (Nat × V)) (H : Hp) (hk : opsP Try.prog Γ ops Q (0 + n) ⟨nt, T, H⟩) (h : (evS τ mu ops n 0 st).map (fun s => s.keep (T.map (·.1))) = some ⟨nt, T, H⟩ := by kernel_rfl) : pwp Try.prog Γ (.region id ops false) Q st := pwp_region (opsP_evk' (st' := ⟨nt, T, H⟩) τ_ok mu n (T.map (·.1)) h hk)
theorem rve {Γ : Ctx} {ops : Array Oper} {Q : Exit → St → Prop} {id : Nat} {st : St} (nt : Nat) (T : List (Nat × V)) (H : Hp) (hk : Q .normal ⟨nt, T, H⟩) (h : (evS τ [] ops ops.size 0 st).map (fun s => s.keep (T.map (·.1))) = some ⟨nt, T, H⟩ := by kernel_rfl) : pwp Try.prog Γ (.region id ops false) Q st := pwp_region (opsP_evk' (st' := ⟨nt, T, H⟩) τ_ok [] ops.size (T.map (·.1)) h (opsP_end (Nat.zero_add _).symm hk))
theorem rveM {Γ : Ctx} {ops : Array Oper} {Q : Exit → St → Prop} {id : Nat} {st : St} (mu : List Nat) (nt : Nat) (T : List (Nat × V)) (H : Hp) (hk : Q .normal ⟨nt, T, H⟩) (h : (evS τ mu ops ops.size 0 st).map (fun s => s.keep (T.map (·.1))) = some ⟨nt, T, H⟩ := by kernel_rfl) : pwp Try.prog Γ (.region id ops false) Q st := pwp_region (opsP_evk' (st' := ⟨nt, T, H⟩) τ_ok mu ops.size (T.map (·.1)) h (opsP_end (Nat.zero_add _).symm hk))
theorem srv {Γ : Ctx} {ops : Array Oper} {Q : Exit → St → Prop} {id : Nat} {y : Code} {st : St} (n : Nat) (nt : Nat) (T : List (Nat × V)) (H : Hp) (hk : opsP Try.prog Γ ops (Dthen (fun st' => pwp Try.prog Γ y Q st') Q) (0 + n) ⟨nt, T, H⟩) (h : (evS τ [] ops n 0 st).map (fun s => s.keep (T.map (·.1))) = some ⟨nt, T, H⟩ := by kernel_rfl) : pwp Try.prog Γ (.seq (.region id ops false) y) Q st := pwp_seq (pwp_region (opsP_evk' (st' := ⟨nt, T, H⟩) τ_ok [] n (T.map (·.1)) h hk))
theorem srvM {Γ : Ctx} {ops : Array Oper} {Q : Exit → St → Prop} {id : Nat} {y : Code} {st : St} (mu : List Nat) (n : Nat) (nt : Nat) (T : List (Nat × V)) (H : Hp) (hk : opsP Try.prog Γ ops (Dthen (fun st' => pwp Try.prog Γ y Q st') Q) (0 + n) ⟨nt, T, H⟩) (h : (evS τ mu ops n 0 st).map (fun s => s.keep (T.map (·.1))) = some ⟨nt, T, H⟩ := by kernel_rfl) : pwp Try.prog Γ (.seq (.region id ops false) y) Q st := pwp_seq (pwp_region (opsP_evk' (st' := ⟨nt, T, H⟩) τ_ok mu n (T.map (·.1)) h hk))
theorem srve {Γ : Ctx} {ops : Array Oper} {Q : Exit → St → Prop} {id : Nat} {y : Code} {st : St} (nt : Nat) (T : List (Nat × V)) (H : Hp) (hk : pwp Try.prog Γ y Q ⟨nt, T, H⟩) (h : (evS τ [] ops ops.size 0 st).map (fun s => s.keep (T.map (·.1))) = some ⟨nt, T, H⟩ := by kernel_rfl) : pwp Try.prog Γ (.seq (.region id ops false) y) Q st := pwp_seq (pwp_region (opsP_evk' (st' := ⟨nt, T, H⟩) τ_ok [] ops.size (T.map (·.1)) h (opsP_end (Nat.zero_add _).symm hk)))
theorem srveM {Γ : Ctx} {ops : Array Oper} {Q : Exit → St → Prop} {id : Nat} {y : Code} {st : St} (mu : List Nat) (nt : Nat) (T : List (Nat × V)) (H : Hp) (hk : pwp Try.prog Γ y Q ⟨nt, T, H⟩) (h : (evS τ mu ops ops.size 0 st).map (fun s => s.keep (T.map (·.1))) = some ⟨nt, T, H⟩ := by kernel_rfl) : pwp Try.prog Γ (.seq (.region id ops false) y) Q st := pwp_seq (pwp_region (opsP_evk' (st' := ⟨nt, T, H⟩) τ_ok mu ops.size (T.map (·.1)) h (opsP_end (Nat.zero_add _).symm hk)))
theorem pc {α : Type} {Γ : Ctx} {Q : Exit → St → Prop} {st : St} {o : Operand} {c d : Code} {e : Bool} {a b : Option α} {x : Option α} (h : (bif e then a else b) = x) (ht : a = x → pwp Try.prog Γ c Q st) (hf : b = x → pwp Try.prog Γ d Q st) (hc : evalV st o = some (.lit (.bool e)) := by kernel_rfl) : pwp Try.prog Γ (.cond o c d) Q st := pwp_cond e hc (fun q => ht (bifT q h)) (fun q => hf (bifF q h))
theorem rz {fn : Func} {out : V} {st : St} (hx : resV τ st fn.results.toList = some out := by kernel_rfl) (hz : frz out = true := by kernel_rfl) : Qret τ fn out .ret st := ⟨.inr rfl, out, [], hx, OutP.frz hz, List.nodup_nil⟩
theorem rt {fn : Func} {out : V} {st : St} (x : V) {ks : List Nat} (ho : OutP st.H x out ks) (hx : resV τ st fn.results.toList = some x := by kernel_rfl) (hn : ks.Nodup := by decide) : Qret τ fn out .ret st := ⟨.inr rfl, x, ks, hx, ho, hn⟩
theorem si {α : Type} {a b : α} (h : some a = some b) : a = b := Option.some.inj h
theorem fk (b : Bool) : b = true ∨ b = false := Bool.eq_false_or_eq_true b
theorem bT {α : Type} {c : Bool} {a b x : α} (hc : c = true) (h : (bif c then a else b) = x) : a = x := bifT hc h
theorem bF {α : Type} {c : Bool} {a b x : α} (hc : c = false) (h : (bif c then a else b) = x) : b = x := bifF hc h
theorem qv {Γ : Ctx} {ops : Array Oper} {vis mod : List (List Nat)} {Q : Exit → St → Prop} {q N j : Nat} {st : St} (ks : List Nat) (hp : hpIn ks (maskH ks 0 st.H)) (n nt : Nat) (T : List (Nat × V)) (H : Hp) (hk : qA Try.prog Γ ops vis mod (fun st' => opsP Try.prog Γ ops Q q st') (N - n) (j + n) ⟨nt, T, H⟩) (h : evO τ [] ops vis mod ks (N - n) n j st T = some ⟨nt, T, H⟩ := by kernel_rfl) (hN : N - n + n = N := by rfl) : qA Try.prog Γ ops vis mod (fun st' => opsP Try.prog Γ ops Q q st') N j st := hN ▸ qA_evO τ_ok [] ks n T hp h hk
theorem qvn {Γ : Ctx} {ops : Array Oper} {vis mod : List (List Nat)} {Q : Exit → St → Prop} {N j : Nat} {st : St} (ks : List Nat) (hp : hpIn ks (maskH ks 0 st.H)) (n nt : Nat) (T : List (Nat × V)) (H : Hp) (hk : Q .normal ⟨nt, T, H⟩) (h : (evA τ [] ops vis mod ks n j st).map (fun s => s.keep (T.map (·.1))) = some ⟨nt, T, H⟩ := by kernel_rfl) (hN : N = n := by rfl) : qA Try.prog Γ ops vis mod (fun st' => opsP Try.prog Γ ops Q ops.size st') N j st := hN ▸ qA_evN τ_ok [] ks n T hp h hk
theorem qvM {Γ : Ctx} {ops : Array Oper} {vis mod : List (List Nat)} {Q : Exit → St → Prop} {q N j : Nat} {st : St} (mu : List Nat) (ks : List Nat) (hp : hpIn ks (maskH ks 0 st.H)) (n nt : Nat) (T : List (Nat × V)) (H : Hp) (hk : qA Try.prog Γ ops vis mod (fun st' => opsP Try.prog Γ ops Q q st') (N - n) (j + n) ⟨nt, T, H⟩) (h : evO τ mu ops vis mod ks (N - n) n j st T = some ⟨nt, T, H⟩ := by kernel_rfl) (hN : N - n + n = N := by rfl) : qA Try.prog Γ ops vis mod (fun st' => opsP Try.prog Γ ops Q q st') N j st := hN ▸ qA_evO τ_ok mu ks n T hp h hk
theorem qvnM {Γ : Ctx} {ops : Array Oper} {vis mod : List (List Nat)} {Q : Exit → St → Prop} {N j : Nat} {st : St} (mu : List Nat) (ks : List Nat) (hp : hpIn ks (maskH ks 0 st.H)) (n nt : Nat) (T : List (Nat × V)) (H : Hp) (hk : Q .normal ⟨nt, T, H⟩) (h : (evA τ mu ops vis mod ks n j st).map (fun s => s.keep (T.map (·.1))) = some ⟨nt, T, H⟩ := by kernel_rfl) (hN : N = n := by rfl) : qA Try.prog Γ ops vis mod (fun st' => opsP Try.prog Γ ops Q ops.size st') N j st := hN ▸ qA_evN τ_ok mu ks n T hp h hk
theorem qX {Γ : Ctx} {ops : Array Oper} {vis mod : List (List Nat)} {Q : Exit → St → Prop} {q n j : Nat} {st : St} {Hm' : Hp} (dd : Option Nat) (x : V) (nt : Nat) (T : List (Nat × V)) (H : Hp) (h : ∀ Γ' : Ctx, (∀ i b, Γ'.L i b → Γ.L i b) → CoreE Try.prog Γ' ops j (stA ops vis j st) dd Hm' x) (hp : hpIn (lk vis j) Hm') (hk : qA Try.prog Γ ops vis mod (fun st' => opsP Try.prog Γ ops Q q st') n (j + 1) ⟨nt, T, H⟩) (hl : Nat.beq Hm'.length st.H.length = true := by kernel_rfl) (hm : fillH (lk mod j) 0 (maskH (lk vis j) 0 st.H) Hm' = Hm' := by kernel_rfl) (hx : dd = none ∨ okA (lk vis j) x = true ∨ frz x = true := by first | exact .inl rfl | exact .inr (.inl rfl) | exact .inr (.inr rfl)) (he : offE ops n (j + 1) T ((st.inH (fillH (lk mod j) 0 st.H Hm')).put dd x) = some ⟨nt, T, H⟩ := by kernel_rfl) : qA Try.prog Γ ops vis mod (fun st' => opsP Try.prog Γ ops Q q st') (n + 1) j st := qA_EO T h hp hk hl hm hx he
theorem qn {Γ : Ctx} {ops : Array Oper} {vis mod : List (List Nat)} {Q : Exit → St → Prop} {j : Nat} {st : St} (nt : Nat) (T : List (Nat × V)) (H : Hp) (hk : Q .normal ⟨nt, T, H⟩) (h : st.keep (T.map (·.1)) = ⟨nt, T, H⟩ := by kernel_rfl) : qA Try.prog Γ ops vis mod (fun st' => opsP Try.prog Γ ops Q ops.size st') 0 j st := qA_end (opsP_imp (Imp.to _ h) (opsP_end rfl hk))
theorem pN {Γ : Ctx} {ops : Array Oper} {Q : Exit → St → Prop} {st : St} {id : Nat} (n : Nat) (h : qA Try.prog Γ ops (List.replicate n []) (List.replicate n []) (fun st' => opsP Try.prog Γ ops Q ops.size st') ops.size 0 st) (hB : anyB ops (List.replicate n []) (List.replicate n []) = true := by kernel_rfl) : pwp Try.prog Γ (.region id ops true) Q st := pwp_any _ _ rfl hB h
theorem qt {Γ : Ctx} {a b c : St} (h : Imp Γ a b) (k : Imp Γ b c) : Imp Γ a c := h.trans k
theorem it {Γ : Ctx} {st st' : St} (ks : List Nat) (h : st.keep ks = st' := by kernel_rfl) : Imp Γ st st' := Imp.to ks h
theorem ip {Γ : Ctx} {c : Code} {Q : Exit → St → Prop} {st : St} (nt : Nat) (T : List (Nat × V)) (H : Hp) (hk : pwp Try.prog Γ c Q ⟨nt, T, H⟩) (h : st.keep (T.map (·.1)) = ⟨nt, T, H⟩ := by kernel_rfl) : pwp Try.prog Γ c Q st := pwp_imp (Imp.to _ h) hk
theorem io {Γ : Ctx} {ops : Array Oper} {j : Nat} {Q : Exit → St → Prop} {st : St} (nt : Nat) (T : List (Nat × V)) (H : Hp) (hk : opsP Try.prog Γ ops Q j ⟨nt, T, H⟩) (h : st.keep (T.map (·.1)) = ⟨nt, T, H⟩ := by kernel_rfl) : opsP Try.prog Γ ops Q j st := opsP_imp (Imp.to _ h) hk
theorem cF {Γ : Ctx} {ops : Array Oper} {j : Nat} {Q : Exit → St → Prop} {st : St} {g : FuncId} {xs : List V} {out x : V} (d : Nat) (hok : OK Try.prog g xs out) (hk : opsP Try.prog Γ ops Q (j + 1) (st.set d x)) (hf : FzTo out x := by exact FzTo.frz rfl) (hz : frzL xs = true := by rfl) (h : callV τ ops j st = some (d, g, xs) := by kernel_rfl) : opsP Try.prog Γ ops Q j st := opsP_callF τ d hok hf hz h hk
theorem cFo {Γ : Ctx} {ops : Array Oper} {j : Nat} {Q : Exit → St → Prop} {st : St} {g : FuncId} {xs : List V} {out x : V} (d : Nat) (hok : OK Try.prog g xs out) (hk : opsP Try.prog Γ ops Q (j + 1) (st.set d x)) (hf : FzTo out x := by exact FzTo.O _) (hz : frzL xs = true := by rfl) (h : callV τ ops j st = some (d, g, xs) := by kernel_rfl) : opsP Try.prog Γ ops Q j st := opsP_callF τ d hok hf hz h hk
theorem ow {f : FuncId} {fn : Func} {c : Code} {ins : List V} {out : V} (hf : Try.prog.funcs[f]? = some fn) (h : ∀ Γ, (∀ i b, ¬ Γ.L i b) → pwp Try.prog Γ c (Qret τ fn out) ⟨fn.ntmps, numbered 0 ins, []⟩) (hb : fn.body = some c := by exact rfl) (hnm : (fn.name == "runtime.NumGoroutine") = false := by kernel_rfl) (hn : Nat.ble ins.length fn.ntmps = true := by rfl) : OK Try.prog f ins out := OK_of_pwp τ_ok hf hb hnm hn h
end Go.D
