import Derived.Test.YtgggakgdkonngaaGreatThrDBoth
import Derived.Test.YtgggakgdkonngaaGreatProg
import Derived.KernelRfl
set_option linter.unusedVariables false
set_option linter.unusedSimpArgs false
namespace Go.D
open Go.Proofs
structure Za where
 fKind : Int
 fN : Int
 fS : ByteArray
instance : Enc Za := ⟨3, fun x => [I x.fKind, I x.fN, S x.fS], true, fun _ => rfl, by decide, fun _ => rfl, fun _ => rfl⟩
structure Zd where
 fKind : Int
 fN : Int
 fV : Za
instance : Enc Zd := ⟨5, fun x => [I x.fKind, I x.fN, I x.fV.fKind, I x.fV.fN, S x.fV.fS], true, fun _ => rfl, by decide, fun _ => rfl, fun _ => rfl⟩
structure Zf where
 fKind : Int
 fA : Int
 fB : Int
 fN : Int
 fE : List Zd
 fList : List Int
instance : Enc Zf := ⟨6, fun x => [I x.fKind, I x.fA, I x.fB, I x.fN, A x.fE, A x.fList], true, fun _ => rfl, by decide, fun _ => rfl, fun _ => rfl⟩
structure T_impl_Change where
 fIn : Int
 fRow : List Za
 fCome : Bool
instance : Enc T_impl_Change := ⟨3, fun x => [I x.fIn, A x.fRow, B x.fCome], true, fun _ => rfl, by decide, fun _ => rfl, fun _ => rfl⟩
structure Zc where
 fB : List UInt8
 fP : Int
instance : Enc Zc := ⟨2, fun x => [A x.fB, I x.fP], true, fun _ => rfl, by decide, fun _ => rfl, fun _ => rfl⟩
structure Zb where
 fKind : Int
 fEmpty : Bool
instance : Enc Zb := ⟨2, fun x => [I x.fKind, B x.fEmpty], true, fun _ => rfl, by decide, fun _ => rfl, fun _ => rfl⟩
structure Ze where
 fColumns : List Zb
 fMost : Int
instance : Enc Ze := ⟨2, fun x => [A x.fColumns, I x.fMost], true, fun _ => rfl, by decide, fun _ => rfl, fun _ => rfl⟩
structure Zh where
 fColumns : List Zb
 fRows : List (List Za)
instance : Enc Zh := ⟨2, fun x => [A x.fColumns, A x.fRows], true, fun _ => rfl, by decide, fun _ => rfl, fun _ => rfl⟩
def Zr (x y : Za) : Bool := andB [x.fKind == y.fKind, x.fN == y.fN, x.fS.toList == y.fS.toList]
instance : DFlat Za := ⟨fun _ => rfl⟩
instance : DFlat Zd := ⟨fun _ => rfl⟩
instance : DEnc Zf := ⟨fun x => [I x.fKind, I x.fA, I x.fB, I x.fN, O x.fE, O x.fList], fun _ => rfl, fun x => (FzToL.cons (FzTo.lit _) (FzToL.cons (FzTo.lit _) (FzToL.cons (FzTo.lit _) (FzToL.cons (FzTo.lit _) (FzToL.cons (FzTo.O _) (FzToL.cons (FzTo.O _) FzToL.nil)))))), fun _ => rfl, fun x => (BlindL.cons (Blind.lit _) (BlindL.cons (Blind.lit _) (BlindL.cons (Blind.lit _) (BlindL.cons (Blind.lit _) (BlindL.cons (Blind.O DFlat.lit _) (BlindL.cons (Blind.O DFlat.lit _) BlindL.nil))))))⟩
instance : DNest Zf := ⟨⟩
instance : DOne Zf := ⟨fun _ => rfl⟩
instance : DEnc T_impl_Change := ⟨fun x => [I x.fIn, O x.fRow, B x.fCome], fun _ => rfl, fun x => (FzToL.cons (FzTo.lit _) (FzToL.cons (FzTo.O _) (FzToL.cons (FzTo.lit _) FzToL.nil))), fun _ => rfl, fun x => (BlindL.cons (Blind.lit _) (BlindL.cons (Blind.O DFlat.lit _) (BlindL.cons (Blind.lit _) BlindL.nil)))⟩
instance : DNest T_impl_Change := ⟨⟩
instance : DOne T_impl_Change := ⟨fun _ => rfl⟩
instance : DEnc Zc := ⟨fun x => [O x.fB, I x.fP], fun _ => rfl, fun x => (FzToL.cons (FzTo.O _) (FzToL.cons (FzTo.lit _) FzToL.nil)), fun _ => rfl, fun x => (BlindL.cons (Blind.O DFlat.lit _) (BlindL.cons (Blind.lit _) BlindL.nil))⟩
instance : DNest Zc := ⟨⟩
instance : DOne Zc := ⟨fun _ => rfl⟩
instance : DFlat Zb := ⟨fun _ => rfl⟩
instance : DEnc Ze := ⟨fun x => [O x.fColumns, I x.fMost], fun _ => rfl, fun x => (FzToL.cons (FzTo.O _) (FzToL.cons (FzTo.lit _) FzToL.nil)), fun _ => rfl, fun x => (BlindL.cons (Blind.O DFlat.lit _) (BlindL.cons (Blind.lit _) BlindL.nil))⟩
instance : DNest Ze := ⟨⟩
instance : DOne Ze := ⟨fun _ => rfl⟩
instance : DEnc Zh := ⟨fun x => [O x.fColumns, OD x.fRows], fun _ => rfl, fun x => (FzToL.cons (FzTo.O _) (FzToL.cons (FzTo.OD _) FzToL.nil)), fun _ => rfl, fun x => (BlindL.cons (Blind.O DFlat.lit _) (BlindL.cons (Blind.OD _) BlindL.nil))⟩
instance : DNest Zh := ⟨⟩
instance : DOne Zh := ⟨fun _ => rfl⟩
theorem tab_ok2 : TIok Tryz.prog 2 ⟨.int .i64, 1, 8, [.lit (.int .i64 0)], false⟩ := tiok Tryz.type2 Tryz.underlying2 rfl rfl rfl (fun w M => FrL.cons' (Fr.lit' w M _) (FrL.nil' w M)) (fun fs h => by cases h) (rfl) (fun h => by cases h)
theorem tab_ok3 : TIok Tryz.prog 3 ⟨.int .i64, 1, 8, [.lit (.int .i64 0)], false⟩ := tiok Tryz.type3 Tryz.underlying3 rfl rfl rfl (fun w M => FrL.cons' (Fr.lit' w M _) (FrL.nil' w M)) (fun fs h => by cases h) (rfl) (fun h => by cases h)
theorem tab_ok4 : TIok Tryz.prog 4 ⟨.bool, 1, 1, [.lit (.bool false)], false⟩ := tiok Tryz.type4 Tryz.underlying4 rfl rfl rfl (fun w M => FrL.cons' (Fr.lit' w M _) (FrL.nil' w M)) (fun fs h => by cases h) (rfl) (fun h => by cases h)
theorem tab_ok5 : TIok Tryz.prog 5 ⟨.int .u8, 1, 1, [.lit (.int .u8 0)], false⟩ := tiok Tryz.type5 Tryz.underlying5 rfl rfl rfl (fun w M => FrL.cons' (Fr.lit' w M _) (FrL.nil' w M)) (fun fs h => by cases h) (rfl) (fun h => by cases h)
theorem tab_ok7 : TIok Tryz.prog 7 ⟨.struct [(2, 0), (3, 1), (4, 2), (6, 3)], 4, 24, [.lit (.int .i64 0), .lit (.int .i64 0), .lit (.bool false), .lit (.int .u8 0)], false⟩ := tiok Tryz.type7 Tryz.underlying7 rfl rfl rfl (fun w M => FrL.cons' (Fr.lit' w M _) (FrL.cons' (Fr.lit' w M _) (FrL.cons' (Fr.lit' w M _) (FrL.cons' (Fr.lit' w M _) (FrL.nil' w M))))) (fun fs h => ⟨_, rfl⟩) (⟨_, rfl, rfl⟩) (fun h => by cases h)
theorem tab_ok9 : TIok Tryz.prog 9 ⟨.str, 1, 16, [.lit (.string ⟨#[]⟩)], false⟩ := tiok Tryz.type9 Tryz.underlying9 rfl rfl rfl (fun w M => FrL.cons' (Fr.lit' w M _) (FrL.nil' w M)) (fun fs h => by cases h) (rfl) (fun h => by cases h)
theorem tab_ok15 : TIok Tryz.prog 15 ⟨.ptr 151, 1, 8, [.lit (.pointer none)], false⟩ := tiok Tryz.type15 Tryz.underlying15 rfl rfl rfl (fun w M => FrL.cons' (Fr.lit' w M _) (FrL.nil' w M)) (fun fs h => by cases h) (rfl) (fun h => by cases h)
theorem tab_ok16 : TIok Tryz.prog 16 ⟨.ptr 154, 1, 8, [.lit (.pointer none)], false⟩ := tiok Tryz.type16 Tryz.underlying16 rfl rfl rfl (fun w M => FrL.cons' (Fr.lit' w M _) (FrL.nil' w M)) (fun fs h => by cases h) (rfl) (fun h => by cases h)
theorem tab_ok17 : TIok Tryz.prog 17 ⟨.ptr 163, 1, 8, [.lit (.pointer none)], false⟩ := tiok Tryz.type17 Tryz.underlying17 rfl rfl rfl (fun w M => FrL.cons' (Fr.lit' w M _) (FrL.nil' w M)) (fun fs h => by cases h) (rfl) (fun h => by cases h)
theorem tab_ok22 : TIok Tryz.prog 22 ⟨.slice 5, 1, 24, [.arr 1 0 [] false], false⟩ := tiok Tryz.type22 Tryz.underlying22 rfl rfl rfl (fun w M => FrL.cons' (Fr.nil w M _ (by decide)) (FrL.nil' w M)) (fun fs h => by cases h) (rfl) (fun h => by cases h)
theorem tab_ok23 : TIok Tryz.prog 23 ⟨.slice 89, 1, 24, [.arr 2 0 [] false], false⟩ := tiok Tryz.type23 Tryz.underlying23 rfl rfl rfl (fun w M => FrL.cons' (Fr.nil w M _ (by decide)) (FrL.nil' w M)) (fun fs h => by cases h) (rfl) (fun h => by cases h)
theorem tab_ok24 : TIok Tryz.prog 24 ⟨.slice 37, 1, 24, [.arr 6 0 [] false], false⟩ := tiok Tryz.type24 Tryz.underlying24 rfl rfl rfl (fun w M => FrL.cons' (Fr.nil w M _ (by decide)) (FrL.nil' w M)) (fun fs h => by cases h) (rfl) (fun h => by cases h)
theorem tab_ok25 : TIok Tryz.prog 25 ⟨.slice 66, 1, 24, [.arr 5 0 [] false], false⟩ := tiok Tryz.type25 Tryz.underlying25 rfl rfl rfl (fun w M => FrL.cons' (Fr.nil w M _ (by decide)) (FrL.nil' w M)) (fun fs h => by cases h) (rfl) (fun h => by cases h)
theorem tab_ok29 : TIok Tryz.prog 29 ⟨.slice 41, 1, 24, [.arr 1 0 [] false], false⟩ := tiok Tryz.type29 Tryz.underlying29 rfl rfl rfl (fun w M => FrL.cons' (Fr.nil w M _ (by decide)) (FrL.nil' w M)) (fun fs h => by cases h) (rfl) (fun h => by cases h)
theorem tab_ok32 : TIok Tryz.prog 32 ⟨.slice 25, 1, 24, [.arr 1 0 [] false], false⟩ := tiok Tryz.type32 Tryz.underlying32 rfl rfl rfl (fun w M => FrL.cons' (Fr.nil w M _ (by decide)) (FrL.nil' w M)) (fun fs h => by cases h) (rfl) (fun h => by cases h)
theorem tab_ok35 : TIok Tryz.prog 35 ⟨.slice 3, 1, 24, [.arr 1 0 [] false], false⟩ := tiok Tryz.type35 Tryz.underlying35 rfl rfl rfl (fun w M => FrL.cons' (Fr.nil w M _ (by decide)) (FrL.nil' w M)) (fun fs h => by cases h) (rfl) (fun h => by cases h)
theorem tab_ok36 : TIok Tryz.prog 36 ⟨.struct [(3, 0), (3, 1), (3, 2), (3, 3), (25, 4), (35, 5)], 6, 80, [.lit (.int .i64 0), .lit (.int .i64 0), .lit (.int .i64 0), .lit (.int .i64 0), .arr 5 0 [] false, .arr 1 0 [] false], false⟩ := tiok Tryz.type36 Tryz.underlying36 rfl rfl rfl (fun w M => FrL.cons' (Fr.lit' w M _) (FrL.cons' (Fr.lit' w M _) (FrL.cons' (Fr.lit' w M _) (FrL.cons' (Fr.lit' w M _) (FrL.cons' (Fr.nil w M _ (by decide)) (FrL.cons' (Fr.nil w M _ (by decide)) (FrL.nil' w M))))))) (fun fs h => ⟨_, rfl⟩) (⟨_, rfl, rfl⟩) (fun h => by cases h)
theorem tab_ok37 : TIok Tryz.prog 37 ⟨.struct [(3, 0), (3, 1), (3, 2), (3, 3), (25, 4), (35, 5)], 6, 80, [.lit (.int .i64 0), .lit (.int .i64 0), .lit (.int .i64 0), .lit (.int .i64 0), .arr 5 0 [] false, .arr 1 0 [] false], false⟩ := tiok Tryz.type37 Tryz.underlying37 rfl rfl rfl (fun w M => FrL.cons' (Fr.lit' w M _) (FrL.cons' (Fr.lit' w M _) (FrL.cons' (Fr.lit' w M _) (FrL.cons' (Fr.lit' w M _) (FrL.cons' (Fr.nil w M _ (by decide)) (FrL.cons' (Fr.nil w M _ (by decide)) (FrL.nil' w M))))))) (fun fs h => ⟨_, rfl⟩) (⟨_, rfl, rfl⟩) (fun h => by cases h)
theorem tab_ok41 : TIok Tryz.prog 41 ⟨.slice 64, 1, 24, [.arr 3 0 [] false], false⟩ := tiok Tryz.type41 Tryz.underlying41 rfl rfl rfl (fun w M => FrL.cons' (Fr.nil w M _ (by decide)) (FrL.nil' w M)) (fun fs h => by cases h) (rfl) (fun h => by cases h)
theorem tab_ok42 : TIok Tryz.prog 42 ⟨.struct [(3, 0), (41, 1), (4, 2)], 3, 40, [.lit (.int .i64 0), .arr 3 0 [] false, .lit (.bool false)], false⟩ := tiok Tryz.type42 Tryz.underlying42 rfl rfl rfl (fun w M => FrL.cons' (Fr.lit' w M _) (FrL.cons' (Fr.nil w M _ (by decide)) (FrL.cons' (Fr.lit' w M _) (FrL.nil' w M)))) (fun fs h => ⟨_, rfl⟩) (⟨_, rfl, rfl⟩) (fun h => by cases h)
theorem tab_ok43 : TIok Tryz.prog 43 ⟨.struct [(3, 0), (41, 1), (4, 2)], 3, 40, [.lit (.int .i64 0), .arr 3 0 [] false, .lit (.bool false)], false⟩ := tiok Tryz.type43 Tryz.underlying43 rfl rfl rfl (fun w M => FrL.cons' (Fr.lit' w M _) (FrL.cons' (Fr.nil w M _ (by decide)) (FrL.cons' (Fr.lit' w M _) (FrL.nil' w M)))) (fun fs h => ⟨_, rfl⟩) (⟨_, rfl, rfl⟩) (fun h => by cases h)
theorem tab_ok48 : TIok Tryz.prog 48 ⟨.ptr 78, 1, 8, [.lit (.pointer none)], false⟩ := tiok Tryz.type48 Tryz.underlying48 rfl rfl rfl (fun w M => FrL.cons' (Fr.lit' w M _) (FrL.nil' w M)) (fun fs h => by cases h) (rfl) (fun h => by cases h)
theorem tab_ok52 : TIok Tryz.prog 52 ⟨.slice 99, 1, 24, [.arr 2 0 [] false], false⟩ := tiok Tryz.type52 Tryz.underlying52 rfl rfl rfl (fun w M => FrL.cons' (Fr.nil w M _ (by decide)) (FrL.nil' w M)) (fun fs h => by cases h) (rfl) (fun h => by cases h)
theorem tab_ok55 : TIok Tryz.prog 55 ⟨.slice 82, 1, 24, [.arr 2 0 [] false], false⟩ := tiok Tryz.type55 Tryz.underlying55 rfl rfl rfl (fun w M => FrL.cons' (Fr.nil w M _ (by decide)) (FrL.nil' w M)) (fun fs h => by cases h) (rfl) (fun h => by cases h)
theorem tab_ok58 : TIok Tryz.prog 58 ⟨.slice 52, 1, 24, [.arr 1 0 [] false], false⟩ := tiok Tryz.type58 Tryz.underlying58 rfl rfl rfl (fun w M => FrL.cons' (Fr.nil w M _ (by decide)) (FrL.nil' w M)) (fun fs h => by cases h) (rfl) (fun h => by cases h)
theorem tab_ok63 : TIok Tryz.prog 63 ⟨.struct [(3, 0), (3, 1), (9, 2)], 3, 32, [.lit (.int .i64 0), .lit (.int .i64 0), .lit (.string ⟨#[]⟩)], false⟩ := tiok Tryz.type63 Tryz.underlying63 rfl rfl rfl (fun w M => FrL.cons' (Fr.lit' w M _) (FrL.cons' (Fr.lit' w M _) (FrL.cons' (Fr.lit' w M _) (FrL.nil' w M)))) (fun fs h => ⟨_, rfl⟩) (⟨_, rfl, rfl⟩) (fun h => by cases h)
theorem tab_ok64 : TIok Tryz.prog 64 ⟨.struct [(3, 0), (3, 1), (9, 2)], 3, 32, [.lit (.int .i64 0), .lit (.int .i64 0), .lit (.string ⟨#[]⟩)], true⟩ := tiok Tryz.type64 Tryz.underlying64 rfl rfl rfl (fun w M => FrL.cons' (Fr.lit' w M _) (FrL.cons' (Fr.lit' w M _) (FrL.cons' (Fr.lit' w M _) (FrL.nil' w M)))) (fun fs h => ⟨_, rfl⟩) (⟨_, rfl, rfl⟩) (fun h => ⟨Tryz.stoodInHeld64, Tryz.eqGuardType64, by simp [Program.fieldsOf, Tryz.underlying64]⟩)
theorem tab_ok65 : TIok Tryz.prog 65 ⟨.struct [(3, 0), (3, 1), (64, 2)], 5, 48, [.lit (.int .i64 0), .lit (.int .i64 0), .lit (.int .i64 0), .lit (.int .i64 0), .lit (.string ⟨#[]⟩)], false⟩ := tiok Tryz.type65 Tryz.underlying65 rfl rfl rfl (fun w M => FrL.cons' (Fr.lit' w M _) (FrL.cons' (Fr.lit' w M _) (FrL.cons' (Fr.lit' w M _) (FrL.cons' (Fr.lit' w M _) (FrL.cons' (Fr.lit' w M _) (FrL.nil' w M)))))) (fun fs h => ⟨_, rfl⟩) (⟨_, rfl, rfl⟩) (fun h => by cases h)
theorem tab_ok66 : TIok Tryz.prog 66 ⟨.struct [(3, 0), (3, 1), (64, 2)], 5, 48, [.lit (.int .i64 0), .lit (.int .i64 0), .lit (.int .i64 0), .lit (.int .i64 0), .lit (.string ⟨#[]⟩)], false⟩ := tiok Tryz.type66 Tryz.underlying66 rfl rfl rfl (fun w M => FrL.cons' (Fr.lit' w M _) (FrL.cons' (Fr.lit' w M _) (FrL.cons' (Fr.lit' w M _) (FrL.cons' (Fr.lit' w M _) (FrL.cons' (Fr.lit' w M _) (FrL.nil' w M)))))) (fun fs h => ⟨_, rfl⟩) (⟨_, rfl, rfl⟩) (fun h => by cases h)
theorem tab_ok67 : TIok Tryz.prog 67 ⟨.func, 1, 8, [.lit .nilFunc], false⟩ := tiok Tryz.type67 Tryz.underlying67 rfl rfl rfl (fun w M => FrL.cons' (Fr.lit' w M _) (FrL.nil' w M)) (fun fs h => by cases h) (⟨_, _, _, rfl⟩) (fun h => by cases h)
theorem tab_ok77 : TIok Tryz.prog 77 ⟨.struct [(22, 0), (3, 1)], 2, 32, [.arr 1 0 [] false, .lit (.int .i64 0)], false⟩ := tiok Tryz.type77 Tryz.underlying77 rfl rfl rfl (fun w M => FrL.cons' (Fr.nil w M _ (by decide)) (FrL.cons' (Fr.lit' w M _) (FrL.nil' w M))) (fun fs h => ⟨_, rfl⟩) (⟨_, rfl, rfl⟩) (fun h => by cases h)
theorem tab_ok78 : TIok Tryz.prog 78 ⟨.struct [(22, 0), (3, 1)], 2, 32, [.arr 1 0 [] false, .lit (.int .i64 0)], false⟩ := tiok Tryz.type78 Tryz.underlying78 rfl rfl rfl (fun w M => FrL.cons' (Fr.nil w M _ (by decide)) (FrL.cons' (Fr.lit' w M _) (FrL.nil' w M))) (fun fs h => ⟨_, rfl⟩) (⟨_, rfl, rfl⟩) (fun h => by cases h)
theorem tab_ok81 : TIok Tryz.prog 81 ⟨.struct [(52, 0), (3, 1)], 2, 32, [.arr 2 0 [] false, .lit (.int .i64 0)], false⟩ := tiok Tryz.type81 Tryz.underlying81 rfl rfl rfl (fun w M => FrL.cons' (Fr.nil w M _ (by decide)) (FrL.cons' (Fr.lit' w M _) (FrL.nil' w M))) (fun fs h => ⟨_, rfl⟩) (⟨_, rfl, rfl⟩) (fun h => by cases h)
theorem tab_ok82 : TIok Tryz.prog 82 ⟨.struct [(52, 0), (3, 1)], 2, 32, [.arr 2 0 [] false, .lit (.int .i64 0)], false⟩ := tiok Tryz.type82 Tryz.underlying82 rfl rfl rfl (fun w M => FrL.cons' (Fr.nil w M _ (by decide)) (FrL.cons' (Fr.lit' w M _) (FrL.nil' w M))) (fun fs h => ⟨_, rfl⟩) (⟨_, rfl, rfl⟩) (fun h => by cases h)
theorem tab_ok88 : TIok Tryz.prog 88 ⟨.struct [(52, 0), (29, 1)], 2, 48, [.arr 2 0 [] false, .arr 1 0 [] false], false⟩ := tiok Tryz.type88 Tryz.underlying88 rfl rfl rfl (fun w M => FrL.cons' (Fr.nil w M _ (by decide)) (FrL.cons' (Fr.nil w M _ (by decide)) (FrL.nil' w M))) (fun fs h => ⟨_, rfl⟩) (⟨_, rfl, rfl⟩) (fun h => by cases h)
theorem tab_ok89 : TIok Tryz.prog 89 ⟨.struct [(52, 0), (29, 1)], 2, 48, [.arr 2 0 [] false, .arr 1 0 [] false], false⟩ := tiok Tryz.type89 Tryz.underlying89 rfl rfl rfl (fun w M => FrL.cons' (Fr.nil w M _ (by decide)) (FrL.cons' (Fr.nil w M _ (by decide)) (FrL.nil' w M))) (fun fs h => ⟨_, rfl⟩) (⟨_, rfl, rfl⟩) (fun h => by cases h)
theorem tab_ok91 : TIok Tryz.prog 91 ⟨.slice 29, 1, 24, [.arr 1 0 [] false], false⟩ := tiok Tryz.type91 Tryz.underlying91 rfl rfl rfl (fun w M => FrL.cons' (Fr.nil w M _ (by decide)) (FrL.nil' w M)) (fun fs h => by cases h) (rfl) (fun h => by cases h)
theorem tab_ok97 : TIok Tryz.prog 97 ⟨.func, 1, 8, [.lit .nilFunc], false⟩ := tiok Tryz.type97 Tryz.underlying97 rfl rfl rfl (fun w M => FrL.cons' (Fr.lit' w M _) (FrL.nil' w M)) (fun fs h => by cases h) (⟨_, _, _, rfl⟩) (fun h => by cases h)
theorem tab_ok98 : TIok Tryz.prog 98 ⟨.struct [(3, 0), (4, 1)], 2, 16, [.lit (.int .i64 0), .lit (.bool false)], false⟩ := tiok Tryz.type98 Tryz.underlying98 rfl rfl rfl (fun w M => FrL.cons' (Fr.lit' w M _) (FrL.cons' (Fr.lit' w M _) (FrL.nil' w M))) (fun fs h => ⟨_, rfl⟩) (⟨_, rfl, rfl⟩) (fun h => by cases h)
theorem tab_ok99 : TIok Tryz.prog 99 ⟨.struct [(3, 0), (4, 1)], 2, 16, [.lit (.int .i64 0), .lit (.bool false)], false⟩ := tiok Tryz.type99 Tryz.underlying99 rfl rfl rfl (fun w M => FrL.cons' (Fr.lit' w M _) (FrL.cons' (Fr.lit' w M _) (FrL.nil' w M))) (fun fs h => ⟨_, rfl⟩) (⟨_, rfl, rfl⟩) (fun h => by cases h)
theorem tab_ok103 : TIok Tryz.prog 103 ⟨.ptr 89, 1, 8, [.lit (.pointer none)], false⟩ := tiok Tryz.type103 Tryz.underlying103 rfl rfl rfl (fun w M => FrL.cons' (Fr.lit' w M _) (FrL.nil' w M)) (fun fs h => by cases h) (rfl) (fun h => by cases h)
theorem tab_ok108 : TIok Tryz.prog 108 ⟨.func, 1, 8, [.lit .nilFunc], false⟩ := tiok Tryz.type108 Tryz.underlying108 rfl rfl rfl (fun w M => FrL.cons' (Fr.lit' w M _) (FrL.nil' w M)) (fun fs h => by cases h) (⟨_, _, _, rfl⟩) (fun h => by cases h)
theorem tab_ok118 : TIok Tryz.prog 118 ⟨.func, 1, 8, [.lit .nilFunc], false⟩ := tiok Tryz.type118 Tryz.underlying118 rfl rfl rfl (fun w M => FrL.cons' (Fr.lit' w M _) (FrL.nil' w M)) (fun fs h => by cases h) (⟨_, _, _, rfl⟩) (fun h => by cases h)
theorem tab_ok121 : TIok Tryz.prog 121 ⟨.slice 9, 1, 24, [.arr 1 0 [] false], false⟩ := tiok Tryz.type121 Tryz.underlying121 rfl rfl rfl (fun w M => FrL.cons' (Fr.nil w M _ (by decide)) (FrL.nil' w M)) (fun fs h => by cases h) (rfl) (fun h => by cases h)
theorem tab_ok124 : TIok Tryz.prog 124 ⟨.func, 1, 8, [.lit .nilFunc], false⟩ := tiok Tryz.type124 Tryz.underlying124 rfl rfl rfl (fun w M => FrL.cons' (Fr.lit' w M _) (FrL.nil' w M)) (fun fs h => by cases h) (⟨_, _, _, rfl⟩) (fun h => by cases h)
def tab : List (Nat × TI) := [
 (2, ⟨.int .i64, 1, 8, [.lit (.int .i64 0)], false⟩),
 (3, ⟨.int .i64, 1, 8, [.lit (.int .i64 0)], false⟩),
 (4, ⟨.bool, 1, 1, [.lit (.bool false)], false⟩),
 (5, ⟨.int .u8, 1, 1, [.lit (.int .u8 0)], false⟩),
 (7, ⟨.struct [(2, 0), (3, 1), (4, 2), (6, 3)], 4, 24, [.lit (.int .i64 0), .lit (.int .i64 0), .lit (.bool false), .lit (.int .u8 0)], false⟩),
 (9, ⟨.str, 1, 16, [.lit (.string ⟨#[]⟩)], false⟩),
 (15, ⟨.ptr 151, 1, 8, [.lit (.pointer none)], false⟩),
 (16, ⟨.ptr 154, 1, 8, [.lit (.pointer none)], false⟩),
 (17, ⟨.ptr 163, 1, 8, [.lit (.pointer none)], false⟩),
 (22, ⟨.slice 5, 1, 24, [.arr 1 0 [] false], false⟩),
 (23, ⟨.slice 89, 1, 24, [.arr 2 0 [] false], false⟩),
 (24, ⟨.slice 37, 1, 24, [.arr 6 0 [] false], false⟩),
 (25, ⟨.slice 66, 1, 24, [.arr 5 0 [] false], false⟩),
 (29, ⟨.slice 41, 1, 24, [.arr 1 0 [] false], false⟩),
 (32, ⟨.slice 25, 1, 24, [.arr 1 0 [] false], false⟩),
 (35, ⟨.slice 3, 1, 24, [.arr 1 0 [] false], false⟩),
 (36, ⟨.struct [(3, 0), (3, 1), (3, 2), (3, 3), (25, 4), (35, 5)], 6, 80, [.lit (.int .i64 0), .lit (.int .i64 0), .lit (.int .i64 0), .lit (.int .i64 0), .arr 5 0 [] false, .arr 1 0 [] false], false⟩),
 (37, ⟨.struct [(3, 0), (3, 1), (3, 2), (3, 3), (25, 4), (35, 5)], 6, 80, [.lit (.int .i64 0), .lit (.int .i64 0), .lit (.int .i64 0), .lit (.int .i64 0), .arr 5 0 [] false, .arr 1 0 [] false], false⟩),
 (41, ⟨.slice 64, 1, 24, [.arr 3 0 [] false], false⟩),
 (42, ⟨.struct [(3, 0), (41, 1), (4, 2)], 3, 40, [.lit (.int .i64 0), .arr 3 0 [] false, .lit (.bool false)], false⟩),
 (43, ⟨.struct [(3, 0), (41, 1), (4, 2)], 3, 40, [.lit (.int .i64 0), .arr 3 0 [] false, .lit (.bool false)], false⟩),
 (48, ⟨.ptr 78, 1, 8, [.lit (.pointer none)], false⟩),
 (52, ⟨.slice 99, 1, 24, [.arr 2 0 [] false], false⟩),
 (55, ⟨.slice 82, 1, 24, [.arr 2 0 [] false], false⟩),
 (58, ⟨.slice 52, 1, 24, [.arr 1 0 [] false], false⟩),
 (63, ⟨.struct [(3, 0), (3, 1), (9, 2)], 3, 32, [.lit (.int .i64 0), .lit (.int .i64 0), .lit (.string ⟨#[]⟩)], false⟩),
 (64, ⟨.struct [(3, 0), (3, 1), (9, 2)], 3, 32, [.lit (.int .i64 0), .lit (.int .i64 0), .lit (.string ⟨#[]⟩)], true⟩),
 (65, ⟨.struct [(3, 0), (3, 1), (64, 2)], 5, 48, [.lit (.int .i64 0), .lit (.int .i64 0), .lit (.int .i64 0), .lit (.int .i64 0), .lit (.string ⟨#[]⟩)], false⟩),
 (66, ⟨.struct [(3, 0), (3, 1), (64, 2)], 5, 48, [.lit (.int .i64 0), .lit (.int .i64 0), .lit (.int .i64 0), .lit (.int .i64 0), .lit (.string ⟨#[]⟩)], false⟩),
 (67, ⟨.func, 1, 8, [.lit .nilFunc], false⟩),
 (77, ⟨.struct [(22, 0), (3, 1)], 2, 32, [.arr 1 0 [] false, .lit (.int .i64 0)], false⟩),
 (78, ⟨.struct [(22, 0), (3, 1)], 2, 32, [.arr 1 0 [] false, .lit (.int .i64 0)], false⟩),
 (81, ⟨.struct [(52, 0), (3, 1)], 2, 32, [.arr 2 0 [] false, .lit (.int .i64 0)], false⟩),
 (82, ⟨.struct [(52, 0), (3, 1)], 2, 32, [.arr 2 0 [] false, .lit (.int .i64 0)], false⟩),
 (88, ⟨.struct [(52, 0), (29, 1)], 2, 48, [.arr 2 0 [] false, .arr 1 0 [] false], false⟩),
 (89, ⟨.struct [(52, 0), (29, 1)], 2, 48, [.arr 2 0 [] false, .arr 1 0 [] false], false⟩),
 (91, ⟨.slice 29, 1, 24, [.arr 1 0 [] false], false⟩),
 (97, ⟨.func, 1, 8, [.lit .nilFunc], false⟩),
 (98, ⟨.struct [(3, 0), (4, 1)], 2, 16, [.lit (.int .i64 0), .lit (.bool false)], false⟩),
 (99, ⟨.struct [(3, 0), (4, 1)], 2, 16, [.lit (.int .i64 0), .lit (.bool false)], false⟩),
 (103, ⟨.ptr 89, 1, 8, [.lit (.pointer none)], false⟩),
 (108, ⟨.func, 1, 8, [.lit .nilFunc], false⟩),
 (118, ⟨.func, 1, 8, [.lit .nilFunc], false⟩),
 (121, ⟨.slice 9, 1, 24, [.arr 1 0 [] false], false⟩),
 (124, ⟨.func, 1, 8, [.lit .nilFunc], false⟩)]
def τ : Tau := tabOf tab
theorem τ_ok : TOK Tryz.prog τ := tabOf_ok tab ⟨tab_ok2, ⟨tab_ok3, ⟨tab_ok4, ⟨tab_ok5, ⟨tab_ok7, ⟨tab_ok9, ⟨tab_ok15, ⟨tab_ok16, ⟨tab_ok17, ⟨tab_ok22, ⟨tab_ok23, ⟨tab_ok24, ⟨tab_ok25, ⟨tab_ok29, ⟨tab_ok32, ⟨tab_ok35, ⟨tab_ok36, ⟨tab_ok37, ⟨tab_ok41, ⟨tab_ok42, ⟨tab_ok43, ⟨tab_ok48, ⟨tab_ok52, ⟨tab_ok55, ⟨tab_ok58, ⟨tab_ok63, ⟨tab_ok64, ⟨tab_ok65, ⟨tab_ok66, ⟨tab_ok67, ⟨tab_ok77, ⟨tab_ok78, ⟨tab_ok81, ⟨tab_ok82, ⟨tab_ok88, ⟨tab_ok89, ⟨tab_ok91, ⟨tab_ok97, ⟨tab_ok98, ⟨tab_ok99, ⟨tab_ok103, ⟨tab_ok108, ⟨tab_ok118, ⟨tab_ok121, ⟨tab_ok124, trivial⟩⟩⟩⟩⟩⟩⟩⟩⟩⟩⟩⟩⟩⟩⟩⟩⟩⟩⟩⟩⟩⟩⟩⟩⟩⟩⟩⟩⟩⟩⟩⟩⟩⟩⟩⟩⟩⟩⟩⟩⟩⟩⟩⟩⟩
theorem zi_ok37 : ZIok Tryz.prog 37 [.lit (.int .i64 0), .lit (.int .i64 0), .lit (.int .i64 0), .lit (.int .i64 0), .arr 5 0 [] true, .arr 1 0 [] true] := ziok Tryz.type37 rfl (fun w M => FrL.cons' (Fr.lit' w M _) (FrL.cons' (Fr.lit' w M _) (FrL.cons' (Fr.lit' w M _) (FrL.cons' (Fr.lit' w M _) (FrL.cons' (Fr.nilF w M _ (by decide)) (FrL.cons' (Fr.nilF w M _ (by decide)) (FrL.nil' w M)))))))
theorem zi_ok82 : ZIok Tryz.prog 82 [.arr 2 0 [] true, .lit (.int .i64 0)] := ziok Tryz.type82 rfl (fun w M => FrL.cons' (Fr.nilF w M _ (by decide)) (FrL.cons' (Fr.lit' w M _) (FrL.nil' w M)))
theorem v {Γ : Ctx} {ops : Array Oper} {Q : Exit → St → Prop} {j : Nat} {st : St} (n : Nat) (nt : Nat) (T : List (Nat × V)) (H : Hp) (hk : opsP Tryz.prog Γ ops Q (j + n) ⟨nt, T, H⟩) (h : (evS τ [] ops n j st).map (fun s => s.keep (T.map (·.1))) = some ⟨nt, T, H⟩ := by kernel_rfl) : opsP Tryz.prog Γ ops Q j st := opsP_evk' (st' := ⟨nt, T, H⟩) τ_ok [] n (T.map (·.1)) h hk
theorem vM {Γ : Ctx} {ops : Array Oper} {Q : Exit → St → Prop} {j : Nat} {st : St} (mu : List Nat) (n : Nat) (nt : Nat) (T : List (Nat × V)) (H : Hp) (hk : opsP Tryz.prog Γ ops Q (j + n) ⟨nt, T, H⟩) (h : (evS τ mu ops n j st).map (fun s => s.keep (T.map (·.1))) = some ⟨nt, T, H⟩ := by kernel_rfl) : opsP Tryz.prog Γ ops Q j st := opsP_evk' (st' := ⟨nt, T, H⟩) τ_ok mu n (T.map (·.1)) h hk
theorem ve {Γ : Ctx} {ops : Array Oper} {Q : Exit → St → Prop} {j : Nat} {st : St} (n : Nat) (nt : Nat) (T : List (Nat × V)) (H : Hp) (hk : Q .normal ⟨nt, T, H⟩) (h : (evS τ [] ops n j st).map (fun s => s.keep (T.map (·.1))) = some ⟨nt, T, H⟩ := by kernel_rfl) (he : ops.size = j + n := by rfl) : opsP Tryz.prog Γ ops Q j st := opsP_evk' (st' := ⟨nt, T, H⟩) τ_ok [] n (T.map (·.1)) h (opsP_end he hk)
theorem veM {Γ : Ctx} {ops : Array Oper} {Q : Exit → St → Prop} {j : Nat} {st : St} (mu : List Nat) (n : Nat) (nt : Nat) (T : List (Nat × V)) (H : Hp) (hk : Q .normal ⟨nt, T, H⟩) (h : (evS τ mu ops n j st).map (fun s => s.keep (T.map (·.1))) = some ⟨nt, T, H⟩ := by kernel_rfl) (he : ops.size = j + n := by rfl) : opsP Tryz.prog Γ ops Q j st := opsP_evk' (st' := ⟨nt, T, H⟩) τ_ok mu n (T.map (·.1)) h (opsP_end he hk)
theorem rv {Γ : Ctx} {ops : Array Oper} {Q : Exit → St → Prop} {id : Nat} {st : St} (n : Nat) (nt : Nat) (T : List (Nat × V)) (H : Hp) (hk : opsP Tryz.prog Γ ops Q (0 + n) ⟨nt, T, H⟩) (h : (evS τ [] ops n 0 st).map (fun s => s.keep (T.map (·.1))) = some ⟨nt, T, H⟩ := by kernel_rfl) : pwp Tryz.prog Γ (.region id ops false) Q st := Zaq (opsP_evk' (st' := ⟨nt, T, H⟩) τ_ok [] n (T.map (·.1)) h hk)
theorem rvM {Γ : Ctx} {ops : Array Oper} {Q : Exit → St → Prop} {id : Nat} {st : St} (mu : List Nat) (n : Nat) (nt : Nat) (T : List (Nat × V)) (H : Hp) (hk : opsP Tryz.prog Γ ops Q (0 + n) ⟨nt, T, H⟩) (h : (evS τ mu ops n 0 st).map (fun s => s.keep (T.map (·.1))) = some ⟨nt, T, H⟩ := by kernel_rfl) : pwp Tryz.prog Γ (.region id ops false) Q st := Zaq (opsP_evk' (st' := ⟨nt, T, H⟩) τ_ok mu n (T.map (·.1)) h hk)
theorem rve {Γ : Ctx} {ops : Array Oper} {Q : Exit → St → Prop} {id : Nat} {st : St} (nt : Nat) (T : List (Nat × V)) (H : Hp) (hk : Q .normal ⟨nt, T, H⟩) (h : (evS τ [] ops ops.size 0 st).map (fun s => s.keep (T.map (·.1))) = some ⟨nt, T, H⟩ := by kernel_rfl) : pwp Tryz.prog Γ (.region id ops false) Q st := Zaq (opsP_evk' (st' := ⟨nt, T, H⟩) τ_ok [] ops.size (T.map (·.1)) h (opsP_end (Nat.zero_add _).symm hk))
theorem rveM {Γ : Ctx} {ops : Array Oper} {Q : Exit → St → Prop} {id : Nat} {st : St} (mu : List Nat) (nt : Nat) (T : List (Nat × V)) (H : Hp) (hk : Q .normal ⟨nt, T, H⟩) (h : (evS τ mu ops ops.size 0 st).map (fun s => s.keep (T.map (·.1))) = some ⟨nt, T, H⟩ := by kernel_rfl) : pwp Tryz.prog Γ (.region id ops false) Q st := Zaq (opsP_evk' (st' := ⟨nt, T, H⟩) τ_ok mu ops.size (T.map (·.1)) h (opsP_end (Nat.zero_add _).symm hk))
theorem srv {Γ : Ctx} {ops : Array Oper} {Q : Exit → St → Prop} {id : Nat} {y : Code} {st : St} (n : Nat) (nt : Nat) (T : List (Nat × V)) (H : Hp) (hk : opsP Tryz.prog Γ ops (Dthen (fun st' => pwp Tryz.prog Γ y Q st') Q) (0 + n) ⟨nt, T, H⟩) (h : (evS τ [] ops n 0 st).map (fun s => s.keep (T.map (·.1))) = some ⟨nt, T, H⟩ := by kernel_rfl) : pwp Tryz.prog Γ (.seq (.region id ops false) y) Q st := Zi (Zaq (opsP_evk' (st' := ⟨nt, T, H⟩) τ_ok [] n (T.map (·.1)) h hk))
theorem srvM {Γ : Ctx} {ops : Array Oper} {Q : Exit → St → Prop} {id : Nat} {y : Code} {st : St} (mu : List Nat) (n : Nat) (nt : Nat) (T : List (Nat × V)) (H : Hp) (hk : opsP Tryz.prog Γ ops (Dthen (fun st' => pwp Tryz.prog Γ y Q st') Q) (0 + n) ⟨nt, T, H⟩) (h : (evS τ mu ops n 0 st).map (fun s => s.keep (T.map (·.1))) = some ⟨nt, T, H⟩ := by kernel_rfl) : pwp Tryz.prog Γ (.seq (.region id ops false) y) Q st := Zi (Zaq (opsP_evk' (st' := ⟨nt, T, H⟩) τ_ok mu n (T.map (·.1)) h hk))
theorem srve {Γ : Ctx} {ops : Array Oper} {Q : Exit → St → Prop} {id : Nat} {y : Code} {st : St} (nt : Nat) (T : List (Nat × V)) (H : Hp) (hk : pwp Tryz.prog Γ y Q ⟨nt, T, H⟩) (h : (evS τ [] ops ops.size 0 st).map (fun s => s.keep (T.map (·.1))) = some ⟨nt, T, H⟩ := by kernel_rfl) : pwp Tryz.prog Γ (.seq (.region id ops false) y) Q st := Zi (Zaq (opsP_evk' (st' := ⟨nt, T, H⟩) τ_ok [] ops.size (T.map (·.1)) h (opsP_end (Nat.zero_add _).symm hk)))
theorem srveM {Γ : Ctx} {ops : Array Oper} {Q : Exit → St → Prop} {id : Nat} {y : Code} {st : St} (mu : List Nat) (nt : Nat) (T : List (Nat × V)) (H : Hp) (hk : pwp Tryz.prog Γ y Q ⟨nt, T, H⟩) (h : (evS τ mu ops ops.size 0 st).map (fun s => s.keep (T.map (·.1))) = some ⟨nt, T, H⟩ := by kernel_rfl) : pwp Tryz.prog Γ (.seq (.region id ops false) y) Q st := Zi (Zaq (opsP_evk' (st' := ⟨nt, T, H⟩) τ_ok mu ops.size (T.map (·.1)) h (opsP_end (Nat.zero_add _).symm hk)))
theorem pc {α : Type} {Γ : Ctx} {Q : Exit → St → Prop} {st : St} {o : Operand} {c d : Code} {e : Bool} {a b : Option α} {x : Option α} (h : (bif e then a else b) = x) (ht : a = x → pwp Tryz.prog Γ c Q st) (hf : b = x → pwp Tryz.prog Γ d Q st) (hc : evalV st o = some (.lit (.bool e)) := by kernel_rfl) : pwp Tryz.prog Γ (.cond o c d) Q st := pwp_cond e hc (fun q => ht (bifT q h)) (fun q => hf (bifF q h))
theorem rz {fn : Func} {out : V} {st : St} (hx : resV τ st fn.results.toList = some out := by kernel_rfl) (hz : frz out = true := by kernel_rfl) : Qret τ fn out .ret st := ⟨.inr rfl, out, [], hx, OutP.frz hz, List.nodup_nil⟩
theorem rt {fn : Func} {out : V} {st : St} (x : V) {ks : List Nat} (ho : OutP st.H x out ks) (hx : resV τ st fn.results.toList = some x := by kernel_rfl) (hn : ks.Nodup := by decide) : Qret τ fn out .ret st := ⟨.inr rfl, x, ks, hx, ho, hn⟩
theorem si {α : Type} {a b : α} (h : some a = some b) : a = b := Option.some.inj h
theorem fk (b : Bool) : b = true ∨ b = false := Bool.eq_false_or_eq_true b
theorem bT {α : Type} {c : Bool} {a b x : α} (hc : c = true) (h : (bif c then a else b) = x) : a = x := bifT hc h
theorem bF {α : Type} {c : Bool} {a b x : α} (hc : c = false) (h : (bif c then a else b) = x) : b = x := bifF hc h
theorem qv {Γ : Ctx} {ops : Array Oper} {vis mod : List (List Nat)} {Q : Exit → St → Prop} {q N j : Nat} {st : St} (ks : List Nat) (hp : hpIn ks (maskH ks 0 st.H)) (n nt : Nat) (T : List (Nat × V)) (H : Hp) (hk : qA Tryz.prog Γ ops vis mod (fun st' => opsP Tryz.prog Γ ops Q q st') (N - n) (j + n) ⟨nt, T, H⟩) (h : evO τ [] ops vis mod ks (N - n) n j st T = some ⟨nt, T, H⟩ := by kernel_rfl) (hN : N - n + n = N := by rfl) : qA Tryz.prog Γ ops vis mod (fun st' => opsP Tryz.prog Γ ops Q q st') N j st := hN ▸ qA_evO τ_ok [] ks n T hp h hk
theorem qvn {Γ : Ctx} {ops : Array Oper} {vis mod : List (List Nat)} {Q : Exit → St → Prop} {N j : Nat} {st : St} (ks : List Nat) (hp : hpIn ks (maskH ks 0 st.H)) (n nt : Nat) (T : List (Nat × V)) (H : Hp) (hk : Q .normal ⟨nt, T, H⟩) (h : (evA τ [] ops vis mod ks n j st).map (fun s => s.keep (T.map (·.1))) = some ⟨nt, T, H⟩ := by kernel_rfl) (hN : N = n := by rfl) : qA Tryz.prog Γ ops vis mod (fun st' => opsP Tryz.prog Γ ops Q ops.size st') N j st := hN ▸ qA_evN τ_ok [] ks n T hp h hk
theorem qvM {Γ : Ctx} {ops : Array Oper} {vis mod : List (List Nat)} {Q : Exit → St → Prop} {q N j : Nat} {st : St} (mu : List Nat) (ks : List Nat) (hp : hpIn ks (maskH ks 0 st.H)) (n nt : Nat) (T : List (Nat × V)) (H : Hp) (hk : qA Tryz.prog Γ ops vis mod (fun st' => opsP Tryz.prog Γ ops Q q st') (N - n) (j + n) ⟨nt, T, H⟩) (h : evO τ mu ops vis mod ks (N - n) n j st T = some ⟨nt, T, H⟩ := by kernel_rfl) (hN : N - n + n = N := by rfl) : qA Tryz.prog Γ ops vis mod (fun st' => opsP Tryz.prog Γ ops Q q st') N j st := hN ▸ qA_evO τ_ok mu ks n T hp h hk
theorem qvnM {Γ : Ctx} {ops : Array Oper} {vis mod : List (List Nat)} {Q : Exit → St → Prop} {N j : Nat} {st : St} (mu : List Nat) (ks : List Nat) (hp : hpIn ks (maskH ks 0 st.H)) (n nt : Nat) (T : List (Nat × V)) (H : Hp) (hk : Q .normal ⟨nt, T, H⟩) (h : (evA τ mu ops vis mod ks n j st).map (fun s => s.keep (T.map (·.1))) = some ⟨nt, T, H⟩ := by kernel_rfl) (hN : N = n := by rfl) : qA Tryz.prog Γ ops vis mod (fun st' => opsP Tryz.prog Γ ops Q ops.size st') N j st := hN ▸ qA_evN τ_ok mu ks n T hp h hk
theorem qX {Γ : Ctx} {ops : Array Oper} {vis mod : List (List Nat)} {Q : Exit → St → Prop} {q n j : Nat} {st : St} {Hm' : Hp} (dd : Option Nat) (x : V) (nt : Nat) (T : List (Nat × V)) (H : Hp) (h : ∀ Γ' : Ctx, (∀ i b, Γ'.L i b → Γ.L i b) → CoreE Tryz.prog Γ' ops j (stA ops vis j st) dd Hm' x) (hp : hpIn (lk vis j) Hm') (hk : qA Tryz.prog Γ ops vis mod (fun st' => opsP Tryz.prog Γ ops Q q st') n (j + 1) ⟨nt, T, H⟩) (hl : Nat.beq Hm'.length st.H.length = true := by kernel_rfl) (hm : fillH (lk mod j) 0 (maskH (lk vis j) 0 st.H) Hm' = Hm' := by kernel_rfl) (hx : dd = none ∨ okA (lk vis j) x = true ∨ frz x = true := by first | exact .inl rfl | exact .inr (.inl rfl) | exact .inr (.inr rfl)) (he : offE ops n (j + 1) T ((st.inH (fillH (lk mod j) 0 st.H Hm')).put dd x) = some ⟨nt, T, H⟩ := by kernel_rfl) : qA Tryz.prog Γ ops vis mod (fun st' => opsP Tryz.prog Γ ops Q q st') (n + 1) j st := qA_EO T h hp hk hl hm hx he
theorem qn {Γ : Ctx} {ops : Array Oper} {vis mod : List (List Nat)} {Q : Exit → St → Prop} {j : Nat} {st : St} (nt : Nat) (T : List (Nat × V)) (H : Hp) (hk : Q .normal ⟨nt, T, H⟩) (h : st.keep (T.map (·.1)) = ⟨nt, T, H⟩ := by kernel_rfl) : qA Tryz.prog Γ ops vis mod (fun st' => opsP Tryz.prog Γ ops Q ops.size st') 0 j st := qA_end (opsP_imp (Imp.to _ h) (opsP_end rfl hk))
theorem pN {Γ : Ctx} {ops : Array Oper} {Q : Exit → St → Prop} {st : St} {id : Nat} (n : Nat) (h : qA Tryz.prog Γ ops (List.replicate n []) (List.replicate n []) (fun st' => opsP Tryz.prog Γ ops Q ops.size st') ops.size 0 st) (hB : anyB ops (List.replicate n []) (List.replicate n []) = true := by kernel_rfl) : pwp Tryz.prog Γ (.region id ops true) Q st := pwp_any _ _ rfl hB h
theorem qt {Γ : Ctx} {a b c : St} (h : Imp Γ a b) (k : Imp Γ b c) : Imp Γ a c := h.trans k
theorem it {Γ : Ctx} {st st' : St} (ks : List Nat) (h : st.keep ks = st' := by kernel_rfl) : Imp Γ st st' := Imp.to ks h
theorem ip {Γ : Ctx} {c : Code} {Q : Exit → St → Prop} {st : St} (nt : Nat) (T : List (Nat × V)) (H : Hp) (hk : pwp Tryz.prog Γ c Q ⟨nt, T, H⟩) (h : st.keep (T.map (·.1)) = ⟨nt, T, H⟩ := by kernel_rfl) : pwp Tryz.prog Γ c Q st := Za8 (Imp.to _ h) hk
theorem cF {Γ : Ctx} {ops : Array Oper} {j : Nat} {Q : Exit → St → Prop} {st : St} {g : FuncId} {xs : List V} {out x : V} (d : Nat) (hok : OK Tryz.prog g xs out) (hk : opsP Tryz.prog Γ ops Q (j + 1) (st.set d x)) (hf : FzTo out x := by exact FzTo.frz rfl) (hz : frzL xs = true := by rfl) (h : callV τ ops j st = some (d, g, xs) := by kernel_rfl) : opsP Tryz.prog Γ ops Q j st := opsP_callF τ d hok hf hz h hk
theorem cB {Γ : Ctx} {ops : Array Oper} {j : Nat} {Q : Exit → St → Prop} {st : St} {g : FuncId} {cs xs : List V} {out x : V} {cs' : List V} (d k ver : Nat) (hok : OKb Tryz.prog g cs xs out cs') (hk : opsP Tryz.prog Γ ops Q (j + 1) ({ st with H := setH st.H k (some ⟨ver, cs'⟩) }.set d x)) (hf : FzTo out x := by exact FzTo.frz rfl) (hz : frzL xs = true := by rfl) (h : calV τ ops j st = some ⟨d, g, k, ver, cs, xs⟩ := by kernel_rfl) : opsP Tryz.prog Γ ops Q j st := opsP_callB τ d k ver hok hf hz h hk
theorem cFo {Γ : Ctx} {ops : Array Oper} {j : Nat} {Q : Exit → St → Prop} {st : St} {g : FuncId} {xs : List V} {out x : V} (d : Nat) (hok : OK Tryz.prog g xs out) (hk : opsP Tryz.prog Γ ops Q (j + 1) (st.set d x)) (hf : FzTo out x := by exact FzTo.O _) (hz : frzL xs = true := by rfl) (h : callV τ ops j st = some (d, g, xs) := by kernel_rfl) : opsP Tryz.prog Γ ops Q j st := opsP_callF τ d hok hf hz h hk
theorem cBo {Γ : Ctx} {ops : Array Oper} {j : Nat} {Q : Exit → St → Prop} {st : St} {g : FuncId} {cs xs : List V} {out x : V} {cs' : List V} (d k ver : Nat) (hok : OKb Tryz.prog g cs xs out cs') (hk : opsP Tryz.prog Γ ops Q (j + 1) ({ st with H := setH st.H k (some ⟨ver, cs'⟩) }.set d x)) (hf : FzTo out x := by exact FzTo.O _) (hz : frzL xs = true := by rfl) (h : calV τ ops j st = some ⟨d, g, k, ver, cs, xs⟩ := by kernel_rfl) : opsP Tryz.prog Γ ops Q j st := opsP_callB τ d k ver hok hf hz h hk
theorem ow {f : FuncId} {fn : Func} {c : Code} {ins : List V} {out : V} (hf : Tryz.prog.funcs[f]? = some fn) (h : ∀ Γ, (∀ i b, ¬ Γ.L i b) → pwp Tryz.prog Γ c (Qret τ fn out) ⟨fn.ntmps, numbered 0 ins, []⟩) (hb : fn.body = some c := by exact rfl) (hnm : (fn.name == "runtime.NumGoroutine") = false := by kernel_rfl) (hn : Nat.ble ins.length fn.ntmps = true := by rfl) : OK Tryz.prog f ins out := OK_of_pwp τ_ok hf hb hnm hn h
end Go.D
