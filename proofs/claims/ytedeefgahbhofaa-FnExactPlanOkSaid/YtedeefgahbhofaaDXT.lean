import Derived.Test.YtedeefgahbhofaaDShow
import Derived.Test.YtedeefgahbhofaaProg
import Derived.KernelRfl
set_option linter.unusedVariables false
set_option linter.unusedSimpArgs false
namespace Go.D
open Go.Proofs
structure T_impl_Column where
  fKind : Int
  fEmpty : Bool
instance : Enc T_impl_Column := ⟨2, fun x => [I x.fKind, B x.fEmpty], true, fun _ => rfl, by decide, fun _ => rfl, fun _ => rfl⟩
structure T_impl_Value where
  fKind : Int
  fN : Int
  fS : ByteArray
instance : Enc T_impl_Value := ⟨3, fun x => [I x.fKind, I x.fN, S x.fS], true, fun _ => rfl, by decide, fun _ => rfl, fun _ => rfl⟩
structure T_impl_Table where
  fColumns : List T_impl_Column
  fRows : List (List T_impl_Value)
instance : Enc T_impl_Table := ⟨2, fun x => [A x.fColumns, A x.fRows], true, fun _ => rfl, by decide, fun _ => rfl, fun _ => rfl⟩
structure T_impl_Part where
  fKind : Int
  fN : Int
  fV : T_impl_Value
instance : Enc T_impl_Part := ⟨5, fun x => [I x.fKind, I x.fN, I x.fV.fKind, I x.fV.fN, S x.fV.fS], true, fun _ => rfl, by decide, fun _ => rfl, fun _ => rfl⟩
structure T_impl_Step where
  fKind : Int
  fA : Int
  fB : Int
  fN : Int
  fE : List T_impl_Part
  fList : List Int
instance : Enc T_impl_Step := ⟨6, fun x => [I x.fKind, I x.fA, I x.fB, I x.fN, A x.fE, A x.fList], true, fun _ => rfl, by decide, fun _ => rfl, fun _ => rfl⟩
structure T_impl_Answer where
  fPlan : List T_impl_Step
  fRows : List (List T_impl_Value)
  fMarks : List Int
instance : Enc T_impl_Answer := ⟨3, fun x => [A x.fPlan, A x.fRows, A x.fMarks], true, fun _ => rfl, by decide, fun _ => rfl, fun _ => rfl⟩
structure T_impl_Shelf where
  fTables : List T_impl_Table
  fMarks : List Int
  fKept : List T_impl_Answer
structure T_laws_Column where
  fKind : Int
  fEmpty : Bool
instance : Enc T_laws_Column := ⟨2, fun x => [I x.fKind, B x.fEmpty], true, fun _ => rfl, by decide, fun _ => rfl, fun _ => rfl⟩
structure T_laws_Value where
  fKind : Int
  fN : Int
  fS : ByteArray
instance : Enc T_laws_Value := ⟨3, fun x => [I x.fKind, I x.fN, S x.fS], true, fun _ => rfl, by decide, fun _ => rfl, fun _ => rfl⟩
structure T_laws_Table where
  fColumns : List T_laws_Column
  fRows : List (List T_laws_Value)
instance : Enc T_laws_Table := ⟨2, fun x => [A x.fColumns, A x.fRows], true, fun _ => rfl, by decide, fun _ => rfl, fun _ => rfl⟩
structure T_laws_Part where
  fKind : Int
  fN : Int
  fV : T_laws_Value
instance : Enc T_laws_Part := ⟨5, fun x => [I x.fKind, I x.fN, I x.fV.fKind, I x.fV.fN, S x.fV.fS], true, fun _ => rfl, by decide, fun _ => rfl, fun _ => rfl⟩
structure T_laws_Step where
  fKind : Int
  fA : Int
  fB : Int
  fN : Int
  fE : List T_laws_Part
  fList : List Int
instance : Enc T_laws_Step := ⟨6, fun x => [I x.fKind, I x.fA, I x.fB, I x.fN, A x.fE, A x.fList], true, fun _ => rfl, by decide, fun _ => rfl, fun _ => rfl⟩
structure T_impl_made where
  fColumns : List T_impl_Column
  fMost : Int
instance : Enc T_impl_made := ⟨2, fun x => [A x.fColumns, I x.fMost], true, fun _ => rfl, by decide, fun _ => rfl, fun _ => rfl⟩
def eq_T_impl_Value (x y : T_impl_Value) : Bool := andB [x.fKind == y.fKind, x.fN == y.fN, x.fS.toList == y.fS.toList]
theorem tab_ok1 : TIok Try.prog 1 ⟨.func, 1, 8, [.lit .nilFunc], false⟩ := tiok Try.type1 Try.underlying1 rfl rfl rfl (fun w M => FrL.cons' (Fr.lit' w M _) (FrL.nil' w M)) (fun fs h => by cases h) (⟨_, _, _, rfl⟩) (fun h => by cases h)
theorem tab_ok2 : TIok Try.prog 2 ⟨.int .i64, 1, 8, [.lit (.int .i64 0)], false⟩ := tiok Try.type2 Try.underlying2 rfl rfl rfl (fun w M => FrL.cons' (Fr.lit' w M _) (FrL.nil' w M)) (fun fs h => by cases h) (rfl) (fun h => by cases h)
theorem tab_ok3 : TIok Try.prog 3 ⟨.int .i64, 1, 8, [.lit (.int .i64 0)], false⟩ := tiok Try.type3 Try.underlying3 rfl rfl rfl (fun w M => FrL.cons' (Fr.lit' w M _) (FrL.nil' w M)) (fun fs h => by cases h) (rfl) (fun h => by cases h)
theorem tab_ok4 : TIok Try.prog 4 ⟨.bool, 1, 1, [.lit (.bool false)], false⟩ := tiok Try.type4 Try.underlying4 rfl rfl rfl (fun w M => FrL.cons' (Fr.lit' w M _) (FrL.nil' w M)) (fun fs h => by cases h) (rfl) (fun h => by cases h)
theorem tab_ok5 : TIok Try.prog 5 ⟨.int .u8, 1, 1, [.lit (.int .u8 0)], false⟩ := tiok Try.type5 Try.underlying5 rfl rfl rfl (fun w M => FrL.cons' (Fr.lit' w M _) (FrL.nil' w M)) (fun fs h => by cases h) (rfl) (fun h => by cases h)
theorem tab_ok7 : TIok Try.prog 7 ⟨.struct [(2, 0), (3, 1), (4, 2), (6, 3)], 4, 24, [.lit (.int .i64 0), .lit (.int .i64 0), .lit (.bool false), .lit (.int .u8 0)], false⟩ := tiok Try.type7 Try.underlying7 rfl rfl rfl (fun w M => FrL.cons' (Fr.lit' w M _) (FrL.cons' (Fr.lit' w M _) (FrL.cons' (Fr.lit' w M _) (FrL.cons' (Fr.lit' w M _) (FrL.nil' w M))))) (fun fs h => ⟨_, rfl⟩) (⟨_, rfl, rfl⟩) (fun h => by cases h)
theorem tab_ok9 : TIok Try.prog 9 ⟨.str, 1, 16, [.lit (.string ⟨#[]⟩)], false⟩ := tiok Try.type9 Try.underlying9 rfl rfl rfl (fun w M => FrL.cons' (Fr.lit' w M _) (FrL.nil' w M)) (fun fs h => by cases h) (rfl) (fun h => by cases h)
theorem tab_ok15 : TIok Try.prog 15 ⟨.ptr 162, 1, 8, [.lit (.pointer none)], false⟩ := tiok Try.type15 Try.underlying15 rfl rfl rfl (fun w M => FrL.cons' (Fr.lit' w M _) (FrL.nil' w M)) (fun fs h => by cases h) (rfl) (fun h => by cases h)
theorem tab_ok16 : TIok Try.prog 16 ⟨.ptr 165, 1, 8, [.lit (.pointer none)], false⟩ := tiok Try.type16 Try.underlying16 rfl rfl rfl (fun w M => FrL.cons' (Fr.lit' w M _) (FrL.nil' w M)) (fun fs h => by cases h) (rfl) (fun h => by cases h)
theorem tab_ok17 : TIok Try.prog 17 ⟨.ptr 174, 1, 8, [.lit (.pointer none)], false⟩ := tiok Try.type17 Try.underlying17 rfl rfl rfl (fun w M => FrL.cons' (Fr.lit' w M _) (FrL.nil' w M)) (fun fs h => by cases h) (rfl) (fun h => by cases h)
theorem tab_ok22 : TIok Try.prog 22 ⟨.slice 52, 1, 24, [.arr 2 0 [] false], false⟩ := tiok Try.type22 Try.underlying22 rfl rfl rfl (fun w M => FrL.cons' (Fr.nil w M _ (by decide)) (FrL.nil' w M)) (fun fs h => by cases h) (rfl) (fun h => by cases h)
theorem tab_ok23 : TIok Try.prog 23 ⟨.slice 56, 1, 24, [.arr 6 0 [] false], false⟩ := tiok Try.type23 Try.underlying23 rfl rfl rfl (fun w M => FrL.cons' (Fr.nil w M _ (by decide)) (FrL.nil' w M)) (fun fs h => by cases h) (rfl) (fun h => by cases h)
theorem tab_ok24 : TIok Try.prog 24 ⟨.func, 1, 8, [.lit .nilFunc], false⟩ := tiok Try.type24 Try.underlying24 rfl rfl rfl (fun w M => FrL.cons' (Fr.lit' w M _) (FrL.nil' w M)) (fun fs h => by cases h) (⟨_, _, _, rfl⟩) (fun h => by cases h)
theorem tab_ok25 : TIok Try.prog 25 ⟨.func, 1, 8, [.lit .nilFunc], false⟩ := tiok Try.type25 Try.underlying25 rfl rfl rfl (fun w M => FrL.cons' (Fr.lit' w M _) (FrL.nil' w M)) (fun fs h => by cases h) (⟨_, _, _, rfl⟩) (fun h => by cases h)
theorem tab_ok26 : TIok Try.prog 26 ⟨.func, 1, 8, [.lit .nilFunc], false⟩ := tiok Try.type26 Try.underlying26 rfl rfl rfl (fun w M => FrL.cons' (Fr.lit' w M _) (FrL.nil' w M)) (fun fs h => by cases h) (⟨_, _, _, rfl⟩) (fun h => by cases h)
theorem tab_ok27 : TIok Try.prog 27 ⟨.slice 64, 1, 24, [.arr 2 0 [] false], false⟩ := tiok Try.type27 Try.underlying27 rfl rfl rfl (fun w M => FrL.cons' (Fr.nil w M _ (by decide)) (FrL.nil' w M)) (fun fs h => by cases h) (rfl) (fun h => by cases h)
theorem tab_ok28 : TIok Try.prog 28 ⟨.func, 1, 8, [.lit .nilFunc], false⟩ := tiok Try.type28 Try.underlying28 rfl rfl rfl (fun w M => FrL.cons' (Fr.lit' w M _) (FrL.nil' w M)) (fun fs h => by cases h) (⟨_, _, _, rfl⟩) (fun h => by cases h)
theorem tab_ok29 : TIok Try.prog 29 ⟨.slice 68, 1, 24, [.arr 6 0 [] false], false⟩ := tiok Try.type29 Try.underlying29 rfl rfl rfl (fun w M => FrL.cons' (Fr.nil w M _ (by decide)) (FrL.nil' w M)) (fun fs h => by cases h) (rfl) (fun h => by cases h)
theorem tab_ok30 : TIok Try.prog 30 ⟨.func, 1, 8, [.lit .nilFunc], false⟩ := tiok Try.type30 Try.underlying30 rfl rfl rfl (fun w M => FrL.cons' (Fr.lit' w M _) (FrL.nil' w M)) (fun fs h => by cases h) (⟨_, _, _, rfl⟩) (fun h => by cases h)
theorem tab_ok31 : TIok Try.prog 31 ⟨.func, 1, 8, [.lit .nilFunc], false⟩ := tiok Try.type31 Try.underlying31 rfl rfl rfl (fun w M => FrL.cons' (Fr.lit' w M _) (FrL.nil' w M)) (fun fs h => by cases h) (⟨_, _, _, rfl⟩) (fun h => by cases h)
theorem tab_ok32 : TIok Try.prog 32 ⟨.func, 1, 8, [.lit .nilFunc], false⟩ := tiok Try.type32 Try.underlying32 rfl rfl rfl (fun w M => FrL.cons' (Fr.lit' w M _) (FrL.nil' w M)) (fun fs h => by cases h) (⟨_, _, _, rfl⟩) (fun h => by cases h)
theorem tab_ok33 : TIok Try.prog 33 ⟨.func, 1, 8, [.lit .nilFunc], false⟩ := tiok Try.type33 Try.underlying33 rfl rfl rfl (fun w M => FrL.cons' (Fr.lit' w M _) (FrL.nil' w M)) (fun fs h => by cases h) (⟨_, _, _, rfl⟩) (fun h => by cases h)
theorem tab_ok34 : TIok Try.prog 34 ⟨.slice 77, 1, 24, [.arr 2 0 [] false], false⟩ := tiok Try.type34 Try.underlying34 rfl rfl rfl (fun w M => FrL.cons' (Fr.nil w M _ (by decide)) (FrL.nil' w M)) (fun fs h => by cases h) (rfl) (fun h => by cases h)
theorem tab_ok35 : TIok Try.prog 35 ⟨.func, 1, 8, [.lit .nilFunc], false⟩ := tiok Try.type35 Try.underlying35 rfl rfl rfl (fun w M => FrL.cons' (Fr.lit' w M _) (FrL.nil' w M)) (fun fs h => by cases h) (⟨_, _, _, rfl⟩) (fun h => by cases h)
theorem tab_ok36 : TIok Try.prog 36 ⟨.func, 1, 8, [.lit .nilFunc], false⟩ := tiok Try.type36 Try.underlying36 rfl rfl rfl (fun w M => FrL.cons' (Fr.lit' w M _) (FrL.nil' w M)) (fun fs h => by cases h) (⟨_, _, _, rfl⟩) (fun h => by cases h)
theorem tab_ok37 : TIok Try.prog 37 ⟨.func, 1, 8, [.lit .nilFunc], false⟩ := tiok Try.type37 Try.underlying37 rfl rfl rfl (fun w M => FrL.cons' (Fr.lit' w M _) (FrL.nil' w M)) (fun fs h => by cases h) (⟨_, _, _, rfl⟩) (fun h => by cases h)
theorem tab_ok38 : TIok Try.prog 38 ⟨.func, 1, 8, [.lit .nilFunc], false⟩ := tiok Try.type38 Try.underlying38 rfl rfl rfl (fun w M => FrL.cons' (Fr.lit' w M _) (FrL.nil' w M)) (fun fs h => by cases h) (⟨_, _, _, rfl⟩) (fun h => by cases h)
theorem tab_ok39 : TIok Try.prog 39 ⟨.func, 1, 8, [.lit .nilFunc], false⟩ := tiok Try.type39 Try.underlying39 rfl rfl rfl (fun w M => FrL.cons' (Fr.lit' w M _) (FrL.nil' w M)) (fun fs h => by cases h) (⟨_, _, _, rfl⟩) (fun h => by cases h)
theorem tab_ok40 : TIok Try.prog 40 ⟨.slice 3, 1, 24, [.arr 1 0 [] false], false⟩ := tiok Try.type40 Try.underlying40 rfl rfl rfl (fun w M => FrL.cons' (Fr.nil w M _ (by decide)) (FrL.nil' w M)) (fun fs h => by cases h) (rfl) (fun h => by cases h)
theorem tab_ok41 : TIok Try.prog 41 ⟨.slice 117, 1, 24, [.arr 3 0 [] false], false⟩ := tiok Try.type41 Try.underlying41 rfl rfl rfl (fun w M => FrL.cons' (Fr.nil w M _ (by decide)) (FrL.nil' w M)) (fun fs h => by cases h) (rfl) (fun h => by cases h)
theorem tab_ok42 : TIok Try.prog 42 ⟨.struct [(27, 0), (40, 1), (41, 2)], 3, 72, [.arr 2 0 [] false, .arr 1 0 [] false, .arr 3 0 [] false], false⟩ := tiok Try.type42 Try.underlying42 rfl rfl rfl (fun w M => FrL.cons' (Fr.nil w M _ (by decide)) (FrL.cons' (Fr.nil w M _ (by decide)) (FrL.cons' (Fr.nil w M _ (by decide)) (FrL.nil' w M)))) (fun fs h => ⟨_, rfl⟩) (⟨_, rfl, rfl⟩) (fun h => by cases h)
theorem tab_ok43 : TIok Try.prog 43 ⟨.struct [(27, 0), (40, 1), (41, 2)], 3, 72, [.arr 2 0 [] false, .arr 1 0 [] false, .arr 3 0 [] false], false⟩ := tiok Try.type43 Try.underlying43 rfl rfl rfl (fun w M => FrL.cons' (Fr.nil w M _ (by decide)) (FrL.cons' (Fr.nil w M _ (by decide)) (FrL.cons' (Fr.nil w M _ (by decide)) (FrL.nil' w M)))) (fun fs h => ⟨_, rfl⟩) (⟨_, rfl, rfl⟩) (fun h => by cases h)
theorem tab_ok44 : TIok Try.prog 44 ⟨.func, 1, 8, [.lit .nilFunc], false⟩ := tiok Try.type44 Try.underlying44 rfl rfl rfl (fun w M => FrL.cons' (Fr.lit' w M _) (FrL.nil' w M)) (fun fs h => by cases h) (⟨_, _, _, rfl⟩) (fun h => by cases h)
theorem tab_ok45 : TIok Try.prog 45 ⟨.func, 1, 8, [.lit .nilFunc], false⟩ := tiok Try.type45 Try.underlying45 rfl rfl rfl (fun w M => FrL.cons' (Fr.lit' w M _) (FrL.nil' w M)) (fun fs h => by cases h) (⟨_, _, _, rfl⟩) (fun h => by cases h)
theorem tab_ok46 : TIok Try.prog 46 ⟨.func, 1, 8, [.lit .nilFunc], false⟩ := tiok Try.type46 Try.underlying46 rfl rfl rfl (fun w M => FrL.cons' (Fr.lit' w M _) (FrL.nil' w M)) (fun fs h => by cases h) (⟨_, _, _, rfl⟩) (fun h => by cases h)
theorem tab_ok47 : TIok Try.prog 47 ⟨.func, 1, 8, [.lit .nilFunc], false⟩ := tiok Try.type47 Try.underlying47 rfl rfl rfl (fun w M => FrL.cons' (Fr.lit' w M _) (FrL.nil' w M)) (fun fs h => by cases h) (⟨_, _, _, rfl⟩) (fun h => by cases h)
theorem tab_ok48 : TIok Try.prog 48 ⟨.func, 1, 8, [.lit .nilFunc], false⟩ := tiok Try.type48 Try.underlying48 rfl rfl rfl (fun w M => FrL.cons' (Fr.lit' w M _) (FrL.nil' w M)) (fun fs h => by cases h) (⟨_, _, _, rfl⟩) (fun h => by cases h)
theorem tab_ok49 : TIok Try.prog 49 ⟨.slice 128, 1, 24, [.arr 2 0 [] false], false⟩ := tiok Try.type49 Try.underlying49 rfl rfl rfl (fun w M => FrL.cons' (Fr.nil w M _ (by decide)) (FrL.nil' w M)) (fun fs h => by cases h) (rfl) (fun h => by cases h)
theorem tab_ok50 : TIok Try.prog 50 ⟨.slice 119, 1, 24, [.arr 1 0 [] false], false⟩ := tiok Try.type50 Try.underlying50 rfl rfl rfl (fun w M => FrL.cons' (Fr.nil w M _ (by decide)) (FrL.nil' w M)) (fun fs h => by cases h) (rfl) (fun h => by cases h)
theorem tab_ok51 : TIok Try.prog 51 ⟨.struct [(49, 0), (50, 1)], 2, 48, [.arr 2 0 [] false, .arr 1 0 [] false], false⟩ := tiok Try.type51 Try.underlying51 rfl rfl rfl (fun w M => FrL.cons' (Fr.nil w M _ (by decide)) (FrL.cons' (Fr.nil w M _ (by decide)) (FrL.nil' w M))) (fun fs h => ⟨_, rfl⟩) (⟨_, rfl, rfl⟩) (fun h => by cases h)
theorem tab_ok52 : TIok Try.prog 52 ⟨.struct [(49, 0), (50, 1)], 2, 48, [.arr 2 0 [] false, .arr 1 0 [] false], false⟩ := tiok Try.type52 Try.underlying52 rfl rfl rfl (fun w M => FrL.cons' (Fr.nil w M _ (by decide)) (FrL.cons' (Fr.nil w M _ (by decide)) (FrL.nil' w M))) (fun fs h => ⟨_, rfl⟩) (⟨_, rfl, rfl⟩) (fun h => by cases h)
theorem tab_ok53 : TIok Try.prog 53 ⟨.func, 1, 8, [.lit .nilFunc], false⟩ := tiok Try.type53 Try.underlying53 rfl rfl rfl (fun w M => FrL.cons' (Fr.lit' w M _) (FrL.nil' w M)) (fun fs h => by cases h) (⟨_, _, _, rfl⟩) (fun h => by cases h)
theorem tab_ok54 : TIok Try.prog 54 ⟨.slice 123, 1, 24, [.arr 5 0 [] false], false⟩ := tiok Try.type54 Try.underlying54 rfl rfl rfl (fun w M => FrL.cons' (Fr.nil w M _ (by decide)) (FrL.nil' w M)) (fun fs h => by cases h) (rfl) (fun h => by cases h)
theorem tab_ok55 : TIok Try.prog 55 ⟨.struct [(3, 0), (3, 1), (3, 2), (3, 3), (54, 4), (40, 5)], 6, 80, [.lit (.int .i64 0), .lit (.int .i64 0), .lit (.int .i64 0), .lit (.int .i64 0), .arr 5 0 [] false, .arr 1 0 [] false], false⟩ := tiok Try.type55 Try.underlying55 rfl rfl rfl (fun w M => FrL.cons' (Fr.lit' w M _) (FrL.cons' (Fr.lit' w M _) (FrL.cons' (Fr.lit' w M _) (FrL.cons' (Fr.lit' w M _) (FrL.cons' (Fr.nil w M _ (by decide)) (FrL.cons' (Fr.nil w M _ (by decide)) (FrL.nil' w M))))))) (fun fs h => ⟨_, rfl⟩) (⟨_, rfl, rfl⟩) (fun h => by cases h)
theorem tab_ok56 : TIok Try.prog 56 ⟨.struct [(3, 0), (3, 1), (3, 2), (3, 3), (54, 4), (40, 5)], 6, 80, [.lit (.int .i64 0), .lit (.int .i64 0), .lit (.int .i64 0), .lit (.int .i64 0), .arr 5 0 [] false, .arr 1 0 [] false], false⟩ := tiok Try.type56 Try.underlying56 rfl rfl rfl (fun w M => FrL.cons' (Fr.lit' w M _) (FrL.cons' (Fr.lit' w M _) (FrL.cons' (Fr.lit' w M _) (FrL.cons' (Fr.lit' w M _) (FrL.cons' (Fr.nil w M _ (by decide)) (FrL.cons' (Fr.nil w M _ (by decide)) (FrL.nil' w M))))))) (fun fs h => ⟨_, rfl⟩) (⟨_, rfl, rfl⟩) (fun h => by cases h)
theorem tab_ok57 : TIok Try.prog 57 ⟨.slice 34, 1, 24, [.arr 1 0 [] false], false⟩ := tiok Try.type57 Try.underlying57 rfl rfl rfl (fun w M => FrL.cons' (Fr.nil w M _ (by decide)) (FrL.nil' w M)) (fun fs h => by cases h) (rfl) (fun h => by cases h)
theorem tab_ok59 : TIok Try.prog 59 ⟨.func, 1, 8, [.lit .nilFunc], false⟩ := tiok Try.type59 Try.underlying59 rfl rfl rfl (fun w M => FrL.cons' (Fr.lit' w M _) (FrL.nil' w M)) (fun fs h => by cases h) (⟨_, _, _, rfl⟩) (fun h => by cases h)
theorem tab_ok60 : TIok Try.prog 60 ⟨.func, 1, 8, [.lit .nilFunc], false⟩ := tiok Try.type60 Try.underlying60 rfl rfl rfl (fun w M => FrL.cons' (Fr.lit' w M _) (FrL.nil' w M)) (fun fs h => by cases h) (⟨_, _, _, rfl⟩) (fun h => by cases h)
theorem tab_ok61 : TIok Try.prog 61 ⟨.func, 1, 8, [.lit .nilFunc], false⟩ := tiok Try.type61 Try.underlying61 rfl rfl rfl (fun w M => FrL.cons' (Fr.lit' w M _) (FrL.nil' w M)) (fun fs h => by cases h) (⟨_, _, _, rfl⟩) (fun h => by cases h)
theorem tab_ok62 : TIok Try.prog 62 ⟨.slice 104, 1, 24, [.arr 1 0 [] false], false⟩ := tiok Try.type62 Try.underlying62 rfl rfl rfl (fun w M => FrL.cons' (Fr.nil w M _ (by decide)) (FrL.nil' w M)) (fun fs h => by cases h) (rfl) (fun h => by cases h)
theorem tab_ok63 : TIok Try.prog 63 ⟨.struct [(34, 0), (62, 1)], 2, 48, [.arr 2 0 [] false, .arr 1 0 [] false], false⟩ := tiok Try.type63 Try.underlying63 rfl rfl rfl (fun w M => FrL.cons' (Fr.nil w M _ (by decide)) (FrL.cons' (Fr.nil w M _ (by decide)) (FrL.nil' w M))) (fun fs h => ⟨_, rfl⟩) (⟨_, rfl, rfl⟩) (fun h => by cases h)
theorem tab_ok64 : TIok Try.prog 64 ⟨.struct [(34, 0), (62, 1)], 2, 48, [.arr 2 0 [] false, .arr 1 0 [] false], false⟩ := tiok Try.type64 Try.underlying64 rfl rfl rfl (fun w M => FrL.cons' (Fr.nil w M _ (by decide)) (FrL.cons' (Fr.nil w M _ (by decide)) (FrL.nil' w M))) (fun fs h => ⟨_, rfl⟩) (⟨_, rfl, rfl⟩) (fun h => by cases h)
theorem tab_ok65 : TIok Try.prog 65 ⟨.func, 1, 8, [.lit .nilFunc], false⟩ := tiok Try.type65 Try.underlying65 rfl rfl rfl (fun w M => FrL.cons' (Fr.lit' w M _) (FrL.nil' w M)) (fun fs h => by cases h) (⟨_, _, _, rfl⟩) (fun h => by cases h)
theorem tab_ok66 : TIok Try.prog 66 ⟨.slice 108, 1, 24, [.arr 5 0 [] false], false⟩ := tiok Try.type66 Try.underlying66 rfl rfl rfl (fun w M => FrL.cons' (Fr.nil w M _ (by decide)) (FrL.nil' w M)) (fun fs h => by cases h) (rfl) (fun h => by cases h)
theorem tab_ok67 : TIok Try.prog 67 ⟨.struct [(3, 0), (3, 1), (3, 2), (3, 3), (66, 4), (40, 5)], 6, 80, [.lit (.int .i64 0), .lit (.int .i64 0), .lit (.int .i64 0), .lit (.int .i64 0), .arr 5 0 [] false, .arr 1 0 [] false], false⟩ := tiok Try.type67 Try.underlying67 rfl rfl rfl (fun w M => FrL.cons' (Fr.lit' w M _) (FrL.cons' (Fr.lit' w M _) (FrL.cons' (Fr.lit' w M _) (FrL.cons' (Fr.lit' w M _) (FrL.cons' (Fr.nil w M _ (by decide)) (FrL.cons' (Fr.nil w M _ (by decide)) (FrL.nil' w M))))))) (fun fs h => ⟨_, rfl⟩) (⟨_, rfl, rfl⟩) (fun h => by cases h)
theorem tab_ok68 : TIok Try.prog 68 ⟨.struct [(3, 0), (3, 1), (3, 2), (3, 3), (66, 4), (40, 5)], 6, 80, [.lit (.int .i64 0), .lit (.int .i64 0), .lit (.int .i64 0), .lit (.int .i64 0), .arr 5 0 [] false, .arr 1 0 [] false], false⟩ := tiok Try.type68 Try.underlying68 rfl rfl rfl (fun w M => FrL.cons' (Fr.lit' w M _) (FrL.cons' (Fr.lit' w M _) (FrL.cons' (Fr.lit' w M _) (FrL.cons' (Fr.lit' w M _) (FrL.cons' (Fr.nil w M _ (by decide)) (FrL.cons' (Fr.nil w M _ (by decide)) (FrL.nil' w M))))))) (fun fs h => ⟨_, rfl⟩) (⟨_, rfl, rfl⟩) (fun h => by cases h)
theorem tab_ok69 : TIok Try.prog 69 ⟨.func, 1, 8, [.lit .nilFunc], false⟩ := tiok Try.type69 Try.underlying69 rfl rfl rfl (fun w M => FrL.cons' (Fr.lit' w M _) (FrL.nil' w M)) (fun fs h => by cases h) (⟨_, _, _, rfl⟩) (fun h => by cases h)
theorem tab_ok70 : TIok Try.prog 70 ⟨.slice 79, 1, 24, [.arr 2 0 [] false], false⟩ := tiok Try.type70 Try.underlying70 rfl rfl rfl (fun w M => FrL.cons' (Fr.nil w M _ (by decide)) (FrL.nil' w M)) (fun fs h => by cases h) (rfl) (fun h => by cases h)
theorem tab_ok72 : TIok Try.prog 72 ⟨.func, 1, 8, [.lit .nilFunc], false⟩ := tiok Try.type72 Try.underlying72 rfl rfl rfl (fun w M => FrL.cons' (Fr.lit' w M _) (FrL.nil' w M)) (fun fs h => by cases h) (⟨_, _, _, rfl⟩) (fun h => by cases h)
theorem tab_ok73 : TIok Try.prog 73 ⟨.func, 1, 8, [.lit .nilFunc], false⟩ := tiok Try.type73 Try.underlying73 rfl rfl rfl (fun w M => FrL.cons' (Fr.lit' w M _) (FrL.nil' w M)) (fun fs h => by cases h) (⟨_, _, _, rfl⟩) (fun h => by cases h)
theorem tab_ok74 : TIok Try.prog 74 ⟨.func, 1, 8, [.lit .nilFunc], false⟩ := tiok Try.type74 Try.underlying74 rfl rfl rfl (fun w M => FrL.cons' (Fr.lit' w M _) (FrL.nil' w M)) (fun fs h => by cases h) (⟨_, _, _, rfl⟩) (fun h => by cases h)
theorem tab_ok75 : TIok Try.prog 75 ⟨.func, 1, 8, [.lit .nilFunc], false⟩ := tiok Try.type75 Try.underlying75 rfl rfl rfl (fun w M => FrL.cons' (Fr.lit' w M _) (FrL.nil' w M)) (fun fs h => by cases h) (⟨_, _, _, rfl⟩) (fun h => by cases h)
theorem tab_ok76 : TIok Try.prog 76 ⟨.struct [(3, 0), (4, 1)], 2, 16, [.lit (.int .i64 0), .lit (.bool false)], false⟩ := tiok Try.type76 Try.underlying76 rfl rfl rfl (fun w M => FrL.cons' (Fr.lit' w M _) (FrL.cons' (Fr.lit' w M _) (FrL.nil' w M))) (fun fs h => ⟨_, rfl⟩) (⟨_, rfl, rfl⟩) (fun h => by cases h)
theorem tab_ok77 : TIok Try.prog 77 ⟨.struct [(3, 0), (4, 1)], 2, 16, [.lit (.int .i64 0), .lit (.bool false)], false⟩ := tiok Try.type77 Try.underlying77 rfl rfl rfl (fun w M => FrL.cons' (Fr.lit' w M _) (FrL.cons' (Fr.lit' w M _) (FrL.nil' w M))) (fun fs h => ⟨_, rfl⟩) (⟨_, rfl, rfl⟩) (fun h => by cases h)
theorem tab_ok78 : TIok Try.prog 78 ⟨.struct [(34, 0), (3, 1)], 2, 32, [.arr 2 0 [] false, .lit (.int .i64 0)], false⟩ := tiok Try.type78 Try.underlying78 rfl rfl rfl (fun w M => FrL.cons' (Fr.nil w M _ (by decide)) (FrL.cons' (Fr.lit' w M _) (FrL.nil' w M))) (fun fs h => ⟨_, rfl⟩) (⟨_, rfl, rfl⟩) (fun h => by cases h)
theorem tab_ok79 : TIok Try.prog 79 ⟨.struct [(34, 0), (3, 1)], 2, 32, [.arr 2 0 [] false, .lit (.int .i64 0)], false⟩ := tiok Try.type79 Try.underlying79 rfl rfl rfl (fun w M => FrL.cons' (Fr.nil w M _ (by decide)) (FrL.cons' (Fr.lit' w M _) (FrL.nil' w M))) (fun fs h => ⟨_, rfl⟩) (⟨_, rfl, rfl⟩) (fun h => by cases h)
theorem tab_ok80 : TIok Try.prog 80 ⟨.func, 1, 8, [.lit .nilFunc], false⟩ := tiok Try.type80 Try.underlying80 rfl rfl rfl (fun w M => FrL.cons' (Fr.lit' w M _) (FrL.nil' w M)) (fun fs h => by cases h) (⟨_, _, _, rfl⟩) (fun h => by cases h)
theorem tab_ok81 : TIok Try.prog 81 ⟨.func, 1, 8, [.lit .nilFunc], false⟩ := tiok Try.type81 Try.underlying81 rfl rfl rfl (fun w M => FrL.cons' (Fr.lit' w M _) (FrL.nil' w M)) (fun fs h => by cases h) (⟨_, _, _, rfl⟩) (fun h => by cases h)
theorem tab_ok82 : TIok Try.prog 82 ⟨.func, 1, 8, [.lit .nilFunc], false⟩ := tiok Try.type82 Try.underlying82 rfl rfl rfl (fun w M => FrL.cons' (Fr.lit' w M _) (FrL.nil' w M)) (fun fs h => by cases h) (⟨_, _, _, rfl⟩) (fun h => by cases h)
theorem tab_ok83 : TIok Try.prog 83 ⟨.func, 1, 8, [.lit .nilFunc], false⟩ := tiok Try.type83 Try.underlying83 rfl rfl rfl (fun w M => FrL.cons' (Fr.lit' w M _) (FrL.nil' w M)) (fun fs h => by cases h) (⟨_, _, _, rfl⟩) (fun h => by cases h)
theorem tab_ok84 : TIok Try.prog 84 ⟨.func, 1, 8, [.lit .nilFunc], false⟩ := tiok Try.type84 Try.underlying84 rfl rfl rfl (fun w M => FrL.cons' (Fr.lit' w M _) (FrL.nil' w M)) (fun fs h => by cases h) (⟨_, _, _, rfl⟩) (fun h => by cases h)
theorem tab_ok85 : TIok Try.prog 85 ⟨.func, 1, 8, [.lit .nilFunc], false⟩ := tiok Try.type85 Try.underlying85 rfl rfl rfl (fun w M => FrL.cons' (Fr.lit' w M _) (FrL.nil' w M)) (fun fs h => by cases h) (⟨_, _, _, rfl⟩) (fun h => by cases h)
theorem tab_ok86 : TIok Try.prog 86 ⟨.func, 1, 8, [.lit .nilFunc], false⟩ := tiok Try.type86 Try.underlying86 rfl rfl rfl (fun w M => FrL.cons' (Fr.lit' w M _) (FrL.nil' w M)) (fun fs h => by cases h) (⟨_, _, _, rfl⟩) (fun h => by cases h)
theorem tab_ok87 : TIok Try.prog 87 ⟨.func, 1, 8, [.lit .nilFunc], false⟩ := tiok Try.type87 Try.underlying87 rfl rfl rfl (fun w M => FrL.cons' (Fr.lit' w M _) (FrL.nil' w M)) (fun fs h => by cases h) (⟨_, _, _, rfl⟩) (fun h => by cases h)
theorem tab_ok88 : TIok Try.prog 88 ⟨.func, 1, 8, [.lit .nilFunc], false⟩ := tiok Try.type88 Try.underlying88 rfl rfl rfl (fun w M => FrL.cons' (Fr.lit' w M _) (FrL.nil' w M)) (fun fs h => by cases h) (⟨_, _, _, rfl⟩) (fun h => by cases h)
theorem tab_ok89 : TIok Try.prog 89 ⟨.func, 1, 8, [.lit .nilFunc], false⟩ := tiok Try.type89 Try.underlying89 rfl rfl rfl (fun w M => FrL.cons' (Fr.lit' w M _) (FrL.nil' w M)) (fun fs h => by cases h) (⟨_, _, _, rfl⟩) (fun h => by cases h)
theorem tab_ok90 : TIok Try.prog 90 ⟨.func, 1, 8, [.lit .nilFunc], false⟩ := tiok Try.type90 Try.underlying90 rfl rfl rfl (fun w M => FrL.cons' (Fr.lit' w M _) (FrL.nil' w M)) (fun fs h => by cases h) (⟨_, _, _, rfl⟩) (fun h => by cases h)
theorem tab_ok92 : TIok Try.prog 92 ⟨.func, 1, 8, [.lit .nilFunc], false⟩ := tiok Try.type92 Try.underlying92 rfl rfl rfl (fun w M => FrL.cons' (Fr.lit' w M _) (FrL.nil' w M)) (fun fs h => by cases h) (⟨_, _, _, rfl⟩) (fun h => by cases h)
theorem tab_ok93 : TIok Try.prog 93 ⟨.func, 1, 8, [.lit .nilFunc], false⟩ := tiok Try.type93 Try.underlying93 rfl rfl rfl (fun w M => FrL.cons' (Fr.lit' w M _) (FrL.nil' w M)) (fun fs h => by cases h) (⟨_, _, _, rfl⟩) (fun h => by cases h)
theorem tab_ok94 : TIok Try.prog 94 ⟨.func, 1, 8, [.lit .nilFunc], false⟩ := tiok Try.type94 Try.underlying94 rfl rfl rfl (fun w M => FrL.cons' (Fr.lit' w M _) (FrL.nil' w M)) (fun fs h => by cases h) (⟨_, _, _, rfl⟩) (fun h => by cases h)
theorem tab_ok95 : TIok Try.prog 95 ⟨.func, 1, 8, [.lit .nilFunc], false⟩ := tiok Try.type95 Try.underlying95 rfl rfl rfl (fun w M => FrL.cons' (Fr.lit' w M _) (FrL.nil' w M)) (fun fs h => by cases h) (⟨_, _, _, rfl⟩) (fun h => by cases h)
theorem tab_ok96 : TIok Try.prog 96 ⟨.func, 1, 8, [.lit .nilFunc], false⟩ := tiok Try.type96 Try.underlying96 rfl rfl rfl (fun w M => FrL.cons' (Fr.lit' w M _) (FrL.nil' w M)) (fun fs h => by cases h) (⟨_, _, _, rfl⟩) (fun h => by cases h)
theorem tab_ok97 : TIok Try.prog 97 ⟨.func, 1, 8, [.lit .nilFunc], false⟩ := tiok Try.type97 Try.underlying97 rfl rfl rfl (fun w M => FrL.cons' (Fr.lit' w M _) (FrL.nil' w M)) (fun fs h => by cases h) (⟨_, _, _, rfl⟩) (fun h => by cases h)
theorem tab_ok98 : TIok Try.prog 98 ⟨.func, 1, 8, [.lit .nilFunc], false⟩ := tiok Try.type98 Try.underlying98 rfl rfl rfl (fun w M => FrL.cons' (Fr.lit' w M _) (FrL.nil' w M)) (fun fs h => by cases h) (⟨_, _, _, rfl⟩) (fun h => by cases h)
theorem tab_ok100 : TIok Try.prog 100 ⟨.func, 1, 8, [.lit .nilFunc], false⟩ := tiok Try.type100 Try.underlying100 rfl rfl rfl (fun w M => FrL.cons' (Fr.lit' w M _) (FrL.nil' w M)) (fun fs h => by cases h) (⟨_, _, _, rfl⟩) (fun h => by cases h)
theorem tab_ok101 : TIok Try.prog 101 ⟨.func, 1, 8, [.lit .nilFunc], false⟩ := tiok Try.type101 Try.underlying101 rfl rfl rfl (fun w M => FrL.cons' (Fr.lit' w M _) (FrL.nil' w M)) (fun fs h => by cases h) (⟨_, _, _, rfl⟩) (fun h => by cases h)
theorem tab_ok102 : TIok Try.prog 102 ⟨.func, 1, 8, [.lit .nilFunc], false⟩ := tiok Try.type102 Try.underlying102 rfl rfl rfl (fun w M => FrL.cons' (Fr.lit' w M _) (FrL.nil' w M)) (fun fs h => by cases h) (⟨_, _, _, rfl⟩) (fun h => by cases h)
theorem tab_ok103 : TIok Try.prog 103 ⟨.func, 1, 8, [.lit .nilFunc], false⟩ := tiok Try.type103 Try.underlying103 rfl rfl rfl (fun w M => FrL.cons' (Fr.lit' w M _) (FrL.nil' w M)) (fun fs h => by cases h) (⟨_, _, _, rfl⟩) (fun h => by cases h)
theorem tab_ok104 : TIok Try.prog 104 ⟨.slice 106, 1, 24, [.arr 3 0 [] false], false⟩ := tiok Try.type104 Try.underlying104 rfl rfl rfl (fun w M => FrL.cons' (Fr.nil w M _ (by decide)) (FrL.nil' w M)) (fun fs h => by cases h) (rfl) (fun h => by cases h)
theorem tab_ok105 : TIok Try.prog 105 ⟨.struct [(3, 0), (3, 1), (9, 2)], 3, 32, [.lit (.int .i64 0), .lit (.int .i64 0), .lit (.string ⟨#[]⟩)], false⟩ := tiok Try.type105 Try.underlying105 rfl rfl rfl (fun w M => FrL.cons' (Fr.lit' w M _) (FrL.cons' (Fr.lit' w M _) (FrL.cons' (Fr.lit' w M _) (FrL.nil' w M)))) (fun fs h => ⟨_, rfl⟩) (⟨_, rfl, rfl⟩) (fun h => by cases h)
theorem tab_ok106 : TIok Try.prog 106 ⟨.struct [(3, 0), (3, 1), (9, 2)], 3, 32, [.lit (.int .i64 0), .lit (.int .i64 0), .lit (.string ⟨#[]⟩)], true⟩ := tiok Try.type106 Try.underlying106 rfl rfl rfl (fun w M => FrL.cons' (Fr.lit' w M _) (FrL.cons' (Fr.lit' w M _) (FrL.cons' (Fr.lit' w M _) (FrL.nil' w M)))) (fun fs h => ⟨_, rfl⟩) (⟨_, rfl, rfl⟩) (fun h => ⟨Try.stoodInHeld106, Try.eqGuardType106, by simp [Program.fieldsOf, Try.underlying106]⟩)
theorem tab_ok107 : TIok Try.prog 107 ⟨.struct [(3, 0), (3, 1), (106, 2)], 5, 48, [.lit (.int .i64 0), .lit (.int .i64 0), .lit (.int .i64 0), .lit (.int .i64 0), .lit (.string ⟨#[]⟩)], false⟩ := tiok Try.type107 Try.underlying107 rfl rfl rfl (fun w M => FrL.cons' (Fr.lit' w M _) (FrL.cons' (Fr.lit' w M _) (FrL.cons' (Fr.lit' w M _) (FrL.cons' (Fr.lit' w M _) (FrL.cons' (Fr.lit' w M _) (FrL.nil' w M)))))) (fun fs h => ⟨_, rfl⟩) (⟨_, rfl, rfl⟩) (fun h => by cases h)
theorem tab_ok108 : TIok Try.prog 108 ⟨.struct [(3, 0), (3, 1), (106, 2)], 5, 48, [.lit (.int .i64 0), .lit (.int .i64 0), .lit (.int .i64 0), .lit (.int .i64 0), .lit (.string ⟨#[]⟩)], false⟩ := tiok Try.type108 Try.underlying108 rfl rfl rfl (fun w M => FrL.cons' (Fr.lit' w M _) (FrL.cons' (Fr.lit' w M _) (FrL.cons' (Fr.lit' w M _) (FrL.cons' (Fr.lit' w M _) (FrL.cons' (Fr.lit' w M _) (FrL.nil' w M)))))) (fun fs h => ⟨_, rfl⟩) (⟨_, rfl, rfl⟩) (fun h => by cases h)
theorem tab_ok109 : TIok Try.prog 109 ⟨.func, 1, 8, [.lit .nilFunc], false⟩ := tiok Try.type109 Try.underlying109 rfl rfl rfl (fun w M => FrL.cons' (Fr.lit' w M _) (FrL.nil' w M)) (fun fs h => by cases h) (⟨_, _, _, rfl⟩) (fun h => by cases h)
theorem tab_ok110 : TIok Try.prog 110 ⟨.func, 1, 8, [.lit .nilFunc], false⟩ := tiok Try.type110 Try.underlying110 rfl rfl rfl (fun w M => FrL.cons' (Fr.lit' w M _) (FrL.nil' w M)) (fun fs h => by cases h) (⟨_, _, _, rfl⟩) (fun h => by cases h)
theorem tab_ok111 : TIok Try.prog 111 ⟨.func, 1, 8, [.lit .nilFunc], false⟩ := tiok Try.type111 Try.underlying111 rfl rfl rfl (fun w M => FrL.cons' (Fr.lit' w M _) (FrL.nil' w M)) (fun fs h => by cases h) (⟨_, _, _, rfl⟩) (fun h => by cases h)
theorem tab_ok112 : TIok Try.prog 112 ⟨.func, 1, 8, [.lit .nilFunc], false⟩ := tiok Try.type112 Try.underlying112 rfl rfl rfl (fun w M => FrL.cons' (Fr.lit' w M _) (FrL.nil' w M)) (fun fs h => by cases h) (⟨_, _, _, rfl⟩) (fun h => by cases h)
theorem tab_ok113 : TIok Try.prog 113 ⟨.func, 1, 8, [.lit .nilFunc], false⟩ := tiok Try.type113 Try.underlying113 rfl rfl rfl (fun w M => FrL.cons' (Fr.lit' w M _) (FrL.nil' w M)) (fun fs h => by cases h) (⟨_, _, _, rfl⟩) (fun h => by cases h)
theorem tab_ok114 : TIok Try.prog 114 ⟨.func, 1, 8, [.lit .nilFunc], false⟩ := tiok Try.type114 Try.underlying114 rfl rfl rfl (fun w M => FrL.cons' (Fr.lit' w M _) (FrL.nil' w M)) (fun fs h => by cases h) (⟨_, _, _, rfl⟩) (fun h => by cases h)
theorem tab_ok115 : TIok Try.prog 115 ⟨.func, 1, 8, [.lit .nilFunc], false⟩ := tiok Try.type115 Try.underlying115 rfl rfl rfl (fun w M => FrL.cons' (Fr.lit' w M _) (FrL.nil' w M)) (fun fs h => by cases h) (⟨_, _, _, rfl⟩) (fun h => by cases h)
theorem tab_ok116 : TIok Try.prog 116 ⟨.struct [(29, 0), (62, 1), (40, 2)], 3, 72, [.arr 6 0 [] false, .arr 1 0 [] false, .arr 1 0 [] false], false⟩ := tiok Try.type116 Try.underlying116 rfl rfl rfl (fun w M => FrL.cons' (Fr.nil w M _ (by decide)) (FrL.cons' (Fr.nil w M _ (by decide)) (FrL.cons' (Fr.nil w M _ (by decide)) (FrL.nil' w M)))) (fun fs h => ⟨_, rfl⟩) (⟨_, rfl, rfl⟩) (fun h => by cases h)
theorem tab_ok117 : TIok Try.prog 117 ⟨.struct [(29, 0), (62, 1), (40, 2)], 3, 72, [.arr 6 0 [] false, .arr 1 0 [] false, .arr 1 0 [] false], false⟩ := tiok Try.type117 Try.underlying117 rfl rfl rfl (fun w M => FrL.cons' (Fr.nil w M _ (by decide)) (FrL.cons' (Fr.nil w M _ (by decide)) (FrL.cons' (Fr.nil w M _ (by decide)) (FrL.nil' w M)))) (fun fs h => ⟨_, rfl⟩) (⟨_, rfl, rfl⟩) (fun h => by cases h)
theorem tab_ok118 : TIok Try.prog 118 ⟨.func, 1, 8, [.lit .nilFunc], false⟩ := tiok Try.type118 Try.underlying118 rfl rfl rfl (fun w M => FrL.cons' (Fr.lit' w M _) (FrL.nil' w M)) (fun fs h => by cases h) (⟨_, _, _, rfl⟩) (fun h => by cases h)
theorem tab_ok119 : TIok Try.prog 119 ⟨.slice 121, 1, 24, [.arr 3 0 [] false], false⟩ := tiok Try.type119 Try.underlying119 rfl rfl rfl (fun w M => FrL.cons' (Fr.nil w M _ (by decide)) (FrL.nil' w M)) (fun fs h => by cases h) (rfl) (fun h => by cases h)
theorem tab_ok120 : TIok Try.prog 120 ⟨.func, 1, 8, [.lit .nilFunc], false⟩ := tiok Try.type120 Try.underlying120 rfl rfl rfl (fun w M => FrL.cons' (Fr.lit' w M _) (FrL.nil' w M)) (fun fs h => by cases h) (⟨_, _, _, rfl⟩) (fun h => by cases h)
theorem tab_ok121 : TIok Try.prog 121 ⟨.struct [(3, 0), (3, 1), (9, 2)], 3, 32, [.lit (.int .i64 0), .lit (.int .i64 0), .lit (.string ⟨#[]⟩)], false⟩ := tiok Try.type121 Try.underlying121 rfl rfl rfl (fun w M => FrL.cons' (Fr.lit' w M _) (FrL.cons' (Fr.lit' w M _) (FrL.cons' (Fr.lit' w M _) (FrL.nil' w M)))) (fun fs h => ⟨_, rfl⟩) (⟨_, rfl, rfl⟩) (fun h => by cases h)
theorem tab_ok122 : TIok Try.prog 122 ⟨.struct [(3, 0), (3, 1), (121, 2)], 5, 48, [.lit (.int .i64 0), .lit (.int .i64 0), .lit (.int .i64 0), .lit (.int .i64 0), .lit (.string ⟨#[]⟩)], false⟩ := tiok Try.type122 Try.underlying122 rfl rfl rfl (fun w M => FrL.cons' (Fr.lit' w M _) (FrL.cons' (Fr.lit' w M _) (FrL.cons' (Fr.lit' w M _) (FrL.cons' (Fr.lit' w M _) (FrL.cons' (Fr.lit' w M _) (FrL.nil' w M)))))) (fun fs h => ⟨_, rfl⟩) (⟨_, rfl, rfl⟩) (fun h => by cases h)
theorem tab_ok123 : TIok Try.prog 123 ⟨.struct [(3, 0), (3, 1), (121, 2)], 5, 48, [.lit (.int .i64 0), .lit (.int .i64 0), .lit (.int .i64 0), .lit (.int .i64 0), .lit (.string ⟨#[]⟩)], false⟩ := tiok Try.type123 Try.underlying123 rfl rfl rfl (fun w M => FrL.cons' (Fr.lit' w M _) (FrL.cons' (Fr.lit' w M _) (FrL.cons' (Fr.lit' w M _) (FrL.cons' (Fr.lit' w M _) (FrL.cons' (Fr.lit' w M _) (FrL.nil' w M)))))) (fun fs h => ⟨_, rfl⟩) (⟨_, rfl, rfl⟩) (fun h => by cases h)
theorem tab_ok124 : TIok Try.prog 124 ⟨.func, 1, 8, [.lit .nilFunc], false⟩ := tiok Try.type124 Try.underlying124 rfl rfl rfl (fun w M => FrL.cons' (Fr.lit' w M _) (FrL.nil' w M)) (fun fs h => by cases h) (⟨_, _, _, rfl⟩) (fun h => by cases h)
theorem tab_ok125 : TIok Try.prog 125 ⟨.func, 1, 8, [.lit .nilFunc], false⟩ := tiok Try.type125 Try.underlying125 rfl rfl rfl (fun w M => FrL.cons' (Fr.lit' w M _) (FrL.nil' w M)) (fun fs h => by cases h) (⟨_, _, _, rfl⟩) (fun h => by cases h)
theorem tab_ok126 : TIok Try.prog 126 ⟨.func, 1, 8, [.lit .nilFunc], false⟩ := tiok Try.type126 Try.underlying126 rfl rfl rfl (fun w M => FrL.cons' (Fr.lit' w M _) (FrL.nil' w M)) (fun fs h => by cases h) (⟨_, _, _, rfl⟩) (fun h => by cases h)
theorem tab_ok127 : TIok Try.prog 127 ⟨.func, 1, 8, [.lit .nilFunc], false⟩ := tiok Try.type127 Try.underlying127 rfl rfl rfl (fun w M => FrL.cons' (Fr.lit' w M _) (FrL.nil' w M)) (fun fs h => by cases h) (⟨_, _, _, rfl⟩) (fun h => by cases h)
theorem tab_ok128 : TIok Try.prog 128 ⟨.struct [(3, 0), (4, 1)], 2, 16, [.lit (.int .i64 0), .lit (.bool false)], false⟩ := tiok Try.type128 Try.underlying128 rfl rfl rfl (fun w M => FrL.cons' (Fr.lit' w M _) (FrL.cons' (Fr.lit' w M _) (FrL.nil' w M))) (fun fs h => ⟨_, rfl⟩) (⟨_, rfl, rfl⟩) (fun h => by cases h)
theorem tab_ok129 : TIok Try.prog 129 ⟨.func, 1, 8, [.lit .nilFunc], false⟩ := tiok Try.type129 Try.underlying129 rfl rfl rfl (fun w M => FrL.cons' (Fr.lit' w M _) (FrL.nil' w M)) (fun fs h => by cases h) (⟨_, _, _, rfl⟩) (fun h => by cases h)
theorem tab_ok130 : TIok Try.prog 130 ⟨.func, 1, 8, [.lit .nilFunc], false⟩ := tiok Try.type130 Try.underlying130 rfl rfl rfl (fun w M => FrL.cons' (Fr.lit' w M _) (FrL.nil' w M)) (fun fs h => by cases h) (⟨_, _, _, rfl⟩) (fun h => by cases h)
theorem tab_ok131 : TIok Try.prog 131 ⟨.func, 1, 8, [.lit .nilFunc], false⟩ := tiok Try.type131 Try.underlying131 rfl rfl rfl (fun w M => FrL.cons' (Fr.lit' w M _) (FrL.nil' w M)) (fun fs h => by cases h) (⟨_, _, _, rfl⟩) (fun h => by cases h)
theorem tab_ok132 : TIok Try.prog 132 ⟨.func, 1, 8, [.lit .nilFunc], false⟩ := tiok Try.type132 Try.underlying132 rfl rfl rfl (fun w M => FrL.cons' (Fr.lit' w M _) (FrL.nil' w M)) (fun fs h => by cases h) (⟨_, _, _, rfl⟩) (fun h => by cases h)
theorem tab_ok133 : TIok Try.prog 133 ⟨.func, 1, 8, [.lit .nilFunc], false⟩ := tiok Try.type133 Try.underlying133 rfl rfl rfl (fun w M => FrL.cons' (Fr.lit' w M _) (FrL.nil' w M)) (fun fs h => by cases h) (⟨_, _, _, rfl⟩) (fun h => by cases h)
theorem tab_ok134 : TIok Try.prog 134 ⟨.func, 1, 8, [.lit .nilFunc], false⟩ := tiok Try.type134 Try.underlying134 rfl rfl rfl (fun w M => FrL.cons' (Fr.lit' w M _) (FrL.nil' w M)) (fun fs h => by cases h) (⟨_, _, _, rfl⟩) (fun h => by cases h)
theorem tab_ok135 : TIok Try.prog 135 ⟨.slice 5, 1, 24, [.arr 1 0 [] false], false⟩ := tiok Try.type135 Try.underlying135 rfl rfl rfl (fun w M => FrL.cons' (Fr.nil w M _ (by decide)) (FrL.nil' w M)) (fun fs h => by cases h) (rfl) (fun h => by cases h)
theorem tab_ok136 : TIok Try.prog 136 ⟨.func, 1, 8, [.lit .nilFunc], false⟩ := tiok Try.type136 Try.underlying136 rfl rfl rfl (fun w M => FrL.cons' (Fr.lit' w M _) (FrL.nil' w M)) (fun fs h => by cases h) (⟨_, _, _, rfl⟩) (fun h => by cases h)
theorem tab_ok137 : TIok Try.prog 137 ⟨.func, 1, 8, [.lit .nilFunc], false⟩ := tiok Try.type137 Try.underlying137 rfl rfl rfl (fun w M => FrL.cons' (Fr.lit' w M _) (FrL.nil' w M)) (fun fs h => by cases h) (⟨_, _, _, rfl⟩) (fun h => by cases h)
theorem tab_ok138 : TIok Try.prog 138 ⟨.func, 1, 8, [.lit .nilFunc], false⟩ := tiok Try.type138 Try.underlying138 rfl rfl rfl (fun w M => FrL.cons' (Fr.lit' w M _) (FrL.nil' w M)) (fun fs h => by cases h) (⟨_, _, _, rfl⟩) (fun h => by cases h)
theorem tab_ok139 : TIok Try.prog 139 ⟨.func, 1, 8, [.lit .nilFunc], false⟩ := tiok Try.type139 Try.underlying139 rfl rfl rfl (fun w M => FrL.cons' (Fr.lit' w M _) (FrL.nil' w M)) (fun fs h => by cases h) (⟨_, _, _, rfl⟩) (fun h => by cases h)
theorem tab_ok140 : TIok Try.prog 140 ⟨.func, 1, 8, [.lit .nilFunc], false⟩ := tiok Try.type140 Try.underlying140 rfl rfl rfl (fun w M => FrL.cons' (Fr.lit' w M _) (FrL.nil' w M)) (fun fs h => by cases h) (⟨_, _, _, rfl⟩) (fun h => by cases h)
theorem tab_ok141 : TIok Try.prog 141 ⟨.func, 1, 8, [.lit .nilFunc], false⟩ := tiok Try.type141 Try.underlying141 rfl rfl rfl (fun w M => FrL.cons' (Fr.lit' w M _) (FrL.nil' w M)) (fun fs h => by cases h) (⟨_, _, _, rfl⟩) (fun h => by cases h)
theorem tab_ok142 : TIok Try.prog 142 ⟨.func, 1, 8, [.lit .nilFunc], false⟩ := tiok Try.type142 Try.underlying142 rfl rfl rfl (fun w M => FrL.cons' (Fr.lit' w M _) (FrL.nil' w M)) (fun fs h => by cases h) (⟨_, _, _, rfl⟩) (fun h => by cases h)
theorem tab_ok144 : TIok Try.prog 144 ⟨.func, 1, 8, [.lit .nilFunc], false⟩ := tiok Try.type144 Try.underlying144 rfl rfl rfl (fun w M => FrL.cons' (Fr.lit' w M _) (FrL.nil' w M)) (fun fs h => by cases h) (⟨_, _, _, rfl⟩) (fun h => by cases h)
theorem tab_ok145 : TIok Try.prog 145 ⟨.func, 1, 8, [.lit .nilFunc], false⟩ := tiok Try.type145 Try.underlying145 rfl rfl rfl (fun w M => FrL.cons' (Fr.lit' w M _) (FrL.nil' w M)) (fun fs h => by cases h) (⟨_, _, _, rfl⟩) (fun h => by cases h)
theorem tab_ok146 : TIok Try.prog 146 ⟨.func, 1, 8, [.lit .nilFunc], false⟩ := tiok Try.type146 Try.underlying146 rfl rfl rfl (fun w M => FrL.cons' (Fr.lit' w M _) (FrL.nil' w M)) (fun fs h => by cases h) (⟨_, _, _, rfl⟩) (fun h => by cases h)
theorem tab_ok148 : TIok Try.prog 148 ⟨.func, 1, 8, [.lit .nilFunc], false⟩ := tiok Try.type148 Try.underlying148 rfl rfl rfl (fun w M => FrL.cons' (Fr.lit' w M _) (FrL.nil' w M)) (fun fs h => by cases h) (⟨_, _, _, rfl⟩) (fun h => by cases h)
theorem tab_ok149 : TIok Try.prog 149 ⟨.func, 1, 8, [.lit .nilFunc], false⟩ := tiok Try.type149 Try.underlying149 rfl rfl rfl (fun w M => FrL.cons' (Fr.lit' w M _) (FrL.nil' w M)) (fun fs h => by cases h) (⟨_, _, _, rfl⟩) (fun h => by cases h)
theorem tab_ok150 : TIok Try.prog 150 ⟨.func, 1, 8, [.lit .nilFunc], false⟩ := tiok Try.type150 Try.underlying150 rfl rfl rfl (fun w M => FrL.cons' (Fr.lit' w M _) (FrL.nil' w M)) (fun fs h => by cases h) (⟨_, _, _, rfl⟩) (fun h => by cases h)
theorem tab_ok151 : TIok Try.prog 151 ⟨.func, 1, 8, [.lit .nilFunc], false⟩ := tiok Try.type151 Try.underlying151 rfl rfl rfl (fun w M => FrL.cons' (Fr.lit' w M _) (FrL.nil' w M)) (fun fs h => by cases h) (⟨_, _, _, rfl⟩) (fun h => by cases h)
theorem tab_ok152 : TIok Try.prog 152 ⟨.func, 1, 8, [.lit .nilFunc], false⟩ := tiok Try.type152 Try.underlying152 rfl rfl rfl (fun w M => FrL.cons' (Fr.lit' w M _) (FrL.nil' w M)) (fun fs h => by cases h) (⟨_, _, _, rfl⟩) (fun h => by cases h)
theorem tab_ok153 : TIok Try.prog 153 ⟨.func, 1, 8, [.lit .nilFunc], false⟩ := tiok Try.type153 Try.underlying153 rfl rfl rfl (fun w M => FrL.cons' (Fr.lit' w M _) (FrL.nil' w M)) (fun fs h => by cases h) (⟨_, _, _, rfl⟩) (fun h => by cases h)
theorem tab_ok154 : TIok Try.prog 154 ⟨.func, 1, 8, [.lit .nilFunc], false⟩ := tiok Try.type154 Try.underlying154 rfl rfl rfl (fun w M => FrL.cons' (Fr.lit' w M _) (FrL.nil' w M)) (fun fs h => by cases h) (⟨_, _, _, rfl⟩) (fun h => by cases h)
theorem tab_ok155 : TIok Try.prog 155 ⟨.func, 1, 8, [.lit .nilFunc], false⟩ := tiok Try.type155 Try.underlying155 rfl rfl rfl (fun w M => FrL.cons' (Fr.lit' w M _) (FrL.nil' w M)) (fun fs h => by cases h) (⟨_, _, _, rfl⟩) (fun h => by cases h)
theorem tab_ok156 : TIok Try.prog 156 ⟨.func, 1, 8, [.lit .nilFunc], false⟩ := tiok Try.type156 Try.underlying156 rfl rfl rfl (fun w M => FrL.cons' (Fr.lit' w M _) (FrL.nil' w M)) (fun fs h => by cases h) (⟨_, _, _, rfl⟩) (fun h => by cases h)
theorem tab_ok157 : TIok Try.prog 157 ⟨.func, 1, 8, [.lit .nilFunc], false⟩ := tiok Try.type157 Try.underlying157 rfl rfl rfl (fun w M => FrL.cons' (Fr.lit' w M _) (FrL.nil' w M)) (fun fs h => by cases h) (⟨_, _, _, rfl⟩) (fun h => by cases h)
theorem tab_ok158 : TIok Try.prog 158 ⟨.func, 1, 8, [.lit .nilFunc], false⟩ := tiok Try.type158 Try.underlying158 rfl rfl rfl (fun w M => FrL.cons' (Fr.lit' w M _) (FrL.nil' w M)) (fun fs h => by cases h) (⟨_, _, _, rfl⟩) (fun h => by cases h)
theorem tab_ok159 : TIok Try.prog 159 ⟨.func, 1, 8, [.lit .nilFunc], false⟩ := tiok Try.type159 Try.underlying159 rfl rfl rfl (fun w M => FrL.cons' (Fr.lit' w M _) (FrL.nil' w M)) (fun fs h => by cases h) (⟨_, _, _, rfl⟩) (fun h => by cases h)
theorem tab_ok160 : TIok Try.prog 160 ⟨.func, 1, 8, [.lit .nilFunc], false⟩ := tiok Try.type160 Try.underlying160 rfl rfl rfl (fun w M => FrL.cons' (Fr.lit' w M _) (FrL.nil' w M)) (fun fs h => by cases h) (⟨_, _, _, rfl⟩) (fun h => by cases h)
theorem tab_ok169 : TIok Try.prog 169 ⟨.func, 1, 8, [.lit .nilFunc], false⟩ := tiok Try.type169 Try.underlying169 rfl rfl rfl (fun w M => FrL.cons' (Fr.lit' w M _) (FrL.nil' w M)) (fun fs h => by cases h) (⟨_, _, _, rfl⟩) (fun h => by cases h)
theorem tab_ok175 : TIok Try.prog 175 ⟨.func, 1, 8, [.lit .nilFunc], false⟩ := tiok Try.type175 Try.underlying175 rfl rfl rfl (fun w M => FrL.cons' (Fr.lit' w M _) (FrL.nil' w M)) (fun fs h => by cases h) (⟨_, _, _, rfl⟩) (fun h => by cases h)
theorem tab_ok176 : TIok Try.prog 176 ⟨.func, 1, 8, [.lit .nilFunc], false⟩ := tiok Try.type176 Try.underlying176 rfl rfl rfl (fun w M => FrL.cons' (Fr.lit' w M _) (FrL.nil' w M)) (fun fs h => by cases h) (⟨_, _, _, rfl⟩) (fun h => by cases h)
def tab : List (Nat × TI) := [
  (1, ⟨.func, 1, 8, [.lit .nilFunc], false⟩),
  (2, ⟨.int .i64, 1, 8, [.lit (.int .i64 0)], false⟩),
  (3, ⟨.int .i64, 1, 8, [.lit (.int .i64 0)], false⟩),
  (4, ⟨.bool, 1, 1, [.lit (.bool false)], false⟩),
  (5, ⟨.int .u8, 1, 1, [.lit (.int .u8 0)], false⟩),
  (7, ⟨.struct [(2, 0), (3, 1), (4, 2), (6, 3)], 4, 24, [.lit (.int .i64 0), .lit (.int .i64 0), .lit (.bool false), .lit (.int .u8 0)], false⟩),
  (9, ⟨.str, 1, 16, [.lit (.string ⟨#[]⟩)], false⟩),
  (15, ⟨.ptr 162, 1, 8, [.lit (.pointer none)], false⟩),
  (16, ⟨.ptr 165, 1, 8, [.lit (.pointer none)], false⟩),
  (17, ⟨.ptr 174, 1, 8, [.lit (.pointer none)], false⟩),
  (22, ⟨.slice 52, 1, 24, [.arr 2 0 [] false], false⟩),
  (23, ⟨.slice 56, 1, 24, [.arr 6 0 [] false], false⟩),
  (24, ⟨.func, 1, 8, [.lit .nilFunc], false⟩),
  (25, ⟨.func, 1, 8, [.lit .nilFunc], false⟩),
  (26, ⟨.func, 1, 8, [.lit .nilFunc], false⟩),
  (27, ⟨.slice 64, 1, 24, [.arr 2 0 [] false], false⟩),
  (28, ⟨.func, 1, 8, [.lit .nilFunc], false⟩),
  (29, ⟨.slice 68, 1, 24, [.arr 6 0 [] false], false⟩),
  (30, ⟨.func, 1, 8, [.lit .nilFunc], false⟩),
  (31, ⟨.func, 1, 8, [.lit .nilFunc], false⟩),
  (32, ⟨.func, 1, 8, [.lit .nilFunc], false⟩),
  (33, ⟨.func, 1, 8, [.lit .nilFunc], false⟩),
  (34, ⟨.slice 77, 1, 24, [.arr 2 0 [] false], false⟩),
  (35, ⟨.func, 1, 8, [.lit .nilFunc], false⟩),
  (36, ⟨.func, 1, 8, [.lit .nilFunc], false⟩),
  (37, ⟨.func, 1, 8, [.lit .nilFunc], false⟩),
  (38, ⟨.func, 1, 8, [.lit .nilFunc], false⟩),
  (39, ⟨.func, 1, 8, [.lit .nilFunc], false⟩),
  (40, ⟨.slice 3, 1, 24, [.arr 1 0 [] false], false⟩),
  (41, ⟨.slice 117, 1, 24, [.arr 3 0 [] false], false⟩),
  (42, ⟨.struct [(27, 0), (40, 1), (41, 2)], 3, 72, [.arr 2 0 [] false, .arr 1 0 [] false, .arr 3 0 [] false], false⟩),
  (43, ⟨.struct [(27, 0), (40, 1), (41, 2)], 3, 72, [.arr 2 0 [] false, .arr 1 0 [] false, .arr 3 0 [] false], false⟩),
  (44, ⟨.func, 1, 8, [.lit .nilFunc], false⟩),
  (45, ⟨.func, 1, 8, [.lit .nilFunc], false⟩),
  (46, ⟨.func, 1, 8, [.lit .nilFunc], false⟩),
  (47, ⟨.func, 1, 8, [.lit .nilFunc], false⟩),
  (48, ⟨.func, 1, 8, [.lit .nilFunc], false⟩),
  (49, ⟨.slice 128, 1, 24, [.arr 2 0 [] false], false⟩),
  (50, ⟨.slice 119, 1, 24, [.arr 1 0 [] false], false⟩),
  (51, ⟨.struct [(49, 0), (50, 1)], 2, 48, [.arr 2 0 [] false, .arr 1 0 [] false], false⟩),
  (52, ⟨.struct [(49, 0), (50, 1)], 2, 48, [.arr 2 0 [] false, .arr 1 0 [] false], false⟩),
  (53, ⟨.func, 1, 8, [.lit .nilFunc], false⟩),
  (54, ⟨.slice 123, 1, 24, [.arr 5 0 [] false], false⟩),
  (55, ⟨.struct [(3, 0), (3, 1), (3, 2), (3, 3), (54, 4), (40, 5)], 6, 80, [.lit (.int .i64 0), .lit (.int .i64 0), .lit (.int .i64 0), .lit (.int .i64 0), .arr 5 0 [] false, .arr 1 0 [] false], false⟩),
  (56, ⟨.struct [(3, 0), (3, 1), (3, 2), (3, 3), (54, 4), (40, 5)], 6, 80, [.lit (.int .i64 0), .lit (.int .i64 0), .lit (.int .i64 0), .lit (.int .i64 0), .arr 5 0 [] false, .arr 1 0 [] false], false⟩),
  (57, ⟨.slice 34, 1, 24, [.arr 1 0 [] false], false⟩),
  (59, ⟨.func, 1, 8, [.lit .nilFunc], false⟩),
  (60, ⟨.func, 1, 8, [.lit .nilFunc], false⟩),
  (61, ⟨.func, 1, 8, [.lit .nilFunc], false⟩),
  (62, ⟨.slice 104, 1, 24, [.arr 1 0 [] false], false⟩),
  (63, ⟨.struct [(34, 0), (62, 1)], 2, 48, [.arr 2 0 [] false, .arr 1 0 [] false], false⟩),
  (64, ⟨.struct [(34, 0), (62, 1)], 2, 48, [.arr 2 0 [] false, .arr 1 0 [] false], false⟩),
  (65, ⟨.func, 1, 8, [.lit .nilFunc], false⟩),
  (66, ⟨.slice 108, 1, 24, [.arr 5 0 [] false], false⟩),
  (67, ⟨.struct [(3, 0), (3, 1), (3, 2), (3, 3), (66, 4), (40, 5)], 6, 80, [.lit (.int .i64 0), .lit (.int .i64 0), .lit (.int .i64 0), .lit (.int .i64 0), .arr 5 0 [] false, .arr 1 0 [] false], false⟩),
  (68, ⟨.struct [(3, 0), (3, 1), (3, 2), (3, 3), (66, 4), (40, 5)], 6, 80, [.lit (.int .i64 0), .lit (.int .i64 0), .lit (.int .i64 0), .lit (.int .i64 0), .arr 5 0 [] false, .arr 1 0 [] false], false⟩),
  (69, ⟨.func, 1, 8, [.lit .nilFunc], false⟩),
  (70, ⟨.slice 79, 1, 24, [.arr 2 0 [] false], false⟩),
  (72, ⟨.func, 1, 8, [.lit .nilFunc], false⟩),
  (73, ⟨.func, 1, 8, [.lit .nilFunc], false⟩),
  (74, ⟨.func, 1, 8, [.lit .nilFunc], false⟩),
  (75, ⟨.func, 1, 8, [.lit .nilFunc], false⟩),
  (76, ⟨.struct [(3, 0), (4, 1)], 2, 16, [.lit (.int .i64 0), .lit (.bool false)], false⟩),
  (77, ⟨.struct [(3, 0), (4, 1)], 2, 16, [.lit (.int .i64 0), .lit (.bool false)], false⟩),
  (78, ⟨.struct [(34, 0), (3, 1)], 2, 32, [.arr 2 0 [] false, .lit (.int .i64 0)], false⟩),
  (79, ⟨.struct [(34, 0), (3, 1)], 2, 32, [.arr 2 0 [] false, .lit (.int .i64 0)], false⟩),
  (80, ⟨.func, 1, 8, [.lit .nilFunc], false⟩),
  (81, ⟨.func, 1, 8, [.lit .nilFunc], false⟩),
  (82, ⟨.func, 1, 8, [.lit .nilFunc], false⟩),
  (83, ⟨.func, 1, 8, [.lit .nilFunc], false⟩),
  (84, ⟨.func, 1, 8, [.lit .nilFunc], false⟩),
  (85, ⟨.func, 1, 8, [.lit .nilFunc], false⟩),
  (86, ⟨.func, 1, 8, [.lit .nilFunc], false⟩),
  (87, ⟨.func, 1, 8, [.lit .nilFunc], false⟩),
  (88, ⟨.func, 1, 8, [.lit .nilFunc], false⟩),
  (89, ⟨.func, 1, 8, [.lit .nilFunc], false⟩),
  (90, ⟨.func, 1, 8, [.lit .nilFunc], false⟩),
  (92, ⟨.func, 1, 8, [.lit .nilFunc], false⟩),
  (93, ⟨.func, 1, 8, [.lit .nilFunc], false⟩),
  (94, ⟨.func, 1, 8, [.lit .nilFunc], false⟩),
  (95, ⟨.func, 1, 8, [.lit .nilFunc], false⟩),
  (96, ⟨.func, 1, 8, [.lit .nilFunc], false⟩),
  (97, ⟨.func, 1, 8, [.lit .nilFunc], false⟩),
  (98, ⟨.func, 1, 8, [.lit .nilFunc], false⟩),
  (100, ⟨.func, 1, 8, [.lit .nilFunc], false⟩),
  (101, ⟨.func, 1, 8, [.lit .nilFunc], false⟩),
  (102, ⟨.func, 1, 8, [.lit .nilFunc], false⟩),
  (103, ⟨.func, 1, 8, [.lit .nilFunc], false⟩),
  (104, ⟨.slice 106, 1, 24, [.arr 3 0 [] false], false⟩),
  (105, ⟨.struct [(3, 0), (3, 1), (9, 2)], 3, 32, [.lit (.int .i64 0), .lit (.int .i64 0), .lit (.string ⟨#[]⟩)], false⟩),
  (106, ⟨.struct [(3, 0), (3, 1), (9, 2)], 3, 32, [.lit (.int .i64 0), .lit (.int .i64 0), .lit (.string ⟨#[]⟩)], true⟩),
  (107, ⟨.struct [(3, 0), (3, 1), (106, 2)], 5, 48, [.lit (.int .i64 0), .lit (.int .i64 0), .lit (.int .i64 0), .lit (.int .i64 0), .lit (.string ⟨#[]⟩)], false⟩),
  (108, ⟨.struct [(3, 0), (3, 1), (106, 2)], 5, 48, [.lit (.int .i64 0), .lit (.int .i64 0), .lit (.int .i64 0), .lit (.int .i64 0), .lit (.string ⟨#[]⟩)], false⟩),
  (109, ⟨.func, 1, 8, [.lit .nilFunc], false⟩),
  (110, ⟨.func, 1, 8, [.lit .nilFunc], false⟩),
  (111, ⟨.func, 1, 8, [.lit .nilFunc], false⟩),
  (112, ⟨.func, 1, 8, [.lit .nilFunc], false⟩),
  (113, ⟨.func, 1, 8, [.lit .nilFunc], false⟩),
  (114, ⟨.func, 1, 8, [.lit .nilFunc], false⟩),
  (115, ⟨.func, 1, 8, [.lit .nilFunc], false⟩),
  (116, ⟨.struct [(29, 0), (62, 1), (40, 2)], 3, 72, [.arr 6 0 [] false, .arr 1 0 [] false, .arr 1 0 [] false], false⟩),
  (117, ⟨.struct [(29, 0), (62, 1), (40, 2)], 3, 72, [.arr 6 0 [] false, .arr 1 0 [] false, .arr 1 0 [] false], false⟩),
  (118, ⟨.func, 1, 8, [.lit .nilFunc], false⟩),
  (119, ⟨.slice 121, 1, 24, [.arr 3 0 [] false], false⟩),
  (120, ⟨.func, 1, 8, [.lit .nilFunc], false⟩),
  (121, ⟨.struct [(3, 0), (3, 1), (9, 2)], 3, 32, [.lit (.int .i64 0), .lit (.int .i64 0), .lit (.string ⟨#[]⟩)], false⟩),
  (122, ⟨.struct [(3, 0), (3, 1), (121, 2)], 5, 48, [.lit (.int .i64 0), .lit (.int .i64 0), .lit (.int .i64 0), .lit (.int .i64 0), .lit (.string ⟨#[]⟩)], false⟩),
  (123, ⟨.struct [(3, 0), (3, 1), (121, 2)], 5, 48, [.lit (.int .i64 0), .lit (.int .i64 0), .lit (.int .i64 0), .lit (.int .i64 0), .lit (.string ⟨#[]⟩)], false⟩),
  (124, ⟨.func, 1, 8, [.lit .nilFunc], false⟩),
  (125, ⟨.func, 1, 8, [.lit .nilFunc], false⟩),
  (126, ⟨.func, 1, 8, [.lit .nilFunc], false⟩),
  (127, ⟨.func, 1, 8, [.lit .nilFunc], false⟩),
  (128, ⟨.struct [(3, 0), (4, 1)], 2, 16, [.lit (.int .i64 0), .lit (.bool false)], false⟩),
  (129, ⟨.func, 1, 8, [.lit .nilFunc], false⟩),
  (130, ⟨.func, 1, 8, [.lit .nilFunc], false⟩),
  (131, ⟨.func, 1, 8, [.lit .nilFunc], false⟩),
  (132, ⟨.func, 1, 8, [.lit .nilFunc], false⟩),
  (133, ⟨.func, 1, 8, [.lit .nilFunc], false⟩),
  (134, ⟨.func, 1, 8, [.lit .nilFunc], false⟩),
  (135, ⟨.slice 5, 1, 24, [.arr 1 0 [] false], false⟩),
  (136, ⟨.func, 1, 8, [.lit .nilFunc], false⟩),
  (137, ⟨.func, 1, 8, [.lit .nilFunc], false⟩),
  (138, ⟨.func, 1, 8, [.lit .nilFunc], false⟩),
  (139, ⟨.func, 1, 8, [.lit .nilFunc], false⟩),
  (140, ⟨.func, 1, 8, [.lit .nilFunc], false⟩),
  (141, ⟨.func, 1, 8, [.lit .nilFunc], false⟩),
  (142, ⟨.func, 1, 8, [.lit .nilFunc], false⟩),
  (144, ⟨.func, 1, 8, [.lit .nilFunc], false⟩),
  (145, ⟨.func, 1, 8, [.lit .nilFunc], false⟩),
  (146, ⟨.func, 1, 8, [.lit .nilFunc], false⟩),
  (148, ⟨.func, 1, 8, [.lit .nilFunc], false⟩),
  (149, ⟨.func, 1, 8, [.lit .nilFunc], false⟩),
  (150, ⟨.func, 1, 8, [.lit .nilFunc], false⟩),
  (151, ⟨.func, 1, 8, [.lit .nilFunc], false⟩),
  (152, ⟨.func, 1, 8, [.lit .nilFunc], false⟩),
  (153, ⟨.func, 1, 8, [.lit .nilFunc], false⟩),
  (154, ⟨.func, 1, 8, [.lit .nilFunc], false⟩),
  (155, ⟨.func, 1, 8, [.lit .nilFunc], false⟩),
  (156, ⟨.func, 1, 8, [.lit .nilFunc], false⟩),
  (157, ⟨.func, 1, 8, [.lit .nilFunc], false⟩),
  (158, ⟨.func, 1, 8, [.lit .nilFunc], false⟩),
  (159, ⟨.func, 1, 8, [.lit .nilFunc], false⟩),
  (160, ⟨.func, 1, 8, [.lit .nilFunc], false⟩),
  (169, ⟨.func, 1, 8, [.lit .nilFunc], false⟩),
  (175, ⟨.func, 1, 8, [.lit .nilFunc], false⟩),
  (176, ⟨.func, 1, 8, [.lit .nilFunc], false⟩)]
def τ : Tau := tabOf tab
theorem τ_ok : TOK Try.prog τ := tabOf_ok tab ⟨tab_ok1, ⟨tab_ok2, ⟨tab_ok3, ⟨tab_ok4, ⟨tab_ok5, ⟨tab_ok7, ⟨tab_ok9, ⟨tab_ok15, ⟨tab_ok16, ⟨tab_ok17, ⟨tab_ok22, ⟨tab_ok23, ⟨tab_ok24, ⟨tab_ok25, ⟨tab_ok26, ⟨tab_ok27, ⟨tab_ok28, ⟨tab_ok29, ⟨tab_ok30, ⟨tab_ok31, ⟨tab_ok32, ⟨tab_ok33, ⟨tab_ok34, ⟨tab_ok35, ⟨tab_ok36, ⟨tab_ok37, ⟨tab_ok38, ⟨tab_ok39, ⟨tab_ok40, ⟨tab_ok41, ⟨tab_ok42, ⟨tab_ok43, ⟨tab_ok44, ⟨tab_ok45, ⟨tab_ok46, ⟨tab_ok47, ⟨tab_ok48, ⟨tab_ok49, ⟨tab_ok50, ⟨tab_ok51, ⟨tab_ok52, ⟨tab_ok53, ⟨tab_ok54, ⟨tab_ok55, ⟨tab_ok56, ⟨tab_ok57, ⟨tab_ok59, ⟨tab_ok60, ⟨tab_ok61, ⟨tab_ok62, ⟨tab_ok63, ⟨tab_ok64, ⟨tab_ok65, ⟨tab_ok66, ⟨tab_ok67, ⟨tab_ok68, ⟨tab_ok69, ⟨tab_ok70, ⟨tab_ok72, ⟨tab_ok73, ⟨tab_ok74, ⟨tab_ok75, ⟨tab_ok76, ⟨tab_ok77, ⟨tab_ok78, ⟨tab_ok79, ⟨tab_ok80, ⟨tab_ok81, ⟨tab_ok82, ⟨tab_ok83, ⟨tab_ok84, ⟨tab_ok85, ⟨tab_ok86, ⟨tab_ok87, ⟨tab_ok88, ⟨tab_ok89, ⟨tab_ok90, ⟨tab_ok92, ⟨tab_ok93, ⟨tab_ok94, ⟨tab_ok95, ⟨tab_ok96, ⟨tab_ok97, ⟨tab_ok98, ⟨tab_ok100, ⟨tab_ok101, ⟨tab_ok102, ⟨tab_ok103, ⟨tab_ok104, ⟨tab_ok105, ⟨tab_ok106, ⟨tab_ok107, ⟨tab_ok108, ⟨tab_ok109, ⟨tab_ok110, ⟨tab_ok111, ⟨tab_ok112, ⟨tab_ok113, ⟨tab_ok114, ⟨tab_ok115, ⟨tab_ok116, ⟨tab_ok117, ⟨tab_ok118, ⟨tab_ok119, ⟨tab_ok120, ⟨tab_ok121, ⟨tab_ok122, ⟨tab_ok123, ⟨tab_ok124, ⟨tab_ok125, ⟨tab_ok126, ⟨tab_ok127, ⟨tab_ok128, ⟨tab_ok129, ⟨tab_ok130, ⟨tab_ok131, ⟨tab_ok132, ⟨tab_ok133, ⟨tab_ok134, ⟨tab_ok135, ⟨tab_ok136, ⟨tab_ok137, ⟨tab_ok138, ⟨tab_ok139, ⟨tab_ok140, ⟨tab_ok141, ⟨tab_ok142, ⟨tab_ok144, ⟨tab_ok145, ⟨tab_ok146, ⟨tab_ok148, ⟨tab_ok149, ⟨tab_ok150, ⟨tab_ok151, ⟨tab_ok152, ⟨tab_ok153, ⟨tab_ok154, ⟨tab_ok155, ⟨tab_ok156, ⟨tab_ok157, ⟨tab_ok158, ⟨tab_ok159, ⟨tab_ok160, ⟨tab_ok169, ⟨tab_ok175, ⟨tab_ok176, trivial⟩⟩⟩⟩⟩⟩⟩⟩⟩⟩⟩⟩⟩⟩⟩⟩⟩⟩⟩⟩⟩⟩⟩⟩⟩⟩⟩⟩⟩⟩⟩⟩⟩⟩⟩⟩⟩⟩⟩⟩⟩⟩⟩⟩⟩⟩⟩⟩⟩⟩⟩⟩⟩⟩⟩⟩⟩⟩⟩⟩⟩⟩⟩⟩⟩⟩⟩⟩⟩⟩⟩⟩⟩⟩⟩⟩⟩⟩⟩⟩⟩⟩⟩⟩⟩⟩⟩⟩⟩⟩⟩⟩⟩⟩⟩⟩⟩⟩⟩⟩⟩⟩⟩⟩⟩⟩⟩⟩⟩⟩⟩⟩⟩⟩⟩⟩⟩⟩⟩⟩⟩⟩⟩⟩⟩⟩⟩⟩⟩⟩⟩⟩⟩⟩⟩⟩⟩⟩⟩⟩⟩⟩⟩⟩⟩⟩
theorem zi_ok79 : ZIok Try.prog 79 [.arr 2 0 [] true, .lit (.int .i64 0)] := ziok Try.type79 rfl (fun w M => FrL.cons' (Fr.nilF w M _ (by decide)) (FrL.cons' (Fr.lit' w M _) (FrL.nil' w M)))
end Go.D
