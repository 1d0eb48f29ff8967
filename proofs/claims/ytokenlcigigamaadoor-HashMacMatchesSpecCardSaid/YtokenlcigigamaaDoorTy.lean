/-
  The types of the seat's program, as the walk reads them. Printed.
-/
import Derived.Test.YtokenlcigigamaaDoorProg
import Derived.Test.YtokenlcigigamaaDoorAbs28
namespace Go.Abs
set_option maxRecDepth 100000
open Go.Proofs
theorem y_mix : (Tryd.prog.follows .mixedOrders = true) = True := eq_true (by decide +kernel)
theorem y_ty1 (k : TY → Prop) : tyW Tryd.prog 1 k = k (.func) := by unfold tyW tyOf; rw [Tryd.underlying1] <;> rfl
theorem y_sz1 (k : Nat → Prop) : szW Tryd.prog 1 k = k 1 := by unfold szW; rw [show Tryd.prog.info? 1 = some Tryd.t1 from Tryd.type1]; rfl
theorem y_by1 (k : Nat → Prop) : byW Tryd.prog 1 k = k 8 := by unfold byW; rw [show Tryd.prog.info? 1 = some Tryd.t1 from Tryd.type1]; rfl
theorem y_is1 : (Tryd.prog.info? 1).isSome = true := by rw [show Tryd.prog.info? 1 = some Tryd.t1 from Tryd.type1]; rfl
theorem y_zr1 (k : List D → Prop) : zeroW Tryd.prog 1 k = k [.any] := by unfold zeroW; rw [show Tryd.prog.info? 1 = some Tryd.t1 from Tryd.type1]; exact zero_is (i := Tryd.t1) rfl (by decide +kernel) (by rfl)
theorem y_ty2 (k : TY → Prop) : tyW Tryd.prog 2 k = k (.int .i64) := by unfold tyW tyOf; rw [Tryd.underlying2] <;> rfl
theorem y_sz2 (k : Nat → Prop) : szW Tryd.prog 2 k = k 1 := by unfold szW; rw [show Tryd.prog.info? 2 = some Tryd.t2 from Tryd.type2]; rfl
theorem y_by2 (k : Nat → Prop) : byW Tryd.prog 2 k = k 8 := by unfold byW; rw [show Tryd.prog.info? 2 = some Tryd.t2 from Tryd.type2]; rfl
theorem y_is2 : (Tryd.prog.info? 2).isSome = true := by rw [show Tryd.prog.info? 2 = some Tryd.t2 from Tryd.type2]; rfl
theorem y_zr2 (k : List D → Prop) : zeroW Tryd.prog 2 k = k [.int .i64 0] := by unfold zeroW; rw [show Tryd.prog.info? 2 = some Tryd.t2 from Tryd.type2]; exact zero_is (i := Tryd.t2) rfl (by decide +kernel) (by rfl)
theorem y_ty3 (k : TY → Prop) : tyW Tryd.prog 3 k = k (.int .i64) := by unfold tyW tyOf; rw [Tryd.underlying3] <;> rfl
theorem y_sz3 (k : Nat → Prop) : szW Tryd.prog 3 k = k 1 := by unfold szW; rw [show Tryd.prog.info? 3 = some Tryd.t3 from Tryd.type3]; rfl
theorem y_by3 (k : Nat → Prop) : byW Tryd.prog 3 k = k 8 := by unfold byW; rw [show Tryd.prog.info? 3 = some Tryd.t3 from Tryd.type3]; rfl
theorem y_is3 : (Tryd.prog.info? 3).isSome = true := by rw [show Tryd.prog.info? 3 = some Tryd.t3 from Tryd.type3]; rfl
theorem y_zr3 (k : List D → Prop) : zeroW Tryd.prog 3 k = k [.int .i64 0] := by unfold zeroW; rw [show Tryd.prog.info? 3 = some Tryd.t3 from Tryd.type3]; exact zero_is (i := Tryd.t3) rfl (by decide +kernel) (by rfl)
theorem y_ty4 (k : TY → Prop) : tyW Tryd.prog 4 k = k (.bool) := by unfold tyW tyOf; rw [Tryd.underlying4] <;> rfl
theorem y_sz4 (k : Nat → Prop) : szW Tryd.prog 4 k = k 1 := by unfold szW; rw [show Tryd.prog.info? 4 = some Tryd.t4 from Tryd.type4]; rfl
theorem y_by4 (k : Nat → Prop) : byW Tryd.prog 4 k = k 1 := by unfold byW; rw [show Tryd.prog.info? 4 = some Tryd.t4 from Tryd.type4]; rfl
theorem y_is4 : (Tryd.prog.info? 4).isSome = true := by rw [show Tryd.prog.info? 4 = some Tryd.t4 from Tryd.type4]; rfl
theorem y_zr4 (k : List D → Prop) : zeroW Tryd.prog 4 k = k [.bool false] := by unfold zeroW; rw [show Tryd.prog.info? 4 = some Tryd.t4 from Tryd.type4]; exact zero_is (i := Tryd.t4) rfl (by decide +kernel) (by rfl)
theorem y_ty5 (k : TY → Prop) : tyW Tryd.prog 5 k = k (.int .u8) := by unfold tyW tyOf; rw [Tryd.underlying5] <;> rfl
theorem y_sz5 (k : Nat → Prop) : szW Tryd.prog 5 k = k 1 := by unfold szW; rw [show Tryd.prog.info? 5 = some Tryd.t5 from Tryd.type5]; rfl
theorem y_by5 (k : Nat → Prop) : byW Tryd.prog 5 k = k 1 := by unfold byW; rw [show Tryd.prog.info? 5 = some Tryd.t5 from Tryd.type5]; rfl
theorem y_is5 : (Tryd.prog.info? 5).isSome = true := by rw [show Tryd.prog.info? 5 = some Tryd.t5 from Tryd.type5]; rfl
theorem y_zr5 (k : List D → Prop) : zeroW Tryd.prog 5 k = k [.int .u8 0] := by unfold zeroW; rw [show Tryd.prog.info? 5 = some Tryd.t5 from Tryd.type5]; exact zero_is (i := Tryd.t5) rfl (by decide +kernel) (by rfl)
theorem y_ty6 (k : TY → Prop) : tyW Tryd.prog 6 k = k (.int .u8) := by unfold tyW tyOf; rw [Tryd.underlying6] <;> rfl
theorem y_sz6 (k : Nat → Prop) : szW Tryd.prog 6 k = k 1 := by unfold szW; rw [show Tryd.prog.info? 6 = some Tryd.t6 from Tryd.type6]; rfl
theorem y_by6 (k : Nat → Prop) : byW Tryd.prog 6 k = k 1 := by unfold byW; rw [show Tryd.prog.info? 6 = some Tryd.t6 from Tryd.type6]; rfl
theorem y_is6 : (Tryd.prog.info? 6).isSome = true := by rw [show Tryd.prog.info? 6 = some Tryd.t6 from Tryd.type6]; rfl
theorem y_zr6 (k : List D → Prop) : zeroW Tryd.prog 6 k = k [.int .u8 0] := by unfold zeroW; rw [show Tryd.prog.info? 6 = some Tryd.t6 from Tryd.type6]; exact zero_is (i := Tryd.t6) rfl (by decide +kernel) (by rfl)
theorem y_ty7 (k : TY → Prop) : tyW Tryd.prog 7 k = k (.struct [(0, 2), (1, 3), (2, 4), (3, 6)]) := by unfold tyW tyOf; rw [Tryd.underlying7] <;> rfl
theorem y_fl7x0 (k : Nat → TypeId → Prop) : fldW Tryd.prog 7 0 k = k 0 2 := by unfold fldW tyOf; rw [Tryd.underlying7] <;> rfl
theorem y_fl7x1 (k : Nat → TypeId → Prop) : fldW Tryd.prog 7 1 k = k 1 3 := by unfold fldW tyOf; rw [Tryd.underlying7] <;> rfl
theorem y_fl7x2 (k : Nat → TypeId → Prop) : fldW Tryd.prog 7 2 k = k 2 4 := by unfold fldW tyOf; rw [Tryd.underlying7] <;> rfl
theorem y_fl7x3 (k : Nat → TypeId → Prop) : fldW Tryd.prog 7 3 k = k 3 6 := by unfold fldW tyOf; rw [Tryd.underlying7] <;> rfl
theorem y_sz7 (k : Nat → Prop) : szW Tryd.prog 7 k = k 4 := by unfold szW; rw [show Tryd.prog.info? 7 = some Tryd.t7 from Tryd.type7]; rfl
theorem y_by7 (k : Nat → Prop) : byW Tryd.prog 7 k = k 24 := by unfold byW; rw [show Tryd.prog.info? 7 = some Tryd.t7 from Tryd.type7]; rfl
theorem y_is7 : (Tryd.prog.info? 7).isSome = true := by rw [show Tryd.prog.info? 7 = some Tryd.t7 from Tryd.type7]; rfl
theorem y_zr7 (k : List D → Prop) : zeroW Tryd.prog 7 k = k [.int .i64 0, .int .i64 0, .bool false, .int .u8 0] := by unfold zeroW; rw [show Tryd.prog.info? 7 = some Tryd.t7 from Tryd.type7]; exact zero_is (i := Tryd.t7) rfl (by decide +kernel) (by rfl)
theorem y_ty8 (k : TY → Prop) : tyW Tryd.prog 8 k = k (.struct [(0, 2), (1, 3), (2, 4), (3, 6)]) := by unfold tyW tyOf; rw [Tryd.underlying8] <;> rfl
theorem y_fl8x0 (k : Nat → TypeId → Prop) : fldW Tryd.prog 8 0 k = k 0 2 := by unfold fldW tyOf; rw [Tryd.underlying8] <;> rfl
theorem y_fl8x1 (k : Nat → TypeId → Prop) : fldW Tryd.prog 8 1 k = k 1 3 := by unfold fldW tyOf; rw [Tryd.underlying8] <;> rfl
theorem y_fl8x2 (k : Nat → TypeId → Prop) : fldW Tryd.prog 8 2 k = k 2 4 := by unfold fldW tyOf; rw [Tryd.underlying8] <;> rfl
theorem y_fl8x3 (k : Nat → TypeId → Prop) : fldW Tryd.prog 8 3 k = k 3 6 := by unfold fldW tyOf; rw [Tryd.underlying8] <;> rfl
theorem y_sz8 (k : Nat → Prop) : szW Tryd.prog 8 k = k 4 := by unfold szW; rw [show Tryd.prog.info? 8 = some Tryd.t8 from Tryd.type8]; rfl
theorem y_by8 (k : Nat → Prop) : byW Tryd.prog 8 k = k 24 := by unfold byW; rw [show Tryd.prog.info? 8 = some Tryd.t8 from Tryd.type8]; rfl
theorem y_is8 : (Tryd.prog.info? 8).isSome = true := by rw [show Tryd.prog.info? 8 = some Tryd.t8 from Tryd.type8]; rfl
theorem y_zr8 (k : List D → Prop) : zeroW Tryd.prog 8 k = k [.int .i64 0, .int .i64 0, .bool false, .int .u8 0] := by unfold zeroW; rw [show Tryd.prog.info? 8 = some Tryd.t8 from Tryd.type8]; exact zero_is (i := Tryd.t8) rfl (by decide +kernel) (by rfl)
theorem y_ty9 (k : TY → Prop) : tyW Tryd.prog 9 k = k (.str) := by unfold tyW tyOf; rw [Tryd.underlying9] <;> rfl
theorem y_sz9 (k : Nat → Prop) : szW Tryd.prog 9 k = k 1 := by unfold szW; rw [show Tryd.prog.info? 9 = some Tryd.t9 from Tryd.type9]; rfl
theorem y_by9 (k : Nat → Prop) : byW Tryd.prog 9 k = k 16 := by unfold byW; rw [show Tryd.prog.info? 9 = some Tryd.t9 from Tryd.type9]; rfl
theorem y_is9 : (Tryd.prog.info? 9).isSome = true := by rw [show Tryd.prog.info? 9 = some Tryd.t9 from Tryd.type9]; rfl
theorem y_zr9 (k : List D → Prop) : zeroW Tryd.prog 9 k = k [.str []] := by unfold zeroW; rw [show Tryd.prog.info? 9 = some Tryd.t9 from Tryd.type9]; exact zero_is (i := Tryd.t9) rfl (by decide +kernel) (by rfl)
theorem y_ty10 (k : TY → Prop) : tyW Tryd.prog 10 k = k (.str) := by unfold tyW tyOf; rw [Tryd.underlying10] <;> rfl
theorem y_sz10 (k : Nat → Prop) : szW Tryd.prog 10 k = k 1 := by unfold szW; rw [show Tryd.prog.info? 10 = some Tryd.t10 from Tryd.type10]; rfl
theorem y_by10 (k : Nat → Prop) : byW Tryd.prog 10 k = k 16 := by unfold byW; rw [show Tryd.prog.info? 10 = some Tryd.t10 from Tryd.type10]; rfl
theorem y_is10 : (Tryd.prog.info? 10).isSome = true := by rw [show Tryd.prog.info? 10 = some Tryd.t10 from Tryd.type10]; rfl
theorem y_zr10 (k : List D → Prop) : zeroW Tryd.prog 10 k = k [.str []] := by unfold zeroW; rw [show Tryd.prog.info? 10 = some Tryd.t10 from Tryd.type10]; exact zero_is (i := Tryd.t10) rfl (by decide +kernel) (by rfl)
theorem y_ty11 (k : TY → Prop) : tyW Tryd.prog 11 k = k (.str) := by unfold tyW tyOf; rw [Tryd.underlying11] <;> rfl
theorem y_sz11 (k : Nat → Prop) : szW Tryd.prog 11 k = k 1 := by unfold szW; rw [show Tryd.prog.info? 11 = some Tryd.t11 from Tryd.type11]; rfl
theorem y_by11 (k : Nat → Prop) : byW Tryd.prog 11 k = k 16 := by unfold byW; rw [show Tryd.prog.info? 11 = some Tryd.t11 from Tryd.type11]; rfl
theorem y_is11 : (Tryd.prog.info? 11).isSome = true := by rw [show Tryd.prog.info? 11 = some Tryd.t11 from Tryd.type11]; rfl
theorem y_zr11 (k : List D → Prop) : zeroW Tryd.prog 11 k = k [.str []] := by unfold zeroW; rw [show Tryd.prog.info? 11 = some Tryd.t11 from Tryd.type11]; exact zero_is (i := Tryd.t11) rfl (by decide +kernel) (by rfl)
theorem y_ty12 (k : TY → Prop) : tyW Tryd.prog 12 k = k (.int .u64) := by unfold tyW tyOf; rw [Tryd.underlying12] <;> rfl
theorem y_sz12 (k : Nat → Prop) : szW Tryd.prog 12 k = k 1 := by unfold szW; rw [show Tryd.prog.info? 12 = some Tryd.t12 from Tryd.type12]; rfl
theorem y_by12 (k : Nat → Prop) : byW Tryd.prog 12 k = k 8 := by unfold byW; rw [show Tryd.prog.info? 12 = some Tryd.t12 from Tryd.type12]; rfl
theorem y_is12 : (Tryd.prog.info? 12).isSome = true := by rw [show Tryd.prog.info? 12 = some Tryd.t12 from Tryd.type12]; rfl
theorem y_zr12 (k : List D → Prop) : zeroW Tryd.prog 12 k = k [.int .u64 0] := by unfold zeroW; rw [show Tryd.prog.info? 12 = some Tryd.t12 from Tryd.type12]; exact zero_is (i := Tryd.t12) rfl (by decide +kernel) (by rfl)
theorem y_ty13 (k : TY → Prop) : tyW Tryd.prog 13 k = k (.struct [(0, 9), (1, 12)]) := by unfold tyW tyOf; rw [Tryd.underlying13] <;> rfl
theorem y_fl13x0 (k : Nat → TypeId → Prop) : fldW Tryd.prog 13 0 k = k 0 9 := by unfold fldW tyOf; rw [Tryd.underlying13] <;> rfl
theorem y_fl13x1 (k : Nat → TypeId → Prop) : fldW Tryd.prog 13 1 k = k 1 12 := by unfold fldW tyOf; rw [Tryd.underlying13] <;> rfl
theorem y_sz13 (k : Nat → Prop) : szW Tryd.prog 13 k = k 2 := by unfold szW; rw [show Tryd.prog.info? 13 = some Tryd.t13 from Tryd.type13]; rfl
theorem y_by13 (k : Nat → Prop) : byW Tryd.prog 13 k = k 24 := by unfold byW; rw [show Tryd.prog.info? 13 = some Tryd.t13 from Tryd.type13]; rfl
theorem y_is13 : (Tryd.prog.info? 13).isSome = true := by rw [show Tryd.prog.info? 13 = some Tryd.t13 from Tryd.type13]; rfl
theorem y_zr13 (k : List D → Prop) : zeroW Tryd.prog 13 k = k [.str [], .int .u64 0] := by unfold zeroW; rw [show Tryd.prog.info? 13 = some Tryd.t13 from Tryd.type13]; exact zero_is (i := Tryd.t13) rfl (by decide +kernel) (by rfl)
theorem y_ty14 (k : TY → Prop) : tyW Tryd.prog 14 k = k (.struct [(0, 9), (1, 12)]) := by unfold tyW tyOf; rw [Tryd.underlying14] <;> rfl
theorem y_fl14x0 (k : Nat → TypeId → Prop) : fldW Tryd.prog 14 0 k = k 0 9 := by unfold fldW tyOf; rw [Tryd.underlying14] <;> rfl
theorem y_fl14x1 (k : Nat → TypeId → Prop) : fldW Tryd.prog 14 1 k = k 1 12 := by unfold fldW tyOf; rw [Tryd.underlying14] <;> rfl
theorem y_sz14 (k : Nat → Prop) : szW Tryd.prog 14 k = k 2 := by unfold szW; rw [show Tryd.prog.info? 14 = some Tryd.t14 from Tryd.type14]; rfl
theorem y_by14 (k : Nat → Prop) : byW Tryd.prog 14 k = k 24 := by unfold byW; rw [show Tryd.prog.info? 14 = some Tryd.t14 from Tryd.type14]; rfl
theorem y_is14 : (Tryd.prog.info? 14).isSome = true := by rw [show Tryd.prog.info? 14 = some Tryd.t14 from Tryd.type14]; rfl
theorem y_zr14 (k : List D → Prop) : zeroW Tryd.prog 14 k = k [.str [], .int .u64 0] := by unfold zeroW; rw [show Tryd.prog.info? 14 = some Tryd.t14 from Tryd.type14]; exact zero_is (i := Tryd.t14) rfl (by decide +kernel) (by rfl)
theorem y_ty15 (k : TY → Prop) : tyW Tryd.prog 15 k = k (.ptr 78) := by unfold tyW tyOf; rw [Tryd.underlying15] <;> rfl
theorem y_sz15 (k : Nat → Prop) : szW Tryd.prog 15 k = k 1 := by unfold szW; rw [show Tryd.prog.info? 15 = some Tryd.t15 from Tryd.type15]; rfl
theorem y_by15 (k : Nat → Prop) : byW Tryd.prog 15 k = k 8 := by unfold byW; rw [show Tryd.prog.info? 15 = some Tryd.t15 from Tryd.type15]; rfl
theorem y_is15 : (Tryd.prog.info? 15).isSome = true := by rw [show Tryd.prog.info? 15 = some Tryd.t15 from Tryd.type15]; rfl
theorem y_zr15 (k : List D → Prop) : zeroW Tryd.prog 15 k = k [.any] := by unfold zeroW; rw [show Tryd.prog.info? 15 = some Tryd.t15 from Tryd.type15]; exact zero_is (i := Tryd.t15) rfl (by decide +kernel) (by rfl)
theorem y_ty16 (k : TY → Prop) : tyW Tryd.prog 16 k = k (.ptr 81) := by unfold tyW tyOf; rw [Tryd.underlying16] <;> rfl
theorem y_sz16 (k : Nat → Prop) : szW Tryd.prog 16 k = k 1 := by unfold szW; rw [show Tryd.prog.info? 16 = some Tryd.t16 from Tryd.type16]; rfl
theorem y_by16 (k : Nat → Prop) : byW Tryd.prog 16 k = k 8 := by unfold byW; rw [show Tryd.prog.info? 16 = some Tryd.t16 from Tryd.type16]; rfl
theorem y_is16 : (Tryd.prog.info? 16).isSome = true := by rw [show Tryd.prog.info? 16 = some Tryd.t16 from Tryd.type16]; rfl
theorem y_zr16 (k : List D → Prop) : zeroW Tryd.prog 16 k = k [.any] := by unfold zeroW; rw [show Tryd.prog.info? 16 = some Tryd.t16 from Tryd.type16]; exact zero_is (i := Tryd.t16) rfl (by decide +kernel) (by rfl)
theorem y_ty17 (k : TY → Prop) : tyW Tryd.prog 17 k = k (.ptr 90) := by unfold tyW tyOf; rw [Tryd.underlying17] <;> rfl
theorem y_sz17 (k : Nat → Prop) : szW Tryd.prog 17 k = k 1 := by unfold szW; rw [show Tryd.prog.info? 17 = some Tryd.t17 from Tryd.type17]; rfl
theorem y_by17 (k : Nat → Prop) : byW Tryd.prog 17 k = k 8 := by unfold byW; rw [show Tryd.prog.info? 17 = some Tryd.t17 from Tryd.type17]; rfl
theorem y_is17 : (Tryd.prog.info? 17).isSome = true := by rw [show Tryd.prog.info? 17 = some Tryd.t17 from Tryd.type17]; rfl
theorem y_zr17 (k : List D → Prop) : zeroW Tryd.prog 17 k = k [.any] := by unfold zeroW; rw [show Tryd.prog.info? 17 = some Tryd.t17 from Tryd.type17]; exact zero_is (i := Tryd.t17) rfl (by decide +kernel) (by rfl)
theorem y_ty18 (k : TY → Prop) : tyW Tryd.prog 18 k = k (.struct [(0, 17)]) := by unfold tyW tyOf; rw [Tryd.underlying18] <;> rfl
theorem y_fl18x0 (k : Nat → TypeId → Prop) : fldW Tryd.prog 18 0 k = k 0 17 := by unfold fldW tyOf; rw [Tryd.underlying18] <;> rfl
theorem y_sz18 (k : Nat → Prop) : szW Tryd.prog 18 k = k 1 := by unfold szW; rw [show Tryd.prog.info? 18 = some Tryd.t18 from Tryd.type18]; rfl
theorem y_by18 (k : Nat → Prop) : byW Tryd.prog 18 k = k 8 := by unfold byW; rw [show Tryd.prog.info? 18 = some Tryd.t18 from Tryd.type18]; rfl
theorem y_is18 : (Tryd.prog.info? 18).isSome = true := by rw [show Tryd.prog.info? 18 = some Tryd.t18 from Tryd.type18]; rfl
theorem y_zr18 (k : List D → Prop) : zeroW Tryd.prog 18 k = k [.any] := by unfold zeroW; rw [show Tryd.prog.info? 18 = some Tryd.t18 from Tryd.type18]; exact zero_is (i := Tryd.t18) rfl (by decide +kernel) (by rfl)
theorem y_ty19 (k : TY → Prop) : tyW Tryd.prog 19 k = k (.struct [(0, 17)]) := by unfold tyW tyOf; rw [Tryd.underlying19] <;> rfl
theorem y_fl19x0 (k : Nat → TypeId → Prop) : fldW Tryd.prog 19 0 k = k 0 17 := by unfold fldW tyOf; rw [Tryd.underlying19] <;> rfl
theorem y_sz19 (k : Nat → Prop) : szW Tryd.prog 19 k = k 1 := by unfold szW; rw [show Tryd.prog.info? 19 = some Tryd.t19 from Tryd.type19]; rfl
theorem y_by19 (k : Nat → Prop) : byW Tryd.prog 19 k = k 8 := by unfold byW; rw [show Tryd.prog.info? 19 = some Tryd.t19 from Tryd.type19]; rfl
theorem y_is19 : (Tryd.prog.info? 19).isSome = true := by rw [show Tryd.prog.info? 19 = some Tryd.t19 from Tryd.type19]; rfl
theorem y_zr19 (k : List D → Prop) : zeroW Tryd.prog 19 k = k [.any] := by unfold zeroW; rw [show Tryd.prog.info? 19 = some Tryd.t19 from Tryd.type19]; exact zero_is (i := Tryd.t19) rfl (by decide +kernel) (by rfl)
theorem y_ty21 (k : TY → Prop) : tyW Tryd.prog 21 k = k (.int .i32) := by unfold tyW tyOf; rw [Tryd.underlying21] <;> rfl
theorem y_sz21 (k : Nat → Prop) : szW Tryd.prog 21 k = k 1 := by unfold szW; rw [show Tryd.prog.info? 21 = some Tryd.t21 from Tryd.type21]; rfl
theorem y_by21 (k : Nat → Prop) : byW Tryd.prog 21 k = k 4 := by unfold byW; rw [show Tryd.prog.info? 21 = some Tryd.t21 from Tryd.type21]; rfl
theorem y_is21 : (Tryd.prog.info? 21).isSome = true := by rw [show Tryd.prog.info? 21 = some Tryd.t21 from Tryd.type21]; rfl
theorem y_zr21 (k : List D → Prop) : zeroW Tryd.prog 21 k = k [.int .i32 0] := by unfold zeroW; rw [show Tryd.prog.info? 21 = some Tryd.t21 from Tryd.type21]; exact zero_is (i := Tryd.t21) rfl (by decide +kernel) (by rfl)
theorem y_ty22 (k : TY → Prop) : tyW Tryd.prog 22 k = k (.slice 5) := by unfold tyW tyOf; rw [Tryd.underlying22] <;> rfl
theorem y_sz22 (k : Nat → Prop) : szW Tryd.prog 22 k = k 1 := by unfold szW; rw [show Tryd.prog.info? 22 = some Tryd.t22 from Tryd.type22]; rfl
theorem y_by22 (k : Nat → Prop) : byW Tryd.prog 22 k = k 24 := by unfold byW; rw [show Tryd.prog.info? 22 = some Tryd.t22 from Tryd.type22]; rfl
theorem y_is22 : (Tryd.prog.info? 22).isSome = true := by rw [show Tryd.prog.info? 22 = some Tryd.t22 from Tryd.type22]; rfl
theorem y_zr22 (k : List D → Prop) : zeroW Tryd.prog 22 k = k [.nils] := by unfold zeroW; rw [show Tryd.prog.info? 22 = some Tryd.t22 from Tryd.type22]; exact zero_is (i := Tryd.t22) rfl (by decide +kernel) (by rfl)
theorem y_ty23 (k : TY → Prop) : tyW Tryd.prog 23 k = k (.func) := by unfold tyW tyOf; rw [Tryd.underlying23] <;> rfl
theorem y_sz23 (k : Nat → Prop) : szW Tryd.prog 23 k = k 1 := by unfold szW; rw [show Tryd.prog.info? 23 = some Tryd.t23 from Tryd.type23]; rfl
theorem y_by23 (k : Nat → Prop) : byW Tryd.prog 23 k = k 8 := by unfold byW; rw [show Tryd.prog.info? 23 = some Tryd.t23 from Tryd.type23]; rfl
theorem y_is23 : (Tryd.prog.info? 23).isSome = true := by rw [show Tryd.prog.info? 23 = some Tryd.t23 from Tryd.type23]; rfl
theorem y_zr23 (k : List D → Prop) : zeroW Tryd.prog 23 k = k [.any] := by unfold zeroW; rw [show Tryd.prog.info? 23 = some Tryd.t23 from Tryd.type23]; exact zero_is (i := Tryd.t23) rfl (by decide +kernel) (by rfl)
theorem y_ty24 (k : TY → Prop) : tyW Tryd.prog 24 k = k (.arr 32 5) := by unfold tyW tyOf; rw [Tryd.underlying24] <;> rfl
theorem y_sz24 (k : Nat → Prop) : szW Tryd.prog 24 k = k 32 := by unfold szW; rw [show Tryd.prog.info? 24 = some Tryd.t24 from Tryd.type24]; rfl
theorem y_by24 (k : Nat → Prop) : byW Tryd.prog 24 k = k 32 := by unfold byW; rw [show Tryd.prog.info? 24 = some Tryd.t24 from Tryd.type24]; rfl
theorem y_is24 : (Tryd.prog.info? 24).isSome = true := by rw [show Tryd.prog.info? 24 = some Tryd.t24 from Tryd.type24]; rfl
theorem y_zr24 (k : List D → Prop) : zeroW Tryd.prog 24 k = k [.int .u8 0, .int .u8 0, .int .u8 0, .int .u8 0, .int .u8 0, .int .u8 0, .int .u8 0, .int .u8 0, .int .u8 0, .int .u8 0, .int .u8 0, .int .u8 0, .int .u8 0, .int .u8 0, .int .u8 0, .int .u8 0, .int .u8 0, .int .u8 0, .int .u8 0, .int .u8 0, .int .u8 0, .int .u8 0, .int .u8 0, .int .u8 0, .int .u8 0, .int .u8 0, .int .u8 0, .int .u8 0, .int .u8 0, .int .u8 0, .int .u8 0, .int .u8 0] := by unfold zeroW; rw [show Tryd.prog.info? 24 = some Tryd.t24 from Tryd.type24]; exact zero_is (i := Tryd.t24) rfl (by decide +kernel) (by rfl)
theorem y_fk24 (k : List K → Prop) : flkW Tryd.prog 24 k = k (List.replicate 32 (.int .u8)) := by unfold flkW; rw [show flatK Tryd.prog 8 24 = some (List.replicate 32 (.int .u8)) from rfl]; exact flk_is (by decide +kernel) Tryd.eqGuardType24 (by decide +kernel) ⟨default, .inr ⟨_, _, Tryd.underlying24⟩⟩
theorem y_ty25 (k : TY → Prop) : tyW Tryd.prog 25 k = k (.func) := by unfold tyW tyOf; rw [Tryd.underlying25] <;> rfl
theorem y_sz25 (k : Nat → Prop) : szW Tryd.prog 25 k = k 1 := by unfold szW; rw [show Tryd.prog.info? 25 = some Tryd.t25 from Tryd.type25]; rfl
theorem y_by25 (k : Nat → Prop) : byW Tryd.prog 25 k = k 8 := by unfold byW; rw [show Tryd.prog.info? 25 = some Tryd.t25 from Tryd.type25]; rfl
theorem y_is25 : (Tryd.prog.info? 25).isSome = true := by rw [show Tryd.prog.info? 25 = some Tryd.t25 from Tryd.type25]; rfl
theorem y_zr25 (k : List D → Prop) : zeroW Tryd.prog 25 k = k [.any] := by unfold zeroW; rw [show Tryd.prog.info? 25 = some Tryd.t25 from Tryd.type25]; exact zero_is (i := Tryd.t25) rfl (by decide +kernel) (by rfl)
theorem y_ty26 (k : TY → Prop) : tyW Tryd.prog 26 k = k (.func) := by unfold tyW tyOf; rw [Tryd.underlying26] <;> rfl
theorem y_sz26 (k : Nat → Prop) : szW Tryd.prog 26 k = k 1 := by unfold szW; rw [show Tryd.prog.info? 26 = some Tryd.t26 from Tryd.type26]; rfl
theorem y_by26 (k : Nat → Prop) : byW Tryd.prog 26 k = k 8 := by unfold byW; rw [show Tryd.prog.info? 26 = some Tryd.t26 from Tryd.type26]; rfl
theorem y_is26 : (Tryd.prog.info? 26).isSome = true := by rw [show Tryd.prog.info? 26 = some Tryd.t26 from Tryd.type26]; rfl
theorem y_zr26 (k : List D → Prop) : zeroW Tryd.prog 26 k = k [.any] := by unfold zeroW; rw [show Tryd.prog.info? 26 = some Tryd.t26 from Tryd.type26]; exact zero_is (i := Tryd.t26) rfl (by decide +kernel) (by rfl)
theorem y_ty27 (k : TY → Prop) : tyW Tryd.prog 27 k = k (.slice 9) := by unfold tyW tyOf; rw [Tryd.underlying27] <;> rfl
theorem y_sz27 (k : Nat → Prop) : szW Tryd.prog 27 k = k 1 := by unfold szW; rw [show Tryd.prog.info? 27 = some Tryd.t27 from Tryd.type27]; rfl
theorem y_by27 (k : Nat → Prop) : byW Tryd.prog 27 k = k 24 := by unfold byW; rw [show Tryd.prog.info? 27 = some Tryd.t27 from Tryd.type27]; rfl
theorem y_is27 : (Tryd.prog.info? 27).isSome = true := by rw [show Tryd.prog.info? 27 = some Tryd.t27 from Tryd.type27]; rfl
theorem y_zr27 (k : List D → Prop) : zeroW Tryd.prog 27 k = k [.nils] := by unfold zeroW; rw [show Tryd.prog.info? 27 = some Tryd.t27 from Tryd.type27]; exact zero_is (i := Tryd.t27) rfl (by decide +kernel) (by rfl)
theorem y_ty28 (k : TY → Prop) : tyW Tryd.prog 28 k = k (.func) := by unfold tyW tyOf; rw [Tryd.underlying28] <;> rfl
theorem y_sz28 (k : Nat → Prop) : szW Tryd.prog 28 k = k 1 := by unfold szW; rw [show Tryd.prog.info? 28 = some Tryd.t28 from Tryd.type28]; rfl
theorem y_by28 (k : Nat → Prop) : byW Tryd.prog 28 k = k 8 := by unfold byW; rw [show Tryd.prog.info? 28 = some Tryd.t28 from Tryd.type28]; rfl
theorem y_is28 : (Tryd.prog.info? 28).isSome = true := by rw [show Tryd.prog.info? 28 = some Tryd.t28 from Tryd.type28]; rfl
theorem y_zr28 (k : List D → Prop) : zeroW Tryd.prog 28 k = k [.any] := by unfold zeroW; rw [show Tryd.prog.info? 28 = some Tryd.t28 from Tryd.type28]; exact zero_is (i := Tryd.t28) rfl (by decide +kernel) (by rfl)
theorem y_ty29 (k : TY → Prop) : tyW Tryd.prog 29 k = k (.int .u32) := by unfold tyW tyOf; rw [Tryd.underlying29] <;> rfl
theorem y_sz29 (k : Nat → Prop) : szW Tryd.prog 29 k = k 1 := by unfold szW; rw [show Tryd.prog.info? 29 = some Tryd.t29 from Tryd.type29]; rfl
theorem y_by29 (k : Nat → Prop) : byW Tryd.prog 29 k = k 4 := by unfold byW; rw [show Tryd.prog.info? 29 = some Tryd.t29 from Tryd.type29]; rfl
theorem y_is29 : (Tryd.prog.info? 29).isSome = true := by rw [show Tryd.prog.info? 29 = some Tryd.t29 from Tryd.type29]; rfl
theorem y_zr29 (k : List D → Prop) : zeroW Tryd.prog 29 k = k [.int .u32 0] := by unfold zeroW; rw [show Tryd.prog.info? 29 = some Tryd.t29 from Tryd.type29]; exact zero_is (i := Tryd.t29) rfl (by decide +kernel) (by rfl)
theorem y_ty30 (k : TY → Prop) : tyW Tryd.prog 30 k = k (.arr 8 29) := by unfold tyW tyOf; rw [Tryd.underlying30] <;> rfl
theorem y_sz30 (k : Nat → Prop) : szW Tryd.prog 30 k = k 8 := by unfold szW; rw [show Tryd.prog.info? 30 = some Tryd.t30 from Tryd.type30]; rfl
theorem y_by30 (k : Nat → Prop) : byW Tryd.prog 30 k = k 32 := by unfold byW; rw [show Tryd.prog.info? 30 = some Tryd.t30 from Tryd.type30]; rfl
theorem y_is30 : (Tryd.prog.info? 30).isSome = true := by rw [show Tryd.prog.info? 30 = some Tryd.t30 from Tryd.type30]; rfl
theorem y_zr30 (k : List D → Prop) : zeroW Tryd.prog 30 k = k [.int .u32 0, .int .u32 0, .int .u32 0, .int .u32 0, .int .u32 0, .int .u32 0, .int .u32 0, .int .u32 0] := by unfold zeroW; rw [show Tryd.prog.info? 30 = some Tryd.t30 from Tryd.type30]; exact zero_is (i := Tryd.t30) rfl (by decide +kernel) (by rfl)
theorem y_ty31 (k : TY → Prop) : tyW Tryd.prog 31 k = k (.arr 64 5) := by unfold tyW tyOf; rw [Tryd.underlying31] <;> rfl
theorem y_sz31 (k : Nat → Prop) : szW Tryd.prog 31 k = k 64 := by unfold szW; rw [show Tryd.prog.info? 31 = some Tryd.t31 from Tryd.type31]; rfl
theorem y_by31 (k : Nat → Prop) : byW Tryd.prog 31 k = k 64 := by unfold byW; rw [show Tryd.prog.info? 31 = some Tryd.t31 from Tryd.type31]; rfl
theorem y_is31 : (Tryd.prog.info? 31).isSome = true := by rw [show Tryd.prog.info? 31 = some Tryd.t31 from Tryd.type31]; rfl
theorem y_zr31 (k : List D → Prop) : zeroW Tryd.prog 31 k = k [.int .u8 0, .int .u8 0, .int .u8 0, .int .u8 0, .int .u8 0, .int .u8 0, .int .u8 0, .int .u8 0, .int .u8 0, .int .u8 0, .int .u8 0, .int .u8 0, .int .u8 0, .int .u8 0, .int .u8 0, .int .u8 0, .int .u8 0, .int .u8 0, .int .u8 0, .int .u8 0, .int .u8 0, .int .u8 0, .int .u8 0, .int .u8 0, .int .u8 0, .int .u8 0, .int .u8 0, .int .u8 0, .int .u8 0, .int .u8 0, .int .u8 0, .int .u8 0, .int .u8 0, .int .u8 0, .int .u8 0, .int .u8 0, .int .u8 0, .int .u8 0, .int .u8 0, .int .u8 0, .int .u8 0, .int .u8 0, .int .u8 0, .int .u8 0, .int .u8 0, .int .u8 0, .int .u8 0, .int .u8 0, .int .u8 0, .int .u8 0, .int .u8 0, .int .u8 0, .int .u8 0, .int .u8 0, .int .u8 0, .int .u8 0, .int .u8 0, .int .u8 0, .int .u8 0, .int .u8 0, .int .u8 0, .int .u8 0, .int .u8 0, .int .u8 0] := by unfold zeroW; rw [show Tryd.prog.info? 31 = some Tryd.t31 from Tryd.type31]; exact zero_is (i := Tryd.t31) rfl (by decide +kernel) (by rfl)
theorem y_ty32 (k : TY → Prop) : tyW Tryd.prog 32 k = k (.int .u64) := by unfold tyW tyOf; rw [Tryd.underlying32] <;> rfl
theorem y_sz32 (k : Nat → Prop) : szW Tryd.prog 32 k = k 1 := by unfold szW; rw [show Tryd.prog.info? 32 = some Tryd.t32 from Tryd.type32]; rfl
theorem y_by32 (k : Nat → Prop) : byW Tryd.prog 32 k = k 8 := by unfold byW; rw [show Tryd.prog.info? 32 = some Tryd.t32 from Tryd.type32]; rfl
theorem y_is32 : (Tryd.prog.info? 32).isSome = true := by rw [show Tryd.prog.info? 32 = some Tryd.t32 from Tryd.type32]; rfl
theorem y_zr32 (k : List D → Prop) : zeroW Tryd.prog 32 k = k [.int .u64 0] := by unfold zeroW; rw [show Tryd.prog.info? 32 = some Tryd.t32 from Tryd.type32]; exact zero_is (i := Tryd.t32) rfl (by decide +kernel) (by rfl)
theorem y_ty33 (k : TY → Prop) : tyW Tryd.prog 33 k = k (.struct [(0, 30), (8, 31), (72, 32)]) := by unfold tyW tyOf; rw [Tryd.underlying33] <;> rfl
theorem y_fl33x0 (k : Nat → TypeId → Prop) : fldW Tryd.prog 33 0 k = k 0 30 := by unfold fldW tyOf; rw [Tryd.underlying33] <;> rfl
theorem y_fl33x1 (k : Nat → TypeId → Prop) : fldW Tryd.prog 33 1 k = k 8 31 := by unfold fldW tyOf; rw [Tryd.underlying33] <;> rfl
theorem y_fl33x2 (k : Nat → TypeId → Prop) : fldW Tryd.prog 33 2 k = k 72 32 := by unfold fldW tyOf; rw [Tryd.underlying33] <;> rfl
theorem y_sz33 (k : Nat → Prop) : szW Tryd.prog 33 k = k 73 := by unfold szW; rw [show Tryd.prog.info? 33 = some Tryd.t33 from Tryd.type33]; rfl
theorem y_by33 (k : Nat → Prop) : byW Tryd.prog 33 k = k 104 := by unfold byW; rw [show Tryd.prog.info? 33 = some Tryd.t33 from Tryd.type33]; rfl
theorem y_is33 : (Tryd.prog.info? 33).isSome = true := by rw [show Tryd.prog.info? 33 = some Tryd.t33 from Tryd.type33]; rfl
theorem y_zr33 (k : List D → Prop) : zeroW Tryd.prog 33 k = k [.int .u32 0, .int .u32 0, .int .u32 0, .int .u32 0, .int .u32 0, .int .u32 0, .int .u32 0, .int .u32 0, .int .u8 0, .int .u8 0, .int .u8 0, .int .u8 0, .int .u8 0, .int .u8 0, .int .u8 0, .int .u8 0, .int .u8 0, .int .u8 0, .int .u8 0, .int .u8 0, .int .u8 0, .int .u8 0, .int .u8 0, .int .u8 0, .int .u8 0, .int .u8 0, .int .u8 0, .int .u8 0, .int .u8 0, .int .u8 0, .int .u8 0, .int .u8 0, .int .u8 0, .int .u8 0, .int .u8 0, .int .u8 0, .int .u8 0, .int .u8 0, .int .u8 0, .int .u8 0, .int .u8 0, .int .u8 0, .int .u8 0, .int .u8 0, .int .u8 0, .int .u8 0, .int .u8 0, .int .u8 0, .int .u8 0, .int .u8 0, .int .u8 0, .int .u8 0, .int .u8 0, .int .u8 0, .int .u8 0, .int .u8 0, .int .u8 0, .int .u8 0, .int .u8 0, .int .u8 0, .int .u8 0, .int .u8 0, .int .u8 0, .int .u8 0, .int .u8 0, .int .u8 0, .int .u8 0, .int .u8 0, .int .u8 0, .int .u8 0, .int .u8 0, .int .u8 0, .int .u64 0] := by unfold zeroW; rw [show Tryd.prog.info? 33 = some Tryd.t33 from Tryd.type33]; exact zero_is (i := Tryd.t33) rfl (by decide +kernel) (by rfl)
theorem y_ty34 (k : TY → Prop) : tyW Tryd.prog 34 k = k (.struct [(0, 30), (8, 31), (72, 32)]) := by unfold tyW tyOf; rw [Tryd.underlying34] <;> rfl
theorem y_fl34x0 (k : Nat → TypeId → Prop) : fldW Tryd.prog 34 0 k = k 0 30 := by unfold fldW tyOf; rw [Tryd.underlying34] <;> rfl
theorem y_fl34x1 (k : Nat → TypeId → Prop) : fldW Tryd.prog 34 1 k = k 8 31 := by unfold fldW tyOf; rw [Tryd.underlying34] <;> rfl
theorem y_fl34x2 (k : Nat → TypeId → Prop) : fldW Tryd.prog 34 2 k = k 72 32 := by unfold fldW tyOf; rw [Tryd.underlying34] <;> rfl
theorem y_sz34 (k : Nat → Prop) : szW Tryd.prog 34 k = k 73 := by unfold szW; rw [show Tryd.prog.info? 34 = some Tryd.t34 from Tryd.type34]; rfl
theorem y_by34 (k : Nat → Prop) : byW Tryd.prog 34 k = k 104 := by unfold byW; rw [show Tryd.prog.info? 34 = some Tryd.t34 from Tryd.type34]; rfl
theorem y_is34 : (Tryd.prog.info? 34).isSome = true := by rw [show Tryd.prog.info? 34 = some Tryd.t34 from Tryd.type34]; rfl
theorem y_zr34 (k : List D → Prop) : zeroW Tryd.prog 34 k = k [.int .u32 0, .int .u32 0, .int .u32 0, .int .u32 0, .int .u32 0, .int .u32 0, .int .u32 0, .int .u32 0, .int .u8 0, .int .u8 0, .int .u8 0, .int .u8 0, .int .u8 0, .int .u8 0, .int .u8 0, .int .u8 0, .int .u8 0, .int .u8 0, .int .u8 0, .int .u8 0, .int .u8 0, .int .u8 0, .int .u8 0, .int .u8 0, .int .u8 0, .int .u8 0, .int .u8 0, .int .u8 0, .int .u8 0, .int .u8 0, .int .u8 0, .int .u8 0, .int .u8 0, .int .u8 0, .int .u8 0, .int .u8 0, .int .u8 0, .int .u8 0, .int .u8 0, .int .u8 0, .int .u8 0, .int .u8 0, .int .u8 0, .int .u8 0, .int .u8 0, .int .u8 0, .int .u8 0, .int .u8 0, .int .u8 0, .int .u8 0, .int .u8 0, .int .u8 0, .int .u8 0, .int .u8 0, .int .u8 0, .int .u8 0, .int .u8 0, .int .u8 0, .int .u8 0, .int .u8 0, .int .u8 0, .int .u8 0, .int .u8 0, .int .u8 0, .int .u8 0, .int .u8 0, .int .u8 0, .int .u8 0, .int .u8 0, .int .u8 0, .int .u8 0, .int .u8 0, .int .u64 0] := by unfold zeroW; rw [show Tryd.prog.info? 34 = some Tryd.t34 from Tryd.type34]; exact zero_is (i := Tryd.t34) rfl (by decide +kernel) (by rfl)
theorem y_ty35 (k : TY → Prop) : tyW Tryd.prog 35 k = k (.func) := by unfold tyW tyOf; rw [Tryd.underlying35] <;> rfl
theorem y_sz35 (k : Nat → Prop) : szW Tryd.prog 35 k = k 1 := by unfold szW; rw [show Tryd.prog.info? 35 = some Tryd.t35 from Tryd.type35]; rfl
theorem y_by35 (k : Nat → Prop) : byW Tryd.prog 35 k = k 8 := by unfold byW; rw [show Tryd.prog.info? 35 = some Tryd.t35 from Tryd.type35]; rfl
theorem y_is35 : (Tryd.prog.info? 35).isSome = true := by rw [show Tryd.prog.info? 35 = some Tryd.t35 from Tryd.type35]; rfl
theorem y_zr35 (k : List D → Prop) : zeroW Tryd.prog 35 k = k [.any] := by unfold zeroW; rw [show Tryd.prog.info? 35 = some Tryd.t35 from Tryd.type35]; exact zero_is (i := Tryd.t35) rfl (by decide +kernel) (by rfl)
theorem y_ty36 (k : TY → Prop) : tyW Tryd.prog 36 k = k (.func) := by unfold tyW tyOf; rw [Tryd.underlying36] <;> rfl
theorem y_sz36 (k : Nat → Prop) : szW Tryd.prog 36 k = k 1 := by unfold szW; rw [show Tryd.prog.info? 36 = some Tryd.t36 from Tryd.type36]; rfl
theorem y_by36 (k : Nat → Prop) : byW Tryd.prog 36 k = k 8 := by unfold byW; rw [show Tryd.prog.info? 36 = some Tryd.t36 from Tryd.type36]; rfl
theorem y_is36 : (Tryd.prog.info? 36).isSome = true := by rw [show Tryd.prog.info? 36 = some Tryd.t36 from Tryd.type36]; rfl
theorem y_zr36 (k : List D → Prop) : zeroW Tryd.prog 36 k = k [.any] := by unfold zeroW; rw [show Tryd.prog.info? 36 = some Tryd.t36 from Tryd.type36]; exact zero_is (i := Tryd.t36) rfl (by decide +kernel) (by rfl)
theorem y_ty37 (k : TY → Prop) : tyW Tryd.prog 37 k = k (.func) := by unfold tyW tyOf; rw [Tryd.underlying37] <;> rfl
theorem y_sz37 (k : Nat → Prop) : szW Tryd.prog 37 k = k 1 := by unfold szW; rw [show Tryd.prog.info? 37 = some Tryd.t37 from Tryd.type37]; rfl
theorem y_by37 (k : Nat → Prop) : byW Tryd.prog 37 k = k 8 := by unfold byW; rw [show Tryd.prog.info? 37 = some Tryd.t37 from Tryd.type37]; rfl
theorem y_is37 : (Tryd.prog.info? 37).isSome = true := by rw [show Tryd.prog.info? 37 = some Tryd.t37 from Tryd.type37]; rfl
theorem y_zr37 (k : List D → Prop) : zeroW Tryd.prog 37 k = k [.any] := by unfold zeroW; rw [show Tryd.prog.info? 37 = some Tryd.t37 from Tryd.type37]; exact zero_is (i := Tryd.t37) rfl (by decide +kernel) (by rfl)
theorem y_ty38 (k : TY → Prop) : tyW Tryd.prog 38 k = k (.func) := by unfold tyW tyOf; rw [Tryd.underlying38] <;> rfl
theorem y_sz38 (k : Nat → Prop) : szW Tryd.prog 38 k = k 1 := by unfold szW; rw [show Tryd.prog.info? 38 = some Tryd.t38 from Tryd.type38]; rfl
theorem y_by38 (k : Nat → Prop) : byW Tryd.prog 38 k = k 8 := by unfold byW; rw [show Tryd.prog.info? 38 = some Tryd.t38 from Tryd.type38]; rfl
theorem y_is38 : (Tryd.prog.info? 38).isSome = true := by rw [show Tryd.prog.info? 38 = some Tryd.t38 from Tryd.type38]; rfl
theorem y_zr38 (k : List D → Prop) : zeroW Tryd.prog 38 k = k [.any] := by unfold zeroW; rw [show Tryd.prog.info? 38 = some Tryd.t38 from Tryd.type38]; exact zero_is (i := Tryd.t38) rfl (by decide +kernel) (by rfl)
theorem y_ty39 (k : TY → Prop) : tyW Tryd.prog 39 k = k (.func) := by unfold tyW tyOf; rw [Tryd.underlying39] <;> rfl
theorem y_sz39 (k : Nat → Prop) : szW Tryd.prog 39 k = k 1 := by unfold szW; rw [show Tryd.prog.info? 39 = some Tryd.t39 from Tryd.type39]; rfl
theorem y_by39 (k : Nat → Prop) : byW Tryd.prog 39 k = k 8 := by unfold byW; rw [show Tryd.prog.info? 39 = some Tryd.t39 from Tryd.type39]; rfl
theorem y_is39 : (Tryd.prog.info? 39).isSome = true := by rw [show Tryd.prog.info? 39 = some Tryd.t39 from Tryd.type39]; rfl
theorem y_zr39 (k : List D → Prop) : zeroW Tryd.prog 39 k = k [.any] := by unfold zeroW; rw [show Tryd.prog.info? 39 = some Tryd.t39 from Tryd.type39]; exact zero_is (i := Tryd.t39) rfl (by decide +kernel) (by rfl)
theorem y_ty40 (k : TY → Prop) : tyW Tryd.prog 40 k = k (.arr 16 5) := by unfold tyW tyOf; rw [Tryd.underlying40] <;> rfl
theorem y_sz40 (k : Nat → Prop) : szW Tryd.prog 40 k = k 16 := by unfold szW; rw [show Tryd.prog.info? 40 = some Tryd.t40 from Tryd.type40]; rfl
theorem y_by40 (k : Nat → Prop) : byW Tryd.prog 40 k = k 16 := by unfold byW; rw [show Tryd.prog.info? 40 = some Tryd.t40 from Tryd.type40]; rfl
theorem y_is40 : (Tryd.prog.info? 40).isSome = true := by rw [show Tryd.prog.info? 40 = some Tryd.t40 from Tryd.type40]; rfl
theorem y_zr40 (k : List D → Prop) : zeroW Tryd.prog 40 k = k [.int .u8 0, .int .u8 0, .int .u8 0, .int .u8 0, .int .u8 0, .int .u8 0, .int .u8 0, .int .u8 0, .int .u8 0, .int .u8 0, .int .u8 0, .int .u8 0, .int .u8 0, .int .u8 0, .int .u8 0, .int .u8 0] := by unfold zeroW; rw [show Tryd.prog.info? 40 = some Tryd.t40 from Tryd.type40]; exact zero_is (i := Tryd.t40) rfl (by decide +kernel) (by rfl)
theorem y_ty41 (k : TY → Prop) : tyW Tryd.prog 41 k = k (.arr 16 5) := by unfold tyW tyOf; rw [Tryd.underlying41] <;> rfl
theorem y_sz41 (k : Nat → Prop) : szW Tryd.prog 41 k = k 16 := by unfold szW; rw [show Tryd.prog.info? 41 = some Tryd.t41 from Tryd.type41]; rfl
theorem y_by41 (k : Nat → Prop) : byW Tryd.prog 41 k = k 16 := by unfold byW; rw [show Tryd.prog.info? 41 = some Tryd.t41 from Tryd.type41]; rfl
theorem y_is41 : (Tryd.prog.info? 41).isSome = true := by rw [show Tryd.prog.info? 41 = some Tryd.t41 from Tryd.type41]; rfl
theorem y_zr41 (k : List D → Prop) : zeroW Tryd.prog 41 k = k [.int .u8 0, .int .u8 0, .int .u8 0, .int .u8 0, .int .u8 0, .int .u8 0, .int .u8 0, .int .u8 0, .int .u8 0, .int .u8 0, .int .u8 0, .int .u8 0, .int .u8 0, .int .u8 0, .int .u8 0, .int .u8 0] := by unfold zeroW; rw [show Tryd.prog.info? 41 = some Tryd.t41 from Tryd.type41]; exact zero_is (i := Tryd.t41) rfl (by decide +kernel) (by rfl)
theorem y_fk41 (k : List K → Prop) : flkW Tryd.prog 41 k = k (List.replicate 16 (.int .u8)) := by unfold flkW; rw [show flatK Tryd.prog 8 41 = some (List.replicate 16 (.int .u8)) from rfl]; exact flk_is (by decide +kernel) Tryd.eqGuardType41 (by decide +kernel) ⟨default, .inr ⟨_, _, Tryd.underlying41⟩⟩
theorem y_ty42 (k : TY → Prop) : tyW Tryd.prog 42 k = k (.func) := by unfold tyW tyOf; rw [Tryd.underlying42] <;> rfl
theorem y_sz42 (k : Nat → Prop) : szW Tryd.prog 42 k = k 1 := by unfold szW; rw [show Tryd.prog.info? 42 = some Tryd.t42 from Tryd.type42]; rfl
theorem y_by42 (k : Nat → Prop) : byW Tryd.prog 42 k = k 8 := by unfold byW; rw [show Tryd.prog.info? 42 = some Tryd.t42 from Tryd.type42]; rfl
theorem y_is42 : (Tryd.prog.info? 42).isSome = true := by rw [show Tryd.prog.info? 42 = some Tryd.t42 from Tryd.type42]; rfl
theorem y_zr42 (k : List D → Prop) : zeroW Tryd.prog 42 k = k [.any] := by unfold zeroW; rw [show Tryd.prog.info? 42 = some Tryd.t42 from Tryd.type42]; exact zero_is (i := Tryd.t42) rfl (by decide +kernel) (by rfl)
theorem y_ty43 (k : TY → Prop) : tyW Tryd.prog 43 k = k (.func) := by unfold tyW tyOf; rw [Tryd.underlying43] <;> rfl
theorem y_sz43 (k : Nat → Prop) : szW Tryd.prog 43 k = k 1 := by unfold szW; rw [show Tryd.prog.info? 43 = some Tryd.t43 from Tryd.type43]; rfl
theorem y_by43 (k : Nat → Prop) : byW Tryd.prog 43 k = k 8 := by unfold byW; rw [show Tryd.prog.info? 43 = some Tryd.t43 from Tryd.type43]; rfl
theorem y_is43 : (Tryd.prog.info? 43).isSome = true := by rw [show Tryd.prog.info? 43 = some Tryd.t43 from Tryd.type43]; rfl
theorem y_zr43 (k : List D → Prop) : zeroW Tryd.prog 43 k = k [.any] := by unfold zeroW; rw [show Tryd.prog.info? 43 = some Tryd.t43 from Tryd.type43]; exact zero_is (i := Tryd.t43) rfl (by decide +kernel) (by rfl)
theorem y_ty44 (k : TY → Prop) : tyW Tryd.prog 44 k = k (.func) := by unfold tyW tyOf; rw [Tryd.underlying44] <;> rfl
theorem y_sz44 (k : Nat → Prop) : szW Tryd.prog 44 k = k 1 := by unfold szW; rw [show Tryd.prog.info? 44 = some Tryd.t44 from Tryd.type44]; rfl
theorem y_by44 (k : Nat → Prop) : byW Tryd.prog 44 k = k 8 := by unfold byW; rw [show Tryd.prog.info? 44 = some Tryd.t44 from Tryd.type44]; rfl
theorem y_is44 : (Tryd.prog.info? 44).isSome = true := by rw [show Tryd.prog.info? 44 = some Tryd.t44 from Tryd.type44]; rfl
theorem y_zr44 (k : List D → Prop) : zeroW Tryd.prog 44 k = k [.any] := by unfold zeroW; rw [show Tryd.prog.info? 44 = some Tryd.t44 from Tryd.type44]; exact zero_is (i := Tryd.t44) rfl (by decide +kernel) (by rfl)
theorem y_ty45 (k : TY → Prop) : tyW Tryd.prog 45 k = k (.arr 2 5) := by unfold tyW tyOf; rw [Tryd.underlying45] <;> rfl
theorem y_sz45 (k : Nat → Prop) : szW Tryd.prog 45 k = k 2 := by unfold szW; rw [show Tryd.prog.info? 45 = some Tryd.t45 from Tryd.type45]; rfl
theorem y_by45 (k : Nat → Prop) : byW Tryd.prog 45 k = k 2 := by unfold byW; rw [show Tryd.prog.info? 45 = some Tryd.t45 from Tryd.type45]; rfl
theorem y_is45 : (Tryd.prog.info? 45).isSome = true := by rw [show Tryd.prog.info? 45 = some Tryd.t45 from Tryd.type45]; rfl
theorem y_zr45 (k : List D → Prop) : zeroW Tryd.prog 45 k = k [.int .u8 0, .int .u8 0] := by unfold zeroW; rw [show Tryd.prog.info? 45 = some Tryd.t45 from Tryd.type45]; exact zero_is (i := Tryd.t45) rfl (by decide +kernel) (by rfl)
theorem y_ty46 (k : TY → Prop) : tyW Tryd.prog 46 k = k (.func) := by unfold tyW tyOf; rw [Tryd.underlying46] <;> rfl
theorem y_sz46 (k : Nat → Prop) : szW Tryd.prog 46 k = k 1 := by unfold szW; rw [show Tryd.prog.info? 46 = some Tryd.t46 from Tryd.type46]; rfl
theorem y_by46 (k : Nat → Prop) : byW Tryd.prog 46 k = k 8 := by unfold byW; rw [show Tryd.prog.info? 46 = some Tryd.t46 from Tryd.type46]; rfl
theorem y_is46 : (Tryd.prog.info? 46).isSome = true := by rw [show Tryd.prog.info? 46 = some Tryd.t46 from Tryd.type46]; rfl
theorem y_zr46 (k : List D → Prop) : zeroW Tryd.prog 46 k = k [.any] := by unfold zeroW; rw [show Tryd.prog.info? 46 = some Tryd.t46 from Tryd.type46]; exact zero_is (i := Tryd.t46) rfl (by decide +kernel) (by rfl)
theorem y_ty47 (k : TY → Prop) : tyW Tryd.prog 47 k = k (.func) := by unfold tyW tyOf; rw [Tryd.underlying47] <;> rfl
theorem y_sz47 (k : Nat → Prop) : szW Tryd.prog 47 k = k 1 := by unfold szW; rw [show Tryd.prog.info? 47 = some Tryd.t47 from Tryd.type47]; rfl
theorem y_by47 (k : Nat → Prop) : byW Tryd.prog 47 k = k 8 := by unfold byW; rw [show Tryd.prog.info? 47 = some Tryd.t47 from Tryd.type47]; rfl
theorem y_is47 : (Tryd.prog.info? 47).isSome = true := by rw [show Tryd.prog.info? 47 = some Tryd.t47 from Tryd.type47]; rfl
theorem y_zr47 (k : List D → Prop) : zeroW Tryd.prog 47 k = k [.any] := by unfold zeroW; rw [show Tryd.prog.info? 47 = some Tryd.t47 from Tryd.type47]; exact zero_is (i := Tryd.t47) rfl (by decide +kernel) (by rfl)
theorem y_ty48 (k : TY → Prop) : tyW Tryd.prog 48 k = k (.func) := by unfold tyW tyOf; rw [Tryd.underlying48] <;> rfl
theorem y_sz48 (k : Nat → Prop) : szW Tryd.prog 48 k = k 1 := by unfold szW; rw [show Tryd.prog.info? 48 = some Tryd.t48 from Tryd.type48]; rfl
theorem y_by48 (k : Nat → Prop) : byW Tryd.prog 48 k = k 8 := by unfold byW; rw [show Tryd.prog.info? 48 = some Tryd.t48 from Tryd.type48]; rfl
theorem y_is48 : (Tryd.prog.info? 48).isSome = true := by rw [show Tryd.prog.info? 48 = some Tryd.t48 from Tryd.type48]; rfl
theorem y_zr48 (k : List D → Prop) : zeroW Tryd.prog 48 k = k [.any] := by unfold zeroW; rw [show Tryd.prog.info? 48 = some Tryd.t48 from Tryd.type48]; exact zero_is (i := Tryd.t48) rfl (by decide +kernel) (by rfl)
theorem y_ty49 (k : TY → Prop) : tyW Tryd.prog 49 k = k (.func) := by unfold tyW tyOf; rw [Tryd.underlying49] <;> rfl
theorem y_sz49 (k : Nat → Prop) : szW Tryd.prog 49 k = k 1 := by unfold szW; rw [show Tryd.prog.info? 49 = some Tryd.t49 from Tryd.type49]; rfl
theorem y_by49 (k : Nat → Prop) : byW Tryd.prog 49 k = k 8 := by unfold byW; rw [show Tryd.prog.info? 49 = some Tryd.t49 from Tryd.type49]; rfl
theorem y_is49 : (Tryd.prog.info? 49).isSome = true := by rw [show Tryd.prog.info? 49 = some Tryd.t49 from Tryd.type49]; rfl
theorem y_zr49 (k : List D → Prop) : zeroW Tryd.prog 49 k = k [.any] := by unfold zeroW; rw [show Tryd.prog.info? 49 = some Tryd.t49 from Tryd.type49]; exact zero_is (i := Tryd.t49) rfl (by decide +kernel) (by rfl)
theorem y_ty50 (k : TY → Prop) : tyW Tryd.prog 50 k = k (.func) := by unfold tyW tyOf; rw [Tryd.underlying50] <;> rfl
theorem y_sz50 (k : Nat → Prop) : szW Tryd.prog 50 k = k 1 := by unfold szW; rw [show Tryd.prog.info? 50 = some Tryd.t50 from Tryd.type50]; rfl
theorem y_by50 (k : Nat → Prop) : byW Tryd.prog 50 k = k 8 := by unfold byW; rw [show Tryd.prog.info? 50 = some Tryd.t50 from Tryd.type50]; rfl
theorem y_is50 : (Tryd.prog.info? 50).isSome = true := by rw [show Tryd.prog.info? 50 = some Tryd.t50 from Tryd.type50]; rfl
theorem y_zr50 (k : List D → Prop) : zeroW Tryd.prog 50 k = k [.any] := by unfold zeroW; rw [show Tryd.prog.info? 50 = some Tryd.t50 from Tryd.type50]; exact zero_is (i := Tryd.t50) rfl (by decide +kernel) (by rfl)
theorem y_ty51 (k : TY → Prop) : tyW Tryd.prog 51 k = k (.func) := by unfold tyW tyOf; rw [Tryd.underlying51] <;> rfl
theorem y_sz51 (k : Nat → Prop) : szW Tryd.prog 51 k = k 1 := by unfold szW; rw [show Tryd.prog.info? 51 = some Tryd.t51 from Tryd.type51]; rfl
theorem y_by51 (k : Nat → Prop) : byW Tryd.prog 51 k = k 8 := by unfold byW; rw [show Tryd.prog.info? 51 = some Tryd.t51 from Tryd.type51]; rfl
theorem y_is51 : (Tryd.prog.info? 51).isSome = true := by rw [show Tryd.prog.info? 51 = some Tryd.t51 from Tryd.type51]; rfl
theorem y_zr51 (k : List D → Prop) : zeroW Tryd.prog 51 k = k [.any] := by unfold zeroW; rw [show Tryd.prog.info? 51 = some Tryd.t51 from Tryd.type51]; exact zero_is (i := Tryd.t51) rfl (by decide +kernel) (by rfl)
theorem y_ty52 (k : TY → Prop) : tyW Tryd.prog 52 k = k (.func) := by unfold tyW tyOf; rw [Tryd.underlying52] <;> rfl
theorem y_sz52 (k : Nat → Prop) : szW Tryd.prog 52 k = k 1 := by unfold szW; rw [show Tryd.prog.info? 52 = some Tryd.t52 from Tryd.type52]; rfl
theorem y_by52 (k : Nat → Prop) : byW Tryd.prog 52 k = k 8 := by unfold byW; rw [show Tryd.prog.info? 52 = some Tryd.t52 from Tryd.type52]; rfl
theorem y_is52 : (Tryd.prog.info? 52).isSome = true := by rw [show Tryd.prog.info? 52 = some Tryd.t52 from Tryd.type52]; rfl
theorem y_zr52 (k : List D → Prop) : zeroW Tryd.prog 52 k = k [.any] := by unfold zeroW; rw [show Tryd.prog.info? 52 = some Tryd.t52 from Tryd.type52]; exact zero_is (i := Tryd.t52) rfl (by decide +kernel) (by rfl)
theorem y_ty53 (k : TY → Prop) : tyW Tryd.prog 53 k = k (.func) := by unfold tyW tyOf; rw [Tryd.underlying53] <;> rfl
theorem y_sz53 (k : Nat → Prop) : szW Tryd.prog 53 k = k 1 := by unfold szW; rw [show Tryd.prog.info? 53 = some Tryd.t53 from Tryd.type53]; rfl
theorem y_by53 (k : Nat → Prop) : byW Tryd.prog 53 k = k 8 := by unfold byW; rw [show Tryd.prog.info? 53 = some Tryd.t53 from Tryd.type53]; rfl
theorem y_is53 : (Tryd.prog.info? 53).isSome = true := by rw [show Tryd.prog.info? 53 = some Tryd.t53 from Tryd.type53]; rfl
theorem y_zr53 (k : List D → Prop) : zeroW Tryd.prog 53 k = k [.any] := by unfold zeroW; rw [show Tryd.prog.info? 53 = some Tryd.t53 from Tryd.type53]; exact zero_is (i := Tryd.t53) rfl (by decide +kernel) (by rfl)
theorem y_ty54 (k : TY → Prop) : tyW Tryd.prog 54 k = k (.func) := by unfold tyW tyOf; rw [Tryd.underlying54] <;> rfl
theorem y_sz54 (k : Nat → Prop) : szW Tryd.prog 54 k = k 1 := by unfold szW; rw [show Tryd.prog.info? 54 = some Tryd.t54 from Tryd.type54]; rfl
theorem y_by54 (k : Nat → Prop) : byW Tryd.prog 54 k = k 8 := by unfold byW; rw [show Tryd.prog.info? 54 = some Tryd.t54 from Tryd.type54]; rfl
theorem y_is54 : (Tryd.prog.info? 54).isSome = true := by rw [show Tryd.prog.info? 54 = some Tryd.t54 from Tryd.type54]; rfl
theorem y_zr54 (k : List D → Prop) : zeroW Tryd.prog 54 k = k [.any] := by unfold zeroW; rw [show Tryd.prog.info? 54 = some Tryd.t54 from Tryd.type54]; exact zero_is (i := Tryd.t54) rfl (by decide +kernel) (by rfl)
theorem y_ty55 (k : TY → Prop) : tyW Tryd.prog 55 k = k (.func) := by unfold tyW tyOf; rw [Tryd.underlying55] <;> rfl
theorem y_sz55 (k : Nat → Prop) : szW Tryd.prog 55 k = k 1 := by unfold szW; rw [show Tryd.prog.info? 55 = some Tryd.t55 from Tryd.type55]; rfl
theorem y_by55 (k : Nat → Prop) : byW Tryd.prog 55 k = k 8 := by unfold byW; rw [show Tryd.prog.info? 55 = some Tryd.t55 from Tryd.type55]; rfl
theorem y_is55 : (Tryd.prog.info? 55).isSome = true := by rw [show Tryd.prog.info? 55 = some Tryd.t55 from Tryd.type55]; rfl
theorem y_zr55 (k : List D → Prop) : zeroW Tryd.prog 55 k = k [.any] := by unfold zeroW; rw [show Tryd.prog.info? 55 = some Tryd.t55 from Tryd.type55]; exact zero_is (i := Tryd.t55) rfl (by decide +kernel) (by rfl)
theorem y_ty56 (k : TY → Prop) : tyW Tryd.prog 56 k = k (.func) := by unfold tyW tyOf; rw [Tryd.underlying56] <;> rfl
theorem y_sz56 (k : Nat → Prop) : szW Tryd.prog 56 k = k 1 := by unfold szW; rw [show Tryd.prog.info? 56 = some Tryd.t56 from Tryd.type56]; rfl
theorem y_by56 (k : Nat → Prop) : byW Tryd.prog 56 k = k 8 := by unfold byW; rw [show Tryd.prog.info? 56 = some Tryd.t56 from Tryd.type56]; rfl
theorem y_is56 : (Tryd.prog.info? 56).isSome = true := by rw [show Tryd.prog.info? 56 = some Tryd.t56 from Tryd.type56]; rfl
theorem y_zr56 (k : List D → Prop) : zeroW Tryd.prog 56 k = k [.any] := by unfold zeroW; rw [show Tryd.prog.info? 56 = some Tryd.t56 from Tryd.type56]; exact zero_is (i := Tryd.t56) rfl (by decide +kernel) (by rfl)
theorem y_ty57 (k : TY → Prop) : tyW Tryd.prog 57 k = k (.func) := by unfold tyW tyOf; rw [Tryd.underlying57] <;> rfl
theorem y_sz57 (k : Nat → Prop) : szW Tryd.prog 57 k = k 1 := by unfold szW; rw [show Tryd.prog.info? 57 = some Tryd.t57 from Tryd.type57]; rfl
theorem y_by57 (k : Nat → Prop) : byW Tryd.prog 57 k = k 8 := by unfold byW; rw [show Tryd.prog.info? 57 = some Tryd.t57 from Tryd.type57]; rfl
theorem y_is57 : (Tryd.prog.info? 57).isSome = true := by rw [show Tryd.prog.info? 57 = some Tryd.t57 from Tryd.type57]; rfl
theorem y_zr57 (k : List D → Prop) : zeroW Tryd.prog 57 k = k [.any] := by unfold zeroW; rw [show Tryd.prog.info? 57 = some Tryd.t57 from Tryd.type57]; exact zero_is (i := Tryd.t57) rfl (by decide +kernel) (by rfl)
theorem y_ty58 (k : TY → Prop) : tyW Tryd.prog 58 k = k (.func) := by unfold tyW tyOf; rw [Tryd.underlying58] <;> rfl
theorem y_sz58 (k : Nat → Prop) : szW Tryd.prog 58 k = k 1 := by unfold szW; rw [show Tryd.prog.info? 58 = some Tryd.t58 from Tryd.type58]; rfl
theorem y_by58 (k : Nat → Prop) : byW Tryd.prog 58 k = k 8 := by unfold byW; rw [show Tryd.prog.info? 58 = some Tryd.t58 from Tryd.type58]; rfl
theorem y_is58 : (Tryd.prog.info? 58).isSome = true := by rw [show Tryd.prog.info? 58 = some Tryd.t58 from Tryd.type58]; rfl
theorem y_zr58 (k : List D → Prop) : zeroW Tryd.prog 58 k = k [.any] := by unfold zeroW; rw [show Tryd.prog.info? 58 = some Tryd.t58 from Tryd.type58]; exact zero_is (i := Tryd.t58) rfl (by decide +kernel) (by rfl)
theorem y_ty59 (k : TY → Prop) : tyW Tryd.prog 59 k = k (.func) := by unfold tyW tyOf; rw [Tryd.underlying59] <;> rfl
theorem y_sz59 (k : Nat → Prop) : szW Tryd.prog 59 k = k 1 := by unfold szW; rw [show Tryd.prog.info? 59 = some Tryd.t59 from Tryd.type59]; rfl
theorem y_by59 (k : Nat → Prop) : byW Tryd.prog 59 k = k 8 := by unfold byW; rw [show Tryd.prog.info? 59 = some Tryd.t59 from Tryd.type59]; rfl
theorem y_is59 : (Tryd.prog.info? 59).isSome = true := by rw [show Tryd.prog.info? 59 = some Tryd.t59 from Tryd.type59]; rfl
theorem y_zr59 (k : List D → Prop) : zeroW Tryd.prog 59 k = k [.any] := by unfold zeroW; rw [show Tryd.prog.info? 59 = some Tryd.t59 from Tryd.type59]; exact zero_is (i := Tryd.t59) rfl (by decide +kernel) (by rfl)
theorem y_ty60 (k : TY → Prop) : tyW Tryd.prog 60 k = k (.func) := by unfold tyW tyOf; rw [Tryd.underlying60] <;> rfl
theorem y_sz60 (k : Nat → Prop) : szW Tryd.prog 60 k = k 1 := by unfold szW; rw [show Tryd.prog.info? 60 = some Tryd.t60 from Tryd.type60]; rfl
theorem y_by60 (k : Nat → Prop) : byW Tryd.prog 60 k = k 8 := by unfold byW; rw [show Tryd.prog.info? 60 = some Tryd.t60 from Tryd.type60]; rfl
theorem y_is60 : (Tryd.prog.info? 60).isSome = true := by rw [show Tryd.prog.info? 60 = some Tryd.t60 from Tryd.type60]; rfl
theorem y_zr60 (k : List D → Prop) : zeroW Tryd.prog 60 k = k [.any] := by unfold zeroW; rw [show Tryd.prog.info? 60 = some Tryd.t60 from Tryd.type60]; exact zero_is (i := Tryd.t60) rfl (by decide +kernel) (by rfl)
theorem y_ty61 (k : TY → Prop) : tyW Tryd.prog 61 k = k (.func) := by unfold tyW tyOf; rw [Tryd.underlying61] <;> rfl
theorem y_sz61 (k : Nat → Prop) : szW Tryd.prog 61 k = k 1 := by unfold szW; rw [show Tryd.prog.info? 61 = some Tryd.t61 from Tryd.type61]; rfl
theorem y_by61 (k : Nat → Prop) : byW Tryd.prog 61 k = k 8 := by unfold byW; rw [show Tryd.prog.info? 61 = some Tryd.t61 from Tryd.type61]; rfl
theorem y_is61 : (Tryd.prog.info? 61).isSome = true := by rw [show Tryd.prog.info? 61 = some Tryd.t61 from Tryd.type61]; rfl
theorem y_zr61 (k : List D → Prop) : zeroW Tryd.prog 61 k = k [.any] := by unfold zeroW; rw [show Tryd.prog.info? 61 = some Tryd.t61 from Tryd.type61]; exact zero_is (i := Tryd.t61) rfl (by decide +kernel) (by rfl)
theorem y_ty62 (k : TY → Prop) : tyW Tryd.prog 62 k = k (.func) := by unfold tyW tyOf; rw [Tryd.underlying62] <;> rfl
theorem y_sz62 (k : Nat → Prop) : szW Tryd.prog 62 k = k 1 := by unfold szW; rw [show Tryd.prog.info? 62 = some Tryd.t62 from Tryd.type62]; rfl
theorem y_by62 (k : Nat → Prop) : byW Tryd.prog 62 k = k 8 := by unfold byW; rw [show Tryd.prog.info? 62 = some Tryd.t62 from Tryd.type62]; rfl
theorem y_is62 : (Tryd.prog.info? 62).isSome = true := by rw [show Tryd.prog.info? 62 = some Tryd.t62 from Tryd.type62]; rfl
theorem y_zr62 (k : List D → Prop) : zeroW Tryd.prog 62 k = k [.any] := by unfold zeroW; rw [show Tryd.prog.info? 62 = some Tryd.t62 from Tryd.type62]; exact zero_is (i := Tryd.t62) rfl (by decide +kernel) (by rfl)
theorem y_ty63 (k : TY → Prop) : tyW Tryd.prog 63 k = k (.arr 64 29) := by unfold tyW tyOf; rw [Tryd.underlying63] <;> rfl
theorem y_sz63 (k : Nat → Prop) : szW Tryd.prog 63 k = k 64 := by unfold szW; rw [show Tryd.prog.info? 63 = some Tryd.t63 from Tryd.type63]; rfl
theorem y_by63 (k : Nat → Prop) : byW Tryd.prog 63 k = k 256 := by unfold byW; rw [show Tryd.prog.info? 63 = some Tryd.t63 from Tryd.type63]; rfl
theorem y_is63 : (Tryd.prog.info? 63).isSome = true := by rw [show Tryd.prog.info? 63 = some Tryd.t63 from Tryd.type63]; rfl
theorem y_zr63 (k : List D → Prop) : zeroW Tryd.prog 63 k = k [.int .u32 0, .int .u32 0, .int .u32 0, .int .u32 0, .int .u32 0, .int .u32 0, .int .u32 0, .int .u32 0, .int .u32 0, .int .u32 0, .int .u32 0, .int .u32 0, .int .u32 0, .int .u32 0, .int .u32 0, .int .u32 0, .int .u32 0, .int .u32 0, .int .u32 0, .int .u32 0, .int .u32 0, .int .u32 0, .int .u32 0, .int .u32 0, .int .u32 0, .int .u32 0, .int .u32 0, .int .u32 0, .int .u32 0, .int .u32 0, .int .u32 0, .int .u32 0, .int .u32 0, .int .u32 0, .int .u32 0, .int .u32 0, .int .u32 0, .int .u32 0, .int .u32 0, .int .u32 0, .int .u32 0, .int .u32 0, .int .u32 0, .int .u32 0, .int .u32 0, .int .u32 0, .int .u32 0, .int .u32 0, .int .u32 0, .int .u32 0, .int .u32 0, .int .u32 0, .int .u32 0, .int .u32 0, .int .u32 0, .int .u32 0, .int .u32 0, .int .u32 0, .int .u32 0, .int .u32 0, .int .u32 0, .int .u32 0, .int .u32 0, .int .u32 0] := by unfold zeroW; rw [show Tryd.prog.info? 63 = some Tryd.t63 from Tryd.type63]; exact zero_is (i := Tryd.t63) rfl (by decide +kernel) (by rfl)
theorem y_ty64 (k : TY → Prop) : tyW Tryd.prog 64 k = k (.func) := by unfold tyW tyOf; rw [Tryd.underlying64] <;> rfl
theorem y_sz64 (k : Nat → Prop) : szW Tryd.prog 64 k = k 1 := by unfold szW; rw [show Tryd.prog.info? 64 = some Tryd.t64 from Tryd.type64]; rfl
theorem y_by64 (k : Nat → Prop) : byW Tryd.prog 64 k = k 8 := by unfold byW; rw [show Tryd.prog.info? 64 = some Tryd.t64 from Tryd.type64]; rfl
theorem y_is64 : (Tryd.prog.info? 64).isSome = true := by rw [show Tryd.prog.info? 64 = some Tryd.t64 from Tryd.type64]; rfl
theorem y_zr64 (k : List D → Prop) : zeroW Tryd.prog 64 k = k [.any] := by unfold zeroW; rw [show Tryd.prog.info? 64 = some Tryd.t64 from Tryd.type64]; exact zero_is (i := Tryd.t64) rfl (by decide +kernel) (by rfl)
theorem y_ty65 (k : TY → Prop) : tyW Tryd.prog 65 k = k (.func) := by unfold tyW tyOf; rw [Tryd.underlying65] <;> rfl
theorem y_sz65 (k : Nat → Prop) : szW Tryd.prog 65 k = k 1 := by unfold szW; rw [show Tryd.prog.info? 65 = some Tryd.t65 from Tryd.type65]; rfl
theorem y_by65 (k : Nat → Prop) : byW Tryd.prog 65 k = k 8 := by unfold byW; rw [show Tryd.prog.info? 65 = some Tryd.t65 from Tryd.type65]; rfl
theorem y_is65 : (Tryd.prog.info? 65).isSome = true := by rw [show Tryd.prog.info? 65 = some Tryd.t65 from Tryd.type65]; rfl
theorem y_zr65 (k : List D → Prop) : zeroW Tryd.prog 65 k = k [.any] := by unfold zeroW; rw [show Tryd.prog.info? 65 = some Tryd.t65 from Tryd.type65]; exact zero_is (i := Tryd.t65) rfl (by decide +kernel) (by rfl)
theorem y_ty66 (k : TY → Prop) : tyW Tryd.prog 66 k = k (.func) := by unfold tyW tyOf; rw [Tryd.underlying66] <;> rfl
theorem y_sz66 (k : Nat → Prop) : szW Tryd.prog 66 k = k 1 := by unfold szW; rw [show Tryd.prog.info? 66 = some Tryd.t66 from Tryd.type66]; rfl
theorem y_by66 (k : Nat → Prop) : byW Tryd.prog 66 k = k 8 := by unfold byW; rw [show Tryd.prog.info? 66 = some Tryd.t66 from Tryd.type66]; rfl
theorem y_is66 : (Tryd.prog.info? 66).isSome = true := by rw [show Tryd.prog.info? 66 = some Tryd.t66 from Tryd.type66]; rfl
theorem y_zr66 (k : List D → Prop) : zeroW Tryd.prog 66 k = k [.any] := by unfold zeroW; rw [show Tryd.prog.info? 66 = some Tryd.t66 from Tryd.type66]; exact zero_is (i := Tryd.t66) rfl (by decide +kernel) (by rfl)
theorem y_ty67 (k : TY → Prop) : tyW Tryd.prog 67 k = k (.func) := by unfold tyW tyOf; rw [Tryd.underlying67] <;> rfl
theorem y_sz67 (k : Nat → Prop) : szW Tryd.prog 67 k = k 1 := by unfold szW; rw [show Tryd.prog.info? 67 = some Tryd.t67 from Tryd.type67]; rfl
theorem y_by67 (k : Nat → Prop) : byW Tryd.prog 67 k = k 8 := by unfold byW; rw [show Tryd.prog.info? 67 = some Tryd.t67 from Tryd.type67]; rfl
theorem y_is67 : (Tryd.prog.info? 67).isSome = true := by rw [show Tryd.prog.info? 67 = some Tryd.t67 from Tryd.type67]; rfl
theorem y_zr67 (k : List D → Prop) : zeroW Tryd.prog 67 k = k [.any] := by unfold zeroW; rw [show Tryd.prog.info? 67 = some Tryd.t67 from Tryd.type67]; exact zero_is (i := Tryd.t67) rfl (by decide +kernel) (by rfl)
theorem y_ty68 (k : TY → Prop) : tyW Tryd.prog 68 k = k (.func) := by unfold tyW tyOf; rw [Tryd.underlying68] <;> rfl
theorem y_sz68 (k : Nat → Prop) : szW Tryd.prog 68 k = k 1 := by unfold szW; rw [show Tryd.prog.info? 68 = some Tryd.t68 from Tryd.type68]; rfl
theorem y_by68 (k : Nat → Prop) : byW Tryd.prog 68 k = k 8 := by unfold byW; rw [show Tryd.prog.info? 68 = some Tryd.t68 from Tryd.type68]; rfl
theorem y_is68 : (Tryd.prog.info? 68).isSome = true := by rw [show Tryd.prog.info? 68 = some Tryd.t68 from Tryd.type68]; rfl
theorem y_zr68 (k : List D → Prop) : zeroW Tryd.prog 68 k = k [.any] := by unfold zeroW; rw [show Tryd.prog.info? 68 = some Tryd.t68 from Tryd.type68]; exact zero_is (i := Tryd.t68) rfl (by decide +kernel) (by rfl)
theorem y_ty69 (k : TY → Prop) : tyW Tryd.prog 69 k = k (.func) := by unfold tyW tyOf; rw [Tryd.underlying69] <;> rfl
theorem y_sz69 (k : Nat → Prop) : szW Tryd.prog 69 k = k 1 := by unfold szW; rw [show Tryd.prog.info? 69 = some Tryd.t69 from Tryd.type69]; rfl
theorem y_by69 (k : Nat → Prop) : byW Tryd.prog 69 k = k 8 := by unfold byW; rw [show Tryd.prog.info? 69 = some Tryd.t69 from Tryd.type69]; rfl
theorem y_is69 : (Tryd.prog.info? 69).isSome = true := by rw [show Tryd.prog.info? 69 = some Tryd.t69 from Tryd.type69]; rfl
theorem y_zr69 (k : List D → Prop) : zeroW Tryd.prog 69 k = k [.any] := by unfold zeroW; rw [show Tryd.prog.info? 69 = some Tryd.t69 from Tryd.type69]; exact zero_is (i := Tryd.t69) rfl (by decide +kernel) (by rfl)
theorem y_ty70 (k : TY → Prop) : tyW Tryd.prog 70 k = k (.func) := by unfold tyW tyOf; rw [Tryd.underlying70] <;> rfl
theorem y_sz70 (k : Nat → Prop) : szW Tryd.prog 70 k = k 1 := by unfold szW; rw [show Tryd.prog.info? 70 = some Tryd.t70 from Tryd.type70]; rfl
theorem y_by70 (k : Nat → Prop) : byW Tryd.prog 70 k = k 8 := by unfold byW; rw [show Tryd.prog.info? 70 = some Tryd.t70 from Tryd.type70]; rfl
theorem y_is70 : (Tryd.prog.info? 70).isSome = true := by rw [show Tryd.prog.info? 70 = some Tryd.t70 from Tryd.type70]; rfl
theorem y_zr70 (k : List D → Prop) : zeroW Tryd.prog 70 k = k [.any] := by unfold zeroW; rw [show Tryd.prog.info? 70 = some Tryd.t70 from Tryd.type70]; exact zero_is (i := Tryd.t70) rfl (by decide +kernel) (by rfl)
theorem y_ty71 (k : TY → Prop) : tyW Tryd.prog 71 k = k (.func) := by unfold tyW tyOf; rw [Tryd.underlying71] <;> rfl
theorem y_sz71 (k : Nat → Prop) : szW Tryd.prog 71 k = k 1 := by unfold szW; rw [show Tryd.prog.info? 71 = some Tryd.t71 from Tryd.type71]; rfl
theorem y_by71 (k : Nat → Prop) : byW Tryd.prog 71 k = k 8 := by unfold byW; rw [show Tryd.prog.info? 71 = some Tryd.t71 from Tryd.type71]; rfl
theorem y_is71 : (Tryd.prog.info? 71).isSome = true := by rw [show Tryd.prog.info? 71 = some Tryd.t71 from Tryd.type71]; rfl
theorem y_zr71 (k : List D → Prop) : zeroW Tryd.prog 71 k = k [.any] := by unfold zeroW; rw [show Tryd.prog.info? 71 = some Tryd.t71 from Tryd.type71]; exact zero_is (i := Tryd.t71) rfl (by decide +kernel) (by rfl)
theorem y_ty72 (k : TY → Prop) : tyW Tryd.prog 72 k = k (.int .u64) := by unfold tyW tyOf; rw [Tryd.underlying72] <;> rfl
theorem y_sz72 (k : Nat → Prop) : szW Tryd.prog 72 k = k 1 := by unfold szW; rw [show Tryd.prog.info? 72 = some Tryd.t72 from Tryd.type72]; rfl
theorem y_by72 (k : Nat → Prop) : byW Tryd.prog 72 k = k 8 := by unfold byW; rw [show Tryd.prog.info? 72 = some Tryd.t72 from Tryd.type72]; rfl
theorem y_is72 : (Tryd.prog.info? 72).isSome = true := by rw [show Tryd.prog.info? 72 = some Tryd.t72 from Tryd.type72]; rfl
theorem y_zr72 (k : List D → Prop) : zeroW Tryd.prog 72 k = k [.int .u64 0] := by unfold zeroW; rw [show Tryd.prog.info? 72 = some Tryd.t72 from Tryd.type72]; exact zero_is (i := Tryd.t72) rfl (by decide +kernel) (by rfl)
theorem y_ty73 (k : TY → Prop) : tyW Tryd.prog 73 k = k (.arr 4 29) := by unfold tyW tyOf; rw [Tryd.underlying73] <;> rfl
theorem y_sz73 (k : Nat → Prop) : szW Tryd.prog 73 k = k 4 := by unfold szW; rw [show Tryd.prog.info? 73 = some Tryd.t73 from Tryd.type73]; rfl
theorem y_by73 (k : Nat → Prop) : byW Tryd.prog 73 k = k 16 := by unfold byW; rw [show Tryd.prog.info? 73 = some Tryd.t73 from Tryd.type73]; rfl
theorem y_is73 : (Tryd.prog.info? 73).isSome = true := by rw [show Tryd.prog.info? 73 = some Tryd.t73 from Tryd.type73]; rfl
theorem y_zr73 (k : List D → Prop) : zeroW Tryd.prog 73 k = k [.int .u32 0, .int .u32 0, .int .u32 0, .int .u32 0] := by unfold zeroW; rw [show Tryd.prog.info? 73 = some Tryd.t73 from Tryd.type73]; exact zero_is (i := Tryd.t73) rfl (by decide +kernel) (by rfl)
theorem y_ty74 (k : TY → Prop) : tyW Tryd.prog 74 k = k (.slice 29) := by unfold tyW tyOf; rw [Tryd.underlying74] <;> rfl
theorem y_sz74 (k : Nat → Prop) : szW Tryd.prog 74 k = k 1 := by unfold szW; rw [show Tryd.prog.info? 74 = some Tryd.t74 from Tryd.type74]; rfl
theorem y_by74 (k : Nat → Prop) : byW Tryd.prog 74 k = k 24 := by unfold byW; rw [show Tryd.prog.info? 74 = some Tryd.t74 from Tryd.type74]; rfl
theorem y_is74 : (Tryd.prog.info? 74).isSome = true := by rw [show Tryd.prog.info? 74 = some Tryd.t74 from Tryd.type74]; rfl
theorem y_zr74 (k : List D → Prop) : zeroW Tryd.prog 74 k = k [.nils] := by unfold zeroW; rw [show Tryd.prog.info? 74 = some Tryd.t74 from Tryd.type74]; exact zero_is (i := Tryd.t74) rfl (by decide +kernel) (by rfl)
theorem y_ty75 (k : TY → Prop) : tyW Tryd.prog 75 k = k (.func) := by unfold tyW tyOf; rw [Tryd.underlying75] <;> rfl
theorem y_sz75 (k : Nat → Prop) : szW Tryd.prog 75 k = k 1 := by unfold szW; rw [show Tryd.prog.info? 75 = some Tryd.t75 from Tryd.type75]; rfl
theorem y_by75 (k : Nat → Prop) : byW Tryd.prog 75 k = k 8 := by unfold byW; rw [show Tryd.prog.info? 75 = some Tryd.t75 from Tryd.type75]; rfl
theorem y_is75 : (Tryd.prog.info? 75).isSome = true := by rw [show Tryd.prog.info? 75 = some Tryd.t75 from Tryd.type75]; rfl
theorem y_zr75 (k : List D → Prop) : zeroW Tryd.prog 75 k = k [.any] := by unfold zeroW; rw [show Tryd.prog.info? 75 = some Tryd.t75 from Tryd.type75]; exact zero_is (i := Tryd.t75) rfl (by decide +kernel) (by rfl)
theorem y_ty76 (k : TY → Prop) : tyW Tryd.prog 76 k = k (.func) := by unfold tyW tyOf; rw [Tryd.underlying76] <;> rfl
theorem y_sz76 (k : Nat → Prop) : szW Tryd.prog 76 k = k 1 := by unfold szW; rw [show Tryd.prog.info? 76 = some Tryd.t76 from Tryd.type76]; rfl
theorem y_by76 (k : Nat → Prop) : byW Tryd.prog 76 k = k 8 := by unfold byW; rw [show Tryd.prog.info? 76 = some Tryd.t76 from Tryd.type76]; rfl
theorem y_is76 : (Tryd.prog.info? 76).isSome = true := by rw [show Tryd.prog.info? 76 = some Tryd.t76 from Tryd.type76]; rfl
theorem y_zr76 (k : List D → Prop) : zeroW Tryd.prog 76 k = k [.any] := by unfold zeroW; rw [show Tryd.prog.info? 76 = some Tryd.t76 from Tryd.type76]; exact zero_is (i := Tryd.t76) rfl (by decide +kernel) (by rfl)
theorem y_ty77 (k : TY → Prop) : tyW Tryd.prog 77 k = k (.struct [(0, 17), (1, 17), (2, 17), (3, 9)]) := by unfold tyW tyOf; rw [Tryd.underlying77] <;> rfl
theorem y_fl77x0 (k : Nat → TypeId → Prop) : fldW Tryd.prog 77 0 k = k 0 17 := by unfold fldW tyOf; rw [Tryd.underlying77] <;> rfl
theorem y_fl77x1 (k : Nat → TypeId → Prop) : fldW Tryd.prog 77 1 k = k 1 17 := by unfold fldW tyOf; rw [Tryd.underlying77] <;> rfl
theorem y_fl77x2 (k : Nat → TypeId → Prop) : fldW Tryd.prog 77 2 k = k 2 17 := by unfold fldW tyOf; rw [Tryd.underlying77] <;> rfl
theorem y_fl77x3 (k : Nat → TypeId → Prop) : fldW Tryd.prog 77 3 k = k 3 9 := by unfold fldW tyOf; rw [Tryd.underlying77] <;> rfl
theorem y_sz77 (k : Nat → Prop) : szW Tryd.prog 77 k = k 4 := by unfold szW; rw [show Tryd.prog.info? 77 = some Tryd.t77 from Tryd.type77]; rfl
theorem y_by77 (k : Nat → Prop) : byW Tryd.prog 77 k = k 40 := by unfold byW; rw [show Tryd.prog.info? 77 = some Tryd.t77 from Tryd.type77]; rfl
theorem y_is77 : (Tryd.prog.info? 77).isSome = true := by rw [show Tryd.prog.info? 77 = some Tryd.t77 from Tryd.type77]; rfl
theorem y_zr77 (k : List D → Prop) : zeroW Tryd.prog 77 k = k [.any, .any, .any, .str []] := by unfold zeroW; rw [show Tryd.prog.info? 77 = some Tryd.t77 from Tryd.type77]; exact zero_is (i := Tryd.t77) rfl (by decide +kernel) (by rfl)
theorem y_ty78 (k : TY → Prop) : tyW Tryd.prog 78 k = k (.struct [(0, 17), (1, 17), (2, 17), (3, 9)]) := by unfold tyW tyOf; rw [Tryd.underlying78] <;> rfl
theorem y_fl78x0 (k : Nat → TypeId → Prop) : fldW Tryd.prog 78 0 k = k 0 17 := by unfold fldW tyOf; rw [Tryd.underlying78] <;> rfl
theorem y_fl78x1 (k : Nat → TypeId → Prop) : fldW Tryd.prog 78 1 k = k 1 17 := by unfold fldW tyOf; rw [Tryd.underlying78] <;> rfl
theorem y_fl78x2 (k : Nat → TypeId → Prop) : fldW Tryd.prog 78 2 k = k 2 17 := by unfold fldW tyOf; rw [Tryd.underlying78] <;> rfl
theorem y_fl78x3 (k : Nat → TypeId → Prop) : fldW Tryd.prog 78 3 k = k 3 9 := by unfold fldW tyOf; rw [Tryd.underlying78] <;> rfl
theorem y_sz78 (k : Nat → Prop) : szW Tryd.prog 78 k = k 4 := by unfold szW; rw [show Tryd.prog.info? 78 = some Tryd.t78 from Tryd.type78]; rfl
theorem y_by78 (k : Nat → Prop) : byW Tryd.prog 78 k = k 40 := by unfold byW; rw [show Tryd.prog.info? 78 = some Tryd.t78 from Tryd.type78]; rfl
theorem y_is78 : (Tryd.prog.info? 78).isSome = true := by rw [show Tryd.prog.info? 78 = some Tryd.t78 from Tryd.type78]; rfl
theorem y_zr78 (k : List D → Prop) : zeroW Tryd.prog 78 k = k [.any, .any, .any, .str []] := by unfold zeroW; rw [show Tryd.prog.info? 78 = some Tryd.t78 from Tryd.type78]; exact zero_is (i := Tryd.t78) rfl (by decide +kernel) (by rfl)
theorem y_ty79 (k : TY → Prop) : tyW Tryd.prog 79 k = k (.arr 0 16) := by unfold tyW tyOf; rw [Tryd.underlying79] <;> rfl
theorem y_sz79 (k : Nat → Prop) : szW Tryd.prog 79 k = k 0 := by unfold szW; rw [show Tryd.prog.info? 79 = some Tryd.t79 from Tryd.type79]; rfl
theorem y_by79 (k : Nat → Prop) : byW Tryd.prog 79 k = k 0 := by unfold byW; rw [show Tryd.prog.info? 79 = some Tryd.t79 from Tryd.type79]; rfl
theorem y_is79 : (Tryd.prog.info? 79).isSome = true := by rw [show Tryd.prog.info? 79 = some Tryd.t79 from Tryd.type79]; rfl
theorem y_zr79 (k : List D → Prop) : zeroW Tryd.prog 79 k = k [] := by unfold zeroW; rw [show Tryd.prog.info? 79 = some Tryd.t79 from Tryd.type79]; exact zero_is (i := Tryd.t79) rfl (by decide +kernel) (by rfl)
theorem y_ty80 (k : TY → Prop) : tyW Tryd.prog 80 k = k (.struct [(0, 79)]) := by unfold tyW tyOf; rw [Tryd.underlying80] <;> rfl
theorem y_fl80x0 (k : Nat → TypeId → Prop) : fldW Tryd.prog 80 0 k = k 0 79 := by unfold fldW tyOf; rw [Tryd.underlying80] <;> rfl
theorem y_sz80 (k : Nat → Prop) : szW Tryd.prog 80 k = k 0 := by unfold szW; rw [show Tryd.prog.info? 80 = some Tryd.t80 from Tryd.type80]; rfl
theorem y_by80 (k : Nat → Prop) : byW Tryd.prog 80 k = k 0 := by unfold byW; rw [show Tryd.prog.info? 80 = some Tryd.t80 from Tryd.type80]; rfl
theorem y_is80 : (Tryd.prog.info? 80).isSome = true := by rw [show Tryd.prog.info? 80 = some Tryd.t80 from Tryd.type80]; rfl
theorem y_zr80 (k : List D → Prop) : zeroW Tryd.prog 80 k = k [] := by unfold zeroW; rw [show Tryd.prog.info? 80 = some Tryd.t80 from Tryd.type80]; exact zero_is (i := Tryd.t80) rfl (by decide +kernel) (by rfl)
theorem y_ty81 (k : TY → Prop) : tyW Tryd.prog 81 k = k (.struct [(0, 79)]) := by unfold tyW tyOf; rw [Tryd.underlying81] <;> rfl
theorem y_fl81x0 (k : Nat → TypeId → Prop) : fldW Tryd.prog 81 0 k = k 0 79 := by unfold fldW tyOf; rw [Tryd.underlying81] <;> rfl
theorem y_sz81 (k : Nat → Prop) : szW Tryd.prog 81 k = k 0 := by unfold szW; rw [show Tryd.prog.info? 81 = some Tryd.t81 from Tryd.type81]; rfl
theorem y_by81 (k : Nat → Prop) : byW Tryd.prog 81 k = k 0 := by unfold byW; rw [show Tryd.prog.info? 81 = some Tryd.t81 from Tryd.type81]; rfl
theorem y_is81 : (Tryd.prog.info? 81).isSome = true := by rw [show Tryd.prog.info? 81 = some Tryd.t81 from Tryd.type81]; rfl
theorem y_zr81 (k : List D → Prop) : zeroW Tryd.prog 81 k = k [] := by unfold zeroW; rw [show Tryd.prog.info? 81 = some Tryd.t81 from Tryd.type81]; exact zero_is (i := Tryd.t81) rfl (by decide +kernel) (by rfl)
theorem y_ty82 (k : TY → Prop) : tyW Tryd.prog 82 k = k (.func) := by unfold tyW tyOf; rw [Tryd.underlying82] <;> rfl
theorem y_sz82 (k : Nat → Prop) : szW Tryd.prog 82 k = k 1 := by unfold szW; rw [show Tryd.prog.info? 82 = some Tryd.t82 from Tryd.type82]; rfl
theorem y_by82 (k : Nat → Prop) : byW Tryd.prog 82 k = k 8 := by unfold byW; rw [show Tryd.prog.info? 82 = some Tryd.t82 from Tryd.type82]; rfl
theorem y_is82 : (Tryd.prog.info? 82).isSome = true := by rw [show Tryd.prog.info? 82 = some Tryd.t82 from Tryd.type82]; rfl
theorem y_zr82 (k : List D → Prop) : zeroW Tryd.prog 82 k = k [.any] := by unfold zeroW; rw [show Tryd.prog.info? 82 = some Tryd.t82 from Tryd.type82]; exact zero_is (i := Tryd.t82) rfl (by decide +kernel) (by rfl)
theorem y_ty83 (k : TY → Prop) : tyW Tryd.prog 83 k = k (.int .u8) := by unfold tyW tyOf; rw [Tryd.underlying83] <;> rfl
theorem y_sz83 (k : Nat → Prop) : szW Tryd.prog 83 k = k 1 := by unfold szW; rw [show Tryd.prog.info? 83 = some Tryd.t83 from Tryd.type83]; rfl
theorem y_by83 (k : Nat → Prop) : byW Tryd.prog 83 k = k 1 := by unfold byW; rw [show Tryd.prog.info? 83 = some Tryd.t83 from Tryd.type83]; rfl
theorem y_is83 : (Tryd.prog.info? 83).isSome = true := by rw [show Tryd.prog.info? 83 = some Tryd.t83 from Tryd.type83]; rfl
theorem y_zr83 (k : List D → Prop) : zeroW Tryd.prog 83 k = k [.int .u8 0] := by unfold zeroW; rw [show Tryd.prog.info? 83 = some Tryd.t83 from Tryd.type83]; exact zero_is (i := Tryd.t83) rfl (by decide +kernel) (by rfl)
theorem y_ty84 (k : TY → Prop) : tyW Tryd.prog 84 k = k (.int .u8) := by unfold tyW tyOf; rw [Tryd.underlying84] <;> rfl
theorem y_sz84 (k : Nat → Prop) : szW Tryd.prog 84 k = k 1 := by unfold szW; rw [show Tryd.prog.info? 84 = some Tryd.t84 from Tryd.type84]; rfl
theorem y_by84 (k : Nat → Prop) : byW Tryd.prog 84 k = k 1 := by unfold byW; rw [show Tryd.prog.info? 84 = some Tryd.t84 from Tryd.type84]; rfl
theorem y_is84 : (Tryd.prog.info? 84).isSome = true := by rw [show Tryd.prog.info? 84 = some Tryd.t84 from Tryd.type84]; rfl
theorem y_zr84 (k : List D → Prop) : zeroW Tryd.prog 84 k = k [.int .u8 0] := by unfold zeroW; rw [show Tryd.prog.info? 84 = some Tryd.t84 from Tryd.type84]; exact zero_is (i := Tryd.t84) rfl (by decide +kernel) (by rfl)
theorem y_ty85 (k : TY → Prop) : tyW Tryd.prog 85 k = k (.func) := by unfold tyW tyOf; rw [Tryd.underlying85] <;> rfl
theorem y_sz85 (k : Nat → Prop) : szW Tryd.prog 85 k = k 1 := by unfold szW; rw [show Tryd.prog.info? 85 = some Tryd.t85 from Tryd.type85]; rfl
theorem y_by85 (k : Nat → Prop) : byW Tryd.prog 85 k = k 8 := by unfold byW; rw [show Tryd.prog.info? 85 = some Tryd.t85 from Tryd.type85]; rfl
theorem y_is85 : (Tryd.prog.info? 85).isSome = true := by rw [show Tryd.prog.info? 85 = some Tryd.t85 from Tryd.type85]; rfl
theorem y_zr85 (k : List D → Prop) : zeroW Tryd.prog 85 k = k [.any] := by unfold zeroW; rw [show Tryd.prog.info? 85 = some Tryd.t85 from Tryd.type85]; exact zero_is (i := Tryd.t85) rfl (by decide +kernel) (by rfl)
theorem y_ty86 (k : TY → Prop) : tyW Tryd.prog 86 k = k (.ptr 5) := by unfold tyW tyOf; rw [Tryd.underlying86] <;> rfl
theorem y_sz86 (k : Nat → Prop) : szW Tryd.prog 86 k = k 1 := by unfold szW; rw [show Tryd.prog.info? 86 = some Tryd.t86 from Tryd.type86]; rfl
theorem y_by86 (k : Nat → Prop) : byW Tryd.prog 86 k = k 8 := by unfold byW; rw [show Tryd.prog.info? 86 = some Tryd.t86 from Tryd.type86]; rfl
theorem y_is86 : (Tryd.prog.info? 86).isSome = true := by rw [show Tryd.prog.info? 86 = some Tryd.t86 from Tryd.type86]; rfl
theorem y_zr86 (k : List D → Prop) : zeroW Tryd.prog 86 k = k [.any] := by unfold zeroW; rw [show Tryd.prog.info? 86 = some Tryd.t86 from Tryd.type86]; exact zero_is (i := Tryd.t86) rfl (by decide +kernel) (by rfl)
theorem y_ty87 (k : TY → Prop) : tyW Tryd.prog 87 k = k (.int .i32) := by unfold tyW tyOf; rw [Tryd.underlying87] <;> rfl
theorem y_sz87 (k : Nat → Prop) : szW Tryd.prog 87 k = k 1 := by unfold szW; rw [show Tryd.prog.info? 87 = some Tryd.t87 from Tryd.type87]; rfl
theorem y_by87 (k : Nat → Prop) : byW Tryd.prog 87 k = k 4 := by unfold byW; rw [show Tryd.prog.info? 87 = some Tryd.t87 from Tryd.type87]; rfl
theorem y_is87 : (Tryd.prog.info? 87).isSome = true := by rw [show Tryd.prog.info? 87 = some Tryd.t87 from Tryd.type87]; rfl
theorem y_zr87 (k : List D → Prop) : zeroW Tryd.prog 87 k = k [.int .i32 0] := by unfold zeroW; rw [show Tryd.prog.info? 87 = some Tryd.t87 from Tryd.type87]; exact zero_is (i := Tryd.t87) rfl (by decide +kernel) (by rfl)
theorem y_ty88 (k : TY → Prop) : tyW Tryd.prog 88 k = k (.int .i32) := by unfold tyW tyOf; rw [Tryd.underlying88] <;> rfl
theorem y_sz88 (k : Nat → Prop) : szW Tryd.prog 88 k = k 1 := by unfold szW; rw [show Tryd.prog.info? 88 = some Tryd.t88 from Tryd.type88]; rfl
theorem y_by88 (k : Nat → Prop) : byW Tryd.prog 88 k = k 4 := by unfold byW; rw [show Tryd.prog.info? 88 = some Tryd.t88 from Tryd.type88]; rfl
theorem y_is88 : (Tryd.prog.info? 88).isSome = true := by rw [show Tryd.prog.info? 88 = some Tryd.t88 from Tryd.type88]; rfl
theorem y_zr88 (k : List D → Prop) : zeroW Tryd.prog 88 k = k [.int .i32 0] := by unfold zeroW; rw [show Tryd.prog.info? 88 = some Tryd.t88 from Tryd.type88]; exact zero_is (i := Tryd.t88) rfl (by decide +kernel) (by rfl)
theorem y_ty89 (k : TY → Prop) : tyW Tryd.prog 89 k = k (.struct [(0, 12), (1, 12), (2, 29), (3, 83), (4, 5), (5, 5), (6, 84), (7, 85), (8, 86), (9, 87), (10, 88)]) := by unfold tyW tyOf; rw [Tryd.underlying89] <;> rfl
theorem y_fl89x0 (k : Nat → TypeId → Prop) : fldW Tryd.prog 89 0 k = k 0 12 := by unfold fldW tyOf; rw [Tryd.underlying89] <;> rfl
theorem y_fl89x1 (k : Nat → TypeId → Prop) : fldW Tryd.prog 89 1 k = k 1 12 := by unfold fldW tyOf; rw [Tryd.underlying89] <;> rfl
theorem y_fl89x2 (k : Nat → TypeId → Prop) : fldW Tryd.prog 89 2 k = k 2 29 := by unfold fldW tyOf; rw [Tryd.underlying89] <;> rfl
theorem y_fl89x3 (k : Nat → TypeId → Prop) : fldW Tryd.prog 89 3 k = k 3 83 := by unfold fldW tyOf; rw [Tryd.underlying89] <;> rfl
theorem y_fl89x4 (k : Nat → TypeId → Prop) : fldW Tryd.prog 89 4 k = k 4 5 := by unfold fldW tyOf; rw [Tryd.underlying89] <;> rfl
theorem y_fl89x5 (k : Nat → TypeId → Prop) : fldW Tryd.prog 89 5 k = k 5 5 := by unfold fldW tyOf; rw [Tryd.underlying89] <;> rfl
theorem y_fl89x6 (k : Nat → TypeId → Prop) : fldW Tryd.prog 89 6 k = k 6 84 := by unfold fldW tyOf; rw [Tryd.underlying89] <;> rfl
theorem y_fl89x7 (k : Nat → TypeId → Prop) : fldW Tryd.prog 89 7 k = k 7 85 := by unfold fldW tyOf; rw [Tryd.underlying89] <;> rfl
theorem y_fl89x8 (k : Nat → TypeId → Prop) : fldW Tryd.prog 89 8 k = k 8 86 := by unfold fldW tyOf; rw [Tryd.underlying89] <;> rfl
theorem y_fl89x9 (k : Nat → TypeId → Prop) : fldW Tryd.prog 89 9 k = k 9 87 := by unfold fldW tyOf; rw [Tryd.underlying89] <;> rfl
theorem y_fl89x10 (k : Nat → TypeId → Prop) : fldW Tryd.prog 89 10 k = k 10 88 := by unfold fldW tyOf; rw [Tryd.underlying89] <;> rfl
theorem y_sz89 (k : Nat → Prop) : szW Tryd.prog 89 k = k 11 := by unfold szW; rw [show Tryd.prog.info? 89 = some Tryd.t89 from Tryd.type89]; rfl
theorem y_by89 (k : Nat → Prop) : byW Tryd.prog 89 k = k 48 := by unfold byW; rw [show Tryd.prog.info? 89 = some Tryd.t89 from Tryd.type89]; rfl
theorem y_is89 : (Tryd.prog.info? 89).isSome = true := by rw [show Tryd.prog.info? 89 = some Tryd.t89 from Tryd.type89]; rfl
theorem y_zr89 (k : List D → Prop) : zeroW Tryd.prog 89 k = k [.int .u64 0, .int .u64 0, .int .u32 0, .int .u8 0, .int .u8 0, .int .u8 0, .int .u8 0, .any, .any, .int .i32 0, .int .i32 0] := by unfold zeroW; rw [show Tryd.prog.info? 89 = some Tryd.t89 from Tryd.type89]; exact zero_is (i := Tryd.t89) rfl (by decide +kernel) (by rfl)
theorem y_ty90 (k : TY → Prop) : tyW Tryd.prog 90 k = k (.struct [(0, 12), (1, 12), (2, 29), (3, 83), (4, 5), (5, 5), (6, 84), (7, 85), (8, 86), (9, 87), (10, 88)]) := by unfold tyW tyOf; rw [Tryd.underlying90] <;> rfl
theorem y_fl90x0 (k : Nat → TypeId → Prop) : fldW Tryd.prog 90 0 k = k 0 12 := by unfold fldW tyOf; rw [Tryd.underlying90] <;> rfl
theorem y_fl90x1 (k : Nat → TypeId → Prop) : fldW Tryd.prog 90 1 k = k 1 12 := by unfold fldW tyOf; rw [Tryd.underlying90] <;> rfl
theorem y_fl90x2 (k : Nat → TypeId → Prop) : fldW Tryd.prog 90 2 k = k 2 29 := by unfold fldW tyOf; rw [Tryd.underlying90] <;> rfl
theorem y_fl90x3 (k : Nat → TypeId → Prop) : fldW Tryd.prog 90 3 k = k 3 83 := by unfold fldW tyOf; rw [Tryd.underlying90] <;> rfl
theorem y_fl90x4 (k : Nat → TypeId → Prop) : fldW Tryd.prog 90 4 k = k 4 5 := by unfold fldW tyOf; rw [Tryd.underlying90] <;> rfl
theorem y_fl90x5 (k : Nat → TypeId → Prop) : fldW Tryd.prog 90 5 k = k 5 5 := by unfold fldW tyOf; rw [Tryd.underlying90] <;> rfl
theorem y_fl90x6 (k : Nat → TypeId → Prop) : fldW Tryd.prog 90 6 k = k 6 84 := by unfold fldW tyOf; rw [Tryd.underlying90] <;> rfl
theorem y_fl90x7 (k : Nat → TypeId → Prop) : fldW Tryd.prog 90 7 k = k 7 85 := by unfold fldW tyOf; rw [Tryd.underlying90] <;> rfl
theorem y_fl90x8 (k : Nat → TypeId → Prop) : fldW Tryd.prog 90 8 k = k 8 86 := by unfold fldW tyOf; rw [Tryd.underlying90] <;> rfl
theorem y_fl90x9 (k : Nat → TypeId → Prop) : fldW Tryd.prog 90 9 k = k 9 87 := by unfold fldW tyOf; rw [Tryd.underlying90] <;> rfl
theorem y_fl90x10 (k : Nat → TypeId → Prop) : fldW Tryd.prog 90 10 k = k 10 88 := by unfold fldW tyOf; rw [Tryd.underlying90] <;> rfl
theorem y_sz90 (k : Nat → Prop) : szW Tryd.prog 90 k = k 11 := by unfold szW; rw [show Tryd.prog.info? 90 = some Tryd.t90 from Tryd.type90]; rfl
theorem y_by90 (k : Nat → Prop) : byW Tryd.prog 90 k = k 48 := by unfold byW; rw [show Tryd.prog.info? 90 = some Tryd.t90 from Tryd.type90]; rfl
theorem y_is90 : (Tryd.prog.info? 90).isSome = true := by rw [show Tryd.prog.info? 90 = some Tryd.t90 from Tryd.type90]; rfl
theorem y_zr90 (k : List D → Prop) : zeroW Tryd.prog 90 k = k [.int .u64 0, .int .u64 0, .int .u32 0, .int .u8 0, .int .u8 0, .int .u8 0, .int .u8 0, .any, .any, .int .i32 0, .int .i32 0] := by unfold zeroW; rw [show Tryd.prog.info? 90 = some Tryd.t90 from Tryd.type90]; exact zero_is (i := Tryd.t90) rfl (by decide +kernel) (by rfl)
end Go.Abs
