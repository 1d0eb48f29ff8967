/-
  The types of the seat's program, as the walk reads them. Printed.
-/
import Derived.Test.YtdjfnipabekkaaaProg
import Derived.Test.YtdjfnipabekkaaaAbs28
namespace Go.Abs
set_option maxRecDepth 100000
open Go.Proofs
theorem y_mix : (Try.prog.follows .mixedOrders = true) = True := eq_true (by decide +kernel)
theorem y_ty1 (k : TY → Prop) : tyW Try.prog 1 k = k (.func) := by unfold tyW tyOf; rw [Try.underlying1] <;> rfl
theorem y_sz1 (k : Nat → Prop) : szW Try.prog 1 k = k 1 := by unfold szW; rw [show Try.prog.info? 1 = some Try.t1 from Try.type1]; rfl
theorem y_by1 (k : Nat → Prop) : byW Try.prog 1 k = k 8 := by unfold byW; rw [show Try.prog.info? 1 = some Try.t1 from Try.type1]; rfl
theorem y_is1 : (Try.prog.info? 1).isSome = true := by rw [show Try.prog.info? 1 = some Try.t1 from Try.type1]; rfl
theorem y_zr1 (k : List D → Prop) : zeroW Try.prog 1 k = k [.any] := by unfold zeroW; rw [show Try.prog.info? 1 = some Try.t1 from Try.type1]; exact zero_is (i := Try.t1) rfl (by decide +kernel) (by rfl)
theorem y_ty2 (k : TY → Prop) : tyW Try.prog 2 k = k (.int .i64) := by unfold tyW tyOf; rw [Try.underlying2] <;> rfl
theorem y_sz2 (k : Nat → Prop) : szW Try.prog 2 k = k 1 := by unfold szW; rw [show Try.prog.info? 2 = some Try.t2 from Try.type2]; rfl
theorem y_by2 (k : Nat → Prop) : byW Try.prog 2 k = k 8 := by unfold byW; rw [show Try.prog.info? 2 = some Try.t2 from Try.type2]; rfl
theorem y_is2 : (Try.prog.info? 2).isSome = true := by rw [show Try.prog.info? 2 = some Try.t2 from Try.type2]; rfl
theorem y_zr2 (k : List D → Prop) : zeroW Try.prog 2 k = k [.int .i64 0] := by unfold zeroW; rw [show Try.prog.info? 2 = some Try.t2 from Try.type2]; exact zero_is (i := Try.t2) rfl (by decide +kernel) (by rfl)
theorem y_ty3 (k : TY → Prop) : tyW Try.prog 3 k = k (.int .i64) := by unfold tyW tyOf; rw [Try.underlying3] <;> rfl
theorem y_sz3 (k : Nat → Prop) : szW Try.prog 3 k = k 1 := by unfold szW; rw [show Try.prog.info? 3 = some Try.t3 from Try.type3]; rfl
theorem y_by3 (k : Nat → Prop) : byW Try.prog 3 k = k 8 := by unfold byW; rw [show Try.prog.info? 3 = some Try.t3 from Try.type3]; rfl
theorem y_is3 : (Try.prog.info? 3).isSome = true := by rw [show Try.prog.info? 3 = some Try.t3 from Try.type3]; rfl
theorem y_zr3 (k : List D → Prop) : zeroW Try.prog 3 k = k [.int .i64 0] := by unfold zeroW; rw [show Try.prog.info? 3 = some Try.t3 from Try.type3]; exact zero_is (i := Try.t3) rfl (by decide +kernel) (by rfl)
theorem y_ty4 (k : TY → Prop) : tyW Try.prog 4 k = k (.bool) := by unfold tyW tyOf; rw [Try.underlying4] <;> rfl
theorem y_sz4 (k : Nat → Prop) : szW Try.prog 4 k = k 1 := by unfold szW; rw [show Try.prog.info? 4 = some Try.t4 from Try.type4]; rfl
theorem y_by4 (k : Nat → Prop) : byW Try.prog 4 k = k 1 := by unfold byW; rw [show Try.prog.info? 4 = some Try.t4 from Try.type4]; rfl
theorem y_is4 : (Try.prog.info? 4).isSome = true := by rw [show Try.prog.info? 4 = some Try.t4 from Try.type4]; rfl
theorem y_zr4 (k : List D → Prop) : zeroW Try.prog 4 k = k [.bool false] := by unfold zeroW; rw [show Try.prog.info? 4 = some Try.t4 from Try.type4]; exact zero_is (i := Try.t4) rfl (by decide +kernel) (by rfl)
theorem y_ty5 (k : TY → Prop) : tyW Try.prog 5 k = k (.int .u8) := by unfold tyW tyOf; rw [Try.underlying5] <;> rfl
theorem y_sz5 (k : Nat → Prop) : szW Try.prog 5 k = k 1 := by unfold szW; rw [show Try.prog.info? 5 = some Try.t5 from Try.type5]; rfl
theorem y_by5 (k : Nat → Prop) : byW Try.prog 5 k = k 1 := by unfold byW; rw [show Try.prog.info? 5 = some Try.t5 from Try.type5]; rfl
theorem y_is5 : (Try.prog.info? 5).isSome = true := by rw [show Try.prog.info? 5 = some Try.t5 from Try.type5]; rfl
theorem y_zr5 (k : List D → Prop) : zeroW Try.prog 5 k = k [.int .u8 0] := by unfold zeroW; rw [show Try.prog.info? 5 = some Try.t5 from Try.type5]; exact zero_is (i := Try.t5) rfl (by decide +kernel) (by rfl)
theorem y_ty6 (k : TY → Prop) : tyW Try.prog 6 k = k (.int .u8) := by unfold tyW tyOf; rw [Try.underlying6] <;> rfl
theorem y_sz6 (k : Nat → Prop) : szW Try.prog 6 k = k 1 := by unfold szW; rw [show Try.prog.info? 6 = some Try.t6 from Try.type6]; rfl
theorem y_by6 (k : Nat → Prop) : byW Try.prog 6 k = k 1 := by unfold byW; rw [show Try.prog.info? 6 = some Try.t6 from Try.type6]; rfl
theorem y_is6 : (Try.prog.info? 6).isSome = true := by rw [show Try.prog.info? 6 = some Try.t6 from Try.type6]; rfl
theorem y_zr6 (k : List D → Prop) : zeroW Try.prog 6 k = k [.int .u8 0] := by unfold zeroW; rw [show Try.prog.info? 6 = some Try.t6 from Try.type6]; exact zero_is (i := Try.t6) rfl (by decide +kernel) (by rfl)
theorem y_ty7 (k : TY → Prop) : tyW Try.prog 7 k = k (.struct [(0, 2), (1, 3), (2, 4), (3, 6)]) := by unfold tyW tyOf; rw [Try.underlying7] <;> rfl
theorem y_fl7x0 (k : Nat → TypeId → Prop) : fldW Try.prog 7 0 k = k 0 2 := by unfold fldW tyOf; rw [Try.underlying7] <;> rfl
theorem y_fl7x1 (k : Nat → TypeId → Prop) : fldW Try.prog 7 1 k = k 1 3 := by unfold fldW tyOf; rw [Try.underlying7] <;> rfl
theorem y_fl7x2 (k : Nat → TypeId → Prop) : fldW Try.prog 7 2 k = k 2 4 := by unfold fldW tyOf; rw [Try.underlying7] <;> rfl
theorem y_fl7x3 (k : Nat → TypeId → Prop) : fldW Try.prog 7 3 k = k 3 6 := by unfold fldW tyOf; rw [Try.underlying7] <;> rfl
theorem y_sz7 (k : Nat → Prop) : szW Try.prog 7 k = k 4 := by unfold szW; rw [show Try.prog.info? 7 = some Try.t7 from Try.type7]; rfl
theorem y_by7 (k : Nat → Prop) : byW Try.prog 7 k = k 24 := by unfold byW; rw [show Try.prog.info? 7 = some Try.t7 from Try.type7]; rfl
theorem y_is7 : (Try.prog.info? 7).isSome = true := by rw [show Try.prog.info? 7 = some Try.t7 from Try.type7]; rfl
theorem y_zr7 (k : List D → Prop) : zeroW Try.prog 7 k = k [.int .i64 0, .int .i64 0, .bool false, .int .u8 0] := by unfold zeroW; rw [show Try.prog.info? 7 = some Try.t7 from Try.type7]; exact zero_is (i := Try.t7) rfl (by decide +kernel) (by rfl)
theorem y_ty8 (k : TY → Prop) : tyW Try.prog 8 k = k (.struct [(0, 2), (1, 3), (2, 4), (3, 6)]) := by unfold tyW tyOf; rw [Try.underlying8] <;> rfl
theorem y_fl8x0 (k : Nat → TypeId → Prop) : fldW Try.prog 8 0 k = k 0 2 := by unfold fldW tyOf; rw [Try.underlying8] <;> rfl
theorem y_fl8x1 (k : Nat → TypeId → Prop) : fldW Try.prog 8 1 k = k 1 3 := by unfold fldW tyOf; rw [Try.underlying8] <;> rfl
theorem y_fl8x2 (k : Nat → TypeId → Prop) : fldW Try.prog 8 2 k = k 2 4 := by unfold fldW tyOf; rw [Try.underlying8] <;> rfl
theorem y_fl8x3 (k : Nat → TypeId → Prop) : fldW Try.prog 8 3 k = k 3 6 := by unfold fldW tyOf; rw [Try.underlying8] <;> rfl
theorem y_sz8 (k : Nat → Prop) : szW Try.prog 8 k = k 4 := by unfold szW; rw [show Try.prog.info? 8 = some Try.t8 from Try.type8]; rfl
theorem y_by8 (k : Nat → Prop) : byW Try.prog 8 k = k 24 := by unfold byW; rw [show Try.prog.info? 8 = some Try.t8 from Try.type8]; rfl
theorem y_is8 : (Try.prog.info? 8).isSome = true := by rw [show Try.prog.info? 8 = some Try.t8 from Try.type8]; rfl
theorem y_zr8 (k : List D → Prop) : zeroW Try.prog 8 k = k [.int .i64 0, .int .i64 0, .bool false, .int .u8 0] := by unfold zeroW; rw [show Try.prog.info? 8 = some Try.t8 from Try.type8]; exact zero_is (i := Try.t8) rfl (by decide +kernel) (by rfl)
theorem y_ty9 (k : TY → Prop) : tyW Try.prog 9 k = k (.str) := by unfold tyW tyOf; rw [Try.underlying9] <;> rfl
theorem y_sz9 (k : Nat → Prop) : szW Try.prog 9 k = k 1 := by unfold szW; rw [show Try.prog.info? 9 = some Try.t9 from Try.type9]; rfl
theorem y_by9 (k : Nat → Prop) : byW Try.prog 9 k = k 16 := by unfold byW; rw [show Try.prog.info? 9 = some Try.t9 from Try.type9]; rfl
theorem y_is9 : (Try.prog.info? 9).isSome = true := by rw [show Try.prog.info? 9 = some Try.t9 from Try.type9]; rfl
theorem y_zr9 (k : List D → Prop) : zeroW Try.prog 9 k = k [.str []] := by unfold zeroW; rw [show Try.prog.info? 9 = some Try.t9 from Try.type9]; exact zero_is (i := Try.t9) rfl (by decide +kernel) (by rfl)
theorem y_ty10 (k : TY → Prop) : tyW Try.prog 10 k = k (.str) := by unfold tyW tyOf; rw [Try.underlying10] <;> rfl
theorem y_sz10 (k : Nat → Prop) : szW Try.prog 10 k = k 1 := by unfold szW; rw [show Try.prog.info? 10 = some Try.t10 from Try.type10]; rfl
theorem y_by10 (k : Nat → Prop) : byW Try.prog 10 k = k 16 := by unfold byW; rw [show Try.prog.info? 10 = some Try.t10 from Try.type10]; rfl
theorem y_is10 : (Try.prog.info? 10).isSome = true := by rw [show Try.prog.info? 10 = some Try.t10 from Try.type10]; rfl
theorem y_zr10 (k : List D → Prop) : zeroW Try.prog 10 k = k [.str []] := by unfold zeroW; rw [show Try.prog.info? 10 = some Try.t10 from Try.type10]; exact zero_is (i := Try.t10) rfl (by decide +kernel) (by rfl)
theorem y_ty11 (k : TY → Prop) : tyW Try.prog 11 k = k (.str) := by unfold tyW tyOf; rw [Try.underlying11] <;> rfl
theorem y_sz11 (k : Nat → Prop) : szW Try.prog 11 k = k 1 := by unfold szW; rw [show Try.prog.info? 11 = some Try.t11 from Try.type11]; rfl
theorem y_by11 (k : Nat → Prop) : byW Try.prog 11 k = k 16 := by unfold byW; rw [show Try.prog.info? 11 = some Try.t11 from Try.type11]; rfl
theorem y_is11 : (Try.prog.info? 11).isSome = true := by rw [show Try.prog.info? 11 = some Try.t11 from Try.type11]; rfl
theorem y_zr11 (k : List D → Prop) : zeroW Try.prog 11 k = k [.str []] := by unfold zeroW; rw [show Try.prog.info? 11 = some Try.t11 from Try.type11]; exact zero_is (i := Try.t11) rfl (by decide +kernel) (by rfl)
theorem y_ty12 (k : TY → Prop) : tyW Try.prog 12 k = k (.int .u64) := by unfold tyW tyOf; rw [Try.underlying12] <;> rfl
theorem y_sz12 (k : Nat → Prop) : szW Try.prog 12 k = k 1 := by unfold szW; rw [show Try.prog.info? 12 = some Try.t12 from Try.type12]; rfl
theorem y_by12 (k : Nat → Prop) : byW Try.prog 12 k = k 8 := by unfold byW; rw [show Try.prog.info? 12 = some Try.t12 from Try.type12]; rfl
theorem y_is12 : (Try.prog.info? 12).isSome = true := by rw [show Try.prog.info? 12 = some Try.t12 from Try.type12]; rfl
theorem y_zr12 (k : List D → Prop) : zeroW Try.prog 12 k = k [.int .u64 0] := by unfold zeroW; rw [show Try.prog.info? 12 = some Try.t12 from Try.type12]; exact zero_is (i := Try.t12) rfl (by decide +kernel) (by rfl)
theorem y_ty13 (k : TY → Prop) : tyW Try.prog 13 k = k (.struct [(0, 9), (1, 12)]) := by unfold tyW tyOf; rw [Try.underlying13] <;> rfl
theorem y_fl13x0 (k : Nat → TypeId → Prop) : fldW Try.prog 13 0 k = k 0 9 := by unfold fldW tyOf; rw [Try.underlying13] <;> rfl
theorem y_fl13x1 (k : Nat → TypeId → Prop) : fldW Try.prog 13 1 k = k 1 12 := by unfold fldW tyOf; rw [Try.underlying13] <;> rfl
theorem y_sz13 (k : Nat → Prop) : szW Try.prog 13 k = k 2 := by unfold szW; rw [show Try.prog.info? 13 = some Try.t13 from Try.type13]; rfl
theorem y_by13 (k : Nat → Prop) : byW Try.prog 13 k = k 24 := by unfold byW; rw [show Try.prog.info? 13 = some Try.t13 from Try.type13]; rfl
theorem y_is13 : (Try.prog.info? 13).isSome = true := by rw [show Try.prog.info? 13 = some Try.t13 from Try.type13]; rfl
theorem y_zr13 (k : List D → Prop) : zeroW Try.prog 13 k = k [.str [], .int .u64 0] := by unfold zeroW; rw [show Try.prog.info? 13 = some Try.t13 from Try.type13]; exact zero_is (i := Try.t13) rfl (by decide +kernel) (by rfl)
theorem y_ty14 (k : TY → Prop) : tyW Try.prog 14 k = k (.struct [(0, 9), (1, 12)]) := by unfold tyW tyOf; rw [Try.underlying14] <;> rfl
theorem y_fl14x0 (k : Nat → TypeId → Prop) : fldW Try.prog 14 0 k = k 0 9 := by unfold fldW tyOf; rw [Try.underlying14] <;> rfl
theorem y_fl14x1 (k : Nat → TypeId → Prop) : fldW Try.prog 14 1 k = k 1 12 := by unfold fldW tyOf; rw [Try.underlying14] <;> rfl
theorem y_sz14 (k : Nat → Prop) : szW Try.prog 14 k = k 2 := by unfold szW; rw [show Try.prog.info? 14 = some Try.t14 from Try.type14]; rfl
theorem y_by14 (k : Nat → Prop) : byW Try.prog 14 k = k 24 := by unfold byW; rw [show Try.prog.info? 14 = some Try.t14 from Try.type14]; rfl
theorem y_is14 : (Try.prog.info? 14).isSome = true := by rw [show Try.prog.info? 14 = some Try.t14 from Try.type14]; rfl
theorem y_zr14 (k : List D → Prop) : zeroW Try.prog 14 k = k [.str [], .int .u64 0] := by unfold zeroW; rw [show Try.prog.info? 14 = some Try.t14 from Try.type14]; exact zero_is (i := Try.t14) rfl (by decide +kernel) (by rfl)
theorem y_ty15 (k : TY → Prop) : tyW Try.prog 15 k = k (.ptr 110) := by unfold tyW tyOf; rw [Try.underlying15] <;> rfl
theorem y_sz15 (k : Nat → Prop) : szW Try.prog 15 k = k 1 := by unfold szW; rw [show Try.prog.info? 15 = some Try.t15 from Try.type15]; rfl
theorem y_by15 (k : Nat → Prop) : byW Try.prog 15 k = k 8 := by unfold byW; rw [show Try.prog.info? 15 = some Try.t15 from Try.type15]; rfl
theorem y_is15 : (Try.prog.info? 15).isSome = true := by rw [show Try.prog.info? 15 = some Try.t15 from Try.type15]; rfl
theorem y_zr15 (k : List D → Prop) : zeroW Try.prog 15 k = k [.any] := by unfold zeroW; rw [show Try.prog.info? 15 = some Try.t15 from Try.type15]; exact zero_is (i := Try.t15) rfl (by decide +kernel) (by rfl)
theorem y_ty16 (k : TY → Prop) : tyW Try.prog 16 k = k (.ptr 113) := by unfold tyW tyOf; rw [Try.underlying16] <;> rfl
theorem y_sz16 (k : Nat → Prop) : szW Try.prog 16 k = k 1 := by unfold szW; rw [show Try.prog.info? 16 = some Try.t16 from Try.type16]; rfl
theorem y_by16 (k : Nat → Prop) : byW Try.prog 16 k = k 8 := by unfold byW; rw [show Try.prog.info? 16 = some Try.t16 from Try.type16]; rfl
theorem y_is16 : (Try.prog.info? 16).isSome = true := by rw [show Try.prog.info? 16 = some Try.t16 from Try.type16]; rfl
theorem y_zr16 (k : List D → Prop) : zeroW Try.prog 16 k = k [.any] := by unfold zeroW; rw [show Try.prog.info? 16 = some Try.t16 from Try.type16]; exact zero_is (i := Try.t16) rfl (by decide +kernel) (by rfl)
theorem y_ty17 (k : TY → Prop) : tyW Try.prog 17 k = k (.ptr 122) := by unfold tyW tyOf; rw [Try.underlying17] <;> rfl
theorem y_sz17 (k : Nat → Prop) : szW Try.prog 17 k = k 1 := by unfold szW; rw [show Try.prog.info? 17 = some Try.t17 from Try.type17]; rfl
theorem y_by17 (k : Nat → Prop) : byW Try.prog 17 k = k 8 := by unfold byW; rw [show Try.prog.info? 17 = some Try.t17 from Try.type17]; rfl
theorem y_is17 : (Try.prog.info? 17).isSome = true := by rw [show Try.prog.info? 17 = some Try.t17 from Try.type17]; rfl
theorem y_zr17 (k : List D → Prop) : zeroW Try.prog 17 k = k [.any] := by unfold zeroW; rw [show Try.prog.info? 17 = some Try.t17 from Try.type17]; exact zero_is (i := Try.t17) rfl (by decide +kernel) (by rfl)
theorem y_ty18 (k : TY → Prop) : tyW Try.prog 18 k = k (.struct [(0, 17)]) := by unfold tyW tyOf; rw [Try.underlying18] <;> rfl
theorem y_fl18x0 (k : Nat → TypeId → Prop) : fldW Try.prog 18 0 k = k 0 17 := by unfold fldW tyOf; rw [Try.underlying18] <;> rfl
theorem y_sz18 (k : Nat → Prop) : szW Try.prog 18 k = k 1 := by unfold szW; rw [show Try.prog.info? 18 = some Try.t18 from Try.type18]; rfl
theorem y_by18 (k : Nat → Prop) : byW Try.prog 18 k = k 8 := by unfold byW; rw [show Try.prog.info? 18 = some Try.t18 from Try.type18]; rfl
theorem y_is18 : (Try.prog.info? 18).isSome = true := by rw [show Try.prog.info? 18 = some Try.t18 from Try.type18]; rfl
theorem y_zr18 (k : List D → Prop) : zeroW Try.prog 18 k = k [.any] := by unfold zeroW; rw [show Try.prog.info? 18 = some Try.t18 from Try.type18]; exact zero_is (i := Try.t18) rfl (by decide +kernel) (by rfl)
theorem y_ty19 (k : TY → Prop) : tyW Try.prog 19 k = k (.struct [(0, 17)]) := by unfold tyW tyOf; rw [Try.underlying19] <;> rfl
theorem y_fl19x0 (k : Nat → TypeId → Prop) : fldW Try.prog 19 0 k = k 0 17 := by unfold fldW tyOf; rw [Try.underlying19] <;> rfl
theorem y_sz19 (k : Nat → Prop) : szW Try.prog 19 k = k 1 := by unfold szW; rw [show Try.prog.info? 19 = some Try.t19 from Try.type19]; rfl
theorem y_by19 (k : Nat → Prop) : byW Try.prog 19 k = k 8 := by unfold byW; rw [show Try.prog.info? 19 = some Try.t19 from Try.type19]; rfl
theorem y_is19 : (Try.prog.info? 19).isSome = true := by rw [show Try.prog.info? 19 = some Try.t19 from Try.type19]; rfl
theorem y_zr19 (k : List D → Prop) : zeroW Try.prog 19 k = k [.any] := by unfold zeroW; rw [show Try.prog.info? 19 = some Try.t19 from Try.type19]; exact zero_is (i := Try.t19) rfl (by decide +kernel) (by rfl)
theorem y_ty21 (k : TY → Prop) : tyW Try.prog 21 k = k (.int .i32) := by unfold tyW tyOf; rw [Try.underlying21] <;> rfl
theorem y_sz21 (k : Nat → Prop) : szW Try.prog 21 k = k 1 := by unfold szW; rw [show Try.prog.info? 21 = some Try.t21 from Try.type21]; rfl
theorem y_by21 (k : Nat → Prop) : byW Try.prog 21 k = k 4 := by unfold byW; rw [show Try.prog.info? 21 = some Try.t21 from Try.type21]; rfl
theorem y_is21 : (Try.prog.info? 21).isSome = true := by rw [show Try.prog.info? 21 = some Try.t21 from Try.type21]; rfl
theorem y_zr21 (k : List D → Prop) : zeroW Try.prog 21 k = k [.int .i32 0] := by unfold zeroW; rw [show Try.prog.info? 21 = some Try.t21 from Try.type21]; exact zero_is (i := Try.t21) rfl (by decide +kernel) (by rfl)
theorem y_ty22 (k : TY → Prop) : tyW Try.prog 22 k = k (.slice 29) := by unfold tyW tyOf; rw [Try.underlying22] <;> rfl
theorem y_sz22 (k : Nat → Prop) : szW Try.prog 22 k = k 1 := by unfold szW; rw [show Try.prog.info? 22 = some Try.t22 from Try.type22]; rfl
theorem y_by22 (k : Nat → Prop) : byW Try.prog 22 k = k 24 := by unfold byW; rw [show Try.prog.info? 22 = some Try.t22 from Try.type22]; rfl
theorem y_is22 : (Try.prog.info? 22).isSome = true := by rw [show Try.prog.info? 22 = some Try.t22 from Try.type22]; rfl
theorem y_zr22 (k : List D → Prop) : zeroW Try.prog 22 k = k [.nils] := by unfold zeroW; rw [show Try.prog.info? 22 = some Try.t22 from Try.type22]; exact zero_is (i := Try.t22) rfl (by decide +kernel) (by rfl)
theorem y_ty23 (k : TY → Prop) : tyW Try.prog 23 k = k (.struct [(0, 3), (1, 22)]) := by unfold tyW tyOf; rw [Try.underlying23] <;> rfl
theorem y_fl23x0 (k : Nat → TypeId → Prop) : fldW Try.prog 23 0 k = k 0 3 := by unfold fldW tyOf; rw [Try.underlying23] <;> rfl
theorem y_fl23x1 (k : Nat → TypeId → Prop) : fldW Try.prog 23 1 k = k 1 22 := by unfold fldW tyOf; rw [Try.underlying23] <;> rfl
theorem y_sz23 (k : Nat → Prop) : szW Try.prog 23 k = k 2 := by unfold szW; rw [show Try.prog.info? 23 = some Try.t23 from Try.type23]; rfl
theorem y_by23 (k : Nat → Prop) : byW Try.prog 23 k = k 32 := by unfold byW; rw [show Try.prog.info? 23 = some Try.t23 from Try.type23]; rfl
theorem y_is23 : (Try.prog.info? 23).isSome = true := by rw [show Try.prog.info? 23 = some Try.t23 from Try.type23]; rfl
theorem y_zr23 (k : List D → Prop) : zeroW Try.prog 23 k = k [.int .i64 0, .nils] := by unfold zeroW; rw [show Try.prog.info? 23 = some Try.t23 from Try.type23]; exact zero_is (i := Try.t23) rfl (by decide +kernel) (by rfl)
theorem y_ty24 (k : TY → Prop) : tyW Try.prog 24 k = k (.struct [(0, 3), (1, 22)]) := by unfold tyW tyOf; rw [Try.underlying24] <;> rfl
theorem y_fl24x0 (k : Nat → TypeId → Prop) : fldW Try.prog 24 0 k = k 0 3 := by unfold fldW tyOf; rw [Try.underlying24] <;> rfl
theorem y_fl24x1 (k : Nat → TypeId → Prop) : fldW Try.prog 24 1 k = k 1 22 := by unfold fldW tyOf; rw [Try.underlying24] <;> rfl
theorem y_sz24 (k : Nat → Prop) : szW Try.prog 24 k = k 2 := by unfold szW; rw [show Try.prog.info? 24 = some Try.t24 from Try.type24]; rfl
theorem y_by24 (k : Nat → Prop) : byW Try.prog 24 k = k 32 := by unfold byW; rw [show Try.prog.info? 24 = some Try.t24 from Try.type24]; rfl
theorem y_is24 : (Try.prog.info? 24).isSome = true := by rw [show Try.prog.info? 24 = some Try.t24 from Try.type24]; rfl
theorem y_zr24 (k : List D → Prop) : zeroW Try.prog 24 k = k [.int .i64 0, .nils] := by unfold zeroW; rw [show Try.prog.info? 24 = some Try.t24 from Try.type24]; exact zero_is (i := Try.t24) rfl (by decide +kernel) (by rfl)
theorem y_ty25 (k : TY → Prop) : tyW Try.prog 25 k = k (.arr 2 3) := by unfold tyW tyOf; rw [Try.underlying25] <;> rfl
theorem y_sz25 (k : Nat → Prop) : szW Try.prog 25 k = k 2 := by unfold szW; rw [show Try.prog.info? 25 = some Try.t25 from Try.type25]; rfl
theorem y_by25 (k : Nat → Prop) : byW Try.prog 25 k = k 16 := by unfold byW; rw [show Try.prog.info? 25 = some Try.t25 from Try.type25]; rfl
theorem y_is25 : (Try.prog.info? 25).isSome = true := by rw [show Try.prog.info? 25 = some Try.t25 from Try.type25]; rfl
theorem y_zr25 (k : List D → Prop) : zeroW Try.prog 25 k = k [.int .i64 0, .int .i64 0] := by unfold zeroW; rw [show Try.prog.info? 25 = some Try.t25 from Try.type25]; exact zero_is (i := Try.t25) rfl (by decide +kernel) (by rfl)
theorem y_ty26 (k : TY → Prop) : tyW Try.prog 26 k = k (.struct [(0, 3), (1, 3)]) := by unfold tyW tyOf; rw [Try.underlying26] <;> rfl
theorem y_fl26x0 (k : Nat → TypeId → Prop) : fldW Try.prog 26 0 k = k 0 3 := by unfold fldW tyOf; rw [Try.underlying26] <;> rfl
theorem y_fl26x1 (k : Nat → TypeId → Prop) : fldW Try.prog 26 1 k = k 1 3 := by unfold fldW tyOf; rw [Try.underlying26] <;> rfl
theorem y_sz26 (k : Nat → Prop) : szW Try.prog 26 k = k 2 := by unfold szW; rw [show Try.prog.info? 26 = some Try.t26 from Try.type26]; rfl
theorem y_by26 (k : Nat → Prop) : byW Try.prog 26 k = k 16 := by unfold byW; rw [show Try.prog.info? 26 = some Try.t26 from Try.type26]; rfl
theorem y_is26 : (Try.prog.info? 26).isSome = true := by rw [show Try.prog.info? 26 = some Try.t26 from Try.type26]; rfl
theorem y_zr26 (k : List D → Prop) : zeroW Try.prog 26 k = k [.int .i64 0, .int .i64 0] := by unfold zeroW; rw [show Try.prog.info? 26 = some Try.t26 from Try.type26]; exact zero_is (i := Try.t26) rfl (by decide +kernel) (by rfl)
theorem y_ty27 (k : TY → Prop) : tyW Try.prog 27 k = k (.struct [(0, 3), (1, 3)]) := by unfold tyW tyOf; rw [Try.underlying27] <;> rfl
theorem y_fl27x0 (k : Nat → TypeId → Prop) : fldW Try.prog 27 0 k = k 0 3 := by unfold fldW tyOf; rw [Try.underlying27] <;> rfl
theorem y_fl27x1 (k : Nat → TypeId → Prop) : fldW Try.prog 27 1 k = k 1 3 := by unfold fldW tyOf; rw [Try.underlying27] <;> rfl
theorem y_sz27 (k : Nat → Prop) : szW Try.prog 27 k = k 2 := by unfold szW; rw [show Try.prog.info? 27 = some Try.t27 from Try.type27]; rfl
theorem y_by27 (k : Nat → Prop) : byW Try.prog 27 k = k 16 := by unfold byW; rw [show Try.prog.info? 27 = some Try.t27 from Try.type27]; rfl
theorem y_is27 : (Try.prog.info? 27).isSome = true := by rw [show Try.prog.info? 27 = some Try.t27 from Try.type27]; rfl
theorem y_zr27 (k : List D → Prop) : zeroW Try.prog 27 k = k [.int .i64 0, .int .i64 0] := by unfold zeroW; rw [show Try.prog.info? 27 = some Try.t27 from Try.type27]; exact zero_is (i := Try.t27) rfl (by decide +kernel) (by rfl)
theorem y_fk27 (k : List K → Prop) : flkW Try.prog 27 k = k (List.replicate 2 (.int .i64)) := by unfold flkW; rw [show flatK Try.prog 8 27 = some (List.replicate 2 (.int .i64)) from rfl]; exact flk_is (by decide +kernel) Try.eqGuardType27 (by decide +kernel) ⟨_, .inl Try.underlying27⟩
theorem y_ty28 (k : TY → Prop) : tyW Try.prog 28 k = k (.struct [(0, 3), (1, 27)]) := by unfold tyW tyOf; rw [Try.underlying28] <;> rfl
theorem y_fl28x0 (k : Nat → TypeId → Prop) : fldW Try.prog 28 0 k = k 0 3 := by unfold fldW tyOf; rw [Try.underlying28] <;> rfl
theorem y_fl28x1 (k : Nat → TypeId → Prop) : fldW Try.prog 28 1 k = k 1 27 := by unfold fldW tyOf; rw [Try.underlying28] <;> rfl
theorem y_sz28 (k : Nat → Prop) : szW Try.prog 28 k = k 3 := by unfold szW; rw [show Try.prog.info? 28 = some Try.t28 from Try.type28]; rfl
theorem y_by28 (k : Nat → Prop) : byW Try.prog 28 k = k 24 := by unfold byW; rw [show Try.prog.info? 28 = some Try.t28 from Try.type28]; rfl
theorem y_is28 : (Try.prog.info? 28).isSome = true := by rw [show Try.prog.info? 28 = some Try.t28 from Try.type28]; rfl
theorem y_zr28 (k : List D → Prop) : zeroW Try.prog 28 k = k [.int .i64 0, .int .i64 0, .int .i64 0] := by unfold zeroW; rw [show Try.prog.info? 28 = some Try.t28 from Try.type28]; exact zero_is (i := Try.t28) rfl (by decide +kernel) (by rfl)
theorem y_ty29 (k : TY → Prop) : tyW Try.prog 29 k = k (.struct [(0, 3), (1, 27)]) := by unfold tyW tyOf; rw [Try.underlying29] <;> rfl
theorem y_fl29x0 (k : Nat → TypeId → Prop) : fldW Try.prog 29 0 k = k 0 3 := by unfold fldW tyOf; rw [Try.underlying29] <;> rfl
theorem y_fl29x1 (k : Nat → TypeId → Prop) : fldW Try.prog 29 1 k = k 1 27 := by unfold fldW tyOf; rw [Try.underlying29] <;> rfl
theorem y_sz29 (k : Nat → Prop) : szW Try.prog 29 k = k 3 := by unfold szW; rw [show Try.prog.info? 29 = some Try.t29 from Try.type29]; rfl
theorem y_by29 (k : Nat → Prop) : byW Try.prog 29 k = k 24 := by unfold byW; rw [show Try.prog.info? 29 = some Try.t29 from Try.type29]; rfl
theorem y_is29 : (Try.prog.info? 29).isSome = true := by rw [show Try.prog.info? 29 = some Try.t29 from Try.type29]; rfl
theorem y_zr29 (k : List D → Prop) : zeroW Try.prog 29 k = k [.int .i64 0, .int .i64 0, .int .i64 0] := by unfold zeroW; rw [show Try.prog.info? 29 = some Try.t29 from Try.type29]; exact zero_is (i := Try.t29) rfl (by decide +kernel) (by rfl)
theorem y_fk29 (k : List K → Prop) : flkW Try.prog 29 k = k (List.replicate 3 (.int .i64)) := by unfold flkW; rw [show flatK Try.prog 8 29 = some (List.replicate 3 (.int .i64)) from rfl]; exact flk_is (by decide +kernel) Try.eqGuardType29 (by decide +kernel) ⟨_, .inl Try.underlying29⟩
theorem y_ty30 (k : TY → Prop) : tyW Try.prog 30 k = k (.func) := by unfold tyW tyOf; rw [Try.underlying30] <;> rfl
theorem y_sz30 (k : Nat → Prop) : szW Try.prog 30 k = k 1 := by unfold szW; rw [show Try.prog.info? 30 = some Try.t30 from Try.type30]; rfl
theorem y_by30 (k : Nat → Prop) : byW Try.prog 30 k = k 8 := by unfold byW; rw [show Try.prog.info? 30 = some Try.t30 from Try.type30]; rfl
theorem y_is30 : (Try.prog.info? 30).isSome = true := by rw [show Try.prog.info? 30 = some Try.t30 from Try.type30]; rfl
theorem y_zr30 (k : List D → Prop) : zeroW Try.prog 30 k = k [.any] := by unfold zeroW; rw [show Try.prog.info? 30 = some Try.t30 from Try.type30]; exact zero_is (i := Try.t30) rfl (by decide +kernel) (by rfl)
theorem y_ty31 (k : TY → Prop) : tyW Try.prog 31 k = k (.func) := by unfold tyW tyOf; rw [Try.underlying31] <;> rfl
theorem y_sz31 (k : Nat → Prop) : szW Try.prog 31 k = k 1 := by unfold szW; rw [show Try.prog.info? 31 = some Try.t31 from Try.type31]; rfl
theorem y_by31 (k : Nat → Prop) : byW Try.prog 31 k = k 8 := by unfold byW; rw [show Try.prog.info? 31 = some Try.t31 from Try.type31]; rfl
theorem y_is31 : (Try.prog.info? 31).isSome = true := by rw [show Try.prog.info? 31 = some Try.t31 from Try.type31]; rfl
theorem y_zr31 (k : List D → Prop) : zeroW Try.prog 31 k = k [.any] := by unfold zeroW; rw [show Try.prog.info? 31 = some Try.t31 from Try.type31]; exact zero_is (i := Try.t31) rfl (by decide +kernel) (by rfl)
theorem y_ty32 (k : TY → Prop) : tyW Try.prog 32 k = k (.int .i64) := by unfold tyW tyOf; rw [Try.underlying32] <;> rfl
theorem y_sz32 (k : Nat → Prop) : szW Try.prog 32 k = k 1 := by unfold szW; rw [show Try.prog.info? 32 = some Try.t32 from Try.type32]; rfl
theorem y_by32 (k : Nat → Prop) : byW Try.prog 32 k = k 8 := by unfold byW; rw [show Try.prog.info? 32 = some Try.t32 from Try.type32]; rfl
theorem y_is32 : (Try.prog.info? 32).isSome = true := by rw [show Try.prog.info? 32 = some Try.t32 from Try.type32]; rfl
theorem y_zr32 (k : List D → Prop) : zeroW Try.prog 32 k = k [.int .i64 0] := by unfold zeroW; rw [show Try.prog.info? 32 = some Try.t32 from Try.type32]; exact zero_is (i := Try.t32) rfl (by decide +kernel) (by rfl)
theorem y_ty34 (k : TY → Prop) : tyW Try.prog 34 k = k (.func) := by unfold tyW tyOf; rw [Try.underlying34] <;> rfl
theorem y_sz34 (k : Nat → Prop) : szW Try.prog 34 k = k 1 := by unfold szW; rw [show Try.prog.info? 34 = some Try.t34 from Try.type34]; rfl
theorem y_by34 (k : Nat → Prop) : byW Try.prog 34 k = k 8 := by unfold byW; rw [show Try.prog.info? 34 = some Try.t34 from Try.type34]; rfl
theorem y_is34 : (Try.prog.info? 34).isSome = true := by rw [show Try.prog.info? 34 = some Try.t34 from Try.type34]; rfl
theorem y_zr34 (k : List D → Prop) : zeroW Try.prog 34 k = k [.any] := by unfold zeroW; rw [show Try.prog.info? 34 = some Try.t34 from Try.type34]; exact zero_is (i := Try.t34) rfl (by decide +kernel) (by rfl)
theorem y_ty35 (k : TY → Prop) : tyW Try.prog 35 k = k (.struct [(0, 3), (1, 3), (2, 32)]) := by unfold tyW tyOf; rw [Try.underlying35] <;> rfl
theorem y_fl35x0 (k : Nat → TypeId → Prop) : fldW Try.prog 35 0 k = k 0 3 := by unfold fldW tyOf; rw [Try.underlying35] <;> rfl
theorem y_fl35x1 (k : Nat → TypeId → Prop) : fldW Try.prog 35 1 k = k 1 3 := by unfold fldW tyOf; rw [Try.underlying35] <;> rfl
theorem y_fl35x2 (k : Nat → TypeId → Prop) : fldW Try.prog 35 2 k = k 2 32 := by unfold fldW tyOf; rw [Try.underlying35] <;> rfl
theorem y_sz35 (k : Nat → Prop) : szW Try.prog 35 k = k 3 := by unfold szW; rw [show Try.prog.info? 35 = some Try.t35 from Try.type35]; rfl
theorem y_by35 (k : Nat → Prop) : byW Try.prog 35 k = k 24 := by unfold byW; rw [show Try.prog.info? 35 = some Try.t35 from Try.type35]; rfl
theorem y_is35 : (Try.prog.info? 35).isSome = true := by rw [show Try.prog.info? 35 = some Try.t35 from Try.type35]; rfl
theorem y_zr35 (k : List D → Prop) : zeroW Try.prog 35 k = k [.int .i64 0, .int .i64 0, .int .i64 0] := by unfold zeroW; rw [show Try.prog.info? 35 = some Try.t35 from Try.type35]; exact zero_is (i := Try.t35) rfl (by decide +kernel) (by rfl)
theorem y_ty36 (k : TY → Prop) : tyW Try.prog 36 k = k (.struct [(0, 3), (1, 3), (2, 32)]) := by unfold tyW tyOf; rw [Try.underlying36] <;> rfl
theorem y_fl36x0 (k : Nat → TypeId → Prop) : fldW Try.prog 36 0 k = k 0 3 := by unfold fldW tyOf; rw [Try.underlying36] <;> rfl
theorem y_fl36x1 (k : Nat → TypeId → Prop) : fldW Try.prog 36 1 k = k 1 3 := by unfold fldW tyOf; rw [Try.underlying36] <;> rfl
theorem y_fl36x2 (k : Nat → TypeId → Prop) : fldW Try.prog 36 2 k = k 2 32 := by unfold fldW tyOf; rw [Try.underlying36] <;> rfl
theorem y_sz36 (k : Nat → Prop) : szW Try.prog 36 k = k 3 := by unfold szW; rw [show Try.prog.info? 36 = some Try.t36 from Try.type36]; rfl
theorem y_by36 (k : Nat → Prop) : byW Try.prog 36 k = k 24 := by unfold byW; rw [show Try.prog.info? 36 = some Try.t36 from Try.type36]; rfl
theorem y_is36 : (Try.prog.info? 36).isSome = true := by rw [show Try.prog.info? 36 = some Try.t36 from Try.type36]; rfl
theorem y_zr36 (k : List D → Prop) : zeroW Try.prog 36 k = k [.int .i64 0, .int .i64 0, .int .i64 0] := by unfold zeroW; rw [show Try.prog.info? 36 = some Try.t36 from Try.type36]; exact zero_is (i := Try.t36) rfl (by decide +kernel) (by rfl)
theorem y_ty37 (k : TY → Prop) : tyW Try.prog 37 k = k (.func) := by unfold tyW tyOf; rw [Try.underlying37] <;> rfl
theorem y_sz37 (k : Nat → Prop) : szW Try.prog 37 k = k 1 := by unfold szW; rw [show Try.prog.info? 37 = some Try.t37 from Try.type37]; rfl
theorem y_by37 (k : Nat → Prop) : byW Try.prog 37 k = k 8 := by unfold byW; rw [show Try.prog.info? 37 = some Try.t37 from Try.type37]; rfl
theorem y_is37 : (Try.prog.info? 37).isSome = true := by rw [show Try.prog.info? 37 = some Try.t37 from Try.type37]; rfl
theorem y_zr37 (k : List D → Prop) : zeroW Try.prog 37 k = k [.any] := by unfold zeroW; rw [show Try.prog.info? 37 = some Try.t37 from Try.type37]; exact zero_is (i := Try.t37) rfl (by decide +kernel) (by rfl)
theorem y_ty39 (k : TY → Prop) : tyW Try.prog 39 k = k (.func) := by unfold tyW tyOf; rw [Try.underlying39] <;> rfl
theorem y_sz39 (k : Nat → Prop) : szW Try.prog 39 k = k 1 := by unfold szW; rw [show Try.prog.info? 39 = some Try.t39 from Try.type39]; rfl
theorem y_by39 (k : Nat → Prop) : byW Try.prog 39 k = k 8 := by unfold byW; rw [show Try.prog.info? 39 = some Try.t39 from Try.type39]; rfl
theorem y_is39 : (Try.prog.info? 39).isSome = true := by rw [show Try.prog.info? 39 = some Try.t39 from Try.type39]; rfl
theorem y_zr39 (k : List D → Prop) : zeroW Try.prog 39 k = k [.any] := by unfold zeroW; rw [show Try.prog.info? 39 = some Try.t39 from Try.type39]; exact zero_is (i := Try.t39) rfl (by decide +kernel) (by rfl)
theorem y_ty40 (k : TY → Prop) : tyW Try.prog 40 k = k (.struct [(0, 27), (2, 32)]) := by unfold tyW tyOf; rw [Try.underlying40] <;> rfl
theorem y_fl40x0 (k : Nat → TypeId → Prop) : fldW Try.prog 40 0 k = k 0 27 := by unfold fldW tyOf; rw [Try.underlying40] <;> rfl
theorem y_fl40x1 (k : Nat → TypeId → Prop) : fldW Try.prog 40 1 k = k 2 32 := by unfold fldW tyOf; rw [Try.underlying40] <;> rfl
theorem y_sz40 (k : Nat → Prop) : szW Try.prog 40 k = k 3 := by unfold szW; rw [show Try.prog.info? 40 = some Try.t40 from Try.type40]; rfl
theorem y_by40 (k : Nat → Prop) : byW Try.prog 40 k = k 24 := by unfold byW; rw [show Try.prog.info? 40 = some Try.t40 from Try.type40]; rfl
theorem y_is40 : (Try.prog.info? 40).isSome = true := by rw [show Try.prog.info? 40 = some Try.t40 from Try.type40]; rfl
theorem y_zr40 (k : List D → Prop) : zeroW Try.prog 40 k = k [.int .i64 0, .int .i64 0, .int .i64 0] := by unfold zeroW; rw [show Try.prog.info? 40 = some Try.t40 from Try.type40]; exact zero_is (i := Try.t40) rfl (by decide +kernel) (by rfl)
theorem y_ty41 (k : TY → Prop) : tyW Try.prog 41 k = k (.struct [(0, 27), (2, 32)]) := by unfold tyW tyOf; rw [Try.underlying41] <;> rfl
theorem y_fl41x0 (k : Nat → TypeId → Prop) : fldW Try.prog 41 0 k = k 0 27 := by unfold fldW tyOf; rw [Try.underlying41] <;> rfl
theorem y_fl41x1 (k : Nat → TypeId → Prop) : fldW Try.prog 41 1 k = k 2 32 := by unfold fldW tyOf; rw [Try.underlying41] <;> rfl
theorem y_sz41 (k : Nat → Prop) : szW Try.prog 41 k = k 3 := by unfold szW; rw [show Try.prog.info? 41 = some Try.t41 from Try.type41]; rfl
theorem y_by41 (k : Nat → Prop) : byW Try.prog 41 k = k 24 := by unfold byW; rw [show Try.prog.info? 41 = some Try.t41 from Try.type41]; rfl
theorem y_is41 : (Try.prog.info? 41).isSome = true := by rw [show Try.prog.info? 41 = some Try.t41 from Try.type41]; rfl
theorem y_zr41 (k : List D → Prop) : zeroW Try.prog 41 k = k [.int .i64 0, .int .i64 0, .int .i64 0] := by unfold zeroW; rw [show Try.prog.info? 41 = some Try.t41 from Try.type41]; exact zero_is (i := Try.t41) rfl (by decide +kernel) (by rfl)
theorem y_ty42 (k : TY → Prop) : tyW Try.prog 42 k = k (.func) := by unfold tyW tyOf; rw [Try.underlying42] <;> rfl
theorem y_sz42 (k : Nat → Prop) : szW Try.prog 42 k = k 1 := by unfold szW; rw [show Try.prog.info? 42 = some Try.t42 from Try.type42]; rfl
theorem y_by42 (k : Nat → Prop) : byW Try.prog 42 k = k 8 := by unfold byW; rw [show Try.prog.info? 42 = some Try.t42 from Try.type42]; rfl
theorem y_is42 : (Try.prog.info? 42).isSome = true := by rw [show Try.prog.info? 42 = some Try.t42 from Try.type42]; rfl
theorem y_zr42 (k : List D → Prop) : zeroW Try.prog 42 k = k [.any] := by unfold zeroW; rw [show Try.prog.info? 42 = some Try.t42 from Try.type42]; exact zero_is (i := Try.t42) rfl (by decide +kernel) (by rfl)
theorem y_ty44 (k : TY → Prop) : tyW Try.prog 44 k = k (.func) := by unfold tyW tyOf; rw [Try.underlying44] <;> rfl
theorem y_sz44 (k : Nat → Prop) : szW Try.prog 44 k = k 1 := by unfold szW; rw [show Try.prog.info? 44 = some Try.t44 from Try.type44]; rfl
theorem y_by44 (k : Nat → Prop) : byW Try.prog 44 k = k 8 := by unfold byW; rw [show Try.prog.info? 44 = some Try.t44 from Try.type44]; rfl
theorem y_is44 : (Try.prog.info? 44).isSome = true := by rw [show Try.prog.info? 44 = some Try.t44 from Try.type44]; rfl
theorem y_zr44 (k : List D → Prop) : zeroW Try.prog 44 k = k [.any] := by unfold zeroW; rw [show Try.prog.info? 44 = some Try.t44 from Try.type44]; exact zero_is (i := Try.t44) rfl (by decide +kernel) (by rfl)
theorem y_ty45 (k : TY → Prop) : tyW Try.prog 45 k = k (.struct [(0, 24), (2, 32)]) := by unfold tyW tyOf; rw [Try.underlying45] <;> rfl
theorem y_fl45x0 (k : Nat → TypeId → Prop) : fldW Try.prog 45 0 k = k 0 24 := by unfold fldW tyOf; rw [Try.underlying45] <;> rfl
theorem y_fl45x1 (k : Nat → TypeId → Prop) : fldW Try.prog 45 1 k = k 2 32 := by unfold fldW tyOf; rw [Try.underlying45] <;> rfl
theorem y_sz45 (k : Nat → Prop) : szW Try.prog 45 k = k 3 := by unfold szW; rw [show Try.prog.info? 45 = some Try.t45 from Try.type45]; rfl
theorem y_by45 (k : Nat → Prop) : byW Try.prog 45 k = k 40 := by unfold byW; rw [show Try.prog.info? 45 = some Try.t45 from Try.type45]; rfl
theorem y_is45 : (Try.prog.info? 45).isSome = true := by rw [show Try.prog.info? 45 = some Try.t45 from Try.type45]; rfl
theorem y_zr45 (k : List D → Prop) : zeroW Try.prog 45 k = k [.int .i64 0, .nils, .int .i64 0] := by unfold zeroW; rw [show Try.prog.info? 45 = some Try.t45 from Try.type45]; exact zero_is (i := Try.t45) rfl (by decide +kernel) (by rfl)
theorem y_ty46 (k : TY → Prop) : tyW Try.prog 46 k = k (.struct [(0, 24), (2, 32)]) := by unfold tyW tyOf; rw [Try.underlying46] <;> rfl
theorem y_fl46x0 (k : Nat → TypeId → Prop) : fldW Try.prog 46 0 k = k 0 24 := by unfold fldW tyOf; rw [Try.underlying46] <;> rfl
theorem y_fl46x1 (k : Nat → TypeId → Prop) : fldW Try.prog 46 1 k = k 2 32 := by unfold fldW tyOf; rw [Try.underlying46] <;> rfl
theorem y_sz46 (k : Nat → Prop) : szW Try.prog 46 k = k 3 := by unfold szW; rw [show Try.prog.info? 46 = some Try.t46 from Try.type46]; rfl
theorem y_by46 (k : Nat → Prop) : byW Try.prog 46 k = k 40 := by unfold byW; rw [show Try.prog.info? 46 = some Try.t46 from Try.type46]; rfl
theorem y_is46 : (Try.prog.info? 46).isSome = true := by rw [show Try.prog.info? 46 = some Try.t46 from Try.type46]; rfl
theorem y_zr46 (k : List D → Prop) : zeroW Try.prog 46 k = k [.int .i64 0, .nils, .int .i64 0] := by unfold zeroW; rw [show Try.prog.info? 46 = some Try.t46 from Try.type46]; exact zero_is (i := Try.t46) rfl (by decide +kernel) (by rfl)
theorem y_ty47 (k : TY → Prop) : tyW Try.prog 47 k = k (.func) := by unfold tyW tyOf; rw [Try.underlying47] <;> rfl
theorem y_sz47 (k : Nat → Prop) : szW Try.prog 47 k = k 1 := by unfold szW; rw [show Try.prog.info? 47 = some Try.t47 from Try.type47]; rfl
theorem y_by47 (k : Nat → Prop) : byW Try.prog 47 k = k 8 := by unfold byW; rw [show Try.prog.info? 47 = some Try.t47 from Try.type47]; rfl
theorem y_is47 : (Try.prog.info? 47).isSome = true := by rw [show Try.prog.info? 47 = some Try.t47 from Try.type47]; rfl
theorem y_zr47 (k : List D → Prop) : zeroW Try.prog 47 k = k [.any] := by unfold zeroW; rw [show Try.prog.info? 47 = some Try.t47 from Try.type47]; exact zero_is (i := Try.t47) rfl (by decide +kernel) (by rfl)
theorem y_ty48 (k : TY → Prop) : tyW Try.prog 48 k = k (.func) := by unfold tyW tyOf; rw [Try.underlying48] <;> rfl
theorem y_sz48 (k : Nat → Prop) : szW Try.prog 48 k = k 1 := by unfold szW; rw [show Try.prog.info? 48 = some Try.t48 from Try.type48]; rfl
theorem y_by48 (k : Nat → Prop) : byW Try.prog 48 k = k 8 := by unfold byW; rw [show Try.prog.info? 48 = some Try.t48 from Try.type48]; rfl
theorem y_is48 : (Try.prog.info? 48).isSome = true := by rw [show Try.prog.info? 48 = some Try.t48 from Try.type48]; rfl
theorem y_zr48 (k : List D → Prop) : zeroW Try.prog 48 k = k [.any] := by unfold zeroW; rw [show Try.prog.info? 48 = some Try.t48 from Try.type48]; exact zero_is (i := Try.t48) rfl (by decide +kernel) (by rfl)
theorem y_ty49 (k : TY → Prop) : tyW Try.prog 49 k = k (.func) := by unfold tyW tyOf; rw [Try.underlying49] <;> rfl
theorem y_sz49 (k : Nat → Prop) : szW Try.prog 49 k = k 1 := by unfold szW; rw [show Try.prog.info? 49 = some Try.t49 from Try.type49]; rfl
theorem y_by49 (k : Nat → Prop) : byW Try.prog 49 k = k 8 := by unfold byW; rw [show Try.prog.info? 49 = some Try.t49 from Try.type49]; rfl
theorem y_is49 : (Try.prog.info? 49).isSome = true := by rw [show Try.prog.info? 49 = some Try.t49 from Try.type49]; rfl
theorem y_zr49 (k : List D → Prop) : zeroW Try.prog 49 k = k [.any] := by unfold zeroW; rw [show Try.prog.info? 49 = some Try.t49 from Try.type49]; exact zero_is (i := Try.t49) rfl (by decide +kernel) (by rfl)
theorem y_ty50 (k : TY → Prop) : tyW Try.prog 50 k = k (.func) := by unfold tyW tyOf; rw [Try.underlying50] <;> rfl
theorem y_sz50 (k : Nat → Prop) : szW Try.prog 50 k = k 1 := by unfold szW; rw [show Try.prog.info? 50 = some Try.t50 from Try.type50]; rfl
theorem y_by50 (k : Nat → Prop) : byW Try.prog 50 k = k 8 := by unfold byW; rw [show Try.prog.info? 50 = some Try.t50 from Try.type50]; rfl
theorem y_is50 : (Try.prog.info? 50).isSome = true := by rw [show Try.prog.info? 50 = some Try.t50 from Try.type50]; rfl
theorem y_zr50 (k : List D → Prop) : zeroW Try.prog 50 k = k [.any] := by unfold zeroW; rw [show Try.prog.info? 50 = some Try.t50 from Try.type50]; exact zero_is (i := Try.t50) rfl (by decide +kernel) (by rfl)
theorem y_ty51 (k : TY → Prop) : tyW Try.prog 51 k = k (.arr 2 27) := by unfold tyW tyOf; rw [Try.underlying51] <;> rfl
theorem y_sz51 (k : Nat → Prop) : szW Try.prog 51 k = k 4 := by unfold szW; rw [show Try.prog.info? 51 = some Try.t51 from Try.type51]; rfl
theorem y_by51 (k : Nat → Prop) : byW Try.prog 51 k = k 32 := by unfold byW; rw [show Try.prog.info? 51 = some Try.t51 from Try.type51]; rfl
theorem y_is51 : (Try.prog.info? 51).isSome = true := by rw [show Try.prog.info? 51 = some Try.t51 from Try.type51]; rfl
theorem y_zr51 (k : List D → Prop) : zeroW Try.prog 51 k = k [.int .i64 0, .int .i64 0, .int .i64 0, .int .i64 0] := by unfold zeroW; rw [show Try.prog.info? 51 = some Try.t51 from Try.type51]; exact zero_is (i := Try.t51) rfl (by decide +kernel) (by rfl)
theorem y_ty53 (k : TY → Prop) : tyW Try.prog 53 k = k (.func) := by unfold tyW tyOf; rw [Try.underlying53] <;> rfl
theorem y_sz53 (k : Nat → Prop) : szW Try.prog 53 k = k 1 := by unfold szW; rw [show Try.prog.info? 53 = some Try.t53 from Try.type53]; rfl
theorem y_by53 (k : Nat → Prop) : byW Try.prog 53 k = k 8 := by unfold byW; rw [show Try.prog.info? 53 = some Try.t53 from Try.type53]; rfl
theorem y_is53 : (Try.prog.info? 53).isSome = true := by rw [show Try.prog.info? 53 = some Try.t53 from Try.type53]; rfl
theorem y_zr53 (k : List D → Prop) : zeroW Try.prog 53 k = k [.any] := by unfold zeroW; rw [show Try.prog.info? 53 = some Try.t53 from Try.type53]; exact zero_is (i := Try.t53) rfl (by decide +kernel) (by rfl)
theorem y_ty54 (k : TY → Prop) : tyW Try.prog 54 k = k (.struct [(0, 29), (3, 32)]) := by unfold tyW tyOf; rw [Try.underlying54] <;> rfl
theorem y_fl54x0 (k : Nat → TypeId → Prop) : fldW Try.prog 54 0 k = k 0 29 := by unfold fldW tyOf; rw [Try.underlying54] <;> rfl
theorem y_fl54x1 (k : Nat → TypeId → Prop) : fldW Try.prog 54 1 k = k 3 32 := by unfold fldW tyOf; rw [Try.underlying54] <;> rfl
theorem y_sz54 (k : Nat → Prop) : szW Try.prog 54 k = k 4 := by unfold szW; rw [show Try.prog.info? 54 = some Try.t54 from Try.type54]; rfl
theorem y_by54 (k : Nat → Prop) : byW Try.prog 54 k = k 32 := by unfold byW; rw [show Try.prog.info? 54 = some Try.t54 from Try.type54]; rfl
theorem y_is54 : (Try.prog.info? 54).isSome = true := by rw [show Try.prog.info? 54 = some Try.t54 from Try.type54]; rfl
theorem y_zr54 (k : List D → Prop) : zeroW Try.prog 54 k = k [.int .i64 0, .int .i64 0, .int .i64 0, .int .i64 0] := by unfold zeroW; rw [show Try.prog.info? 54 = some Try.t54 from Try.type54]; exact zero_is (i := Try.t54) rfl (by decide +kernel) (by rfl)
theorem y_ty55 (k : TY → Prop) : tyW Try.prog 55 k = k (.struct [(0, 29), (3, 32)]) := by unfold tyW tyOf; rw [Try.underlying55] <;> rfl
theorem y_fl55x0 (k : Nat → TypeId → Prop) : fldW Try.prog 55 0 k = k 0 29 := by unfold fldW tyOf; rw [Try.underlying55] <;> rfl
theorem y_fl55x1 (k : Nat → TypeId → Prop) : fldW Try.prog 55 1 k = k 3 32 := by unfold fldW tyOf; rw [Try.underlying55] <;> rfl
theorem y_sz55 (k : Nat → Prop) : szW Try.prog 55 k = k 4 := by unfold szW; rw [show Try.prog.info? 55 = some Try.t55 from Try.type55]; rfl
theorem y_by55 (k : Nat → Prop) : byW Try.prog 55 k = k 32 := by unfold byW; rw [show Try.prog.info? 55 = some Try.t55 from Try.type55]; rfl
theorem y_is55 : (Try.prog.info? 55).isSome = true := by rw [show Try.prog.info? 55 = some Try.t55 from Try.type55]; rfl
theorem y_zr55 (k : List D → Prop) : zeroW Try.prog 55 k = k [.int .i64 0, .int .i64 0, .int .i64 0, .int .i64 0] := by unfold zeroW; rw [show Try.prog.info? 55 = some Try.t55 from Try.type55]; exact zero_is (i := Try.t55) rfl (by decide +kernel) (by rfl)
theorem y_ty56 (k : TY → Prop) : tyW Try.prog 56 k = k (.func) := by unfold tyW tyOf; rw [Try.underlying56] <;> rfl
theorem y_sz56 (k : Nat → Prop) : szW Try.prog 56 k = k 1 := by unfold szW; rw [show Try.prog.info? 56 = some Try.t56 from Try.type56]; rfl
theorem y_by56 (k : Nat → Prop) : byW Try.prog 56 k = k 8 := by unfold byW; rw [show Try.prog.info? 56 = some Try.t56 from Try.type56]; rfl
theorem y_is56 : (Try.prog.info? 56).isSome = true := by rw [show Try.prog.info? 56 = some Try.t56 from Try.type56]; rfl
theorem y_zr56 (k : List D → Prop) : zeroW Try.prog 56 k = k [.any] := by unfold zeroW; rw [show Try.prog.info? 56 = some Try.t56 from Try.type56]; exact zero_is (i := Try.t56) rfl (by decide +kernel) (by rfl)
theorem y_ty57 (k : TY → Prop) : tyW Try.prog 57 k = k (.func) := by unfold tyW tyOf; rw [Try.underlying57] <;> rfl
theorem y_sz57 (k : Nat → Prop) : szW Try.prog 57 k = k 1 := by unfold szW; rw [show Try.prog.info? 57 = some Try.t57 from Try.type57]; rfl
theorem y_by57 (k : Nat → Prop) : byW Try.prog 57 k = k 8 := by unfold byW; rw [show Try.prog.info? 57 = some Try.t57 from Try.type57]; rfl
theorem y_is57 : (Try.prog.info? 57).isSome = true := by rw [show Try.prog.info? 57 = some Try.t57 from Try.type57]; rfl
theorem y_zr57 (k : List D → Prop) : zeroW Try.prog 57 k = k [.any] := by unfold zeroW; rw [show Try.prog.info? 57 = some Try.t57 from Try.type57]; exact zero_is (i := Try.t57) rfl (by decide +kernel) (by rfl)
theorem y_ty58 (k : TY → Prop) : tyW Try.prog 58 k = k (.func) := by unfold tyW tyOf; rw [Try.underlying58] <;> rfl
theorem y_sz58 (k : Nat → Prop) : szW Try.prog 58 k = k 1 := by unfold szW; rw [show Try.prog.info? 58 = some Try.t58 from Try.type58]; rfl
theorem y_by58 (k : Nat → Prop) : byW Try.prog 58 k = k 8 := by unfold byW; rw [show Try.prog.info? 58 = some Try.t58 from Try.type58]; rfl
theorem y_is58 : (Try.prog.info? 58).isSome = true := by rw [show Try.prog.info? 58 = some Try.t58 from Try.type58]; rfl
theorem y_zr58 (k : List D → Prop) : zeroW Try.prog 58 k = k [.any] := by unfold zeroW; rw [show Try.prog.info? 58 = some Try.t58 from Try.type58]; exact zero_is (i := Try.t58) rfl (by decide +kernel) (by rfl)
theorem y_ty59 (k : TY → Prop) : tyW Try.prog 59 k = k (.func) := by unfold tyW tyOf; rw [Try.underlying59] <;> rfl
theorem y_sz59 (k : Nat → Prop) : szW Try.prog 59 k = k 1 := by unfold szW; rw [show Try.prog.info? 59 = some Try.t59 from Try.type59]; rfl
theorem y_by59 (k : Nat → Prop) : byW Try.prog 59 k = k 8 := by unfold byW; rw [show Try.prog.info? 59 = some Try.t59 from Try.type59]; rfl
theorem y_is59 : (Try.prog.info? 59).isSome = true := by rw [show Try.prog.info? 59 = some Try.t59 from Try.type59]; rfl
theorem y_zr59 (k : List D → Prop) : zeroW Try.prog 59 k = k [.any] := by unfold zeroW; rw [show Try.prog.info? 59 = some Try.t59 from Try.type59]; exact zero_is (i := Try.t59) rfl (by decide +kernel) (by rfl)
theorem y_ty60 (k : TY → Prop) : tyW Try.prog 60 k = k (.func) := by unfold tyW tyOf; rw [Try.underlying60] <;> rfl
theorem y_sz60 (k : Nat → Prop) : szW Try.prog 60 k = k 1 := by unfold szW; rw [show Try.prog.info? 60 = some Try.t60 from Try.type60]; rfl
theorem y_by60 (k : Nat → Prop) : byW Try.prog 60 k = k 8 := by unfold byW; rw [show Try.prog.info? 60 = some Try.t60 from Try.type60]; rfl
theorem y_is60 : (Try.prog.info? 60).isSome = true := by rw [show Try.prog.info? 60 = some Try.t60 from Try.type60]; rfl
theorem y_zr60 (k : List D → Prop) : zeroW Try.prog 60 k = k [.any] := by unfold zeroW; rw [show Try.prog.info? 60 = some Try.t60 from Try.type60]; exact zero_is (i := Try.t60) rfl (by decide +kernel) (by rfl)
theorem y_ty61 (k : TY → Prop) : tyW Try.prog 61 k = k (.func) := by unfold tyW tyOf; rw [Try.underlying61] <;> rfl
theorem y_sz61 (k : Nat → Prop) : szW Try.prog 61 k = k 1 := by unfold szW; rw [show Try.prog.info? 61 = some Try.t61 from Try.type61]; rfl
theorem y_by61 (k : Nat → Prop) : byW Try.prog 61 k = k 8 := by unfold byW; rw [show Try.prog.info? 61 = some Try.t61 from Try.type61]; rfl
theorem y_is61 : (Try.prog.info? 61).isSome = true := by rw [show Try.prog.info? 61 = some Try.t61 from Try.type61]; rfl
theorem y_zr61 (k : List D → Prop) : zeroW Try.prog 61 k = k [.any] := by unfold zeroW; rw [show Try.prog.info? 61 = some Try.t61 from Try.type61]; exact zero_is (i := Try.t61) rfl (by decide +kernel) (by rfl)
theorem y_ty63 (k : TY → Prop) : tyW Try.prog 63 k = k (.func) := by unfold tyW tyOf; rw [Try.underlying63] <;> rfl
theorem y_sz63 (k : Nat → Prop) : szW Try.prog 63 k = k 1 := by unfold szW; rw [show Try.prog.info? 63 = some Try.t63 from Try.type63]; rfl
theorem y_by63 (k : Nat → Prop) : byW Try.prog 63 k = k 8 := by unfold byW; rw [show Try.prog.info? 63 = some Try.t63 from Try.type63]; rfl
theorem y_is63 : (Try.prog.info? 63).isSome = true := by rw [show Try.prog.info? 63 = some Try.t63 from Try.type63]; rfl
theorem y_zr63 (k : List D → Prop) : zeroW Try.prog 63 k = k [.any] := by unfold zeroW; rw [show Try.prog.info? 63 = some Try.t63 from Try.type63]; exact zero_is (i := Try.t63) rfl (by decide +kernel) (by rfl)
theorem y_ty64 (k : TY → Prop) : tyW Try.prog 64 k = k (.struct [(0, 3), (1, 32)]) := by unfold tyW tyOf; rw [Try.underlying64] <;> rfl
theorem y_fl64x0 (k : Nat → TypeId → Prop) : fldW Try.prog 64 0 k = k 0 3 := by unfold fldW tyOf; rw [Try.underlying64] <;> rfl
theorem y_fl64x1 (k : Nat → TypeId → Prop) : fldW Try.prog 64 1 k = k 1 32 := by unfold fldW tyOf; rw [Try.underlying64] <;> rfl
theorem y_sz64 (k : Nat → Prop) : szW Try.prog 64 k = k 2 := by unfold szW; rw [show Try.prog.info? 64 = some Try.t64 from Try.type64]; rfl
theorem y_by64 (k : Nat → Prop) : byW Try.prog 64 k = k 16 := by unfold byW; rw [show Try.prog.info? 64 = some Try.t64 from Try.type64]; rfl
theorem y_is64 : (Try.prog.info? 64).isSome = true := by rw [show Try.prog.info? 64 = some Try.t64 from Try.type64]; rfl
theorem y_zr64 (k : List D → Prop) : zeroW Try.prog 64 k = k [.int .i64 0, .int .i64 0] := by unfold zeroW; rw [show Try.prog.info? 64 = some Try.t64 from Try.type64]; exact zero_is (i := Try.t64) rfl (by decide +kernel) (by rfl)
theorem y_ty65 (k : TY → Prop) : tyW Try.prog 65 k = k (.struct [(0, 3), (1, 32)]) := by unfold tyW tyOf; rw [Try.underlying65] <;> rfl
theorem y_fl65x0 (k : Nat → TypeId → Prop) : fldW Try.prog 65 0 k = k 0 3 := by unfold fldW tyOf; rw [Try.underlying65] <;> rfl
theorem y_fl65x1 (k : Nat → TypeId → Prop) : fldW Try.prog 65 1 k = k 1 32 := by unfold fldW tyOf; rw [Try.underlying65] <;> rfl
theorem y_sz65 (k : Nat → Prop) : szW Try.prog 65 k = k 2 := by unfold szW; rw [show Try.prog.info? 65 = some Try.t65 from Try.type65]; rfl
theorem y_by65 (k : Nat → Prop) : byW Try.prog 65 k = k 16 := by unfold byW; rw [show Try.prog.info? 65 = some Try.t65 from Try.type65]; rfl
theorem y_is65 : (Try.prog.info? 65).isSome = true := by rw [show Try.prog.info? 65 = some Try.t65 from Try.type65]; rfl
theorem y_zr65 (k : List D → Prop) : zeroW Try.prog 65 k = k [.int .i64 0, .int .i64 0] := by unfold zeroW; rw [show Try.prog.info? 65 = some Try.t65 from Try.type65]; exact zero_is (i := Try.t65) rfl (by decide +kernel) (by rfl)
theorem y_ty66 (k : TY → Prop) : tyW Try.prog 66 k = k (.func) := by unfold tyW tyOf; rw [Try.underlying66] <;> rfl
theorem y_sz66 (k : Nat → Prop) : szW Try.prog 66 k = k 1 := by unfold szW; rw [show Try.prog.info? 66 = some Try.t66 from Try.type66]; rfl
theorem y_by66 (k : Nat → Prop) : byW Try.prog 66 k = k 8 := by unfold byW; rw [show Try.prog.info? 66 = some Try.t66 from Try.type66]; rfl
theorem y_is66 : (Try.prog.info? 66).isSome = true := by rw [show Try.prog.info? 66 = some Try.t66 from Try.type66]; rfl
theorem y_zr66 (k : List D → Prop) : zeroW Try.prog 66 k = k [.any] := by unfold zeroW; rw [show Try.prog.info? 66 = some Try.t66 from Try.type66]; exact zero_is (i := Try.t66) rfl (by decide +kernel) (by rfl)
theorem y_ty67 (k : TY → Prop) : tyW Try.prog 67 k = k (.func) := by unfold tyW tyOf; rw [Try.underlying67] <;> rfl
theorem y_sz67 (k : Nat → Prop) : szW Try.prog 67 k = k 1 := by unfold szW; rw [show Try.prog.info? 67 = some Try.t67 from Try.type67]; rfl
theorem y_by67 (k : Nat → Prop) : byW Try.prog 67 k = k 8 := by unfold byW; rw [show Try.prog.info? 67 = some Try.t67 from Try.type67]; rfl
theorem y_is67 : (Try.prog.info? 67).isSome = true := by rw [show Try.prog.info? 67 = some Try.t67 from Try.type67]; rfl
theorem y_zr67 (k : List D → Prop) : zeroW Try.prog 67 k = k [.any] := by unfold zeroW; rw [show Try.prog.info? 67 = some Try.t67 from Try.type67]; exact zero_is (i := Try.t67) rfl (by decide +kernel) (by rfl)
theorem y_ty68 (k : TY → Prop) : tyW Try.prog 68 k = k (.int .u32) := by unfold tyW tyOf; rw [Try.underlying68] <;> rfl
theorem y_sz68 (k : Nat → Prop) : szW Try.prog 68 k = k 1 := by unfold szW; rw [show Try.prog.info? 68 = some Try.t68 from Try.type68]; rfl
theorem y_by68 (k : Nat → Prop) : byW Try.prog 68 k = k 4 := by unfold byW; rw [show Try.prog.info? 68 = some Try.t68 from Try.type68]; rfl
theorem y_is68 : (Try.prog.info? 68).isSome = true := by rw [show Try.prog.info? 68 = some Try.t68 from Try.type68]; rfl
theorem y_zr68 (k : List D → Prop) : zeroW Try.prog 68 k = k [.int .u32 0] := by unfold zeroW; rw [show Try.prog.info? 68 = some Try.t68 from Try.type68]; exact zero_is (i := Try.t68) rfl (by decide +kernel) (by rfl)
theorem y_ty69 (k : TY → Prop) : tyW Try.prog 69 k = k (.int .u16) := by unfold tyW tyOf; rw [Try.underlying69] <;> rfl
theorem y_sz69 (k : Nat → Prop) : szW Try.prog 69 k = k 1 := by unfold szW; rw [show Try.prog.info? 69 = some Try.t69 from Try.type69]; rfl
theorem y_by69 (k : Nat → Prop) : byW Try.prog 69 k = k 2 := by unfold byW; rw [show Try.prog.info? 69 = some Try.t69 from Try.type69]; rfl
theorem y_is69 : (Try.prog.info? 69).isSome = true := by rw [show Try.prog.info? 69 = some Try.t69 from Try.type69]; rfl
theorem y_zr69 (k : List D → Prop) : zeroW Try.prog 69 k = k [.int .u16 0] := by unfold zeroW; rw [show Try.prog.info? 69 = some Try.t69 from Try.type69]; exact zero_is (i := Try.t69) rfl (by decide +kernel) (by rfl)
theorem y_ty70 (k : TY → Prop) : tyW Try.prog 70 k = k (.func) := by unfold tyW tyOf; rw [Try.underlying70] <;> rfl
theorem y_sz70 (k : Nat → Prop) : szW Try.prog 70 k = k 1 := by unfold szW; rw [show Try.prog.info? 70 = some Try.t70 from Try.type70]; rfl
theorem y_by70 (k : Nat → Prop) : byW Try.prog 70 k = k 8 := by unfold byW; rw [show Try.prog.info? 70 = some Try.t70 from Try.type70]; rfl
theorem y_is70 : (Try.prog.info? 70).isSome = true := by rw [show Try.prog.info? 70 = some Try.t70 from Try.type70]; rfl
theorem y_zr70 (k : List D → Prop) : zeroW Try.prog 70 k = k [.any] := by unfold zeroW; rw [show Try.prog.info? 70 = some Try.t70 from Try.type70]; exact zero_is (i := Try.t70) rfl (by decide +kernel) (by rfl)
theorem y_ty71 (k : TY → Prop) : tyW Try.prog 71 k = k (.slice 78) := by unfold tyW tyOf; rw [Try.underlying71] <;> rfl
theorem y_sz71 (k : Nat → Prop) : szW Try.prog 71 k = k 1 := by unfold szW; rw [show Try.prog.info? 71 = some Try.t71 from Try.type71]; rfl
theorem y_by71 (k : Nat → Prop) : byW Try.prog 71 k = k 24 := by unfold byW; rw [show Try.prog.info? 71 = some Try.t71 from Try.type71]; rfl
theorem y_is71 : (Try.prog.info? 71).isSome = true := by rw [show Try.prog.info? 71 = some Try.t71 from Try.type71]; rfl
theorem y_zr71 (k : List D → Prop) : zeroW Try.prog 71 k = k [.nils] := by unfold zeroW; rw [show Try.prog.info? 71 = some Try.t71 from Try.type71]; exact zero_is (i := Try.t71) rfl (by decide +kernel) (by rfl)
theorem y_ty72 (k : TY → Prop) : tyW Try.prog 72 k = k (.struct [(0, 68), (1, 68), (2, 71)]) := by unfold tyW tyOf; rw [Try.underlying72] <;> rfl
theorem y_fl72x0 (k : Nat → TypeId → Prop) : fldW Try.prog 72 0 k = k 0 68 := by unfold fldW tyOf; rw [Try.underlying72] <;> rfl
theorem y_fl72x1 (k : Nat → TypeId → Prop) : fldW Try.prog 72 1 k = k 1 68 := by unfold fldW tyOf; rw [Try.underlying72] <;> rfl
theorem y_fl72x2 (k : Nat → TypeId → Prop) : fldW Try.prog 72 2 k = k 2 71 := by unfold fldW tyOf; rw [Try.underlying72] <;> rfl
theorem y_sz72 (k : Nat → Prop) : szW Try.prog 72 k = k 3 := by unfold szW; rw [show Try.prog.info? 72 = some Try.t72 from Try.type72]; rfl
theorem y_by72 (k : Nat → Prop) : byW Try.prog 72 k = k 32 := by unfold byW; rw [show Try.prog.info? 72 = some Try.t72 from Try.type72]; rfl
theorem y_is72 : (Try.prog.info? 72).isSome = true := by rw [show Try.prog.info? 72 = some Try.t72 from Try.type72]; rfl
theorem y_zr72 (k : List D → Prop) : zeroW Try.prog 72 k = k [.int .u32 0, .int .u32 0, .nils] := by unfold zeroW; rw [show Try.prog.info? 72 = some Try.t72 from Try.type72]; exact zero_is (i := Try.t72) rfl (by decide +kernel) (by rfl)
theorem y_ty73 (k : TY → Prop) : tyW Try.prog 73 k = k (.struct [(0, 68), (1, 68), (2, 71)]) := by unfold tyW tyOf; rw [Try.underlying73] <;> rfl
theorem y_fl73x0 (k : Nat → TypeId → Prop) : fldW Try.prog 73 0 k = k 0 68 := by unfold fldW tyOf; rw [Try.underlying73] <;> rfl
theorem y_fl73x1 (k : Nat → TypeId → Prop) : fldW Try.prog 73 1 k = k 1 68 := by unfold fldW tyOf; rw [Try.underlying73] <;> rfl
theorem y_fl73x2 (k : Nat → TypeId → Prop) : fldW Try.prog 73 2 k = k 2 71 := by unfold fldW tyOf; rw [Try.underlying73] <;> rfl
theorem y_sz73 (k : Nat → Prop) : szW Try.prog 73 k = k 3 := by unfold szW; rw [show Try.prog.info? 73 = some Try.t73 from Try.type73]; rfl
theorem y_by73 (k : Nat → Prop) : byW Try.prog 73 k = k 32 := by unfold byW; rw [show Try.prog.info? 73 = some Try.t73 from Try.type73]; rfl
theorem y_is73 : (Try.prog.info? 73).isSome = true := by rw [show Try.prog.info? 73 = some Try.t73 from Try.type73]; rfl
theorem y_zr73 (k : List D → Prop) : zeroW Try.prog 73 k = k [.int .u32 0, .int .u32 0, .nils] := by unfold zeroW; rw [show Try.prog.info? 73 = some Try.t73 from Try.type73]; exact zero_is (i := Try.t73) rfl (by decide +kernel) (by rfl)
theorem y_ty74 (k : TY → Prop) : tyW Try.prog 74 k = k (.struct [(0, 3), (1, 3), (2, 24)]) := by unfold tyW tyOf; rw [Try.underlying74] <;> rfl
theorem y_fl74x0 (k : Nat → TypeId → Prop) : fldW Try.prog 74 0 k = k 0 3 := by unfold fldW tyOf; rw [Try.underlying74] <;> rfl
theorem y_fl74x1 (k : Nat → TypeId → Prop) : fldW Try.prog 74 1 k = k 1 3 := by unfold fldW tyOf; rw [Try.underlying74] <;> rfl
theorem y_fl74x2 (k : Nat → TypeId → Prop) : fldW Try.prog 74 2 k = k 2 24 := by unfold fldW tyOf; rw [Try.underlying74] <;> rfl
theorem y_sz74 (k : Nat → Prop) : szW Try.prog 74 k = k 4 := by unfold szW; rw [show Try.prog.info? 74 = some Try.t74 from Try.type74]; rfl
theorem y_by74 (k : Nat → Prop) : byW Try.prog 74 k = k 48 := by unfold byW; rw [show Try.prog.info? 74 = some Try.t74 from Try.type74]; rfl
theorem y_is74 : (Try.prog.info? 74).isSome = true := by rw [show Try.prog.info? 74 = some Try.t74 from Try.type74]; rfl
theorem y_zr74 (k : List D → Prop) : zeroW Try.prog 74 k = k [.int .i64 0, .int .i64 0, .int .i64 0, .nils] := by unfold zeroW; rw [show Try.prog.info? 74 = some Try.t74 from Try.type74]; exact zero_is (i := Try.t74) rfl (by decide +kernel) (by rfl)
theorem y_ty75 (k : TY → Prop) : tyW Try.prog 75 k = k (.struct [(0, 3), (1, 3), (2, 24)]) := by unfold tyW tyOf; rw [Try.underlying75] <;> rfl
theorem y_fl75x0 (k : Nat → TypeId → Prop) : fldW Try.prog 75 0 k = k 0 3 := by unfold fldW tyOf; rw [Try.underlying75] <;> rfl
theorem y_fl75x1 (k : Nat → TypeId → Prop) : fldW Try.prog 75 1 k = k 1 3 := by unfold fldW tyOf; rw [Try.underlying75] <;> rfl
theorem y_fl75x2 (k : Nat → TypeId → Prop) : fldW Try.prog 75 2 k = k 2 24 := by unfold fldW tyOf; rw [Try.underlying75] <;> rfl
theorem y_sz75 (k : Nat → Prop) : szW Try.prog 75 k = k 4 := by unfold szW; rw [show Try.prog.info? 75 = some Try.t75 from Try.type75]; rfl
theorem y_by75 (k : Nat → Prop) : byW Try.prog 75 k = k 48 := by unfold byW; rw [show Try.prog.info? 75 = some Try.t75 from Try.type75]; rfl
theorem y_is75 : (Try.prog.info? 75).isSome = true := by rw [show Try.prog.info? 75 = some Try.t75 from Try.type75]; rfl
theorem y_zr75 (k : List D → Prop) : zeroW Try.prog 75 k = k [.int .i64 0, .int .i64 0, .int .i64 0, .nils] := by unfold zeroW; rw [show Try.prog.info? 75 = some Try.t75 from Try.type75]; exact zero_is (i := Try.t75) rfl (by decide +kernel) (by rfl)
theorem y_ty76 (k : TY → Prop) : tyW Try.prog 76 k = k (.func) := by unfold tyW tyOf; rw [Try.underlying76] <;> rfl
theorem y_sz76 (k : Nat → Prop) : szW Try.prog 76 k = k 1 := by unfold szW; rw [show Try.prog.info? 76 = some Try.t76 from Try.type76]; rfl
theorem y_by76 (k : Nat → Prop) : byW Try.prog 76 k = k 8 := by unfold byW; rw [show Try.prog.info? 76 = some Try.t76 from Try.type76]; rfl
theorem y_is76 : (Try.prog.info? 76).isSome = true := by rw [show Try.prog.info? 76 = some Try.t76 from Try.type76]; rfl
theorem y_zr76 (k : List D → Prop) : zeroW Try.prog 76 k = k [.any] := by unfold zeroW; rw [show Try.prog.info? 76 = some Try.t76 from Try.type76]; exact zero_is (i := Try.t76) rfl (by decide +kernel) (by rfl)
theorem y_ty77 (k : TY → Prop) : tyW Try.prog 77 k = k (.struct [(0, 69), (1, 21), (2, 5), (3, 5), (4, 5)]) := by unfold tyW tyOf; rw [Try.underlying77] <;> rfl
theorem y_fl77x0 (k : Nat → TypeId → Prop) : fldW Try.prog 77 0 k = k 0 69 := by unfold fldW tyOf; rw [Try.underlying77] <;> rfl
theorem y_fl77x1 (k : Nat → TypeId → Prop) : fldW Try.prog 77 1 k = k 1 21 := by unfold fldW tyOf; rw [Try.underlying77] <;> rfl
theorem y_fl77x2 (k : Nat → TypeId → Prop) : fldW Try.prog 77 2 k = k 2 5 := by unfold fldW tyOf; rw [Try.underlying77] <;> rfl
theorem y_fl77x3 (k : Nat → TypeId → Prop) : fldW Try.prog 77 3 k = k 3 5 := by unfold fldW tyOf; rw [Try.underlying77] <;> rfl
theorem y_fl77x4 (k : Nat → TypeId → Prop) : fldW Try.prog 77 4 k = k 4 5 := by unfold fldW tyOf; rw [Try.underlying77] <;> rfl
theorem y_sz77 (k : Nat → Prop) : szW Try.prog 77 k = k 5 := by unfold szW; rw [show Try.prog.info? 77 = some Try.t77 from Try.type77]; rfl
theorem y_by77 (k : Nat → Prop) : byW Try.prog 77 k = k 12 := by unfold byW; rw [show Try.prog.info? 77 = some Try.t77 from Try.type77]; rfl
theorem y_is77 : (Try.prog.info? 77).isSome = true := by rw [show Try.prog.info? 77 = some Try.t77 from Try.type77]; rfl
theorem y_zr77 (k : List D → Prop) : zeroW Try.prog 77 k = k [.int .u16 0, .int .i32 0, .int .u8 0, .int .u8 0, .int .u8 0] := by unfold zeroW; rw [show Try.prog.info? 77 = some Try.t77 from Try.type77]; exact zero_is (i := Try.t77) rfl (by decide +kernel) (by rfl)
theorem y_ty78 (k : TY → Prop) : tyW Try.prog 78 k = k (.struct [(0, 69), (1, 21), (2, 5), (3, 5), (4, 5)]) := by unfold tyW tyOf; rw [Try.underlying78] <;> rfl
theorem y_fl78x0 (k : Nat → TypeId → Prop) : fldW Try.prog 78 0 k = k 0 69 := by unfold fldW tyOf; rw [Try.underlying78] <;> rfl
theorem y_fl78x1 (k : Nat → TypeId → Prop) : fldW Try.prog 78 1 k = k 1 21 := by unfold fldW tyOf; rw [Try.underlying78] <;> rfl
theorem y_fl78x2 (k : Nat → TypeId → Prop) : fldW Try.prog 78 2 k = k 2 5 := by unfold fldW tyOf; rw [Try.underlying78] <;> rfl
theorem y_fl78x3 (k : Nat → TypeId → Prop) : fldW Try.prog 78 3 k = k 3 5 := by unfold fldW tyOf; rw [Try.underlying78] <;> rfl
theorem y_fl78x4 (k : Nat → TypeId → Prop) : fldW Try.prog 78 4 k = k 4 5 := by unfold fldW tyOf; rw [Try.underlying78] <;> rfl
theorem y_sz78 (k : Nat → Prop) : szW Try.prog 78 k = k 5 := by unfold szW; rw [show Try.prog.info? 78 = some Try.t78 from Try.type78]; rfl
theorem y_by78 (k : Nat → Prop) : byW Try.prog 78 k = k 12 := by unfold byW; rw [show Try.prog.info? 78 = some Try.t78 from Try.type78]; rfl
theorem y_is78 : (Try.prog.info? 78).isSome = true := by rw [show Try.prog.info? 78 = some Try.t78 from Try.type78]; rfl
theorem y_zr78 (k : List D → Prop) : zeroW Try.prog 78 k = k [.int .u16 0, .int .i32 0, .int .u8 0, .int .u8 0, .int .u8 0] := by unfold zeroW; rw [show Try.prog.info? 78 = some Try.t78 from Try.type78]; exact zero_is (i := Try.t78) rfl (by decide +kernel) (by rfl)
theorem y_ty80 (k : TY → Prop) : tyW Try.prog 80 k = k (.func) := by unfold tyW tyOf; rw [Try.underlying80] <;> rfl
theorem y_sz80 (k : Nat → Prop) : szW Try.prog 80 k = k 1 := by unfold szW; rw [show Try.prog.info? 80 = some Try.t80 from Try.type80]; rfl
theorem y_by80 (k : Nat → Prop) : byW Try.prog 80 k = k 8 := by unfold byW; rw [show Try.prog.info? 80 = some Try.t80 from Try.type80]; rfl
theorem y_is80 : (Try.prog.info? 80).isSome = true := by rw [show Try.prog.info? 80 = some Try.t80 from Try.type80]; rfl
theorem y_zr80 (k : List D → Prop) : zeroW Try.prog 80 k = k [.any] := by unfold zeroW; rw [show Try.prog.info? 80 = some Try.t80 from Try.type80]; exact zero_is (i := Try.t80) rfl (by decide +kernel) (by rfl)
theorem y_ty81 (k : TY → Prop) : tyW Try.prog 81 k = k (.func) := by unfold tyW tyOf; rw [Try.underlying81] <;> rfl
theorem y_sz81 (k : Nat → Prop) : szW Try.prog 81 k = k 1 := by unfold szW; rw [show Try.prog.info? 81 = some Try.t81 from Try.type81]; rfl
theorem y_by81 (k : Nat → Prop) : byW Try.prog 81 k = k 8 := by unfold byW; rw [show Try.prog.info? 81 = some Try.t81 from Try.type81]; rfl
theorem y_is81 : (Try.prog.info? 81).isSome = true := by rw [show Try.prog.info? 81 = some Try.t81 from Try.type81]; rfl
theorem y_zr81 (k : List D → Prop) : zeroW Try.prog 81 k = k [.any] := by unfold zeroW; rw [show Try.prog.info? 81 = some Try.t81 from Try.type81]; exact zero_is (i := Try.t81) rfl (by decide +kernel) (by rfl)
theorem y_ty82 (k : TY → Prop) : tyW Try.prog 82 k = k (.slice 83) := by unfold tyW tyOf; rw [Try.underlying82] <;> rfl
theorem y_sz82 (k : Nat → Prop) : szW Try.prog 82 k = k 1 := by unfold szW; rw [show Try.prog.info? 82 = some Try.t82 from Try.type82]; rfl
theorem y_by82 (k : Nat → Prop) : byW Try.prog 82 k = k 24 := by unfold byW; rw [show Try.prog.info? 82 = some Try.t82 from Try.type82]; rfl
theorem y_is82 : (Try.prog.info? 82).isSome = true := by rw [show Try.prog.info? 82 = some Try.t82 from Try.type82]; rfl
theorem y_zr82 (k : List D → Prop) : zeroW Try.prog 82 k = k [.nils] := by unfold zeroW; rw [show Try.prog.info? 82 = some Try.t82 from Try.type82]; exact zero_is (i := Try.t82) rfl (by decide +kernel) (by rfl)
theorem y_ty83 (k : TY → Prop) : tyW Try.prog 83 k = k (.int .i16) := by unfold tyW tyOf; rw [Try.underlying83] <;> rfl
theorem y_sz83 (k : Nat → Prop) : szW Try.prog 83 k = k 1 := by unfold szW; rw [show Try.prog.info? 83 = some Try.t83 from Try.type83]; rfl
theorem y_by83 (k : Nat → Prop) : byW Try.prog 83 k = k 2 := by unfold byW; rw [show Try.prog.info? 83 = some Try.t83 from Try.type83]; rfl
theorem y_is83 : (Try.prog.info? 83).isSome = true := by rw [show Try.prog.info? 83 = some Try.t83 from Try.type83]; rfl
theorem y_zr83 (k : List D → Prop) : zeroW Try.prog 83 k = k [.int .i16 0] := by unfold zeroW; rw [show Try.prog.info? 83 = some Try.t83 from Try.type83]; exact zero_is (i := Try.t83) rfl (by decide +kernel) (by rfl)
theorem y_ty84 (k : TY → Prop) : tyW Try.prog 84 k = k (.func) := by unfold tyW tyOf; rw [Try.underlying84] <;> rfl
theorem y_sz84 (k : Nat → Prop) : szW Try.prog 84 k = k 1 := by unfold szW; rw [show Try.prog.info? 84 = some Try.t84 from Try.type84]; rfl
theorem y_by84 (k : Nat → Prop) : byW Try.prog 84 k = k 8 := by unfold byW; rw [show Try.prog.info? 84 = some Try.t84 from Try.type84]; rfl
theorem y_is84 : (Try.prog.info? 84).isSome = true := by rw [show Try.prog.info? 84 = some Try.t84 from Try.type84]; rfl
theorem y_zr84 (k : List D → Prop) : zeroW Try.prog 84 k = k [.any] := by unfold zeroW; rw [show Try.prog.info? 84 = some Try.t84 from Try.type84]; exact zero_is (i := Try.t84) rfl (by decide +kernel) (by rfl)
theorem y_ty85 (k : TY → Prop) : tyW Try.prog 85 k = k (.arr 3 3) := by unfold tyW tyOf; rw [Try.underlying85] <;> rfl
theorem y_sz85 (k : Nat → Prop) : szW Try.prog 85 k = k 3 := by unfold szW; rw [show Try.prog.info? 85 = some Try.t85 from Try.type85]; rfl
theorem y_by85 (k : Nat → Prop) : byW Try.prog 85 k = k 24 := by unfold byW; rw [show Try.prog.info? 85 = some Try.t85 from Try.type85]; rfl
theorem y_is85 : (Try.prog.info? 85).isSome = true := by rw [show Try.prog.info? 85 = some Try.t85 from Try.type85]; rfl
theorem y_zr85 (k : List D → Prop) : zeroW Try.prog 85 k = k [.int .i64 0, .int .i64 0, .int .i64 0] := by unfold zeroW; rw [show Try.prog.info? 85 = some Try.t85 from Try.type85]; exact zero_is (i := Try.t85) rfl (by decide +kernel) (by rfl)
theorem y_ty86 (k : TY → Prop) : tyW Try.prog 86 k = k (.func) := by unfold tyW tyOf; rw [Try.underlying86] <;> rfl
theorem y_sz86 (k : Nat → Prop) : szW Try.prog 86 k = k 1 := by unfold szW; rw [show Try.prog.info? 86 = some Try.t86 from Try.type86]; rfl
theorem y_by86 (k : Nat → Prop) : byW Try.prog 86 k = k 8 := by unfold byW; rw [show Try.prog.info? 86 = some Try.t86 from Try.type86]; rfl
theorem y_is86 : (Try.prog.info? 86).isSome = true := by rw [show Try.prog.info? 86 = some Try.t86 from Try.type86]; rfl
theorem y_zr86 (k : List D → Prop) : zeroW Try.prog 86 k = k [.any] := by unfold zeroW; rw [show Try.prog.info? 86 = some Try.t86 from Try.type86]; exact zero_is (i := Try.t86) rfl (by decide +kernel) (by rfl)
theorem y_ty87 (k : TY → Prop) : tyW Try.prog 87 k = k (.func) := by unfold tyW tyOf; rw [Try.underlying87] <;> rfl
theorem y_sz87 (k : Nat → Prop) : szW Try.prog 87 k = k 1 := by unfold szW; rw [show Try.prog.info? 87 = some Try.t87 from Try.type87]; rfl
theorem y_by87 (k : Nat → Prop) : byW Try.prog 87 k = k 8 := by unfold byW; rw [show Try.prog.info? 87 = some Try.t87 from Try.type87]; rfl
theorem y_is87 : (Try.prog.info? 87).isSome = true := by rw [show Try.prog.info? 87 = some Try.t87 from Try.type87]; rfl
theorem y_zr87 (k : List D → Prop) : zeroW Try.prog 87 k = k [.any] := by unfold zeroW; rw [show Try.prog.info? 87 = some Try.t87 from Try.type87]; exact zero_is (i := Try.t87) rfl (by decide +kernel) (by rfl)
theorem y_ty88 (k : TY → Prop) : tyW Try.prog 88 k = k (.func) := by unfold tyW tyOf; rw [Try.underlying88] <;> rfl
theorem y_sz88 (k : Nat → Prop) : szW Try.prog 88 k = k 1 := by unfold szW; rw [show Try.prog.info? 88 = some Try.t88 from Try.type88]; rfl
theorem y_by88 (k : Nat → Prop) : byW Try.prog 88 k = k 8 := by unfold byW; rw [show Try.prog.info? 88 = some Try.t88 from Try.type88]; rfl
theorem y_is88 : (Try.prog.info? 88).isSome = true := by rw [show Try.prog.info? 88 = some Try.t88 from Try.type88]; rfl
theorem y_zr88 (k : List D → Prop) : zeroW Try.prog 88 k = k [.any] := by unfold zeroW; rw [show Try.prog.info? 88 = some Try.t88 from Try.type88]; exact zero_is (i := Try.t88) rfl (by decide +kernel) (by rfl)
theorem y_ty90 (k : TY → Prop) : tyW Try.prog 90 k = k (.func) := by unfold tyW tyOf; rw [Try.underlying90] <;> rfl
theorem y_sz90 (k : Nat → Prop) : szW Try.prog 90 k = k 1 := by unfold szW; rw [show Try.prog.info? 90 = some Try.t90 from Try.type90]; rfl
theorem y_by90 (k : Nat → Prop) : byW Try.prog 90 k = k 8 := by unfold byW; rw [show Try.prog.info? 90 = some Try.t90 from Try.type90]; rfl
theorem y_is90 : (Try.prog.info? 90).isSome = true := by rw [show Try.prog.info? 90 = some Try.t90 from Try.type90]; rfl
theorem y_zr90 (k : List D → Prop) : zeroW Try.prog 90 k = k [.any] := by unfold zeroW; rw [show Try.prog.info? 90 = some Try.t90 from Try.type90]; exact zero_is (i := Try.t90) rfl (by decide +kernel) (by rfl)
theorem y_ty91 (k : TY → Prop) : tyW Try.prog 91 k = k (.func) := by unfold tyW tyOf; rw [Try.underlying91] <;> rfl
theorem y_sz91 (k : Nat → Prop) : szW Try.prog 91 k = k 1 := by unfold szW; rw [show Try.prog.info? 91 = some Try.t91 from Try.type91]; rfl
theorem y_by91 (k : Nat → Prop) : byW Try.prog 91 k = k 8 := by unfold byW; rw [show Try.prog.info? 91 = some Try.t91 from Try.type91]; rfl
theorem y_is91 : (Try.prog.info? 91).isSome = true := by rw [show Try.prog.info? 91 = some Try.t91 from Try.type91]; rfl
theorem y_zr91 (k : List D → Prop) : zeroW Try.prog 91 k = k [.any] := by unfold zeroW; rw [show Try.prog.info? 91 = some Try.t91 from Try.type91]; exact zero_is (i := Try.t91) rfl (by decide +kernel) (by rfl)
theorem y_ty92 (k : TY → Prop) : tyW Try.prog 92 k = k (.func) := by unfold tyW tyOf; rw [Try.underlying92] <;> rfl
theorem y_sz92 (k : Nat → Prop) : szW Try.prog 92 k = k 1 := by unfold szW; rw [show Try.prog.info? 92 = some Try.t92 from Try.type92]; rfl
theorem y_by92 (k : Nat → Prop) : byW Try.prog 92 k = k 8 := by unfold byW; rw [show Try.prog.info? 92 = some Try.t92 from Try.type92]; rfl
theorem y_is92 : (Try.prog.info? 92).isSome = true := by rw [show Try.prog.info? 92 = some Try.t92 from Try.type92]; rfl
theorem y_zr92 (k : List D → Prop) : zeroW Try.prog 92 k = k [.any] := by unfold zeroW; rw [show Try.prog.info? 92 = some Try.t92 from Try.type92]; exact zero_is (i := Try.t92) rfl (by decide +kernel) (by rfl)
theorem y_ty93 (k : TY → Prop) : tyW Try.prog 93 k = k (.func) := by unfold tyW tyOf; rw [Try.underlying93] <;> rfl
theorem y_sz93 (k : Nat → Prop) : szW Try.prog 93 k = k 1 := by unfold szW; rw [show Try.prog.info? 93 = some Try.t93 from Try.type93]; rfl
theorem y_by93 (k : Nat → Prop) : byW Try.prog 93 k = k 8 := by unfold byW; rw [show Try.prog.info? 93 = some Try.t93 from Try.type93]; rfl
theorem y_is93 : (Try.prog.info? 93).isSome = true := by rw [show Try.prog.info? 93 = some Try.t93 from Try.type93]; rfl
theorem y_zr93 (k : List D → Prop) : zeroW Try.prog 93 k = k [.any] := by unfold zeroW; rw [show Try.prog.info? 93 = some Try.t93 from Try.type93]; exact zero_is (i := Try.t93) rfl (by decide +kernel) (by rfl)
theorem y_ty94 (k : TY → Prop) : tyW Try.prog 94 k = k (.func) := by unfold tyW tyOf; rw [Try.underlying94] <;> rfl
theorem y_sz94 (k : Nat → Prop) : szW Try.prog 94 k = k 1 := by unfold szW; rw [show Try.prog.info? 94 = some Try.t94 from Try.type94]; rfl
theorem y_by94 (k : Nat → Prop) : byW Try.prog 94 k = k 8 := by unfold byW; rw [show Try.prog.info? 94 = some Try.t94 from Try.type94]; rfl
theorem y_is94 : (Try.prog.info? 94).isSome = true := by rw [show Try.prog.info? 94 = some Try.t94 from Try.type94]; rfl
theorem y_zr94 (k : List D → Prop) : zeroW Try.prog 94 k = k [.any] := by unfold zeroW; rw [show Try.prog.info? 94 = some Try.t94 from Try.type94]; exact zero_is (i := Try.t94) rfl (by decide +kernel) (by rfl)
theorem y_ty95 (k : TY → Prop) : tyW Try.prog 95 k = k (.func) := by unfold tyW tyOf; rw [Try.underlying95] <;> rfl
theorem y_sz95 (k : Nat → Prop) : szW Try.prog 95 k = k 1 := by unfold szW; rw [show Try.prog.info? 95 = some Try.t95 from Try.type95]; rfl
theorem y_by95 (k : Nat → Prop) : byW Try.prog 95 k = k 8 := by unfold byW; rw [show Try.prog.info? 95 = some Try.t95 from Try.type95]; rfl
theorem y_is95 : (Try.prog.info? 95).isSome = true := by rw [show Try.prog.info? 95 = some Try.t95 from Try.type95]; rfl
theorem y_zr95 (k : List D → Prop) : zeroW Try.prog 95 k = k [.any] := by unfold zeroW; rw [show Try.prog.info? 95 = some Try.t95 from Try.type95]; exact zero_is (i := Try.t95) rfl (by decide +kernel) (by rfl)
theorem y_ty96 (k : TY → Prop) : tyW Try.prog 96 k = k (.func) := by unfold tyW tyOf; rw [Try.underlying96] <;> rfl
theorem y_sz96 (k : Nat → Prop) : szW Try.prog 96 k = k 1 := by unfold szW; rw [show Try.prog.info? 96 = some Try.t96 from Try.type96]; rfl
theorem y_by96 (k : Nat → Prop) : byW Try.prog 96 k = k 8 := by unfold byW; rw [show Try.prog.info? 96 = some Try.t96 from Try.type96]; rfl
theorem y_is96 : (Try.prog.info? 96).isSome = true := by rw [show Try.prog.info? 96 = some Try.t96 from Try.type96]; rfl
theorem y_zr96 (k : List D → Prop) : zeroW Try.prog 96 k = k [.any] := by unfold zeroW; rw [show Try.prog.info? 96 = some Try.t96 from Try.type96]; exact zero_is (i := Try.t96) rfl (by decide +kernel) (by rfl)
theorem y_ty97 (k : TY → Prop) : tyW Try.prog 97 k = k (.func) := by unfold tyW tyOf; rw [Try.underlying97] <;> rfl
theorem y_sz97 (k : Nat → Prop) : szW Try.prog 97 k = k 1 := by unfold szW; rw [show Try.prog.info? 97 = some Try.t97 from Try.type97]; rfl
theorem y_by97 (k : Nat → Prop) : byW Try.prog 97 k = k 8 := by unfold byW; rw [show Try.prog.info? 97 = some Try.t97 from Try.type97]; rfl
theorem y_is97 : (Try.prog.info? 97).isSome = true := by rw [show Try.prog.info? 97 = some Try.t97 from Try.type97]; rfl
theorem y_zr97 (k : List D → Prop) : zeroW Try.prog 97 k = k [.any] := by unfold zeroW; rw [show Try.prog.info? 97 = some Try.t97 from Try.type97]; exact zero_is (i := Try.t97) rfl (by decide +kernel) (by rfl)
theorem y_ty98 (k : TY → Prop) : tyW Try.prog 98 k = k (.func) := by unfold tyW tyOf; rw [Try.underlying98] <;> rfl
theorem y_sz98 (k : Nat → Prop) : szW Try.prog 98 k = k 1 := by unfold szW; rw [show Try.prog.info? 98 = some Try.t98 from Try.type98]; rfl
theorem y_by98 (k : Nat → Prop) : byW Try.prog 98 k = k 8 := by unfold byW; rw [show Try.prog.info? 98 = some Try.t98 from Try.type98]; rfl
theorem y_is98 : (Try.prog.info? 98).isSome = true := by rw [show Try.prog.info? 98 = some Try.t98 from Try.type98]; rfl
theorem y_zr98 (k : List D → Prop) : zeroW Try.prog 98 k = k [.any] := by unfold zeroW; rw [show Try.prog.info? 98 = some Try.t98 from Try.type98]; exact zero_is (i := Try.t98) rfl (by decide +kernel) (by rfl)
theorem y_ty99 (k : TY → Prop) : tyW Try.prog 99 k = k (.slice 3) := by unfold tyW tyOf; rw [Try.underlying99] <;> rfl
theorem y_sz99 (k : Nat → Prop) : szW Try.prog 99 k = k 1 := by unfold szW; rw [show Try.prog.info? 99 = some Try.t99 from Try.type99]; rfl
theorem y_by99 (k : Nat → Prop) : byW Try.prog 99 k = k 24 := by unfold byW; rw [show Try.prog.info? 99 = some Try.t99 from Try.type99]; rfl
theorem y_is99 : (Try.prog.info? 99).isSome = true := by rw [show Try.prog.info? 99 = some Try.t99 from Try.type99]; rfl
theorem y_zr99 (k : List D → Prop) : zeroW Try.prog 99 k = k [.nils] := by unfold zeroW; rw [show Try.prog.info? 99 = some Try.t99 from Try.type99]; exact zero_is (i := Try.t99) rfl (by decide +kernel) (by rfl)
theorem y_ty100 (k : TY → Prop) : tyW Try.prog 100 k = k (.func) := by unfold tyW tyOf; rw [Try.underlying100] <;> rfl
theorem y_sz100 (k : Nat → Prop) : szW Try.prog 100 k = k 1 := by unfold szW; rw [show Try.prog.info? 100 = some Try.t100 from Try.type100]; rfl
theorem y_by100 (k : Nat → Prop) : byW Try.prog 100 k = k 8 := by unfold byW; rw [show Try.prog.info? 100 = some Try.t100 from Try.type100]; rfl
theorem y_is100 : (Try.prog.info? 100).isSome = true := by rw [show Try.prog.info? 100 = some Try.t100 from Try.type100]; rfl
theorem y_zr100 (k : List D → Prop) : zeroW Try.prog 100 k = k [.any] := by unfold zeroW; rw [show Try.prog.info? 100 = some Try.t100 from Try.type100]; exact zero_is (i := Try.t100) rfl (by decide +kernel) (by rfl)
theorem y_ty101 (k : TY → Prop) : tyW Try.prog 101 k = k (.func) := by unfold tyW tyOf; rw [Try.underlying101] <;> rfl
theorem y_sz101 (k : Nat → Prop) : szW Try.prog 101 k = k 1 := by unfold szW; rw [show Try.prog.info? 101 = some Try.t101 from Try.type101]; rfl
theorem y_by101 (k : Nat → Prop) : byW Try.prog 101 k = k 8 := by unfold byW; rw [show Try.prog.info? 101 = some Try.t101 from Try.type101]; rfl
theorem y_is101 : (Try.prog.info? 101).isSome = true := by rw [show Try.prog.info? 101 = some Try.t101 from Try.type101]; rfl
theorem y_zr101 (k : List D → Prop) : zeroW Try.prog 101 k = k [.any] := by unfold zeroW; rw [show Try.prog.info? 101 = some Try.t101 from Try.type101]; exact zero_is (i := Try.t101) rfl (by decide +kernel) (by rfl)
theorem y_ty102 (k : TY → Prop) : tyW Try.prog 102 k = k (.func) := by unfold tyW tyOf; rw [Try.underlying102] <;> rfl
theorem y_sz102 (k : Nat → Prop) : szW Try.prog 102 k = k 1 := by unfold szW; rw [show Try.prog.info? 102 = some Try.t102 from Try.type102]; rfl
theorem y_by102 (k : Nat → Prop) : byW Try.prog 102 k = k 8 := by unfold byW; rw [show Try.prog.info? 102 = some Try.t102 from Try.type102]; rfl
theorem y_is102 : (Try.prog.info? 102).isSome = true := by rw [show Try.prog.info? 102 = some Try.t102 from Try.type102]; rfl
theorem y_zr102 (k : List D → Prop) : zeroW Try.prog 102 k = k [.any] := by unfold zeroW; rw [show Try.prog.info? 102 = some Try.t102 from Try.type102]; exact zero_is (i := Try.t102) rfl (by decide +kernel) (by rfl)
theorem y_ty103 (k : TY → Prop) : tyW Try.prog 103 k = k (.func) := by unfold tyW tyOf; rw [Try.underlying103] <;> rfl
theorem y_sz103 (k : Nat → Prop) : szW Try.prog 103 k = k 1 := by unfold szW; rw [show Try.prog.info? 103 = some Try.t103 from Try.type103]; rfl
theorem y_by103 (k : Nat → Prop) : byW Try.prog 103 k = k 8 := by unfold byW; rw [show Try.prog.info? 103 = some Try.t103 from Try.type103]; rfl
theorem y_is103 : (Try.prog.info? 103).isSome = true := by rw [show Try.prog.info? 103 = some Try.t103 from Try.type103]; rfl
theorem y_zr103 (k : List D → Prop) : zeroW Try.prog 103 k = k [.any] := by unfold zeroW; rw [show Try.prog.info? 103 = some Try.t103 from Try.type103]; exact zero_is (i := Try.t103) rfl (by decide +kernel) (by rfl)
theorem y_ty104 (k : TY → Prop) : tyW Try.prog 104 k = k (.func) := by unfold tyW tyOf; rw [Try.underlying104] <;> rfl
theorem y_sz104 (k : Nat → Prop) : szW Try.prog 104 k = k 1 := by unfold szW; rw [show Try.prog.info? 104 = some Try.t104 from Try.type104]; rfl
theorem y_by104 (k : Nat → Prop) : byW Try.prog 104 k = k 8 := by unfold byW; rw [show Try.prog.info? 104 = some Try.t104 from Try.type104]; rfl
theorem y_is104 : (Try.prog.info? 104).isSome = true := by rw [show Try.prog.info? 104 = some Try.t104 from Try.type104]; rfl
theorem y_zr104 (k : List D → Prop) : zeroW Try.prog 104 k = k [.any] := by unfold zeroW; rw [show Try.prog.info? 104 = some Try.t104 from Try.type104]; exact zero_is (i := Try.t104) rfl (by decide +kernel) (by rfl)
theorem y_ty105 (k : TY → Prop) : tyW Try.prog 105 k = k (.func) := by unfold tyW tyOf; rw [Try.underlying105] <;> rfl
theorem y_sz105 (k : Nat → Prop) : szW Try.prog 105 k = k 1 := by unfold szW; rw [show Try.prog.info? 105 = some Try.t105 from Try.type105]; rfl
theorem y_by105 (k : Nat → Prop) : byW Try.prog 105 k = k 8 := by unfold byW; rw [show Try.prog.info? 105 = some Try.t105 from Try.type105]; rfl
theorem y_is105 : (Try.prog.info? 105).isSome = true := by rw [show Try.prog.info? 105 = some Try.t105 from Try.type105]; rfl
theorem y_zr105 (k : List D → Prop) : zeroW Try.prog 105 k = k [.any] := by unfold zeroW; rw [show Try.prog.info? 105 = some Try.t105 from Try.type105]; exact zero_is (i := Try.t105) rfl (by decide +kernel) (by rfl)
theorem y_ty106 (k : TY → Prop) : tyW Try.prog 106 k = k (.func) := by unfold tyW tyOf; rw [Try.underlying106] <;> rfl
theorem y_sz106 (k : Nat → Prop) : szW Try.prog 106 k = k 1 := by unfold szW; rw [show Try.prog.info? 106 = some Try.t106 from Try.type106]; rfl
theorem y_by106 (k : Nat → Prop) : byW Try.prog 106 k = k 8 := by unfold byW; rw [show Try.prog.info? 106 = some Try.t106 from Try.type106]; rfl
theorem y_is106 : (Try.prog.info? 106).isSome = true := by rw [show Try.prog.info? 106 = some Try.t106 from Try.type106]; rfl
theorem y_zr106 (k : List D → Prop) : zeroW Try.prog 106 k = k [.any] := by unfold zeroW; rw [show Try.prog.info? 106 = some Try.t106 from Try.type106]; exact zero_is (i := Try.t106) rfl (by decide +kernel) (by rfl)
theorem y_ty107 (k : TY → Prop) : tyW Try.prog 107 k = k (.int .u64) := by unfold tyW tyOf; rw [Try.underlying107] <;> rfl
theorem y_sz107 (k : Nat → Prop) : szW Try.prog 107 k = k 1 := by unfold szW; rw [show Try.prog.info? 107 = some Try.t107 from Try.type107]; rfl
theorem y_by107 (k : Nat → Prop) : byW Try.prog 107 k = k 8 := by unfold byW; rw [show Try.prog.info? 107 = some Try.t107 from Try.type107]; rfl
theorem y_is107 : (Try.prog.info? 107).isSome = true := by rw [show Try.prog.info? 107 = some Try.t107 from Try.type107]; rfl
theorem y_zr107 (k : List D → Prop) : zeroW Try.prog 107 k = k [.int .u64 0] := by unfold zeroW; rw [show Try.prog.info? 107 = some Try.t107 from Try.type107]; exact zero_is (i := Try.t107) rfl (by decide +kernel) (by rfl)
theorem y_ty108 (k : TY → Prop) : tyW Try.prog 108 k = k (.func) := by unfold tyW tyOf; rw [Try.underlying108] <;> rfl
theorem y_sz108 (k : Nat → Prop) : szW Try.prog 108 k = k 1 := by unfold szW; rw [show Try.prog.info? 108 = some Try.t108 from Try.type108]; rfl
theorem y_by108 (k : Nat → Prop) : byW Try.prog 108 k = k 8 := by unfold byW; rw [show Try.prog.info? 108 = some Try.t108 from Try.type108]; rfl
theorem y_is108 : (Try.prog.info? 108).isSome = true := by rw [show Try.prog.info? 108 = some Try.t108 from Try.type108]; rfl
theorem y_zr108 (k : List D → Prop) : zeroW Try.prog 108 k = k [.any] := by unfold zeroW; rw [show Try.prog.info? 108 = some Try.t108 from Try.type108]; exact zero_is (i := Try.t108) rfl (by decide +kernel) (by rfl)
theorem y_ty109 (k : TY → Prop) : tyW Try.prog 109 k = k (.struct [(0, 17), (1, 17), (2, 17), (3, 9)]) := by unfold tyW tyOf; rw [Try.underlying109] <;> rfl
theorem y_fl109x0 (k : Nat → TypeId → Prop) : fldW Try.prog 109 0 k = k 0 17 := by unfold fldW tyOf; rw [Try.underlying109] <;> rfl
theorem y_fl109x1 (k : Nat → TypeId → Prop) : fldW Try.prog 109 1 k = k 1 17 := by unfold fldW tyOf; rw [Try.underlying109] <;> rfl
theorem y_fl109x2 (k : Nat → TypeId → Prop) : fldW Try.prog 109 2 k = k 2 17 := by unfold fldW tyOf; rw [Try.underlying109] <;> rfl
theorem y_fl109x3 (k : Nat → TypeId → Prop) : fldW Try.prog 109 3 k = k 3 9 := by unfold fldW tyOf; rw [Try.underlying109] <;> rfl
theorem y_sz109 (k : Nat → Prop) : szW Try.prog 109 k = k 4 := by unfold szW; rw [show Try.prog.info? 109 = some Try.t109 from Try.type109]; rfl
theorem y_by109 (k : Nat → Prop) : byW Try.prog 109 k = k 40 := by unfold byW; rw [show Try.prog.info? 109 = some Try.t109 from Try.type109]; rfl
theorem y_is109 : (Try.prog.info? 109).isSome = true := by rw [show Try.prog.info? 109 = some Try.t109 from Try.type109]; rfl
theorem y_zr109 (k : List D → Prop) : zeroW Try.prog 109 k = k [.any, .any, .any, .str []] := by unfold zeroW; rw [show Try.prog.info? 109 = some Try.t109 from Try.type109]; exact zero_is (i := Try.t109) rfl (by decide +kernel) (by rfl)
theorem y_ty110 (k : TY → Prop) : tyW Try.prog 110 k = k (.struct [(0, 17), (1, 17), (2, 17), (3, 9)]) := by unfold tyW tyOf; rw [Try.underlying110] <;> rfl
theorem y_fl110x0 (k : Nat → TypeId → Prop) : fldW Try.prog 110 0 k = k 0 17 := by unfold fldW tyOf; rw [Try.underlying110] <;> rfl
theorem y_fl110x1 (k : Nat → TypeId → Prop) : fldW Try.prog 110 1 k = k 1 17 := by unfold fldW tyOf; rw [Try.underlying110] <;> rfl
theorem y_fl110x2 (k : Nat → TypeId → Prop) : fldW Try.prog 110 2 k = k 2 17 := by unfold fldW tyOf; rw [Try.underlying110] <;> rfl
theorem y_fl110x3 (k : Nat → TypeId → Prop) : fldW Try.prog 110 3 k = k 3 9 := by unfold fldW tyOf; rw [Try.underlying110] <;> rfl
theorem y_sz110 (k : Nat → Prop) : szW Try.prog 110 k = k 4 := by unfold szW; rw [show Try.prog.info? 110 = some Try.t110 from Try.type110]; rfl
theorem y_by110 (k : Nat → Prop) : byW Try.prog 110 k = k 40 := by unfold byW; rw [show Try.prog.info? 110 = some Try.t110 from Try.type110]; rfl
theorem y_is110 : (Try.prog.info? 110).isSome = true := by rw [show Try.prog.info? 110 = some Try.t110 from Try.type110]; rfl
theorem y_zr110 (k : List D → Prop) : zeroW Try.prog 110 k = k [.any, .any, .any, .str []] := by unfold zeroW; rw [show Try.prog.info? 110 = some Try.t110 from Try.type110]; exact zero_is (i := Try.t110) rfl (by decide +kernel) (by rfl)
theorem y_ty111 (k : TY → Prop) : tyW Try.prog 111 k = k (.arr 0 16) := by unfold tyW tyOf; rw [Try.underlying111] <;> rfl
theorem y_sz111 (k : Nat → Prop) : szW Try.prog 111 k = k 0 := by unfold szW; rw [show Try.prog.info? 111 = some Try.t111 from Try.type111]; rfl
theorem y_by111 (k : Nat → Prop) : byW Try.prog 111 k = k 0 := by unfold byW; rw [show Try.prog.info? 111 = some Try.t111 from Try.type111]; rfl
theorem y_is111 : (Try.prog.info? 111).isSome = true := by rw [show Try.prog.info? 111 = some Try.t111 from Try.type111]; rfl
theorem y_zr111 (k : List D → Prop) : zeroW Try.prog 111 k = k [] := by unfold zeroW; rw [show Try.prog.info? 111 = some Try.t111 from Try.type111]; exact zero_is (i := Try.t111) rfl (by decide +kernel) (by rfl)
theorem y_ty112 (k : TY → Prop) : tyW Try.prog 112 k = k (.struct [(0, 111)]) := by unfold tyW tyOf; rw [Try.underlying112] <;> rfl
theorem y_fl112x0 (k : Nat → TypeId → Prop) : fldW Try.prog 112 0 k = k 0 111 := by unfold fldW tyOf; rw [Try.underlying112] <;> rfl
theorem y_sz112 (k : Nat → Prop) : szW Try.prog 112 k = k 0 := by unfold szW; rw [show Try.prog.info? 112 = some Try.t112 from Try.type112]; rfl
theorem y_by112 (k : Nat → Prop) : byW Try.prog 112 k = k 0 := by unfold byW; rw [show Try.prog.info? 112 = some Try.t112 from Try.type112]; rfl
theorem y_is112 : (Try.prog.info? 112).isSome = true := by rw [show Try.prog.info? 112 = some Try.t112 from Try.type112]; rfl
theorem y_zr112 (k : List D → Prop) : zeroW Try.prog 112 k = k [] := by unfold zeroW; rw [show Try.prog.info? 112 = some Try.t112 from Try.type112]; exact zero_is (i := Try.t112) rfl (by decide +kernel) (by rfl)
theorem y_ty113 (k : TY → Prop) : tyW Try.prog 113 k = k (.struct [(0, 111)]) := by unfold tyW tyOf; rw [Try.underlying113] <;> rfl
theorem y_fl113x0 (k : Nat → TypeId → Prop) : fldW Try.prog 113 0 k = k 0 111 := by unfold fldW tyOf; rw [Try.underlying113] <;> rfl
theorem y_sz113 (k : Nat → Prop) : szW Try.prog 113 k = k 0 := by unfold szW; rw [show Try.prog.info? 113 = some Try.t113 from Try.type113]; rfl
theorem y_by113 (k : Nat → Prop) : byW Try.prog 113 k = k 0 := by unfold byW; rw [show Try.prog.info? 113 = some Try.t113 from Try.type113]; rfl
theorem y_is113 : (Try.prog.info? 113).isSome = true := by rw [show Try.prog.info? 113 = some Try.t113 from Try.type113]; rfl
theorem y_zr113 (k : List D → Prop) : zeroW Try.prog 113 k = k [] := by unfold zeroW; rw [show Try.prog.info? 113 = some Try.t113 from Try.type113]; exact zero_is (i := Try.t113) rfl (by decide +kernel) (by rfl)
theorem y_ty114 (k : TY → Prop) : tyW Try.prog 114 k = k (.func) := by unfold tyW tyOf; rw [Try.underlying114] <;> rfl
theorem y_sz114 (k : Nat → Prop) : szW Try.prog 114 k = k 1 := by unfold szW; rw [show Try.prog.info? 114 = some Try.t114 from Try.type114]; rfl
theorem y_by114 (k : Nat → Prop) : byW Try.prog 114 k = k 8 := by unfold byW; rw [show Try.prog.info? 114 = some Try.t114 from Try.type114]; rfl
theorem y_is114 : (Try.prog.info? 114).isSome = true := by rw [show Try.prog.info? 114 = some Try.t114 from Try.type114]; rfl
theorem y_zr114 (k : List D → Prop) : zeroW Try.prog 114 k = k [.any] := by unfold zeroW; rw [show Try.prog.info? 114 = some Try.t114 from Try.type114]; exact zero_is (i := Try.t114) rfl (by decide +kernel) (by rfl)
theorem y_ty115 (k : TY → Prop) : tyW Try.prog 115 k = k (.int .u8) := by unfold tyW tyOf; rw [Try.underlying115] <;> rfl
theorem y_sz115 (k : Nat → Prop) : szW Try.prog 115 k = k 1 := by unfold szW; rw [show Try.prog.info? 115 = some Try.t115 from Try.type115]; rfl
theorem y_by115 (k : Nat → Prop) : byW Try.prog 115 k = k 1 := by unfold byW; rw [show Try.prog.info? 115 = some Try.t115 from Try.type115]; rfl
theorem y_is115 : (Try.prog.info? 115).isSome = true := by rw [show Try.prog.info? 115 = some Try.t115 from Try.type115]; rfl
theorem y_zr115 (k : List D → Prop) : zeroW Try.prog 115 k = k [.int .u8 0] := by unfold zeroW; rw [show Try.prog.info? 115 = some Try.t115 from Try.type115]; exact zero_is (i := Try.t115) rfl (by decide +kernel) (by rfl)
theorem y_ty116 (k : TY → Prop) : tyW Try.prog 116 k = k (.int .u8) := by unfold tyW tyOf; rw [Try.underlying116] <;> rfl
theorem y_sz116 (k : Nat → Prop) : szW Try.prog 116 k = k 1 := by unfold szW; rw [show Try.prog.info? 116 = some Try.t116 from Try.type116]; rfl
theorem y_by116 (k : Nat → Prop) : byW Try.prog 116 k = k 1 := by unfold byW; rw [show Try.prog.info? 116 = some Try.t116 from Try.type116]; rfl
theorem y_is116 : (Try.prog.info? 116).isSome = true := by rw [show Try.prog.info? 116 = some Try.t116 from Try.type116]; rfl
theorem y_zr116 (k : List D → Prop) : zeroW Try.prog 116 k = k [.int .u8 0] := by unfold zeroW; rw [show Try.prog.info? 116 = some Try.t116 from Try.type116]; exact zero_is (i := Try.t116) rfl (by decide +kernel) (by rfl)
theorem y_ty117 (k : TY → Prop) : tyW Try.prog 117 k = k (.func) := by unfold tyW tyOf; rw [Try.underlying117] <;> rfl
theorem y_sz117 (k : Nat → Prop) : szW Try.prog 117 k = k 1 := by unfold szW; rw [show Try.prog.info? 117 = some Try.t117 from Try.type117]; rfl
theorem y_by117 (k : Nat → Prop) : byW Try.prog 117 k = k 8 := by unfold byW; rw [show Try.prog.info? 117 = some Try.t117 from Try.type117]; rfl
theorem y_is117 : (Try.prog.info? 117).isSome = true := by rw [show Try.prog.info? 117 = some Try.t117 from Try.type117]; rfl
theorem y_zr117 (k : List D → Prop) : zeroW Try.prog 117 k = k [.any] := by unfold zeroW; rw [show Try.prog.info? 117 = some Try.t117 from Try.type117]; exact zero_is (i := Try.t117) rfl (by decide +kernel) (by rfl)
theorem y_ty118 (k : TY → Prop) : tyW Try.prog 118 k = k (.ptr 5) := by unfold tyW tyOf; rw [Try.underlying118] <;> rfl
theorem y_sz118 (k : Nat → Prop) : szW Try.prog 118 k = k 1 := by unfold szW; rw [show Try.prog.info? 118 = some Try.t118 from Try.type118]; rfl
theorem y_by118 (k : Nat → Prop) : byW Try.prog 118 k = k 8 := by unfold byW; rw [show Try.prog.info? 118 = some Try.t118 from Try.type118]; rfl
theorem y_is118 : (Try.prog.info? 118).isSome = true := by rw [show Try.prog.info? 118 = some Try.t118 from Try.type118]; rfl
theorem y_zr118 (k : List D → Prop) : zeroW Try.prog 118 k = k [.any] := by unfold zeroW; rw [show Try.prog.info? 118 = some Try.t118 from Try.type118]; exact zero_is (i := Try.t118) rfl (by decide +kernel) (by rfl)
theorem y_ty119 (k : TY → Prop) : tyW Try.prog 119 k = k (.int .i32) := by unfold tyW tyOf; rw [Try.underlying119] <;> rfl
theorem y_sz119 (k : Nat → Prop) : szW Try.prog 119 k = k 1 := by unfold szW; rw [show Try.prog.info? 119 = some Try.t119 from Try.type119]; rfl
theorem y_by119 (k : Nat → Prop) : byW Try.prog 119 k = k 4 := by unfold byW; rw [show Try.prog.info? 119 = some Try.t119 from Try.type119]; rfl
theorem y_is119 : (Try.prog.info? 119).isSome = true := by rw [show Try.prog.info? 119 = some Try.t119 from Try.type119]; rfl
theorem y_zr119 (k : List D → Prop) : zeroW Try.prog 119 k = k [.int .i32 0] := by unfold zeroW; rw [show Try.prog.info? 119 = some Try.t119 from Try.type119]; exact zero_is (i := Try.t119) rfl (by decide +kernel) (by rfl)
theorem y_ty120 (k : TY → Prop) : tyW Try.prog 120 k = k (.int .i32) := by unfold tyW tyOf; rw [Try.underlying120] <;> rfl
theorem y_sz120 (k : Nat → Prop) : szW Try.prog 120 k = k 1 := by unfold szW; rw [show Try.prog.info? 120 = some Try.t120 from Try.type120]; rfl
theorem y_by120 (k : Nat → Prop) : byW Try.prog 120 k = k 4 := by unfold byW; rw [show Try.prog.info? 120 = some Try.t120 from Try.type120]; rfl
theorem y_is120 : (Try.prog.info? 120).isSome = true := by rw [show Try.prog.info? 120 = some Try.t120 from Try.type120]; rfl
theorem y_zr120 (k : List D → Prop) : zeroW Try.prog 120 k = k [.int .i32 0] := by unfold zeroW; rw [show Try.prog.info? 120 = some Try.t120 from Try.type120]; exact zero_is (i := Try.t120) rfl (by decide +kernel) (by rfl)
theorem y_ty121 (k : TY → Prop) : tyW Try.prog 121 k = k (.struct [(0, 12), (1, 12), (2, 68), (3, 115), (4, 5), (5, 5), (6, 116), (7, 117), (8, 118), (9, 119), (10, 120)]) := by unfold tyW tyOf; rw [Try.underlying121] <;> rfl
theorem y_fl121x0 (k : Nat → TypeId → Prop) : fldW Try.prog 121 0 k = k 0 12 := by unfold fldW tyOf; rw [Try.underlying121] <;> rfl
theorem y_fl121x1 (k : Nat → TypeId → Prop) : fldW Try.prog 121 1 k = k 1 12 := by unfold fldW tyOf; rw [Try.underlying121] <;> rfl
theorem y_fl121x2 (k : Nat → TypeId → Prop) : fldW Try.prog 121 2 k = k 2 68 := by unfold fldW tyOf; rw [Try.underlying121] <;> rfl
theorem y_fl121x3 (k : Nat → TypeId → Prop) : fldW Try.prog 121 3 k = k 3 115 := by unfold fldW tyOf; rw [Try.underlying121] <;> rfl
theorem y_fl121x4 (k : Nat → TypeId → Prop) : fldW Try.prog 121 4 k = k 4 5 := by unfold fldW tyOf; rw [Try.underlying121] <;> rfl
theorem y_fl121x5 (k : Nat → TypeId → Prop) : fldW Try.prog 121 5 k = k 5 5 := by unfold fldW tyOf; rw [Try.underlying121] <;> rfl
theorem y_fl121x6 (k : Nat → TypeId → Prop) : fldW Try.prog 121 6 k = k 6 116 := by unfold fldW tyOf; rw [Try.underlying121] <;> rfl
theorem y_fl121x7 (k : Nat → TypeId → Prop) : fldW Try.prog 121 7 k = k 7 117 := by unfold fldW tyOf; rw [Try.underlying121] <;> rfl
theorem y_fl121x8 (k : Nat → TypeId → Prop) : fldW Try.prog 121 8 k = k 8 118 := by unfold fldW tyOf; rw [Try.underlying121] <;> rfl
theorem y_fl121x9 (k : Nat → TypeId → Prop) : fldW Try.prog 121 9 k = k 9 119 := by unfold fldW tyOf; rw [Try.underlying121] <;> rfl
theorem y_fl121x10 (k : Nat → TypeId → Prop) : fldW Try.prog 121 10 k = k 10 120 := by unfold fldW tyOf; rw [Try.underlying121] <;> rfl
theorem y_sz121 (k : Nat → Prop) : szW Try.prog 121 k = k 11 := by unfold szW; rw [show Try.prog.info? 121 = some Try.t121 from Try.type121]; rfl
theorem y_by121 (k : Nat → Prop) : byW Try.prog 121 k = k 48 := by unfold byW; rw [show Try.prog.info? 121 = some Try.t121 from Try.type121]; rfl
theorem y_is121 : (Try.prog.info? 121).isSome = true := by rw [show Try.prog.info? 121 = some Try.t121 from Try.type121]; rfl
theorem y_zr121 (k : List D → Prop) : zeroW Try.prog 121 k = k [.int .u64 0, .int .u64 0, .int .u32 0, .int .u8 0, .int .u8 0, .int .u8 0, .int .u8 0, .any, .any, .int .i32 0, .int .i32 0] := by unfold zeroW; rw [show Try.prog.info? 121 = some Try.t121 from Try.type121]; exact zero_is (i := Try.t121) rfl (by decide +kernel) (by rfl)
theorem y_ty122 (k : TY → Prop) : tyW Try.prog 122 k = k (.struct [(0, 12), (1, 12), (2, 68), (3, 115), (4, 5), (5, 5), (6, 116), (7, 117), (8, 118), (9, 119), (10, 120)]) := by unfold tyW tyOf; rw [Try.underlying122] <;> rfl
theorem y_fl122x0 (k : Nat → TypeId → Prop) : fldW Try.prog 122 0 k = k 0 12 := by unfold fldW tyOf; rw [Try.underlying122] <;> rfl
theorem y_fl122x1 (k : Nat → TypeId → Prop) : fldW Try.prog 122 1 k = k 1 12 := by unfold fldW tyOf; rw [Try.underlying122] <;> rfl
theorem y_fl122x2 (k : Nat → TypeId → Prop) : fldW Try.prog 122 2 k = k 2 68 := by unfold fldW tyOf; rw [Try.underlying122] <;> rfl
theorem y_fl122x3 (k : Nat → TypeId → Prop) : fldW Try.prog 122 3 k = k 3 115 := by unfold fldW tyOf; rw [Try.underlying122] <;> rfl
theorem y_fl122x4 (k : Nat → TypeId → Prop) : fldW Try.prog 122 4 k = k 4 5 := by unfold fldW tyOf; rw [Try.underlying122] <;> rfl
theorem y_fl122x5 (k : Nat → TypeId → Prop) : fldW Try.prog 122 5 k = k 5 5 := by unfold fldW tyOf; rw [Try.underlying122] <;> rfl
theorem y_fl122x6 (k : Nat → TypeId → Prop) : fldW Try.prog 122 6 k = k 6 116 := by unfold fldW tyOf; rw [Try.underlying122] <;> rfl
theorem y_fl122x7 (k : Nat → TypeId → Prop) : fldW Try.prog 122 7 k = k 7 117 := by unfold fldW tyOf; rw [Try.underlying122] <;> rfl
theorem y_fl122x8 (k : Nat → TypeId → Prop) : fldW Try.prog 122 8 k = k 8 118 := by unfold fldW tyOf; rw [Try.underlying122] <;> rfl
theorem y_fl122x9 (k : Nat → TypeId → Prop) : fldW Try.prog 122 9 k = k 9 119 := by unfold fldW tyOf; rw [Try.underlying122] <;> rfl
theorem y_fl122x10 (k : Nat → TypeId → Prop) : fldW Try.prog 122 10 k = k 10 120 := by unfold fldW tyOf; rw [Try.underlying122] <;> rfl
theorem y_sz122 (k : Nat → Prop) : szW Try.prog 122 k = k 11 := by unfold szW; rw [show Try.prog.info? 122 = some Try.t122 from Try.type122]; rfl
theorem y_by122 (k : Nat → Prop) : byW Try.prog 122 k = k 48 := by unfold byW; rw [show Try.prog.info? 122 = some Try.t122 from Try.type122]; rfl
theorem y_is122 : (Try.prog.info? 122).isSome = true := by rw [show Try.prog.info? 122 = some Try.t122 from Try.type122]; rfl
theorem y_zr122 (k : List D → Prop) : zeroW Try.prog 122 k = k [.int .u64 0, .int .u64 0, .int .u32 0, .int .u8 0, .int .u8 0, .int .u8 0, .int .u8 0, .any, .any, .int .i32 0, .int .i32 0] := by unfold zeroW; rw [show Try.prog.info? 122 = some Try.t122 from Try.type122]; exact zero_is (i := Try.t122) rfl (by decide +kernel) (by rfl)
end Go.Abs
