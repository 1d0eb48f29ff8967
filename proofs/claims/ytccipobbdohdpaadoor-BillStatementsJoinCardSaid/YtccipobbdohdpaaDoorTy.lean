/-
  The types of the seat's program, as the walk reads them. Printed.
-/
import Derived.Test.YtccipobbdohdpaaDoorProg
import Derived.Test.YtccipobbdohdpaaDoorAbs28
namespace Go.Abs
set_option maxRecDepth 100000
open Go.Proofs
theorem y_mix : (Tryd.prog.follows .mixedOrders = true) = True := eq_true (by decide +kernel)
theorem y_ty3 (k : TY → Prop) : tyW Tryd.prog 3 k = k (.int .i64) := by unfold tyW tyOf; rw [Tryd.underlying3] <;> rfl
theorem y_sz3 (k : Nat → Prop) : szW Tryd.prog 3 k = k 1 := by unfold szW; rw [show Tryd.prog.info? 3 = some Tryd.t3 from Tryd.type3]; rfl
theorem y_by3 (k : Nat → Prop) : byW Tryd.prog 3 k = k 8 := by unfold byW; rw [show Tryd.prog.info? 3 = some Tryd.t3 from Tryd.type3]; rfl
theorem y_zr3 (k : List D → Prop) : zeroW Tryd.prog 3 k = k [.int .i64 0] := by unfold zeroW; rw [show Tryd.prog.info? 3 = some Tryd.t3 from Tryd.type3]; exact zero_is (i := Tryd.t3) rfl (by decide +kernel) (by rfl)
theorem y_ty5 (k : TY → Prop) : tyW Tryd.prog 5 k = k (.int .u8) := by unfold tyW tyOf; rw [Tryd.underlying5] <;> rfl
theorem y_sz5 (k : Nat → Prop) : szW Tryd.prog 5 k = k 1 := by unfold szW; rw [show Tryd.prog.info? 5 = some Tryd.t5 from Tryd.type5]; rfl
theorem y_by5 (k : Nat → Prop) : byW Tryd.prog 5 k = k 1 := by unfold byW; rw [show Tryd.prog.info? 5 = some Tryd.t5 from Tryd.type5]; rfl
theorem y_zr5 (k : List D → Prop) : zeroW Tryd.prog 5 k = k [.int .u8 0] := by unfold zeroW; rw [show Tryd.prog.info? 5 = some Tryd.t5 from Tryd.type5]; exact zero_is (i := Tryd.t5) rfl (by decide +kernel) (by rfl)
theorem y_ty9 (k : TY → Prop) : tyW Tryd.prog 9 k = k (.str) := by unfold tyW tyOf; rw [Tryd.underlying9] <;> rfl
theorem y_sz9 (k : Nat → Prop) : szW Tryd.prog 9 k = k 1 := by unfold szW; rw [show Tryd.prog.info? 9 = some Tryd.t9 from Tryd.type9]; rfl
theorem y_zr9 (k : List D → Prop) : zeroW Tryd.prog 9 k = k [.str []] := by unfold zeroW; rw [show Tryd.prog.info? 9 = some Tryd.t9 from Tryd.type9]; exact zero_is (i := Tryd.t9) rfl (by decide +kernel) (by rfl)
theorem y_ty22 (k : TY → Prop) : tyW Tryd.prog 22 k = k (.slice 26) := by unfold tyW tyOf; rw [Tryd.underlying22] <;> rfl
theorem y_sz22 (k : Nat → Prop) : szW Tryd.prog 22 k = k 1 := by unfold szW; rw [show Tryd.prog.info? 22 = some Tryd.t22 from Tryd.type22]; rfl
theorem y_ty24 (k : TY → Prop) : tyW Tryd.prog 24 k = k (.struct [(0, 3), (1, 22)]) := by unfold tyW tyOf; rw [Tryd.underlying24] <;> rfl
theorem y_fl24x0 (k : Nat → TypeId → Prop) : fldW Tryd.prog 24 0 k = k 0 3 := by unfold fldW tyOf; rw [Tryd.underlying24] <;> rfl
theorem y_fl24x1 (k : Nat → TypeId → Prop) : fldW Tryd.prog 24 1 k = k 1 22 := by unfold fldW tyOf; rw [Tryd.underlying24] <;> rfl
theorem y_sz24 (k : Nat → Prop) : szW Tryd.prog 24 k = k 2 := by unfold szW; rw [show Tryd.prog.info? 24 = some Tryd.t24 from Tryd.type24]; rfl
theorem y_zr24 (k : List D → Prop) : zeroW Tryd.prog 24 k = k [.int .i64 0, .nils] := by unfold zeroW; rw [show Tryd.prog.info? 24 = some Tryd.t24 from Tryd.type24]; exact zero_is (i := Tryd.t24) rfl (by decide +kernel) (by rfl)
theorem y_ty26 (k : TY → Prop) : tyW Tryd.prog 26 k = k (.struct [(0, 3), (1, 3), (2, 3), (3, 3), (4, 3), (5, 3)]) := by unfold tyW tyOf; rw [Tryd.underlying26] <;> rfl
theorem y_fl26x0 (k : Nat → TypeId → Prop) : fldW Tryd.prog 26 0 k = k 0 3 := by unfold fldW tyOf; rw [Tryd.underlying26] <;> rfl
theorem y_fl26x1 (k : Nat → TypeId → Prop) : fldW Tryd.prog 26 1 k = k 1 3 := by unfold fldW tyOf; rw [Tryd.underlying26] <;> rfl
theorem y_fl26x2 (k : Nat → TypeId → Prop) : fldW Tryd.prog 26 2 k = k 2 3 := by unfold fldW tyOf; rw [Tryd.underlying26] <;> rfl
theorem y_fl26x3 (k : Nat → TypeId → Prop) : fldW Tryd.prog 26 3 k = k 3 3 := by unfold fldW tyOf; rw [Tryd.underlying26] <;> rfl
theorem y_fl26x4 (k : Nat → TypeId → Prop) : fldW Tryd.prog 26 4 k = k 4 3 := by unfold fldW tyOf; rw [Tryd.underlying26] <;> rfl
theorem y_fl26x5 (k : Nat → TypeId → Prop) : fldW Tryd.prog 26 5 k = k 5 3 := by unfold fldW tyOf; rw [Tryd.underlying26] <;> rfl
theorem y_sz26 (k : Nat → Prop) : szW Tryd.prog 26 k = k 6 := by unfold szW; rw [show Tryd.prog.info? 26 = some Tryd.t26 from Tryd.type26]; rfl
theorem y_by26 (k : Nat → Prop) : byW Tryd.prog 26 k = k 48 := by unfold byW; rw [show Tryd.prog.info? 26 = some Tryd.t26 from Tryd.type26]; rfl
theorem y_zr26 (k : List D → Prop) : zeroW Tryd.prog 26 k = k [.int .i64 0, .int .i64 0, .int .i64 0, .int .i64 0, .int .i64 0, .int .i64 0] := by unfold zeroW; rw [show Tryd.prog.info? 26 = some Tryd.t26 from Tryd.type26]; exact zero_is (i := Tryd.t26) rfl (by decide +kernel) (by rfl)
theorem y_fk26 (k : List K → Prop) : flkW Tryd.prog 26 k = k (List.replicate 6 (.int .i64)) := by unfold flkW; rw [show flatK Tryd.prog 8 26 = some (List.replicate 6 (.int .i64)) from rfl]; exact flk_is (by decide +kernel) Tryd.eqGuardType26 (by decide +kernel) ⟨_, .inl Tryd.underlying26⟩
theorem y_ty28 (k : TY → Prop) : tyW Tryd.prog 28 k = k (.int .i64) := by unfold tyW tyOf; rw [Tryd.underlying28] <;> rfl
theorem y_sz28 (k : Nat → Prop) : szW Tryd.prog 28 k = k 1 := by unfold szW; rw [show Tryd.prog.info? 28 = some Tryd.t28 from Tryd.type28]; rfl
theorem y_ty32 (k : TY → Prop) : tyW Tryd.prog 32 k = k (.struct [(0, 24), (2, 28)]) := by unfold tyW tyOf; rw [Tryd.underlying32] <;> rfl
theorem y_fl32x0 (k : Nat → TypeId → Prop) : fldW Tryd.prog 32 0 k = k 0 24 := by unfold fldW tyOf; rw [Tryd.underlying32] <;> rfl
theorem y_fl32x1 (k : Nat → TypeId → Prop) : fldW Tryd.prog 32 1 k = k 2 28 := by unfold fldW tyOf; rw [Tryd.underlying32] <;> rfl
theorem y_sz32 (k : Nat → Prop) : szW Tryd.prog 32 k = k 3 := by unfold szW; rw [show Tryd.prog.info? 32 = some Tryd.t32 from Tryd.type32]; rfl
theorem y_zr32 (k : List D → Prop) : zeroW Tryd.prog 32 k = k [.int .i64 0, .nils, .int .i64 0] := by unfold zeroW; rw [show Tryd.prog.info? 32 = some Tryd.t32 from Tryd.type32]; exact zero_is (i := Tryd.t32) rfl (by decide +kernel) (by rfl)
theorem y_ty37 (k : TY → Prop) : tyW Tryd.prog 37 k = k (.struct [(0, 3), (1, 28)]) := by unfold tyW tyOf; rw [Tryd.underlying37] <;> rfl
theorem y_fl37x0 (k : Nat → TypeId → Prop) : fldW Tryd.prog 37 0 k = k 0 3 := by unfold fldW tyOf; rw [Tryd.underlying37] <;> rfl
theorem y_fl37x1 (k : Nat → TypeId → Prop) : fldW Tryd.prog 37 1 k = k 1 28 := by unfold fldW tyOf; rw [Tryd.underlying37] <;> rfl
theorem y_sz37 (k : Nat → Prop) : szW Tryd.prog 37 k = k 2 := by unfold szW; rw [show Tryd.prog.info? 37 = some Tryd.t37 from Tryd.type37]; rfl
theorem y_zr37 (k : List D → Prop) : zeroW Tryd.prog 37 k = k [.int .i64 0, .int .i64 0] := by unfold zeroW; rw [show Tryd.prog.info? 37 = some Tryd.t37 from Tryd.type37]; exact zero_is (i := Tryd.t37) rfl (by decide +kernel) (by rfl)
theorem y_ty40 (k : TY → Prop) : tyW Tryd.prog 40 k = k (.arr 16 5) := by unfold tyW tyOf; rw [Tryd.underlying40] <;> rfl
theorem y_sz40 (k : Nat → Prop) : szW Tryd.prog 40 k = k 16 := by unfold szW; rw [show Tryd.prog.info? 40 = some Tryd.t40 from Tryd.type40]; rfl
theorem y_zr40 (k : List D → Prop) : zeroW Tryd.prog 40 k = k [.int .u8 0, .int .u8 0, .int .u8 0, .int .u8 0, .int .u8 0, .int .u8 0, .int .u8 0, .int .u8 0, .int .u8 0, .int .u8 0, .int .u8 0, .int .u8 0, .int .u8 0, .int .u8 0, .int .u8 0, .int .u8 0] := by unfold zeroW; rw [show Tryd.prog.info? 40 = some Tryd.t40 from Tryd.type40]; exact zero_is (i := Tryd.t40) rfl (by decide +kernel) (by rfl)
theorem y_fk40 (k : List K → Prop) : flkW Tryd.prog 40 k = k (List.replicate 16 (.int .u8)) := by unfold flkW; rw [show flatK Tryd.prog 8 40 = some (List.replicate 16 (.int .u8)) from rfl]; exact flk_is (by decide +kernel) Tryd.eqGuardType40 (by decide +kernel) ⟨default, .inr ⟨_, _, Tryd.underlying40⟩⟩
theorem y_ty44 (k : TY → Prop) : tyW Tryd.prog 44 k = k (.struct [(0, 40), (16, 28)]) := by unfold tyW tyOf; rw [Tryd.underlying44] <;> rfl
theorem y_fl44x0 (k : Nat → TypeId → Prop) : fldW Tryd.prog 44 0 k = k 0 40 := by unfold fldW tyOf; rw [Tryd.underlying44] <;> rfl
theorem y_fl44x1 (k : Nat → TypeId → Prop) : fldW Tryd.prog 44 1 k = k 16 28 := by unfold fldW tyOf; rw [Tryd.underlying44] <;> rfl
theorem y_sz44 (k : Nat → Prop) : szW Tryd.prog 44 k = k 17 := by unfold szW; rw [show Tryd.prog.info? 44 = some Tryd.t44 from Tryd.type44]; rfl
theorem y_zr44 (k : List D → Prop) : zeroW Tryd.prog 44 k = k [.int .u8 0, .int .u8 0, .int .u8 0, .int .u8 0, .int .u8 0, .int .u8 0, .int .u8 0, .int .u8 0, .int .u8 0, .int .u8 0, .int .u8 0, .int .u8 0, .int .u8 0, .int .u8 0, .int .u8 0, .int .u8 0, .int .i64 0] := by unfold zeroW; rw [show Tryd.prog.info? 44 = some Tryd.t44 from Tryd.type44]; exact zero_is (i := Tryd.t44) rfl (by decide +kernel) (by rfl)
theorem y_ty49 (k : TY → Prop) : tyW Tryd.prog 49 k = k (.arr 4 3) := by unfold tyW tyOf; rw [Tryd.underlying49] <;> rfl
theorem y_ty54 (k : TY → Prop) : tyW Tryd.prog 54 k = k (.slice 3) := by unfold tyW tyOf; rw [Tryd.underlying54] <;> rfl
theorem y_sz54 (k : Nat → Prop) : szW Tryd.prog 54 k = k 1 := by unfold szW; rw [show Tryd.prog.info? 54 = some Tryd.t54 from Tryd.type54]; rfl
theorem y_ty56 (k : TY → Prop) : tyW Tryd.prog 56 k = k (.struct [(0, 3), (1, 54), (2, 3)]) := by unfold tyW tyOf; rw [Tryd.underlying56] <;> rfl
theorem y_fl56x0 (k : Nat → TypeId → Prop) : fldW Tryd.prog 56 0 k = k 0 3 := by unfold fldW tyOf; rw [Tryd.underlying56] <;> rfl
theorem y_fl56x1 (k : Nat → TypeId → Prop) : fldW Tryd.prog 56 1 k = k 1 54 := by unfold fldW tyOf; rw [Tryd.underlying56] <;> rfl
theorem y_fl56x2 (k : Nat → TypeId → Prop) : fldW Tryd.prog 56 2 k = k 2 3 := by unfold fldW tyOf; rw [Tryd.underlying56] <;> rfl
theorem y_sz56 (k : Nat → Prop) : szW Tryd.prog 56 k = k 3 := by unfold szW; rw [show Tryd.prog.info? 56 = some Tryd.t56 from Tryd.type56]; rfl
theorem y_zr56 (k : List D → Prop) : zeroW Tryd.prog 56 k = k [.int .i64 0, .nils, .int .i64 0] := by unfold zeroW; rw [show Tryd.prog.info? 56 = some Tryd.t56 from Tryd.type56]; exact zero_is (i := Tryd.t56) rfl (by decide +kernel) (by rfl)
theorem y_ty60 (k : TY → Prop) : tyW Tryd.prog 60 k = k (.struct [(0, 56), (3, 28)]) := by unfold tyW tyOf; rw [Tryd.underlying60] <;> rfl
theorem y_fl60x0 (k : Nat → TypeId → Prop) : fldW Tryd.prog 60 0 k = k 0 56 := by unfold fldW tyOf; rw [Tryd.underlying60] <;> rfl
theorem y_fl60x1 (k : Nat → TypeId → Prop) : fldW Tryd.prog 60 1 k = k 3 28 := by unfold fldW tyOf; rw [Tryd.underlying60] <;> rfl
theorem y_sz60 (k : Nat → Prop) : szW Tryd.prog 60 k = k 4 := by unfold szW; rw [show Tryd.prog.info? 60 = some Tryd.t60 from Tryd.type60]; rfl
theorem y_zr60 (k : List D → Prop) : zeroW Tryd.prog 60 k = k [.int .i64 0, .nils, .int .i64 0, .int .i64 0] := by unfold zeroW; rw [show Tryd.prog.info? 60 = some Tryd.t60 from Tryd.type60]; exact zero_is (i := Tryd.t60) rfl (by decide +kernel) (by rfl)
theorem y_ty65 (k : TY → Prop) : tyW Tryd.prog 65 k = k (.struct [(0, 54), (1, 28)]) := by unfold tyW tyOf; rw [Tryd.underlying65] <;> rfl
theorem y_fl65x0 (k : Nat → TypeId → Prop) : fldW Tryd.prog 65 0 k = k 0 54 := by unfold fldW tyOf; rw [Tryd.underlying65] <;> rfl
theorem y_fl65x1 (k : Nat → TypeId → Prop) : fldW Tryd.prog 65 1 k = k 1 28 := by unfold fldW tyOf; rw [Tryd.underlying65] <;> rfl
theorem y_sz65 (k : Nat → Prop) : szW Tryd.prog 65 k = k 2 := by unfold szW; rw [show Tryd.prog.info? 65 = some Tryd.t65 from Tryd.type65]; rfl
theorem y_zr65 (k : List D → Prop) : zeroW Tryd.prog 65 k = k [.nils, .int .i64 0] := by unfold zeroW; rw [show Tryd.prog.info? 65 = some Tryd.t65 from Tryd.type65]; exact zero_is (i := Tryd.t65) rfl (by decide +kernel) (by rfl)
theorem y_ty69 (k : TY → Prop) : tyW Tryd.prog 69 k = k (.arr 2 5) := by unfold tyW tyOf; rw [Tryd.underlying69] <;> rfl
theorem y_ty71 (k : TY → Prop) : tyW Tryd.prog 71 k = k (.arr 3 3) := by unfold tyW tyOf; rw [Tryd.underlying71] <;> rfl
theorem y_ty78 (k : TY → Prop) : tyW Tryd.prog 78 k = k (.slice 5) := by unfold tyW tyOf; rw [Tryd.underlying78] <;> rfl
theorem y_ty82 (k : TY → Prop) : tyW Tryd.prog 82 k = k (.slice 9) := by unfold tyW tyOf; rw [Tryd.underlying82] <;> rfl
theorem y_ty93 (k : TY → Prop) : tyW Tryd.prog 93 k = k (.arr 8 3) := by unfold tyW tyOf; rw [Tryd.underlying93] <;> rfl
theorem y_zr93 (k : List D → Prop) : zeroW Tryd.prog 93 k = k [.int .i64 0, .int .i64 0, .int .i64 0, .int .i64 0, .int .i64 0, .int .i64 0, .int .i64 0, .int .i64 0] := by unfold zeroW; rw [show Tryd.prog.info? 93 = some Tryd.t93 from Tryd.type93]; exact zero_is (i := Tryd.t93) rfl (by decide +kernel) (by rfl)
theorem y_ty94 (k : TY → Prop) : tyW Tryd.prog 94 k = k (.int .u32) := by unfold tyW tyOf; rw [Tryd.underlying94] <;> rfl
theorem y_sz94 (k : Nat → Prop) : szW Tryd.prog 94 k = k 1 := by unfold szW; rw [show Tryd.prog.info? 94 = some Tryd.t94 from Tryd.type94]; rfl
theorem y_ty95 (k : TY → Prop) : tyW Tryd.prog 95 k = k (.arr 8 94) := by unfold tyW tyOf; rw [Tryd.underlying95] <;> rfl
theorem y_sz95 (k : Nat → Prop) : szW Tryd.prog 95 k = k 8 := by unfold szW; rw [show Tryd.prog.info? 95 = some Tryd.t95 from Tryd.type95]; rfl
theorem y_zr95 (k : List D → Prop) : zeroW Tryd.prog 95 k = k [.int .u32 0, .int .u32 0, .int .u32 0, .int .u32 0, .int .u32 0, .int .u32 0, .int .u32 0, .int .u32 0] := by unfold zeroW; rw [show Tryd.prog.info? 95 = some Tryd.t95 from Tryd.type95]; exact zero_is (i := Tryd.t95) rfl (by decide +kernel) (by rfl)
theorem y_ty96 (k : TY → Prop) : tyW Tryd.prog 96 k = k (.arr 64 5) := by unfold tyW tyOf; rw [Tryd.underlying96] <;> rfl
theorem y_sz96 (k : Nat → Prop) : szW Tryd.prog 96 k = k 64 := by unfold szW; rw [show Tryd.prog.info? 96 = some Tryd.t96 from Tryd.type96]; rfl
theorem y_ty97 (k : TY → Prop) : tyW Tryd.prog 97 k = k (.int .u64) := by unfold tyW tyOf; rw [Tryd.underlying97] <;> rfl
theorem y_sz97 (k : Nat → Prop) : szW Tryd.prog 97 k = k 1 := by unfold szW; rw [show Tryd.prog.info? 97 = some Tryd.t97 from Tryd.type97]; rfl
theorem y_ty99 (k : TY → Prop) : tyW Tryd.prog 99 k = k (.struct [(0, 95), (8, 96), (72, 97)]) := by unfold tyW tyOf; rw [Tryd.underlying99] <;> rfl
theorem y_fl99x0 (k : Nat → TypeId → Prop) : fldW Tryd.prog 99 0 k = k 0 95 := by unfold fldW tyOf; rw [Tryd.underlying99] <;> rfl
theorem y_fl99x1 (k : Nat → TypeId → Prop) : fldW Tryd.prog 99 1 k = k 8 96 := by unfold fldW tyOf; rw [Tryd.underlying99] <;> rfl
theorem y_fl99x2 (k : Nat → TypeId → Prop) : fldW Tryd.prog 99 2 k = k 72 97 := by unfold fldW tyOf; rw [Tryd.underlying99] <;> rfl
theorem y_sz99 (k : Nat → Prop) : szW Tryd.prog 99 k = k 73 := by unfold szW; rw [show Tryd.prog.info? 99 = some Tryd.t99 from Tryd.type99]; rfl
theorem y_zr99 (k : List D → Prop) : zeroW Tryd.prog 99 k = k [.int .u32 0, .int .u32 0, .int .u32 0, .int .u32 0, .int .u32 0, .int .u32 0, .int .u32 0, .int .u32 0, .int .u8 0, .int .u8 0, .int .u8 0, .int .u8 0, .int .u8 0, .int .u8 0, .int .u8 0, .int .u8 0, .int .u8 0, .int .u8 0, .int .u8 0, .int .u8 0, .int .u8 0, .int .u8 0, .int .u8 0, .int .u8 0, .int .u8 0, .int .u8 0, .int .u8 0, .int .u8 0, .int .u8 0, .int .u8 0, .int .u8 0, .int .u8 0, .int .u8 0, .int .u8 0, .int .u8 0, .int .u8 0, .int .u8 0, .int .u8 0, .int .u8 0, .int .u8 0, .int .u8 0, .int .u8 0, .int .u8 0, .int .u8 0, .int .u8 0, .int .u8 0, .int .u8 0, .int .u8 0, .int .u8 0, .int .u8 0, .int .u8 0, .int .u8 0, .int .u8 0, .int .u8 0, .int .u8 0, .int .u8 0, .int .u8 0, .int .u8 0, .int .u8 0, .int .u8 0, .int .u8 0, .int .u8 0, .int .u8 0, .int .u8 0, .int .u8 0, .int .u8 0, .int .u8 0, .int .u8 0, .int .u8 0, .int .u8 0, .int .u8 0, .int .u8 0, .int .u64 0] := by unfold zeroW; rw [show Tryd.prog.info? 99 = some Tryd.t99 from Tryd.type99]; exact zero_is (i := Tryd.t99) rfl (by decide +kernel) (by rfl)
theorem y_ty103 (k : TY → Prop) : tyW Tryd.prog 103 k = k (.arr 32 5) := by unfold tyW tyOf; rw [Tryd.underlying103] <;> rfl
theorem y_sz103 (k : Nat → Prop) : szW Tryd.prog 103 k = k 32 := by unfold szW; rw [show Tryd.prog.info? 103 = some Tryd.t103 from Tryd.type103]; rfl
theorem y_zr103 (k : List D → Prop) : zeroW Tryd.prog 103 k = k [.int .u8 0, .int .u8 0, .int .u8 0, .int .u8 0, .int .u8 0, .int .u8 0, .int .u8 0, .int .u8 0, .int .u8 0, .int .u8 0, .int .u8 0, .int .u8 0, .int .u8 0, .int .u8 0, .int .u8 0, .int .u8 0, .int .u8 0, .int .u8 0, .int .u8 0, .int .u8 0, .int .u8 0, .int .u8 0, .int .u8 0, .int .u8 0, .int .u8 0, .int .u8 0, .int .u8 0, .int .u8 0, .int .u8 0, .int .u8 0, .int .u8 0, .int .u8 0] := by unfold zeroW; rw [show Tryd.prog.info? 103 = some Tryd.t103 from Tryd.type103]; exact zero_is (i := Tryd.t103) rfl (by decide +kernel) (by rfl)
theorem y_ty105 (k : TY → Prop) : tyW Tryd.prog 105 k = k (.int .u64) := by unfold tyW tyOf; rw [Tryd.underlying105] <;> rfl
theorem y_ty112 (k : TY → Prop) : tyW Tryd.prog 112 k = k (.arr 64 94) := by unfold tyW tyOf; rw [Tryd.underlying112] <;> rfl
theorem y_sz112 (k : Nat → Prop) : szW Tryd.prog 112 k = k 64 := by unfold szW; rw [show Tryd.prog.info? 112 = some Tryd.t112 from Tryd.type112]; rfl
theorem y_zr112 (k : List D → Prop) : zeroW Tryd.prog 112 k = k [.int .u32 0, .int .u32 0, .int .u32 0, .int .u32 0, .int .u32 0, .int .u32 0, .int .u32 0, .int .u32 0, .int .u32 0, .int .u32 0, .int .u32 0, .int .u32 0, .int .u32 0, .int .u32 0, .int .u32 0, .int .u32 0, .int .u32 0, .int .u32 0, .int .u32 0, .int .u32 0, .int .u32 0, .int .u32 0, .int .u32 0, .int .u32 0, .int .u32 0, .int .u32 0, .int .u32 0, .int .u32 0, .int .u32 0, .int .u32 0, .int .u32 0, .int .u32 0, .int .u32 0, .int .u32 0, .int .u32 0, .int .u32 0, .int .u32 0, .int .u32 0, .int .u32 0, .int .u32 0, .int .u32 0, .int .u32 0, .int .u32 0, .int .u32 0, .int .u32 0, .int .u32 0, .int .u32 0, .int .u32 0, .int .u32 0, .int .u32 0, .int .u32 0, .int .u32 0, .int .u32 0, .int .u32 0, .int .u32 0, .int .u32 0, .int .u32 0, .int .u32 0, .int .u32 0, .int .u32 0, .int .u32 0, .int .u32 0, .int .u32 0, .int .u32 0] := by unfold zeroW; rw [show Tryd.prog.info? 112 = some Tryd.t112 from Tryd.type112]; exact zero_is (i := Tryd.t112) rfl (by decide +kernel) (by rfl)
theorem y_ty114 (k : TY → Prop) : tyW Tryd.prog 114 k = k (.arr 4 94) := by unfold tyW tyOf; rw [Tryd.underlying114] <;> rfl
theorem y_sz114 (k : Nat → Prop) : szW Tryd.prog 114 k = k 4 := by unfold szW; rw [show Tryd.prog.info? 114 = some Tryd.t114 from Tryd.type114]; rfl
theorem y_zr114 (k : List D → Prop) : zeroW Tryd.prog 114 k = k [.int .u32 0, .int .u32 0, .int .u32 0, .int .u32 0] := by unfold zeroW; rw [show Tryd.prog.info? 114 = some Tryd.t114 from Tryd.type114]; exact zero_is (i := Tryd.t114) rfl (by decide +kernel) (by rfl)
end Go.Abs
