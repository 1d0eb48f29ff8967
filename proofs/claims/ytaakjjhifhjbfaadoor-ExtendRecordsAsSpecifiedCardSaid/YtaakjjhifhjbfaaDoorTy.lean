/-
  The types of the seat's program, as the walk reads them. Printed.
-/
import Derived.Test.YtaakjjhifhjbfaaDoorProg
import Derived.Test.YtaakjjhifhjbfaaDoorAbs28
namespace Go.Abs
set_option maxRecDepth 100000
open Go.Proofs
theorem y_mix : (Tryd.prog.follows .mixedOrders = true) = True := eq_true (by decide +kernel)
theorem y_ty3 (k : TY → Prop) : tyW Tryd.prog 3 k = k (.int .i64) := by unfold tyW tyOf; rw [Tryd.underlying3] <;> rfl
theorem y_sz3 (k : Nat → Prop) : szW Tryd.prog 3 k = k 1 := by unfold szW; rw [show Tryd.prog.info? 3 = some Tryd.t3 from Tryd.type3]; rfl
theorem y_by3 (k : Nat → Prop) : byW Tryd.prog 3 k = k 8 := by unfold byW; rw [show Tryd.prog.info? 3 = some Tryd.t3 from Tryd.type3]; rfl
theorem y_zr3 (k : List D → Prop) : zeroW Tryd.prog 3 k = k [.int .i64 0] := by unfold zeroW; rw [show Tryd.prog.info? 3 = some Tryd.t3 from Tryd.type3]; exact zero_is (i := Tryd.t3) rfl (by decide +kernel) (by rfl)
theorem y_ty4 (k : TY → Prop) : tyW Tryd.prog 4 k = k (.bool) := by unfold tyW tyOf; rw [Tryd.underlying4] <;> rfl
theorem y_sz4 (k : Nat → Prop) : szW Tryd.prog 4 k = k 1 := by unfold szW; rw [show Tryd.prog.info? 4 = some Tryd.t4 from Tryd.type4]; rfl
theorem y_ty5 (k : TY → Prop) : tyW Tryd.prog 5 k = k (.int .u8) := by unfold tyW tyOf; rw [Tryd.underlying5] <;> rfl
theorem y_sz5 (k : Nat → Prop) : szW Tryd.prog 5 k = k 1 := by unfold szW; rw [show Tryd.prog.info? 5 = some Tryd.t5 from Tryd.type5]; rfl
theorem y_by5 (k : Nat → Prop) : byW Tryd.prog 5 k = k 1 := by unfold byW; rw [show Tryd.prog.info? 5 = some Tryd.t5 from Tryd.type5]; rfl
theorem y_zr5 (k : List D → Prop) : zeroW Tryd.prog 5 k = k [.int .u8 0] := by unfold zeroW; rw [show Tryd.prog.info? 5 = some Tryd.t5 from Tryd.type5]; exact zero_is (i := Tryd.t5) rfl (by decide +kernel) (by rfl)
theorem y_ty9 (k : TY → Prop) : tyW Tryd.prog 9 k = k (.str) := by unfold tyW tyOf; rw [Tryd.underlying9] <;> rfl
theorem y_sz9 (k : Nat → Prop) : szW Tryd.prog 9 k = k 1 := by unfold szW; rw [show Tryd.prog.info? 9 = some Tryd.t9 from Tryd.type9]; rfl
theorem y_by9 (k : Nat → Prop) : byW Tryd.prog 9 k = k 16 := by unfold byW; rw [show Tryd.prog.info? 9 = some Tryd.t9 from Tryd.type9]; rfl
theorem y_zr9 (k : List D → Prop) : zeroW Tryd.prog 9 k = k [.str []] := by unfold zeroW; rw [show Tryd.prog.info? 9 = some Tryd.t9 from Tryd.type9]; exact zero_is (i := Tryd.t9) rfl (by decide +kernel) (by rfl)
theorem y_ty22 (k : TY → Prop) : tyW Tryd.prog 22 k = k (.slice 3) := by unfold tyW tyOf; rw [Tryd.underlying22] <;> rfl
theorem y_sz22 (k : Nat → Prop) : szW Tryd.prog 22 k = k 1 := by unfold szW; rw [show Tryd.prog.info? 22 = some Tryd.t22 from Tryd.type22]; rfl
theorem y_ty23 (k : TY → Prop) : tyW Tryd.prog 23 k = k (.slice 9) := by unfold tyW tyOf; rw [Tryd.underlying23] <;> rfl
theorem y_sz23 (k : Nat → Prop) : szW Tryd.prog 23 k = k 1 := by unfold szW; rw [show Tryd.prog.info? 23 = some Tryd.t23 from Tryd.type23]; rfl
theorem y_ty25 (k : TY → Prop) : tyW Tryd.prog 25 k = k (.struct [(0, 22), (1, 23), (2, 3), (3, 3)]) := by unfold tyW tyOf; rw [Tryd.underlying25] <;> rfl
theorem y_fl25x0 (k : Nat → TypeId → Prop) : fldW Tryd.prog 25 0 k = k 0 22 := by unfold fldW tyOf; rw [Tryd.underlying25] <;> rfl
theorem y_fl25x1 (k : Nat → TypeId → Prop) : fldW Tryd.prog 25 1 k = k 1 23 := by unfold fldW tyOf; rw [Tryd.underlying25] <;> rfl
theorem y_fl25x2 (k : Nat → TypeId → Prop) : fldW Tryd.prog 25 2 k = k 2 3 := by unfold fldW tyOf; rw [Tryd.underlying25] <;> rfl
theorem y_fl25x3 (k : Nat → TypeId → Prop) : fldW Tryd.prog 25 3 k = k 3 3 := by unfold fldW tyOf; rw [Tryd.underlying25] <;> rfl
theorem y_sz25 (k : Nat → Prop) : szW Tryd.prog 25 k = k 4 := by unfold szW; rw [show Tryd.prog.info? 25 = some Tryd.t25 from Tryd.type25]; rfl
theorem y_zr25 (k : List D → Prop) : zeroW Tryd.prog 25 k = k [.nils, .nils, .int .i64 0, .int .i64 0] := by unfold zeroW; rw [show Tryd.prog.info? 25 = some Tryd.t25 from Tryd.type25]; exact zero_is (i := Tryd.t25) rfl (by decide +kernel) (by rfl)
theorem y_ty26 (k : TY → Prop) : tyW Tryd.prog 26 k = k (.slice 4) := by unfold tyW tyOf; rw [Tryd.underlying26] <;> rfl
theorem y_ty27 (k : TY → Prop) : tyW Tryd.prog 27 k = k (.slice 5) := by unfold tyW tyOf; rw [Tryd.underlying27] <;> rfl
theorem y_ty30 (k : TY → Prop) : tyW Tryd.prog 30 k = k (.int .i64) := by unfold tyW tyOf; rw [Tryd.underlying30] <;> rfl
theorem y_sz30 (k : Nat → Prop) : szW Tryd.prog 30 k = k 1 := by unfold szW; rw [show Tryd.prog.info? 30 = some Tryd.t30 from Tryd.type30]; rfl
theorem y_ty32 (k : TY → Prop) : tyW Tryd.prog 32 k = k (.slice 41) := by unfold tyW tyOf; rw [Tryd.underlying32] <;> rfl
theorem y_sz32 (k : Nat → Prop) : szW Tryd.prog 32 k = k 1 := by unfold szW; rw [show Tryd.prog.info? 32 = some Tryd.t32 from Tryd.type32]; rfl
theorem y_ty34 (k : TY → Prop) : tyW Tryd.prog 34 k = k (.struct [(0, 3), (1, 3), (2, 3), (3, 3), (4, 32)]) := by unfold tyW tyOf; rw [Tryd.underlying34] <;> rfl
theorem y_fl34x0 (k : Nat → TypeId → Prop) : fldW Tryd.prog 34 0 k = k 0 3 := by unfold fldW tyOf; rw [Tryd.underlying34] <;> rfl
theorem y_fl34x1 (k : Nat → TypeId → Prop) : fldW Tryd.prog 34 1 k = k 1 3 := by unfold fldW tyOf; rw [Tryd.underlying34] <;> rfl
theorem y_fl34x2 (k : Nat → TypeId → Prop) : fldW Tryd.prog 34 2 k = k 2 3 := by unfold fldW tyOf; rw [Tryd.underlying34] <;> rfl
theorem y_fl34x3 (k : Nat → TypeId → Prop) : fldW Tryd.prog 34 3 k = k 3 3 := by unfold fldW tyOf; rw [Tryd.underlying34] <;> rfl
theorem y_fl34x4 (k : Nat → TypeId → Prop) : fldW Tryd.prog 34 4 k = k 4 32 := by unfold fldW tyOf; rw [Tryd.underlying34] <;> rfl
theorem y_sz34 (k : Nat → Prop) : szW Tryd.prog 34 k = k 5 := by unfold szW; rw [show Tryd.prog.info? 34 = some Tryd.t34 from Tryd.type34]; rfl
theorem y_zr34 (k : List D → Prop) : zeroW Tryd.prog 34 k = k [.int .i64 0, .int .i64 0, .int .i64 0, .int .i64 0, .nils] := by unfold zeroW; rw [show Tryd.prog.info? 34 = some Tryd.t34 from Tryd.type34]; exact zero_is (i := Tryd.t34) rfl (by decide +kernel) (by rfl)
theorem y_ty39 (k : TY → Prop) : tyW Tryd.prog 39 k = k (.arr 16 5) := by unfold tyW tyOf; rw [Tryd.underlying39] <;> rfl
theorem y_sz39 (k : Nat → Prop) : szW Tryd.prog 39 k = k 16 := by unfold szW; rw [show Tryd.prog.info? 39 = some Tryd.t39 from Tryd.type39]; rfl
theorem y_zr39 (k : List D → Prop) : zeroW Tryd.prog 39 k = k [.int .u8 0, .int .u8 0, .int .u8 0, .int .u8 0, .int .u8 0, .int .u8 0, .int .u8 0, .int .u8 0, .int .u8 0, .int .u8 0, .int .u8 0, .int .u8 0, .int .u8 0, .int .u8 0, .int .u8 0, .int .u8 0] := by unfold zeroW; rw [show Tryd.prog.info? 39 = some Tryd.t39 from Tryd.type39]; exact zero_is (i := Tryd.t39) rfl (by decide +kernel) (by rfl)
theorem y_fk39 (k : List K → Prop) : flkW Tryd.prog 39 k = k (List.replicate 16 (.int .u8)) := by unfold flkW; rw [show flatK Tryd.prog 8 39 = some (List.replicate 16 (.int .u8)) from rfl]; exact flk_is (by decide +kernel) Tryd.eqGuardType39 (by decide +kernel) ⟨default, .inr ⟨_, _, Tryd.underlying39⟩⟩
theorem y_ty41 (k : TY → Prop) : tyW Tryd.prog 41 k = k (.struct [(0, 3), (1, 3), (2, 4), (3, 39)]) := by unfold tyW tyOf; rw [Tryd.underlying41] <;> rfl
theorem y_fl41x0 (k : Nat → TypeId → Prop) : fldW Tryd.prog 41 0 k = k 0 3 := by unfold fldW tyOf; rw [Tryd.underlying41] <;> rfl
theorem y_fl41x1 (k : Nat → TypeId → Prop) : fldW Tryd.prog 41 1 k = k 1 3 := by unfold fldW tyOf; rw [Tryd.underlying41] <;> rfl
theorem y_fl41x2 (k : Nat → TypeId → Prop) : fldW Tryd.prog 41 2 k = k 2 4 := by unfold fldW tyOf; rw [Tryd.underlying41] <;> rfl
theorem y_fl41x3 (k : Nat → TypeId → Prop) : fldW Tryd.prog 41 3 k = k 3 39 := by unfold fldW tyOf; rw [Tryd.underlying41] <;> rfl
theorem y_sz41 (k : Nat → Prop) : szW Tryd.prog 41 k = k 19 := by unfold szW; rw [show Tryd.prog.info? 41 = some Tryd.t41 from Tryd.type41]; rfl
theorem y_by41 (k : Nat → Prop) : byW Tryd.prog 41 k = k 40 := by unfold byW; rw [show Tryd.prog.info? 41 = some Tryd.t41 from Tryd.type41]; rfl
theorem y_zr41 (k : List D → Prop) : zeroW Tryd.prog 41 k = k [.int .i64 0, .int .i64 0, .bool false, .int .u8 0, .int .u8 0, .int .u8 0, .int .u8 0, .int .u8 0, .int .u8 0, .int .u8 0, .int .u8 0, .int .u8 0, .int .u8 0, .int .u8 0, .int .u8 0, .int .u8 0, .int .u8 0, .int .u8 0, .int .u8 0] := by unfold zeroW; rw [show Tryd.prog.info? 41 = some Tryd.t41 from Tryd.type41]; exact zero_is (i := Tryd.t41) rfl (by decide +kernel) (by rfl)
theorem y_fk41 (k : List K → Prop) : flkW Tryd.prog 41 k = k [.int .i64, .int .i64, .bool, .int .u8, .int .u8, .int .u8, .int .u8, .int .u8, .int .u8, .int .u8, .int .u8, .int .u8, .int .u8, .int .u8, .int .u8, .int .u8, .int .u8, .int .u8, .int .u8] := by unfold flkW; rw [show flatK Tryd.prog 8 41 = some [.int .i64, .int .i64, .bool, .int .u8, .int .u8, .int .u8, .int .u8, .int .u8, .int .u8, .int .u8, .int .u8, .int .u8, .int .u8, .int .u8, .int .u8, .int .u8, .int .u8, .int .u8, .int .u8] from rfl]; exact flk_is (by decide +kernel) Tryd.eqGuardType41 (by decide +kernel) ⟨_, .inl Tryd.underlying41⟩
theorem y_ty48 (k : TY → Prop) : tyW Tryd.prog 48 k = k (.slice 50) := by unfold tyW tyOf; rw [Tryd.underlying48] <;> rfl
theorem y_ty49 (k : TY → Prop) : tyW Tryd.prog 49 k = k (.slice 53) := by unfold tyW tyOf; rw [Tryd.underlying49] <;> rfl
theorem y_ty50 (k : TY → Prop) : tyW Tryd.prog 50 k = k (.int .u16) := by unfold tyW tyOf; rw [Tryd.underlying50] <;> rfl
theorem y_sz50 (k : Nat → Prop) : szW Tryd.prog 50 k = k 1 := by unfold szW; rw [show Tryd.prog.info? 50 = some Tryd.t50 from Tryd.type50]; rfl
theorem y_ty53 (k : TY → Prop) : tyW Tryd.prog 53 k = k (.struct [(0, 34), (5, 3), (6, 39)]) := by unfold tyW tyOf; rw [Tryd.underlying53] <;> rfl
theorem y_fl53x0 (k : Nat → TypeId → Prop) : fldW Tryd.prog 53 0 k = k 0 34 := by unfold fldW tyOf; rw [Tryd.underlying53] <;> rfl
theorem y_fl53x1 (k : Nat → TypeId → Prop) : fldW Tryd.prog 53 1 k = k 5 3 := by unfold fldW tyOf; rw [Tryd.underlying53] <;> rfl
theorem y_fl53x2 (k : Nat → TypeId → Prop) : fldW Tryd.prog 53 2 k = k 6 39 := by unfold fldW tyOf; rw [Tryd.underlying53] <;> rfl
theorem y_sz53 (k : Nat → Prop) : szW Tryd.prog 53 k = k 22 := by unfold szW; rw [show Tryd.prog.info? 53 = some Tryd.t53 from Tryd.type53]; rfl
theorem y_by53 (k : Nat → Prop) : byW Tryd.prog 53 k = k 80 := by unfold byW; rw [show Tryd.prog.info? 53 = some Tryd.t53 from Tryd.type53]; rfl
theorem y_zr53 (k : List D → Prop) : zeroW Tryd.prog 53 k = k [.int .i64 0, .int .i64 0, .int .i64 0, .int .i64 0, .nils, .int .i64 0, .int .u8 0, .int .u8 0, .int .u8 0, .int .u8 0, .int .u8 0, .int .u8 0, .int .u8 0, .int .u8 0, .int .u8 0, .int .u8 0, .int .u8 0, .int .u8 0, .int .u8 0, .int .u8 0, .int .u8 0, .int .u8 0] := by unfold zeroW; rw [show Tryd.prog.info? 53 = some Tryd.t53 from Tryd.type53]; exact zero_is (i := Tryd.t53) rfl (by decide +kernel) (by rfl)
theorem y_ty56 (k : TY → Prop) : tyW Tryd.prog 56 k = k (.arr 4 3) := by unfold tyW tyOf; rw [Tryd.underlying56] <;> rfl
theorem y_ty59 (k : TY → Prop) : tyW Tryd.prog 59 k = k (.struct [(0, 34), (5, 30)]) := by unfold tyW tyOf; rw [Tryd.underlying59] <;> rfl
theorem y_fl59x0 (k : Nat → TypeId → Prop) : fldW Tryd.prog 59 0 k = k 0 34 := by unfold fldW tyOf; rw [Tryd.underlying59] <;> rfl
theorem y_fl59x1 (k : Nat → TypeId → Prop) : fldW Tryd.prog 59 1 k = k 5 30 := by unfold fldW tyOf; rw [Tryd.underlying59] <;> rfl
theorem y_sz59 (k : Nat → Prop) : szW Tryd.prog 59 k = k 6 := by unfold szW; rw [show Tryd.prog.info? 59 = some Tryd.t59 from Tryd.type59]; rfl
theorem y_zr59 (k : List D → Prop) : zeroW Tryd.prog 59 k = k [.int .i64 0, .int .i64 0, .int .i64 0, .int .i64 0, .nils, .int .i64 0] := by unfold zeroW; rw [show Tryd.prog.info? 59 = some Tryd.t59 from Tryd.type59]; exact zero_is (i := Tryd.t59) rfl (by decide +kernel) (by rfl)
theorem y_ty64 (k : TY → Prop) : tyW Tryd.prog 64 k = k (.struct [(0, 39), (16, 30)]) := by unfold tyW tyOf; rw [Tryd.underlying64] <;> rfl
theorem y_fl64x0 (k : Nat → TypeId → Prop) : fldW Tryd.prog 64 0 k = k 0 39 := by unfold fldW tyOf; rw [Tryd.underlying64] <;> rfl
theorem y_fl64x1 (k : Nat → TypeId → Prop) : fldW Tryd.prog 64 1 k = k 16 30 := by unfold fldW tyOf; rw [Tryd.underlying64] <;> rfl
theorem y_sz64 (k : Nat → Prop) : szW Tryd.prog 64 k = k 17 := by unfold szW; rw [show Tryd.prog.info? 64 = some Tryd.t64 from Tryd.type64]; rfl
theorem y_zr64 (k : List D → Prop) : zeroW Tryd.prog 64 k = k [.int .u8 0, .int .u8 0, .int .u8 0, .int .u8 0, .int .u8 0, .int .u8 0, .int .u8 0, .int .u8 0, .int .u8 0, .int .u8 0, .int .u8 0, .int .u8 0, .int .u8 0, .int .u8 0, .int .u8 0, .int .u8 0, .int .i64 0] := by unfold zeroW; rw [show Tryd.prog.info? 64 = some Tryd.t64 from Tryd.type64]; exact zero_is (i := Tryd.t64) rfl (by decide +kernel) (by rfl)
theorem y_ty68 (k : TY → Prop) : tyW Tryd.prog 68 k = k (.struct [(0, 3), (1, 30)]) := by unfold tyW tyOf; rw [Tryd.underlying68] <;> rfl
theorem y_fl68x0 (k : Nat → TypeId → Prop) : fldW Tryd.prog 68 0 k = k 0 3 := by unfold fldW tyOf; rw [Tryd.underlying68] <;> rfl
theorem y_fl68x1 (k : Nat → TypeId → Prop) : fldW Tryd.prog 68 1 k = k 1 30 := by unfold fldW tyOf; rw [Tryd.underlying68] <;> rfl
theorem y_sz68 (k : Nat → Prop) : szW Tryd.prog 68 k = k 2 := by unfold szW; rw [show Tryd.prog.info? 68 = some Tryd.t68 from Tryd.type68]; rfl
theorem y_zr68 (k : List D → Prop) : zeroW Tryd.prog 68 k = k [.int .i64 0, .int .i64 0] := by unfold zeroW; rw [show Tryd.prog.info? 68 = some Tryd.t68 from Tryd.type68]; exact zero_is (i := Tryd.t68) rfl (by decide +kernel) (by rfl)
theorem y_ty75 (k : TY → Prop) : tyW Tryd.prog 75 k = k (.slice 78) := by unfold tyW tyOf; rw [Tryd.underlying75] <;> rfl
theorem y_ty76 (k : TY → Prop) : tyW Tryd.prog 76 k = k (.arr 12 4) := by unfold tyW tyOf; rw [Tryd.underlying76] <;> rfl
theorem y_zr76 (k : List D → Prop) : zeroW Tryd.prog 76 k = k [.bool false, .bool false, .bool false, .bool false, .bool false, .bool false, .bool false, .bool false, .bool false, .bool false, .bool false, .bool false] := by unfold zeroW; rw [show Tryd.prog.info? 76 = some Tryd.t76 from Tryd.type76]; exact zero_is (i := Tryd.t76) rfl (by decide +kernel) (by rfl)
theorem y_fl78x0 (k : Nat → TypeId → Prop) : fldW Tryd.prog 78 0 k = k 0 3 := by unfold fldW tyOf; rw [Tryd.underlying78] <;> rfl
theorem y_fl78x1 (k : Nat → TypeId → Prop) : fldW Tryd.prog 78 1 k = k 1 5 := by unfold fldW tyOf; rw [Tryd.underlying78] <;> rfl
theorem y_fl78x2 (k : Nat → TypeId → Prop) : fldW Tryd.prog 78 2 k = k 2 4 := by unfold fldW tyOf; rw [Tryd.underlying78] <;> rfl
theorem y_fl78x3 (k : Nat → TypeId → Prop) : fldW Tryd.prog 78 3 k = k 3 5 := by unfold fldW tyOf; rw [Tryd.underlying78] <;> rfl
theorem y_sz78 (k : Nat → Prop) : szW Tryd.prog 78 k = k 4 := by unfold szW; rw [show Tryd.prog.info? 78 = some Tryd.t78 from Tryd.type78]; rfl
theorem y_ty98 (k : TY → Prop) : tyW Tryd.prog 98 k = k (.int .u32) := by unfold tyW tyOf; rw [Tryd.underlying98] <;> rfl
theorem y_sz98 (k : Nat → Prop) : szW Tryd.prog 98 k = k 1 := by unfold szW; rw [show Tryd.prog.info? 98 = some Tryd.t98 from Tryd.type98]; rfl
theorem y_ty99 (k : TY → Prop) : tyW Tryd.prog 99 k = k (.arr 8 98) := by unfold tyW tyOf; rw [Tryd.underlying99] <;> rfl
theorem y_sz99 (k : Nat → Prop) : szW Tryd.prog 99 k = k 8 := by unfold szW; rw [show Tryd.prog.info? 99 = some Tryd.t99 from Tryd.type99]; rfl
theorem y_zr99 (k : List D → Prop) : zeroW Tryd.prog 99 k = k [.int .u32 0, .int .u32 0, .int .u32 0, .int .u32 0, .int .u32 0, .int .u32 0, .int .u32 0, .int .u32 0] := by unfold zeroW; rw [show Tryd.prog.info? 99 = some Tryd.t99 from Tryd.type99]; exact zero_is (i := Tryd.t99) rfl (by decide +kernel) (by rfl)
theorem y_ty100 (k : TY → Prop) : tyW Tryd.prog 100 k = k (.arr 64 5) := by unfold tyW tyOf; rw [Tryd.underlying100] <;> rfl
theorem y_sz100 (k : Nat → Prop) : szW Tryd.prog 100 k = k 64 := by unfold szW; rw [show Tryd.prog.info? 100 = some Tryd.t100 from Tryd.type100]; rfl
theorem y_zr100 (k : List D → Prop) : zeroW Tryd.prog 100 k = k [.int .u8 0, .int .u8 0, .int .u8 0, .int .u8 0, .int .u8 0, .int .u8 0, .int .u8 0, .int .u8 0, .int .u8 0, .int .u8 0, .int .u8 0, .int .u8 0, .int .u8 0, .int .u8 0, .int .u8 0, .int .u8 0, .int .u8 0, .int .u8 0, .int .u8 0, .int .u8 0, .int .u8 0, .int .u8 0, .int .u8 0, .int .u8 0, .int .u8 0, .int .u8 0, .int .u8 0, .int .u8 0, .int .u8 0, .int .u8 0, .int .u8 0, .int .u8 0, .int .u8 0, .int .u8 0, .int .u8 0, .int .u8 0, .int .u8 0, .int .u8 0, .int .u8 0, .int .u8 0, .int .u8 0, .int .u8 0, .int .u8 0, .int .u8 0, .int .u8 0, .int .u8 0, .int .u8 0, .int .u8 0, .int .u8 0, .int .u8 0, .int .u8 0, .int .u8 0, .int .u8 0, .int .u8 0, .int .u8 0, .int .u8 0, .int .u8 0, .int .u8 0, .int .u8 0, .int .u8 0, .int .u8 0, .int .u8 0, .int .u8 0, .int .u8 0] := by unfold zeroW; rw [show Tryd.prog.info? 100 = some Tryd.t100 from Tryd.type100]; exact zero_is (i := Tryd.t100) rfl (by decide +kernel) (by rfl)
theorem y_ty101 (k : TY → Prop) : tyW Tryd.prog 101 k = k (.int .u64) := by unfold tyW tyOf; rw [Tryd.underlying101] <;> rfl
theorem y_sz101 (k : Nat → Prop) : szW Tryd.prog 101 k = k 1 := by unfold szW; rw [show Tryd.prog.info? 101 = some Tryd.t101 from Tryd.type101]; rfl
theorem y_ty103 (k : TY → Prop) : tyW Tryd.prog 103 k = k (.struct [(0, 99), (8, 100), (72, 101)]) := by unfold tyW tyOf; rw [Tryd.underlying103] <;> rfl
theorem y_fl103x0 (k : Nat → TypeId → Prop) : fldW Tryd.prog 103 0 k = k 0 99 := by unfold fldW tyOf; rw [Tryd.underlying103] <;> rfl
theorem y_fl103x1 (k : Nat → TypeId → Prop) : fldW Tryd.prog 103 1 k = k 8 100 := by unfold fldW tyOf; rw [Tryd.underlying103] <;> rfl
theorem y_fl103x2 (k : Nat → TypeId → Prop) : fldW Tryd.prog 103 2 k = k 72 101 := by unfold fldW tyOf; rw [Tryd.underlying103] <;> rfl
theorem y_sz103 (k : Nat → Prop) : szW Tryd.prog 103 k = k 73 := by unfold szW; rw [show Tryd.prog.info? 103 = some Tryd.t103 from Tryd.type103]; rfl
theorem y_zr103 (k : List D → Prop) : zeroW Tryd.prog 103 k = k [.int .u32 0, .int .u32 0, .int .u32 0, .int .u32 0, .int .u32 0, .int .u32 0, .int .u32 0, .int .u32 0, .int .u8 0, .int .u8 0, .int .u8 0, .int .u8 0, .int .u8 0, .int .u8 0, .int .u8 0, .int .u8 0, .int .u8 0, .int .u8 0, .int .u8 0, .int .u8 0, .int .u8 0, .int .u8 0, .int .u8 0, .int .u8 0, .int .u8 0, .int .u8 0, .int .u8 0, .int .u8 0, .int .u8 0, .int .u8 0, .int .u8 0, .int .u8 0, .int .u8 0, .int .u8 0, .int .u8 0, .int .u8 0, .int .u8 0, .int .u8 0, .int .u8 0, .int .u8 0, .int .u8 0, .int .u8 0, .int .u8 0, .int .u8 0, .int .u8 0, .int .u8 0, .int .u8 0, .int .u8 0, .int .u8 0, .int .u8 0, .int .u8 0, .int .u8 0, .int .u8 0, .int .u8 0, .int .u8 0, .int .u8 0, .int .u8 0, .int .u8 0, .int .u8 0, .int .u8 0, .int .u8 0, .int .u8 0, .int .u8 0, .int .u8 0, .int .u8 0, .int .u8 0, .int .u8 0, .int .u8 0, .int .u8 0, .int .u8 0, .int .u8 0, .int .u8 0, .int .u64 0] := by unfold zeroW; rw [show Tryd.prog.info? 103 = some Tryd.t103 from Tryd.type103]; exact zero_is (i := Tryd.t103) rfl (by decide +kernel) (by rfl)
theorem y_ty107 (k : TY → Prop) : tyW Tryd.prog 107 k = k (.arr 32 5) := by unfold tyW tyOf; rw [Tryd.underlying107] <;> rfl
theorem y_sz107 (k : Nat → Prop) : szW Tryd.prog 107 k = k 32 := by unfold szW; rw [show Tryd.prog.info? 107 = some Tryd.t107 from Tryd.type107]; rfl
theorem y_zr107 (k : List D → Prop) : zeroW Tryd.prog 107 k = k [.int .u8 0, .int .u8 0, .int .u8 0, .int .u8 0, .int .u8 0, .int .u8 0, .int .u8 0, .int .u8 0, .int .u8 0, .int .u8 0, .int .u8 0, .int .u8 0, .int .u8 0, .int .u8 0, .int .u8 0, .int .u8 0, .int .u8 0, .int .u8 0, .int .u8 0, .int .u8 0, .int .u8 0, .int .u8 0, .int .u8 0, .int .u8 0, .int .u8 0, .int .u8 0, .int .u8 0, .int .u8 0, .int .u8 0, .int .u8 0, .int .u8 0, .int .u8 0] := by unfold zeroW; rw [show Tryd.prog.info? 107 = some Tryd.t107 from Tryd.type107]; exact zero_is (i := Tryd.t107) rfl (by decide +kernel) (by rfl)
theorem y_ty116 (k : TY → Prop) : tyW Tryd.prog 116 k = k (.int .u64) := by unfold tyW tyOf; rw [Tryd.underlying116] <;> rfl
theorem y_ty121 (k : TY → Prop) : tyW Tryd.prog 121 k = k (.arr 64 98) := by unfold tyW tyOf; rw [Tryd.underlying121] <;> rfl
theorem y_sz121 (k : Nat → Prop) : szW Tryd.prog 121 k = k 64 := by unfold szW; rw [show Tryd.prog.info? 121 = some Tryd.t121 from Tryd.type121]; rfl
theorem y_zr121 (k : List D → Prop) : zeroW Tryd.prog 121 k = k [.int .u32 0, .int .u32 0, .int .u32 0, .int .u32 0, .int .u32 0, .int .u32 0, .int .u32 0, .int .u32 0, .int .u32 0, .int .u32 0, .int .u32 0, .int .u32 0, .int .u32 0, .int .u32 0, .int .u32 0, .int .u32 0, .int .u32 0, .int .u32 0, .int .u32 0, .int .u32 0, .int .u32 0, .int .u32 0, .int .u32 0, .int .u32 0, .int .u32 0, .int .u32 0, .int .u32 0, .int .u32 0, .int .u32 0, .int .u32 0, .int .u32 0, .int .u32 0, .int .u32 0, .int .u32 0, .int .u32 0, .int .u32 0, .int .u32 0, .int .u32 0, .int .u32 0, .int .u32 0, .int .u32 0, .int .u32 0, .int .u32 0, .int .u32 0, .int .u32 0, .int .u32 0, .int .u32 0, .int .u32 0, .int .u32 0, .int .u32 0, .int .u32 0, .int .u32 0, .int .u32 0, .int .u32 0, .int .u32 0, .int .u32 0, .int .u32 0, .int .u32 0, .int .u32 0, .int .u32 0, .int .u32 0, .int .u32 0, .int .u32 0, .int .u32 0] := by unfold zeroW; rw [show Tryd.prog.info? 121 = some Tryd.t121 from Tryd.type121]; exact zero_is (i := Tryd.t121) rfl (by decide +kernel) (by rfl)
theorem y_ty123 (k : TY → Prop) : tyW Tryd.prog 123 k = k (.arr 4 98) := by unfold tyW tyOf; rw [Tryd.underlying123] <;> rfl
theorem y_sz123 (k : Nat → Prop) : szW Tryd.prog 123 k = k 4 := by unfold szW; rw [show Tryd.prog.info? 123 = some Tryd.t123 from Tryd.type123]; rfl
theorem y_zr123 (k : List D → Prop) : zeroW Tryd.prog 123 k = k [.int .u32 0, .int .u32 0, .int .u32 0, .int .u32 0] := by unfold zeroW; rw [show Tryd.prog.info? 123 = some Tryd.t123 from Tryd.type123]; exact zero_is (i := Tryd.t123) rfl (by decide +kernel) (by rfl)
end Go.Abs
