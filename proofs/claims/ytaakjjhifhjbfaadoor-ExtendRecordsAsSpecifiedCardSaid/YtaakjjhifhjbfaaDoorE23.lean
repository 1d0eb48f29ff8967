/-
  EXTEND, arguments: what the reader of arguments says, in the laws' own words.
-/
import Derived.Test.YtaakjjhifhjbfaaDoorE17
import Derived.Test.YtaakjjhifhjbfaaDoorAbs24
namespace Go.Abs
open Go.Proofs
abbrev CB : C := .pair (.int .i64) (.pair (.int .i64) (.pair .bool (.pair (.arr 16 .byte) .unit)))
abbrev CP : C := .pair (.int .i64) (.pair (.int .i64) (.pair (.int .i64) (.pair (.int .i64) (.pair (.slice CB) .unit))))
abbrev CX : C := .pair CP (.pair (.int .i64) (.pair (.arr 16 .byte) .unit))
abbrev CN : C := .pair (.slice (.int .i64)) (.pair (.slice .str) (.pair (.int .i64) (.pair (.int .i64) .unit)))
def zeroB : Bl := ⟨0, 0, false, zeroD, rfl⟩
def toBl (x : CB.den) : Bl := if h : x.2.2.2.1.length = 16 then ⟨x.1, x.2.1, x.2.2.1, x.2.2.2.1, h⟩ else zeroB
def toPl (x : CP.den) : Pl := ⟨x.1, x.2.1, x.2.2.1, x.2.2.2.1, x.2.2.2.2.1.map toBl⟩
def toXt (x : CX.den) : Xt := if h : x.2.2.1.length = 16 then ⟨toPl x.1, x.2.1, x.2.2.1, h⟩ else ⟨toPl x.1, x.2.1, zeroD, rfl⟩
def toCn (x : CN.den) : Cn := ⟨x.1, x.2.1, x.2.2.1, x.2.2.2.1⟩
theorem cells_B (x : CB.den) (h : C.ok CB x) : C.cells CB x = blC (toBl x) := by
  have hl : x.2.2.2.1.length = 16 := h.2.2.2.1.1
  unfold toBl
  rw [dif_pos hl, bl_eq]
  show D.int .i64 x.1 :: D.int .i64 x.2.1 :: D.bool x.2.2.1 :: (List.flatMap (fun b => [bD b]) x.2.2.2.1 ++ []) = _
  rw [flat1, List.append_nil]
theorem fm_congr {α β : Type} {f : α → List D} {g : β → List D} {t : α → β} : ∀ {l : List α}, (∀ x ∈ l, f x = g (t x)) → List.flatMap f l = List.flatMap g (l.map t)
  | [], _ => rfl
  | x :: r, h => by
    rw [List.flatMap_cons, List.map_cons, List.flatMap_cons, h x (by simp), fm_congr fun y hy => h y (by simp [hy])]
theorem cells_P (x : CP.den) (h : C.ok CP x) : C.cells CP x = plC (toPl x) := by
  have hl : ∀ y ∈ (x.2.2.2.2.1 : List CB.den), C.ok CB y := h.2.2.2.2.1.2
  show [D.int .i64 x.1, D.int .i64 x.2.1, D.int .i64 x.2.2.1, D.int .i64 x.2.2.2.1, D.sl 19 x.2.2.2.2.1.length (List.flatMap (C.cells CB) x.2.2.2.2.1)] = _
  unfold plC toPl
  simp only
  rw [fm_congr (g := blC) (t := toBl) fun y hy => cells_B y (hl y hy), List.length_map]
theorem cells_X (x : CX.den) (h : C.ok CX x) : C.cells CX x = xtC (toXt x) := by
  have hl : x.2.2.1.length = 16 := h.2.2.1.1
  unfold toXt
  rw [dif_pos hl]
  show C.cells CP x.1 ++ D.int .i64 x.2.1 :: (List.flatMap (fun b => [bD b]) x.2.2.1 ++ []) = _
  rw [flat1, List.append_nil, cells_P x.1 h.1]
  unfold xtC
  simp
theorem cells_N (x : CN.den) : C.cells CN x = cnC (toCn x) := by
  show [D.sl 1 x.1.length (List.flatMap (fun n => [D.int .i64 n]) x.1), D.sl 1 x.2.1.length (List.flatMap (fun s => [D.str s]) x.2.1), D.int .i64 x.2.2.1, D.int .i64 x.2.2.2.1] = _
  rw [flat1, flat1]; rfl
theorem arg_N (x : CN.den) : C.arg CN x = .agg (cnC (toCn x)) := congrArg D.agg (cells_N x)
theorem arg_P (x : CP.den) (h : C.ok CP x) : C.arg CP x = .agg (plC (toPl x)) := congrArg D.agg (cells_P x h)
theorem arg_B (x : CB.den) (h : C.ok CB x) : C.arg CB x = .agg (blC (toBl x)) := congrArg D.agg (cells_B x h)
theorem arg_X (l : List CX.den) (h : ∀ x ∈ l, C.ok CX x) : C.arg (.slice CX) l = .sl 22 (l.map toXt).length (List.flatMap xtC (l.map toXt)) := by
  show D.sl 22 l.length (List.flatMap (C.cells CX) l) = _
  rw [fm_congr (g := xtC) (t := toXt) fun y hy => cells_X y (h y hy), List.length_map]
theorem arg_ints (k : IntKind) (l : List Int) : C.arg (.slice (.int k)) l = .sl 1 l.length (l.map (D.int k)) := by
  show D.sl 1 l.length (List.flatMap (fun n => [D.int k n]) l) = _
  rw [flat1]
theorem arg_bools (l : List Bool) : C.arg (.slice .bool) l = .sl 1 l.length (l.map D.bool) := by
  show D.sl 1 l.length (List.flatMap (fun n => [D.bool n]) l) = _
  rw [flat1]
end Go.Abs

