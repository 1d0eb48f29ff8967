/-
  EXTEND, arguments: tries to vote.
-/
import Derived.Test.YtaakjjhifhjbfaaDoorE20
import Derived.Test.YtaakjjhifhjbfaaDoorE23
namespace Go.Abs
open Go.Proofs
abbrev CT : C := .pair (.int .i64) (.pair (.int .u8) (.pair .bool (.pair (.int .u8) .unit)))
def toTr (x : CT.den) : Tr := ⟨x.1, x.2.1, x.2.2.1, x.2.2.2.1⟩
theorem arg_T (l : List CT.den) : C.arg (.slice CT) l = .sl 4 (l.map toTr).length (List.flatMap trC (l.map toTr)) := by
  show D.sl 4 l.length (List.flatMap (C.cells CT) l) = _
  rw [fm_congr (f := C.cells CT) (g := trC) (t := toTr) fun y _ => rfl, List.length_map]
end Go.Abs

