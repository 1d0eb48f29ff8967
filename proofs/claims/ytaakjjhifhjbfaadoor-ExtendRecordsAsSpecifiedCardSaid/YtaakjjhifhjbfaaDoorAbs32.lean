/-
  AN ABSTRACT WALK: contracts from bodies that hold a range over a function, where results may stand in cells.
-/
import Derived.Test.YtaakjjhifhjbfaaDoorAbs28
namespace Go.Abs
open Go.RowKit (Below)
section
variable {G : Glob} {P : Program}
end
section
variable {G : Glob} {P : Program} {f : FuncId} {fn : Func} {c : Code} {ds : List D} {d : D} {n : Nat} {rs : Array ResultVar}
end
theorem FnF.outT {G : Glob} {P : Program} {f : FuncId} {ds : List D} {d d' e : D} (h : FnF G P f ds (.tup [d', e])) (hw : DW d' d) : FnF G P f ds (.tup [d, e]) :=
  ⟨h.1, fun b0 vs hG hL ha => (h.2 b0 vs hG hL ha).mono fun _ _ ⟨v, h1, h2, h3⟩ => ⟨v, h1, by
    cases h2 with
    | tup hs hr =>
      refine .tup hs fun i v d hv hd => ?_
      match i with
      | 0 => simp at hd; subst hd; exact hw.rep (hr 0 v d' hv rfl)
      | 1 => simp at hd; subst hd; exact hr 1 v e hv rfl
      | i + 2 => simp at hd, h3⟩⟩
end Go.Abs
