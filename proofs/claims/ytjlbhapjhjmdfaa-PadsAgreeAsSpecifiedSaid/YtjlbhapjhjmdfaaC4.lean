/-
  For all covers, contents and known bytes: Agree returns what the specification returns. No condition.
-/
import Derived.Test.YtjlbhapjhjmdfaaRows
import Derived.Test.YtjlbhapjhjmdfaaAbs24
import Derived.Test.YtjlbhapjhjmdfaaP9
import Derived.JoinedCond
import Derived.Deep.CondSized
import Derived.WalkKit
namespace Go.Proofs.Ytjlbhapjhjmdfaa.padsAgreeAsSpecified
open Go.ChangeShapes Go.WideShapes Go.ChangeAt Go.RowKit Go.Abs
set_option linter.unusedVariables false

theorem own : ownKnob Try.prog.godebug = none := by kernel_rfl
theorem laidOut : laidOutB Try.prog = true := by kernel_rfl
theorem readable : (Try.f4.params.toList.all fun t => Try.prog.readableRec t && decide (t < Try.prog.types.size)) = true := by kernel_rfl
def codes : List C := [.slice .str, .slice .str, .slice (.int .i64)]
theorem fits : fitsL Try.prog codes Try.f4.params.toList = true := by kernel_rfl
theorem rtypes : Try.f4.resultTypes = #[4] := by kernel_rfl

set_option maxRecDepth 100000 in
theorem contract {H : Type} {enc : TypeId × Value → H} (W : World) (base : Nat) (args : Array Value) (ds gs : List (DataW H)) (before : List MemPlace)
    (hval : ∀ (j : Nat) t v, Try.f4.params[j]? = some t → args[j]? = some v → Value.okWide Try.prog W .any base t v)
    (hW : DataW.Whole enc Try.prog Try.f4.params.toList Rows.padsAgreeAsSpecifiedSpec.vars false W args.toList ds gs before)
    (hwt : ∀ n ∈ DataW.weightsEach Try.prog (Try.f4.params.toList ++ []) (ds ++ gs), n ≤ reachBytes) :
    Calls Try.prog 4 args W fun e W' => ∃ v, e = .returned v ∧ Rows.padsAgreeAsSpecifiedSpec.post enc Try.prog Try.f4 false true false false W args v W' := by
  have hW' := hW
  obtain ⟨p, q, hA, hV, hb, hfz, hnd⟩ := hW
  obtain ⟨rfl, rfl⟩ := trodVars_none hV
  rw [List.append_nil, List.append_nil] at hwt
  obtain ⟨xs, hok, ha⟩ := args_read (cs := codes) (base := base) fits (fun j t v ht hv => hval j t v (by simpa using ht) (by simpa using hv)) hA hwt
  have hl := trodAll_len hA
  refine contract_of laidOut readable rtypes Try.underlying4 rfl hW' ?_ ha ?_
  · match ds, hl with
    | [_, _, _], _ => exact ⟨rfl, rfl, rfl⟩
  · obtain ⟨c, d, w, ⟨⟩⟩ := xs
    show Go.Abs.Fn [] Try.prog 4 [.sl 1 c.length (List.flatMap (fun x => [D.str x]) c), .sl 1 d.length (List.flatMap (fun x => [D.str x]) d), .sl 1 w.length (List.flatMap (fun x => [D.int .i64 x]) w)] (.bool true)
    simp only [flat1]
    exact fn_law4 [] c d w

set_option maxRecDepth 100000 in
theorem lifted (os : Os) (started : os.Started) (H : Type) (enc : TypeId × Value → H) :
    ReturnsInHanded {} Try.checked os 4 .any (Rows.padsAgreeAsSpecifiedSpec.pre6 enc Try.prog Try.f4 Rows.padsAgreeAsSpecifiedRow.domain false) (Rows.padsAgreeAsSpecifiedSpec.post enc Try.prog Try.f4 false true false false) := by
  refine returnsInHanded_of_change_sized (C := Try.checked) own started (by kernel_rfl) Try.func4
    (ChangeSpec.witness6 (enc := enc) (C := Try.checked) false ⟨#[], #[.slice none 0 0, .slice none 0 0, .slice none 0 0], []⟩ 8 (by kernel_rfl) (by kernel_rfl) (by kernel_rfl) (by kernel_rfl)) ?_
  intro W base args ds gs before hval hW _ hwt _
  exact contract W base args ds gs before hval hW (wt_of hwt)

theorem over : Rows.padsAgreeAsSpecifiedRow.holds Try.pinned (OpenSpec.ofChange Rows.padsAgreeAsSpecifiedSpec) :=
  OpenClaim.holds_of_wide 4 Try.f4 rfl rfl rfl rfl rfl rfl rfl ⟨rfl, rfl, rfl, rfl, rfl⟩ rfl rfl rfl rfl rfl (by kernel_rfl) Try.func4 (by kernel_rfl)
    (of_decide_eq_true (by kernel_rfl)) (by unfold Func.isWrapper; first | (rw [if_pos (by decide +kernel)]; kernel_rfl) | (rw [if_neg (by decide +kernel)]; exact ⟨rfl, rfl⟩))
    (fun os started H enc _ => lifted os started H enc)

theorem proved : Rows.PadsAgreeAsSpecifiedSaid := over
#print axioms proved
end Go.Proofs.Ytjlbhapjhjmdfaa.padsAgreeAsSpecified
