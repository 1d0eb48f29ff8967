/-
  For every rate, a difference and a number of instants: the number is in the range of Passed exactly if it is possible. No condition.
-/
import Derived.Test.YtdjfnipabekkaaaRows
import Derived.Test.YtdjfnipabekkaaaAbs24
import Derived.Test.YtdjfnipabekkaaaK13
import Derived.JoinedCond
import Derived.Deep.CondSized
import Derived.WalkKit
namespace Go.Proofs.Ytdjfnipabekkaaa.clockPassesExactly
open Go.ChangeShapes Go.WideShapes Go.ChangeAt Go.RowKit Go.Abs
set_option linter.unusedVariables false

theorem own : ownKnob Try.prog.godebug = none := by kernel_rfl
theorem laidOut : laidOutB Try.prog = true := by kernel_rfl
theorem readable : (Try.f6.params.toList.all fun t => Try.prog.readableRec t && decide (t < Try.prog.types.size)) = true := by kernel_rfl
def codes : List C := [.int .u32, .int .u16, .int .u16]
theorem fits : fitsL Try.prog codes Try.f6.params.toList = true := by kernel_rfl
theorem rtypes : Try.f6.resultTypes = #[4] := by kernel_rfl

set_option maxRecDepth 100000 in
theorem contract {H : Type} {enc : TypeId × Value → H} (W : World) (base : Nat) (args : Array Value) (ds gs : List (DataW H)) (before : List MemPlace)
    (hval : ∀ (j : Nat) t v, Try.f6.params[j]? = some t → args[j]? = some v → Value.okWide Try.prog W .any base t v)
    (hW : DataW.Whole enc Try.prog Try.f6.params.toList Rows.clockPassesExactlySpec.vars false W args.toList ds gs before)
    (hwt : ∀ n ∈ DataW.weightsEach Try.prog (Try.f6.params.toList ++ []) (ds ++ gs), n ≤ reachBytes) :
    Calls Try.prog 6 args W fun e W' => ∃ v, e = .returned v ∧ Rows.clockPassesExactlySpec.post enc Try.prog Try.f6 false true false false W args v W' := by
  have hW' := hW
  obtain ⟨p, q, hA, hV, hb, hfz, hnd⟩ := hW
  obtain ⟨rfl, rfl⟩ := trodVars_none hV
  rw [List.append_nil, List.append_nil] at hwt
  obtain ⟨xs, hok, ha⟩ := args_read (cs := codes) (base := base) fits (fun j t v ht hv => hval j t v (by simpa using ht) (by simpa using hv)) hA hwt
  have hl := trodAll_len hA
  refine contract_of laidOut readable rtypes Try.underlying4 rfl hW' ?_ ha ?_
  · match ds, hl with
    | [_, _, _], _ => exact ⟨rfl, rfl, rfl⟩
  · obtain ⟨a, b, c, ⟨⟩⟩ := xs
    exact fn_LawP [] a b c

set_option maxRecDepth 100000 in
theorem lifted (os : Os) (started : os.Started) (H : Type) (enc : TypeId × Value → H) :
    ReturnsInHanded {} Try.checked os 6 .any (Rows.clockPassesExactlySpec.pre6 enc Try.prog Try.f6 Rows.clockPassesExactlyRow.domain false) (Rows.clockPassesExactlySpec.post enc Try.prog Try.f6 false true false false) := by
  refine returnsInHanded_of_change_sized (C := Try.checked) own started (by kernel_rfl) Try.func6
    (ChangeSpec.witness6 (enc := enc) (C := Try.checked) false ⟨#[], #[.int .u32 0, .int .u16 0, .int .u16 0], []⟩ 8 (by kernel_rfl) (by kernel_rfl) (by kernel_rfl) (by kernel_rfl)) ?_
  intro W base args ds gs before hval hW _ hwt _
  exact contract W base args ds gs before hval hW (wt_of hwt)

theorem over : Rows.clockPassesExactlyRow.holds Try.pinned (OpenSpec.ofChange Rows.clockPassesExactlySpec) :=
  OpenClaim.holds_of_wide 6 Try.f6 rfl rfl rfl rfl rfl rfl rfl ⟨rfl, rfl, rfl, rfl, rfl⟩ rfl rfl rfl rfl rfl (by kernel_rfl) Try.func6 (by kernel_rfl)
    (of_decide_eq_true (by kernel_rfl)) (by unfold Func.isWrapper; first | (rw [if_pos (by decide +kernel)]; kernel_rfl) | (rw [if_neg (by decide +kernel)]; exact ⟨rfl, rfl⟩))
    (fun os started H enc _ => lifted os started H enc)

theorem proved : Rows.ClockPassesExactlySaid := over
#print axioms proved
end Go.Proofs.Ytdjfnipabekkaaa.clockPassesExactly
