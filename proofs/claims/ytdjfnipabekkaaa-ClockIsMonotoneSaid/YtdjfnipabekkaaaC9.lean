/-
  For every clock, three numbers and a reading: what the clock shows grows, deadlines are the last and the first, and a reading more makes no range wider. No condition.
-/
import Derived.Test.YtdjfnipabekkaaaRows
import Derived.Test.YtdjfnipabekkaaaAbs24
import Derived.Test.YtdjfnipabekkaaaK13
import Derived.JoinedCond
import Derived.Deep.CondSized
import Derived.WalkKit
namespace Go.Proofs.Ytdjfnipabekkaaa.clockIsMonotone
open Go.ChangeShapes Go.WideShapes Go.ChangeAt Go.RowKit Go.Abs
set_option linter.unusedVariables false

theorem own : ownKnob Try.prog.godebug = none := by kernel_rfl
theorem laidOut : laidOutB Try.prog = true := by kernel_rfl
theorem readable : (Try.f9.params.toList.all fun t => Try.prog.readableRec t && decide (t < Try.prog.types.size)) = true := by kernel_rfl
def codes : List C := [.pair (.int .i64) (.pair (.slice (.pair (.int .i64) (.pair (.pair (.int .i64) (.pair (.int .i64) .unit)) .unit))) .unit), .arr 3 (.int .i64), .pair (.int .i64) (.pair (.pair (.int .i64) (.pair (.int .i64) .unit)) .unit)]
theorem fits : fitsL Try.prog codes Try.f9.params.toList = true := by kernel_rfl
theorem rtypes : Try.f9.resultTypes = #[4] := by kernel_rfl

set_option maxRecDepth 100000 in
theorem contract {H : Type} {enc : TypeId × Value → H} (W : World) (base : Nat) (args : Array Value) (ds gs : List (DataW H)) (before : List MemPlace)
    (hval : ∀ (j : Nat) t v, Try.f9.params[j]? = some t → args[j]? = some v → Value.okWide Try.prog W .any base t v)
    (hW : DataW.Whole enc Try.prog Try.f9.params.toList Rows.clockIsMonotoneSpec.vars false W args.toList ds gs before)
    (hwt : ∀ n ∈ DataW.weightsEach Try.prog (Try.f9.params.toList ++ []) (ds ++ gs), n ≤ reachBytes) :
    Calls Try.prog 9 args W fun e W' => ∃ v, e = .returned v ∧ Rows.clockIsMonotoneSpec.post enc Try.prog Try.f9 false true false false W args v W' := by
  have hW' := hW
  obtain ⟨p, q, hA, hV, hb, hfz, hnd⟩ := hW
  obtain ⟨rfl, rfl⟩ := trodVars_none hV
  rw [List.append_nil, List.append_nil] at hwt
  obtain ⟨xs, hok, ha⟩ := args_read (cs := codes) (base := base) fits (fun j t v ht hv => hval j t v (by simpa using ht) (by simpa using hv)) hA hwt
  have hl := trodAll_len hA
  refine contract_of laidOut readable rtypes Try.underlying4 rfl hW' ?_ ha ?_
  · match ds, hl with
    | [_, _, _], _ => exact ⟨rfl, rfl, rfl⟩
  · obtain ⟨⟨rate, rs, _⟩, f, ⟨l, ⟨lo, hi, _⟩, _⟩, ⟨⟩⟩ := xs
    have e : List.flatMap (fun x : Int × (Int × Int × Unit) × Unit => [D.int .i64 x.1] ++ (([D.int .i64 x.2.1.1] ++ ([D.int .i64 x.2.1.2.1] ++ [])) ++ [])) rs = List.flatMap rdC (rs.map (fun x : Int × (Int × Int × Unit) × Unit => (x.1, x.2.1.1, x.2.1.2.1))) := by
      rw [List.flatMap_map]; rfl
    have hf : f.length = 3 := hok.2.1.1
    match f, hf with
    | [f0, f1, f2], _ =>
      show Go.Abs.Fn [] Try.prog 9 [.agg ([.int .i64 rate] ++ ([.sl 3 rs.length (List.flatMap (fun x : Int × (Int × Int × Unit) × Unit => [D.int .i64 x.1] ++ (([D.int .i64 x.2.1.1] ++ ([D.int .i64 x.2.1.2.1] ++ [])) ++ [])) rs)] ++ [])), .agg (List.flatMap (fun x => [D.int .i64 x]) [f0, f1, f2]), .agg ([.int .i64 l] ++ (([.int .i64 lo] ++ ([.int .i64 hi] ++ [])) ++ []))] (.bool true)
      rw [e]
      try simp only [flat1]
      exact (fn_LawM [] rate f0 f1 f2 (rs.map (fun x : Int × (Int × Int × Unit) × Unit => (x.1, x.2.1.1, x.2.1.2.1))) (l, lo, hi)).inp (by unfold clkA; rw [List.length_map]; rfl)

set_option maxRecDepth 100000 in
theorem lifted (os : Os) (started : os.Started) (H : Type) (enc : TypeId × Value → H) :
    ReturnsInHanded {} Try.checked os 9 .any (Rows.clockIsMonotoneSpec.pre6 enc Try.prog Try.f9 Rows.clockIsMonotoneRow.domain false) (Rows.clockIsMonotoneSpec.post enc Try.prog Try.f9 false true false false) := by
  refine returnsInHanded_of_change_sized (C := Try.checked) own started (by kernel_rfl) Try.func9
    (ChangeSpec.witness6 (enc := enc) (C := Try.checked) false ⟨#[], #[.agg #[.int .i64 0, .slice none 0 0], .agg #[.int .i64 0, .int .i64 0, .int .i64 0], .agg #[.int .i64 0, .int .i64 0, .int .i64 0]], []⟩ 8 (by kernel_rfl) (by kernel_rfl) (by kernel_rfl) (by kernel_rfl)) ?_
  intro W base args ds gs before hval hW _ hwt _
  exact contract W base args ds gs before hval hW (wt_of hwt)

theorem over : Rows.clockIsMonotoneRow.holds Try.pinned (OpenSpec.ofChange Rows.clockIsMonotoneSpec) :=
  OpenClaim.holds_of_wide 9 Try.f9 rfl rfl rfl rfl rfl rfl rfl ⟨rfl, rfl, rfl, rfl, rfl⟩ rfl rfl rfl rfl rfl (by kernel_rfl) Try.func9 (by kernel_rfl)
    (of_decide_eq_true (by kernel_rfl)) (by unfold Func.isWrapper; first | (rw [if_pos (by decide +kernel)]; kernel_rfl) | (rw [if_neg (by decide +kernel)]; exact ⟨rfl, rfl⟩))
    (fun os started H enc _ => lifted os started H enc)

theorem proved : Rows.ClockIsMonotoneSaid := over
#print axioms proved
end Go.Proofs.Ytdjfnipabekkaaa.clockIsMonotone
