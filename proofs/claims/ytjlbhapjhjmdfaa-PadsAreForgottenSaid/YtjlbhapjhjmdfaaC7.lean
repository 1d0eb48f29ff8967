/-
  For every book, and another one that differs in one pad: a use of that pad, or spending it, makes them the same. No condition.
-/
import Derived.Test.YtjlbhapjhjmdfaaRows
import Derived.Test.YtjlbhapjhjmdfaaAbs24
import Derived.Test.YtjlbhapjhjmdfaaP10
import Derived.JoinedCond
import Derived.Deep.CondSized
import Derived.WalkKit
namespace Go.Proofs.Ytjlbhapjhjmdfaa.padsAreForgotten
open Go.ChangeShapes Go.WideShapes Go.ChangeAt Go.RowKit Go.Abs
set_option linter.unusedVariables false

theorem own : ownKnob Try.prog.godebug = none := by kernel_rfl
theorem laidOut : laidOutB Try.prog = true := by kernel_rfl
theorem readable : (Try.f7.params.toList.all fun t => Try.prog.readableRec t && decide (t < Try.prog.types.size)) = true := by kernel_rfl
def codes : List C := [.pair (.int .i64) (.pair (.int .i64) (.pair (.slice .str) .unit)), .byte, .str, .str]
theorem fits : fitsL Try.prog codes Try.f7.params.toList = true := by kernel_rfl
theorem rtypes : Try.f7.resultTypes = #[4] := by kernel_rfl

set_option maxRecDepth 100000 in
theorem contract {H : Type} {enc : TypeId × Value → H} (W : World) (base : Nat) (args : Array Value) (ds gs : List (DataW H)) (before : List MemPlace)
    (hval : ∀ (j : Nat) t v, Try.f7.params[j]? = some t → args[j]? = some v → Value.okWide Try.prog W .any base t v)
    (hW : DataW.Whole enc Try.prog Try.f7.params.toList Rows.padsAreForgottenSpec.vars false W args.toList ds gs before)
    (hwt : ∀ n ∈ DataW.weightsEach Try.prog (Try.f7.params.toList ++ []) (ds ++ gs), n ≤ reachBytes) :
    Calls Try.prog 7 args W fun e W' => ∃ v, e = .returned v ∧ Rows.padsAreForgottenSpec.post enc Try.prog Try.f7 false true false false W args v W' := by
  have hW' := hW
  obtain ⟨p, q, hA, hV, hb, hfz, hnd⟩ := hW
  obtain ⟨rfl, rfl⟩ := trodVars_none hV
  rw [List.append_nil, List.append_nil] at hwt
  obtain ⟨xs, hok, ha⟩ := args_read (cs := codes) (base := base) fits (fun j t v ht hv => hval j t v (by simpa using ht) (by simpa using hv)) hA hwt
  have hl := trodAll_len hA
  refine contract_of laidOut readable rtypes Try.underlying4 rfl hW' ?_ ha ?_
  · match ds, hl with
    | [_, _, _, _], _ => exact ⟨rfl, rfl, rfl⟩
  · obtain ⟨⟨l, r, x, _⟩, n, o, s, ⟨⟩⟩ := xs
    show Go.Abs.Fn [] Try.prog 7 [.agg ([.int .i64 l] ++ ([.int .i64 r] ++ ([.sl 1 x.length (List.flatMap (fun x => [D.str x]) x)] ++ []))), bD n, .str o, .str s] (.bool true)
    simp only [flat1]
    exact fn_law7 [] l r x n o s

set_option maxRecDepth 100000 in
theorem lifted (os : Os) (started : os.Started) (H : Type) (enc : TypeId × Value → H) :
    ReturnsInHanded {} Try.checked os 7 .any (Rows.padsAreForgottenSpec.pre6 enc Try.prog Try.f7 Rows.padsAreForgottenRow.domain false) (Rows.padsAreForgottenSpec.post enc Try.prog Try.f7 false true false false) := by
  refine returnsInHanded_of_change_sized (C := Try.checked) own started (by kernel_rfl) Try.func7
    (ChangeSpec.witness6 (enc := enc) (C := Try.checked) false ⟨#[], #[.agg #[.int .i64 0, .int .i64 0, .slice none 0 0], .int .u8 0, .string ByteArray.empty, .string ByteArray.empty], []⟩ 8 (by kernel_rfl) (by kernel_rfl) (by kernel_rfl) (by kernel_rfl)) ?_
  intro W base args ds gs before hval hW _ hwt _
  exact contract W base args ds gs before hval hW (wt_of hwt)

theorem over : Rows.padsAreForgottenRow.holds Try.pinned (OpenSpec.ofChange Rows.padsAreForgottenSpec) :=
  OpenClaim.holds_of_wide 7 Try.f7 rfl rfl rfl rfl rfl rfl rfl ⟨rfl, rfl, rfl, rfl, rfl⟩ rfl rfl rfl rfl rfl (by kernel_rfl) Try.func7 (by kernel_rfl)
    (of_decide_eq_true (by kernel_rfl)) (by unfold Func.isWrapper; first | (rw [if_pos (by decide +kernel)]; kernel_rfl) | (rw [if_neg (by decide +kernel)]; exact ⟨rfl, rfl⟩))
    (fun os started H enc _ => lifted os started H enc)

theorem proved : Rows.PadsAreForgottenSaid := over
#print axioms proved
end Go.Proofs.Ytjlbhapjhjmdfaa.padsAreForgotten
