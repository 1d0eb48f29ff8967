/-
  For every book and uses of it: no pad covers two strings; what is covered is uncovered; in the end a pad is spent if and only if it was used or spent. No condition.
-/
import Derived.Test.YtjlbhapjhjmdfaaRows
import Derived.Test.YtjlbhapjhjmdfaaAbs24
import Derived.Test.YtjlbhapjhjmdfaaP11
import Derived.JoinedCond
import Derived.Deep.CondSized
import Derived.WalkKit
namespace Go.Proofs.Ytjlbhapjhjmdfaa.padsAreUsedOnce
open Go.ChangeShapes Go.WideShapes Go.ChangeAt Go.RowKit Go.Abs
set_option linter.unusedVariables false

theorem own : ownKnob Try.prog.godebug = none := by kernel_rfl
theorem laidOut : laidOutB Try.prog = true := by kernel_rfl
theorem readable : (Try.f6.params.toList.all fun t => Try.prog.readableRec t && decide (t < Try.prog.types.size)) = true := by kernel_rfl
def codes : List C := [.pair (.int .i64) (.pair (.int .i64) (.pair (.slice .str) .unit)), .slice (.pair (.int .i64) (.pair (.int .i64) (.pair .str (.pair .bool .unit))))]
theorem fits : fitsL Try.prog codes Try.f6.params.toList = true := by kernel_rfl
theorem rtypes : Try.f6.resultTypes = #[4] := by kernel_rfl

set_option maxRecDepth 100000 in
theorem contract {H : Type} {enc : TypeId × Value → H} (W : World) (base : Nat) (args : Array Value) (ds gs : List (DataW H)) (before : List MemPlace)
    (hval : ∀ (j : Nat) t v, Try.f6.params[j]? = some t → args[j]? = some v → Value.okWide Try.prog W .any base t v)
    (hW : DataW.Whole enc Try.prog Try.f6.params.toList Rows.padsAreUsedOnceSpec.vars false W args.toList ds gs before)
    (hwt : ∀ n ∈ DataW.weightsEach Try.prog (Try.f6.params.toList ++ []) (ds ++ gs), n ≤ reachBytes) :
    Calls Try.prog 6 args W fun e W' => ∃ v, e = .returned v ∧ Rows.padsAreUsedOnceSpec.post enc Try.prog Try.f6 false true false false W args v W' := by
  have hW' := hW
  obtain ⟨p, q, hA, hV, hb, hfz, hnd⟩ := hW
  obtain ⟨rfl, rfl⟩ := trodVars_none hV
  rw [List.append_nil, List.append_nil] at hwt
  obtain ⟨xs, hok, ha⟩ := args_read (cs := codes) (base := base) fits (fun j t v ht hv => hval j t v (by simpa using ht) (by simpa using hv)) hA hwt
  have hl := trodAll_len hA
  refine contract_of laidOut readable rtypes Try.underlying4 rfl hW' ?_ ha ?_
  · match ds, hl with
    | [_, _], _ => exact ⟨rfl, rfl, rfl⟩
  · obtain ⟨⟨l, r, x, _⟩, a, ⟨⟩⟩ := xs
    have e : List.flatMap (fun o : Int × Int × List UInt8 × Bool × Unit => [D.int .i64 o.1] ++ ([D.int .i64 o.2.1] ++ ([D.str o.2.2.1] ++ ([D.bool o.2.2.2.1] ++ [])))) a = List.flatMap opC (a.map fun o => (o.1, o.2.1, o.2.2.1, o.2.2.2.1)) := by
      rw [List.flatMap_map]; rfl
    show Go.Abs.Fn [] Try.prog 6 [.agg ([.int .i64 l] ++ ([.int .i64 r] ++ ([.sl 1 x.length (List.flatMap (fun x => [D.str x]) x)] ++ []))), .sl 4 a.length (List.flatMap (fun o : Int × Int × List UInt8 × Bool × Unit => [D.int .i64 o.1] ++ ([D.int .i64 o.2.1] ++ ([D.str o.2.2.1] ++ ([D.bool o.2.2.2.1] ++ [])))) a)] (.bool true)
    rw [e]
    simp only [flat1]
    exact (fn_law6 [] l r x (a.map fun o => (o.1, o.2.1, o.2.2.1, o.2.2.2.1))).inp (by rw [List.length_map]; rfl)

set_option maxRecDepth 100000 in
theorem lifted (os : Os) (started : os.Started) (H : Type) (enc : TypeId × Value → H) :
    ReturnsInHanded {} Try.checked os 6 .any (Rows.padsAreUsedOnceSpec.pre6 enc Try.prog Try.f6 Rows.padsAreUsedOnceRow.domain false) (Rows.padsAreUsedOnceSpec.post enc Try.prog Try.f6 false true false false) := by
  refine returnsInHanded_of_change_sized (C := Try.checked) own started (by kernel_rfl) Try.func6
    (ChangeSpec.witness6 (enc := enc) (C := Try.checked) false ⟨#[], #[.agg #[.int .i64 0, .int .i64 0, .slice none 0 0], .slice none 0 0], []⟩ 8 (by kernel_rfl) (by kernel_rfl) (by kernel_rfl) (by kernel_rfl)) ?_
  intro W base args ds gs before hval hW _ hwt _
  exact contract W base args ds gs before hval hW (wt_of hwt)

theorem over : Rows.padsAreUsedOnceRow.holds Try.pinned (OpenSpec.ofChange Rows.padsAreUsedOnceSpec) :=
  OpenClaim.holds_of_wide 6 Try.f6 rfl rfl rfl rfl rfl rfl rfl ⟨rfl, rfl, rfl, rfl, rfl⟩ rfl rfl rfl rfl rfl (by kernel_rfl) Try.func6 (by kernel_rfl)
    (of_decide_eq_true (by kernel_rfl)) (by unfold Func.isWrapper; first | (rw [if_pos (by decide +kernel)]; kernel_rfl) | (rw [if_neg (by decide +kernel)]; exact ⟨rfl, rfl⟩))
    (fun os started H enc _ => lifted os started H enc)

theorem proved : Rows.PadsAreUsedOnceSaid := over
#print axioms proved
end Go.Proofs.Ytjlbhapjhjmdfaa.padsAreUsedOnce
