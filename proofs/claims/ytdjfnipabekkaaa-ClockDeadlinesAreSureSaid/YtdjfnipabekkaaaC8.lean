/-
  For every run of a clock and instants around its steps: an instant has not passed up to Latest, and has come from Earliest on. No condition.
-/
import Derived.Test.YtdjfnipabekkaaaRows
import Derived.Test.YtdjfnipabekkaaaAbs24
import Derived.Test.YtdjfnipabekkaaaK13
import Derived.JoinedCond
import Derived.Deep.CondSized
import Derived.WalkKit
namespace Go.Proofs.Ytdjfnipabekkaaa.clockDeadlinesAreSure
open Go.ChangeShapes Go.WideShapes Go.ChangeAt Go.RowKit Go.Abs
set_option linter.unusedVariables false

theorem own : ownKnob Try.prog.godebug = none := by kernel_rfl
theorem laidOut : laidOutB Try.prog = true := by kernel_rfl
theorem readable : (Try.f8.params.toList.all fun t => Try.prog.readableRec t && decide (t < Try.prog.types.size)) = true := by kernel_rfl
def codes : List C := [.pair (.int .u32) (.pair (.int .u32) (.pair (.slice (.pair (.int .u16) (.pair (.int .i32) (.pair (.int .u8) (.pair (.int .u8) (.pair (.int .u8) .unit)))))) .unit)), .slice (.int .i16)]
theorem fits : fitsL Try.prog codes Try.f8.params.toList = true := by kernel_rfl
theorem rtypes : Try.f8.resultTypes = #[4] := by kernel_rfl

set_option maxRecDepth 100000 in
theorem contract {H : Type} {enc : TypeId × Value → H} (W : World) (base : Nat) (args : Array Value) (ds gs : List (DataW H)) (before : List MemPlace)
    (hval : ∀ (j : Nat) t v, Try.f8.params[j]? = some t → args[j]? = some v → Value.okWide Try.prog W .any base t v)
    (hW : DataW.Whole enc Try.prog Try.f8.params.toList Rows.clockDeadlinesAreSureSpec.vars false W args.toList ds gs before)
    (hwt : ∀ n ∈ DataW.weightsEach Try.prog (Try.f8.params.toList ++ []) (ds ++ gs), n ≤ reachBytes) :
    Calls Try.prog 8 args W fun e W' => ∃ v, e = .returned v ∧ Rows.clockDeadlinesAreSureSpec.post enc Try.prog Try.f8 false true false false W args v W' := by
  have hW' := hW
  obtain ⟨p, q, hA, hV, hb, hfz, hnd⟩ := hW
  obtain ⟨rfl, rfl⟩ := trodVars_none hV
  rw [List.append_nil, List.append_nil] at hwt
  obtain ⟨xs, hok, ha⟩ := args_read (cs := codes) (base := base) fits (fun j t v ht hv => hval j t v (by simpa using ht) (by simpa using hv)) hA hwt
  have hl := trodAll_len hA
  refine contract_of laidOut readable rtypes Try.underlying4 rfl hW' ?_ ha ?_
  · match ds, hl with
    | [_, _], _ => exact ⟨rfl, rfl, rfl⟩
  · obtain ⟨⟨a, b, ss, _⟩, ar, ⟨⟩⟩ := xs
    have e : List.flatMap (fun x : Int × Int × Int × Int × Int × Unit => [D.int .u16 x.1] ++ ([D.int .i32 x.2.1] ++ ([D.int .u8 x.2.2.1] ++ ([D.int .u8 x.2.2.2.1] ++ ([D.int .u8 x.2.2.2.2.1] ++ []))))) ss = List.flatMap spC (ss.map (fun x : Int × Int × Int × Int × Int × Unit => (x.1, x.2.1, x.2.2.1, x.2.2.2.1, x.2.2.2.2.1))) := by
      rw [List.flatMap_map]; rfl
    have hs : ∀ s ∈ ss.map (fun x : Int × Int × Int × Int × Int × Unit => (x.1, x.2.1, x.2.2.1, x.2.2.2.1, x.2.2.2.2.1)), spP s := fun s hs => by
      obtain ⟨x, hx, rfl⟩ := List.mem_map.1 hs
      have := hok.1.2.2.1.2 x hx
      exact ⟨this.1, this.2.1, this.2.2.1, this.2.2.2.1, this.2.2.2.2.1⟩
    show Go.Abs.Fn [] Try.prog 8 [.agg ([.int .u32 a] ++ ([.int .u32 b] ++ ([.sl 5 ss.length (List.flatMap (fun x : Int × Int × Int × Int × Int × Unit => [D.int .u16 x.1] ++ ([D.int .i32 x.2.1] ++ ([D.int .u8 x.2.2.1] ++ ([D.int .u8 x.2.2.2.1] ++ ([D.int .u8 x.2.2.2.2.1] ++ []))))) ss)] ++ []))), .sl 1 ar.length (List.flatMap (fun x => [D.int .i16 x]) ar)] (.bool true)
    rw [e]
    try simp only [flat1]
    exact (fn_LawS [] a b (ss.map (fun x : Int × Int × Int × Int × Int × Unit => (x.1, x.2.1, x.2.2.1, x.2.2.2.1, x.2.2.2.2.1))) ar (fun x hx => hok.2.1.2 x hx) hok.1.1.1 hok.1.2.1.1 hok.1.2.1.2 hs).inp (by rw [List.length_map]; rfl)

set_option maxRecDepth 100000 in
theorem lifted (os : Os) (started : os.Started) (H : Type) (enc : TypeId × Value → H) :
    ReturnsInHanded {} Try.checked os 8 .any (Rows.clockDeadlinesAreSureSpec.pre6 enc Try.prog Try.f8 Rows.clockDeadlinesAreSureRow.domain false) (Rows.clockDeadlinesAreSureSpec.post enc Try.prog Try.f8 false true false false) := by
  refine returnsInHanded_of_change_sized (C := Try.checked) own started (by kernel_rfl) Try.func8
    (ChangeSpec.witness6 (enc := enc) (C := Try.checked) false ⟨#[], #[.agg #[.int .u32 0, .int .u32 0, .slice none 0 0], .slice none 0 0], []⟩ 8 (by kernel_rfl) (by kernel_rfl) (by kernel_rfl) (by kernel_rfl)) ?_
  intro W base args ds gs before hval hW _ hwt _
  exact contract W base args ds gs before hval hW (wt_of hwt)

theorem over : Rows.clockDeadlinesAreSureRow.holds Try.pinned (OpenSpec.ofChange Rows.clockDeadlinesAreSureSpec) :=
  OpenClaim.holds_of_wide 8 Try.f8 rfl rfl rfl rfl rfl rfl rfl ⟨rfl, rfl, rfl, rfl, rfl⟩ rfl rfl rfl rfl rfl (by kernel_rfl) Try.func8 (by kernel_rfl)
    (of_decide_eq_true (by kernel_rfl)) (by unfold Func.isWrapper; first | (rw [if_pos (by decide +kernel)]; kernel_rfl) | (rw [if_neg (by decide +kernel)]; exact ⟨rfl, rfl⟩))
    (fun os started H enc _ => lifted os started H enc)

theorem proved : Rows.ClockDeadlinesAreSureSaid := over
#print axioms proved
end Go.Proofs.Ytdjfnipabekkaaa.clockDeadlinesAreSure
