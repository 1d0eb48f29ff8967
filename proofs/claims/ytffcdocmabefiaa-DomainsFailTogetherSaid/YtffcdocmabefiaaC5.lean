/-
  For every layout, parts on it and failures: what is left, and how many parts every domain holds. No condition.
-/
import Derived.Test.YtffcdocmabefiaaRows
import Derived.Test.YtffcdocmabefiaaAbs24
import Derived.Test.YtffcdocmabefiaaD11
import Derived.JoinedCond
import Derived.Deep.CondSized
import Derived.WalkKit
namespace Go.Proofs.Ytffcdocmabefiaa.domainsFailTogether
open Go.ChangeShapes Go.WideShapes Go.ChangeAt Go.RowKit Go.Abs
set_option linter.unusedVariables false

theorem own : ownKnob Try.prog.godebug = none := by kernel_rfl
theorem laidOut : laidOutB Try.prog = true := by kernel_rfl
theorem readable : (Try.f5.params.toList.all fun t => Try.prog.readableRec t && decide (t < Try.prog.types.size)) = true := by kernel_rfl
def codes : List C := [.pair (.slice (.int .i64)) (.pair (.slice (.pair (.int .i64) (.pair .bool .unit))) (.pair (.slice (.int .i64)) (.pair (.int .i64) .unit))), .slice (.int .i64), .arr 2 (.slice (.int .i64)), .arr 2 .byte]
theorem fits : fitsL Try.prog codes Try.f5.params.toList = true := by kernel_rfl
theorem rtypes : Try.f5.resultTypes = #[4] := by kernel_rfl

set_option maxRecDepth 100000 in
theorem contract {H : Type} {enc : TypeId × Value → H} (W : World) (base : Nat) (args : Array Value) (ds gs : List (DataW H)) (before : List MemPlace)
    (hval : ∀ (j : Nat) t v, Try.f5.params[j]? = some t → args[j]? = some v → Value.okWide Try.prog W .any base t v)
    (hW : DataW.Whole enc Try.prog Try.f5.params.toList Rows.domainsFailTogetherSpec.vars false W args.toList ds gs before)
    (hwt : ∀ n ∈ DataW.weightsEach Try.prog (Try.f5.params.toList ++ []) (ds ++ gs), n ≤ reachBytes) :
    Calls Try.prog 5 args W fun e W' => ∃ v, e = .returned v ∧ Rows.domainsFailTogetherSpec.post enc Try.prog Try.f5 false true false false W args v W' := by
  have hW' := hW
  obtain ⟨p, q, hA, hV, hb, hfz, hnd⟩ := hW
  obtain ⟨rfl, rfl⟩ := trodVars_none hV
  rw [List.append_nil, List.append_nil] at hwt
  obtain ⟨xs, hok, ha⟩ := args_read (cs := codes) (base := base) fits (fun j t v ht hv => hval j t v (by simpa using ht) (by simpa using hv)) hA hwt
  have hl := trodAll_len hA
  refine contract_of laidOut readable rtypes Try.underlying4 rfl hW' ?_ ha ?_
  · match ds, hl with
    | [_, _, _, _], _ => exact ⟨rfl, rfl, rfl⟩
  · obtain ⟨⟨d, r, h, o, _⟩, l, f, g, ⟨⟩⟩ := xs
    have e : List.flatMap (fun x : Int × Bool × Unit => [D.int .i64 x.1] ++ ([D.bool x.2.1] ++ [])) r = List.flatMap rkC (r.map fun x => (x.1, x.2.1)) := by
      rw [List.flatMap_map]; rfl
    have hf : f.length = 2 := hok.2.2.1.1
    match f, hf with
    | [f0, f1], _ =>
      have hg : g.length = 2 := hok.2.2.2.1.1
      match g, hg with
      | [g0, g1], _ =>
        show Go.Abs.Fn [] Try.prog 5 [.agg ([.sl 1 d.length (List.flatMap (fun x => [D.int .i64 x]) d)] ++ ([.sl 2 r.length (List.flatMap (fun x : Int × Bool × Unit => [D.int .i64 x.1] ++ ([D.bool x.2.1] ++ [])) r)] ++ ([.sl 1 h.length (List.flatMap (fun x => [D.int .i64 x]) h)] ++ ([.int .i64 o] ++ [])))), .sl 1 l.length (List.flatMap (fun x => [D.int .i64 x]) l), .agg (List.flatMap (fun x : List Int => [.sl 1 x.length (List.flatMap (fun x => [D.int .i64 x]) x)]) [f0, f1]), .agg (List.flatMap (fun x => [bD x]) [g0, g1])] (.bool true)
        rw [e]
        simp only [flat1]
        exact (fn_LawF [] d (r.map fun x => (x.1, x.2.1)) h o l f0 f1 g0 g1).inp (by unfold domA; rw [List.length_map]; rfl)

set_option maxRecDepth 100000 in
theorem lifted (os : Os) (started : os.Started) (H : Type) (enc : TypeId × Value → H) :
    ReturnsInHanded {} Try.checked os 5 .any (Rows.domainsFailTogetherSpec.pre6 enc Try.prog Try.f5 Rows.domainsFailTogetherRow.domain false) (Rows.domainsFailTogetherSpec.post enc Try.prog Try.f5 false true false false) := by
  refine returnsInHanded_of_change_sized (C := Try.checked) own started (by kernel_rfl) Try.func5
    (ChangeSpec.witness6 (enc := enc) (C := Try.checked) false ⟨#[], #[.agg #[.slice none 0 0, .slice none 0 0, .slice none 0 0, .int .i64 0], .slice none 0 0, .agg #[.slice none 0 0, .slice none 0 0], .agg #[.int .u8 0, .int .u8 0]], []⟩ 8 (by kernel_rfl) (by kernel_rfl) (by kernel_rfl) (by kernel_rfl)) ?_
  intro W base args ds gs before hval hW _ hwt _
  exact contract W base args ds gs before hval hW (wt_of hwt)

theorem over : Rows.domainsFailTogetherRow.holds Try.pinned (OpenSpec.ofChange Rows.domainsFailTogetherSpec) :=
  OpenClaim.holds_of_wide 5 Try.f5 rfl rfl rfl rfl rfl rfl rfl ⟨rfl, rfl, rfl, rfl, rfl⟩ rfl rfl rfl rfl rfl (by kernel_rfl) Try.func5 (by kernel_rfl)
    (of_decide_eq_true (by kernel_rfl)) (by unfold Func.isWrapper; first | (rw [if_pos (by decide +kernel)]; kernel_rfl) | (rw [if_neg (by decide +kernel)]; exact ⟨rfl, rfl⟩))
    (fun os started H enc _ => lifted os started H enc)

theorem proved : Rows.DomainsFailTogetherSaid := over
#print axioms proved
end Go.Proofs.Ytffcdocmabefiaa.domainsFailTogether
