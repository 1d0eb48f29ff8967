/-
  For every byte sequence: Sum returns the hash that the specification defines. No condition.
-/
import Derived.Test.YtokenlcigigamaaDoorCards
import Derived.Test.YtokenlcigigamaaDoorTie
import Derived.Test.YtokenlcigigamaaDoorAbs30
import Derived.Test.YtokenlcigigamaaDoorH14
import Derived.WalkKit
import Derived.ProofKit
import Derived.OpenShut
import Derived.LaidSub
import Derived.Deep.DeepHandedRow
import Derived.Lib.LaidTab
namespace Go.Proofs.YtokenlcigigamaaDoor.hashSumMatchesSpec
open Go.ChangeShapes Go.WideShapes Go.ChangeAt Go.RowKit Go.Abs
set_option linter.unusedVariables false

abbrev nH : String := Rows.hashSumMatchesSpecRow.named.getD 0 ""
abbrev nR : String := Rows.hashSumMatchesSpecRow.named.getD 1 ""
theorem own : ownKnob Tryd.prog.godebug = none := by kernel_rfl
theorem laidOut : laidOutB Tryd.prog = true := by kernel_rfl
theorem readable : (Tryd.f3.params.toList.all fun t => Tryd.prog.readableRec t && decide (t < Tryd.prog.types.size)) = true := by kernel_rfl
def codes : List C := [.slice .byte]
theorem fits : fitsL Tryd.prog codes Tryd.f3.params.toList = true := by kernel_rfl
theorem rtypes : Tryd.f3.resultTypes = #[4] := by kernel_rfl
theorem gH : Tryd.prog.globalNamed nH = some 1 := by kernel_rfl
theorem gHt : (Tryd.prog.globals[1]?).map (·.type) = some 63 := by kernel_rfl
theorem gR : Tryd.prog.globalNamed nR = some 0 := by kernel_rfl
theorem gRt : (Tryd.prog.globals[0]?).map (·.type) = some 63 := by kernel_rfl
theorem cT : Tryd.prog.cellsOf 63 = 64 := by kernel_rfl
theorem cE : Tryd.prog.cellsOf 29 = 1 := by kernel_rfl
theorem kIn : ∀ z ∈ wI kt, IntKind.u32.min ≤ z ∧ z ≤ IntKind.u32.max := by decide +kernel
theorem kLen : 0 < (wI kt).length := by decide +kernel
theorem dH : @Rows.laid_quietus_hash_constants Unit = Lib.tabData .u32 (wI kt) := by kernel_rfl
theorem dR : @Rows.laid_quietus_quietusref02_constants Unit = Lib.tabData .u32 (wI kt) := by kernel_rfl
theorem tabH {W : World} (h : laidMetH Tryd.prog Rows.hashSumMatchesSpecRow.laid W) : Lib.TabIs Tryd.prog W nH .u32 (wI kt) := by
  have h1 : laidMet Tryd.prog Rows.hashSumMatchesSpecRow.laid W := h
  have h2 : laidMet Tryd.prog [(nH, Lib.tabData .u32 (wI kt))] W := by
    have h3 := laidMet.filter (fun x => x.1 == nH) h1
    rw [show Rows.hashSumMatchesSpecRow.laid.filter (fun x => x.1 == nH) = [(nH, @Rows.laid_quietus_hash_constants Unit)] from rfl] at h3
    rw [dH] at h3
    exact h3
  exact Lib.tabIs_of_head gH gHt Tryd.underlying63 Tryd.underlying29 cE cT h2
theorem tabR {W : World} (h : laidMetH Tryd.prog Rows.hashSumMatchesSpecRow.laid W) : Lib.TabIs Tryd.prog W nR .u32 (wI kt) := by
  have h1 : laidMet Tryd.prog Rows.hashSumMatchesSpecRow.laid W := h
  have h2 : laidMet Tryd.prog [(nR, Lib.tabData .u32 (wI kt))] W := by
    have h3 := laidMet.filter (fun x => x.1 == nR) h1
    rw [show Rows.hashSumMatchesSpecRow.laid.filter (fun x => x.1 == nR) = [(nR, @Rows.laid_quietus_quietusref02_constants Unit)] from rfl] at h3
    rw [dR] at h3
    exact h3
  exact Lib.tabIs_of_head gR gRt Tryd.underlying63 Tryd.underlying29 cE cT h2
theorem globs {W : World} (h : laidMetH Tryd.prog Rows.hashSumMatchesSpecRow.laid W) : ∀ g cs, lk g GK = some cs → RepR W (fun b => b < W.heap.size) (.pointer (some ⟨g, 0, none⟩)) (.rop cs 0) := by
  intro g cs hg
  simp only [lk] at hg
  split at hg
  · rename_i e
    cases hg; subst e
    exact glob_tab (tabH h) gH kLen kIn
  · split at hg
    · rename_i e
      cases hg; subst e
      exact glob_tab (tabR h) gR kLen kIn
    · cases hg

set_option maxRecDepth 100000 in
theorem contract {H : Type} {enc : TypeId × Value → H} (W : World) (base : Nat) (args : Array Value) (ds gs : List (DataW H)) (before : List MemPlace)
    (hval : ∀ (j : Nat) t v, Tryd.f3.params[j]? = some t → args[j]? = some v → Value.okWide Tryd.prog W .any base t v)
    (hW : DataW.Whole enc Tryd.prog Tryd.f3.params.toList Rows.hashSumMatchesSpecSpec.vars false W args.toList ds gs before)
    (hwt : ∀ n ∈ DataW.weightsEach Tryd.prog (Tryd.f3.params.toList ++ []) (ds ++ gs), n ≤ reachBytes) (hL : laidMetH Tryd.prog Rows.hashSumMatchesSpecRow.laid W) :
    Calls Tryd.prog 3 args W fun e W' => ∃ v, e = .returned v ∧ Rows.hashSumMatchesSpecSpec.post enc Tryd.prog Tryd.f3 false true false false W args v W' := by
  have hW' := hW
  obtain ⟨p, q, hA, hV, hb, hfz, hnd⟩ := hW
  obtain ⟨rfl, rfl⟩ := trodVars_none hV
  rw [List.append_nil, List.append_nil] at hwt
  obtain ⟨xs, hok, ha⟩ := args_read (cs := codes) (base := base) fits (fun j t v ht hv => hval j t v (by simpa using ht) (by simpa using hv)) hA hwt
  have hl := trodAll_len hA
  refine contract_ofG laidOut readable rtypes Tryd.underlying4 rfl hW' ?_ ha (globs hL) ?_
  · match ds, hl with
    | [_], _ => exact ⟨rfl, rfl, rfl⟩
  · obtain ⟨b, ⟨⟩⟩ := xs
    show Go.Abs.Fn GK Tryd.prog 3 [.sl 1 b.length (List.flatMap (fun x => [bD x]) b)] (.bool true)
    (try rw [flatB])
    (try simp only [flat1])
    exact fn_LawSum b

def setTab : Obj → Obj
  | .cells _ t frozen => .cells ((wI kt).map fun z => Value.int .u32 z).toArray t frozen
  | o => o
noncomputable def laidWorld (os : Os) : World :=
  { World.holding Tryd.prog os ⟨#[], #[], []⟩ with heap := ((World.holding Tryd.prog os ⟨#[], #[], []⟩).heap.modify 0 setTab).modify 1 setTab }
theorem laid_met (os : Os) : laidMet Tryd.prog Rows.hashSumMatchesSpecRow.laid ((laidWorld os).forCall (fun _ _ => 0) ⟨#[], #[.slice none 0 0], []⟩).memory :=
  laidMet_of_run' 8 (by kernel_rfl) (by kernel_rfl)
theorem reads (os : Os) {H : Type} (enc : TypeId × Value → H) : ∃ places, DataW.whole enc Tryd.prog ((laidWorld os).forCall (fun _ _ => 0) ⟨#[], #[.slice none 0 0], []⟩).memory Tryd.f3.params.toList Rows.hashSumMatchesSpecSpec.vars false (#[.slice none 0 0] : Array Value).toList 8 = some ([.nil], [], places) :=
  ⟨[], by kernel_rfl⟩

set_option maxRecDepth 100000 in
theorem lifted (os : Os) (started : os.Started) (H : Type) (enc : TypeId × Value → H) (F : Stop.Interp) :
    ReturnsInHanded {} Tryd.checked os 3 .any ((OpenSpec.ofChange Rows.hashSumMatchesSpecSpec).preRow enc Tryd.prog Tryd.f3 Rows.hashSumMatchesSpecRow.domain false Rows.hashSumMatchesSpecRow.laid) (((OpenSpec.ofChange Rows.hashSumMatchesSpecSpec).at F).post enc Tryd.prog Tryd.f3 false true false false) := by
  obtain ⟨places, hx⟩ := reads os enc
  refine returnsInHanded_of_row (C := Tryd.checked) (s := OpenSpec.ofChange Rows.hashSumMatchesSpecSpec) own started (by kernel_rfl) Tryd.func3
    (witness_row_at (enc := enc) (C := Tryd.checked) false (laidWorld os) #[.slice none 0 0] rfl (by kernel_rfl) (by kernel_rfl) (by kernel_rfl)
      (OpenSpec.preRow_of_cond 8 hx (by kernel_rfl) (fun k hk => by cases hk) (by kernel_rfl) (laid_met os))) ?_
  intro W base args ds gs before hval hW _ _ hwt hL _ _
  exact contract W base args ds gs before hval hW (wt_of hwt) hL

theorem said : Rows.HashSumMatchesSpecSaid :=
  OpenClaim.holds_of_cond 3 Tryd.f3 rfl rfl rfl rfl rfl rfl rfl ⟨rfl, rfl, rfl, rfl, rfl⟩ rfl rfl rfl rfl rfl (by kernel_rfl) Tryd.func3 (by kernel_rfl)
    (of_decide_eq_true (by kernel_rfl)) (by unfold Func.isWrapper; first | (rw [if_pos (by decide +kernel)]; kernel_rfl) | (rw [if_neg (by decide +kernel)]; exact ⟨rfl, rfl⟩))
    (fun os started H enc _ F => by rw [OpenClaim.pre_eq_preRow]; exact lifted os started H enc F)

theorem plain (f : FuncId) (fn : Func) (hf : Tryd.pinned.checked.prog.funcNamed Rows.hashSumMatchesSpecRow.func = some f) (hfn : Tryd.pinned.checked.prog.funcs[f]? = some fn) :
    false = Tryd.pinned.checked.prog.looks [] ∧ ∀ (j : Nat) t, fn.params[j]? = some t → Tryd.pinned.checked.prog.wantsStandIn t = false := by
  obtain rfl : f = 3 := Option.some.inj ((show Tryd.prog.funcNamed Rows.hashSumMatchesSpecRow.func = some 3 by kernel_rfl).symm.trans hf) |>.symm
  obtain rfl : fn = Tryd.f3 := (Option.some.inj (Tryd.func3.symm.trans hfn)).symm
  refine ⟨by kernel_rfl, fun j t ht => ?_⟩
  have hall : ∀ t ∈ Tryd.f3.params.toList, Tryd.prog.wantsStandIn t = false := by
    intro t ht
    rw [Tryd.params3] at ht
    simp only [List.mem_cons, List.not_mem_nil, or_false] at ht
    rcases ht with rfl
    all_goals kernel_rfl
  exact hall t (Array.mem_toList_iff.2 (Array.mem_of_getElem? ht))

theorem proved : Rows.HashSumMatchesSpecCardSaid :=
  Claim7.holds_tied_plain_at .later [] _ _ _ _ said (fun _ h => by cases h) (by kernel_rfl) (fun _ h => by cases h) hashSumMatchesSpec_row_tie rfl ⟨rfl, rfl⟩ (by kernel_rfl) rfl plain (by kernel_rfl)
#print axioms proved
end Go.Proofs.YtokenlcigigamaaDoor.hashSumMatchesSpec
