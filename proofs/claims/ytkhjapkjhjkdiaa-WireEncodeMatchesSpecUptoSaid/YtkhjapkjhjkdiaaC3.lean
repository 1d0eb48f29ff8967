/-
  For every integer, string, and list of integers, strings and digests, of bulk at most 1048576: the encoding is that of the specification.
-/
import Derived.Test.YtkhjapkjhjkdiaaRows
import Derived.Test.YtkhjapkjhjkdiaaAbs24
import Derived.Test.YtkhjapkjhjkdiaaW15
import Derived.JoinedCond
import Derived.Deep.CondSized
import Derived.WalkKit
namespace Go.Proofs.Ytkhjapkjhjkdiaa.wireEncodeMatchesSpec
open Go.ChangeShapes Go.WideShapes Go.ChangeAt Go.RowKit Go.Abs
set_option linter.unusedVariables false

theorem own : ownKnob Try.prog.godebug = none := by kernel_rfl
theorem laidOut : laidOutB Try.prog = true := by kernel_rfl
theorem readable : (Try.f3.params.toList.all fun t => Try.prog.readableRec t && decide (t < Try.prog.types.size)) = true := by kernel_rfl
def codes : List C := [.int .i64, .str, .slice (.int .i64), .slice .str, .slice (.arr 16 .byte)]
theorem fits : fitsL Try.prog codes Try.f3.params.toList = true := by kernel_rfl
theorem rtypes : Try.f3.resultTypes = #[4] := by kernel_rfl

open Go.Abs in
theorem bulk_strs {H : Type} : ∀ (l : List ByteArray), Rows.uptoBulkAll (strs (H := H) l) = l.length + lens (l.map fun s => s.data.toList)
  | [] => rfl
  | s :: r => by
    have := bulk_strs (H := H) r
    simp only [strs, List.map_cons, Rows.uptoBulkAll, Rows.uptoBulk, lens, List.sum_cons, List.length_cons] at this ⊢
    omega
open Go.Abs in
theorem few_of {H : Type} {enc : TypeId × Value → H} {W : World} {v : Value} {d : DataW H} {p : List MemPlace} {F : Nat → Prop} {x : List (List UInt8)} (h : DataW.Trod enc Try.prog W 0 (fun _ => true) true 23 v d p) (hr : RepR W F v (.sl 1 x.length (x.map D.str))) (hb : Rows.uptoBulk d ≤ 1048576) : x.length + lens x ≤ 1000000000 := by
  rcases strs_read Try.underlying23 Try.underlying9 (by kernel_rfl) h hr with rfl | ⟨el, sp, rfl, rfl⟩
  · decide
  · simp only [Rows.uptoBulk, bulk_strs] at hb
    simp only [List.length_map]; omega

set_option maxRecDepth 100000 in
theorem contract {H : Type} {enc : TypeId × Value → H} (W : World) (base : Nat) (args : Array Value) (ds gs : List (DataW H)) (before : List MemPlace)
    (hval : ∀ (j : Nat) t v, Try.f3.params[j]? = some t → args[j]? = some v → Value.okWide Try.prog W .any base t v)
    (hW : DataW.Whole enc Try.prog Try.f3.params.toList Rows.wireEncodeMatchesSpecSpec.vars false W args.toList ds gs before)
    (hwt : ∀ n ∈ DataW.weightsEach Try.prog (Try.f3.params.toList ++ []) (ds ++ gs), n ≤ reachBytes) (hk : Rows.uptoSmall H (ds ++ gs) = true) :
    Calls Try.prog 3 args W fun e W' => ∃ v, e = .returned v ∧ Rows.wireEncodeMatchesSpecSpec.post enc Try.prog Try.f3 false true false false W args v W' := by
  have hW' := hW
  obtain ⟨p, q, hA, hV, hb, hfz, hnd⟩ := hW
  obtain ⟨rfl, rfl⟩ := trodVars_none hV
  rw [List.append_nil, List.append_nil] at hwt
  obtain ⟨xs, hok, ha⟩ := args_read (cs := codes) (base := base) fits (fun j t v ht hv => hval j t v (by simpa using ht) (by simpa using hv)) hA hwt
  have hl := trodAll_len hA
  refine contract_of laidOut readable rtypes Try.underlying4 rfl hW' ?_ ha ?_
  · match ds, hl with
    | [_, _, _, _, _], _ => exact ⟨rfl, rfl, rfl⟩
  · obtain ⟨n, s, l, x, d, ⟨⟩⟩ := xs
    obtain ⟨h1, h2, h3, h4, h5, _⟩ := hok
    have hx : x.length + lens x ≤ 1000000000 := by
      have hbk := of_decide_eq_true hk
      clear hk hW' hl
      rw [Try.params3] at hA
      obtain ⟨v0, vs0, d0, ds0, p0, q0, hv0, rfl, rfl, h0, r0⟩ := trodAll_cons hA
      obtain ⟨v1, vs1, d1, ds1, p1, q1, hv1, rfl, rfl, h1, r1⟩ := trodAll_cons r0
      obtain ⟨v2, vs2, d2, ds2, p2, q2, hv2, rfl, rfl, h2, r2⟩ := trodAll_cons r1
      obtain ⟨v3, vs3, d3, ds3, p3, q3, hv3, rfl, rfl, h3, r3⟩ := trodAll_cons r2
      simp only [List.cons_append, List.append_nil, Rows.uptoBulkAll] at hbk
      have hr := ha.2 3 v3 (.sl 1 x.length (x.map D.str)) (by rw [hv0]; rw [hv1]; rw [hv2]; rw [hv3]; rfl) (by show some (D.sl 1 x.length (List.flatMap (fun x => [D.str x]) x)) = _; rw [flat1])
      exact few_of h3 hr (by omega)
    show Go.Abs.Fn [] Try.prog 3 [.int .i64 n, .str s, .sl 1 l.length (List.flatMap (fun x => [D.int .i64 x]) l), .sl 1 x.length (List.flatMap (fun x => [D.str x]) x), .sl 16 d.length (List.flatMap (fun d : List UInt8 => List.flatMap (fun b => [bD b]) d) d)] (.bool true)
    (try rw [flatB])
    simp only [flat1]
    exact (law_3 [] n s l x d.length d.flatten h2 h3.1 h5.1 (flat_len d fun y hy => (h5.2 y hy).1) hx)

set_option maxRecDepth 100000 in
theorem lifted (os : Os) (started : os.Started) (H : Type) (enc : TypeId × Value → H) (F : Stop.Interp) :
    ReturnsInHanded {} Try.checked os 3 .any ((Rows.OpenSpec.upto Rows.wireEncodeMatchesSpecSpec).pre6 enc Try.prog Try.f3 Rows.wireEncodeMatchesSpecUptoRow.domain false) (((Rows.OpenSpec.upto Rows.wireEncodeMatchesSpecSpec).at F).post enc Try.prog Try.f3 false true false false) := by
  refine returnsInHanded_of_cond_sized (C := Try.checked) (s := Rows.OpenSpec.upto Rows.wireEncodeMatchesSpecSpec) (k := Rows.uptoSmall) rfl own started (by kernel_rfl) Try.func3
    (OpenSpec.witness (enc := enc) (C := Try.checked) (s := Rows.OpenSpec.upto Rows.wireEncodeMatchesSpecSpec) (k := Rows.uptoSmall) rfl false ⟨#[], #[.int .i64 0, .string ByteArray.empty, .slice none 0 0, .slice none 0 0, .slice none 0 0], []⟩ 8 (by kernel_rfl) (by kernel_rfl) (by kernel_rfl)
      (x := ([.lit (.int .i64 0), .lit (.string []), .nil, .nil, .nil], [], [])) (by kernel_rfl) rfl (by kernel_rfl)) ?_
  intro W base args ds gs before hval hW _ hk hwt _
  exact contract W base args ds gs before hval hW (wt_of hwt) hk

theorem over : Rows.wireEncodeMatchesSpecUptoRow.holds Try.pinned (Rows.OpenSpec.upto Rows.wireEncodeMatchesSpecSpec) :=
  OpenClaim.holds_of_cond 3 Try.f3 rfl rfl rfl rfl rfl rfl rfl ⟨rfl, rfl, rfl, rfl, rfl⟩ rfl rfl rfl rfl rfl (by kernel_rfl) Try.func3 (by kernel_rfl)
    (of_decide_eq_true (by kernel_rfl)) (by unfold Func.isWrapper; first | (rw [if_pos (by decide +kernel)]; kernel_rfl) | (rw [if_neg (by decide +kernel)]; exact ⟨rfl, rfl⟩))
    (fun os started H enc _ F => lifted os started H enc F)

theorem proved : Rows.WireEncodeMatchesSpecUptoSaid := over
#print axioms proved
end Go.Proofs.Ytkhjapkjhjkdiaa.wireEncodeMatchesSpec
