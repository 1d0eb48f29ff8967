/-
  No cell of these rows narrows 'for every input' (looked for: loops, veiled, ifaces, maps, wideKeys, modest, calm, conditions, laid).
  DERIVED. THE GIVEN ROWS OF THIS SEAT. 7 by the template 'for every input the law returns true; each argument reads behind the call as it read before'; 0 by the template 'total and deterministic' (their statements: YtdjfnipabekkaaaTotals.lean).
  GIVEN WITH THE SEED: the statements are not yours to turn. If you find one false, say at which input.
  Laid BY PROGRAM, IN A SANDBOX (cutbox-rows.mjs): the forced cells as the released guide's own fill.sh prints them over the translation aa57abb3a7778a8a… (all of the seat's roots in one cut). By AI agents, Wed Nov 11 2026. No macro, syntax, notation, axiom, sorry.
-/
import Derived.Test.YtdjfnipabekkaaaChecked
import GoSem.Claim
import GoSem.ClaimJoined
import GoSem.ClaimMapViews
import Derived.JoinedTies
import Derived.KernelRfl
namespace Go.Proofs.Ytdjfnipabekkaaa
/- THE CELL 'sum', in the pinned program and in every row, IS THE sha256 OF THE DUMP (.gsa) THAT YtdjfnipabekkaaaProg.lean LOADS. Nothing in Lean hashes anything: it is a label: what it is worth is what the hold of that sum in a sandbox is worth. -/
noncomputable def Try.pinned : Pinned := { name := "ytdjfnipabekkaaa", sum := "aa57abb3a7778a8a2a3afc5135aa2757f740f63ea05da7efe4bce28637f130b6", checked := Try.checked }
namespace Rows
def none {H : Type} : Left H := { results := [], args := [] }

/-- 'quietuslaw14.ClockReadsAsSpecified': WHATEVER THE INPUT: true; the input reads as it did. -/
def clockReadsAsSpecifiedSpec : ChangeSpec := { name := "clockReadsAsSpecified", fn := fun _ => fun
  | [d1, d2, d3] => { results := [.lit (.bool true)], args := [d1, d2, d3] }
  | _ => none }
def clockReadsAsSpecifiedRow : OpenClaim := { program := "ytdjfnipabekkaaa", sum := "aa57abb3a7778a8a2a3afc5135aa2757f740f63ea05da7efe4bce28637f130b6", func := "quietus/quietuslaw14.ClockReadsAsSpecified", spec := "clockReadsAsSpecified", unfollowed := true, recurses := true, apart := false }
def ClockReadsAsSpecifiedSaid : Prop := clockReadsAsSpecifiedRow.holds Try.pinned (OpenSpec.ofChange clockReadsAsSpecifiedSpec)

/-- ITS FALSE NEIGHBOUR: 'it returns false'. Refute it at one input. -/
def clockReadsAsSpecifiedWrong : ChangeSpec := { name := "clockReadsAsSpecified", fn := fun _ => fun
  | [d1, d2, d3] => { results := [.lit (.bool false)], args := [d1, d2, d3] }
  | _ => none }
def ClockReadsAsSpecifiedWrongFalsely : Prop := clockReadsAsSpecifiedRow.holds Try.pinned (OpenSpec.ofChange clockReadsAsSpecifiedWrong)

/-- 'quietuslaw14.ClockAnswersAsSpecified': WHATEVER THE INPUT: true; the input reads as it did. -/
def clockAnswersAsSpecifiedSpec : ChangeSpec := { name := "clockAnswersAsSpecified", fn := fun _ => fun
  | [d1, d2, d3] => { results := [.lit (.bool true)], args := [d1, d2, d3] }
  | _ => none }
def clockAnswersAsSpecifiedRow : OpenClaim := { program := "ytdjfnipabekkaaa", sum := "aa57abb3a7778a8a2a3afc5135aa2757f740f63ea05da7efe4bce28637f130b6", func := "quietus/quietuslaw14.ClockAnswersAsSpecified", spec := "clockAnswersAsSpecified", unfollowed := true, recurses := true, apart := false }
def ClockAnswersAsSpecifiedSaid : Prop := clockAnswersAsSpecifiedRow.holds Try.pinned (OpenSpec.ofChange clockAnswersAsSpecifiedSpec)

/-- ITS FALSE NEIGHBOUR: 'it returns false'. Refute it at one input. -/
def clockAnswersAsSpecifiedWrong : ChangeSpec := { name := "clockAnswersAsSpecified", fn := fun _ => fun
  | [d1, d2, d3] => { results := [.lit (.bool false)], args := [d1, d2, d3] }
  | _ => none }
def ClockAnswersAsSpecifiedWrongFalsely : Prop := clockAnswersAsSpecifiedRow.holds Try.pinned (OpenSpec.ofChange clockAnswersAsSpecifiedWrong)

/-- 'quietuslaw14.ClockDeadlinesAsSpecified': WHATEVER THE INPUT: true; the input reads as it did. -/
def clockDeadlinesAsSpecifiedSpec : ChangeSpec := { name := "clockDeadlinesAsSpecified", fn := fun _ => fun
  | [d1, d2] => { results := [.lit (.bool true)], args := [d1, d2] }
  | _ => none }
def clockDeadlinesAsSpecifiedRow : OpenClaim := { program := "ytdjfnipabekkaaa", sum := "aa57abb3a7778a8a2a3afc5135aa2757f740f63ea05da7efe4bce28637f130b6", func := "quietus/quietuslaw14.ClockDeadlinesAsSpecified", spec := "clockDeadlinesAsSpecified", unfollowed := true, recurses := true, apart := false }
def ClockDeadlinesAsSpecifiedSaid : Prop := clockDeadlinesAsSpecifiedRow.holds Try.pinned (OpenSpec.ofChange clockDeadlinesAsSpecifiedSpec)

/-- ITS FALSE NEIGHBOUR: 'it returns false'. Refute it at one input. -/
def clockDeadlinesAsSpecifiedWrong : ChangeSpec := { name := "clockDeadlinesAsSpecified", fn := fun _ => fun
  | [d1, d2] => { results := [.lit (.bool false)], args := [d1, d2] }
  | _ => none }
def ClockDeadlinesAsSpecifiedWrongFalsely : Prop := clockDeadlinesAsSpecifiedRow.holds Try.pinned (OpenSpec.ofChange clockDeadlinesAsSpecifiedWrong)

/-- 'quietuslaw14.ClockPassesExactly': WHATEVER THE INPUT: true; the input reads as it did. -/
def clockPassesExactlySpec : ChangeSpec := { name := "clockPassesExactly", fn := fun _ => fun
  | [d1, d2, d3] => { results := [.lit (.bool true)], args := [d1, d2, d3] }
  | _ => none }
def clockPassesExactlyRow : OpenClaim := { program := "ytdjfnipabekkaaa", sum := "aa57abb3a7778a8a2a3afc5135aa2757f740f63ea05da7efe4bce28637f130b6", func := "quietus/quietuslaw14.ClockPassesExactly", spec := "clockPassesExactly", unfollowed := true, recurses := true, apart := false }
def ClockPassesExactlySaid : Prop := clockPassesExactlyRow.holds Try.pinned (OpenSpec.ofChange clockPassesExactlySpec)

/-- ITS FALSE NEIGHBOUR: 'it returns false'. Refute it at one input. -/
def clockPassesExactlyWrong : ChangeSpec := { name := "clockPassesExactly", fn := fun _ => fun
  | [d1, d2, d3] => { results := [.lit (.bool false)], args := [d1, d2, d3] }
  | _ => none }
def ClockPassesExactlyWrongFalsely : Prop := clockPassesExactlyRow.holds Try.pinned (OpenSpec.ofChange clockPassesExactlyWrong)

/-- 'quietuslaw14.ClockHoldsTheTruth': WHATEVER THE INPUT: true; the input reads as it did. -/
def clockHoldsTheTruthSpec : ChangeSpec := { name := "clockHoldsTheTruth", fn := fun _ => fun
  | [d] => { results := [.lit (.bool true)], args := [d] }
  | _ => none }
def clockHoldsTheTruthRow : OpenClaim := { program := "ytdjfnipabekkaaa", sum := "aa57abb3a7778a8a2a3afc5135aa2757f740f63ea05da7efe4bce28637f130b6", func := "quietus/quietuslaw14.ClockHoldsTheTruth", spec := "clockHoldsTheTruth", unfollowed := true, recurses := true, apart := false }
def ClockHoldsTheTruthSaid : Prop := clockHoldsTheTruthRow.holds Try.pinned (OpenSpec.ofChange clockHoldsTheTruthSpec)

/-- ITS FALSE NEIGHBOUR: 'it returns false'. Refute it at one input. -/
def clockHoldsTheTruthWrong : ChangeSpec := { name := "clockHoldsTheTruth", fn := fun _ => fun
  | [d] => { results := [.lit (.bool false)], args := [d] }
  | _ => none }
def ClockHoldsTheTruthWrongFalsely : Prop := clockHoldsTheTruthRow.holds Try.pinned (OpenSpec.ofChange clockHoldsTheTruthWrong)

/-- 'quietuslaw14.ClockDeadlinesAreSure': WHATEVER THE INPUT: true; the input reads as it did. -/
def clockDeadlinesAreSureSpec : ChangeSpec := { name := "clockDeadlinesAreSure", fn := fun _ => fun
  | [d1, d2] => { results := [.lit (.bool true)], args := [d1, d2] }
  | _ => none }
def clockDeadlinesAreSureRow : OpenClaim := { program := "ytdjfnipabekkaaa", sum := "aa57abb3a7778a8a2a3afc5135aa2757f740f63ea05da7efe4bce28637f130b6", func := "quietus/quietuslaw14.ClockDeadlinesAreSure", spec := "clockDeadlinesAreSure", unfollowed := true, recurses := true, apart := false }
def ClockDeadlinesAreSureSaid : Prop := clockDeadlinesAreSureRow.holds Try.pinned (OpenSpec.ofChange clockDeadlinesAreSureSpec)

/-- ITS FALSE NEIGHBOUR: 'it returns false'. Refute it at one input. -/
def clockDeadlinesAreSureWrong : ChangeSpec := { name := "clockDeadlinesAreSure", fn := fun _ => fun
  | [d1, d2] => { results := [.lit (.bool false)], args := [d1, d2] }
  | _ => none }
def ClockDeadlinesAreSureWrongFalsely : Prop := clockDeadlinesAreSureRow.holds Try.pinned (OpenSpec.ofChange clockDeadlinesAreSureWrong)

/-- 'quietuslaw14.ClockIsMonotone': WHATEVER THE INPUT: true; the input reads as it did. -/
def clockIsMonotoneSpec : ChangeSpec := { name := "clockIsMonotone", fn := fun _ => fun
  | [d1, d2, d3] => { results := [.lit (.bool true)], args := [d1, d2, d3] }
  | _ => none }
def clockIsMonotoneRow : OpenClaim := { program := "ytdjfnipabekkaaa", sum := "aa57abb3a7778a8a2a3afc5135aa2757f740f63ea05da7efe4bce28637f130b6", func := "quietus/quietuslaw14.ClockIsMonotone", spec := "clockIsMonotone", unfollowed := true, recurses := true, apart := false }
def ClockIsMonotoneSaid : Prop := clockIsMonotoneRow.holds Try.pinned (OpenSpec.ofChange clockIsMonotoneSpec)

/-- ITS FALSE NEIGHBOUR: 'it returns false'. Refute it at one input. -/
def clockIsMonotoneWrong : ChangeSpec := { name := "clockIsMonotone", fn := fun _ => fun
  | [d1, d2, d3] => { results := [.lit (.bool false)], args := [d1, d2, d3] }
  | _ => none }
def ClockIsMonotoneWrongFalsely : Prop := clockIsMonotoneRow.holds Try.pinned (OpenSpec.ofChange clockIsMonotoneWrong)

/- THE SECOND FORM. 'bulk': how many values and letters a reading holds, each counted each time it is reached (what is shared counts as often as it is met; a slice's spare places count too). A statement '..UptoSaid' is the law's where the arguments, and the package variables that the reading takes, are together of bulk at most 1048576: NARROWER than '..Said'. Prove '..Said' where nothing that the law and all that it calls make is longer than what came in: it says more and counts as full. Else prove '..UptoSaid'. A law counts once. -/
mutual
def uptoBulk {H : Type} : DataW H → Nat
  | .lit (.string bytes) => bytes.length + 1
  | .lit _ => 1
  | .nil => 1
  | .ptr d => uptoBulk d + 1
  | .slice elems spare => uptoBulkAll elems + uptoBulkAll spare + 1
  | .agg parts => uptoBulkAll parts + 1
  | .iface _ d => uptoBulk d + 1
  | .map entries => uptoBulkEntries entries + 1
  | .held _ => 1
def uptoBulkAll {H : Type} : List (DataW H) → Nat
  | [] => 0
  | d :: r => uptoBulk d + uptoBulkAll r
def uptoBulkEntries {H : Type} : List (Lit × DataW H) → Nat
  | [] => 0
  | x :: r => uptoBulkEntry x + uptoBulkEntries r
def uptoBulkEntry {H : Type} : Lit × DataW H → Nat
  | (.string bytes, d) => bytes.length + uptoBulk d + 1
  | (_, d) => uptoBulk d + 1
 end
def uptoSmall : (H : Type) → List (DataW H) → Bool := fun _ ds => decide (uptoBulkAll ds ≤ 1048576)
def OpenSpec.upto (s : _root_.Go.ChangeSpec) : _root_.Go.OpenSpec := { _root_.Go.OpenSpec.ofChange s with cond := some uptoSmall }

/-- 'quietuslaw14.ClockReadsAsSpecified', WHERE WHAT IT READS IS OF BULK AT MOST 1048576: true; the input reads as it did. -/
def clockReadsAsSpecifiedUptoRow : OpenClaim := { program := "ytdjfnipabekkaaa", sum := "aa57abb3a7778a8a2a3afc5135aa2757f740f63ea05da7efe4bce28637f130b6", func := "quietus/quietuslaw14.ClockReadsAsSpecified", spec := "clockReadsAsSpecified", unfollowed := true, recurses := true, apart := false, narrowed := true }
def ClockReadsAsSpecifiedUptoSaid : Prop := clockReadsAsSpecifiedUptoRow.holds Try.pinned (OpenSpec.upto clockReadsAsSpecifiedSpec)

/-- 'quietuslaw14.ClockAnswersAsSpecified', WHERE WHAT IT READS IS OF BULK AT MOST 1048576: true; the input reads as it did. -/
def clockAnswersAsSpecifiedUptoRow : OpenClaim := { program := "ytdjfnipabekkaaa", sum := "aa57abb3a7778a8a2a3afc5135aa2757f740f63ea05da7efe4bce28637f130b6", func := "quietus/quietuslaw14.ClockAnswersAsSpecified", spec := "clockAnswersAsSpecified", unfollowed := true, recurses := true, apart := false, narrowed := true }
def ClockAnswersAsSpecifiedUptoSaid : Prop := clockAnswersAsSpecifiedUptoRow.holds Try.pinned (OpenSpec.upto clockAnswersAsSpecifiedSpec)

/-- 'quietuslaw14.ClockDeadlinesAsSpecified', WHERE WHAT IT READS IS OF BULK AT MOST 1048576: true; the input reads as it did. -/
def clockDeadlinesAsSpecifiedUptoRow : OpenClaim := { program := "ytdjfnipabekkaaa", sum := "aa57abb3a7778a8a2a3afc5135aa2757f740f63ea05da7efe4bce28637f130b6", func := "quietus/quietuslaw14.ClockDeadlinesAsSpecified", spec := "clockDeadlinesAsSpecified", unfollowed := true, recurses := true, apart := false, narrowed := true }
def ClockDeadlinesAsSpecifiedUptoSaid : Prop := clockDeadlinesAsSpecifiedUptoRow.holds Try.pinned (OpenSpec.upto clockDeadlinesAsSpecifiedSpec)

/-- 'quietuslaw14.ClockPassesExactly', WHERE WHAT IT READS IS OF BULK AT MOST 1048576: true; the input reads as it did. -/
def clockPassesExactlyUptoRow : OpenClaim := { program := "ytdjfnipabekkaaa", sum := "aa57abb3a7778a8a2a3afc5135aa2757f740f63ea05da7efe4bce28637f130b6", func := "quietus/quietuslaw14.ClockPassesExactly", spec := "clockPassesExactly", unfollowed := true, recurses := true, apart := false, narrowed := true }
def ClockPassesExactlyUptoSaid : Prop := clockPassesExactlyUptoRow.holds Try.pinned (OpenSpec.upto clockPassesExactlySpec)

/-- 'quietuslaw14.ClockHoldsTheTruth', WHERE WHAT IT READS IS OF BULK AT MOST 1048576: true; the input reads as it did. -/
def clockHoldsTheTruthUptoRow : OpenClaim := { program := "ytdjfnipabekkaaa", sum := "aa57abb3a7778a8a2a3afc5135aa2757f740f63ea05da7efe4bce28637f130b6", func := "quietus/quietuslaw14.ClockHoldsTheTruth", spec := "clockHoldsTheTruth", unfollowed := true, recurses := true, apart := false, narrowed := true }
def ClockHoldsTheTruthUptoSaid : Prop := clockHoldsTheTruthUptoRow.holds Try.pinned (OpenSpec.upto clockHoldsTheTruthSpec)

/-- 'quietuslaw14.ClockDeadlinesAreSure', WHERE WHAT IT READS IS OF BULK AT MOST 1048576: true; the input reads as it did. -/
def clockDeadlinesAreSureUptoRow : OpenClaim := { program := "ytdjfnipabekkaaa", sum := "aa57abb3a7778a8a2a3afc5135aa2757f740f63ea05da7efe4bce28637f130b6", func := "quietus/quietuslaw14.ClockDeadlinesAreSure", spec := "clockDeadlinesAreSure", unfollowed := true, recurses := true, apart := false, narrowed := true }
def ClockDeadlinesAreSureUptoSaid : Prop := clockDeadlinesAreSureUptoRow.holds Try.pinned (OpenSpec.upto clockDeadlinesAreSureSpec)

/-- 'quietuslaw14.ClockIsMonotone', WHERE WHAT IT READS IS OF BULK AT MOST 1048576: true; the input reads as it did. -/
def clockIsMonotoneUptoRow : OpenClaim := { program := "ytdjfnipabekkaaa", sum := "aa57abb3a7778a8a2a3afc5135aa2757f740f63ea05da7efe4bce28637f130b6", func := "quietus/quietuslaw14.ClockIsMonotone", spec := "clockIsMonotone", unfollowed := true, recurses := true, apart := false, narrowed := true }
def ClockIsMonotoneUptoSaid : Prop := clockIsMonotoneUptoRow.holds Try.pinned (OpenSpec.upto clockIsMonotoneSpec)

end Rows
end Go.Proofs.Ytdjfnipabekkaaa
