/-
  No cell of these rows narrows 'for every input' (looked for: loops, veiled, ifaces, maps, wideKeys, modest, calm, conditions, laid).
  DERIVED. THE GIVEN ROWS OF THIS SEAT. 5 by the template 'for every input the law returns true; each argument reads behind the call as it read before'; 0 by the template 'total and deterministic' (their statements: YtjlbhapjhjmdfaaTotals.lean).
  GIVEN WITH THE SEED: the statements are not yours to turn. If you find one false, say at which input.
  Laid BY PROGRAM, IN A SANDBOX (cutbox-rows.mjs): the forced cells as the released guide's own fill.sh prints them over the translation 42467c9c416fa8a8… (all of the seat's roots in one cut). By AI agents, Wed Nov 11 2026. No macro, syntax, notation, axiom, sorry.
-/
import Derived.Test.YtjlbhapjhjmdfaaChecked
import GoSem.Claim
import GoSem.ClaimJoined
import GoSem.ClaimMapViews
import Derived.JoinedTies
import Derived.KernelRfl
namespace Go.Proofs.Ytjlbhapjhjmdfaa
/- THE CELL 'sum', in the pinned program and in every row, IS THE sha256 OF THE DUMP (.gsa) THAT YtjlbhapjhjmdfaaProg.lean LOADS. Nothing in Lean hashes anything: it is a label: what it is worth is what the hold of that sum in a sandbox is worth. -/
noncomputable def Try.pinned : Pinned := { name := "ytjlbhapjhjmdfaa", sum := "42467c9c416fa8a82131792418b3572bd60a2b00267b1068ff38e4d9a0769247", checked := Try.checked }
namespace Rows
def none {H : Type} : Left H := { results := [], args := [] }

/-- 'quietuslaw25.PadBooksAsSpecified': WHATEVER THE INPUT: true; the input reads as it did. -/
def padBooksAsSpecifiedSpec : ChangeSpec := { name := "padBooksAsSpecified", fn := fun _ => fun
  | [d1, d2, d3] => { results := [.lit (.bool true)], args := [d1, d2, d3] }
  | _ => none }
def padBooksAsSpecifiedRow : OpenClaim := { program := "ytjlbhapjhjmdfaa", sum := "42467c9c416fa8a82131792418b3572bd60a2b00267b1068ff38e4d9a0769247", func := "quietus/quietuslaw25.PadBooksAsSpecified", spec := "padBooksAsSpecified", unfollowed := true, recurses := true, apart := false }
def PadBooksAsSpecifiedSaid : Prop := padBooksAsSpecifiedRow.holds Try.pinned (OpenSpec.ofChange padBooksAsSpecifiedSpec)

/-- ITS FALSE NEIGHBOUR: 'it returns false'. Refute it at one input. -/
def padBooksAsSpecifiedWrong : ChangeSpec := { name := "padBooksAsSpecified", fn := fun _ => fun
  | [d1, d2, d3] => { results := [.lit (.bool false)], args := [d1, d2, d3] }
  | _ => none }
def PadBooksAsSpecifiedWrongFalsely : Prop := padBooksAsSpecifiedRow.holds Try.pinned (OpenSpec.ofChange padBooksAsSpecifiedWrong)

/-- 'quietuslaw25.PadsAgreeAsSpecified': WHATEVER THE INPUT: true; the input reads as it did. -/
def padsAgreeAsSpecifiedSpec : ChangeSpec := { name := "padsAgreeAsSpecified", fn := fun _ => fun
  | [d1, d2, d3] => { results := [.lit (.bool true)], args := [d1, d2, d3] }
  | _ => none }
def padsAgreeAsSpecifiedRow : OpenClaim := { program := "ytjlbhapjhjmdfaa", sum := "42467c9c416fa8a82131792418b3572bd60a2b00267b1068ff38e4d9a0769247", func := "quietus/quietuslaw25.PadsAgreeAsSpecified", spec := "padsAgreeAsSpecified", unfollowed := true, recurses := true, apart := false }
def PadsAgreeAsSpecifiedSaid : Prop := padsAgreeAsSpecifiedRow.holds Try.pinned (OpenSpec.ofChange padsAgreeAsSpecifiedSpec)

/-- ITS FALSE NEIGHBOUR: 'it returns false'. Refute it at one input. -/
def padsAgreeAsSpecifiedWrong : ChangeSpec := { name := "padsAgreeAsSpecified", fn := fun _ => fun
  | [d1, d2, d3] => { results := [.lit (.bool false)], args := [d1, d2, d3] }
  | _ => none }
def PadsAgreeAsSpecifiedWrongFalsely : Prop := padsAgreeAsSpecifiedRow.holds Try.pinned (OpenSpec.ofChange padsAgreeAsSpecifiedWrong)

/-- 'quietuslaw25.PadsHide': WHATEVER THE INPUT: true; the input reads as it did. -/
def padsHideSpec : ChangeSpec := { name := "padsHide", fn := fun _ => fun
  | [d1, d2, d3] => { results := [.lit (.bool true)], args := [d1, d2, d3] }
  | _ => none }
def padsHideRow : OpenClaim := { program := "ytjlbhapjhjmdfaa", sum := "42467c9c416fa8a82131792418b3572bd60a2b00267b1068ff38e4d9a0769247", func := "quietus/quietuslaw25.PadsHide", spec := "padsHide", unfollowed := true, recurses := true, apart := false }
def PadsHideSaid : Prop := padsHideRow.holds Try.pinned (OpenSpec.ofChange padsHideSpec)

/-- ITS FALSE NEIGHBOUR: 'it returns false'. Refute it at one input. -/
def padsHideWrong : ChangeSpec := { name := "padsHide", fn := fun _ => fun
  | [d1, d2, d3] => { results := [.lit (.bool false)], args := [d1, d2, d3] }
  | _ => none }
def PadsHideWrongFalsely : Prop := padsHideRow.holds Try.pinned (OpenSpec.ofChange padsHideWrong)

/-- 'quietuslaw25.PadsAreUsedOnce': WHATEVER THE INPUT: true; the input reads as it did. -/
def padsAreUsedOnceSpec : ChangeSpec := { name := "padsAreUsedOnce", fn := fun _ => fun
  | [d1, d2] => { results := [.lit (.bool true)], args := [d1, d2] }
  | _ => none }
def padsAreUsedOnceRow : OpenClaim := { program := "ytjlbhapjhjmdfaa", sum := "42467c9c416fa8a82131792418b3572bd60a2b00267b1068ff38e4d9a0769247", func := "quietus/quietuslaw25.PadsAreUsedOnce", spec := "padsAreUsedOnce", unfollowed := true, recurses := true, apart := false }
def PadsAreUsedOnceSaid : Prop := padsAreUsedOnceRow.holds Try.pinned (OpenSpec.ofChange padsAreUsedOnceSpec)

/-- ITS FALSE NEIGHBOUR: 'it returns false'. Refute it at one input. -/
def padsAreUsedOnceWrong : ChangeSpec := { name := "padsAreUsedOnce", fn := fun _ => fun
  | [d1, d2] => { results := [.lit (.bool false)], args := [d1, d2] }
  | _ => none }
def PadsAreUsedOnceWrongFalsely : Prop := padsAreUsedOnceRow.holds Try.pinned (OpenSpec.ofChange padsAreUsedOnceWrong)

/-- 'quietuslaw25.PadsAreForgotten': WHATEVER THE INPUT: true; the input reads as it did. -/
def padsAreForgottenSpec : ChangeSpec := { name := "padsAreForgotten", fn := fun _ => fun
  | [d1, d2, d3, d4] => { results := [.lit (.bool true)], args := [d1, d2, d3, d4] }
  | _ => none }
def padsAreForgottenRow : OpenClaim := { program := "ytjlbhapjhjmdfaa", sum := "42467c9c416fa8a82131792418b3572bd60a2b00267b1068ff38e4d9a0769247", func := "quietus/quietuslaw25.PadsAreForgotten", spec := "padsAreForgotten", unfollowed := true, recurses := true, apart := false }
def PadsAreForgottenSaid : Prop := padsAreForgottenRow.holds Try.pinned (OpenSpec.ofChange padsAreForgottenSpec)

/-- ITS FALSE NEIGHBOUR: 'it returns false'. Refute it at one input. -/
def padsAreForgottenWrong : ChangeSpec := { name := "padsAreForgotten", fn := fun _ => fun
  | [d1, d2, d3, d4] => { results := [.lit (.bool false)], args := [d1, d2, d3, d4] }
  | _ => none }
def PadsAreForgottenWrongFalsely : Prop := padsAreForgottenRow.holds Try.pinned (OpenSpec.ofChange padsAreForgottenWrong)

/- THE SECOND FORM. 'bulk': how many values and letters a reading holds, each counted each time it is reached (what is shared counts as often as it is met; a slice's spare places count too). A statement '..UptoSaid' is the law's where the arguments, and the package variables that the reading takes, are together of bulk at most 1048576: NARROWER than '..Said'. Prove '..Said' where nothing that the law and all that it calls make is longer than what came in: it says more and counts as full. Else prove '..UptoSaid'. A law counts once. -/
mutual
def uptoBulk {H : Type} : DataW H → Nat
  | .lit (.string bytes) => bytes.length + 1
  | .lit _ => 1
  | .nil => 1
  | .ptr d => uptoBulk d + 1
  | .slice elems spare => uptoBulkAll elems + uptoBulkAll spare + 1
  | .agg parts => uptoBulkAll parts + 1
  | .iface _ d => uptoBulk d + 1
  | .map entries => uptoBulkEntries entries + 1
  | .held _ => 1
def uptoBulkAll {H : Type} : List (DataW H) → Nat
  | [] => 0
  | d :: r => uptoBulk d + uptoBulkAll r
def uptoBulkEntries {H : Type} : List (Lit × DataW H) → Nat
  | [] => 0
  | x :: r => uptoBulkEntry x + uptoBulkEntries r
def uptoBulkEntry {H : Type} : Lit × DataW H → Nat
  | (.string bytes, d) => bytes.length + uptoBulk d + 1
  | (_, d) => uptoBulk d + 1
 end
def uptoSmall : (H : Type) → List (DataW H) → Bool := fun _ ds => decide (uptoBulkAll ds ≤ 1048576)
def OpenSpec.upto (s : _root_.Go.ChangeSpec) : _root_.Go.OpenSpec := { _root_.Go.OpenSpec.ofChange s with cond := some uptoSmall }

/-- 'quietuslaw25.PadBooksAsSpecified', WHERE WHAT IT READS IS OF BULK AT MOST 1048576: true; the input reads as it did. -/
def padBooksAsSpecifiedUptoRow : OpenClaim := { program := "ytjlbhapjhjmdfaa", sum := "42467c9c416fa8a82131792418b3572bd60a2b00267b1068ff38e4d9a0769247", func := "quietus/quietuslaw25.PadBooksAsSpecified", spec := "padBooksAsSpecified", unfollowed := true, recurses := true, apart := false, narrowed := true }
def PadBooksAsSpecifiedUptoSaid : Prop := padBooksAsSpecifiedUptoRow.holds Try.pinned (OpenSpec.upto padBooksAsSpecifiedSpec)

/-- 'quietuslaw25.PadsAgreeAsSpecified', WHERE WHAT IT READS IS OF BULK AT MOST 1048576: true; the input reads as it did. -/
def padsAgreeAsSpecifiedUptoRow : OpenClaim := { program := "ytjlbhapjhjmdfaa", sum := "42467c9c416fa8a82131792418b3572bd60a2b00267b1068ff38e4d9a0769247", func := "quietus/quietuslaw25.PadsAgreeAsSpecified", spec := "padsAgreeAsSpecified", unfollowed := true, recurses := true, apart := false, narrowed := true }
def PadsAgreeAsSpecifiedUptoSaid : Prop := padsAgreeAsSpecifiedUptoRow.holds Try.pinned (OpenSpec.upto padsAgreeAsSpecifiedSpec)

/-- 'quietuslaw25.PadsHide', WHERE WHAT IT READS IS OF BULK AT MOST 1048576: true; the input reads as it did. -/
def padsHideUptoRow : OpenClaim := { program := "ytjlbhapjhjmdfaa", sum := "42467c9c416fa8a82131792418b3572bd60a2b00267b1068ff38e4d9a0769247", func := "quietus/quietuslaw25.PadsHide", spec := "padsHide", unfollowed := true, recurses := true, apart := false, narrowed := true }
def PadsHideUptoSaid : Prop := padsHideUptoRow.holds Try.pinned (OpenSpec.upto padsHideSpec)

/-- 'quietuslaw25.PadsAreUsedOnce', WHERE WHAT IT READS IS OF BULK AT MOST 1048576: true; the input reads as it did. -/
def padsAreUsedOnceUptoRow : OpenClaim := { program := "ytjlbhapjhjmdfaa", sum := "42467c9c416fa8a82131792418b3572bd60a2b00267b1068ff38e4d9a0769247", func := "quietus/quietuslaw25.PadsAreUsedOnce", spec := "padsAreUsedOnce", unfollowed := true, recurses := true, apart := false, narrowed := true }
def PadsAreUsedOnceUptoSaid : Prop := padsAreUsedOnceUptoRow.holds Try.pinned (OpenSpec.upto padsAreUsedOnceSpec)

/-- 'quietuslaw25.PadsAreForgotten', WHERE WHAT IT READS IS OF BULK AT MOST 1048576: true; the input reads as it did. -/
def padsAreForgottenUptoRow : OpenClaim := { program := "ytjlbhapjhjmdfaa", sum := "42467c9c416fa8a82131792418b3572bd60a2b00267b1068ff38e4d9a0769247", func := "quietus/quietuslaw25.PadsAreForgotten", spec := "padsAreForgotten", unfollowed := true, recurses := true, apart := false, narrowed := true }
def PadsAreForgottenUptoSaid : Prop := padsAreForgottenUptoRow.holds Try.pinned (OpenSpec.upto padsAreForgottenSpec)

end Rows
end Go.Proofs.Ytjlbhapjhjmdfaa
