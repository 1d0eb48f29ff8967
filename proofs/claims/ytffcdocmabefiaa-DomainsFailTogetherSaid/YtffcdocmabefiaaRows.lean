/-
  No cell of these rows narrows 'for every input' (looked for: loops, veiled, ifaces, maps, wideKeys, modest, calm, conditions, laid).
  DERIVED. THE GIVEN ROWS OF THIS SEAT. 4 by the template 'for every input the law returns true; each argument reads behind the call as it read before'; 0 by the template 'total and deterministic' (their statements: YtffcdocmabefiaaTotals.lean).
  GIVEN WITH THE SEED: the statements are not yours to turn. If you find one false, say at which input.
  Laid BY PROGRAM, IN A SANDBOX (cutbox-rows.mjs): the forced cells as the released guide's own fill.sh prints them over the translation 81f68dee2c093fe9… (all of the seat's roots in one cut). By AI agents, Wed Nov 11 2026. No macro, syntax, notation, axiom, sorry.
-/
import Derived.Test.YtffcdocmabefiaaChecked
import GoSem.Claim
import GoSem.ClaimJoined
import GoSem.ClaimMapViews
import Derived.JoinedTies
import Derived.KernelRfl
namespace Go.Proofs.Ytffcdocmabefiaa
/- THE CELL 'sum', in the pinned program and in every row, IS THE sha256 OF THE DUMP (.gsa) THAT YtffcdocmabefiaaProg.lean LOADS. Nothing in Lean hashes anything: it is a label: what it is worth is what the hold of that sum in a sandbox is worth. -/
noncomputable def Try.pinned : Pinned := { name := "ytffcdocmabefiaa", sum := "81f68dee2c093fe961149558ec61d338c6387e21cdf146c0aaab79bd8f3502d6", checked := Try.checked }
namespace Rows
def none {H : Type} : Left H := { results := [], args := [] }

/-- 'quietuslaw10.DomainNamesAsSpecified': WHATEVER THE INPUT: true; the input reads as it did. -/
def domainNamesAsSpecifiedSpec : ChangeSpec := { name := "domainNamesAsSpecified", fn := fun _ => fun
  | [d1, d2] => { results := [.lit (.bool true)], args := [d1, d2] }
  | _ => none }
def domainNamesAsSpecifiedRow : OpenClaim := { program := "ytffcdocmabefiaa", sum := "81f68dee2c093fe961149558ec61d338c6387e21cdf146c0aaab79bd8f3502d6", func := "quietus/quietuslaw10.DomainNamesAsSpecified", spec := "domainNamesAsSpecified", unfollowed := true, recurses := true, apart := false }
def DomainNamesAsSpecifiedSaid : Prop := domainNamesAsSpecifiedRow.holds Try.pinned (OpenSpec.ofChange domainNamesAsSpecifiedSpec)

/-- ITS FALSE NEIGHBOUR: 'it returns false'. Refute it at one input. -/
def domainNamesAsSpecifiedWrong : ChangeSpec := { name := "domainNamesAsSpecified", fn := fun _ => fun
  | [d1, d2] => { results := [.lit (.bool false)], args := [d1, d2] }
  | _ => none }
def DomainNamesAsSpecifiedWrongFalsely : Prop := domainNamesAsSpecifiedRow.holds Try.pinned (OpenSpec.ofChange domainNamesAsSpecifiedWrong)

/-- 'quietuslaw10.DomainsAreNested': WHATEVER THE INPUT: true; the input reads as it did. -/
def domainsAreNestedSpec : ChangeSpec := { name := "domainsAreNested", fn := fun _ => fun
  | [d1, d2] => { results := [.lit (.bool true)], args := [d1, d2] }
  | _ => none }
def domainsAreNestedRow : OpenClaim := { program := "ytffcdocmabefiaa", sum := "81f68dee2c093fe961149558ec61d338c6387e21cdf146c0aaab79bd8f3502d6", func := "quietus/quietuslaw10.DomainsAreNested", spec := "domainsAreNested", unfollowed := true, recurses := true, apart := false }
def DomainsAreNestedSaid : Prop := domainsAreNestedRow.holds Try.pinned (OpenSpec.ofChange domainsAreNestedSpec)

/-- ITS FALSE NEIGHBOUR: 'it returns false'. Refute it at one input. -/
def domainsAreNestedWrong : ChangeSpec := { name := "domainsAreNested", fn := fun _ => fun
  | [d1, d2] => { results := [.lit (.bool false)], args := [d1, d2] }
  | _ => none }
def DomainsAreNestedWrongFalsely : Prop := domainsAreNestedRow.holds Try.pinned (OpenSpec.ofChange domainsAreNestedWrong)

/-- 'quietuslaw10.DomainsFailTogether': WHATEVER THE INPUT: true; the input reads as it did. -/
def domainsFailTogetherSpec : ChangeSpec := { name := "domainsFailTogether", fn := fun _ => fun
  | [d1, d2, d3, d4] => { results := [.lit (.bool true)], args := [d1, d2, d3, d4] }
  | _ => none }
def domainsFailTogetherRow : OpenClaim := { program := "ytffcdocmabefiaa", sum := "81f68dee2c093fe961149558ec61d338c6387e21cdf146c0aaab79bd8f3502d6", func := "quietus/quietuslaw10.DomainsFailTogether", spec := "domainsFailTogether", unfollowed := true, recurses := true, apart := false }
def DomainsFailTogetherSaid : Prop := domainsFailTogetherRow.holds Try.pinned (OpenSpec.ofChange domainsFailTogetherSpec)

/-- ITS FALSE NEIGHBOUR: 'it returns false'. Refute it at one input. -/
def domainsFailTogetherWrong : ChangeSpec := { name := "domainsFailTogether", fn := fun _ => fun
  | [d1, d2, d3, d4] => { results := [.lit (.bool false)], args := [d1, d2, d3, d4] }
  | _ => none }
def DomainsFailTogetherWrongFalsely : Prop := domainsFailTogetherRow.holds Try.pinned (OpenSpec.ofChange domainsFailTogetherWrong)

/-- 'quietuslaw10.DomainsChange': WHATEVER THE INPUT: true; the input reads as it did. -/
def domainsChangeSpec : ChangeSpec := { name := "domainsChange", fn := fun _ => fun
  | [d1, d2] => { results := [.lit (.bool true)], args := [d1, d2] }
  | _ => none }
def domainsChangeRow : OpenClaim := { program := "ytffcdocmabefiaa", sum := "81f68dee2c093fe961149558ec61d338c6387e21cdf146c0aaab79bd8f3502d6", func := "quietus/quietuslaw10.DomainsChange", spec := "domainsChange", unfollowed := true, recurses := true, apart := false }
def DomainsChangeSaid : Prop := domainsChangeRow.holds Try.pinned (OpenSpec.ofChange domainsChangeSpec)

/-- ITS FALSE NEIGHBOUR: 'it returns false'. Refute it at one input. -/
def domainsChangeWrong : ChangeSpec := { name := "domainsChange", fn := fun _ => fun
  | [d1, d2] => { results := [.lit (.bool false)], args := [d1, d2] }
  | _ => none }
def DomainsChangeWrongFalsely : Prop := domainsChangeRow.holds Try.pinned (OpenSpec.ofChange domainsChangeWrong)

/- THE SECOND FORM. 'bulk': how many values and letters a reading holds, each counted each time it is reached (what is shared counts as often as it is met; a slice's spare places count too). A statement '..UptoSaid' is the law's where the arguments, and the package variables that the reading takes, are together of bulk at most 1048576: NARROWER than '..Said'. Prove '..Said' where nothing that the law and all that it calls make is longer than what came in: it says more and counts as full. Else prove '..UptoSaid'. A law counts once. -/
mutual
def uptoBulk {H : Type} : DataW H → Nat
  | .lit (.string bytes) => bytes.length + 1
  | .lit _ => 1
  | .nil => 1
  | .ptr d => uptoBulk d + 1
  | .slice elems spare => uptoBulkAll elems + uptoBulkAll spare + 1
  | .agg parts => uptoBulkAll parts + 1
  | .iface _ d => uptoBulk d + 1
  | .map entries => uptoBulkEntries entries + 1
  | .held _ => 1
def uptoBulkAll {H : Type} : List (DataW H) → Nat
  | [] => 0
  | d :: r => uptoBulk d + uptoBulkAll r
def uptoBulkEntries {H : Type} : List (Lit × DataW H) → Nat
  | [] => 0
  | x :: r => uptoBulkEntry x + uptoBulkEntries r
def uptoBulkEntry {H : Type} : Lit × DataW H → Nat
  | (.string bytes, d) => bytes.length + uptoBulk d + 1
  | (_, d) => uptoBulk d + 1
 end
def uptoSmall : (H : Type) → List (DataW H) → Bool := fun _ ds => decide (uptoBulkAll ds ≤ 1048576)
def OpenSpec.upto (s : _root_.Go.ChangeSpec) : _root_.Go.OpenSpec := { _root_.Go.OpenSpec.ofChange s with cond := some uptoSmall }

/-- 'quietuslaw10.DomainNamesAsSpecified', WHERE WHAT IT READS IS OF BULK AT MOST 1048576: true; the input reads as it did. -/
def domainNamesAsSpecifiedUptoRow : OpenClaim := { program := "ytffcdocmabefiaa", sum := "81f68dee2c093fe961149558ec61d338c6387e21cdf146c0aaab79bd8f3502d6", func := "quietus/quietuslaw10.DomainNamesAsSpecified", spec := "domainNamesAsSpecified", unfollowed := true, recurses := true, apart := false, narrowed := true }
def DomainNamesAsSpecifiedUptoSaid : Prop := domainNamesAsSpecifiedUptoRow.holds Try.pinned (OpenSpec.upto domainNamesAsSpecifiedSpec)

/-- 'quietuslaw10.DomainsAreNested', WHERE WHAT IT READS IS OF BULK AT MOST 1048576: true; the input reads as it did. -/
def domainsAreNestedUptoRow : OpenClaim := { program := "ytffcdocmabefiaa", sum := "81f68dee2c093fe961149558ec61d338c6387e21cdf146c0aaab79bd8f3502d6", func := "quietus/quietuslaw10.DomainsAreNested", spec := "domainsAreNested", unfollowed := true, recurses := true, apart := false, narrowed := true }
def DomainsAreNestedUptoSaid : Prop := domainsAreNestedUptoRow.holds Try.pinned (OpenSpec.upto domainsAreNestedSpec)

/-- 'quietuslaw10.DomainsFailTogether', WHERE WHAT IT READS IS OF BULK AT MOST 1048576: true; the input reads as it did. -/
def domainsFailTogetherUptoRow : OpenClaim := { program := "ytffcdocmabefiaa", sum := "81f68dee2c093fe961149558ec61d338c6387e21cdf146c0aaab79bd8f3502d6", func := "quietus/quietuslaw10.DomainsFailTogether", spec := "domainsFailTogether", unfollowed := true, recurses := true, apart := false, narrowed := true }
def DomainsFailTogetherUptoSaid : Prop := domainsFailTogetherUptoRow.holds Try.pinned (OpenSpec.upto domainsFailTogetherSpec)

/-- 'quietuslaw10.DomainsChange', WHERE WHAT IT READS IS OF BULK AT MOST 1048576: true; the input reads as it did. -/
def domainsChangeUptoRow : OpenClaim := { program := "ytffcdocmabefiaa", sum := "81f68dee2c093fe961149558ec61d338c6387e21cdf146c0aaab79bd8f3502d6", func := "quietus/quietuslaw10.DomainsChange", spec := "domainsChange", unfollowed := true, recurses := true, apart := false, narrowed := true }
def DomainsChangeUptoSaid : Prop := domainsChangeUptoRow.holds Try.pinned (OpenSpec.upto domainsChangeSpec)

end Rows
end Go.Proofs.Ytffcdocmabefiaa
