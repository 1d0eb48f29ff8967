/-
  DERIVED. GIVEN WITH THE SEED: THE CARDS: each row of YtaakjjhifhjbfaaDoorRows.lean that lists a variable, with what it lists TIED to the program's text (the seventh form; the later family's looks); each row that meets fmt, with fmt's text TOLD by the authors' own Lean function (tested against real Go, not proved from fmt's source: count such statements apart). THE CARD IS WHAT COUNTS. Prove the row's statement (the work); the ties are given (YtaakjjhifhjbfaaDoorTie.lean); close each card by the builder's one call (the guide's Derived/Test/ToyasCard.lean, 'card_holds'). Laid BY PROGRAM, IN A SANDBOX (cutbox-door.mjs). By AI agents, Wed Nov 11 2026. No macro, syntax, notation, axiom, sorry.
-/
import Derived.Test.YtaakjjhifhjbfaaDoorRows
import GoSem.ClaimSeven
namespace Go.Proofs.YtaakjjhifhjbfaaDoor
namespace Rows

/-- THE TIED CARD OF 'quietuslaw30.ExtendForgetsOrder'. -/
def extendForgetsOrderCard : Claim7 := { stood := { row := extendForgetsOrderRow, standIns := [], harness := (true, "9ca70a4558da15d0229ce6c93cf52972ed02e3b7d470d1d28c2aef22f3774db5"), looks := false }, kinds := [], alts := [], laidByText := true, laidKinds := [.data], laidTests := true, laidLooks := .later }
def ExtendForgetsOrderCardSaid : Prop := Claim7.holds Tryd.pinned (.plain (OpenSpec.ofChange extendForgetsOrderSpec)) extendForgetsOrderCard

/-- THE TIED CARD OF 'quietuslaw30.ExtendChains'. -/
def extendChainsCard : Claim7 := { stood := { row := extendChainsRow, standIns := [], harness := (true, "9ca70a4558da15d0229ce6c93cf52972ed02e3b7d470d1d28c2aef22f3774db5"), looks := false }, kinds := [], alts := [], laidByText := true, laidKinds := [.data], laidTests := true, laidLooks := .later }
def ExtendChainsCardSaid : Prop := Claim7.holds Tryd.pinned (.plain (OpenSpec.ofChange extendChainsSpec)) extendChainsCard

/-- THE TIED CARD OF 'quietuslaw30.ExtendVotesAsSpecified'. -/
def extendVotesAsSpecifiedCard : Claim7 := { stood := { row := extendVotesAsSpecifiedRow, standIns := [], harness := (true, "9ca70a4558da15d0229ce6c93cf52972ed02e3b7d470d1d28c2aef22f3774db5"), looks := false }, kinds := [], alts := [], laidByText := true, laidKinds := [.data, .data], laidTests := true, laidLooks := .later }
def ExtendVotesAsSpecifiedCardSaid : Prop := Claim7.holds Tryd.pinned (.plain (OpenSpec.ofChange extendVotesAsSpecifiedSpec)) extendVotesAsSpecifiedCard

/-- THE TIED CARD OF 'quietuslaw30.ExtendRecordsAsSpecified'. -/
def extendRecordsAsSpecifiedCard : Claim7 := { stood := { row := extendRecordsAsSpecifiedRow, standIns := [], harness := (true, "9ca70a4558da15d0229ce6c93cf52972ed02e3b7d470d1d28c2aef22f3774db5"), looks := false }, kinds := [], alts := [], laidByText := true, laidKinds := [.data, .data], laidTests := true, laidLooks := .later }
def ExtendRecordsAsSpecifiedCardSaid : Prop := Claim7.holds Tryd.pinned (.plain (OpenSpec.ofChange extendRecordsAsSpecifiedSpec)) extendRecordsAsSpecifiedCard

/-- THE TIED CARD OF 'quietuslaw30.ExtendNeedsQuorum'. -/
def extendNeedsQuorumCard : Claim7 := { stood := { row := extendNeedsQuorumRow, standIns := [], harness := (true, "9ca70a4558da15d0229ce6c93cf52972ed02e3b7d470d1d28c2aef22f3774db5"), looks := false }, kinds := [], alts := [], laidByText := true, laidKinds := [.data], laidTests := true, laidLooks := .later }
def ExtendNeedsQuorumCardSaid : Prop := Claim7.holds Tryd.pinned (.plain (OpenSpec.ofChange extendNeedsQuorumSpec)) extendNeedsQuorumCard

/-- THE SECOND FORM's CARD OF 'quietuslaw30.ExtendForgetsOrder'. -/
def extendForgetsOrderUptoCard : Claim7 := { stood := { row := extendForgetsOrderUptoRow, standIns := [], harness := (true, "9ca70a4558da15d0229ce6c93cf52972ed02e3b7d470d1d28c2aef22f3774db5"), looks := false }, kinds := [], alts := [], laidByText := true, laidKinds := [.data], laidTests := true, laidLooks := .later }
def ExtendForgetsOrderUptoCardSaid : Prop := Claim7.holds Tryd.pinned (.plain (OpenSpec.upto extendForgetsOrderSpec)) extendForgetsOrderUptoCard

/-- THE SECOND FORM's CARD OF 'quietuslaw30.ExtendChains'. -/
def extendChainsUptoCard : Claim7 := { stood := { row := extendChainsUptoRow, standIns := [], harness := (true, "9ca70a4558da15d0229ce6c93cf52972ed02e3b7d470d1d28c2aef22f3774db5"), looks := false }, kinds := [], alts := [], laidByText := true, laidKinds := [.data], laidTests := true, laidLooks := .later }
def ExtendChainsUptoCardSaid : Prop := Claim7.holds Tryd.pinned (.plain (OpenSpec.upto extendChainsSpec)) extendChainsUptoCard

/-- THE SECOND FORM's CARD OF 'quietuslaw30.ExtendVotesAsSpecified'. -/
def extendVotesAsSpecifiedUptoCard : Claim7 := { stood := { row := extendVotesAsSpecifiedUptoRow, standIns := [], harness := (true, "9ca70a4558da15d0229ce6c93cf52972ed02e3b7d470d1d28c2aef22f3774db5"), looks := false }, kinds := [], alts := [], laidByText := true, laidKinds := [.data, .data], laidTests := true, laidLooks := .later }
def ExtendVotesAsSpecifiedUptoCardSaid : Prop := Claim7.holds Tryd.pinned (.plain (OpenSpec.upto extendVotesAsSpecifiedSpec)) extendVotesAsSpecifiedUptoCard

/-- THE SECOND FORM's CARD OF 'quietuslaw30.ExtendRecordsAsSpecified'. -/
def extendRecordsAsSpecifiedUptoCard : Claim7 := { stood := { row := extendRecordsAsSpecifiedUptoRow, standIns := [], harness := (true, "9ca70a4558da15d0229ce6c93cf52972ed02e3b7d470d1d28c2aef22f3774db5"), looks := false }, kinds := [], alts := [], laidByText := true, laidKinds := [.data, .data], laidTests := true, laidLooks := .later }
def ExtendRecordsAsSpecifiedUptoCardSaid : Prop := Claim7.holds Tryd.pinned (.plain (OpenSpec.upto extendRecordsAsSpecifiedSpec)) extendRecordsAsSpecifiedUptoCard

/-- THE SECOND FORM's CARD OF 'quietuslaw30.ExtendNeedsQuorum'. -/
def extendNeedsQuorumUptoCard : Claim7 := { stood := { row := extendNeedsQuorumUptoRow, standIns := [], harness := (true, "9ca70a4558da15d0229ce6c93cf52972ed02e3b7d470d1d28c2aef22f3774db5"), looks := false }, kinds := [], alts := [], laidByText := true, laidKinds := [.data], laidTests := true, laidLooks := .later }
def ExtendNeedsQuorumUptoCardSaid : Prop := Claim7.holds Tryd.pinned (.plain (OpenSpec.upto extendNeedsQuorumSpec)) extendNeedsQuorumUptoCard
end Rows
end Go.Proofs.YtaakjjhifhjbfaaDoor
