/-
  DERIVED. GIVEN WITH THE SEED: THE CARDS: each row of YtccipobbdohdpaaDoorRows.lean that lists a variable, with what it lists TIED to the program's text (the seventh form; the later family's looks); each row that meets fmt, with fmt's text TOLD by the authors' own Lean function (tested against real Go, not proved from fmt's source: count such statements apart). THE CARD IS WHAT COUNTS. Prove the row's statement (the work); the ties are given (YtccipobbdohdpaaDoorTie.lean); close each card by the builder's one call (the guide's Derived/Test/ToyasCard.lean, 'card_holds'). Laid BY PROGRAM, IN A SANDBOX (cutbox-door.mjs). By AI agents, Wed Nov 11 2026. No macro, syntax, notation, axiom, sorry.
-/
import Derived.Test.YtccipobbdohdpaaDoorRows
import GoSem.ClaimSeven
namespace Go.Proofs.YtccipobbdohdpaaDoor
namespace Rows

/-- THE TIED CARD OF 'quietuslaw48.BillWritesAsSpecified'. -/
def billWritesAsSpecifiedCard : Claim7 := { stood := { row := billWritesAsSpecifiedRow, standIns := [], harness := (true, "e8a3ad673da3d8bc63c4f26066ad0d4e755ee19caedf892b04af8d74c4d94c9c"), looks := false }, kinds := [], alts := [], laidByText := true, laidKinds := [.data, .data], laidTests := true, laidLooks := .later }
def BillWritesAsSpecifiedCardSaid : Prop := Claim7.holds Tryd.pinned (.plain (OpenSpec.ofChange billWritesAsSpecifiedSpec)) billWritesAsSpecifiedCard

/-- THE TIED CARD OF 'quietuslaw48.BillReadsAsSpecified'. -/
def billReadsAsSpecifiedCard : Claim7 := { stood := { row := billReadsAsSpecifiedRow, standIns := [], harness := (true, "e8a3ad673da3d8bc63c4f26066ad0d4e755ee19caedf892b04af8d74c4d94c9c"), looks := false }, kinds := [], alts := [], laidByText := true, laidKinds := [.data], laidTests := true, laidLooks := .later }
def BillReadsAsSpecifiedCardSaid : Prop := Claim7.holds Tryd.pinned (.plain (OpenSpec.ofChange billReadsAsSpecifiedSpec)) billReadsAsSpecifiedCard

/-- THE TIED CARD OF 'quietuslaw48.BillAddsUp'. -/
def billAddsUpCard : Claim7 := { stood := { row := billAddsUpRow, standIns := [], harness := (true, "e8a3ad673da3d8bc63c4f26066ad0d4e755ee19caedf892b04af8d74c4d94c9c"), looks := false }, kinds := [], alts := [], laidByText := true, laidKinds := [.data], laidTests := true, laidLooks := .later }
def BillAddsUpCardSaid : Prop := Claim7.holds Tryd.pinned (.plain (OpenSpec.ofChange billAddsUpSpec)) billAddsUpCard

/-- THE TIED CARD OF 'quietuslaw48.BillStatementsJoin'. -/
def billStatementsJoinCard : Claim7 := { stood := { row := billStatementsJoinRow, standIns := [], harness := (true, "e8a3ad673da3d8bc63c4f26066ad0d4e755ee19caedf892b04af8d74c4d94c9c"), looks := false }, kinds := [], alts := [], laidByText := true, laidKinds := [.data], laidTests := true, laidLooks := .later }
def BillStatementsJoinCardSaid : Prop := Claim7.holds Tryd.pinned (.plain (OpenSpec.ofChange billStatementsJoinSpec)) billStatementsJoinCard

/-- THE TIED CARD OF 'quietuslaw48.BillBindsHistory'. -/
def billBindsHistoryCard : Claim7 := { stood := { row := billBindsHistoryRow, standIns := [], harness := (true, "e8a3ad673da3d8bc63c4f26066ad0d4e755ee19caedf892b04af8d74c4d94c9c"), looks := false }, kinds := [], alts := [], laidByText := true, laidKinds := [.data], laidTests := true, laidLooks := .later }
def BillBindsHistoryCardSaid : Prop := Claim7.holds Tryd.pinned (.plain (OpenSpec.ofChange billBindsHistorySpec)) billBindsHistoryCard

/-- THE SECOND FORM's CARD OF 'quietuslaw48.BillWritesAsSpecified'. -/
def billWritesAsSpecifiedUptoCard : Claim7 := { stood := { row := billWritesAsSpecifiedUptoRow, standIns := [], harness := (true, "e8a3ad673da3d8bc63c4f26066ad0d4e755ee19caedf892b04af8d74c4d94c9c"), looks := false }, kinds := [], alts := [], laidByText := true, laidKinds := [.data, .data], laidTests := true, laidLooks := .later }
def BillWritesAsSpecifiedUptoCardSaid : Prop := Claim7.holds Tryd.pinned (.plain (OpenSpec.upto billWritesAsSpecifiedSpec)) billWritesAsSpecifiedUptoCard

/-- THE SECOND FORM's CARD OF 'quietuslaw48.BillReadsAsSpecified'. -/
def billReadsAsSpecifiedUptoCard : Claim7 := { stood := { row := billReadsAsSpecifiedUptoRow, standIns := [], harness := (true, "e8a3ad673da3d8bc63c4f26066ad0d4e755ee19caedf892b04af8d74c4d94c9c"), looks := false }, kinds := [], alts := [], laidByText := true, laidKinds := [.data], laidTests := true, laidLooks := .later }
def BillReadsAsSpecifiedUptoCardSaid : Prop := Claim7.holds Tryd.pinned (.plain (OpenSpec.upto billReadsAsSpecifiedSpec)) billReadsAsSpecifiedUptoCard

/-- THE SECOND FORM's CARD OF 'quietuslaw48.BillAddsUp'. -/
def billAddsUpUptoCard : Claim7 := { stood := { row := billAddsUpUptoRow, standIns := [], harness := (true, "e8a3ad673da3d8bc63c4f26066ad0d4e755ee19caedf892b04af8d74c4d94c9c"), looks := false }, kinds := [], alts := [], laidByText := true, laidKinds := [.data], laidTests := true, laidLooks := .later }
def BillAddsUpUptoCardSaid : Prop := Claim7.holds Tryd.pinned (.plain (OpenSpec.upto billAddsUpSpec)) billAddsUpUptoCard

/-- THE SECOND FORM's CARD OF 'quietuslaw48.BillStatementsJoin'. -/
def billStatementsJoinUptoCard : Claim7 := { stood := { row := billStatementsJoinUptoRow, standIns := [], harness := (true, "e8a3ad673da3d8bc63c4f26066ad0d4e755ee19caedf892b04af8d74c4d94c9c"), looks := false }, kinds := [], alts := [], laidByText := true, laidKinds := [.data], laidTests := true, laidLooks := .later }
def BillStatementsJoinUptoCardSaid : Prop := Claim7.holds Tryd.pinned (.plain (OpenSpec.upto billStatementsJoinSpec)) billStatementsJoinUptoCard

/-- THE SECOND FORM's CARD OF 'quietuslaw48.BillBindsHistory'. -/
def billBindsHistoryUptoCard : Claim7 := { stood := { row := billBindsHistoryUptoRow, standIns := [], harness := (true, "e8a3ad673da3d8bc63c4f26066ad0d4e755ee19caedf892b04af8d74c4d94c9c"), looks := false }, kinds := [], alts := [], laidByText := true, laidKinds := [.data], laidTests := true, laidLooks := .later }
def BillBindsHistoryUptoCardSaid : Prop := Claim7.holds Tryd.pinned (.plain (OpenSpec.upto billBindsHistorySpec)) billBindsHistoryUptoCard
end Rows
end Go.Proofs.YtccipobbdohdpaaDoor
