/-
  DERIVED. GIVEN WITH THE SEED: THE CARDS: each row of YtokenlcigigamaaDoorRows.lean that lists a variable, with what it lists TIED to the program's text (the seventh form; the later family's looks); each row that meets fmt, with fmt's text TOLD by the authors' own Lean function (tested against real Go, not proved from fmt's source: count such statements apart). THE CARD IS WHAT COUNTS. Prove the row's statement (the work); the ties are given (YtokenlcigigamaaDoorTie.lean); close each card by the builder's one call (the guide's Derived/Test/ToyasCard.lean, 'card_holds'). Laid BY PROGRAM, IN A SANDBOX (cutbox-door.mjs). By AI agents, Wed Nov 11 2026. No macro, syntax, notation, axiom, sorry.
-/
import Derived.Test.YtokenlcigigamaaDoorRows
import GoSem.ClaimSeven
namespace Go.Proofs.YtokenlcigigamaaDoor
namespace Rows

/-- THE TIED CARD OF 'quietuslaw02.HashSumMatchesSpec'. -/
def hashSumMatchesSpecCard : Claim7 := { stood := { row := hashSumMatchesSpecRow, standIns := [], harness := (true, "592b75e36683e97a6f3c5716c7089e60dacfdcbd34301c9b03eabc656a848c2a"), looks := false }, kinds := [], alts := [], laidByText := true, laidKinds := [.data, .data], laidTests := true, laidLooks := .later }
def HashSumMatchesSpecCardSaid : Prop := Claim7.holds Tryd.pinned (.plain (OpenSpec.ofChange hashSumMatchesSpecSpec)) hashSumMatchesSpecCard

/-- THE TIED CARD OF 'quietuslaw02.HashStreamsAgree'. -/
def hashStreamsAgreeCard : Claim7 := { stood := { row := hashStreamsAgreeRow, standIns := [], harness := (true, "592b75e36683e97a6f3c5716c7089e60dacfdcbd34301c9b03eabc656a848c2a"), looks := false }, kinds := [], alts := [], laidByText := true, laidKinds := [.data], laidTests := true, laidLooks := .later }
def HashStreamsAgreeCardSaid : Prop := Claim7.holds Tryd.pinned (.plain (OpenSpec.ofChange hashStreamsAgreeSpec)) hashStreamsAgreeCard

/-- THE TIED CARD OF 'quietuslaw02.HashOfMatchesSpec'. -/
def hashOfMatchesSpecCard : Claim7 := { stood := { row := hashOfMatchesSpecRow, standIns := [], harness := (true, "592b75e36683e97a6f3c5716c7089e60dacfdcbd34301c9b03eabc656a848c2a"), looks := false }, kinds := [], alts := [], laidByText := true, laidKinds := [.data, .data], laidTests := true, laidLooks := .later }
def HashOfMatchesSpecCardSaid : Prop := Claim7.holds Tryd.pinned (.plain (OpenSpec.ofChange hashOfMatchesSpecSpec)) hashOfMatchesSpecCard

/-- THE TIED CARD OF 'quietuslaw02.HashOfSeparates'. -/
def hashOfSeparatesCard : Claim7 := { stood := { row := hashOfSeparatesRow, standIns := [], harness := (true, "592b75e36683e97a6f3c5716c7089e60dacfdcbd34301c9b03eabc656a848c2a"), looks := false }, kinds := [], alts := [], laidByText := true, laidKinds := [.data], laidTests := true, laidLooks := .later }
def HashOfSeparatesCardSaid : Prop := Claim7.holds Tryd.pinned (.plain (OpenSpec.ofChange hashOfSeparatesSpec)) hashOfSeparatesCard

/-- THE TIED CARD OF 'quietuslaw02.HashHmacMatchesSpec'. -/
def hashHmacMatchesSpecCard : Claim7 := { stood := { row := hashHmacMatchesSpecRow, standIns := [], harness := (true, "592b75e36683e97a6f3c5716c7089e60dacfdcbd34301c9b03eabc656a848c2a"), looks := false }, kinds := [], alts := [], laidByText := true, laidKinds := [.data, .data], laidTests := true, laidLooks := .later }
def HashHmacMatchesSpecCardSaid : Prop := Claim7.holds Tryd.pinned (.plain (OpenSpec.ofChange hashHmacMatchesSpecSpec)) hashHmacMatchesSpecCard

/-- THE TIED CARD OF 'quietuslaw02.HashKeysOfOneBlock'. -/
def hashKeysOfOneBlockCard : Claim7 := { stood := { row := hashKeysOfOneBlockRow, standIns := [], harness := (true, "592b75e36683e97a6f3c5716c7089e60dacfdcbd34301c9b03eabc656a848c2a"), looks := false }, kinds := [], alts := [], laidByText := true, laidKinds := [.data], laidTests := true, laidLooks := .later }
def HashKeysOfOneBlockCardSaid : Prop := Claim7.holds Tryd.pinned (.plain (OpenSpec.ofChange hashKeysOfOneBlockSpec)) hashKeysOfOneBlockCard

/-- THE TIED CARD OF 'quietuslaw02.HashExpandMatchesSpec'. -/
def hashExpandMatchesSpecCard : Claim7 := { stood := { row := hashExpandMatchesSpecRow, standIns := [], harness := (true, "592b75e36683e97a6f3c5716c7089e60dacfdcbd34301c9b03eabc656a848c2a"), looks := false }, kinds := [], alts := [], laidByText := true, laidKinds := [.data, .data], laidTests := true, laidLooks := .later }
def HashExpandMatchesSpecCardSaid : Prop := Claim7.holds Tryd.pinned (.plain (OpenSpec.ofChange hashExpandMatchesSpecSpec)) hashExpandMatchesSpecCard

/-- THE TIED CARD OF 'quietuslaw02.HashExpandBegins'. -/
def hashExpandBeginsCard : Claim7 := { stood := { row := hashExpandBeginsRow, standIns := [], harness := (true, "592b75e36683e97a6f3c5716c7089e60dacfdcbd34301c9b03eabc656a848c2a"), looks := false }, kinds := [], alts := [], laidByText := true, laidKinds := [.data], laidTests := true, laidLooks := .later }
def HashExpandBeginsCardSaid : Prop := Claim7.holds Tryd.pinned (.plain (OpenSpec.ofChange hashExpandBeginsSpec)) hashExpandBeginsCard

/-- THE TIED CARD OF 'quietuslaw02.HashMacMatchesSpec'. -/
def hashMacMatchesSpecCard : Claim7 := { stood := { row := hashMacMatchesSpecRow, standIns := [], harness := (true, "592b75e36683e97a6f3c5716c7089e60dacfdcbd34301c9b03eabc656a848c2a"), looks := false }, kinds := [], alts := [], laidByText := true, laidKinds := [.data, .data], laidTests := true, laidLooks := .later }
def HashMacMatchesSpecCardSaid : Prop := Claim7.holds Tryd.pinned (.plain (OpenSpec.ofChange hashMacMatchesSpecSpec)) hashMacMatchesSpecCard

/-- THE SECOND FORM's CARD OF 'quietuslaw02.HashSumMatchesSpec'. -/
def hashSumMatchesSpecUptoCard : Claim7 := { stood := { row := hashSumMatchesSpecUptoRow, standIns := [], harness := (true, "592b75e36683e97a6f3c5716c7089e60dacfdcbd34301c9b03eabc656a848c2a"), looks := false }, kinds := [], alts := [], laidByText := true, laidKinds := [.data, .data], laidTests := true, laidLooks := .later }
def HashSumMatchesSpecUptoCardSaid : Prop := Claim7.holds Tryd.pinned (.plain (OpenSpec.upto hashSumMatchesSpecSpec)) hashSumMatchesSpecUptoCard

/-- THE SECOND FORM's CARD OF 'quietuslaw02.HashStreamsAgree'. -/
def hashStreamsAgreeUptoCard : Claim7 := { stood := { row := hashStreamsAgreeUptoRow, standIns := [], harness := (true, "592b75e36683e97a6f3c5716c7089e60dacfdcbd34301c9b03eabc656a848c2a"), looks := false }, kinds := [], alts := [], laidByText := true, laidKinds := [.data], laidTests := true, laidLooks := .later }
def HashStreamsAgreeUptoCardSaid : Prop := Claim7.holds Tryd.pinned (.plain (OpenSpec.upto hashStreamsAgreeSpec)) hashStreamsAgreeUptoCard

/-- THE SECOND FORM's CARD OF 'quietuslaw02.HashOfMatchesSpec'. -/
def hashOfMatchesSpecUptoCard : Claim7 := { stood := { row := hashOfMatchesSpecUptoRow, standIns := [], harness := (true, "592b75e36683e97a6f3c5716c7089e60dacfdcbd34301c9b03eabc656a848c2a"), looks := false }, kinds := [], alts := [], laidByText := true, laidKinds := [.data, .data], laidTests := true, laidLooks := .later }
def HashOfMatchesSpecUptoCardSaid : Prop := Claim7.holds Tryd.pinned (.plain (OpenSpec.upto hashOfMatchesSpecSpec)) hashOfMatchesSpecUptoCard

/-- THE SECOND FORM's CARD OF 'quietuslaw02.HashOfSeparates'. -/
def hashOfSeparatesUptoCard : Claim7 := { stood := { row := hashOfSeparatesUptoRow, standIns := [], harness := (true, "592b75e36683e97a6f3c5716c7089e60dacfdcbd34301c9b03eabc656a848c2a"), looks := false }, kinds := [], alts := [], laidByText := true, laidKinds := [.data], laidTests := true, laidLooks := .later }
def HashOfSeparatesUptoCardSaid : Prop := Claim7.holds Tryd.pinned (.plain (OpenSpec.upto hashOfSeparatesSpec)) hashOfSeparatesUptoCard

/-- THE SECOND FORM's CARD OF 'quietuslaw02.HashHmacMatchesSpec'. -/
def hashHmacMatchesSpecUptoCard : Claim7 := { stood := { row := hashHmacMatchesSpecUptoRow, standIns := [], harness := (true, "592b75e36683e97a6f3c5716c7089e60dacfdcbd34301c9b03eabc656a848c2a"), looks := false }, kinds := [], alts := [], laidByText := true, laidKinds := [.data, .data], laidTests := true, laidLooks := .later }
def HashHmacMatchesSpecUptoCardSaid : Prop := Claim7.holds Tryd.pinned (.plain (OpenSpec.upto hashHmacMatchesSpecSpec)) hashHmacMatchesSpecUptoCard

/-- THE SECOND FORM's CARD OF 'quietuslaw02.HashKeysOfOneBlock'. -/
def hashKeysOfOneBlockUptoCard : Claim7 := { stood := { row := hashKeysOfOneBlockUptoRow, standIns := [], harness := (true, "592b75e36683e97a6f3c5716c7089e60dacfdcbd34301c9b03eabc656a848c2a"), looks := false }, kinds := [], alts := [], laidByText := true, laidKinds := [.data], laidTests := true, laidLooks := .later }
def HashKeysOfOneBlockUptoCardSaid : Prop := Claim7.holds Tryd.pinned (.plain (OpenSpec.upto hashKeysOfOneBlockSpec)) hashKeysOfOneBlockUptoCard

/-- THE SECOND FORM's CARD OF 'quietuslaw02.HashExpandMatchesSpec'. -/
def hashExpandMatchesSpecUptoCard : Claim7 := { stood := { row := hashExpandMatchesSpecUptoRow, standIns := [], harness := (true, "592b75e36683e97a6f3c5716c7089e60dacfdcbd34301c9b03eabc656a848c2a"), looks := false }, kinds := [], alts := [], laidByText := true, laidKinds := [.data, .data], laidTests := true, laidLooks := .later }
def HashExpandMatchesSpecUptoCardSaid : Prop := Claim7.holds Tryd.pinned (.plain (OpenSpec.upto hashExpandMatchesSpecSpec)) hashExpandMatchesSpecUptoCard

/-- THE SECOND FORM's CARD OF 'quietuslaw02.HashExpandBegins'. -/
def hashExpandBeginsUptoCard : Claim7 := { stood := { row := hashExpandBeginsUptoRow, standIns := [], harness := (true, "592b75e36683e97a6f3c5716c7089e60dacfdcbd34301c9b03eabc656a848c2a"), looks := false }, kinds := [], alts := [], laidByText := true, laidKinds := [.data], laidTests := true, laidLooks := .later }
def HashExpandBeginsUptoCardSaid : Prop := Claim7.holds Tryd.pinned (.plain (OpenSpec.upto hashExpandBeginsSpec)) hashExpandBeginsUptoCard

/-- THE SECOND FORM's CARD OF 'quietuslaw02.HashMacMatchesSpec'. -/
def hashMacMatchesSpecUptoCard : Claim7 := { stood := { row := hashMacMatchesSpecUptoRow, standIns := [], harness := (true, "592b75e36683e97a6f3c5716c7089e60dacfdcbd34301c9b03eabc656a848c2a"), looks := false }, kinds := [], alts := [], laidByText := true, laidKinds := [.data, .data], laidTests := true, laidLooks := .later }
def HashMacMatchesSpecUptoCardSaid : Prop := Claim7.holds Tryd.pinned (.plain (OpenSpec.upto hashMacMatchesSpecSpec)) hashMacMatchesSpecUptoCard
end Rows
end Go.Proofs.YtokenlcigigamaaDoor
