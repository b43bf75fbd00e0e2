/-
  DERIVED. GIVEN WITH THE SEED: THE CARDS: each row of YtklknkmeljjmgaaGreatDoorRows.lean that lists a variable, with what it lists TIED to the program's text (the seventh form; the later family's looks); each row that meets fmt, with fmt's text TOLD by the authors' own Lean function (tested against real Go, not proved from fmt's source: count such statements apart). THE CARD IS WHAT COUNTS. Prove the row's statement (the work); the ties are given (YtklknkmeljjmgaaGreatDoorTie.lean); close each card by the builder's one call (the guide's Derived/Test/ToyasCard.lean, 'card_holds'). Laid BY PROGRAM, IN A SANDBOX (cutbox-door.mjs). By AI agents, Wed Nov 11 2026. No macro, syntax, notation, axiom, sorry.
-/
import Derived.Test.YtklknkmeljjmgaaGreatDoorRows
import GoSem.ClaimSeven
namespace Go.Proofs.YtklknkmeljjmgaaGreatDoor
namespace Rows

/-- THE TIED CARD OF 'newswirelaw25.RelayMatchesReference'. -/
def relayMatchesReferenceCard : Claim7 := { stood := { row := relayMatchesReferenceRow, standIns := [], harness := (true, "51406d0c7899d6db3014da037ff4d91b9abc5020012ce40afda720a4616556c1"), looks := false }, kinds := [], alts := [], laidByText := true, laidKinds := [.data], laidTests := true, laidLooks := .later }
def RelayMatchesReferenceCardSaid : Prop := Claim7.holds Tryz.pinned (.plain (OpenSpec.ofChange relayMatchesReferenceSpec)) relayMatchesReferenceCard

/-- THE TIED CARD OF 'newswirelaw25.RelayAgrees'. -/
def relayAgreesCard : Claim7 := { stood := { row := relayAgreesRow, standIns := [], harness := (true, "51406d0c7899d6db3014da037ff4d91b9abc5020012ce40afda720a4616556c1"), looks := false }, kinds := [], alts := [], laidByText := true, laidKinds := [.data], laidTests := true, laidLooks := .later }
def RelayAgreesCardSaid : Prop := Claim7.holds Tryz.pinned (.plain (OpenSpec.ofChange relayAgreesSpec)) relayAgreesCard

/-- THE TIED CARD OF 'newswirelaw25.RelayNeverBack'. -/
def relayNeverBackCard : Claim7 := { stood := { row := relayNeverBackRow, standIns := [], harness := (true, "51406d0c7899d6db3014da037ff4d91b9abc5020012ce40afda720a4616556c1"), looks := false }, kinds := [], alts := [], laidByText := true, laidKinds := [.data], laidTests := true, laidLooks := .later }
def RelayNeverBackCardSaid : Prop := Claim7.holds Tryz.pinned (.plain (OpenSpec.ofChange relayNeverBackSpec)) relayNeverBackCard

/-- THE TIED CARD OF 'newswirelaw25.RelayFlashesFirst'. -/
def relayFlashesFirstCard : Claim7 := { stood := { row := relayFlashesFirstRow, standIns := [], harness := (true, "51406d0c7899d6db3014da037ff4d91b9abc5020012ce40afda720a4616556c1"), looks := false }, kinds := [], alts := [], laidByText := true, laidKinds := [.data], laidTests := true, laidLooks := .later }
def RelayFlashesFirstCardSaid : Prop := Claim7.holds Tryz.pinned (.plain (OpenSpec.ofChange relayFlashesFirstSpec)) relayFlashesFirstCard

/-- THE TIED CARD OF 'newswirelaw25.RelayReceipts'. -/
def relayReceiptsCard : Claim7 := { stood := { row := relayReceiptsRow, standIns := [], harness := (true, "51406d0c7899d6db3014da037ff4d91b9abc5020012ce40afda720a4616556c1"), looks := false }, kinds := [], alts := [], laidByText := true, laidKinds := [.data], laidTests := true, laidLooks := .later }
def RelayReceiptsCardSaid : Prop := Claim7.holds Tryz.pinned (.plain (OpenSpec.ofChange relayReceiptsSpec)) relayReceiptsCard

/-- THE TIED CARD OF 'newswirelaw25.RelayContradicts'. -/
def relayContradictsCard : Claim7 := { stood := { row := relayContradictsRow, standIns := [], harness := (true, "51406d0c7899d6db3014da037ff4d91b9abc5020012ce40afda720a4616556c1"), looks := false }, kinds := [], alts := [], laidByText := true, laidKinds := [.data], laidTests := true, laidLooks := .later }
def RelayContradictsCardSaid : Prop := Claim7.holds Tryz.pinned (.plain (OpenSpec.ofChange relayContradictsSpec)) relayContradictsCard

/-- THE TIED CARD OF 'newswirelaw25.RelayPaper'. -/
def relayPaperCard : Claim7 := { stood := { row := relayPaperRow, standIns := [], harness := (true, "51406d0c7899d6db3014da037ff4d91b9abc5020012ce40afda720a4616556c1"), looks := false }, kinds := [], alts := [], laidByText := true, laidKinds := [.data], laidTests := true, laidLooks := .later }
def RelayPaperCardSaid : Prop := Claim7.holds Tryz.pinned (.plain (OpenSpec.ofChange relayPaperSpec)) relayPaperCard

/-- THE SECOND FORM's CARD OF 'newswirelaw25.RelayMatchesReference'. -/
def relayMatchesReferenceUptoCard : Claim7 := { stood := { row := relayMatchesReferenceUptoRow, standIns := [], harness := (true, "51406d0c7899d6db3014da037ff4d91b9abc5020012ce40afda720a4616556c1"), looks := false }, kinds := [], alts := [], laidByText := true, laidKinds := [.data], laidTests := true, laidLooks := .later }
def RelayMatchesReferenceUptoCardSaid : Prop := Claim7.holds Tryz.pinned (.plain (OpenSpec.upto relayMatchesReferenceSpec)) relayMatchesReferenceUptoCard

/-- THE SECOND FORM's CARD OF 'newswirelaw25.RelayAgrees'. -/
def relayAgreesUptoCard : Claim7 := { stood := { row := relayAgreesUptoRow, standIns := [], harness := (true, "51406d0c7899d6db3014da037ff4d91b9abc5020012ce40afda720a4616556c1"), looks := false }, kinds := [], alts := [], laidByText := true, laidKinds := [.data], laidTests := true, laidLooks := .later }
def RelayAgreesUptoCardSaid : Prop := Claim7.holds Tryz.pinned (.plain (OpenSpec.upto relayAgreesSpec)) relayAgreesUptoCard

/-- THE SECOND FORM's CARD OF 'newswirelaw25.RelayNeverBack'. -/
def relayNeverBackUptoCard : Claim7 := { stood := { row := relayNeverBackUptoRow, standIns := [], harness := (true, "51406d0c7899d6db3014da037ff4d91b9abc5020012ce40afda720a4616556c1"), looks := false }, kinds := [], alts := [], laidByText := true, laidKinds := [.data], laidTests := true, laidLooks := .later }
def RelayNeverBackUptoCardSaid : Prop := Claim7.holds Tryz.pinned (.plain (OpenSpec.upto relayNeverBackSpec)) relayNeverBackUptoCard

/-- THE SECOND FORM's CARD OF 'newswirelaw25.RelayFlashesFirst'. -/
def relayFlashesFirstUptoCard : Claim7 := { stood := { row := relayFlashesFirstUptoRow, standIns := [], harness := (true, "51406d0c7899d6db3014da037ff4d91b9abc5020012ce40afda720a4616556c1"), looks := false }, kinds := [], alts := [], laidByText := true, laidKinds := [.data], laidTests := true, laidLooks := .later }
def RelayFlashesFirstUptoCardSaid : Prop := Claim7.holds Tryz.pinned (.plain (OpenSpec.upto relayFlashesFirstSpec)) relayFlashesFirstUptoCard

/-- THE SECOND FORM's CARD OF 'newswirelaw25.RelayReceipts'. -/
def relayReceiptsUptoCard : Claim7 := { stood := { row := relayReceiptsUptoRow, standIns := [], harness := (true, "51406d0c7899d6db3014da037ff4d91b9abc5020012ce40afda720a4616556c1"), looks := false }, kinds := [], alts := [], laidByText := true, laidKinds := [.data], laidTests := true, laidLooks := .later }
def RelayReceiptsUptoCardSaid : Prop := Claim7.holds Tryz.pinned (.plain (OpenSpec.upto relayReceiptsSpec)) relayReceiptsUptoCard

/-- THE SECOND FORM's CARD OF 'newswirelaw25.RelayContradicts'. -/
def relayContradictsUptoCard : Claim7 := { stood := { row := relayContradictsUptoRow, standIns := [], harness := (true, "51406d0c7899d6db3014da037ff4d91b9abc5020012ce40afda720a4616556c1"), looks := false }, kinds := [], alts := [], laidByText := true, laidKinds := [.data], laidTests := true, laidLooks := .later }
def RelayContradictsUptoCardSaid : Prop := Claim7.holds Tryz.pinned (.plain (OpenSpec.upto relayContradictsSpec)) relayContradictsUptoCard

/-- THE SECOND FORM's CARD OF 'newswirelaw25.RelayPaper'. -/
def relayPaperUptoCard : Claim7 := { stood := { row := relayPaperUptoRow, standIns := [], harness := (true, "51406d0c7899d6db3014da037ff4d91b9abc5020012ce40afda720a4616556c1"), looks := false }, kinds := [], alts := [], laidByText := true, laidKinds := [.data], laidTests := true, laidLooks := .later }
def RelayPaperUptoCardSaid : Prop := Claim7.holds Tryz.pinned (.plain (OpenSpec.upto relayPaperSpec)) relayPaperUptoCard
end Rows
end Go.Proofs.YtklknkmeljjmgaaGreatDoor
