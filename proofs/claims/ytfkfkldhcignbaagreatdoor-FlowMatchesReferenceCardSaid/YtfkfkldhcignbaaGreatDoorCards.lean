/-
  DERIVED. GIVEN WITH THE SEED: THE CARDS: each row of YtfkfkldhcignbaaGreatDoorRows.lean that lists a variable, with what it lists TIED to the program's text (the seventh form; the later family's looks); each row that meets fmt, with fmt's text TOLD by the authors' own Lean function (tested against real Go, not proved from fmt's source: count such statements apart). THE CARD IS WHAT COUNTS. Prove the row's statement (the work); the ties are given (YtfkfkldhcignbaaGreatDoorTie.lean); close each card by the builder's one call (the guide's Derived/Test/ToyasCard.lean, 'card_holds'). Laid BY PROGRAM, IN A SANDBOX (cutbox-door.mjs). By AI agents, Wed Nov 11 2026. No macro, syntax, notation, axiom, sorry.
-/
import Derived.Test.YtfkfkldhcignbaaGreatDoorRows
import GoSem.ClaimSeven
namespace Go.Proofs.YtfkfkldhcignbaaGreatDoor
namespace Rows

/-- THE TIED CARD OF 'newswirelaw26.FlowMatchesReference'. -/
def flowMatchesReferenceCard : Claim7 := { stood := { row := flowMatchesReferenceRow, standIns := [], harness := (true, "36ff14b8e280d3072425211c8c452e45a20f28404a5cb1ce5d8b4f836afc09c9"), looks := false }, kinds := [], alts := [], laidByText := true, laidKinds := [.data, .funcs, .funcs, .pinned], laidTests := true, laidLooks := .later }
def FlowMatchesReferenceCardSaid : Prop := Claim7.holds Tryz.pinned (.plain (OpenSpec.ofChange flowMatchesReferenceSpec)) flowMatchesReferenceCard

/-- THE TIED CARD OF 'newswirelaw26.FlowSecret'. -/
def flowSecretCard : Claim7 := { stood := { row := flowSecretRow, standIns := [], harness := (true, "36ff14b8e280d3072425211c8c452e45a20f28404a5cb1ce5d8b4f836afc09c9"), looks := false }, kinds := [], alts := [], laidByText := true, laidKinds := [.data, .funcs, .funcs, .pinned], laidTests := true, laidLooks := .later }
def FlowSecretCardSaid : Prop := Claim7.holds Tryz.pinned (.plain (OpenSpec.ofChange flowSecretSpec)) flowSecretCard

/-- THE TIED CARD OF 'newswirelaw26.FlowAll'. -/
def flowAllCard : Claim7 := { stood := { row := flowAllRow, standIns := [], harness := (true, "36ff14b8e280d3072425211c8c452e45a20f28404a5cb1ce5d8b4f836afc09c9"), looks := false }, kinds := [], alts := [], laidByText := true, laidKinds := [.data, .funcs, .funcs, .pinned], laidTests := true, laidLooks := .later }
def FlowAllCardSaid : Prop := Claim7.holds Tryz.pinned (.plain (OpenSpec.ofChange flowAllSpec)) flowAllCard

/-- THE TIED CARD OF 'newswirelaw26.FlowFirst'. -/
def flowFirstCard : Claim7 := { stood := { row := flowFirstRow, standIns := [], harness := (true, "36ff14b8e280d3072425211c8c452e45a20f28404a5cb1ce5d8b4f836afc09c9"), looks := false }, kinds := [], alts := [], laidByText := true, laidKinds := [.data, .funcs, .funcs, .pinned], laidTests := true, laidLooks := .later }
def FlowFirstCardSaid : Prop := Claim7.holds Tryz.pinned (.plain (OpenSpec.ofChange flowFirstSpec)) flowFirstCard

/-- THE TIED CARD OF 'newswirelaw26.FlowLeaks'. -/
def flowLeaksCard : Claim7 := { stood := { row := flowLeaksRow, standIns := [], harness := (true, "36ff14b8e280d3072425211c8c452e45a20f28404a5cb1ce5d8b4f836afc09c9"), looks := false }, kinds := [], alts := [], laidByText := true, laidKinds := [.data, .funcs, .funcs, .pinned], laidTests := true, laidLooks := .later }
def FlowLeaksCardSaid : Prop := Claim7.holds Tryz.pinned (.plain (OpenSpec.ofChange flowLeaksSpec)) flowLeaksCard

/-- THE TIED CARD OF 'newswirelaw26.FlowWaits'. -/
def flowWaitsCard : Claim7 := { stood := { row := flowWaitsRow, standIns := [], harness := (true, "36ff14b8e280d3072425211c8c452e45a20f28404a5cb1ce5d8b4f836afc09c9"), looks := false }, kinds := [], alts := [], laidByText := true, laidKinds := [.data, .funcs, .funcs, .pinned], laidTests := true, laidLooks := .later }
def FlowWaitsCardSaid : Prop := Claim7.holds Tryz.pinned (.plain (OpenSpec.ofChange flowWaitsSpec)) flowWaitsCard

/-- THE TIED CARD OF 'newswirelaw26.FlowJoins'. -/
def flowJoinsCard : Claim7 := { stood := { row := flowJoinsRow, standIns := [], harness := (true, "36ff14b8e280d3072425211c8c452e45a20f28404a5cb1ce5d8b4f836afc09c9"), looks := false }, kinds := [], alts := [], laidByText := true, laidKinds := [.data, .funcs, .funcs, .pinned], laidTests := true, laidLooks := .later }
def FlowJoinsCardSaid : Prop := Claim7.holds Tryz.pinned (.plain (OpenSpec.ofChange flowJoinsSpec)) flowJoinsCard

/-- THE SECOND FORM's CARD OF 'newswirelaw26.FlowMatchesReference'. -/
def flowMatchesReferenceUptoCard : Claim7 := { stood := { row := flowMatchesReferenceUptoRow, standIns := [], harness := (true, "36ff14b8e280d3072425211c8c452e45a20f28404a5cb1ce5d8b4f836afc09c9"), looks := false }, kinds := [], alts := [], laidByText := true, laidKinds := [.data, .funcs, .funcs, .pinned], laidTests := true, laidLooks := .later }
def FlowMatchesReferenceUptoCardSaid : Prop := Claim7.holds Tryz.pinned (.plain (OpenSpec.upto flowMatchesReferenceSpec)) flowMatchesReferenceUptoCard

/-- THE SECOND FORM's CARD OF 'newswirelaw26.FlowSecret'. -/
def flowSecretUptoCard : Claim7 := { stood := { row := flowSecretUptoRow, standIns := [], harness := (true, "36ff14b8e280d3072425211c8c452e45a20f28404a5cb1ce5d8b4f836afc09c9"), looks := false }, kinds := [], alts := [], laidByText := true, laidKinds := [.data, .funcs, .funcs, .pinned], laidTests := true, laidLooks := .later }
def FlowSecretUptoCardSaid : Prop := Claim7.holds Tryz.pinned (.plain (OpenSpec.upto flowSecretSpec)) flowSecretUptoCard

/-- THE SECOND FORM's CARD OF 'newswirelaw26.FlowAll'. -/
def flowAllUptoCard : Claim7 := { stood := { row := flowAllUptoRow, standIns := [], harness := (true, "36ff14b8e280d3072425211c8c452e45a20f28404a5cb1ce5d8b4f836afc09c9"), looks := false }, kinds := [], alts := [], laidByText := true, laidKinds := [.data, .funcs, .funcs, .pinned], laidTests := true, laidLooks := .later }
def FlowAllUptoCardSaid : Prop := Claim7.holds Tryz.pinned (.plain (OpenSpec.upto flowAllSpec)) flowAllUptoCard

/-- THE SECOND FORM's CARD OF 'newswirelaw26.FlowFirst'. -/
def flowFirstUptoCard : Claim7 := { stood := { row := flowFirstUptoRow, standIns := [], harness := (true, "36ff14b8e280d3072425211c8c452e45a20f28404a5cb1ce5d8b4f836afc09c9"), looks := false }, kinds := [], alts := [], laidByText := true, laidKinds := [.data, .funcs, .funcs, .pinned], laidTests := true, laidLooks := .later }
def FlowFirstUptoCardSaid : Prop := Claim7.holds Tryz.pinned (.plain (OpenSpec.upto flowFirstSpec)) flowFirstUptoCard

/-- THE SECOND FORM's CARD OF 'newswirelaw26.FlowLeaks'. -/
def flowLeaksUptoCard : Claim7 := { stood := { row := flowLeaksUptoRow, standIns := [], harness := (true, "36ff14b8e280d3072425211c8c452e45a20f28404a5cb1ce5d8b4f836afc09c9"), looks := false }, kinds := [], alts := [], laidByText := true, laidKinds := [.data, .funcs, .funcs, .pinned], laidTests := true, laidLooks := .later }
def FlowLeaksUptoCardSaid : Prop := Claim7.holds Tryz.pinned (.plain (OpenSpec.upto flowLeaksSpec)) flowLeaksUptoCard

/-- THE SECOND FORM's CARD OF 'newswirelaw26.FlowWaits'. -/
def flowWaitsUptoCard : Claim7 := { stood := { row := flowWaitsUptoRow, standIns := [], harness := (true, "36ff14b8e280d3072425211c8c452e45a20f28404a5cb1ce5d8b4f836afc09c9"), looks := false }, kinds := [], alts := [], laidByText := true, laidKinds := [.data, .funcs, .funcs, .pinned], laidTests := true, laidLooks := .later }
def FlowWaitsUptoCardSaid : Prop := Claim7.holds Tryz.pinned (.plain (OpenSpec.upto flowWaitsSpec)) flowWaitsUptoCard

/-- THE SECOND FORM's CARD OF 'newswirelaw26.FlowJoins'. -/
def flowJoinsUptoCard : Claim7 := { stood := { row := flowJoinsUptoRow, standIns := [], harness := (true, "36ff14b8e280d3072425211c8c452e45a20f28404a5cb1ce5d8b4f836afc09c9"), looks := false }, kinds := [], alts := [], laidByText := true, laidKinds := [.data, .funcs, .funcs, .pinned], laidTests := true, laidLooks := .later }
def FlowJoinsUptoCardSaid : Prop := Claim7.holds Tryz.pinned (.plain (OpenSpec.upto flowJoinsSpec)) flowJoinsUptoCard
end Rows
end Go.Proofs.YtfkfkldhcignbaaGreatDoor
