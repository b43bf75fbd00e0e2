/-
  NARROWER THAN 'FOR EVERY INPUT', by the rows' own cells (each row's printed sentence says how): FlowMatchesReference: laid · FlowSecret: laid · FlowAll: laid · FlowFirst: laid · FlowLeaks: laid · FlowWaits: laid · FlowJoins: laid.
  DERIVED. THE GIVEN ROWS OF THIS SEAT. 7 by the template 'for every input the law returns true; each argument reads behind the call as it read before'; 0 by the template 'total and deterministic' (their statements: YtfkfkldhcignbaaGreatDoorTotals.lean).
  GIVEN WITH THE SEED: the statements are not yours to turn. If you find one false, say at which input.
  Laid BY PROGRAM, IN A SANDBOX (cutbox-rows.mjs): the forced cells as the released guide's own fill.sh prints them over the translation 73dd6c39872fa6ba… (all of the seat's roots in one cut). By AI agents, Wed Nov 11 2026. No macro, syntax, notation, axiom, sorry.
-/
import Derived.Test.YtfkfkldhcignbaaGreatDoorChecked
import GoSem.PinnedTables
import GoSem.Claim
import GoSem.ClaimJoined
import GoSem.ClaimMapViews
import Derived.JoinedTies
import Derived.KernelRfl
namespace Go.Proofs.YtfkfkldhcignbaaGreatDoor
/- THE CELL 'sum', in the pinned program and in every row, IS THE sha256 OF THE DUMP (.gsa) THAT YtfkfkldhcignbaaGreatDoorProg.lean LOADS. Nothing in Lean hashes anything: it is a label: what it is worth is what the hold of that sum in a sandbox is worth. -/
noncomputable def Tryz.pinned : Pinned := { name := "ytfkfkldhcignbaagreatdoor", sum := "73dd6c39872fa6ba471efa907b43b7cd914320b21b90610eec2e24ccf88ce6fc", checked := Tryz.checked }
namespace Rows
def none {H : Type} : Left H := { results := [], args := [] }

/- WHAT THE LISTED PACKAGE-LEVEL VARIABLES READ AS WHEN THE CALL BEGINS. Each datum BY PROGRAM (the guide's laid-datum.mjs) off the statement by which the dump's own 'gosem.cut.vars' lays the variable. In a bare row this is a premise. The card (YtfkfkldhcignbaaGreatDoorCards.lean) ties it to the program's text. -/
def laid_unicode_utf8_acceptRanges {H : Type} : DataW H := .agg [.agg [.lit (.int .u8 128), .lit (.int .u8 191)], .agg [.lit (.int .u8 160), .lit (.int .u8 191)], .agg [.lit (.int .u8 128), .lit (.int .u8 159)], .agg [.lit (.int .u8 144), .lit (.int .u8 191)], .agg [.lit (.int .u8 128), .lit (.int .u8 143)], .agg [.lit (.int .u8 0), .lit (.int .u8 0)], .agg [.lit (.int .u8 0), .lit (.int .u8 0)], .agg [.lit (.int .u8 0), .lit (.int .u8 0)], .agg [.lit (.int .u8 0), .lit (.int .u8 0)], .agg [.lit (.int .u8 0), .lit (.int .u8 0)], .agg [.lit (.int .u8 0), .lit (.int .u8 0)], .agg [.lit (.int .u8 0), .lit (.int .u8 0)], .agg [.lit (.int .u8 0), .lit (.int .u8 0)], .agg [.lit (.int .u8 0), .lit (.int .u8 0)], .agg [.lit (.int .u8 0), .lit (.int .u8 0)], .agg [.lit (.int .u8 0), .lit (.int .u8 0)]]
def laid_newswire_label_reasons {H : Type} : DataW H := .iface "func table" (.slice [.agg [.lit (.int .i64 2), .iface "func" (.lit (.string [110, 101, 119, 115, 119, 105, 114, 101, 47, 108, 97, 98, 101, 108, 46, 114, 101, 97, 115, 111, 110, 115, 36, 49]))], .agg [.lit (.int .i64 3), .iface "func" (.lit (.string [110, 101, 119, 115, 119, 105, 114, 101, 47, 108, 97, 98, 101, 108, 46, 114, 101, 97, 115, 111, 110, 115, 36, 50]))], .agg [.lit (.int .i64 4), .iface "func" (.lit (.string [110, 101, 119, 115, 119, 105, 114, 101, 47, 108, 97, 98, 101, 108, 46, 114, 101, 97, 115, 111, 110, 115, 36, 51]))], .agg [.lit (.int .i64 5), .iface "func" (.lit (.string [110, 101, 119, 115, 119, 105, 114, 101, 47, 108, 97, 98, 101, 108, 46, 114, 101, 97, 115, 111, 110, 115, 36, 52]))], .agg [.lit (.int .i64 6), .iface "func" (.lit (.string [110, 101, 119, 115, 119, 105, 114, 101, 47, 108, 97, 98, 101, 108, 46, 114, 101, 97, 115, 111, 110, 115, 36, 53]))], .agg [.lit (.int .i64 7), .iface "func" (.lit (.string [110, 101, 119, 115, 119, 105, 114, 101, 47, 108, 97, 98, 101, 108, 46, 114, 101, 97, 115, 111, 110, 115, 36, 54]))]] [])
def laid_newswire_flow_modes {H : Type} : DataW H := .iface "func table" (.agg [.agg [.nil, .nil, .nil], .agg [.iface "func" (.lit (.string [110, 101, 119, 115, 119, 105, 114, 101, 47, 102, 108, 111, 119, 46, 109, 111, 100, 101, 115, 36, 49])), .iface "func" (.lit (.string [40, 42, 110, 101, 119, 115, 119, 105, 114, 101, 47, 102, 108, 111, 119, 46, 112, 101, 110, 100, 105, 110, 103, 41, 46, 115, 108, 111, 116, 116, 101, 100])), .iface "func" (.lit (.string [110, 101, 119, 115, 119, 105, 114, 101, 47, 102, 108, 111, 119, 46, 109, 111, 100, 101, 115, 36, 50]))], .agg [.iface "func" (.lit (.string [40, 110, 101, 119, 115, 119, 105, 114, 101, 47, 102, 108, 111, 119, 46, 115, 108, 111, 116, 41, 46, 114, 101, 97, 100, 121])), .iface "func" (.lit (.string [40, 42, 110, 101, 119, 115, 119, 105, 114, 101, 47, 102, 108, 111, 119, 46, 112, 101, 110, 100, 105, 110, 103, 41, 46, 108, 105, 115, 116, 101, 100])), .iface "func" (.lit (.string [110, 101, 119, 115, 119, 105, 114, 101, 47, 102, 108, 111, 119, 46, 109, 111, 100, 101, 115, 36, 51]))]])
/-- One of Go's own tables, pinned by name: the form's constant. -/
def laid_unicode_utf8_first : DataW Unit := Go.Pinned.utf8First

/-- 'newswirelaw26.FlowMatchesReference': WHATEVER THE INPUT: true; the input reads as it did. -/
def flowMatchesReferenceSpec : ChangeSpec := { name := "flowMatchesReference", fn := fun _ => fun
  | [d1, d2, d3, d4, d5, d6, d7, d8, d9] => { results := [.lit (.bool true)], args := [d1, d2, d3, d4, d5, d6, d7, d8, d9] }
  | _ => none }
def flowMatchesReferenceRow : OpenClaim := { program := "ytfkfkldhcignbaagreatdoor", sum := "73dd6c39872fa6ba471efa907b43b7cd914320b21b90610eec2e24ccf88ce6fc", func := "newswire/newswirelaw26.FlowMatchesReference", spec := "flowMatchesReference", inPlace := ["internal/bytealg.IndexByteString", "internal/bytealg.IndexString"], unfollowed := true, recurses := true, named := ["newswire/label.reasons", "newswire/flow.modes", "unicode/utf8.first", "unicode/utf8.acceptRanges", "internal/bytealg.MaxLen"], apart := false, laid := [("unicode/utf8.acceptRanges", laid_unicode_utf8_acceptRanges), ("newswire/label.reasons", laid_newswire_label_reasons), ("newswire/flow.modes", laid_newswire_flow_modes), ("unicode/utf8.first", laid_unicode_utf8_first)] }
def FlowMatchesReferenceSaid : Prop := flowMatchesReferenceRow.holds Tryz.pinned (OpenSpec.ofChange flowMatchesReferenceSpec)

/-- ITS FALSE NEIGHBOUR: 'it returns false'. Refute it at one input. -/
def flowMatchesReferenceWrong : ChangeSpec := { name := "flowMatchesReference", fn := fun _ => fun
  | [d1, d2, d3, d4, d5, d6, d7, d8, d9] => { results := [.lit (.bool false)], args := [d1, d2, d3, d4, d5, d6, d7, d8, d9] }
  | _ => none }
def FlowMatchesReferenceWrongFalsely : Prop := flowMatchesReferenceRow.holds Tryz.pinned (OpenSpec.ofChange flowMatchesReferenceWrong)

/-- 'newswirelaw26.FlowSecret': WHATEVER THE INPUT: true; the input reads as it did. -/
def flowSecretSpec : ChangeSpec := { name := "flowSecret", fn := fun _ => fun
  | [d1, d2, d3, d4, d5] => { results := [.lit (.bool true)], args := [d1, d2, d3, d4, d5] }
  | _ => none }
def flowSecretRow : OpenClaim := { program := "ytfkfkldhcignbaagreatdoor", sum := "73dd6c39872fa6ba471efa907b43b7cd914320b21b90610eec2e24ccf88ce6fc", func := "newswire/newswirelaw26.FlowSecret", spec := "flowSecret", inPlace := ["internal/bytealg.IndexByteString", "internal/bytealg.IndexString"], unfollowed := true, recurses := true, named := ["newswire/label.reasons", "newswire/flow.modes", "unicode/utf8.first", "unicode/utf8.acceptRanges", "internal/bytealg.MaxLen"], apart := false, laid := [("unicode/utf8.acceptRanges", laid_unicode_utf8_acceptRanges), ("newswire/label.reasons", laid_newswire_label_reasons), ("newswire/flow.modes", laid_newswire_flow_modes), ("unicode/utf8.first", laid_unicode_utf8_first)] }
def FlowSecretSaid : Prop := flowSecretRow.holds Tryz.pinned (OpenSpec.ofChange flowSecretSpec)

/-- ITS FALSE NEIGHBOUR: 'it returns false'. Refute it at one input. -/
def flowSecretWrong : ChangeSpec := { name := "flowSecret", fn := fun _ => fun
  | [d1, d2, d3, d4, d5] => { results := [.lit (.bool false)], args := [d1, d2, d3, d4, d5] }
  | _ => none }
def FlowSecretWrongFalsely : Prop := flowSecretRow.holds Tryz.pinned (OpenSpec.ofChange flowSecretWrong)

/-- 'newswirelaw26.FlowAll': WHATEVER THE INPUT: true; the input reads as it did. -/
def flowAllSpec : ChangeSpec := { name := "flowAll", fn := fun _ => fun
  | [d1, d2, d3] => { results := [.lit (.bool true)], args := [d1, d2, d3] }
  | _ => none }
def flowAllRow : OpenClaim := { program := "ytfkfkldhcignbaagreatdoor", sum := "73dd6c39872fa6ba471efa907b43b7cd914320b21b90610eec2e24ccf88ce6fc", func := "newswire/newswirelaw26.FlowAll", spec := "flowAll", inPlace := ["internal/bytealg.IndexByteString", "internal/bytealg.IndexString"], unfollowed := true, recurses := true, named := ["newswire/label.reasons", "newswire/flow.modes", "unicode/utf8.first", "unicode/utf8.acceptRanges", "internal/bytealg.MaxLen"], apart := false, laid := [("unicode/utf8.acceptRanges", laid_unicode_utf8_acceptRanges), ("newswire/label.reasons", laid_newswire_label_reasons), ("newswire/flow.modes", laid_newswire_flow_modes), ("unicode/utf8.first", laid_unicode_utf8_first)] }
def FlowAllSaid : Prop := flowAllRow.holds Tryz.pinned (OpenSpec.ofChange flowAllSpec)

/-- ITS FALSE NEIGHBOUR: 'it returns false'. Refute it at one input. -/
def flowAllWrong : ChangeSpec := { name := "flowAll", fn := fun _ => fun
  | [d1, d2, d3] => { results := [.lit (.bool false)], args := [d1, d2, d3] }
  | _ => none }
def FlowAllWrongFalsely : Prop := flowAllRow.holds Tryz.pinned (OpenSpec.ofChange flowAllWrong)

/-- 'newswirelaw26.FlowFirst': WHATEVER THE INPUT: true; the input reads as it did. -/
def flowFirstSpec : ChangeSpec := { name := "flowFirst", fn := fun _ => fun
  | [d1, d2, d3, d4, d5] => { results := [.lit (.bool true)], args := [d1, d2, d3, d4, d5] }
  | _ => none }
def flowFirstRow : OpenClaim := { program := "ytfkfkldhcignbaagreatdoor", sum := "73dd6c39872fa6ba471efa907b43b7cd914320b21b90610eec2e24ccf88ce6fc", func := "newswire/newswirelaw26.FlowFirst", spec := "flowFirst", inPlace := ["internal/bytealg.IndexByteString", "internal/bytealg.IndexString"], unfollowed := true, recurses := true, named := ["newswire/label.reasons", "newswire/flow.modes", "unicode/utf8.first", "unicode/utf8.acceptRanges", "internal/bytealg.MaxLen"], apart := false, laid := [("unicode/utf8.acceptRanges", laid_unicode_utf8_acceptRanges), ("newswire/label.reasons", laid_newswire_label_reasons), ("newswire/flow.modes", laid_newswire_flow_modes), ("unicode/utf8.first", laid_unicode_utf8_first)] }
def FlowFirstSaid : Prop := flowFirstRow.holds Tryz.pinned (OpenSpec.ofChange flowFirstSpec)

/-- ITS FALSE NEIGHBOUR: 'it returns false'. Refute it at one input. -/
def flowFirstWrong : ChangeSpec := { name := "flowFirst", fn := fun _ => fun
  | [d1, d2, d3, d4, d5] => { results := [.lit (.bool false)], args := [d1, d2, d3, d4, d5] }
  | _ => none }
def FlowFirstWrongFalsely : Prop := flowFirstRow.holds Tryz.pinned (OpenSpec.ofChange flowFirstWrong)

/-- 'newswirelaw26.FlowLeaks': WHATEVER THE INPUT: true; the input reads as it did. -/
def flowLeaksSpec : ChangeSpec := { name := "flowLeaks", fn := fun _ => fun
  | [d1, d2, d3, d4, d5] => { results := [.lit (.bool true)], args := [d1, d2, d3, d4, d5] }
  | _ => none }
def flowLeaksRow : OpenClaim := { program := "ytfkfkldhcignbaagreatdoor", sum := "73dd6c39872fa6ba471efa907b43b7cd914320b21b90610eec2e24ccf88ce6fc", func := "newswire/newswirelaw26.FlowLeaks", spec := "flowLeaks", inPlace := ["internal/bytealg.IndexByteString", "internal/bytealg.IndexString"], unfollowed := true, recurses := true, named := ["newswire/label.reasons", "newswire/flow.modes", "unicode/utf8.first", "unicode/utf8.acceptRanges", "internal/bytealg.MaxLen"], apart := false, laid := [("unicode/utf8.acceptRanges", laid_unicode_utf8_acceptRanges), ("newswire/label.reasons", laid_newswire_label_reasons), ("newswire/flow.modes", laid_newswire_flow_modes), ("unicode/utf8.first", laid_unicode_utf8_first)] }
def FlowLeaksSaid : Prop := flowLeaksRow.holds Tryz.pinned (OpenSpec.ofChange flowLeaksSpec)

/-- ITS FALSE NEIGHBOUR: 'it returns false'. Refute it at one input. -/
def flowLeaksWrong : ChangeSpec := { name := "flowLeaks", fn := fun _ => fun
  | [d1, d2, d3, d4, d5] => { results := [.lit (.bool false)], args := [d1, d2, d3, d4, d5] }
  | _ => none }
def FlowLeaksWrongFalsely : Prop := flowLeaksRow.holds Tryz.pinned (OpenSpec.ofChange flowLeaksWrong)

/-- 'newswirelaw26.FlowWaits': WHATEVER THE INPUT: true; the input reads as it did. -/
def flowWaitsSpec : ChangeSpec := { name := "flowWaits", fn := fun _ => fun
  | [d1, d2, d3] => { results := [.lit (.bool true)], args := [d1, d2, d3] }
  | _ => none }
def flowWaitsRow : OpenClaim := { program := "ytfkfkldhcignbaagreatdoor", sum := "73dd6c39872fa6ba471efa907b43b7cd914320b21b90610eec2e24ccf88ce6fc", func := "newswire/newswirelaw26.FlowWaits", spec := "flowWaits", inPlace := ["internal/bytealg.IndexByteString", "internal/bytealg.IndexString"], unfollowed := true, recurses := true, named := ["newswire/label.reasons", "newswire/flow.modes", "unicode/utf8.first", "unicode/utf8.acceptRanges", "internal/bytealg.MaxLen"], apart := false, laid := [("unicode/utf8.acceptRanges", laid_unicode_utf8_acceptRanges), ("newswire/label.reasons", laid_newswire_label_reasons), ("newswire/flow.modes", laid_newswire_flow_modes), ("unicode/utf8.first", laid_unicode_utf8_first)] }
def FlowWaitsSaid : Prop := flowWaitsRow.holds Tryz.pinned (OpenSpec.ofChange flowWaitsSpec)

/-- ITS FALSE NEIGHBOUR: 'it returns false'. Refute it at one input. -/
def flowWaitsWrong : ChangeSpec := { name := "flowWaits", fn := fun _ => fun
  | [d1, d2, d3] => { results := [.lit (.bool false)], args := [d1, d2, d3] }
  | _ => none }
def FlowWaitsWrongFalsely : Prop := flowWaitsRow.holds Tryz.pinned (OpenSpec.ofChange flowWaitsWrong)

/-- 'newswirelaw26.FlowJoins': WHATEVER THE INPUT: true; the input reads as it did. -/
def flowJoinsSpec : ChangeSpec := { name := "flowJoins", fn := fun _ => fun
  | [d1, d2, d3, d4] => { results := [.lit (.bool true)], args := [d1, d2, d3, d4] }
  | _ => none }
def flowJoinsRow : OpenClaim := { program := "ytfkfkldhcignbaagreatdoor", sum := "73dd6c39872fa6ba471efa907b43b7cd914320b21b90610eec2e24ccf88ce6fc", func := "newswire/newswirelaw26.FlowJoins", spec := "flowJoins", inPlace := ["internal/bytealg.IndexByteString", "internal/bytealg.IndexString"], unfollowed := true, recurses := true, named := ["newswire/label.reasons", "newswire/flow.modes", "unicode/utf8.first", "unicode/utf8.acceptRanges", "internal/bytealg.MaxLen"], apart := false, laid := [("unicode/utf8.acceptRanges", laid_unicode_utf8_acceptRanges), ("newswire/label.reasons", laid_newswire_label_reasons), ("newswire/flow.modes", laid_newswire_flow_modes), ("unicode/utf8.first", laid_unicode_utf8_first)] }
def FlowJoinsSaid : Prop := flowJoinsRow.holds Tryz.pinned (OpenSpec.ofChange flowJoinsSpec)

/-- ITS FALSE NEIGHBOUR: 'it returns false'. Refute it at one input. -/
def flowJoinsWrong : ChangeSpec := { name := "flowJoins", fn := fun _ => fun
  | [d1, d2, d3, d4] => { results := [.lit (.bool false)], args := [d1, d2, d3, d4] }
  | _ => none }
def FlowJoinsWrongFalsely : Prop := flowJoinsRow.holds Tryz.pinned (OpenSpec.ofChange flowJoinsWrong)

/- THE SECOND FORM. 'bulk': how many values and letters a reading holds, each counted each time it is reached (what is shared counts as often as it is met; a slice's spare places count too). A statement '..UptoSaid' is the law's where the arguments, and the package variables that the reading takes, are together of bulk at most 1048576: NARROWER than '..Said'. Prove '..Said' where nothing that the law and all that it calls make is longer than what came in: it says more and counts as full. Else prove '..UptoSaid'. A law counts once. -/
mutual
def uptoBulk {H : Type} : DataW H → Nat
  | .lit (.string bytes) => bytes.length + 1
  | .lit _ => 1
  | .nil => 1
  | .ptr d => uptoBulk d + 1
  | .slice elems spare => uptoBulkAll elems + uptoBulkAll spare + 1
  | .agg parts => uptoBulkAll parts + 1
  | .iface _ d => uptoBulk d + 1
  | .map entries => uptoBulkEntries entries + 1
  | .held _ => 1
def uptoBulkAll {H : Type} : List (DataW H) → Nat
  | [] => 0
  | d :: r => uptoBulk d + uptoBulkAll r
def uptoBulkEntries {H : Type} : List (Lit × DataW H) → Nat
  | [] => 0
  | x :: r => uptoBulkEntry x + uptoBulkEntries r
def uptoBulkEntry {H : Type} : Lit × DataW H → Nat
  | (.string bytes, d) => bytes.length + uptoBulk d + 1
  | (_, d) => uptoBulk d + 1
 end
def uptoSmall : (H : Type) → List (DataW H) → Bool := fun _ ds => decide (uptoBulkAll ds ≤ 1048576)
def OpenSpec.upto (s : _root_.Go.ChangeSpec) : _root_.Go.OpenSpec := { _root_.Go.OpenSpec.ofChange s with cond := some uptoSmall }

/-- 'newswirelaw26.FlowMatchesReference', WHERE WHAT IT READS IS OF BULK AT MOST 1048576: true; the input reads as it did. -/
def flowMatchesReferenceUptoRow : OpenClaim := { program := "ytfkfkldhcignbaagreatdoor", sum := "73dd6c39872fa6ba471efa907b43b7cd914320b21b90610eec2e24ccf88ce6fc", func := "newswire/newswirelaw26.FlowMatchesReference", spec := "flowMatchesReference", inPlace := ["internal/bytealg.IndexByteString", "internal/bytealg.IndexString"], unfollowed := true, recurses := true, named := ["newswire/label.reasons", "newswire/flow.modes", "unicode/utf8.first", "unicode/utf8.acceptRanges", "internal/bytealg.MaxLen"], apart := false, laid := [("unicode/utf8.acceptRanges", laid_unicode_utf8_acceptRanges), ("newswire/label.reasons", laid_newswire_label_reasons), ("newswire/flow.modes", laid_newswire_flow_modes), ("unicode/utf8.first", laid_unicode_utf8_first)], narrowed := true }
def FlowMatchesReferenceUptoSaid : Prop := flowMatchesReferenceUptoRow.holds Tryz.pinned (OpenSpec.upto flowMatchesReferenceSpec)

/-- 'newswirelaw26.FlowSecret', WHERE WHAT IT READS IS OF BULK AT MOST 1048576: true; the input reads as it did. -/
def flowSecretUptoRow : OpenClaim := { program := "ytfkfkldhcignbaagreatdoor", sum := "73dd6c39872fa6ba471efa907b43b7cd914320b21b90610eec2e24ccf88ce6fc", func := "newswire/newswirelaw26.FlowSecret", spec := "flowSecret", inPlace := ["internal/bytealg.IndexByteString", "internal/bytealg.IndexString"], unfollowed := true, recurses := true, named := ["newswire/label.reasons", "newswire/flow.modes", "unicode/utf8.first", "unicode/utf8.acceptRanges", "internal/bytealg.MaxLen"], apart := false, laid := [("unicode/utf8.acceptRanges", laid_unicode_utf8_acceptRanges), ("newswire/label.reasons", laid_newswire_label_reasons), ("newswire/flow.modes", laid_newswire_flow_modes), ("unicode/utf8.first", laid_unicode_utf8_first)], narrowed := true }
def FlowSecretUptoSaid : Prop := flowSecretUptoRow.holds Tryz.pinned (OpenSpec.upto flowSecretSpec)

/-- 'newswirelaw26.FlowAll', WHERE WHAT IT READS IS OF BULK AT MOST 1048576: true; the input reads as it did. -/
def flowAllUptoRow : OpenClaim := { program := "ytfkfkldhcignbaagreatdoor", sum := "73dd6c39872fa6ba471efa907b43b7cd914320b21b90610eec2e24ccf88ce6fc", func := "newswire/newswirelaw26.FlowAll", spec := "flowAll", inPlace := ["internal/bytealg.IndexByteString", "internal/bytealg.IndexString"], unfollowed := true, recurses := true, named := ["newswire/label.reasons", "newswire/flow.modes", "unicode/utf8.first", "unicode/utf8.acceptRanges", "internal/bytealg.MaxLen"], apart := false, laid := [("unicode/utf8.acceptRanges", laid_unicode_utf8_acceptRanges), ("newswire/label.reasons", laid_newswire_label_reasons), ("newswire/flow.modes", laid_newswire_flow_modes), ("unicode/utf8.first", laid_unicode_utf8_first)], narrowed := true }
def FlowAllUptoSaid : Prop := flowAllUptoRow.holds Tryz.pinned (OpenSpec.upto flowAllSpec)

/-- 'newswirelaw26.FlowFirst', WHERE WHAT IT READS IS OF BULK AT MOST 1048576: true; the input reads as it did. -/
def flowFirstUptoRow : OpenClaim := { program := "ytfkfkldhcignbaagreatdoor", sum := "73dd6c39872fa6ba471efa907b43b7cd914320b21b90610eec2e24ccf88ce6fc", func := "newswire/newswirelaw26.FlowFirst", spec := "flowFirst", inPlace := ["internal/bytealg.IndexByteString", "internal/bytealg.IndexString"], unfollowed := true, recurses := true, named := ["newswire/label.reasons", "newswire/flow.modes", "unicode/utf8.first", "unicode/utf8.acceptRanges", "internal/bytealg.MaxLen"], apart := false, laid := [("unicode/utf8.acceptRanges", laid_unicode_utf8_acceptRanges), ("newswire/label.reasons", laid_newswire_label_reasons), ("newswire/flow.modes", laid_newswire_flow_modes), ("unicode/utf8.first", laid_unicode_utf8_first)], narrowed := true }
def FlowFirstUptoSaid : Prop := flowFirstUptoRow.holds Tryz.pinned (OpenSpec.upto flowFirstSpec)

/-- 'newswirelaw26.FlowLeaks', WHERE WHAT IT READS IS OF BULK AT MOST 1048576: true; the input reads as it did. -/
def flowLeaksUptoRow : OpenClaim := { program := "ytfkfkldhcignbaagreatdoor", sum := "73dd6c39872fa6ba471efa907b43b7cd914320b21b90610eec2e24ccf88ce6fc", func := "newswire/newswirelaw26.FlowLeaks", spec := "flowLeaks", inPlace := ["internal/bytealg.IndexByteString", "internal/bytealg.IndexString"], unfollowed := true, recurses := true, named := ["newswire/label.reasons", "newswire/flow.modes", "unicode/utf8.first", "unicode/utf8.acceptRanges", "internal/bytealg.MaxLen"], apart := false, laid := [("unicode/utf8.acceptRanges", laid_unicode_utf8_acceptRanges), ("newswire/label.reasons", laid_newswire_label_reasons), ("newswire/flow.modes", laid_newswire_flow_modes), ("unicode/utf8.first", laid_unicode_utf8_first)], narrowed := true }
def FlowLeaksUptoSaid : Prop := flowLeaksUptoRow.holds Tryz.pinned (OpenSpec.upto flowLeaksSpec)

/-- 'newswirelaw26.FlowWaits', WHERE WHAT IT READS IS OF BULK AT MOST 1048576: true; the input reads as it did. -/
def flowWaitsUptoRow : OpenClaim := { program := "ytfkfkldhcignbaagreatdoor", sum := "73dd6c39872fa6ba471efa907b43b7cd914320b21b90610eec2e24ccf88ce6fc", func := "newswire/newswirelaw26.FlowWaits", spec := "flowWaits", inPlace := ["internal/bytealg.IndexByteString", "internal/bytealg.IndexString"], unfollowed := true, recurses := true, named := ["newswire/label.reasons", "newswire/flow.modes", "unicode/utf8.first", "unicode/utf8.acceptRanges", "internal/bytealg.MaxLen"], apart := false, laid := [("unicode/utf8.acceptRanges", laid_unicode_utf8_acceptRanges), ("newswire/label.reasons", laid_newswire_label_reasons), ("newswire/flow.modes", laid_newswire_flow_modes), ("unicode/utf8.first", laid_unicode_utf8_first)], narrowed := true }
def FlowWaitsUptoSaid : Prop := flowWaitsUptoRow.holds Tryz.pinned (OpenSpec.upto flowWaitsSpec)

/-- 'newswirelaw26.FlowJoins', WHERE WHAT IT READS IS OF BULK AT MOST 1048576: true; the input reads as it did. -/
def flowJoinsUptoRow : OpenClaim := { program := "ytfkfkldhcignbaagreatdoor", sum := "73dd6c39872fa6ba471efa907b43b7cd914320b21b90610eec2e24ccf88ce6fc", func := "newswire/newswirelaw26.FlowJoins", spec := "flowJoins", inPlace := ["internal/bytealg.IndexByteString", "internal/bytealg.IndexString"], unfollowed := true, recurses := true, named := ["newswire/label.reasons", "newswire/flow.modes", "unicode/utf8.first", "unicode/utf8.acceptRanges", "internal/bytealg.MaxLen"], apart := false, laid := [("unicode/utf8.acceptRanges", laid_unicode_utf8_acceptRanges), ("newswire/label.reasons", laid_newswire_label_reasons), ("newswire/flow.modes", laid_newswire_flow_modes), ("unicode/utf8.first", laid_unicode_utf8_first)], narrowed := true }
def FlowJoinsUptoSaid : Prop := flowJoinsUptoRow.holds Tryz.pinned (OpenSpec.upto flowJoinsSpec)

end Rows
end Go.Proofs.YtfkfkldhcignbaaGreatDoor
