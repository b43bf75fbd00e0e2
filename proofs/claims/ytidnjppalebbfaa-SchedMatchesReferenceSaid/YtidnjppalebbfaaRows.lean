/-
  No cell of these rows narrows 'for every input' (looked for: loops, veiled, ifaces, maps, wideKeys, modest, calm, conditions, laid).
  DERIVED. THE GIVEN ROWS OF THIS SEAT. 6 by the template 'for every input the law returns true; each argument reads behind the call as it read before'; 0 by the template 'total and deterministic' (their statements: YtidnjppalebbfaaTotals.lean).
  GIVEN WITH THE SEED: the statements are not yours to turn. If you find one false, say at which input.
  Laid BY PROGRAM, IN A SANDBOX (cutbox-rows.mjs): the forced cells as the released guide's own fill.sh prints them over the translation 23768e5603f57c32… (all of the seat's roots in one cut). By AI agents, Wed Nov 11 2026. No macro, syntax, notation, axiom, sorry.
-/
import Derived.Test.YtidnjppalebbfaaChecked
import GoSem.Claim
import GoSem.ClaimJoined
import GoSem.ClaimMapViews
import Derived.JoinedTies
import Derived.KernelRfl
namespace Go.Proofs.Ytidnjppalebbfaa
/- THE CELL 'sum', in the pinned program and in every row, IS THE sha256 OF THE DUMP (.gsa) THAT YtidnjppalebbfaaProg.lean LOADS. Nothing in Lean hashes anything: it is a label: what it is worth is what the hold of that sum in a sandbox is worth. -/
noncomputable def Try.pinned : Pinned := { name := "ytidnjppalebbfaa", sum := "23768e5603f57c3207c93706b50a30731e87c66d1cf468457c5210fb1a7a1b5e", checked := Try.checked }
namespace Rows
def none {H : Type} : Left H := { results := [], args := [] }

/-- 'newswirelaw24.SchedMatchesReference': WHATEVER THE INPUT: true; the input reads as it did. -/
def schedMatchesReferenceSpec : ChangeSpec := { name := "schedMatchesReference", fn := fun _ => fun
  | [d1, d2, d3, d4, d5, d6, d7] => { results := [.lit (.bool true)], args := [d1, d2, d3, d4, d5, d6, d7] }
  | _ => none }
def schedMatchesReferenceRow : OpenClaim := { program := "ytidnjppalebbfaa", sum := "23768e5603f57c3207c93706b50a30731e87c66d1cf468457c5210fb1a7a1b5e", func := "newswire/newswirelaw24.SchedMatchesReference", spec := "schedMatchesReference", unfollowed := true, recurses := true, apart := false }
def SchedMatchesReferenceSaid : Prop := schedMatchesReferenceRow.holds Try.pinned (OpenSpec.ofChange schedMatchesReferenceSpec)

/-- ITS FALSE NEIGHBOUR: 'it returns false'. Refute it at one input. -/
def schedMatchesReferenceWrong : ChangeSpec := { name := "schedMatchesReference", fn := fun _ => fun
  | [d1, d2, d3, d4, d5, d6, d7] => { results := [.lit (.bool false)], args := [d1, d2, d3, d4, d5, d6, d7] }
  | _ => none }
def SchedMatchesReferenceWrongFalsely : Prop := schedMatchesReferenceRow.holds Try.pinned (OpenSpec.ofChange schedMatchesReferenceWrong)

/-- 'newswirelaw24.SchedLatest': WHATEVER THE INPUT: true; the input reads as it did. -/
def schedLatestSpec : ChangeSpec := { name := "schedLatest", fn := fun _ => fun
  | [d1, d2] => { results := [.lit (.bool true)], args := [d1, d2] }
  | _ => none }
def schedLatestRow : OpenClaim := { program := "ytidnjppalebbfaa", sum := "23768e5603f57c3207c93706b50a30731e87c66d1cf468457c5210fb1a7a1b5e", func := "newswire/newswirelaw24.SchedLatest", spec := "schedLatest", unfollowed := true, recurses := true, apart := false }
def SchedLatestSaid : Prop := schedLatestRow.holds Try.pinned (OpenSpec.ofChange schedLatestSpec)

/-- ITS FALSE NEIGHBOUR: 'it returns false'. Refute it at one input. -/
def schedLatestWrong : ChangeSpec := { name := "schedLatest", fn := fun _ => fun
  | [d1, d2] => { results := [.lit (.bool false)], args := [d1, d2] }
  | _ => none }
def SchedLatestWrongFalsely : Prop := schedLatestRow.holds Try.pinned (OpenSpec.ofChange schedLatestWrong)

/-- 'newswirelaw24.SchedTight': WHATEVER THE INPUT: true; the input reads as it did. -/
def schedTightSpec : ChangeSpec := { name := "schedTight", fn := fun _ => fun
  | [d1, d2] => { results := [.lit (.bool true)], args := [d1, d2] }
  | _ => none }
def schedTightRow : OpenClaim := { program := "ytidnjppalebbfaa", sum := "23768e5603f57c3207c93706b50a30731e87c66d1cf468457c5210fb1a7a1b5e", func := "newswire/newswirelaw24.SchedTight", spec := "schedTight", unfollowed := true, recurses := true, apart := false }
def SchedTightSaid : Prop := schedTightRow.holds Try.pinned (OpenSpec.ofChange schedTightSpec)

/-- ITS FALSE NEIGHBOUR: 'it returns false'. Refute it at one input. -/
def schedTightWrong : ChangeSpec := { name := "schedTight", fn := fun _ => fun
  | [d1, d2] => { results := [.lit (.bool false)], args := [d1, d2] }
  | _ => none }
def SchedTightWrongFalsely : Prop := schedTightRow.holds Try.pinned (OpenSpec.ofChange schedTightWrong)

/-- 'newswirelaw24.SchedPreempts': WHATEVER THE INPUT: true; the input reads as it did. -/
def schedPreemptsSpec : ChangeSpec := { name := "schedPreempts", fn := fun _ => fun
  | [d1, d2, d3, d4] => { results := [.lit (.bool true)], args := [d1, d2, d3, d4] }
  | _ => none }
def schedPreemptsRow : OpenClaim := { program := "ytidnjppalebbfaa", sum := "23768e5603f57c3207c93706b50a30731e87c66d1cf468457c5210fb1a7a1b5e", func := "newswire/newswirelaw24.SchedPreempts", spec := "schedPreempts", unfollowed := true, recurses := true, apart := false }
def SchedPreemptsSaid : Prop := schedPreemptsRow.holds Try.pinned (OpenSpec.ofChange schedPreemptsSpec)

/-- ITS FALSE NEIGHBOUR: 'it returns false'. Refute it at one input. -/
def schedPreemptsWrong : ChangeSpec := { name := "schedPreempts", fn := fun _ => fun
  | [d1, d2, d3, d4] => { results := [.lit (.bool false)], args := [d1, d2, d3, d4] }
  | _ => none }
def SchedPreemptsWrongFalsely : Prop := schedPreemptsRow.holds Try.pinned (OpenSpec.ofChange schedPreemptsWrong)

/-- 'newswirelaw24.SchedLine': WHATEVER THE INPUT: true; the input reads as it did. -/
def schedLineSpec : ChangeSpec := { name := "schedLine", fn := fun _ => fun
  | [d1, d2] => { results := [.lit (.bool true)], args := [d1, d2] }
  | _ => none }
def schedLineRow : OpenClaim := { program := "ytidnjppalebbfaa", sum := "23768e5603f57c3207c93706b50a30731e87c66d1cf468457c5210fb1a7a1b5e", func := "newswire/newswirelaw24.SchedLine", spec := "schedLine", unfollowed := true, recurses := true, apart := false }
def SchedLineSaid : Prop := schedLineRow.holds Try.pinned (OpenSpec.ofChange schedLineSpec)

/-- ITS FALSE NEIGHBOUR: 'it returns false'. Refute it at one input. -/
def schedLineWrong : ChangeSpec := { name := "schedLine", fn := fun _ => fun
  | [d1, d2] => { results := [.lit (.bool false)], args := [d1, d2] }
  | _ => none }
def SchedLineWrongFalsely : Prop := schedLineRow.holds Try.pinned (OpenSpec.ofChange schedLineWrong)

/-- 'newswirelaw24.SchedFair': WHATEVER THE INPUT: true; the input reads as it did. -/
def schedFairSpec : ChangeSpec := { name := "schedFair", fn := fun _ => fun
  | [d1, d2, d3] => { results := [.lit (.bool true)], args := [d1, d2, d3] }
  | _ => none }
def schedFairRow : OpenClaim := { program := "ytidnjppalebbfaa", sum := "23768e5603f57c3207c93706b50a30731e87c66d1cf468457c5210fb1a7a1b5e", func := "newswire/newswirelaw24.SchedFair", spec := "schedFair", unfollowed := true, recurses := true, apart := false }
def SchedFairSaid : Prop := schedFairRow.holds Try.pinned (OpenSpec.ofChange schedFairSpec)

/-- ITS FALSE NEIGHBOUR: 'it returns false'. Refute it at one input. -/
def schedFairWrong : ChangeSpec := { name := "schedFair", fn := fun _ => fun
  | [d1, d2, d3] => { results := [.lit (.bool false)], args := [d1, d2, d3] }
  | _ => none }
def SchedFairWrongFalsely : Prop := schedFairRow.holds Try.pinned (OpenSpec.ofChange schedFairWrong)

/- THE SECOND FORM. 'bulk': how many values and letters a reading holds, each counted each time it is reached (what is shared counts as often as it is met; a slice's spare places count too). A statement '..UptoSaid' is the law's where the arguments, and the package variables that the reading takes, are together of bulk at most 1048576: NARROWER than '..Said'. Prove '..Said' where nothing that the law and all that it calls make is longer than what came in: it says more and counts as full. Else prove '..UptoSaid'. A law counts once. -/
mutual
def uptoBulk {H : Type} : DataW H → Nat
  | .lit (.string bytes) => bytes.length + 1
  | .lit _ => 1
  | .nil => 1
  | .ptr d => uptoBulk d + 1
  | .slice elems spare => uptoBulkAll elems + uptoBulkAll spare + 1
  | .agg parts => uptoBulkAll parts + 1
  | .iface _ d => uptoBulk d + 1
  | .map entries => uptoBulkEntries entries + 1
  | .held _ => 1
def uptoBulkAll {H : Type} : List (DataW H) → Nat
  | [] => 0
  | d :: r => uptoBulk d + uptoBulkAll r
def uptoBulkEntries {H : Type} : List (Lit × DataW H) → Nat
  | [] => 0
  | x :: r => uptoBulkEntry x + uptoBulkEntries r
def uptoBulkEntry {H : Type} : Lit × DataW H → Nat
  | (.string bytes, d) => bytes.length + uptoBulk d + 1
  | (_, d) => uptoBulk d + 1
 end
def uptoSmall : (H : Type) → List (DataW H) → Bool := fun _ ds => decide (uptoBulkAll ds ≤ 1048576)
def OpenSpec.upto (s : _root_.Go.ChangeSpec) : _root_.Go.OpenSpec := { _root_.Go.OpenSpec.ofChange s with cond := some uptoSmall }

/-- 'newswirelaw24.SchedMatchesReference', WHERE WHAT IT READS IS OF BULK AT MOST 1048576: true; the input reads as it did. -/
def schedMatchesReferenceUptoRow : OpenClaim := { program := "ytidnjppalebbfaa", sum := "23768e5603f57c3207c93706b50a30731e87c66d1cf468457c5210fb1a7a1b5e", func := "newswire/newswirelaw24.SchedMatchesReference", spec := "schedMatchesReference", unfollowed := true, recurses := true, apart := false, narrowed := true }
def SchedMatchesReferenceUptoSaid : Prop := schedMatchesReferenceUptoRow.holds Try.pinned (OpenSpec.upto schedMatchesReferenceSpec)

/-- 'newswirelaw24.SchedLatest', WHERE WHAT IT READS IS OF BULK AT MOST 1048576: true; the input reads as it did. -/
def schedLatestUptoRow : OpenClaim := { program := "ytidnjppalebbfaa", sum := "23768e5603f57c3207c93706b50a30731e87c66d1cf468457c5210fb1a7a1b5e", func := "newswire/newswirelaw24.SchedLatest", spec := "schedLatest", unfollowed := true, recurses := true, apart := false, narrowed := true }
def SchedLatestUptoSaid : Prop := schedLatestUptoRow.holds Try.pinned (OpenSpec.upto schedLatestSpec)

/-- 'newswirelaw24.SchedTight', WHERE WHAT IT READS IS OF BULK AT MOST 1048576: true; the input reads as it did. -/
def schedTightUptoRow : OpenClaim := { program := "ytidnjppalebbfaa", sum := "23768e5603f57c3207c93706b50a30731e87c66d1cf468457c5210fb1a7a1b5e", func := "newswire/newswirelaw24.SchedTight", spec := "schedTight", unfollowed := true, recurses := true, apart := false, narrowed := true }
def SchedTightUptoSaid : Prop := schedTightUptoRow.holds Try.pinned (OpenSpec.upto schedTightSpec)

/-- 'newswirelaw24.SchedPreempts', WHERE WHAT IT READS IS OF BULK AT MOST 1048576: true; the input reads as it did. -/
def schedPreemptsUptoRow : OpenClaim := { program := "ytidnjppalebbfaa", sum := "23768e5603f57c3207c93706b50a30731e87c66d1cf468457c5210fb1a7a1b5e", func := "newswire/newswirelaw24.SchedPreempts", spec := "schedPreempts", unfollowed := true, recurses := true, apart := false, narrowed := true }
def SchedPreemptsUptoSaid : Prop := schedPreemptsUptoRow.holds Try.pinned (OpenSpec.upto schedPreemptsSpec)

/-- 'newswirelaw24.SchedLine', WHERE WHAT IT READS IS OF BULK AT MOST 1048576: true; the input reads as it did. -/
def schedLineUptoRow : OpenClaim := { program := "ytidnjppalebbfaa", sum := "23768e5603f57c3207c93706b50a30731e87c66d1cf468457c5210fb1a7a1b5e", func := "newswire/newswirelaw24.SchedLine", spec := "schedLine", unfollowed := true, recurses := true, apart := false, narrowed := true }
def SchedLineUptoSaid : Prop := schedLineUptoRow.holds Try.pinned (OpenSpec.upto schedLineSpec)

/-- 'newswirelaw24.SchedFair', WHERE WHAT IT READS IS OF BULK AT MOST 1048576: true; the input reads as it did. -/
def schedFairUptoRow : OpenClaim := { program := "ytidnjppalebbfaa", sum := "23768e5603f57c3207c93706b50a30731e87c66d1cf468457c5210fb1a7a1b5e", func := "newswire/newswirelaw24.SchedFair", spec := "schedFair", unfollowed := true, recurses := true, apart := false, narrowed := true }
def SchedFairUptoSaid : Prop := schedFairUptoRow.holds Try.pinned (OpenSpec.upto schedFairSpec)

end Rows
end Go.Proofs.Ytidnjppalebbfaa
