/-
  No cell of these rows narrows 'for every input' (looked for: loops, veiled, ifaces, maps, wideKeys, modest, calm, conditions, laid).
  DERIVED. THE GIVEN ROWS OF THIS SEAT. 6 by the template 'for every input the law returns true; each argument reads behind the call as it read before'; 0 by the template 'total and deterministic' (their statements: YtbdnpgagbjkapaaTotals.lean).
  GIVEN WITH THE SEED: the statements are not yours to turn. If you find one false, say at which input.
  Laid BY PROGRAM, IN A SANDBOX (cutbox-rows.mjs): the forced cells as the released guide's own fill.sh prints them over the translation be697fce83ed30ce… (all of the seat's roots in one cut). By AI agents, Wed Nov 11 2026. No macro, syntax, notation, axiom, sorry.
-/
import Derived.Test.YtbdnpgagbjkapaaChecked
import GoSem.Claim
import GoSem.ClaimJoined
import GoSem.ClaimMapViews
import Derived.JoinedTies
import Derived.KernelRfl
namespace Go.Proofs.Ytbdnpgagbjkapaa
/- THE CELL 'sum', in the pinned program and in every row, IS THE sha256 OF THE DUMP (.gsa) THAT YtbdnpgagbjkapaaProg.lean LOADS. Nothing in Lean hashes anything: it is a label: what it is worth is what the hold of that sum in a sandbox is worth. -/
noncomputable def Try.pinned : Pinned := { name := "ytbdnpgagbjkapaa", sum := "be697fce83ed30ce139abfd9f5e4edcaf61ece7e0bf66fd6f5f735c7ab653446", checked := Try.checked }
namespace Rows
def none {H : Type} : Left H := { results := [], args := [] }

/-- 'leapfroglaw11.EventMatches': WHATEVER THE INPUT: true; the input reads as it did. -/
def eventMatchesSpec : ChangeSpec := { name := "eventMatches", fn := fun _ => fun
  | [d] => { results := [.lit (.bool true)], args := [d] }
  | _ => none }
def eventMatchesRow : OpenClaim := { program := "ytbdnpgagbjkapaa", sum := "be697fce83ed30ce139abfd9f5e4edcaf61ece7e0bf66fd6f5f735c7ab653446", func := "leapfrog/leapfroglaw11.EventMatches", spec := "eventMatches", unfollowed := true, recurses := true, apart := false }
def EventMatchesSaid : Prop := eventMatchesRow.holds Try.pinned (OpenSpec.ofChange eventMatchesSpec)

/-- ITS FALSE NEIGHBOUR: 'it returns false'. Refute it at one input. -/
def eventMatchesWrong : ChangeSpec := { name := "eventMatches", fn := fun _ => fun
  | [d] => { results := [.lit (.bool false)], args := [d] }
  | _ => none }
def EventMatchesWrongFalsely : Prop := eventMatchesRow.holds Try.pinned (OpenSpec.ofChange eventMatchesWrong)

/-- 'leapfroglaw11.EventPrefixes': WHATEVER THE INPUT: true; the input reads as it did. -/
def eventPrefixesSpec : ChangeSpec := { name := "eventPrefixes", fn := fun _ => fun
  | [d1, d2] => { results := [.lit (.bool true)], args := [d1, d2] }
  | _ => none }
def eventPrefixesRow : OpenClaim := { program := "ytbdnpgagbjkapaa", sum := "be697fce83ed30ce139abfd9f5e4edcaf61ece7e0bf66fd6f5f735c7ab653446", func := "leapfrog/leapfroglaw11.EventPrefixes", spec := "eventPrefixes", unfollowed := true, recurses := true, apart := false }
def EventPrefixesSaid : Prop := eventPrefixesRow.holds Try.pinned (OpenSpec.ofChange eventPrefixesSpec)

/-- ITS FALSE NEIGHBOUR: 'it returns false'. Refute it at one input. -/
def eventPrefixesWrong : ChangeSpec := { name := "eventPrefixes", fn := fun _ => fun
  | [d1, d2] => { results := [.lit (.bool false)], args := [d1, d2] }
  | _ => none }
def EventPrefixesWrongFalsely : Prop := eventPrefixesRow.holds Try.pinned (OpenSpec.ofChange eventPrefixesWrong)

/-- 'leapfroglaw11.EventApart': WHATEVER THE INPUT: true; the input reads as it did. -/
def eventApartSpec : ChangeSpec := { name := "eventApart", fn := fun _ => fun
  | [d1, d2] => { results := [.lit (.bool true)], args := [d1, d2] }
  | _ => none }
def eventApartRow : OpenClaim := { program := "ytbdnpgagbjkapaa", sum := "be697fce83ed30ce139abfd9f5e4edcaf61ece7e0bf66fd6f5f735c7ab653446", func := "leapfrog/leapfroglaw11.EventApart", spec := "eventApart", unfollowed := true, recurses := true, apart := false }
def EventApartSaid : Prop := eventApartRow.holds Try.pinned (OpenSpec.ofChange eventApartSpec)

/-- ITS FALSE NEIGHBOUR: 'it returns false'. Refute it at one input. -/
def eventApartWrong : ChangeSpec := { name := "eventApart", fn := fun _ => fun
  | [d1, d2] => { results := [.lit (.bool false)], args := [d1, d2] }
  | _ => none }
def EventApartWrongFalsely : Prop := eventApartRow.holds Try.pinned (OpenSpec.ofChange eventApartWrong)

/-- 'leapfroglaw11.EventLooks': WHATEVER THE INPUT: true; the input reads as it did. -/
def eventLooksSpec : ChangeSpec := { name := "eventLooks", fn := fun _ => fun
  | [d1, d2, d3] => { results := [.lit (.bool true)], args := [d1, d2, d3] }
  | _ => none }
def eventLooksRow : OpenClaim := { program := "ytbdnpgagbjkapaa", sum := "be697fce83ed30ce139abfd9f5e4edcaf61ece7e0bf66fd6f5f735c7ab653446", func := "leapfrog/leapfroglaw11.EventLooks", spec := "eventLooks", unfollowed := true, recurses := true, apart := false }
def EventLooksSaid : Prop := eventLooksRow.holds Try.pinned (OpenSpec.ofChange eventLooksSpec)

/-- ITS FALSE NEIGHBOUR: 'it returns false'. Refute it at one input. -/
def eventLooksWrong : ChangeSpec := { name := "eventLooks", fn := fun _ => fun
  | [d1, d2, d3] => { results := [.lit (.bool false)], args := [d1, d2, d3] }
  | _ => none }
def EventLooksWrongFalsely : Prop := eventLooksRow.holds Try.pinned (OpenSpec.ofChange eventLooksWrong)

/-- 'leapfroglaw11.EventExamples': WHATEVER THE INPUT: true; the input reads as it did. -/
def eventExamplesSpec : ChangeSpec := { name := "eventExamples", fn := fun _ => fun
  | [] => { results := [.lit (.bool true)], args := [] }
  | _ => none }
def eventExamplesRow : OpenClaim := { program := "ytbdnpgagbjkapaa", sum := "be697fce83ed30ce139abfd9f5e4edcaf61ece7e0bf66fd6f5f735c7ab653446", func := "leapfrog/leapfroglaw11.EventExamples", spec := "eventExamples", unfollowed := true, recurses := true, apart := false }
def EventExamplesSaid : Prop := eventExamplesRow.holds Try.pinned (OpenSpec.ofChange eventExamplesSpec)

/-- ITS FALSE NEIGHBOUR: 'it returns false'. Refute it at one input. -/
def eventExamplesWrong : ChangeSpec := { name := "eventExamples", fn := fun _ => fun
  | [] => { results := [.lit (.bool false)], args := [] }
  | _ => none }
def EventExamplesWrongFalsely : Prop := eventExamplesRow.holds Try.pinned (OpenSpec.ofChange eventExamplesWrong)

/-- 'leapfroglaw11.EventThreads': WHATEVER THE INPUT: true; the input reads as it did. -/
def eventThreadsSpec : ChangeSpec := { name := "eventThreads", fn := fun _ => fun
  | [d] => { results := [.lit (.bool true)], args := [d] }
  | _ => none }
def eventThreadsRow : OpenClaim := { program := "ytbdnpgagbjkapaa", sum := "be697fce83ed30ce139abfd9f5e4edcaf61ece7e0bf66fd6f5f735c7ab653446", func := "leapfrog/leapfroglaw11.EventThreads", spec := "eventThreads", unfollowed := true, recurses := true, apart := false }
def EventThreadsSaid : Prop := eventThreadsRow.holds Try.pinned (OpenSpec.ofChange eventThreadsSpec)

/-- ITS FALSE NEIGHBOUR: 'it returns false'. Refute it at one input. -/
def eventThreadsWrong : ChangeSpec := { name := "eventThreads", fn := fun _ => fun
  | [d] => { results := [.lit (.bool false)], args := [d] }
  | _ => none }
def EventThreadsWrongFalsely : Prop := eventThreadsRow.holds Try.pinned (OpenSpec.ofChange eventThreadsWrong)

/- THE SECOND FORM. 'bulk': how many values and letters a reading holds, each counted each time it is reached (what is shared counts as often as it is met; a slice's spare places count too). A statement '..UptoSaid' is the law's where the arguments, and the package variables that the reading takes, are together of bulk at most 1048576: NARROWER than '..Said'. Prove '..Said' where nothing that the law and all that it calls make is longer than what came in: it says more and counts as full. Else prove '..UptoSaid'. A law counts once. -/
mutual
def uptoBulk {H : Type} : DataW H → Nat
  | .lit (.string bytes) => bytes.length + 1
  | .lit _ => 1
  | .nil => 1
  | .ptr d => uptoBulk d + 1
  | .slice elems spare => uptoBulkAll elems + uptoBulkAll spare + 1
  | .agg parts => uptoBulkAll parts + 1
  | .iface _ d => uptoBulk d + 1
  | .map entries => uptoBulkEntries entries + 1
  | .held _ => 1
def uptoBulkAll {H : Type} : List (DataW H) → Nat
  | [] => 0
  | d :: r => uptoBulk d + uptoBulkAll r
def uptoBulkEntries {H : Type} : List (Lit × DataW H) → Nat
  | [] => 0
  | x :: r => uptoBulkEntry x + uptoBulkEntries r
def uptoBulkEntry {H : Type} : Lit × DataW H → Nat
  | (.string bytes, d) => bytes.length + uptoBulk d + 1
  | (_, d) => uptoBulk d + 1
 end
def uptoSmall : (H : Type) → List (DataW H) → Bool := fun _ ds => decide (uptoBulkAll ds ≤ 1048576)
def OpenSpec.upto (s : _root_.Go.ChangeSpec) : _root_.Go.OpenSpec := { _root_.Go.OpenSpec.ofChange s with cond := some uptoSmall }

/-- 'leapfroglaw11.EventMatches', WHERE WHAT IT READS IS OF BULK AT MOST 1048576: true; the input reads as it did. -/
def eventMatchesUptoRow : OpenClaim := { program := "ytbdnpgagbjkapaa", sum := "be697fce83ed30ce139abfd9f5e4edcaf61ece7e0bf66fd6f5f735c7ab653446", func := "leapfrog/leapfroglaw11.EventMatches", spec := "eventMatches", unfollowed := true, recurses := true, apart := false, narrowed := true }
def EventMatchesUptoSaid : Prop := eventMatchesUptoRow.holds Try.pinned (OpenSpec.upto eventMatchesSpec)

/-- 'leapfroglaw11.EventPrefixes', WHERE WHAT IT READS IS OF BULK AT MOST 1048576: true; the input reads as it did. -/
def eventPrefixesUptoRow : OpenClaim := { program := "ytbdnpgagbjkapaa", sum := "be697fce83ed30ce139abfd9f5e4edcaf61ece7e0bf66fd6f5f735c7ab653446", func := "leapfrog/leapfroglaw11.EventPrefixes", spec := "eventPrefixes", unfollowed := true, recurses := true, apart := false, narrowed := true }
def EventPrefixesUptoSaid : Prop := eventPrefixesUptoRow.holds Try.pinned (OpenSpec.upto eventPrefixesSpec)

/-- 'leapfroglaw11.EventApart', WHERE WHAT IT READS IS OF BULK AT MOST 1048576: true; the input reads as it did. -/
def eventApartUptoRow : OpenClaim := { program := "ytbdnpgagbjkapaa", sum := "be697fce83ed30ce139abfd9f5e4edcaf61ece7e0bf66fd6f5f735c7ab653446", func := "leapfrog/leapfroglaw11.EventApart", spec := "eventApart", unfollowed := true, recurses := true, apart := false, narrowed := true }
def EventApartUptoSaid : Prop := eventApartUptoRow.holds Try.pinned (OpenSpec.upto eventApartSpec)

/-- 'leapfroglaw11.EventLooks', WHERE WHAT IT READS IS OF BULK AT MOST 1048576: true; the input reads as it did. -/
def eventLooksUptoRow : OpenClaim := { program := "ytbdnpgagbjkapaa", sum := "be697fce83ed30ce139abfd9f5e4edcaf61ece7e0bf66fd6f5f735c7ab653446", func := "leapfrog/leapfroglaw11.EventLooks", spec := "eventLooks", unfollowed := true, recurses := true, apart := false, narrowed := true }
def EventLooksUptoSaid : Prop := eventLooksUptoRow.holds Try.pinned (OpenSpec.upto eventLooksSpec)

/-- 'leapfroglaw11.EventExamples', WHERE WHAT IT READS IS OF BULK AT MOST 1048576: true; the input reads as it did. -/
def eventExamplesUptoRow : OpenClaim := { program := "ytbdnpgagbjkapaa", sum := "be697fce83ed30ce139abfd9f5e4edcaf61ece7e0bf66fd6f5f735c7ab653446", func := "leapfrog/leapfroglaw11.EventExamples", spec := "eventExamples", unfollowed := true, recurses := true, apart := false, narrowed := true }
def EventExamplesUptoSaid : Prop := eventExamplesUptoRow.holds Try.pinned (OpenSpec.upto eventExamplesSpec)

/-- 'leapfroglaw11.EventThreads', WHERE WHAT IT READS IS OF BULK AT MOST 1048576: true; the input reads as it did. -/
def eventThreadsUptoRow : OpenClaim := { program := "ytbdnpgagbjkapaa", sum := "be697fce83ed30ce139abfd9f5e4edcaf61ece7e0bf66fd6f5f735c7ab653446", func := "leapfrog/leapfroglaw11.EventThreads", spec := "eventThreads", unfollowed := true, recurses := true, apart := false, narrowed := true }
def EventThreadsUptoSaid : Prop := eventThreadsUptoRow.holds Try.pinned (OpenSpec.upto eventThreadsSpec)

end Rows
end Go.Proofs.Ytbdnpgagbjkapaa
