/-
  No cell of these rows narrows 'for every input' (looked for: loops, veiled, ifaces, maps, wideKeys, modest, calm, conditions, laid).
  DERIVED. THE GIVEN ROWS OF THIS SEAT. 8 by the template 'for every input the law returns true; each argument reads behind the call as it read before'; 0 by the template 'total and deterministic' (their statements: YtjpmhofpfmogiaaTotals.lean).
  GIVEN WITH THE SEED: the statements are not yours to turn. If you find one false, say at which input.
  Laid BY PROGRAM, IN A SANDBOX (cutbox-rows.mjs): the forced cells as the released guide's own fill.sh prints them over the translation 0db4d83ffdf6de07… (all of the seat's roots in one cut). By AI agents, Wed Nov 11 2026. No macro, syntax, notation, axiom, sorry.
-/
import Derived.Test.YtjpmhofpfmogiaaChecked
import GoSem.Claim
import GoSem.ClaimJoined
import GoSem.ClaimMapViews
import Derived.JoinedTies
import Derived.KernelRfl
namespace Go.Proofs.Ytjpmhofpfmogiaa
/- THE CELL 'sum', in the pinned program and in every row, IS THE sha256 OF THE DUMP (.gsa) THAT YtjpmhofpfmogiaaProg.lean LOADS. Nothing in Lean hashes anything: it is a label: what it is worth is what the hold of that sum in a sandbox is worth. -/
noncomputable def Try.pinned : Pinned := { name := "ytjpmhofpfmogiaa", sum := "0db4d83ffdf6de070ef05f9169422f31a4ad3f412334bf8b461cebc60e7706e6", checked := Try.checked }
namespace Rows
def none {H : Type} : Left H := { results := [], args := [] }

/-- 'leapfroglaw10.PicksMatches': WHATEVER THE INPUT: true; the input reads as it did. -/
def picksMatchesSpec : ChangeSpec := { name := "picksMatches", fn := fun _ => fun
  | [d1, d2, d3] => { results := [.lit (.bool true)], args := [d1, d2, d3] }
  | _ => none }
def picksMatchesRow : OpenClaim := { program := "ytjpmhofpfmogiaa", sum := "0db4d83ffdf6de070ef05f9169422f31a4ad3f412334bf8b461cebc60e7706e6", func := "leapfrog/leapfroglaw10.PicksMatches", spec := "picksMatches", unfollowed := true, recurses := true, apart := false }
def PicksMatchesSaid : Prop := picksMatchesRow.holds Try.pinned (OpenSpec.ofChange picksMatchesSpec)

/-- ITS FALSE NEIGHBOUR: 'it returns false'. Refute it at one input. -/
def picksMatchesWrong : ChangeSpec := { name := "picksMatches", fn := fun _ => fun
  | [d1, d2, d3] => { results := [.lit (.bool false)], args := [d1, d2, d3] }
  | _ => none }
def PicksMatchesWrongFalsely : Prop := picksMatchesRow.holds Try.pinned (OpenSpec.ofChange picksMatchesWrong)

/-- 'leapfroglaw10.PicksExpands': WHATEVER THE INPUT: true; the input reads as it did. -/
def picksExpandsSpec : ChangeSpec := { name := "picksExpands", fn := fun _ => fun
  | [d] => { results := [.lit (.bool true)], args := [d] }
  | _ => none }
def picksExpandsRow : OpenClaim := { program := "ytjpmhofpfmogiaa", sum := "0db4d83ffdf6de070ef05f9169422f31a4ad3f412334bf8b461cebc60e7706e6", func := "leapfrog/leapfroglaw10.PicksExpands", spec := "picksExpands", unfollowed := true, recurses := true, apart := false }
def PicksExpandsSaid : Prop := picksExpandsRow.holds Try.pinned (OpenSpec.ofChange picksExpandsSpec)

/-- ITS FALSE NEIGHBOUR: 'it returns false'. Refute it at one input. -/
def picksExpandsWrong : ChangeSpec := { name := "picksExpands", fn := fun _ => fun
  | [d] => { results := [.lit (.bool false)], args := [d] }
  | _ => none }
def PicksExpandsWrongFalsely : Prop := picksExpandsRow.holds Try.pinned (OpenSpec.ofChange picksExpandsWrong)

/-- 'leapfroglaw10.PicksPartition': WHATEVER THE INPUT: true; the input reads as it did. -/
def picksPartitionSpec : ChangeSpec := { name := "picksPartition", fn := fun _ => fun
  | [d1, d2] => { results := [.lit (.bool true)], args := [d1, d2] }
  | _ => none }
def picksPartitionRow : OpenClaim := { program := "ytjpmhofpfmogiaa", sum := "0db4d83ffdf6de070ef05f9169422f31a4ad3f412334bf8b461cebc60e7706e6", func := "leapfrog/leapfroglaw10.PicksPartition", spec := "picksPartition", unfollowed := true, recurses := true, apart := false }
def PicksPartitionSaid : Prop := picksPartitionRow.holds Try.pinned (OpenSpec.ofChange picksPartitionSpec)

/-- ITS FALSE NEIGHBOUR: 'it returns false'. Refute it at one input. -/
def picksPartitionWrong : ChangeSpec := { name := "picksPartition", fn := fun _ => fun
  | [d1, d2] => { results := [.lit (.bool false)], args := [d1, d2] }
  | _ => none }
def PicksPartitionWrongFalsely : Prop := picksPartitionRow.holds Try.pinned (OpenSpec.ofChange picksPartitionWrong)

/-- 'leapfroglaw10.PicksGaps': WHATEVER THE INPUT: true; the input reads as it did. -/
def picksGapsSpec : ChangeSpec := { name := "picksGaps", fn := fun _ => fun
  | [d1, d2, d3] => { results := [.lit (.bool true)], args := [d1, d2, d3] }
  | _ => none }
def picksGapsRow : OpenClaim := { program := "ytjpmhofpfmogiaa", sum := "0db4d83ffdf6de070ef05f9169422f31a4ad3f412334bf8b461cebc60e7706e6", func := "leapfrog/leapfroglaw10.PicksGaps", spec := "picksGaps", unfollowed := true, recurses := true, apart := false }
def PicksGapsSaid : Prop := picksGapsRow.holds Try.pinned (OpenSpec.ofChange picksGapsSpec)

/-- ITS FALSE NEIGHBOUR: 'it returns false'. Refute it at one input. -/
def picksGapsWrong : ChangeSpec := { name := "picksGaps", fn := fun _ => fun
  | [d1, d2, d3] => { results := [.lit (.bool false)], args := [d1, d2, d3] }
  | _ => none }
def PicksGapsWrongFalsely : Prop := picksGapsRow.holds Try.pinned (OpenSpec.ofChange picksGapsWrong)

/-- 'leapfroglaw10.PicksSame': WHATEVER THE INPUT: true; the input reads as it did. -/
def picksSameSpec : ChangeSpec := { name := "picksSame", fn := fun _ => fun
  | [d1, d2, d3] => { results := [.lit (.bool true)], args := [d1, d2, d3] }
  | _ => none }
def picksSameRow : OpenClaim := { program := "ytjpmhofpfmogiaa", sum := "0db4d83ffdf6de070ef05f9169422f31a4ad3f412334bf8b461cebc60e7706e6", func := "leapfrog/leapfroglaw10.PicksSame", spec := "picksSame", unfollowed := true, recurses := true, apart := false }
def PicksSameSaid : Prop := picksSameRow.holds Try.pinned (OpenSpec.ofChange picksSameSpec)

/-- ITS FALSE NEIGHBOUR: 'it returns false'. Refute it at one input. -/
def picksSameWrong : ChangeSpec := { name := "picksSame", fn := fun _ => fun
  | [d1, d2, d3] => { results := [.lit (.bool false)], args := [d1, d2, d3] }
  | _ => none }
def PicksSameWrongFalsely : Prop := picksSameRow.holds Try.pinned (OpenSpec.ofChange picksSameWrong)

/-- 'leapfroglaw10.PicksMakes': WHATEVER THE INPUT: true; the input reads as it did. -/
def picksMakesSpec : ChangeSpec := { name := "picksMakes", fn := fun _ => fun
  | [d1, d2, d3] => { results := [.lit (.bool true)], args := [d1, d2, d3] }
  | _ => none }
def picksMakesRow : OpenClaim := { program := "ytjpmhofpfmogiaa", sum := "0db4d83ffdf6de070ef05f9169422f31a4ad3f412334bf8b461cebc60e7706e6", func := "leapfrog/leapfroglaw10.PicksMakes", spec := "picksMakes", unfollowed := true, recurses := true, apart := false }
def PicksMakesSaid : Prop := picksMakesRow.holds Try.pinned (OpenSpec.ofChange picksMakesSpec)

/-- ITS FALSE NEIGHBOUR: 'it returns false'. Refute it at one input. -/
def picksMakesWrong : ChangeSpec := { name := "picksMakes", fn := fun _ => fun
  | [d1, d2, d3] => { results := [.lit (.bool false)], args := [d1, d2, d3] }
  | _ => none }
def PicksMakesWrongFalsely : Prop := picksMakesRow.holds Try.pinned (OpenSpec.ofChange picksMakesWrong)

/-- 'leapfroglaw10.PicksExamples': WHATEVER THE INPUT: true; the input reads as it did. -/
def picksExamplesSpec : ChangeSpec := { name := "picksExamples", fn := fun _ => fun
  | [] => { results := [.lit (.bool true)], args := [] }
  | _ => none }
def picksExamplesRow : OpenClaim := { program := "ytjpmhofpfmogiaa", sum := "0db4d83ffdf6de070ef05f9169422f31a4ad3f412334bf8b461cebc60e7706e6", func := "leapfrog/leapfroglaw10.PicksExamples", spec := "picksExamples", unfollowed := true, recurses := true, apart := false }
def PicksExamplesSaid : Prop := picksExamplesRow.holds Try.pinned (OpenSpec.ofChange picksExamplesSpec)

/-- ITS FALSE NEIGHBOUR: 'it returns false'. Refute it at one input. -/
def picksExamplesWrong : ChangeSpec := { name := "picksExamples", fn := fun _ => fun
  | [] => { results := [.lit (.bool false)], args := [] }
  | _ => none }
def PicksExamplesWrongFalsely : Prop := picksExamplesRow.holds Try.pinned (OpenSpec.ofChange picksExamplesWrong)

/-- 'leapfroglaw10.PicksRounds': WHATEVER THE INPUT: true; the input reads as it did. -/
def picksRoundsSpec : ChangeSpec := { name := "picksRounds", fn := fun _ => fun
  | [d1, d2, d3] => { results := [.lit (.bool true)], args := [d1, d2, d3] }
  | _ => none }
def picksRoundsRow : OpenClaim := { program := "ytjpmhofpfmogiaa", sum := "0db4d83ffdf6de070ef05f9169422f31a4ad3f412334bf8b461cebc60e7706e6", func := "leapfrog/leapfroglaw10.PicksRounds", spec := "picksRounds", unfollowed := true, recurses := true, apart := false }
def PicksRoundsSaid : Prop := picksRoundsRow.holds Try.pinned (OpenSpec.ofChange picksRoundsSpec)

/-- ITS FALSE NEIGHBOUR: 'it returns false'. Refute it at one input. -/
def picksRoundsWrong : ChangeSpec := { name := "picksRounds", fn := fun _ => fun
  | [d1, d2, d3] => { results := [.lit (.bool false)], args := [d1, d2, d3] }
  | _ => none }
def PicksRoundsWrongFalsely : Prop := picksRoundsRow.holds Try.pinned (OpenSpec.ofChange picksRoundsWrong)

/- THE SECOND FORM. 'bulk': how many values and letters a reading holds, each counted each time it is reached (what is shared counts as often as it is met; a slice's spare places count too). A statement '..UptoSaid' is the law's where the arguments, and the package variables that the reading takes, are together of bulk at most 1048576: NARROWER than '..Said'. Prove '..Said' where nothing that the law and all that it calls make is longer than what came in: it says more and counts as full. Else prove '..UptoSaid'. A law counts once. -/
mutual
def uptoBulk {H : Type} : DataW H → Nat
  | .lit (.string bytes) => bytes.length + 1
  | .lit _ => 1
  | .nil => 1
  | .ptr d => uptoBulk d + 1
  | .slice elems spare => uptoBulkAll elems + uptoBulkAll spare + 1
  | .agg parts => uptoBulkAll parts + 1
  | .iface _ d => uptoBulk d + 1
  | .map entries => uptoBulkEntries entries + 1
  | .held _ => 1
def uptoBulkAll {H : Type} : List (DataW H) → Nat
  | [] => 0
  | d :: r => uptoBulk d + uptoBulkAll r
def uptoBulkEntries {H : Type} : List (Lit × DataW H) → Nat
  | [] => 0
  | x :: r => uptoBulkEntry x + uptoBulkEntries r
def uptoBulkEntry {H : Type} : Lit × DataW H → Nat
  | (.string bytes, d) => bytes.length + uptoBulk d + 1
  | (_, d) => uptoBulk d + 1
 end
def uptoSmall : (H : Type) → List (DataW H) → Bool := fun _ ds => decide (uptoBulkAll ds ≤ 1048576)
def OpenSpec.upto (s : _root_.Go.ChangeSpec) : _root_.Go.OpenSpec := { _root_.Go.OpenSpec.ofChange s with cond := some uptoSmall }

/-- 'leapfroglaw10.PicksMatches', WHERE WHAT IT READS IS OF BULK AT MOST 1048576: true; the input reads as it did. -/
def picksMatchesUptoRow : OpenClaim := { program := "ytjpmhofpfmogiaa", sum := "0db4d83ffdf6de070ef05f9169422f31a4ad3f412334bf8b461cebc60e7706e6", func := "leapfrog/leapfroglaw10.PicksMatches", spec := "picksMatches", unfollowed := true, recurses := true, apart := false, narrowed := true }
def PicksMatchesUptoSaid : Prop := picksMatchesUptoRow.holds Try.pinned (OpenSpec.upto picksMatchesSpec)

/-- 'leapfroglaw10.PicksExpands', WHERE WHAT IT READS IS OF BULK AT MOST 1048576: true; the input reads as it did. -/
def picksExpandsUptoRow : OpenClaim := { program := "ytjpmhofpfmogiaa", sum := "0db4d83ffdf6de070ef05f9169422f31a4ad3f412334bf8b461cebc60e7706e6", func := "leapfrog/leapfroglaw10.PicksExpands", spec := "picksExpands", unfollowed := true, recurses := true, apart := false, narrowed := true }
def PicksExpandsUptoSaid : Prop := picksExpandsUptoRow.holds Try.pinned (OpenSpec.upto picksExpandsSpec)

/-- 'leapfroglaw10.PicksPartition', WHERE WHAT IT READS IS OF BULK AT MOST 1048576: true; the input reads as it did. -/
def picksPartitionUptoRow : OpenClaim := { program := "ytjpmhofpfmogiaa", sum := "0db4d83ffdf6de070ef05f9169422f31a4ad3f412334bf8b461cebc60e7706e6", func := "leapfrog/leapfroglaw10.PicksPartition", spec := "picksPartition", unfollowed := true, recurses := true, apart := false, narrowed := true }
def PicksPartitionUptoSaid : Prop := picksPartitionUptoRow.holds Try.pinned (OpenSpec.upto picksPartitionSpec)

/-- 'leapfroglaw10.PicksGaps', WHERE WHAT IT READS IS OF BULK AT MOST 1048576: true; the input reads as it did. -/
def picksGapsUptoRow : OpenClaim := { program := "ytjpmhofpfmogiaa", sum := "0db4d83ffdf6de070ef05f9169422f31a4ad3f412334bf8b461cebc60e7706e6", func := "leapfrog/leapfroglaw10.PicksGaps", spec := "picksGaps", unfollowed := true, recurses := true, apart := false, narrowed := true }
def PicksGapsUptoSaid : Prop := picksGapsUptoRow.holds Try.pinned (OpenSpec.upto picksGapsSpec)

/-- 'leapfroglaw10.PicksSame', WHERE WHAT IT READS IS OF BULK AT MOST 1048576: true; the input reads as it did. -/
def picksSameUptoRow : OpenClaim := { program := "ytjpmhofpfmogiaa", sum := "0db4d83ffdf6de070ef05f9169422f31a4ad3f412334bf8b461cebc60e7706e6", func := "leapfrog/leapfroglaw10.PicksSame", spec := "picksSame", unfollowed := true, recurses := true, apart := false, narrowed := true }
def PicksSameUptoSaid : Prop := picksSameUptoRow.holds Try.pinned (OpenSpec.upto picksSameSpec)

/-- 'leapfroglaw10.PicksMakes', WHERE WHAT IT READS IS OF BULK AT MOST 1048576: true; the input reads as it did. -/
def picksMakesUptoRow : OpenClaim := { program := "ytjpmhofpfmogiaa", sum := "0db4d83ffdf6de070ef05f9169422f31a4ad3f412334bf8b461cebc60e7706e6", func := "leapfrog/leapfroglaw10.PicksMakes", spec := "picksMakes", unfollowed := true, recurses := true, apart := false, narrowed := true }
def PicksMakesUptoSaid : Prop := picksMakesUptoRow.holds Try.pinned (OpenSpec.upto picksMakesSpec)

/-- 'leapfroglaw10.PicksExamples', WHERE WHAT IT READS IS OF BULK AT MOST 1048576: true; the input reads as it did. -/
def picksExamplesUptoRow : OpenClaim := { program := "ytjpmhofpfmogiaa", sum := "0db4d83ffdf6de070ef05f9169422f31a4ad3f412334bf8b461cebc60e7706e6", func := "leapfrog/leapfroglaw10.PicksExamples", spec := "picksExamples", unfollowed := true, recurses := true, apart := false, narrowed := true }
def PicksExamplesUptoSaid : Prop := picksExamplesUptoRow.holds Try.pinned (OpenSpec.upto picksExamplesSpec)

/-- 'leapfroglaw10.PicksRounds', WHERE WHAT IT READS IS OF BULK AT MOST 1048576: true; the input reads as it did. -/
def picksRoundsUptoRow : OpenClaim := { program := "ytjpmhofpfmogiaa", sum := "0db4d83ffdf6de070ef05f9169422f31a4ad3f412334bf8b461cebc60e7706e6", func := "leapfrog/leapfroglaw10.PicksRounds", spec := "picksRounds", unfollowed := true, recurses := true, apart := false, narrowed := true }
def PicksRoundsUptoSaid : Prop := picksRoundsUptoRow.holds Try.pinned (OpenSpec.upto picksRoundsSpec)

end Rows
end Go.Proofs.Ytjpmhofpfmogiaa
