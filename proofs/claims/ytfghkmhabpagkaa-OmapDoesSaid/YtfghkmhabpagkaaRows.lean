/-
  No cell of these rows narrows 'for every input' (looked for: loops, veiled, ifaces, maps, wideKeys, modest, calm, conditions, laid).
  DERIVED. THE GIVEN ROWS OF THIS SEAT. 8 by the template 'for every input the law returns true; each argument reads behind the call as it read before'; 0 by the template 'total and deterministic' (their statements: YtfghkmhabpagkaaTotals.lean).
  GIVEN WITH THE SEED: the statements are not yours to turn. If you find one false, say at which input.
  Laid BY PROGRAM, IN A SANDBOX (cutbox-rows.mjs): the forced cells as the released guide's own fill.sh prints them over the translation debadf09249b79bf… (all of the seat's roots in one cut). By AI agents, Wed Nov 11 2026. No macro, syntax, notation, axiom, sorry.
-/
import Derived.Test.YtfghkmhabpagkaaChecked
import GoSem.Claim
import GoSem.ClaimJoined
import GoSem.ClaimMapViews
import Derived.JoinedTies
import Derived.KernelRfl
namespace Go.Proofs.Ytfghkmhabpagkaa
/- THE CELL 'sum', in the pinned program and in every row, IS THE sha256 OF THE DUMP (.gsa) THAT YtfghkmhabpagkaaProg.lean LOADS. Nothing in Lean hashes anything: it is a label: what it is worth is what the hold of that sum in a sandbox is worth. -/
noncomputable def Try.pinned : Pinned := { name := "ytfghkmhabpagkaa", sum := "debadf09249b79bf04d9770b12a70c4c55ad9a01a94d90857b3d916a461b4ed2", checked := Try.checked }
namespace Rows
def none {H : Type} : Left H := { results := [], args := [] }

/-- 'leapfroglaw05.OmapMoves': WHATEVER THE INPUT: true; the input reads as it did. -/
def omapMovesSpec : ChangeSpec := { name := "omapMoves", fn := fun _ => fun
  | [d1, d2, d3] => { results := [.lit (.bool true)], args := [d1, d2, d3] }
  | _ => none }
def omapMovesRow : OpenClaim := { program := "ytfghkmhabpagkaa", sum := "debadf09249b79bf04d9770b12a70c4c55ad9a01a94d90857b3d916a461b4ed2", func := "leapfrog/leapfroglaw05.OmapMoves", spec := "omapMoves", inPlace := ["slices.overlaps[leapfrog/api.Pair]"], unfollowed := true, recurses := true, apart := false }
def OmapMovesSaid : Prop := omapMovesRow.holds Try.pinned (OpenSpec.ofChange omapMovesSpec)

/-- ITS FALSE NEIGHBOUR: 'it returns false'. Refute it at one input. -/
def omapMovesWrong : ChangeSpec := { name := "omapMoves", fn := fun _ => fun
  | [d1, d2, d3] => { results := [.lit (.bool false)], args := [d1, d2, d3] }
  | _ => none }
def OmapMovesWrongFalsely : Prop := omapMovesRow.holds Try.pinned (OpenSpec.ofChange omapMovesWrong)

/-- 'leapfroglaw05.OmapTwice': WHATEVER THE INPUT: true; the input reads as it did. -/
def omapTwiceSpec : ChangeSpec := { name := "omapTwice", fn := fun _ => fun
  | [d1, d2, d3] => { results := [.lit (.bool true)], args := [d1, d2, d3] }
  | _ => none }
def omapTwiceRow : OpenClaim := { program := "ytfghkmhabpagkaa", sum := "debadf09249b79bf04d9770b12a70c4c55ad9a01a94d90857b3d916a461b4ed2", func := "leapfrog/leapfroglaw05.OmapTwice", spec := "omapTwice", inPlace := ["slices.overlaps[leapfrog/api.Pair]"], unfollowed := true, recurses := true, apart := false }
def OmapTwiceSaid : Prop := omapTwiceRow.holds Try.pinned (OpenSpec.ofChange omapTwiceSpec)

/-- ITS FALSE NEIGHBOUR: 'it returns false'. Refute it at one input. -/
def omapTwiceWrong : ChangeSpec := { name := "omapTwice", fn := fun _ => fun
  | [d1, d2, d3] => { results := [.lit (.bool false)], args := [d1, d2, d3] }
  | _ => none }
def OmapTwiceWrongFalsely : Prop := omapTwiceRow.holds Try.pinned (OpenSpec.ofChange omapTwiceWrong)

/-- 'leapfroglaw05.OmapNew': WHATEVER THE INPUT: true; the input reads as it did. -/
def omapNewSpec : ChangeSpec := { name := "omapNew", fn := fun _ => fun
  | [d1, d2] => { results := [.lit (.bool true)], args := [d1, d2] }
  | _ => none }
def omapNewRow : OpenClaim := { program := "ytfghkmhabpagkaa", sum := "debadf09249b79bf04d9770b12a70c4c55ad9a01a94d90857b3d916a461b4ed2", func := "leapfrog/leapfroglaw05.OmapNew", spec := "omapNew", inPlace := ["slices.overlaps[leapfrog/api.Pair]"], unfollowed := true, recurses := true, apart := false }
def OmapNewSaid : Prop := omapNewRow.holds Try.pinned (OpenSpec.ofChange omapNewSpec)

/-- ITS FALSE NEIGHBOUR: 'it returns false'. Refute it at one input. -/
def omapNewWrong : ChangeSpec := { name := "omapNew", fn := fun _ => fun
  | [d1, d2] => { results := [.lit (.bool false)], args := [d1, d2] }
  | _ => none }
def OmapNewWrongFalsely : Prop := omapNewRow.holds Try.pinned (OpenSpec.ofChange omapNewWrong)

/-- 'leapfroglaw05.OmapRanges': WHATEVER THE INPUT: true; the input reads as it did. -/
def omapRangesSpec : ChangeSpec := { name := "omapRanges", fn := fun _ => fun
  | [d1, d2] => { results := [.lit (.bool true)], args := [d1, d2] }
  | _ => none }
def omapRangesRow : OpenClaim := { program := "ytfghkmhabpagkaa", sum := "debadf09249b79bf04d9770b12a70c4c55ad9a01a94d90857b3d916a461b4ed2", func := "leapfrog/leapfroglaw05.OmapRanges", spec := "omapRanges", inPlace := ["slices.overlaps[leapfrog/api.Pair]"], unfollowed := true, recurses := true, apart := false }
def OmapRangesSaid : Prop := omapRangesRow.holds Try.pinned (OpenSpec.ofChange omapRangesSpec)

/-- ITS FALSE NEIGHBOUR: 'it returns false'. Refute it at one input. -/
def omapRangesWrong : ChangeSpec := { name := "omapRanges", fn := fun _ => fun
  | [d1, d2] => { results := [.lit (.bool false)], args := [d1, d2] }
  | _ => none }
def OmapRangesWrongFalsely : Prop := omapRangesRow.holds Try.pinned (OpenSpec.ofChange omapRangesWrong)

/-- 'leapfroglaw05.OmapKeeps': WHATEVER THE INPUT: true; the input reads as it did. -/
def omapKeepsSpec : ChangeSpec := { name := "omapKeeps", fn := fun _ => fun
  | [d1, d2] => { results := [.lit (.bool true)], args := [d1, d2] }
  | _ => none }
def omapKeepsRow : OpenClaim := { program := "ytfghkmhabpagkaa", sum := "debadf09249b79bf04d9770b12a70c4c55ad9a01a94d90857b3d916a461b4ed2", func := "leapfrog/leapfroglaw05.OmapKeeps", spec := "omapKeeps", inPlace := ["slices.overlaps[leapfrog/api.Pair]"], unfollowed := true, recurses := true, apart := false }
def OmapKeepsSaid : Prop := omapKeepsRow.holds Try.pinned (OpenSpec.ofChange omapKeepsSpec)

/-- ITS FALSE NEIGHBOUR: 'it returns false'. Refute it at one input. -/
def omapKeepsWrong : ChangeSpec := { name := "omapKeeps", fn := fun _ => fun
  | [d1, d2] => { results := [.lit (.bool false)], args := [d1, d2] }
  | _ => none }
def OmapKeepsWrongFalsely : Prop := omapKeepsRow.holds Try.pinned (OpenSpec.ofChange omapKeepsWrong)

/-- 'leapfroglaw05.OmapReturns': WHATEVER THE INPUT: true; the input reads as it did. -/
def omapReturnsSpec : ChangeSpec := { name := "omapReturns", fn := fun _ => fun
  | [d1, d2, d3] => { results := [.lit (.bool true)], args := [d1, d2, d3] }
  | _ => none }
def omapReturnsRow : OpenClaim := { program := "ytfghkmhabpagkaa", sum := "debadf09249b79bf04d9770b12a70c4c55ad9a01a94d90857b3d916a461b4ed2", func := "leapfrog/leapfroglaw05.OmapReturns", spec := "omapReturns", inPlace := ["slices.overlaps[leapfrog/api.Pair]"], unfollowed := true, recurses := true, apart := false }
def OmapReturnsSaid : Prop := omapReturnsRow.holds Try.pinned (OpenSpec.ofChange omapReturnsSpec)

/-- ITS FALSE NEIGHBOUR: 'it returns false'. Refute it at one input. -/
def omapReturnsWrong : ChangeSpec := { name := "omapReturns", fn := fun _ => fun
  | [d1, d2, d3] => { results := [.lit (.bool false)], args := [d1, d2, d3] }
  | _ => none }
def OmapReturnsWrongFalsely : Prop := omapReturnsRow.holds Try.pinned (OpenSpec.ofChange omapReturnsWrong)

/-- 'leapfroglaw05.OmapDoes': WHATEVER THE INPUT: true; the input reads as it did. -/
def omapDoesSpec : ChangeSpec := { name := "omapDoes", fn := fun _ => fun
  | [d1, d2] => { results := [.lit (.bool true)], args := [d1, d2] }
  | _ => none }
def omapDoesRow : OpenClaim := { program := "ytfghkmhabpagkaa", sum := "debadf09249b79bf04d9770b12a70c4c55ad9a01a94d90857b3d916a461b4ed2", func := "leapfrog/leapfroglaw05.OmapDoes", spec := "omapDoes", inPlace := ["slices.overlaps[leapfrog/api.Pair]"], unfollowed := true, recurses := true, apart := false }
def OmapDoesSaid : Prop := omapDoesRow.holds Try.pinned (OpenSpec.ofChange omapDoesSpec)

/-- ITS FALSE NEIGHBOUR: 'it returns false'. Refute it at one input. -/
def omapDoesWrong : ChangeSpec := { name := "omapDoes", fn := fun _ => fun
  | [d1, d2] => { results := [.lit (.bool false)], args := [d1, d2] }
  | _ => none }
def OmapDoesWrongFalsely : Prop := omapDoesRow.holds Try.pinned (OpenSpec.ofChange omapDoesWrong)

/-- 'leapfroglaw05.OmapExamples': WHATEVER THE INPUT: true; the input reads as it did. -/
def omapExamplesSpec : ChangeSpec := { name := "omapExamples", fn := fun _ => fun
  | [] => { results := [.lit (.bool true)], args := [] }
  | _ => none }
def omapExamplesRow : OpenClaim := { program := "ytfghkmhabpagkaa", sum := "debadf09249b79bf04d9770b12a70c4c55ad9a01a94d90857b3d916a461b4ed2", func := "leapfrog/leapfroglaw05.OmapExamples", spec := "omapExamples", inPlace := ["slices.overlaps[leapfrog/api.Pair]"], unfollowed := true, recurses := true, apart := false }
def OmapExamplesSaid : Prop := omapExamplesRow.holds Try.pinned (OpenSpec.ofChange omapExamplesSpec)

/-- ITS FALSE NEIGHBOUR: 'it returns false'. Refute it at one input. -/
def omapExamplesWrong : ChangeSpec := { name := "omapExamples", fn := fun _ => fun
  | [] => { results := [.lit (.bool false)], args := [] }
  | _ => none }
def OmapExamplesWrongFalsely : Prop := omapExamplesRow.holds Try.pinned (OpenSpec.ofChange omapExamplesWrong)

/- THE SECOND FORM. 'bulk': how many values and letters a reading holds, each counted each time it is reached (what is shared counts as often as it is met; a slice's spare places count too). A statement '..UptoSaid' is the law's where the arguments, and the package variables that the reading takes, are together of bulk at most 1048576: NARROWER than '..Said'. Prove '..Said' where nothing that the law and all that it calls make is longer than what came in: it says more and counts as full. Else prove '..UptoSaid'. A law counts once. -/
mutual
def uptoBulk {H : Type} : DataW H → Nat
  | .lit (.string bytes) => bytes.length + 1
  | .lit _ => 1
  | .nil => 1
  | .ptr d => uptoBulk d + 1
  | .slice elems spare => uptoBulkAll elems + uptoBulkAll spare + 1
  | .agg parts => uptoBulkAll parts + 1
  | .iface _ d => uptoBulk d + 1
  | .map entries => uptoBulkEntries entries + 1
  | .held _ => 1
def uptoBulkAll {H : Type} : List (DataW H) → Nat
  | [] => 0
  | d :: r => uptoBulk d + uptoBulkAll r
def uptoBulkEntries {H : Type} : List (Lit × DataW H) → Nat
  | [] => 0
  | x :: r => uptoBulkEntry x + uptoBulkEntries r
def uptoBulkEntry {H : Type} : Lit × DataW H → Nat
  | (.string bytes, d) => bytes.length + uptoBulk d + 1
  | (_, d) => uptoBulk d + 1
 end
def uptoSmall : (H : Type) → List (DataW H) → Bool := fun _ ds => decide (uptoBulkAll ds ≤ 1048576)
def OpenSpec.upto (s : _root_.Go.ChangeSpec) : _root_.Go.OpenSpec := { _root_.Go.OpenSpec.ofChange s with cond := some uptoSmall }

/-- 'leapfroglaw05.OmapMoves', WHERE WHAT IT READS IS OF BULK AT MOST 1048576: true; the input reads as it did. -/
def omapMovesUptoRow : OpenClaim := { program := "ytfghkmhabpagkaa", sum := "debadf09249b79bf04d9770b12a70c4c55ad9a01a94d90857b3d916a461b4ed2", func := "leapfrog/leapfroglaw05.OmapMoves", spec := "omapMoves", inPlace := ["slices.overlaps[leapfrog/api.Pair]"], unfollowed := true, recurses := true, apart := false, narrowed := true }
def OmapMovesUptoSaid : Prop := omapMovesUptoRow.holds Try.pinned (OpenSpec.upto omapMovesSpec)

/-- 'leapfroglaw05.OmapTwice', WHERE WHAT IT READS IS OF BULK AT MOST 1048576: true; the input reads as it did. -/
def omapTwiceUptoRow : OpenClaim := { program := "ytfghkmhabpagkaa", sum := "debadf09249b79bf04d9770b12a70c4c55ad9a01a94d90857b3d916a461b4ed2", func := "leapfrog/leapfroglaw05.OmapTwice", spec := "omapTwice", inPlace := ["slices.overlaps[leapfrog/api.Pair]"], unfollowed := true, recurses := true, apart := false, narrowed := true }
def OmapTwiceUptoSaid : Prop := omapTwiceUptoRow.holds Try.pinned (OpenSpec.upto omapTwiceSpec)

/-- 'leapfroglaw05.OmapNew', WHERE WHAT IT READS IS OF BULK AT MOST 1048576: true; the input reads as it did. -/
def omapNewUptoRow : OpenClaim := { program := "ytfghkmhabpagkaa", sum := "debadf09249b79bf04d9770b12a70c4c55ad9a01a94d90857b3d916a461b4ed2", func := "leapfrog/leapfroglaw05.OmapNew", spec := "omapNew", inPlace := ["slices.overlaps[leapfrog/api.Pair]"], unfollowed := true, recurses := true, apart := false, narrowed := true }
def OmapNewUptoSaid : Prop := omapNewUptoRow.holds Try.pinned (OpenSpec.upto omapNewSpec)

/-- 'leapfroglaw05.OmapRanges', WHERE WHAT IT READS IS OF BULK AT MOST 1048576: true; the input reads as it did. -/
def omapRangesUptoRow : OpenClaim := { program := "ytfghkmhabpagkaa", sum := "debadf09249b79bf04d9770b12a70c4c55ad9a01a94d90857b3d916a461b4ed2", func := "leapfrog/leapfroglaw05.OmapRanges", spec := "omapRanges", inPlace := ["slices.overlaps[leapfrog/api.Pair]"], unfollowed := true, recurses := true, apart := false, narrowed := true }
def OmapRangesUptoSaid : Prop := omapRangesUptoRow.holds Try.pinned (OpenSpec.upto omapRangesSpec)

/-- 'leapfroglaw05.OmapKeeps', WHERE WHAT IT READS IS OF BULK AT MOST 1048576: true; the input reads as it did. -/
def omapKeepsUptoRow : OpenClaim := { program := "ytfghkmhabpagkaa", sum := "debadf09249b79bf04d9770b12a70c4c55ad9a01a94d90857b3d916a461b4ed2", func := "leapfrog/leapfroglaw05.OmapKeeps", spec := "omapKeeps", inPlace := ["slices.overlaps[leapfrog/api.Pair]"], unfollowed := true, recurses := true, apart := false, narrowed := true }
def OmapKeepsUptoSaid : Prop := omapKeepsUptoRow.holds Try.pinned (OpenSpec.upto omapKeepsSpec)

/-- 'leapfroglaw05.OmapReturns', WHERE WHAT IT READS IS OF BULK AT MOST 1048576: true; the input reads as it did. -/
def omapReturnsUptoRow : OpenClaim := { program := "ytfghkmhabpagkaa", sum := "debadf09249b79bf04d9770b12a70c4c55ad9a01a94d90857b3d916a461b4ed2", func := "leapfrog/leapfroglaw05.OmapReturns", spec := "omapReturns", inPlace := ["slices.overlaps[leapfrog/api.Pair]"], unfollowed := true, recurses := true, apart := false, narrowed := true }
def OmapReturnsUptoSaid : Prop := omapReturnsUptoRow.holds Try.pinned (OpenSpec.upto omapReturnsSpec)

/-- 'leapfroglaw05.OmapDoes', WHERE WHAT IT READS IS OF BULK AT MOST 1048576: true; the input reads as it did. -/
def omapDoesUptoRow : OpenClaim := { program := "ytfghkmhabpagkaa", sum := "debadf09249b79bf04d9770b12a70c4c55ad9a01a94d90857b3d916a461b4ed2", func := "leapfrog/leapfroglaw05.OmapDoes", spec := "omapDoes", inPlace := ["slices.overlaps[leapfrog/api.Pair]"], unfollowed := true, recurses := true, apart := false, narrowed := true }
def OmapDoesUptoSaid : Prop := omapDoesUptoRow.holds Try.pinned (OpenSpec.upto omapDoesSpec)

/-- 'leapfroglaw05.OmapExamples', WHERE WHAT IT READS IS OF BULK AT MOST 1048576: true; the input reads as it did. -/
def omapExamplesUptoRow : OpenClaim := { program := "ytfghkmhabpagkaa", sum := "debadf09249b79bf04d9770b12a70c4c55ad9a01a94d90857b3d916a461b4ed2", func := "leapfrog/leapfroglaw05.OmapExamples", spec := "omapExamples", inPlace := ["slices.overlaps[leapfrog/api.Pair]"], unfollowed := true, recurses := true, apart := false, narrowed := true }
def OmapExamplesUptoSaid : Prop := omapExamplesUptoRow.holds Try.pinned (OpenSpec.upto omapExamplesSpec)

end Rows
end Go.Proofs.Ytfghkmhabpagkaa
