/-
  No cell of these rows narrows 'for every input' (looked for: loops, veiled, ifaces, maps, wideKeys, modest, calm, conditions, laid).
  DERIVED. THE GIVEN ROWS OF THIS SEAT. 5 by the template 'for every input the law returns true; each argument reads behind the call as it read before'; 0 by the template 'total and deterministic' (their statements: YthkppihfdlmhgaaTotals.lean).
  GIVEN WITH THE SEED: the statements are not yours to turn. If you find one false, say at which input.
  Laid BY PROGRAM, IN A SANDBOX (cutbox-rows.mjs): the forced cells as the released guide's own fill.sh prints them over the translation 98c3c484c1f4b297… (all of the seat's roots in one cut). By AI agents, Wed Nov 11 2026. No macro, syntax, notation, axiom, sorry.
-/
import Derived.Test.YthkppihfdlmhgaaChecked
import GoSem.Claim
import GoSem.ClaimJoined
import GoSem.ClaimMapViews
import Derived.JoinedTies
import Derived.KernelRfl
namespace Go.Proofs.Ythkppihfdlmhgaa
/- THE CELL 'sum', in the pinned program and in every row, IS THE sha256 OF THE DUMP (.gsa) THAT YthkppihfdlmhgaaProg.lean LOADS. Nothing in Lean hashes anything: it is a label: what it is worth is what the hold of that sum in a sandbox is worth. -/
noncomputable def Try.pinned : Pinned := { name := "ythkppihfdlmhgaa", sum := "98c3c484c1f4b2975653f683dc1be260542693bafef7be2f6f4f38a9b0a23fcf", checked := Try.checked }
namespace Rows
def none {H : Type} : Left H := { results := [], args := [] }

/-- 'leapfroglaw21.GraceOvers': WHATEVER THE INPUT: true; the input reads as it did. -/
def graceOversSpec : ChangeSpec := { name := "graceOvers", fn := fun _ => fun
  | [d1, d2, d3] => { results := [.lit (.bool true)], args := [d1, d2, d3] }
  | _ => none }
def graceOversRow : OpenClaim := { program := "ythkppihfdlmhgaa", sum := "98c3c484c1f4b2975653f683dc1be260542693bafef7be2f6f4f38a9b0a23fcf", func := "leapfrog/leapfroglaw21.GraceOvers", spec := "graceOvers", unfollowed := true, recurses := true, apart := false }
def GraceOversSaid : Prop := graceOversRow.holds Try.pinned (OpenSpec.ofChange graceOversSpec)

/-- ITS FALSE NEIGHBOUR: 'it returns false'. Refute it at one input. -/
def graceOversWrong : ChangeSpec := { name := "graceOvers", fn := fun _ => fun
  | [d1, d2, d3] => { results := [.lit (.bool false)], args := [d1, d2, d3] }
  | _ => none }
def GraceOversWrongFalsely : Prop := graceOversRow.holds Try.pinned (OpenSpec.ofChange graceOversWrong)

/-- 'leapfroglaw21.GraceExamples': WHATEVER THE INPUT: true; the input reads as it did. -/
def graceExamplesSpec : ChangeSpec := { name := "graceExamples", fn := fun _ => fun
  | [] => { results := [.lit (.bool true)], args := [] }
  | _ => none }
def graceExamplesRow : OpenClaim := { program := "ythkppihfdlmhgaa", sum := "98c3c484c1f4b2975653f683dc1be260542693bafef7be2f6f4f38a9b0a23fcf", func := "leapfrog/leapfroglaw21.GraceExamples", spec := "graceExamples", unfollowed := true, recurses := true, apart := false }
def GraceExamplesSaid : Prop := graceExamplesRow.holds Try.pinned (OpenSpec.ofChange graceExamplesSpec)

/-- ITS FALSE NEIGHBOUR: 'it returns false'. Refute it at one input. -/
def graceExamplesWrong : ChangeSpec := { name := "graceExamples", fn := fun _ => fun
  | [] => { results := [.lit (.bool false)], args := [] }
  | _ => none }
def GraceExamplesWrongFalsely : Prop := graceExamplesRow.holds Try.pinned (OpenSpec.ofChange graceExamplesWrong)

/-- 'leapfroglaw21.GraceMoves': WHATEVER THE INPUT: true; the input reads as it did. -/
def graceMovesSpec : ChangeSpec := { name := "graceMoves", fn := fun _ => fun
  | [d1, d2] => { results := [.lit (.bool true)], args := [d1, d2] }
  | _ => none }
def graceMovesRow : OpenClaim := { program := "ythkppihfdlmhgaa", sum := "98c3c484c1f4b2975653f683dc1be260542693bafef7be2f6f4f38a9b0a23fcf", func := "leapfrog/leapfroglaw21.GraceMoves", spec := "graceMoves", unfollowed := true, recurses := true, apart := false }
def GraceMovesSaid : Prop := graceMovesRow.holds Try.pinned (OpenSpec.ofChange graceMovesSpec)

/-- ITS FALSE NEIGHBOUR: 'it returns false'. Refute it at one input. -/
def graceMovesWrong : ChangeSpec := { name := "graceMoves", fn := fun _ => fun
  | [d1, d2] => { results := [.lit (.bool false)], args := [d1, d2] }
  | _ => none }
def GraceMovesWrongFalsely : Prop := graceMovesRow.holds Try.pinned (OpenSpec.ofChange graceMovesWrong)

/-- 'leapfroglaw21.GraceUnion': WHATEVER THE INPUT: true; the input reads as it did. -/
def graceUnionSpec : ChangeSpec := { name := "graceUnion", fn := fun _ => fun
  | [d1, d2, d3, d4] => { results := [.lit (.bool true)], args := [d1, d2, d3, d4] }
  | _ => none }
def graceUnionRow : OpenClaim := { program := "ythkppihfdlmhgaa", sum := "98c3c484c1f4b2975653f683dc1be260542693bafef7be2f6f4f38a9b0a23fcf", func := "leapfrog/leapfroglaw21.GraceUnion", spec := "graceUnion", unfollowed := true, recurses := true, apart := false }
def GraceUnionSaid : Prop := graceUnionRow.holds Try.pinned (OpenSpec.ofChange graceUnionSpec)

/-- ITS FALSE NEIGHBOUR: 'it returns false'. Refute it at one input. -/
def graceUnionWrong : ChangeSpec := { name := "graceUnion", fn := fun _ => fun
  | [d1, d2, d3, d4] => { results := [.lit (.bool false)], args := [d1, d2, d3, d4] }
  | _ => none }
def GraceUnionWrongFalsely : Prop := graceUnionRow.holds Try.pinned (OpenSpec.ofChange graceUnionWrong)

/-- 'leapfroglaw21.GracePrefixes': WHATEVER THE INPUT: true; the input reads as it did. -/
def gracePrefixesSpec : ChangeSpec := { name := "gracePrefixes", fn := fun _ => fun
  | [d1, d2] => { results := [.lit (.bool true)], args := [d1, d2] }
  | _ => none }
def gracePrefixesRow : OpenClaim := { program := "ythkppihfdlmhgaa", sum := "98c3c484c1f4b2975653f683dc1be260542693bafef7be2f6f4f38a9b0a23fcf", func := "leapfrog/leapfroglaw21.GracePrefixes", spec := "gracePrefixes", unfollowed := true, recurses := true, apart := false }
def GracePrefixesSaid : Prop := gracePrefixesRow.holds Try.pinned (OpenSpec.ofChange gracePrefixesSpec)

/-- ITS FALSE NEIGHBOUR: 'it returns false'. Refute it at one input. -/
def gracePrefixesWrong : ChangeSpec := { name := "gracePrefixes", fn := fun _ => fun
  | [d1, d2] => { results := [.lit (.bool false)], args := [d1, d2] }
  | _ => none }
def GracePrefixesWrongFalsely : Prop := gracePrefixesRow.holds Try.pinned (OpenSpec.ofChange gracePrefixesWrong)

/- THE SECOND FORM. 'bulk': how many values and letters a reading holds, each counted each time it is reached (what is shared counts as often as it is met; a slice's spare places count too). A statement '..UptoSaid' is the law's where the arguments, and the package variables that the reading takes, are together of bulk at most 1048576: NARROWER than '..Said'. Prove '..Said' where nothing that the law and all that it calls make is longer than what came in: it says more and counts as full. Else prove '..UptoSaid'. A law counts once. -/
mutual
def uptoBulk {H : Type} : DataW H → Nat
  | .lit (.string bytes) => bytes.length + 1
  | .lit _ => 1
  | .nil => 1
  | .ptr d => uptoBulk d + 1
  | .slice elems spare => uptoBulkAll elems + uptoBulkAll spare + 1
  | .agg parts => uptoBulkAll parts + 1
  | .iface _ d => uptoBulk d + 1
  | .map entries => uptoBulkEntries entries + 1
  | .held _ => 1
def uptoBulkAll {H : Type} : List (DataW H) → Nat
  | [] => 0
  | d :: r => uptoBulk d + uptoBulkAll r
def uptoBulkEntries {H : Type} : List (Lit × DataW H) → Nat
  | [] => 0
  | x :: r => uptoBulkEntry x + uptoBulkEntries r
def uptoBulkEntry {H : Type} : Lit × DataW H → Nat
  | (.string bytes, d) => bytes.length + uptoBulk d + 1
  | (_, d) => uptoBulk d + 1
 end
def uptoSmall : (H : Type) → List (DataW H) → Bool := fun _ ds => decide (uptoBulkAll ds ≤ 1048576)
def OpenSpec.upto (s : _root_.Go.ChangeSpec) : _root_.Go.OpenSpec := { _root_.Go.OpenSpec.ofChange s with cond := some uptoSmall }

/-- 'leapfroglaw21.GraceOvers', WHERE WHAT IT READS IS OF BULK AT MOST 1048576: true; the input reads as it did. -/
def graceOversUptoRow : OpenClaim := { program := "ythkppihfdlmhgaa", sum := "98c3c484c1f4b2975653f683dc1be260542693bafef7be2f6f4f38a9b0a23fcf", func := "leapfrog/leapfroglaw21.GraceOvers", spec := "graceOvers", unfollowed := true, recurses := true, apart := false, narrowed := true }
def GraceOversUptoSaid : Prop := graceOversUptoRow.holds Try.pinned (OpenSpec.upto graceOversSpec)

/-- 'leapfroglaw21.GraceExamples', WHERE WHAT IT READS IS OF BULK AT MOST 1048576: true; the input reads as it did. -/
def graceExamplesUptoRow : OpenClaim := { program := "ythkppihfdlmhgaa", sum := "98c3c484c1f4b2975653f683dc1be260542693bafef7be2f6f4f38a9b0a23fcf", func := "leapfrog/leapfroglaw21.GraceExamples", spec := "graceExamples", unfollowed := true, recurses := true, apart := false, narrowed := true }
def GraceExamplesUptoSaid : Prop := graceExamplesUptoRow.holds Try.pinned (OpenSpec.upto graceExamplesSpec)

/-- 'leapfroglaw21.GraceMoves', WHERE WHAT IT READS IS OF BULK AT MOST 1048576: true; the input reads as it did. -/
def graceMovesUptoRow : OpenClaim := { program := "ythkppihfdlmhgaa", sum := "98c3c484c1f4b2975653f683dc1be260542693bafef7be2f6f4f38a9b0a23fcf", func := "leapfrog/leapfroglaw21.GraceMoves", spec := "graceMoves", unfollowed := true, recurses := true, apart := false, narrowed := true }
def GraceMovesUptoSaid : Prop := graceMovesUptoRow.holds Try.pinned (OpenSpec.upto graceMovesSpec)

/-- 'leapfroglaw21.GraceUnion', WHERE WHAT IT READS IS OF BULK AT MOST 1048576: true; the input reads as it did. -/
def graceUnionUptoRow : OpenClaim := { program := "ythkppihfdlmhgaa", sum := "98c3c484c1f4b2975653f683dc1be260542693bafef7be2f6f4f38a9b0a23fcf", func := "leapfrog/leapfroglaw21.GraceUnion", spec := "graceUnion", unfollowed := true, recurses := true, apart := false, narrowed := true }
def GraceUnionUptoSaid : Prop := graceUnionUptoRow.holds Try.pinned (OpenSpec.upto graceUnionSpec)

/-- 'leapfroglaw21.GracePrefixes', WHERE WHAT IT READS IS OF BULK AT MOST 1048576: true; the input reads as it did. -/
def gracePrefixesUptoRow : OpenClaim := { program := "ythkppihfdlmhgaa", sum := "98c3c484c1f4b2975653f683dc1be260542693bafef7be2f6f4f38a9b0a23fcf", func := "leapfrog/leapfroglaw21.GracePrefixes", spec := "gracePrefixes", unfollowed := true, recurses := true, apart := false, narrowed := true }
def GracePrefixesUptoSaid : Prop := gracePrefixesUptoRow.holds Try.pinned (OpenSpec.upto gracePrefixesSpec)

end Rows
end Go.Proofs.Ythkppihfdlmhgaa
