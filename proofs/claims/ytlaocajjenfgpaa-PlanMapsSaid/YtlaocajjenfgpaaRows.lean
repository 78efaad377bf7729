/-
  No cell of these rows narrows 'for every input' (looked for: loops, veiled, ifaces, maps, wideKeys, modest, calm, conditions, laid).
  DERIVED. THE GIVEN ROWS OF THIS SEAT. 8 by the template 'for every input the law returns true; each argument reads behind the call as it read before'; 0 by the template 'total and deterministic' (their statements: YtlaocajjenfgpaaTotals.lean).
  GIVEN WITH THE SEED: the statements are not yours to turn. If you find one false, say at which input.
  Laid BY PROGRAM, IN A SANDBOX (cutbox-rows.mjs): the forced cells as the released guide's own fill.sh prints them over the translation 2fb4275d5da08b14… (all of the seat's roots in one cut). By AI agents, Wed Nov 11 2026. No macro, syntax, notation, axiom, sorry.
-/
import Derived.Test.YtlaocajjenfgpaaChecked
import GoSem.Claim
import GoSem.ClaimJoined
import GoSem.ClaimMapViews
import Derived.JoinedTies
import Derived.KernelRfl
namespace Go.Proofs.Ytlaocajjenfgpaa
/- THE CELL 'sum', in the pinned program and in every row, IS THE sha256 OF THE DUMP (.gsa) THAT YtlaocajjenfgpaaProg.lean LOADS. Nothing in Lean hashes anything: it is a label: what it is worth is what the hold of that sum in a sandbox is worth. -/
noncomputable def Try.pinned : Pinned := { name := "ytlaocajjenfgpaa", sum := "2fb4275d5da08b148f664137976ac914178e1992796b987a82cb45512ff097b7", checked := Try.checked }
namespace Rows
def none {H : Type} : Left H := { results := [], args := [] }

/-- 'leapfroglaw06.PlanMoves': WHATEVER THE INPUT: true; the input reads as it did. -/
def planMovesSpec : ChangeSpec := { name := "planMoves", fn := fun _ => fun
  | [d1, d2, d3] => { results := [.lit (.bool true)], args := [d1, d2, d3] }
  | _ => none }
def planMovesRow : OpenClaim := { program := "ytlaocajjenfgpaa", sum := "2fb4275d5da08b148f664137976ac914178e1992796b987a82cb45512ff097b7", func := "leapfrog/leapfroglaw06.PlanMoves", spec := "planMoves", apart := false }
def PlanMovesSaid : Prop := planMovesRow.holds Try.pinned (OpenSpec.ofChange planMovesSpec)

/-- ITS FALSE NEIGHBOUR: 'it returns false'. Refute it at one input. -/
def planMovesWrong : ChangeSpec := { name := "planMoves", fn := fun _ => fun
  | [d1, d2, d3] => { results := [.lit (.bool false)], args := [d1, d2, d3] }
  | _ => none }
def PlanMovesWrongFalsely : Prop := planMovesRow.holds Try.pinned (OpenSpec.ofChange planMovesWrong)

/-- 'leapfroglaw06.PlanThen': WHATEVER THE INPUT: true; the input reads as it did. -/
def planThenSpec : ChangeSpec := { name := "planThen", fn := fun _ => fun
  | [d1, d2] => { results := [.lit (.bool true)], args := [d1, d2] }
  | _ => none }
def planThenRow : OpenClaim := { program := "ytlaocajjenfgpaa", sum := "2fb4275d5da08b148f664137976ac914178e1992796b987a82cb45512ff097b7", func := "leapfrog/leapfroglaw06.PlanThen", spec := "planThen", apart := false }
def PlanThenSaid : Prop := planThenRow.holds Try.pinned (OpenSpec.ofChange planThenSpec)

/-- ITS FALSE NEIGHBOUR: 'it returns false'. Refute it at one input. -/
def planThenWrong : ChangeSpec := { name := "planThen", fn := fun _ => fun
  | [d1, d2] => { results := [.lit (.bool false)], args := [d1, d2] }
  | _ => none }
def PlanThenWrongFalsely : Prop := planThenRow.holds Try.pinned (OpenSpec.ofChange planThenWrong)

/-- 'leapfroglaw06.PlanCancels': WHATEVER THE INPUT: true; the input reads as it did. -/
def planCancelsSpec : ChangeSpec := { name := "planCancels", fn := fun _ => fun
  | [d] => { results := [.lit (.bool true)], args := [d] }
  | _ => none }
def planCancelsRow : OpenClaim := { program := "ytlaocajjenfgpaa", sum := "2fb4275d5da08b148f664137976ac914178e1992796b987a82cb45512ff097b7", func := "leapfrog/leapfroglaw06.PlanCancels", spec := "planCancels", apart := false }
def PlanCancelsSaid : Prop := planCancelsRow.holds Try.pinned (OpenSpec.ofChange planCancelsSpec)

/-- ITS FALSE NEIGHBOUR: 'it returns false'. Refute it at one input. -/
def planCancelsWrong : ChangeSpec := { name := "planCancels", fn := fun _ => fun
  | [d] => { results := [.lit (.bool false)], args := [d] }
  | _ => none }
def PlanCancelsWrongFalsely : Prop := planCancelsRow.holds Try.pinned (OpenSpec.ofChange planCancelsWrong)

/-- 'leapfroglaw06.PlanApplies': WHATEVER THE INPUT: true; the input reads as it did. -/
def planAppliesSpec : ChangeSpec := { name := "planApplies", fn := fun _ => fun
  | [d1, d2] => { results := [.lit (.bool true)], args := [d1, d2] }
  | _ => none }
def planAppliesRow : OpenClaim := { program := "ytlaocajjenfgpaa", sum := "2fb4275d5da08b148f664137976ac914178e1992796b987a82cb45512ff097b7", func := "leapfrog/leapfroglaw06.PlanApplies", spec := "planApplies", apart := false }
def PlanAppliesSaid : Prop := planAppliesRow.holds Try.pinned (OpenSpec.ofChange planAppliesSpec)

/-- ITS FALSE NEIGHBOUR: 'it returns false'. Refute it at one input. -/
def planAppliesWrong : ChangeSpec := { name := "planApplies", fn := fun _ => fun
  | [d1, d2] => { results := [.lit (.bool false)], args := [d1, d2] }
  | _ => none }
def PlanAppliesWrongFalsely : Prop := planAppliesRow.holds Try.pinned (OpenSpec.ofChange planAppliesWrong)

/-- 'leapfroglaw06.PlanUndoes': WHATEVER THE INPUT: true; the input reads as it did. -/
def planUndoesSpec : ChangeSpec := { name := "planUndoes", fn := fun _ => fun
  | [d1, d2] => { results := [.lit (.bool true)], args := [d1, d2] }
  | _ => none }
def planUndoesRow : OpenClaim := { program := "ytlaocajjenfgpaa", sum := "2fb4275d5da08b148f664137976ac914178e1992796b987a82cb45512ff097b7", func := "leapfrog/leapfroglaw06.PlanUndoes", spec := "planUndoes", apart := false }
def PlanUndoesSaid : Prop := planUndoesRow.holds Try.pinned (OpenSpec.ofChange planUndoesSpec)

/-- ITS FALSE NEIGHBOUR: 'it returns false'. Refute it at one input. -/
def planUndoesWrong : ChangeSpec := { name := "planUndoes", fn := fun _ => fun
  | [d1, d2] => { results := [.lit (.bool false)], args := [d1, d2] }
  | _ => none }
def PlanUndoesWrongFalsely : Prop := planUndoesRow.holds Try.pinned (OpenSpec.ofChange planUndoesWrong)

/-- 'leapfroglaw06.PlanJoins': WHATEVER THE INPUT: true; the input reads as it did. -/
def planJoinsSpec : ChangeSpec := { name := "planJoins", fn := fun _ => fun
  | [d1, d2] => { results := [.lit (.bool true)], args := [d1, d2] }
  | _ => none }
def planJoinsRow : OpenClaim := { program := "ytlaocajjenfgpaa", sum := "2fb4275d5da08b148f664137976ac914178e1992796b987a82cb45512ff097b7", func := "leapfrog/leapfroglaw06.PlanJoins", spec := "planJoins", apart := false }
def PlanJoinsSaid : Prop := planJoinsRow.holds Try.pinned (OpenSpec.ofChange planJoinsSpec)

/-- ITS FALSE NEIGHBOUR: 'it returns false'. Refute it at one input. -/
def planJoinsWrong : ChangeSpec := { name := "planJoins", fn := fun _ => fun
  | [d1, d2] => { results := [.lit (.bool false)], args := [d1, d2] }
  | _ => none }
def PlanJoinsWrongFalsely : Prop := planJoinsRow.holds Try.pinned (OpenSpec.ofChange planJoinsWrong)

/-- 'leapfroglaw06.PlanExamples': WHATEVER THE INPUT: true; the input reads as it did. -/
def planExamplesSpec : ChangeSpec := { name := "planExamples", fn := fun _ => fun
  | [] => { results := [.lit (.bool true)], args := [] }
  | _ => none }
def planExamplesRow : OpenClaim := { program := "ytlaocajjenfgpaa", sum := "2fb4275d5da08b148f664137976ac914178e1992796b987a82cb45512ff097b7", func := "leapfrog/leapfroglaw06.PlanExamples", spec := "planExamples", apart := false }
def PlanExamplesSaid : Prop := planExamplesRow.holds Try.pinned (OpenSpec.ofChange planExamplesSpec)

/-- ITS FALSE NEIGHBOUR: 'it returns false'. Refute it at one input. -/
def planExamplesWrong : ChangeSpec := { name := "planExamples", fn := fun _ => fun
  | [] => { results := [.lit (.bool false)], args := [] }
  | _ => none }
def PlanExamplesWrongFalsely : Prop := planExamplesRow.holds Try.pinned (OpenSpec.ofChange planExamplesWrong)

/-- 'leapfroglaw06.PlanMaps': WHATEVER THE INPUT: true; the input reads as it did. -/
def planMapsSpec : ChangeSpec := { name := "planMaps", fn := fun _ => fun
  | [d1, d2, d3] => { results := [.lit (.bool true)], args := [d1, d2, d3] }
  | _ => none }
def planMapsRow : OpenClaim := { program := "ytlaocajjenfgpaa", sum := "2fb4275d5da08b148f664137976ac914178e1992796b987a82cb45512ff097b7", func := "leapfrog/leapfroglaw06.PlanMaps", spec := "planMaps", inPlace := ["slices.overlaps[leapfrog/api.Pair]"], unfollowed := true, recurses := true, apart := false }
def PlanMapsSaid : Prop := planMapsRow.holds Try.pinned (OpenSpec.ofChange planMapsSpec)

/-- ITS FALSE NEIGHBOUR: 'it returns false'. Refute it at one input. -/
def planMapsWrong : ChangeSpec := { name := "planMaps", fn := fun _ => fun
  | [d1, d2, d3] => { results := [.lit (.bool false)], args := [d1, d2, d3] }
  | _ => none }
def PlanMapsWrongFalsely : Prop := planMapsRow.holds Try.pinned (OpenSpec.ofChange planMapsWrong)

/- THE SECOND FORM. 'bulk': how many values and letters a reading holds, each counted each time it is reached (what is shared counts as often as it is met; a slice's spare places count too). A statement '..UptoSaid' is the law's where the arguments, and the package variables that the reading takes, are together of bulk at most 1048576: NARROWER than '..Said'. Prove '..Said' where nothing that the law and all that it calls make is longer than what came in: it says more and counts as full. Else prove '..UptoSaid'. A law counts once. -/
mutual
def uptoBulk {H : Type} : DataW H → Nat
  | .lit (.string bytes) => bytes.length + 1
  | .lit _ => 1
  | .nil => 1
  | .ptr d => uptoBulk d + 1
  | .slice elems spare => uptoBulkAll elems + uptoBulkAll spare + 1
  | .agg parts => uptoBulkAll parts + 1
  | .iface _ d => uptoBulk d + 1
  | .map entries => uptoBulkEntries entries + 1
  | .held _ => 1
def uptoBulkAll {H : Type} : List (DataW H) → Nat
  | [] => 0
  | d :: r => uptoBulk d + uptoBulkAll r
def uptoBulkEntries {H : Type} : List (Lit × DataW H) → Nat
  | [] => 0
  | x :: r => uptoBulkEntry x + uptoBulkEntries r
def uptoBulkEntry {H : Type} : Lit × DataW H → Nat
  | (.string bytes, d) => bytes.length + uptoBulk d + 1
  | (_, d) => uptoBulk d + 1
 end
def uptoSmall : (H : Type) → List (DataW H) → Bool := fun _ ds => decide (uptoBulkAll ds ≤ 1048576)
def OpenSpec.upto (s : _root_.Go.ChangeSpec) : _root_.Go.OpenSpec := { _root_.Go.OpenSpec.ofChange s with cond := some uptoSmall }

/-- 'leapfroglaw06.PlanMoves', WHERE WHAT IT READS IS OF BULK AT MOST 1048576: true; the input reads as it did. -/
def planMovesUptoRow : OpenClaim := { program := "ytlaocajjenfgpaa", sum := "2fb4275d5da08b148f664137976ac914178e1992796b987a82cb45512ff097b7", func := "leapfrog/leapfroglaw06.PlanMoves", spec := "planMoves", apart := false, narrowed := true }
def PlanMovesUptoSaid : Prop := planMovesUptoRow.holds Try.pinned (OpenSpec.upto planMovesSpec)

/-- 'leapfroglaw06.PlanThen', WHERE WHAT IT READS IS OF BULK AT MOST 1048576: true; the input reads as it did. -/
def planThenUptoRow : OpenClaim := { program := "ytlaocajjenfgpaa", sum := "2fb4275d5da08b148f664137976ac914178e1992796b987a82cb45512ff097b7", func := "leapfrog/leapfroglaw06.PlanThen", spec := "planThen", apart := false, narrowed := true }
def PlanThenUptoSaid : Prop := planThenUptoRow.holds Try.pinned (OpenSpec.upto planThenSpec)

/-- 'leapfroglaw06.PlanCancels', WHERE WHAT IT READS IS OF BULK AT MOST 1048576: true; the input reads as it did. -/
def planCancelsUptoRow : OpenClaim := { program := "ytlaocajjenfgpaa", sum := "2fb4275d5da08b148f664137976ac914178e1992796b987a82cb45512ff097b7", func := "leapfrog/leapfroglaw06.PlanCancels", spec := "planCancels", apart := false, narrowed := true }
def PlanCancelsUptoSaid : Prop := planCancelsUptoRow.holds Try.pinned (OpenSpec.upto planCancelsSpec)

/-- 'leapfroglaw06.PlanApplies', WHERE WHAT IT READS IS OF BULK AT MOST 1048576: true; the input reads as it did. -/
def planAppliesUptoRow : OpenClaim := { program := "ytlaocajjenfgpaa", sum := "2fb4275d5da08b148f664137976ac914178e1992796b987a82cb45512ff097b7", func := "leapfrog/leapfroglaw06.PlanApplies", spec := "planApplies", apart := false, narrowed := true }
def PlanAppliesUptoSaid : Prop := planAppliesUptoRow.holds Try.pinned (OpenSpec.upto planAppliesSpec)

/-- 'leapfroglaw06.PlanUndoes', WHERE WHAT IT READS IS OF BULK AT MOST 1048576: true; the input reads as it did. -/
def planUndoesUptoRow : OpenClaim := { program := "ytlaocajjenfgpaa", sum := "2fb4275d5da08b148f664137976ac914178e1992796b987a82cb45512ff097b7", func := "leapfrog/leapfroglaw06.PlanUndoes", spec := "planUndoes", apart := false, narrowed := true }
def PlanUndoesUptoSaid : Prop := planUndoesUptoRow.holds Try.pinned (OpenSpec.upto planUndoesSpec)

/-- 'leapfroglaw06.PlanJoins', WHERE WHAT IT READS IS OF BULK AT MOST 1048576: true; the input reads as it did. -/
def planJoinsUptoRow : OpenClaim := { program := "ytlaocajjenfgpaa", sum := "2fb4275d5da08b148f664137976ac914178e1992796b987a82cb45512ff097b7", func := "leapfrog/leapfroglaw06.PlanJoins", spec := "planJoins", apart := false, narrowed := true }
def PlanJoinsUptoSaid : Prop := planJoinsUptoRow.holds Try.pinned (OpenSpec.upto planJoinsSpec)

/-- 'leapfroglaw06.PlanExamples', WHERE WHAT IT READS IS OF BULK AT MOST 1048576: true; the input reads as it did. -/
def planExamplesUptoRow : OpenClaim := { program := "ytlaocajjenfgpaa", sum := "2fb4275d5da08b148f664137976ac914178e1992796b987a82cb45512ff097b7", func := "leapfrog/leapfroglaw06.PlanExamples", spec := "planExamples", apart := false, narrowed := true }
def PlanExamplesUptoSaid : Prop := planExamplesUptoRow.holds Try.pinned (OpenSpec.upto planExamplesSpec)

/-- 'leapfroglaw06.PlanMaps', WHERE WHAT IT READS IS OF BULK AT MOST 1048576: true; the input reads as it did. -/
def planMapsUptoRow : OpenClaim := { program := "ytlaocajjenfgpaa", sum := "2fb4275d5da08b148f664137976ac914178e1992796b987a82cb45512ff097b7", func := "leapfrog/leapfroglaw06.PlanMaps", spec := "planMaps", inPlace := ["slices.overlaps[leapfrog/api.Pair]"], unfollowed := true, recurses := true, apart := false, narrowed := true }
def PlanMapsUptoSaid : Prop := planMapsUptoRow.holds Try.pinned (OpenSpec.upto planMapsSpec)

end Rows
end Go.Proofs.Ytlaocajjenfgpaa
