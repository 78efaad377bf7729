/- What Check returns, as an ending. -/
import Derived.Test.YthkppihfdlmhgaaCkP
namespace Go.Proofs.Ythkppihfdlmhgaa
open Go Go.RowKit

/-- What Check returns. -/
def CkEnd (l : List Ev) (w : World) (e : Ending) (w' : World) : Prop := ∃ a er, e = .returned (.tuple #[.int .i64 a, .int .i64 er]) ∧ CkIs l a er ∧ Below w.heap.size w w'

end Go.Proofs.Ythkppihfdlmhgaa
