/- What all claims of the seat share. -/
import Derived.Test.YtfghkmhabpagkaaChecked
import Derived.Test.YtfghkmhabpagkaaOpenS
import Derived.Test.YtfghkmhabpagkaaSpan
import Derived.Test.YtfghkmhabpagkaaOpenV
import Derived.ProofKit
import Derived.OpenShut
import Derived.Deep.DeepHandedRow
namespace Go.Proofs.Ytfghkmhabpagkaa
open Go Go.ChangeShapes Go.WideShapes Go.ChangeAt Go.RowKit
theorem own : ownKnob Try.prog.godebug = none := by kernel_rfl
theorem laidOut : laidOutB Try.prog = true := by kernel_rfl
end Go.Proofs.Ytfghkmhabpagkaa
