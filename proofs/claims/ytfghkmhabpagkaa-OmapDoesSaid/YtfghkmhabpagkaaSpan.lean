/- A span by value: what a reading of the row gives, and back. -/
import Derived.Test.YtfghkmhabpagkaaOpenS
import Derived.Lib.SmallJoins
namespace Go.Proofs.Ytfghkmhabpagkaa
open Go Go.RowKit Go.ChangeShapes Go.WideShapes Go.ChangeAt Go.Joins
section
variable {H : Type} {enc : TypeId × Value → H} {w : World} {base : Nat} {spare : Nat → Bool} {held : Bool}
theorem cellsSpan : Try.prog.cellsOf 25 = 2 := by kernel_rfl
theorem open_Span {r : Reach} {b0 : Nat} {v : Value} {d : DataW H} {p : List MemPlace} (hv : Value.okWide Try.prog w r b0 25 v) (h : DataW.Trod enc Try.prog w base spare held 25 v d p) :
    ∃ x0 x1 : Int, v = .agg #[.int .u64 x0, .int .u64 x1] ∧ d = .agg [.lit (.int .u64 x0), .lit (.int .u64 x1)] ∧ p = [] ∧ (Lit.int .u64 x0).wf = true ∧ (Lit.int .u64 x1).wf = true := by
  obtain ⟨c0, c1, y0, y1, m, rfl, rfl, rfl, hy0, hy1⟩ := open_agg2 Try.underlying25 (by kernel_rfl) cellsSpan hv h
  obtain ⟨a, e0, rfl, wa⟩ := DataW.trod_int Try.underlying23 hy0
  obtain ⟨b, e1, rfl, wb⟩ := DataW.trod_int Try.underlying23 hy1
  simp at e0 e1
  subst e0 e1
  exact ⟨a, b, rfl, rfl, rfl, wa, wb⟩
theorem shut_Span {x0 x1 : Int} (w0 : (Lit.int .u64 x0).wf = true) (w1 : (Lit.int .u64 x1).wf = true) :
    DataW.Trod enc Try.prog w base spare held 25 (.agg #[.int .u64 x0, .int .u64 x1]) (.agg [.lit (.int .u64 x0), .lit (.int .u64 x1)]) [] :=
  shut_agg2 (y0 := (.lit (.int .u64 x0), [])) (y1 := (.lit (.int .u64 x1), [])) Try.underlying25 (by kernel_rfl) cellsSpan ⟨1, by simp [DataW.trod, Try.underlying23, w0]⟩ ⟨1, by simp [DataW.trod, Try.underlying23, w1]⟩
end
end Go.Proofs.Ytfghkmhabpagkaa
