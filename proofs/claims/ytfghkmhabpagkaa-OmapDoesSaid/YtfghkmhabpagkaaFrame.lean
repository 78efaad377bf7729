/- What all claims of the seat share; small structs by value. -/
import Derived.Test.YtfghkmhabpagkaaSpan
import Derived.OpenShut
import Derived.Test.YtfghkmhabpagkaaChecked
import Derived.Test.YtfghkmhabpagkaaOpenS
import Derived.ProofKit
import Derived.Deep.DeepHandedRow
namespace Go.Proofs.Ytfghkmhabpagkaa
open Go Go.RowKit Go.ChangeShapes Go.WideShapes Go.ChangeAt Go.Joins
section
variable {H : Type} {enc : TypeId × Value → H} {w : World} {base : Nat} {spare : Nat → Bool} {held : Bool}
theorem cellsTwo : Try.prog.cellsOf 45 = 2 := by kernel_rfl
theorem open_Two {r : Reach} {b0 : Nat} {v : Value} {d : DataW H} {p : List MemPlace} (hv : Value.okWide Try.prog w r b0 45 v) (h : DataW.Trod enc Try.prog w base spare held 45 v d p) :
    ∃ x0 x1 : Int, v = .agg #[.int .u64 x0, .int .u64 x1] ∧ d = .agg [.lit (.int .u64 x0), .lit (.int .u64 x1)] ∧ p = [] ∧ (Lit.int .u64 x0).wf = true ∧ (Lit.int .u64 x1).wf = true := by
  obtain ⟨c0, c1, y0, y1, m, rfl, rfl, rfl, hy0, hy1⟩ := open_agg2 Try.underlying45 (by kernel_rfl) cellsTwo hv h
  obtain ⟨a, e0, rfl, wa⟩ := DataW.trod_int Try.underlying23 hy0
  obtain ⟨b, e1, rfl, wb⟩ := DataW.trod_int Try.underlying23 hy1
  simp at e0 e1
  subst e0 e1
  exact ⟨a, b, rfl, rfl, rfl, wa, wb⟩
theorem shut_Two {x0 x1 : Int} (w0 : (Lit.int .u64 x0).wf = true) (w1 : (Lit.int .u64 x1).wf = true) :
    DataW.Trod enc Try.prog w base spare held 45 (.agg #[.int .u64 x0, .int .u64 x1]) (.agg [.lit (.int .u64 x0), .lit (.int .u64 x1)]) [] :=
  shut_agg2 (y0 := (.lit (.int .u64 x0), [])) (y1 := (.lit (.int .u64 x1), [])) Try.underlying45 (by kernel_rfl) cellsTwo ⟨1, by simp [DataW.trod, Try.underlying23, w0]⟩ ⟨1, by simp [DataW.trod, Try.underlying23, w1]⟩
theorem cellsMove : Try.prog.cellsOf 27 = 2 := by kernel_rfl
theorem open_Move {r : Reach} {b0 : Nat} {v : Value} {d : DataW H} {p : List MemPlace} (hv : Value.okWide Try.prog w r b0 27 v) (h : DataW.Trod enc Try.prog w base spare held 27 v d p) :
    ∃ x0 x1 : Int, v = .agg #[.int .u64 x0, .int .u64 x1] ∧ d = .agg [.lit (.int .u64 x0), .lit (.int .u64 x1)] ∧ p = [] ∧ (Lit.int .u64 x0).wf = true ∧ (Lit.int .u64 x1).wf = true := by
  obtain ⟨c0, c1, y0, y1, m, rfl, rfl, rfl, hy0, hy1⟩ := open_agg2 Try.underlying27 (by kernel_rfl) cellsMove hv h
  obtain ⟨a, e0, rfl, wa⟩ := DataW.trod_int Try.underlying23 hy0
  obtain ⟨b, e1, rfl, wb⟩ := DataW.trod_int Try.underlying23 hy1
  simp at e0 e1
  subst e0 e1
  exact ⟨a, b, rfl, rfl, rfl, wa, wb⟩
theorem shut_Move {x0 x1 : Int} (w0 : (Lit.int .u64 x0).wf = true) (w1 : (Lit.int .u64 x1).wf = true) :
    DataW.Trod enc Try.prog w base spare held 27 (.agg #[.int .u64 x0, .int .u64 x1]) (.agg [.lit (.int .u64 x0), .lit (.int .u64 x1)]) [] :=
  shut_agg2 (y0 := (.lit (.int .u64 x0), [])) (y1 := (.lit (.int .u64 x1), [])) Try.underlying27 (by kernel_rfl) cellsMove ⟨1, by simp [DataW.trod, Try.underlying23, w0]⟩ ⟨1, by simp [DataW.trod, Try.underlying23, w1]⟩
theorem cellsSwap : Try.prog.cellsOf 70 = 3 := by kernel_rfl
theorem open_Swap {r : Reach} {b0 : Nat} {v : Value} {d : DataW H} {p : List MemPlace} (hv : Value.okWide Try.prog w r b0 70 v) (h : DataW.Trod enc Try.prog w base spare held 70 v d p) :
    ∃ x0 x1 x2 : Int, v = .agg #[.int .u64 x0, .int .u64 x1, .int .u64 x2] ∧ d = .agg [.lit (.int .u64 x0), .lit (.int .u64 x1), .lit (.int .u64 x2)] ∧ p = [] ∧ (Lit.int .u64 x0).wf = true ∧ (Lit.int .u64 x1).wf = true ∧ (Lit.int .u64 x2).wf = true := by
  obtain ⟨c0, c1, c2, y0, y1, y2, m, rfl, rfl, rfl, hy0, hy1, hy2⟩ := open_agg3 Try.underlying70 (by kernel_rfl) cellsSwap hv h
  obtain ⟨a, e0, rfl, wa⟩ := DataW.trod_int Try.underlying23 hy0
  obtain ⟨b, e1, rfl, wb⟩ := DataW.trod_int Try.underlying23 hy1
  obtain ⟨c, e2, rfl, wc⟩ := DataW.trod_int Try.underlying23 hy2
  simp at e0 e1 e2
  subst e0 e1 e2
  exact ⟨a, b, c, rfl, rfl, rfl, wa, wb, wc⟩
theorem shut_Swap {x0 x1 x2 : Int} (w0 : (Lit.int .u64 x0).wf = true) (w1 : (Lit.int .u64 x1).wf = true) (w2 : (Lit.int .u64 x2).wf = true) :
    DataW.Trod enc Try.prog w base spare held 70 (.agg #[.int .u64 x0, .int .u64 x1, .int .u64 x2]) (.agg [.lit (.int .u64 x0), .lit (.int .u64 x1), .lit (.int .u64 x2)]) [] :=
  shut_agg3 (y0 := (.lit (.int .u64 x0), [])) (y1 := (.lit (.int .u64 x1), [])) (y2 := (.lit (.int .u64 x2), [])) Try.underlying70 (by kernel_rfl) cellsSwap ⟨1, by simp [DataW.trod, Try.underlying23, w0]⟩ ⟨1, by simp [DataW.trod, Try.underlying23, w1]⟩ ⟨1, by simp [DataW.trod, Try.underlying23, w2]⟩
theorem cellsDeed : Try.prog.cellsOf 62 = 5 := by kernel_rfl
theorem cells1 : Try.prog.cellsOf 23 = 1 := by kernel_rfl
theorem cells1b : Try.prog.cellsOf 5 = 1 := by kernel_rfl
theorem open_Deed {r : Reach} {b0 : Nat} {v : Value} {d : DataW H} {p : List MemPlace} (hv : Value.okWide Try.prog w r b0 62 v) (h : DataW.Trod enc Try.prog w base spare held 62 v d p) :
    ∃ x0 x1 x2 x3 x4 : Int, v = .agg #[.int .u8 x0, .int .u64 x1, .int .u64 x2, .int .u64 x3, .int .u64 x4] ∧ p = [] ∧ (Lit.int .u8 x0).wf = true ∧ (Lit.int .u64 x1).wf = true ∧ (Lit.int .u64 x2).wf = true ∧ (Lit.int .u64 x3).wf = true ∧ (Lit.int .u64 x4).wf = true := by
  obtain ⟨cs, rfl, hsz⟩ := okWide_struct Try.underlying62 hv
  rw [cellsDeed] at hsz
  obtain ⟨l⟩ := cs
  simp at hsz
  match l, hsz with
  | [c0, c1, c2, c3, c4], _ =>
    obtain ⟨fuel, hf⟩ := h
    obtain ⟨xs, n, _, hx, _, hlen, hfd⟩ := DataW.trod_struct Try.underlying62 hf
    match xs, hlen with
    | [y0, y1, y2, y3, y4], _ =>
      have f0 : DataW.trod enc Try.prog w base spare held n 5 (([c0, c1, c2, c3, c4].drop 0).take (Try.prog.cellsOf 5)) = some y0 := hfd 0 _ rfl
      have f1 : DataW.trod enc Try.prog w base spare held n 23 (([c0, c1, c2, c3, c4].drop 1).take (Try.prog.cellsOf 23)) = some y1 := hfd 1 _ rfl
      have f2 : DataW.trod enc Try.prog w base spare held n 23 (([c0, c1, c2, c3, c4].drop 2).take (Try.prog.cellsOf 23)) = some y2 := hfd 2 _ rfl
      have f3 : DataW.trod enc Try.prog w base spare held n 23 (([c0, c1, c2, c3, c4].drop 3).take (Try.prog.cellsOf 23)) = some y3 := hfd 3 _ rfl
      have f4 : DataW.trod enc Try.prog w base spare held n 23 (([c0, c1, c2, c3, c4].drop 4).take (Try.prog.cellsOf 23)) = some y4 := hfd 4 _ rfl
      rw [cells1b] at f0
      rw [cells1] at f1 f2 f3 f4
      simp only [List.drop_zero, List.drop_succ_cons, List.take_succ_cons, List.take_zero] at f0 f1 f2 f3 f4
      obtain ⟨a0, e0, rfl, w0⟩ := DataW.trod_int Try.underlying5 f0
      obtain ⟨a1, e1, rfl, w1⟩ := DataW.trod_int Try.underlying23 f1
      obtain ⟨a2, e2, rfl, w2⟩ := DataW.trod_int Try.underlying23 f2
      obtain ⟨a3, e3, rfl, w3⟩ := DataW.trod_int Try.underlying23 f3
      obtain ⟨a4, e4, rfl, w4⟩ := DataW.trod_int Try.underlying23 f4
      obtain rfl := List.singleton_inj.1 e0
      obtain rfl := List.singleton_inj.1 e1
      obtain rfl := List.singleton_inj.1 e2
      obtain rfl := List.singleton_inj.1 e3
      obtain rfl := List.singleton_inj.1 e4
      refine ⟨a0, a1, a2, a3, a4, rfl, ?_, w0, w1, w2, w3, w4⟩
      have hp := (Prod.mk.inj hx).2
      rw [hp]
      simp
end
end Go.Proofs.Ytfghkmhabpagkaa
namespace Go.Proofs.Ytfghkmhabpagkaa
open Go Go.ChangeShapes Go.WideShapes Go.ChangeAt Go.RowKit
theorem own : ownKnob Try.prog.godebug = none := by kernel_rfl
theorem laidOut : laidOutB Try.prog = true := by kernel_rfl
end Go.Proofs.Ytfghkmhabpagkaa
