/- Three spans and three numbers by value: what a reading of the row gives. -/
import Derived.Test.YtlaocajjenfgpaaSpan
import Derived.OpenShut
namespace Go.Proofs.Ytlaocajjenfgpaa
open Go Go.RowKit Go.ChangeShapes Go.WideShapes Go.ChangeAt Go.Joins
section
variable {H : Type} {enc : TypeId × Value → H} {w : World} {base : Nat} {spare : Nat → Bool} {held : Bool}
theorem cellsU64 : Try.prog.cellsOf 23 = 1 := by kernel_rfl
theorem cellsArr : Try.prog.cellsOf 52 = 3 := by kernel_rfl
theorem trod_span {n : Nat} {c0 c1 : Value} {y : DataW H × List MemPlace} (h : DataW.trod enc Try.prog w base spare held n 25 [c0, c1] = some y) :
    ∃ a b : Int, c0 = .int .u64 a ∧ c1 = .int .u64 b ∧ y.2 = [] ∧ (Lit.int .u64 a).wf = true ∧ (Lit.int .u64 b).wf = true := by
  obtain ⟨y0, y1, m, rfl, _, h0, h1⟩ := trod_struct2 Try.underlying25 h
  change DataW.trod enc Try.prog w base spare held m 23 (([c0, c1].drop 0).take (Try.prog.cellsOf 23)) = some y0 at h0
  change DataW.trod enc Try.prog w base spare held m 23 (([c0, c1].drop 1).take (Try.prog.cellsOf 23)) = some y1 at h1
  rw [cellsU64] at h0 h1
  have h0' : DataW.trod enc Try.prog w base spare held m 23 [c0] = some y0 := h0
  have h1' : DataW.trod enc Try.prog w base spare held m 23 [c1] = some y1 := h1
  obtain ⟨a, e0, rfl, wa⟩ := DataW.trod_int Try.underlying23 h0'
  obtain ⟨b, e1, rfl, wb⟩ := DataW.trod_int Try.underlying23 h1'
  obtain rfl := List.singleton_inj.1 e0
  obtain rfl := List.singleton_inj.1 e1
  exact ⟨a, b, rfl, rfl, rfl, wa, wb⟩
theorem cellsMoves : Try.prog.cellsOf 54 = 9 := by kernel_rfl
set_option maxRecDepth 100000 in
theorem open_Moves {r : Reach} {b0 : Nat} {v : Value} {d : DataW H} {p : List MemPlace} (hv : Value.okWide Try.prog w r b0 54 v) (h : DataW.Trod enc Try.prog w base spare held 54 v d p) :
    ∃ x0 x1 x2 x3 x4 x5 x6 x7 x8 : Int, v = .agg #[.int .u64 x0, .int .u64 x1, .int .u64 x2, .int .u64 x3, .int .u64 x4, .int .u64 x5, .int .u64 x6, .int .u64 x7, .int .u64 x8] ∧ p = [] ∧
      (Lit.int .u64 x0).wf = true ∧ (Lit.int .u64 x1).wf = true ∧ (Lit.int .u64 x2).wf = true ∧ (Lit.int .u64 x3).wf = true ∧ (Lit.int .u64 x4).wf = true ∧ (Lit.int .u64 x5).wf = true ∧ (Lit.int .u64 x6).wf = true ∧ (Lit.int .u64 x7).wf = true ∧ (Lit.int .u64 x8).wf = true := by
  obtain ⟨cs, rfl, hsz⟩ := okWide_struct Try.underlying54 hv
  rw [cellsMoves] at hsz
  obtain ⟨l⟩ := cs
  simp at hsz
  match l, hsz with
  | [c0, c1, c2, c3, c4, c5, c6, c7, c8], _ =>
    obtain ⟨fuel, hf⟩ := h
    obtain ⟨xs, n, _, hx, _, hlen, hfd⟩ := DataW.trod_struct Try.underlying54 hf
    match xs, hlen with
    | [y0, y1, y2, y3], _ =>
      have f0 : DataW.trod enc Try.prog w base spare held n 25 (([c0, c1, c2, c3, c4, c5, c6, c7, c8].drop 0).take (Try.prog.cellsOf 25)) = some y0 := hfd 0 _ rfl
      have f1 : DataW.trod enc Try.prog w base spare held n 25 (([c0, c1, c2, c3, c4, c5, c6, c7, c8].drop 2).take (Try.prog.cellsOf 25)) = some y1 := hfd 1 _ rfl
      have f2 : DataW.trod enc Try.prog w base spare held n 25 (([c0, c1, c2, c3, c4, c5, c6, c7, c8].drop 4).take (Try.prog.cellsOf 25)) = some y2 := hfd 2 _ rfl
      have f3 : DataW.trod enc Try.prog w base spare held n 52 (([c0, c1, c2, c3, c4, c5, c6, c7, c8].drop 6).take (Try.prog.cellsOf 52)) = some y3 := hfd 3 _ rfl
      rw [cellsSpan] at f0 f1 f2
      rw [cellsArr] at f3
      simp only [List.drop_zero, List.drop_succ_cons, List.take_succ_cons, List.take_zero] at f0 f1 f2 f3
      obtain ⟨a0, a1, rfl, rfl, p0, w0, w1⟩ := trod_span f0
      obtain ⟨a2, a3, rfl, rfl, p1, w2, w3⟩ := trod_span f1
      obtain ⟨a4, a5, rfl, rfl, p2, w4, w5⟩ := trod_span f2
      obtain ⟨zs, m, _, hz, _, hzl, hzd⟩ := DataW.trod_array Try.underlying52 f3
      match zs, hzl with
      | [z0, z1, z2], _ =>
        have g0 := hzd 0 (by omega)
        have g1 := hzd 1 (by omega)
        have g2 := hzd 2 (by omega)
        rw [cellsU64] at g0 g1 g2
        simp only [Nat.zero_mul, Nat.one_mul, List.drop_zero, List.drop_succ_cons, List.take_succ_cons, List.take_zero, List.getElem?_cons_zero, List.getElem?_cons_succ] at g0 g1 g2
        obtain ⟨a6, e6, rfl, w6⟩ := DataW.trod_int Try.underlying23 g0
        obtain ⟨a7, e7, rfl, w7⟩ := DataW.trod_int Try.underlying23 g1
        obtain ⟨a8, e8, rfl, w8⟩ := DataW.trod_int Try.underlying23 g2
        obtain rfl := List.singleton_inj.1 e6
        obtain rfl := List.singleton_inj.1 e7
        obtain rfl := List.singleton_inj.1 e8
        refine ⟨a0, a1, a2, a3, a4, a5, a6, a7, a8, rfl, ?_, w0, w1, w2, w3, w4, w5, w6, w7, w8⟩
        have hp := (Prod.mk.inj hx).2
        rw [hp, hz]
        simp [p0, p1, p2]
end
end Go.Proofs.Ytlaocajjenfgpaa
