/- A slice of structs of four cells that may be written. -/
import Derived.Test.YthkppihfdlmhgaaExm
namespace Go.Proofs.Ythkppihfdlmhgaa
open Go Go.RowKit
set_option linter.unusedVariables false

/-- A slice whose cells may be written: all in one block at or beyond B. -/
def Wrt (T : TypeId) (w : World) (B : Nat) (A : Option Addr) (n : Nat) : Prop := n = 0 ∨ ∃ g cs, A = some ⟨g, 0, none⟩ ∧ B ≤ g ∧ Blk w g T cs ∧ n * 4 ≤ cs.size
section
variable {T : TypeId} {w w' : World} {B B' n : Nat} {A : Option Addr}
theorem Wrt.of_own {base c : Nat} {xs : List Value} (h : w.ownsRow base T 4 (.slice A n c) n xs) : Wrt T w base A n := by
  rcases h.2 with ⟨h0, h1⟩ | ⟨g, cap, cur, h0, hg, hh, hn, _, hs, _⟩
  · exact .inl (by omega)
  · injection h0 with h1 h2 h3
    refine .inr ⟨g, cur, h1, hg, hh, ?_⟩
    rw [hs]
    omega
theorem Wrt.less (h : Wrt T w B A n) (hB : B' ≤ B) : Wrt T w B' A n := by
  rcases h with h | ⟨g, cs, h1, h2, h3⟩
  · exact .inl h
  · exact .inr ⟨g, cs, h1, Nat.le_trans hB h2, h3⟩
theorem Wrt.below (h : Wrt T w B A n) (hb : Below w.heap.size w w') : Wrt T w' B A n := by
  rcases h with h | ⟨g, cs, h1, h2, h3, h4⟩
  · exact .inl h
  · exact .inr ⟨g, cs, h1, h2, h3.below hb h3.lt, h4⟩
theorem Wrt.set (h : Wrt T w B A n) (g k : Nat) (u : Value) : Wrt T (w.setCell ⟨g, k, none⟩ u) B A n := by
  rcases h with h | ⟨g', cs, h1, h2, h3, h4⟩
  · exact .inl h
  · by_cases hg : g' = g
    · subst hg
      exact .inr ⟨g', _, h1, h2, h3.set_ k u, by simpa using h4⟩
    · exact .inr ⟨g', cs, h1, h2, h3.far hg u, h4⟩
theorem Wrt.set4 (h : Wrt T w B A n) (g k : Nat) (u0 u1 u2 u3 : Value) : Hid (Wrt T ((((w.setCell ⟨g, k, none⟩ u0).setCell ⟨g, k + 1, none⟩ u1).setCell ⟨g, k + 2, none⟩ u2).setCell ⟨g, k + 3, none⟩ u3) B A n) :=
  (((h.set g k u0).set g (k + 1) u1).set g (k + 2) u2).set g (k + 3) u3
theorem Wrt.at_ {k : Nat} (h : Wrt T w B A n) (hk : k < n) : ∃ g u0 u1 u2 u3, A = some ⟨g, 0, none⟩ ∧ B ≤ g ∧ g < w.heap.size ∧
    (w.cell? ⟨g, k * 4, none⟩ = some u0 ∧ w.cell? ⟨g, k * 4 + 1, none⟩ = some u1 ∧ w.cell? ⟨g, k * 4 + 2, none⟩ = some u2 ∧ w.cell? ⟨g, k * 4 + 3, none⟩ = some u3) ∧
    w.frozen? ⟨g, k * 4, none⟩ = false ∧ w.frozen? ⟨g, k * 4 + 1, none⟩ = false ∧ w.frozen? ⟨g, k * 4 + 2, none⟩ = false ∧ w.frozen? ⟨g, k * 4 + 3, none⟩ = false := by
  rcases h with h | ⟨g, cs, h1, h2, h3, h4⟩
  · omega
  · exact ⟨g, cs[k * 4], cs[k * 4 + 1], cs[k * 4 + 2], cs[k * 4 + 3], h1, h2, h3.lt, ⟨by rw [h3.cell]; exact Array.getElem?_eq_getElem (by omega), by rw [h3.cell]; exact Array.getElem?_eq_getElem (by omega), by rw [h3.cell]; exact Array.getElem?_eq_getElem (by omega), by rw [h3.cell]; exact Array.getElem?_eq_getElem (by omega)⟩, h3.frozen _, h3.frozen _, h3.frozen _, h3.frozen _⟩
end
theorem wrt_on {T : TypeId} {w w' : World} {B n : Nat} {A : Option Addr} (h : Hid (Wrt T w B A n)) (hb : Below w.heap.size w w') : Hid (Wrt T w' B A n) := h.out.below hb
theorem wrt_new {T : TypeId} {w0 w w' : World} {n c : Nat} {A : Option Addr} {xs : List Value} (h : w'.ownsRow w.heap.size T 4 (.slice A n c) n xs) (hb : Hid (Below w0.heap.size w0 w)) : Hid (Wrt T w' w0.heap.size A n) := (Wrt.of_own h).less hb.out.size
theorem below_set4 {w0 w : World} {g k : Nat} (hb : Hid (Below w0.heap.size w0 w)) (hg : w0.heap.size ≤ g) (u0 u1 u2 u3 : Value) : Hid (Below w0.heap.size w0 ((((w.setCell ⟨g, k, none⟩ u0).setCell ⟨g, k + 1, none⟩ u1).setCell ⟨g, k + 2, none⟩ u2).setCell ⟨g, k + 3, none⟩ u3)) :=
  (((hb.out.setCell (p := ⟨g, k, none⟩) hg u0).setCell (p := ⟨g, k + 1, none⟩) hg u1).setCell (p := ⟨g, k + 2, none⟩) hg u2).setCell (p := ⟨g, k + 3, none⟩) hg u3
theorem secL_len (q : Int) (l : List Ev) : (secL q l).length ≤ l.length := by
  unfold secL
  split
  · exact secsK_len q l
  · simp
theorem opnL_len (l : List Ev) (t : Int) : (opnL l t).length ≤ l.length := by
  unfold opnL
  split
  · exact Nat.le_trans (List.length_filterMap_le _ _) (secsK_len 1 l)
  · simp
theorem preL_len (l : List Ev) (t : Int) : (preL l t).length ≤ l.length := by
  unfold preL
  split
  · exact List.length_filter_le _ _
  · simp
theorem ofL_len (l : List Ev) (t : Int) : (ofL l t).length ≤ l.length := List.length_filter_le _ _
theorem take_len80 (l : List Ev) : (l.take 80).length ≤ 80 := by rw [List.length_take]; omega
end Go.Proofs.Ythkppihfdlmhgaa
