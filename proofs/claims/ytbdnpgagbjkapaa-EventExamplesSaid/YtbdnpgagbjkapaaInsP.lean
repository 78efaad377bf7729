/- What Inside returns. -/
import Derived.Test.YtbdnpgagbjkapaaOpn
import Derived.Laws.Rows
namespace Go.Proofs.Ytbdnpgagbjkapaa
open Go Go.RowKit
set_option linter.unusedVariables false

def zS : Sec := ⟨0, 0, 0, 0⟩
def InsIs (l : List Ev) (tt t : Int) (s : Sec) (b : Bool) (er : Int) : Prop :=
  (¬ FineTo l l.length ∧ s = zS ∧ b = false ∧ er = 15) ∨
  (FineTo l l.length ∧ ¬ (0 ≤ tt ∧ tt < 64) ∧ s = zS ∧ b = false ∧ er = 2) ∨
  (FineTo l l.length ∧ (0 ≤ tt ∧ tt < 64) ∧ t < -1 ∧ s = zS ∧ b = false ∧ er = 3) ∨
  (FineTo l l.length ∧ (0 ≤ tt ∧ tt < 64) ∧ ¬ t < -1 ∧ er = 0 ∧ (((secsK 1 l).filterMap (openS t)).find? (fun s => decide (s.thread = tt)) = if b = true then some s else none) ∧ (b = false → s = zS))
theorem insIs_one {l : List Ev} {tt t : Int} {s s' : Sec} {b b' : Bool} {er er' : Int} (h : InsIs l tt t s b er) (h' : InsIs l tt t s' b' er') : s = s' ∧ b = b' ∧ er = er' := by
  rcases h with ⟨h1, rfl, rfl, rfl⟩ | ⟨h1, h2, rfl, rfl, rfl⟩ | ⟨h1, h2, h3, rfl, rfl, rfl⟩ | ⟨h1, h2, h3, rfl, h4, h5⟩ <;>
    rcases h' with ⟨k1, rfl, rfl, rfl⟩ | ⟨k1, k2, rfl, rfl, rfl⟩ | ⟨k1, k2, k3, rfl, rfl, rfl⟩ | ⟨k1, k2, k3, rfl, k4, k5⟩ <;>
    first
      | exact ⟨rfl, rfl, rfl⟩
      | exact absurd k1 h1
      | exact absurd h1 k1
      | exact absurd k2 h2
      | exact absurd h2 k2
      | exact absurd k3 h3
      | exact absurd h3 k3
      | skip
  rw [h4] at k4
  cases b <;> cases b'
  · exact ⟨(h5 rfl).trans (k5 rfl).symm, rfl, rfl⟩
  · simp at k4
  · simp at k4
  · simp at k4
    exact ⟨k4, rfl, rfl⟩
def InsEnd (l : List Ev) (tt t : Int) (w : World) (e : Ending) (w' : World) : Prop :=
  ∃ s b er, e = .returned (.tuple #[seV s, .bool b, .int .i64 er]) ∧ InsIs l tt t s b er ∧ Below w.heap.size w w'
theorem results_ins {P : Program} {fn : Func} {p u v : Tmp} {ty : TypeId} (h : fn.results = #[.cell p ty, .tmp u, .tmp v]) (tmps : Array Value) (w : World) (g : Nat) (t : TypeId) (cs : Array Value) (fr : Nat × Nat) (d : TypeDesc)
    (hp : tmps.getD p undef = .pointer (some ⟨g, 0, none⟩)) (hg : w.heap[g]? = some (.cells cs t fr))
    (hu : P.underlying ty = some d) (hd : (match d with | .struct _ | .array _ _ => true | _ => false) = true) (hi : (P.info? ty).map (·.size) = some cs.size) :
    (results fn tmps).run P w = .ok (.tuple #[.agg cs, tmps.getD u undef, tmps.getD v undef]) w := by
  have hp' : tmps[p]?.getD undef = .pointer (some ⟨g, 0, none⟩) := by simpa using hp
  simp [results, h, hp', asAddr, run_loadVar_row w g t ty cs fr d hg hu hd hi, Result.andThen]
theorem set4 {w : World} {g : Nat} {T : TypeId} {a0 a1 a2 a3 u0 u1 u2 u3 : Value} (h : Blk w g T #[a0, a1, a2, a3]) :
    Blk ((((w.setCell ⟨g, 0, none⟩ u0).setCell ⟨g, 1, none⟩ u1).setCell ⟨g, 2, none⟩ u2).setCell ⟨g, 3, none⟩ u3) g T #[u0, u1, u2, u3] :=
  (((h.set_ 0 u0).set_ 1 u1).set_ 2 u2).set_ 3 u3
theorem set4b {w w1 : World} {B g : Nat} {u0 u1 u2 u3 : Value} (h : Below B w w1) (hg : B ≤ g) :
    Below B w ((((w1.setCell ⟨g, 0, none⟩ u0).setCell ⟨g, 1, none⟩ u1).setCell ⟨g, 2, none⟩ u2).setCell ⟨g, 3, none⟩ u3) :=
  (((h.setCell (p := ⟨g, 0, none⟩) hg u0).setCell (p := ⟨g, 1, none⟩) hg u1).setCell (p := ⟨g, 2, none⟩) hg u2).setCell (p := ⟨g, 3, none⟩) hg u3
theorem find_take {α : Type} (p : α → Bool) {l : List α} {k : Nat} {e : α} (he : l[k]? = some e) (hn : (l.take k).find? p = none) : (l.take (k + 1)).find? p = if p e = true then some e else none := by
  rw [List.take_add_one, he, Option.toList_some, List.find?_append, hn]
  by_cases h : p e = true
  · simp [h]
  · simp [h]
theorem find_le {α : Type} (p : α → Bool) {l : List α} {k : Nat} {e : α} (h : (l.take k).find? p = some e) : l.find? p = some e := by
  conv => lhs; rw [← List.take_append_drop k l]
  rw [List.find?_append, h]
  rfl
end Go.Proofs.Ytbdnpgagbjkapaa
