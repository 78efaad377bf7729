/- What Open, Prefix, Of return. -/
import Derived.Test.YthkppihfdlmhgaaSecW
namespace Go.Proofs.Ythkppihfdlmhgaa
open Go Go.RowKit
set_option linter.unusedVariables false

theorem filter_take {α : Type} (p : α → Bool) {l : List α} {k : Nat} {e : α} (he : l[k]? = some e) : (l.take (k + 1)).filter p = if p e = true then (l.take k).filter p ++ [e] else (l.take k).filter p := by
  rw [List.take_add_one, he, Option.toList_some, List.filter_append]
  by_cases h : p e = true
  · rw [if_pos h]; simp [h]
  · rw [if_neg h]; simp [h]
/-- A list of events of one's own. -/
def EvsEnd (os : List Ev) (w : World) (e : Ending) (w' : World) : Prop := ∃ v, e = .returned v ∧ w'.ownsRow w.heap.size 37 4 v os.length (evs os) ∧ Below w.heap.size w w'
/-- A list, or the error of Check, or of the step. -/
def LookEnd (T : TypeId) (xs : List Value) (m : Nat) (l : List Ev) (t : Int) (w : World) (e : Ending) (w' : World) : Prop :=
  (¬ FineTo l l.length ∧ e = .returned (.tuple #[.slice none 0 0, .int .i64 15]) ∧ Below w.heap.size w w') ∨
  (FineTo l l.length ∧ t < -1 ∧ e = .returned (.tuple #[.slice none 0 0, .int .i64 3]) ∧ Below w.heap.size w w') ∨
  (∃ v, FineTo l l.length ∧ ¬ t < -1 ∧ e = .returned (.tuple #[v, .int .i64 0]) ∧ w'.ownsRow w.heap.size T 4 v m xs ∧ Below w.heap.size w w')
/-- The sections that are open after a step. -/
def openS (t : Int) (s : Sec) : Option Sec := if s.enter ≤ t ∧ (s.exit < 0 ∨ t < s.exit) then some { s with exit := -1 } else none
theorem openS_take {t : Int} {l : List Sec} {k : Nat} {s : Sec} (hs : l[k]? = some s) : (l.take (k + 1)).filterMap (openS t) = (l.take k).filterMap (openS t) ++ (openS t s).toList := by
  rw [List.take_add_one, hs, Option.toList_some, List.filterMap_append]
  simp only [List.filterMap_cons, List.filterMap_nil]
  cases openS t s <;> rfl
end Go.Proofs.Ythkppihfdlmhgaa
