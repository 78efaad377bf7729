/- Events, sections and waits as plain data, and their cells. -/
import Derived.Test.YthkppihfdlmhgaaData
import Derived.Test.YthkppihfdlmhgaaChecked
import Derived.WalkKit
import Derived.WalkSpells
import Derived.WalkLawsBesides
import Derived.Lib.Hide
import Derived.Deep.QuietTactic
import Derived.BigQuiet
import Derived.Deep.Fields
namespace Go.Proofs.Ythkppihfdlmhgaa
open Go Go.RowKit
set_option linter.unusedVariables false

/-- An event. -/
structure Ev where
  step : Int
  thread : Int
  kind : Int
  val : Int
/-- A section, or a wait. -/
structure Sec where
  thread : Int
  val : Int
  enter : Int
  exit : Int
  deriving DecidableEq
def evC (e : Ev) : List Value := [.int .i64 e.step, .int .i64 e.thread, .int .u8 e.kind, .int .u64 e.val]
def seC (s : Sec) : List Value := [.int .i64 s.thread, .int .u64 s.val, .int .i64 s.enter, .int .i64 s.exit]
def evs (l : List Ev) : List Value := l.flatMap evC
def secs (l : List Sec) : List Value := l.flatMap seC
def evV (e : Ev) : Value := .agg #[.int .i64 e.step, .int .i64 e.thread, .int .u8 e.kind, .int .u64 e.val]
def seV (s : Sec) : Value := .agg #[.int .i64 s.thread, .int .u64 s.val, .int .i64 s.enter, .int .i64 s.exit]
theorem evC_len (e : Ev) : (evC e).length = 4 := rfl
theorem seC_len (s : Sec) : (seC s).length = 4 := rfl
theorem evs_len (l : List Ev) : (evs l).length = l.length * 4 := flat_len evC 4 evC_len l
theorem secs_len (l : List Sec) : (secs l).length = l.length * 4 := flat_len seC 4 seC_len l
theorem evs_append (a b : List Ev) : evs (a ++ b) = evs a ++ evs b := by simp [evs]
theorem secs_append (a b : List Sec) : secs (a ++ b) = secs a ++ secs b := by simp [secs]
theorem evs_one (l : List Ev) : ∀ u ∈ evs l, u.oneCell' = true := by
  intro u hu
  obtain ⟨p, _, hp⟩ := List.mem_flatMap.1 hu
  simp only [evC, List.mem_cons, List.not_mem_nil, or_false] at hp
  rcases hp with rfl | rfl | rfl | rfl <;> rfl
theorem secs_one (l : List Sec) : ∀ u ∈ secs l, u.oneCell' = true := by
  intro u hu
  obtain ⟨p, _, hp⟩ := List.mem_flatMap.1 hu
  simp only [seC, List.mem_cons, List.not_mem_nil, or_false] at hp
  rcases hp with rfl | rfl | rfl | rfl <;> rfl
section
variable {w : World} {B n : Nat} {A : Option Addr}
/-- The element k of a list of events, and its cells. -/
theorem ev_at {b o : Nat} {l : List Ev} {k : Nat} (h : Reads w B 4 (some ⟨b, o, none⟩) n (evs l)) (hk : k < n) : ∃ e : Ev, l[k]? = some e ∧
    w.cell? ⟨b, o + k * 4, none⟩ = some (.int .i64 e.step) ∧ w.cell? ⟨b, o + k * 4 + 1, none⟩ = some (.int .i64 e.thread) ∧ w.cell? ⟨b, o + k * 4 + 2, none⟩ = some (.int .u8 e.kind) ∧ w.cell? ⟨b, o + k * 4 + 3, none⟩ = some (.int .u64 e.val) := by
  obtain ⟨ad, e, _, hc⟩ := h.2 (by omega)
  obtain rfl := Option.some.inj e
  have hl : k < l.length := by have := h.1; rw [evs_len] at this; omega
  have hg : l[k]? = some l[k] := List.getElem?_eq_getElem hl
  have g := fun j hj => flat_get evC 4 evC_len l k l[k] j hg hj
  have c := fun j u hu => hc j u hu
  simp only [Addr.add_lit] at c
  exact ⟨l[k], hg, c _ _ (g 0 (by omega)), c _ _ (g 1 (by omega)), c _ _ (g 2 (by omega)), c _ _ (g 3 (by omega))⟩
theorem sec_at {b o : Nat} {l : List Sec} {k : Nat} (h : Reads w B 4 (some ⟨b, o, none⟩) n (secs l)) (hk : k < n) : ∃ e : Sec, l[k]? = some e ∧
    w.cell? ⟨b, o + k * 4, none⟩ = some (.int .i64 e.thread) ∧ w.cell? ⟨b, o + k * 4 + 1, none⟩ = some (.int .u64 e.val) ∧ w.cell? ⟨b, o + k * 4 + 2, none⟩ = some (.int .i64 e.enter) ∧ w.cell? ⟨b, o + k * 4 + 3, none⟩ = some (.int .i64 e.exit) := by
  obtain ⟨ad, e, _, hc⟩ := h.2 (by omega)
  obtain rfl := Option.some.inj e
  have hl : k < l.length := by have := h.1; rw [secs_len] at this; omega
  have hg : l[k]? = some l[k] := List.getElem?_eq_getElem hl
  have g := fun j hj => flat_get seC 4 seC_len l k l[k] j hg hj
  have c := fun j u hu => hc j u hu
  simp only [Addr.add_lit] at c
  exact ⟨l[k], hg, c _ _ (g 0 (by omega)), c _ _ (g 1 (by omega)), c _ _ (g 2 (by omega)), c _ _ (g 3 (by omega))⟩
theorem evs_n {l : List Ev} (h : Reads w B 4 A n (evs l)) : l.length = n := by have := h.1; rw [evs_len] at this; omega
theorem secs_n {l : List Sec} (h : Reads w B 4 A n (secs l)) : l.length = n := by have := h.1; rw [secs_len] at this; omega
end
end Go.Proofs.Ythkppihfdlmhgaa
