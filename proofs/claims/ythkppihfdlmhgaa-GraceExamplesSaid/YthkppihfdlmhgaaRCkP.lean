/- The reference's view of a thread: its last event. -/
import Derived.Test.YthkppihfdlmhgaaCkP
namespace Go.Proofs.Ythkppihfdlmhgaa
open Go Go.RowKit
set_option linter.unusedVariables false

/-- Kind and value of the last event of a thread. -/
def lastE (t : Int) (l : List Ev) : Int × Int := l.foldl (fun s e => if e.thread = t then (e.kind, e.val) else s) (0, 0)
theorem lastE_snoc (t : Int) (l : List Ev) (e : Ev) : lastE t (l ++ [e]) = if e.thread = t then (e.kind, e.val) else lastE t l := by
  unfold lastE
  rw [List.foldl_append]
  rfl
theorem lastE_take {t : Int} {l : List Ev} {k : Nat} {e : Ev} (he : l[k]? = some e) : lastE t (l.take (k + 1)) = if e.thread = t then (e.kind, e.val) else lastE t (l.take k) := by rw [take_snocE he, lastE_snoc]
/-- The reference's test. -/
def okR (s : Int × Int) (e : Ev) : Bool :=
  if e.kind = 1 then (decide (s.1 ≠ 1) && decide (s.1 ≠ 3)) && decide (e.val < 64)
  else if e.kind = 2 then decide (s.1 = 1) && decide (e.val = s.2)
  else if e.kind = 3 then (decide (s.1 ≠ 1) && decide (s.1 ≠ 3)) && decide (e.val ≠ 0)
  else decide (s.1 = 3) && decide (e.val = s.2)
theorem st_last (t : Int) (l : List Ev) : (stS l t).1 = (if (lastE t l).1 = 1 then 1 else if (lastE t l).1 = 3 then 3 else 0) ∧ ((lastE t l).1 = 1 ∨ (lastE t l).1 = 3 → (stS l t).2 = (lastE t l).2) := by
  suffices h : ∀ (l : List Ev) (s : Int → Int × Int) (r : Int × Int), ((s t).1 = (if r.1 = 1 then 1 else if r.1 = 3 then 3 else 0) ∧ (r.1 = 1 ∨ r.1 = 3 → (s t).2 = r.2)) →
      ((l.foldl upS s t).1 = (if (l.foldl (fun s e => if e.thread = t then (e.kind, e.val) else s) r).1 = 1 then 1 else if (l.foldl (fun s e => if e.thread = t then (e.kind, e.val) else s) r).1 = 3 then 3 else 0) ∧ ((l.foldl (fun s e => if e.thread = t then (e.kind, e.val) else s) r).1 = 1 ∨ (l.foldl (fun s e => if e.thread = t then (e.kind, e.val) else s) r).1 = 3 → (l.foldl upS s t).2 = (l.foldl (fun s e => if e.thread = t then (e.kind, e.val) else s) r).2)) by
    exact h l (fun _ => (0, 0)) (0, 0) ⟨rfl, fun h => by rcases h with h | h <;> cases h⟩
  intro l
  induction l with
  | nil => intro s r h; exact h
  | cons e l ih =>
    intro s r h
    rw [List.foldl_cons, List.foldl_cons]
    apply ih
    unfold upS
    by_cases ht : e.thread = t
    · rw [if_pos ht.symm, if_pos ht]
      by_cases h1 : e.kind = 1
      · simp [h1]
      · by_cases h3 : e.kind = 3
        · simp [h3]
        · simp [h1, h3]
    · rw [if_neg (fun h => ht h.symm), if_neg ht]
      exact h
theorem okR_eq (l : List Ev) (e : Ev) : okS (stS l e.thread) e = okR (lastE e.thread l) e := by
  obtain ⟨h1, h2⟩ := st_last e.thread l
  unfold okS okR
  generalize stS l e.thread = s at h1 h2 ⊢
  generalize lastE e.thread l = r at h1 h2 ⊢
  obtain ⟨s1, s2⟩ := s
  obtain ⟨r1, r2⟩ := r
  dsimp only at h1 h2 ⊢
  by_cases a : r1 = 1
  · subst a
    simp only [if_true] at h1
    subst h1
    have := h2 (.inl rfl)
    subst this
    simp [eq_comm]
  · by_cases b : r1 = 3
    · subst b
      simp at h1
      subst h1
      have := h2 (.inr rfl)
      subst this
      simp [eq_comm]
    · simp only [a, b, if_false] at h1
      subst h1
      simp [a, b]
theorem goodE_ref {l : List Ev} {k : Nat} {e : Ev} (h1 : rightE e = true) (h2 : behind (prevE l k) e = true) : goodE l k e = okR (lastE e.thread (l.take k)) e := by
  unfold goodE
  rw [h1, h2, okR_eq]
  rfl
end Go.Proofs.Ythkppihfdlmhgaa
