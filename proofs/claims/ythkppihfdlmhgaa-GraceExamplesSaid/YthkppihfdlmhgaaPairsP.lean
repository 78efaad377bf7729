/- Sections and waits, in plain lists. -/
import Derived.Test.YthkppihfdlmhgaaCkP
namespace Go.Proofs.Ythkppihfdlmhgaa
open Go Go.RowKit
set_option linter.unusedVariables false

/-- The step of the thread's first event. -/
def nextOf (t : Int) : List Ev → Int
  | [] => -1
  | e :: l => if e.thread = t then e.step else nextOf t l
/-- What begins with kind q. -/
def secsK (q : Int) : List Ev → List Sec
  | [] => []
  | e :: l => if e.kind = q then ⟨e.thread, e.val, e.step, nextOf e.thread l⟩ :: secsK q l else secsK q l
theorem nextOf_drop {t : Int} {l : List Ev} {k : Nat} {e : Ev} (he : l[k]? = some e) : nextOf t (l.drop k) = if e.thread = t then e.step else nextOf t (l.drop (k + 1)) := by
  obtain ⟨hk, rfl⟩ := List.getElem?_eq_some_iff.1 he
  rw [List.drop_eq_getElem_cons hk]
  rfl
theorem secsK_drop {q : Int} {l : List Ev} {k : Nat} {e : Ev} (he : l[k]? = some e) : secsK q (l.drop k) = if e.kind = q then ⟨e.thread, e.val, e.step, nextOf e.thread (l.drop (k + 1))⟩ :: secsK q (l.drop (k + 1)) else secsK q (l.drop (k + 1)) := by
  obtain ⟨hk, rfl⟩ := List.getElem?_eq_some_iff.1 he
  rw [List.drop_eq_getElem_cons hk]
  rfl
theorem secsK_len (q : Int) (l : List Ev) : (secsK q l).length ≤ l.length := by
  induction l with
  | nil => exact Nat.le_refl _
  | cons e l ih =>
    unfold secsK
    split
    · simp; omega
    · simp; omega
/-- The thread's open entry is closed. -/
def closeS (x : Ev) (s : Sec) : Sec := if s.thread = x.thread ∧ s.exit = -1 then { s with exit := x.step } else s
theorem nextOf_snoc (t : Int) (l : List Ev) (x : Ev) (h0 : ∀ e ∈ l, 0 ≤ e.step) : nextOf t (l ++ [x]) = if nextOf t l = -1 then (if x.thread = t then x.step else -1) else nextOf t l := by
  induction l with
  | nil => rfl
  | cons e l ih =>
    have := h0 e (by simp)
    rw [List.cons_append]
    unfold nextOf
    by_cases h : e.thread = t
    · rw [if_pos h, if_pos h, if_neg (by omega)]
    · rw [if_neg h, if_neg h, ih (fun e he => h0 e (by simp [he]))]
theorem secsK_snoc (q : Int) (l : List Ev) (x : Ev) (h0 : ∀ e ∈ l, 0 ≤ e.step) : secsK q (l ++ [x]) = (secsK q l).map (closeS x) ++ (if x.kind = q then [⟨x.thread, x.val, x.step, -1⟩] else []) := by
  induction l with
  | nil => rfl
  | cons e l ih =>
    rw [List.cons_append]
    unfold secsK
    rw [ih (fun e he => h0 e (by simp [he])), nextOf_snoc _ _ _ (fun e he => h0 e (by simp [he]))]
    by_cases h : e.kind = q
    · rw [if_pos h, if_pos h, List.map_cons, List.cons_append]
      congr 1
      unfold closeS
      dsimp only
      by_cases h1 : nextOf e.thread l = -1
      · rw [if_pos h1]
        by_cases h2 : x.thread = e.thread
        · rw [if_pos h2, if_pos ⟨h2.symm, h1⟩]
        · rw [if_neg h2, if_neg (fun h => h2 h.1.symm), h1]
      · rw [if_neg h1, if_neg (fun h => h1 h.2)]
    · rw [if_neg h, if_neg h]
/-- The last entry of a thread. -/
def lastS (t : Int) : List Sec → Nat → Option Nat
  | [], _ => none
  | s :: l, i => (lastS t l (i + 1)).or (if s.thread = t then some i else none)
theorem lastS_snoc (t : Int) (l : List Sec) (s : Sec) : ∀ i : Nat, lastS t (l ++ [s]) i = if s.thread = t then some (i + l.length) else lastS t l i := by
  induction l with
  | nil => intro i; simp [lastS]
  | cons x l ih =>
    intro i
    rw [List.cons_append]
    unfold lastS
    rw [ih]
    by_cases h : s.thread = t
    · rw [if_pos h, if_pos h]
      simp
      omega
    · rw [if_neg h, if_neg h]
theorem lastS_map (t : Int) (x : Ev) (l : List Sec) : ∀ i : Nat, lastS t (l.map (closeS x)) i = lastS t l i := by
  induction l with
  | nil => intro i; rfl
  | cons s l ih =>
    intro i
    rw [List.map_cons]
    unfold lastS
    rw [ih]
    have : (closeS x s).thread = s.thread := by unfold closeS; split <;> rfl
    rw [this]
theorem lastS_some {t : Int} {l : List Sec} {i j : Nat} (h : lastS t l i = some j) : i ≤ j ∧ ∃ s, l[j - i]? = some s ∧ s.thread = t := by
  induction l generalizing i with
  | nil => cases h
  | cons s l ih =>
    unfold lastS at h
    cases hr : lastS t l (i + 1) with
    | some k =>
      rw [hr] at h
      simp at h
      subst h
      obtain ⟨h1, y, h2, h3⟩ := ih hr
      refine ⟨by omega, y, ?_, h3⟩
      rw [show k - i = (k - (i + 1)) + 1 by omega, List.getElem?_cons_succ]
      exact h2
    | none =>
      rw [hr] at h
      by_cases ht : s.thread = t
      · simp [ht] at h
        subst h
        exact ⟨Nat.le_refl _, s, by simp, ht⟩
      · simp [ht] at h
/-- Open entries: exactly the last one of each thread that is within such a stretch. -/
def OpenIs (q : Int) (st : Int → Int × Int) (o : List Sec) : Prop := ∀ (j : Nat) (s : Sec), o[j]? = some s → (s.exit = -1 ↔ ((st s.thread).1 = q ∧ lastS s.thread o 0 = some j))
/-- A thread within such a stretch has an entry. -/
def HasOne (q : Int) (st : Int → Int × Int) (o : List Sec) : Prop := ∀ t : Int, (st t).1 = q → ∃ j, lastS t o 0 = some j
/-- Closing is setting the last one. -/
theorem close_set {q : Int} {st : Int → Int × Int} {o : List Sec} {x : Ev} {j : Nat} {s : Sec} (ho : OpenIs q st o) (hq : (st x.thread).1 = q) (hj : lastS x.thread o 0 = some j) (hs : o[j]? = some s) (hst : s.thread = x.thread) :
    o.map (closeS x) = o.set j { s with exit := x.step } := by
  apply List.ext_getElem?
  intro i
  rw [List.getElem?_map, List.getElem?_set]
  by_cases hij : j = i
  · subst hij
    rw [if_pos rfl, if_pos (List.getElem?_eq_some_iff.1 hs).1, hs]
    have h1 := (ho j s hs).2 ⟨by rw [hst]; exact hq, by rw [hst]; exact hj⟩
    simp [closeS, hst, h1]
  · rw [if_neg hij]
    cases hy : o[i]? with
    | none => rfl
    | some y =>
      have : ¬ (y.thread = x.thread ∧ y.exit = -1) := fun hh => by
        have h2 := ((ho i y hy).1 hh.2).2
        rw [hh.1, hj] at h2
        exact hij (Option.some.inj h2)
      simp [closeS, this]
/-- Where no entry of the thread is open nothing changes. -/
theorem close_id {q : Int} {st : Int → Int × Int} {o : List Sec} {x : Ev} (ho : OpenIs q st o) (hq : (st x.thread).1 ≠ q) : o.map (closeS x) = o := by
  apply List.ext_getElem?
  intro i
  rw [List.getElem?_map]
  cases hy : o[i]? with
  | none => rfl
  | some y =>
    have : ¬ (y.thread = x.thread ∧ y.exit = -1) := fun hh => by
      have h2 := ((ho i y hy).1 hh.2).1
      rw [hh.1] at h2
      exact hq h2
    simp [closeS, this]
end Go.Proofs.Ythkppihfdlmhgaa
