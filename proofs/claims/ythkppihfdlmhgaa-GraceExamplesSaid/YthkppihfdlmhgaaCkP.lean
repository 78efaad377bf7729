/- What Check finds, in plain lists. -/
import Derived.Test.YthkppihfdlmhgaaEv
namespace Go.Proofs.Ythkppihfdlmhgaa
open Go Go.RowKit
set_option linter.unusedVariables false

/-- What each thread is in, and its value. -/
def upS (s : Int → Int × Int) (e : Ev) : Int → Int × Int := fun t =>
  if t = e.thread then (if e.kind = 1 then (1, e.val) else if e.kind = 3 then (3, e.val) else (0, (s t).2)) else s t
def stS (l : List Ev) : Int → Int × Int := l.foldl upS fun _ => (0, 0)
theorem stS_snoc (l : List Ev) (e : Ev) : stS (l ++ [e]) = upS (stS l) e := by
  unfold stS
  rw [List.foldl_append]
  rfl
/-- The event may come there. -/
def okS (s : Int × Int) (e : Ev) : Bool :=
  if e.kind = 1 then decide (s.1 = 0) && decide (e.val < 64)
  else if e.kind = 2 then decide (s.1 = 1) && decide (s.2 = e.val)
  else if e.kind = 3 then decide (s.1 = 0) && decide (e.val ≠ 0)
  else decide (s.1 = 3) && decide (s.2 = e.val)
/-- The event is one at all. -/
def rightE (e : Ev) : Bool := decide (0 ≤ e.step) && decide (0 ≤ e.thread ∧ e.thread < 64) && decide (1 ≤ e.kind ∧ e.kind ≤ 4)
/-- It may stand behind p. -/
def behind (p : Option Ev) (e : Ev) : Bool := match p with
  | none => true
  | some p => decide (p.step < e.step) || (decide (e.step = p.step) && decide (p.kind = 3) && decide (e.kind = 4) && decide (e.thread = p.thread))
/-- The event before k. -/
def prevE (l : List Ev) (k : Nat) : Option Ev := if k = 0 then none else l[k - 1]?
/-- Event k is in order. -/
def goodE (l : List Ev) (k : Nat) (e : Ev) : Bool := rightE e && behind (prevE l k) e && okS (stS (l.take k) e.thread) e
/-- The first events are in order. -/
def FineTo (l : List Ev) (n : Nat) : Prop := ∀ j e, j < n → l[j]? = some e → goodE l j e = true
/-- What Check returns. -/
def CkIs (l : List Ev) (at_ er : Int) : Prop :=
  (∃ (i : Nat) (e : Ev), l[i]? = some e ∧ FineTo l i ∧ goodE l i e = false ∧ at_ = i ∧ er = 15) ∨ (FineTo l l.length ∧ at_ = 0 ∧ er = 0)
theorem fineTo_zero (l : List Ev) : FineTo l 0 := fun j e h => by omega
theorem fineTo_step {l : List Ev} {k : Nat} {e : Ev} (h : FineTo l k) (he : l[k]? = some e) (hg : goodE l k e = true) : FineTo l (k + 1) := fun j x hj hx => by
  by_cases hjk : j = k
  · subst hjk
    rw [he] at hx
    rw [← Option.some.inj hx]
    exact hg
  · exact h j x (by omega) hx
theorem ckIs_bad {l : List Ev} {k : Nat} {e : Ev} (h : FineTo l k) (he : l[k]? = some e) (hg : goodE l k e = false) : CkIs l k 15 := .inl ⟨k, e, he, h, hg, rfl, rfl⟩
theorem ckIs_end {l : List Ev} {k : Nat} (h : FineTo l k) (hk : l.length ≤ k) : CkIs l 0 0 := .inr ⟨fun j e hj he => h j e (by omega) he, rfl, rfl⟩
/-- Check's result is one. -/
theorem ckIs_one {l : List Ev} {a b c d : Int} (h : CkIs l a b) (h' : CkIs l c d) : a = c ∧ b = d := by
  rcases h with ⟨i, e, he, hf, hg, rfl, rfl⟩ | ⟨hf, rfl, rfl⟩
  · rcases h' with ⟨j, x, hx, hf', hg', rfl, rfl⟩ | ⟨hf', rfl, rfl⟩
    · rcases Nat.lt_trichotomy i j with h1 | rfl | h1
      · rw [hf' i e h1 he] at hg; cases hg
      · exact ⟨rfl, rfl⟩
      · rw [hf j x h1 hx] at hg'; cases hg'
    · rw [hf' i e (List.getElem?_eq_some_iff.1 he).1 he] at hg; cases hg
  · rcases h' with ⟨j, x, hx, hf', hg', rfl, rfl⟩ | ⟨hf', rfl, rfl⟩
    · rw [hf j x (List.getElem?_eq_some_iff.1 hx).1 hx] at hg'; cases hg'
    · exact ⟨rfl, rfl⟩
theorem take_snocE {l : List Ev} {k : Nat} {v : Ev} (hv : l[k]? = some v) : l.take (k + 1) = l.take k ++ [v] := by
  rw [List.take_add_one, hv]
  rfl
theorem stS_take {l : List Ev} {k : Nat} {e : Ev} (he : l[k]? = some e) : stS (l.take (k + 1)) = upS (stS (l.take k)) e := by rw [take_snocE he, stS_snoc]
/-- The cells of the threads. -/
def ThrAt (cs : Array Value) (s : Int → Int × Int) : Prop := ∀ t : Nat, t < 64 → cs[t * 2]? = some (.int .u8 (s t).1) ∧ cs[t * 2 + 1]? = some (.int .u64 (s t).2)
theorem thrAt_set {cs : Array Value} {s s' : Int → Int × Int} {t : Nat} {i v : Int} (h : ThrAt cs s) (ht : t < 64) (h1 : s' t = (i, v)) (h2 : ∀ u : Int, u ≠ t → s' u = s u) :
    ThrAt ((cs.setIfInBounds (t * 2) (.int .u8 i)).setIfInBounds (t * 2 + 1) (.int .u64 v)) s' := by
  intro u hu
  have hsz : t * 2 + 1 < cs.size := (Array.getElem?_eq_some_iff.1 (h t ht).2).1
  simp only [Array.getElem?_setIfInBounds, Array.size_setIfInBounds]
  by_cases hut : u = t
  · subst hut
    rw [h1]
    simp only [if_neg (show ¬ (u * 2 + 1 = u * 2) by omega), if_true, if_neg (show ¬ (u * 2 = u * 2 + 1) by omega)]
    rw [if_pos (by omega), if_pos (by omega)]
    exact ⟨rfl, rfl⟩
  · rw [h2 u (by omega)]
    rw [if_neg (by omega), if_neg (by omega), if_neg (by omega), if_neg (by omega)]
    exact h u hu
theorem thrAt_zero (cs : Array Value) (h : ∀ j : Nat, j < 64 → cs[j * 2]? = some (.int .u8 0) ∧ cs[j * 2 + 1]? = some (.int .u64 0)) : ThrAt cs (stS []) := fun t ht => h t ht
end Go.Proofs.Ythkppihfdlmhgaa
