/- How often each thread is chosen, in plain lists; the array of 64 numbers. -/
import Derived.Test.YtjpmhofpfmogiaaPlain
namespace Go.Proofs.Ytjpmhofpfmogiaa
open Go Go.RowKit
set_option linter.unusedVariables false

/-- How often the thread j is in a list. -/
def cnt (l : List Int) (j : Nat) : Nat := l.count (j : Int)
theorem cnt_nil (j : Nat) : cnt [] j = 0 := rfl
theorem cnt_snoc (l : List Int) (x : Int) (j : Nat) : cnt (l ++ [x]) j = cnt l j + if x = (j : Int) then 1 else 0 := by
  unfold cnt
  rw [List.count_append, List.count_singleton]
  simp
theorem cnt_le (l : List Int) (j : Nat) : cnt l j ≤ l.length := List.count_le_length
/-- The array's cells. -/
def cntC (n : Nat) (l : List Int) : List Value := (List.range n).map fun j => Value.int .i64 (cnt l j : Int)
theorem cntC_len (n : Nat) (l : List Int) : (cntC n l).length = n := by simp [cntC]
theorem cntC_get {n : Nat} {l : List Int} {j : Nat} (h : j < n) : (cntC n l)[j]? = some (.int .i64 (cnt l j : Int)) := by
  unfold cntC
  rw [List.getElem?_map, List.getElem?_range h]
  rfl
theorem cntC_set {n : Nat} {l : List Int} {j : Nat} (h : j < n) : (cntC n l).set j (.int .i64 ((cnt l j : Int) + 1)) = cntC n (l ++ [(j : Int)]) := by
  apply List.ext_getElem?
  intro i
  rw [List.getElem?_set]
  by_cases hi : i < n
  · rw [cntC_get hi, cntC_get hi, cntC_len, cnt_snoc]
    by_cases hj : j = i
    · subst hj
      simp [h]
    · rw [if_neg hj, if_neg (by omega), Nat.add_zero]
  · rw [List.getElem?_eq_none (by rw [cntC_len]; omega), List.getElem?_eq_none (by rw [cntC_len]; omega)]
    split
    · rw [if_neg (by rw [cntC_len]; omega)]
    · rfl
theorem cntC_take (n m : Nat) (l : List Int) (h : m ≤ n) : (cntC n l).take m = cntC m l := by
  unfold cntC
  rw [← List.map_take, List.take_range, Nat.min_eq_left h]
/-- The numbers themselves. -/
def cnts (n : Nat) (l : List Int) : List Int := (List.range n).map fun j => (cnt l j : Int)
theorem cnts_cells (n : Nat) (l : List Int) : ints (cnts n l) = cntC n l := by
  unfold ints cnts cntC
  rw [List.map_map]
  rfl
theorem cnts_len (n : Nat) (l : List Int) : (cnts n l).length = n := by simp [cnts]
theorem cntC_zero (n : Nat) : cntC n [] = List.replicate n (.int .i64 0) := by
  apply List.ext_getElem?
  intro i
  by_cases hi : i < n
  · rw [cntC_get hi, List.getElem?_replicate, if_pos hi]
    rfl
  · rw [List.getElem?_eq_none (by rw [cntC_len]; omega), List.getElem?_eq_none (by rw [List.length_replicate]; omega)]
/-- The longest run of picks that do not choose a thread, and the run at the end. -/
def gapS (a : Int) (s : Nat × Nat) (x : Int) : Nat × Nat := let r := if x = a then 0 else s.2 + 1; (max s.1 r, r)
def gapR (a : Int) (l : List Int) : Nat × Nat := l.foldl (gapS a) (0, 0)
theorem gapR_snoc (a : Int) (l : List Int) (x : Int) : gapR a (l ++ [x]) = gapS a (gapR a l) x := by
  unfold gapR
  rw [List.foldl_append]
  rfl
theorem gapS_le (a : Int) : ∀ (l : List Int) (s : Nat × Nat) (m : Nat), s.1 ≤ m → s.2 ≤ m → (l.foldl (gapS a) s).1 ≤ m + l.length ∧ (l.foldl (gapS a) s).2 ≤ m + l.length
  | [], s, m, h1, h2 => ⟨by simpa using h1, by simpa using h2⟩
  | x :: l, s, m, h1, h2 => by
    have h := gapS_le a l (gapS a s x) (m + 1) (by unfold gapS; simp only; split <;> omega) (by unfold gapS; simp only; split <;> omega)
    rw [List.foldl_cons, List.length_cons]
    omega
theorem gapR_le (a : Int) (l : List Int) : (gapR a l).1 ≤ l.length ∧ (gapR a l).2 ≤ l.length := by
  have := gapS_le a l (0, 0) 0 (Nat.le_refl _) (Nat.le_refl _)
  unfold gapR
  omega
theorem gapR_eq (a : Int) (l : List Int) (x : Int) (h : x = a) : gapR a (l ++ [x]) = ((gapR a l).1, 0) := by
  rw [gapR_snoc]; unfold gapS; simp [h]
theorem gapR_ne (a : Int) (l : List Int) (x : Int) (h : x ≠ a) : gapR a (l ++ [x]) = (max (gapR a l).1 ((gapR a l).2 + 1), (gapR a l).2 + 1) := by
  rw [gapR_snoc]; unfold gapS; simp [h]
end Go.Proofs.Ytjpmhofpfmogiaa
