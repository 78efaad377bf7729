/- PicksPartition in plain lists. -/
import Derived.Test.YtjpmhofpfmogiaaAwake
namespace Go.Proofs.Ytjpmhofpfmogiaa
open Go Go.RowKit
set_option linter.unusedVariables false

theorem wo_chl (t a : Int) (l : List Int) : chl t (wo t a l) = (chl t l).filter fun x => decide (x ≠ a) := by
  unfold chl wo
  rw [List.filter_map]
  rfl
theorem wo_cons_eq (t a p : Int) (l : List Int) (h : p % t = a) : wo t a (p :: l) = wo t a l := by
  unfold wo
  rw [List.filter_cons_of_neg (by simpa using h)]
theorem wo_cons_ne (t a p : Int) (l : List Int) (h : p % t ≠ a) : wo t a (p :: l) = p :: wo t a l := by
  unfold wo
  rw [List.filter_cons_of_pos (by simpa using h)]
theorem wo_cnt (t : Int) (q : Nat) : ∀ l : List Int, (wo t q l).length + cnt (chl t l) q = l.length
  | [] => rfl
  | p :: l => by
    have ih := wo_cnt t q l
    have hc : cnt (chl t (p :: l)) q = cnt (chl t l) q + if p % t = (q : Int) then 1 else 0 := by
      unfold cnt chl
      rw [List.map_cons, List.count_cons]
      simp
    rw [hc, List.length_cons]
    by_cases h : p % t = (q : Int)
    · rw [wo_cons_eq t q p l h, if_pos h]
      omega
    · rw [wo_cons_ne t q p l h, if_neg h, List.length_cons]
      omega
/-- The sum of the first numbers. -/
def sumC (l : List Int) : Nat → Nat
  | 0 => 0
  | q + 1 => sumC l q + cnt l q
theorem sumC_nil : ∀ q, sumC [] q = 0
  | 0 => rfl
  | q + 1 => by rw [sumC, sumC_nil q]; rfl
theorem sumC_cons (x : Int) (l : List Int) : ∀ q : Nat, sumC (x :: l) q = sumC l q + if 0 ≤ x ∧ x < q then 1 else 0
  | 0 => by
    rw [if_neg (by omega)]
    rfl
  | q + 1 => by
    rw [sumC, sumC, sumC_cons x l q]
    have hc : cnt (x :: l) q = cnt l q + if x = (q : Int) then 1 else 0 := by
      unfold cnt
      rw [List.count_cons]
      simp
    rw [hc]
    by_cases h1 : 0 ≤ x ∧ x < q
    · rw [if_pos h1, if_neg (by omega), if_pos (by omega)]
      omega
    · rw [if_neg h1]
      by_cases h2 : x = (q : Int)
      · rw [if_pos h2, if_pos (by omega)]
        omega
      · rw [if_neg h2, if_neg (by omega)]
        omega
theorem sumC_all (T : Nat) : ∀ l : List Int, (∀ x ∈ l, 0 ≤ x ∧ x < T) → sumC l T = l.length
  | [], _ => sumC_nil T
  | x :: l, h => by
    rw [sumC_cons, sumC_all T l (fun y hy => h y (List.mem_cons_of_mem _ hy)), if_pos (h x (List.mem_cons_self ..)), List.length_cons]
theorem sumC_le (l : List Int) : ∀ q, sumC l q ≤ q * l.length
  | 0 => by simp [sumC]
  | q + 1 => by
    have := sumC_le l q
    have := cnt_le l q
    rw [sumC, Nat.succ_mul]
    omega
theorem chl_bd (t : Int) (h : 1 ≤ t) (l : List Int) : ∀ x ∈ chl t l, 0 ≤ x ∧ x < t := by
  intro x hx
  obtain ⟨p, _, rfl⟩ := List.mem_map.1 hx
  exact mod_lo t p h
theorem cnts_get {n : Nat} {l : List Int} {j : Nat} (h : j < n) : (cnts n l)[j]? = some (cnt l j : Int) := by
  unfold cnts
  rw [List.getElem?_map, List.getElem?_range h]
  rfl
theorem filt_hit {l : List Int} {k : Nat} {v a : Int} (hv : l[k]? = some v) (h : v ≠ a) : (l.take (k + 1)).filter (fun x => decide (x ≠ a)) = (l.take k).filter (fun x => decide (x ≠ a)) ++ [v] := by
  rw [take_snoc hv, List.filter_append]
  simp [h]
theorem filt_miss {l : List Int} {k : Nat} {v a : Int} (hv : l[k]? = some v) (h : v = a) : (l.take (k + 1)).filter (fun x => decide (x ≠ a)) = (l.take k).filter (fun x => decide (x ≠ a)) := by
  rw [take_snoc hv, List.filter_append]
  simp [h]
end Go.Proofs.Ytjpmhofpfmogiaa
