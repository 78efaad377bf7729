/- Expand in plain lists. -/
import Derived.Test.YtjpmhofpfmogiaaCountsP
namespace Go.Proofs.Ytjpmhofpfmogiaa
open Go Go.RowKit
set_option linter.unusedVariables false

/-- A number of repetitions is negative. -/
def bad : List Int → Bool
  | v :: c :: r => decide (c < 0) || bad r
  | _ => false
/-- The sum of the numbers of repetitions. -/
def tot : List Int → Int
  | v :: c :: r => c + tot r
  | _ => 0
/-- The list that is meant. -/
def expd : List Int → List Int
  | v :: c :: r => List.replicate c.toNat v ++ expd r
  | _ => []
/-- The error. -/
def exErr (l : List Int) : Int := if l.length % 2 ≠ 0 ∨ bad l = true then 2 else if 65536 < tot l then 5 else 0
theorem drop_two {l : List Int} {r : Nat} {v c : Int} (hv : l[r]? = some v) (hc : l[r + 1]? = some c) : l.drop r = v :: c :: l.drop (r + 2) := by
  obtain ⟨h1, e1⟩ := List.getElem?_eq_some_iff.1 hv
  obtain ⟨h2, e2⟩ := List.getElem?_eq_some_iff.1 hc
  rw [List.drop_eq_getElem_cons h1, List.drop_eq_getElem_cons h2, e1, e2]
theorem tot_nn : ∀ l : List Int, bad l = false → 0 ≤ tot l
  | [], _ => Int.le_refl _
  | [_], _ => Int.le_refl _
  | v :: c :: r, h => by
    simp only [bad, Bool.or_eq_false_iff, decide_eq_false_iff_not] at h
    have := tot_nn r h.2
    simp only [tot]
    omega
theorem expd_len : ∀ l : List Int, bad l = false → ((expd l).length : Int) = tot l
  | [], _ => rfl
  | [_], _ => rfl
  | v :: c :: r, h => by
    simp only [bad, Bool.or_eq_false_iff, decide_eq_false_iff_not] at h
    have := expd_len r h.2
    simp only [expd, tot, List.length_append, List.length_replicate]
    omega
/-- The program's first loop stands at r. -/
def SumAt (l : List Int) (r : Nat) (s : Int) : Prop := 0 ≤ s ∧ s ≤ 65537 ∧ bad (l.drop r) = bad l ∧ (bad l = false → min (s + tot (l.drop r)) 65537 = min (tot l) 65537)
theorem sumAt_zero (l : List Int) : SumAt l 0 0 := ⟨Int.le_refl _, by decide, rfl, fun _ => by rw [List.drop_zero, Int.zero_add]⟩
theorem sumAt_bad {l : List Int} {r : Nat} {s v c : Int} (h : SumAt l r s) (hv : l[r]? = some v) (hc : l[r + 1]? = some c) (h0 : c < 0) : bad l = true := by
  rw [← h.2.2.1, drop_two hv hc]
  simp [bad, h0]
theorem sumAt_step {l : List Int} {r : Nat} {s v c : Int} (h : SumAt l r s) (hv : l[r]? = some v) (hc : l[r + 1]? = some c) (h0 : 0 ≤ c) : SumAt l (r + 2) (min (s + min c 65537) 65537) := by
  obtain ⟨h1, h2, h3, h4⟩ := h
  rw [drop_two hv hc] at h3 h4
  have e : bad (v :: c :: l.drop (r + 2)) = bad (l.drop (r + 2)) := by simp [bad]; omega
  rw [e] at h3
  refine ⟨by omega, by omega, h3, fun hb => ?_⟩
  have := h4 hb
  simp only [tot] at this
  have hn := tot_nn (l.drop (r + 2)) (h3.trans hb)
  omega
theorem sumAt_end {l : List Int} {r : Nat} {s : Int} (h : SumAt l r s) (hr : l.length ≤ r) : bad l = false ∧ s = min (tot l) 65537 := by
  obtain ⟨h1, h2, h3, h4⟩ := h
  rw [List.drop_of_length_le hr] at h3 h4
  refine ⟨h3.symm, ?_⟩
  have := h4 h3.symm
  simp only [tot] at this
  omega
/-- The reference's second loop stands at r. -/
def LeftAt (l : List Int) (r : Nat) (s : Int) : Prop := 0 ≤ s ∧ s ≤ 65536 ∧ s - tot (l.drop r) = 65536 - tot l ∧ bad (l.drop r) = false
theorem leftAt_zero {l : List Int} (h : bad l = false) : LeftAt l 0 65536 := ⟨by decide, by decide, rfl, h⟩
theorem leftAt_step {l : List Int} {r : Nat} {s v c : Int} (h : LeftAt l r s) (hv : l[r]? = some v) (hc : l[r + 1]? = some c) (h0 : c ≤ s) : 0 ≤ c ∧ LeftAt l (r + 2) (s - c) := by
  obtain ⟨h1, h2, h3, h4⟩ := h
  rw [drop_two hv hc] at h3 h4
  simp only [bad, Bool.or_eq_false_iff, decide_eq_false_iff_not] at h4
  simp only [tot] at h3
  exact ⟨by omega, by omega, by omega, by omega, h4.2⟩
theorem leftAt_long {l : List Int} {r : Nat} {s v c : Int} (h : LeftAt l r s) (hv : l[r]? = some v) (hc : l[r + 1]? = some c) (h0 : s < c) : 65536 < tot l := by
  obtain ⟨h1, h2, h3, h4⟩ := h
  rw [drop_two hv hc] at h3 h4
  simp only [bad, Bool.or_eq_false_iff, decide_eq_false_iff_not] at h4
  simp only [tot] at h3
  have := tot_nn _ h4.2
  omega
theorem leftAt_end {l : List Int} {r : Nat} {s : Int} (h : LeftAt l r s) (hr : l.length ≤ r) : tot l ≤ 65536 := by
  obtain ⟨h1, h2, h3, h4⟩ := h
  rw [List.drop_of_length_le hr] at h3
  simp only [tot] at h3
  omega
/-- The second loop stands at r. -/
def ExpAt (l : List Int) (r : Nat) (os : List Int) : Prop := expd l = os ++ expd (l.drop r) ∧ bad (l.drop r) = false
theorem expAt_zero {l : List Int} (h : bad l = false) : ExpAt l 0 [] := ⟨rfl, h⟩
/-- .. and has j copies of v to make. -/
def CopAt (l : List Int) (r : Nat) (v : Int) (j : Nat) (os : List Int) : Prop := expd l = os ++ (List.replicate j v ++ expd (l.drop (r + 2))) ∧ bad (l.drop (r + 2)) = false
theorem expAt_open {l : List Int} {r : Nat} {v c : Int} {os : List Int} (h : ExpAt l r os) (hv : l[r]? = some v) (hc : l[r + 1]? = some c) : 0 ≤ c ∧ CopAt l r v c.toNat os := by
  obtain ⟨h1, h2⟩ := h
  rw [drop_two hv hc] at h1 h2
  simp only [bad, Bool.or_eq_false_iff, decide_eq_false_iff_not] at h2
  exact ⟨by omega, h1, h2.2⟩
theorem copAt_step {l : List Int} {r : Nat} {v : Int} {j : Nat} {os : List Int} (h : CopAt l r v (j + 1) os) : CopAt l r v j (os ++ [v]) :=
  ⟨by rw [h.1, List.replicate_succ, List.cons_append, List.append_assoc, List.singleton_append], h.2⟩
theorem copAt_end {l : List Int} {r : Nat} {v : Int} {os : List Int} (h : CopAt l r v 0 os) : ExpAt l (r + 2) os := h
theorem copAt_len {l : List Int} {r : Nat} {v : Int} {j : Nat} {os : List Int} (h : CopAt l r v j os) : os.length + j ≤ (expd l).length := by
  rw [h.1, List.length_append, List.length_append, List.length_replicate]
  omega
theorem expAt_end {l : List Int} {r : Nat} {os : List Int} (h : ExpAt l r os) (hr : l.length ≤ r) : expd l = os := by
  rw [h.1, List.drop_of_length_le hr]
  exact List.append_nil _
theorem expAt_len {l : List Int} {r : Nat} {os : List Int} (h : ExpAt l r os) : os.length ≤ (expd l).length := by
  rw [h.1, List.length_append]
  omega
end Go.Proofs.Ytjpmhofpfmogiaa
