/- The reference's Gap in plain lists: what it has found when it stands at a place. -/
import Derived.Test.YtjpmhofpfmogiaaCountsP
namespace Go.Proofs.Ytjpmhofpfmogiaa
open Go Go.RowKit
set_option linter.unusedVariables false

/-- The reference stands at k and has found m: m is the longest run up to E, where E is k at a run's beginning, and else the end of the run that k is in. -/
def GapAt (a : Int) (c : List Int) (k m : Nat) : Prop :=
  ∃ E, m = (gapR a (c.take E)).1 ∧ ((k = E ∧ (k = 0 ∨ c[k - 1]? = some a) ∧ (gapR a (c.take k)).2 = 0) ∨
    (0 < k ∧ (∃ x, c[k - 1]? = some x ∧ x ≠ a) ∧ k ≤ E ∧ E ≤ c.length ∧ (∀ j x, k ≤ j → j < E → c[j]? = some x → x ≠ a) ∧ (∀ x, c[E]? = some x → x = a)))
theorem gapAt_zero (a : Int) (c : List Int) : GapAt a c 0 0 := ⟨0, rfl, .inl ⟨rfl, .inl rfl, rfl⟩⟩
theorem gapAt_start {a : Int} {c : List Int} {k m : Nat} (h : GapAt a c k m) (hs : k = 0 ∨ c[k - 1]? = some a) : gapR a (c.take k) = (m, 0) := by
  obtain ⟨E, rfl, ⟨rfl, _, h2⟩ | ⟨h0, ⟨x, hx, hxa⟩, _⟩⟩ := h
  · exact Prod.ext rfl h2
  · rcases hs with hs | hs
    · omega
    · rw [hs] at hx
      exact absurd (Option.some.inj hx).symm hxa
/-- The run that begins at k, as far as i. -/
def RunAt (a : Int) (c : List Int) (k m i : Nat) : Prop := gapR a (c.take i) = (max m (i - k), i - k) ∧ k ≤ i ∧ i ≤ c.length ∧ ∀ j x, k ≤ j → j < i → c[j]? = some x → x ≠ a
theorem runAt_zero {a : Int} {c : List Int} {k m : Nat} (h : gapR a (c.take k) = (m, 0)) (hk : k ≤ c.length) : RunAt a c k m k :=
  ⟨by rw [h, Nat.sub_self, Nat.max_eq_left (Nat.zero_le m)], Nat.le_refl _, hk, fun j x h1 h2 _ => by omega⟩
theorem runAt_step {a : Int} {c : List Int} {k m i : Nat} {x : Int} (h : RunAt a c k m i) (hx : c[i]? = some x) (hxa : x ≠ a) : RunAt a c k m (i + 1) := by
  obtain ⟨h1, h2, h3, h4⟩ := h
  refine ⟨?_, by omega, (List.getElem?_eq_some_iff.1 hx).1, fun j y hj hji hy => ?_⟩
  · rw [take_snoc hx, gapR_ne a _ x hxa, h1]
    apply Prod.ext
    · show max (max m (i - k)) (i - k + 1) = max m (i + 1 - k)
      omega
    · show i - k + 1 = i + 1 - k
      omega
  · by_cases hji' : j = i
    · subst hji'
      rw [hx] at hy
      rw [← Option.some.inj hy]
      exact hxa
    · exact h4 j y hj (by omega) hy
theorem runAt_end {a : Int} {c : List Int} {k m i : Nat} (h : RunAt a c k m i) (hk : k < c.length) (he : ∀ x, c[i]? = some x → x = a) : GapAt a c (k + 1) (max m (i - k)) := by
  obtain ⟨h1, h2, h3, h4⟩ := h
  have hck : c[k]? = some c[k] := List.getElem?_eq_getElem hk
  by_cases hik : i = k
  · subst hik
    have hx := he _ hck
    refine ⟨i + 1, ?_, .inl ⟨rfl, .inr (by rw [Nat.add_sub_cancel, hck, hx]), ?_⟩⟩
    · rw [take_snoc hck, gapR_eq a _ _ hx, h1]
    · rw [take_snoc hck, gapR_eq a _ _ hx]
  · exact ⟨i, by rw [h1], .inr ⟨by omega, ⟨c[k], by rw [Nat.add_sub_cancel, hck], h4 k _ (Nat.le_refl _) (by omega) hck⟩, by omega, h3, fun j x hj => h4 j x (by omega), he⟩⟩
theorem gapAt_pass {a : Int} {c : List Int} {k m : Nat} {x y : Int} (h : GapAt a c k m) (h0 : 0 < k) (hx : c[k - 1]? = some x) (hxa : x ≠ a) (hy : c[k]? = some y) : GapAt a c (k + 1) m := by
  obtain ⟨E, rfl, ⟨rfl, h1, _⟩ | ⟨_, _, h1, h2, h3, h4⟩⟩ := h
  · rcases h1 with h1 | h1
    · omega
    · rw [h1] at hx
      exact absurd (Option.some.inj hx).symm hxa
  · by_cases hya : y = a
    · obtain rfl : E = k := by
        rcases Nat.lt_or_ge k E with hlt | hge
        · exact absurd hya (h3 k y (Nat.le_refl _) hlt hy)
        · omega
      refine ⟨E + 1, ?_, .inl ⟨rfl, .inr (by rw [Nat.add_sub_cancel, hy, hya]), ?_⟩⟩
      · rw [take_snoc hy, gapR_eq a _ _ hya]
      · rw [take_snoc hy, gapR_eq a _ _ hya]
    · have hE : k ≠ E := by
        rintro rfl
        exact hya (h4 y hy)
      exact ⟨E, rfl, .inr ⟨by omega, ⟨y, by rw [Nat.add_sub_cancel, hy], hya⟩, by omega, h2, fun j z hj => h3 j z (by omega), h4⟩⟩
theorem gapAt_end {a : Int} {c : List Int} {m : Nat} (h : GapAt a c c.length m) : m = (gapR a c).1 := by
  obtain ⟨E, rfl, ⟨rfl, _⟩ | ⟨_, _, h1, h2, _⟩⟩ := h
  · rw [List.take_length]
  · obtain rfl : E = c.length := by omega
    rw [List.take_length]
theorem gapAt_le {a : Int} {c : List Int} {k m : Nat} (h : GapAt a c k m) : m ≤ c.length := by
  obtain ⟨E, rfl, _⟩ := h
  exact Nat.le_trans (gapR_le a _).1 (by rw [List.length_take]; omega)
end Go.Proofs.Ytjpmhofpfmogiaa
