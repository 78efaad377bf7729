/- PicksGaps in plain lists. -/
import Derived.Test.YtjpmhofpfmogiaaPartP
namespace Go.Proofs.Ytjpmhofpfmogiaa
open Go Go.RowKit
set_option linter.unusedVariables false

/-- The k elements from f on are not a. -/
def Non (a : Int) (c : List Int) (f k : Nat) : Prop := f + k ≤ c.length ∧ ∀ i x, f ≤ i → i < f + k → c[i]? = some x → x ≠ a
/-- What the longest run is. -/
def GapIs (a : Int) (c : List Int) : Prop := (∃ f, Non a c f (gapR a c).1) ∧ (∃ f, f + (gapR a c).2 = c.length ∧ Non a c f (gapR a c).2) ∧ ∀ f k, Non a c f k → k ≤ (gapR a c).1 ∧ (f + k = c.length → k ≤ (gapR a c).2)
theorem non_more {a : Int} {c : List Int} {f k : Nat} (h : Non a c f k) (x : Int) : Non a (c ++ [x]) f k := by
  refine ⟨by rw [List.length_append, List.length_singleton]; have := h.1; omega, fun i y h1 h2 h3 => h.2 i y h1 h2 ?_⟩
  rwa [List.getElem?_append_left (by have := h.1; omega)] at h3
theorem non_less {a x : Int} {c : List Int} {f k : Nat} (h : Non a (c ++ [x]) f k) (hk : f + k ≤ c.length) : Non a c f k := by
  refine ⟨hk, fun i y h1 h2 h3 => h.2 i y h1 h2 ?_⟩
  rwa [List.getElem?_append_left (by omega)]
theorem non_cut {a : Int} {c : List Int} {f k : Nat} (h : Non a c f (k + 1)) : Non a c f k := ⟨by have := h.1; omega, fun i y h1 h2 => h.2 i y h1 (by omega)⟩
theorem last_at (c : List Int) (x : Int) : (c ++ [x])[c.length]? = some x := by
  rw [List.getElem?_append_right (Nat.le_refl _), Nat.sub_self]
  rfl
theorem gapIs_snoc {a : Int} {c : List Int} (h : GapIs a c) (x : Int) : GapIs a (c ++ [x]) := by
  obtain ⟨⟨f1, hf1⟩, ⟨f2, e2, hf2⟩, h3⟩ := h
  have hlen : (c ++ [x]).length = c.length + 1 := by simp
  by_cases hx : x = a
  · have hg := gapR_eq a c x hx
    unfold GapIs
    rw [hg]
    refine ⟨⟨f1, non_more hf1 x⟩, ⟨c.length + 1, by rw [hlen]; rfl, ⟨by rw [hlen]; exact Nat.le_refl _, fun i y h1 h2 _ => by omega⟩⟩, fun f k hk => ?_⟩
    have hkl := hk.1
    rw [hlen] at hkl
    by_cases hlt : f + k ≤ c.length
    · exact ⟨(h3 f k (non_less hk hlt)).1, fun he => by rw [hlen] at he; omega⟩
    · have h0 : k = 0 := by
        rcases Nat.eq_zero_or_pos k with h0 | h0
        · exact h0
        · exact absurd hx (hk.2 c.length x (by omega) (by omega) (last_at c x))
      subst h0
      exact ⟨Nat.zero_le _, fun _ => Nat.le_refl _⟩
  · have hg := gapR_ne a c x hx
    have hnew : Non a (c ++ [x]) f2 ((gapR a c).2 + 1) := by
      refine ⟨by rw [hlen]; omega, fun i y h1 h2 h4 => ?_⟩
      by_cases hi : i < c.length
      · rw [List.getElem?_append_left hi] at h4
        exact hf2.2 i y h1 (by omega) h4
      · obtain rfl : i = c.length := by omega
        rw [last_at] at h4
        rw [← Option.some.inj h4]
        exact hx
    unfold GapIs
    rw [hg]
    refine ⟨?_, ⟨f2, by rw [hlen]; show f2 + ((gapR a c).2 + 1) = _; omega, hnew⟩, fun f k hk => ?_⟩
    · rcases Nat.le_total (gapR a c).1 ((gapR a c).2 + 1) with hle | hle
      · refine ⟨f2, ?_⟩
        rw [show max (gapR a c).1 ((gapR a c).2 + 1) = (gapR a c).2 + 1 by omega]
        exact hnew
      · refine ⟨f1, ?_⟩
        rw [show max (gapR a c).1 ((gapR a c).2 + 1) = (gapR a c).1 by omega]
        exact non_more hf1 x
    · have hkl := hk.1
      rw [hlen] at hkl
      show k ≤ max (gapR a c).1 ((gapR a c).2 + 1) ∧ (f + k = (c ++ [x]).length → k ≤ (gapR a c).2 + 1)
      rw [hlen]
      by_cases hlt : f + k ≤ c.length
      · have := (h3 f k (non_less hk hlt)).1
        exact ⟨by omega, fun he => by omega⟩
      · rcases Nat.eq_zero_or_pos k with h0 | h0
        · subst h0
          exact ⟨Nat.zero_le _, fun _ => Nat.zero_le _⟩
        · obtain ⟨k, rfl⟩ : ∃ k', k = k' + 1 := ⟨k - 1, by omega⟩
          have := (h3 f k (non_less (non_cut hk) (by omega))).2 (by omega)
          exact ⟨by omega, fun _ => by omega⟩
theorem gapIs_take (a : Int) (c : List Int) : ∀ n, n ≤ c.length → GapIs a (c.take n)
  | 0, _ => ⟨⟨0, by simp [gapR], fun i x h1 h2 => by simp [gapR] at h2⟩, ⟨0, by simp [gapR], by simp [gapR], fun i x h1 h2 => by simp [gapR] at h2⟩, fun f k hk => by have := hk.1; simp at this; omega⟩
  | n + 1, hn => by
    have h := gapIs_snoc (gapIs_take a c n (by omega)) c[n]
    rw [← take_snoc (List.getElem?_eq_getElem hn)] at h
    exact h
theorem gapIs_all (a : Int) (c : List Int) : GapIs a c := by
  have h := gapIs_take a c c.length (Nat.le_refl _)
  rwa [List.take_length] at h

/-- Some of the j elements from f on is a. -/
def winB (a : Int) (c : List Int) (f : Nat) : Nat → Bool
  | 0 => false
  | j + 1 => winB a c f j || (c[f + j]? == some a)
/-- Each of the first f windows of k elements has an a. -/
def fairB (a : Int) (c : List Int) (k : Nat) : Nat → Bool
  | 0 => true
  | f + 1 => fairB a c k f && winB a c f k
theorem winB_false {a : Int} {c : List Int} {f : Nat} : ∀ {j : Nat}, f + j ≤ c.length → (winB a c f j = false ↔ Non a c f j)
  | 0, h => ⟨fun _ => ⟨h, fun i x h1 h2 => by omega⟩, fun _ => rfl⟩
  | j + 1, h => by
    have hc : c[f + j]? = some c[f + j] := List.getElem?_eq_getElem (by omega)
    have ih := winB_false (a := a) (c := c) (f := f) (j := j) (by omega)
    rw [winB, Bool.or_eq_false_iff, ih, hc]
    constructor
    · rintro ⟨h1, h2⟩
      refine ⟨h, fun i x hi1 hi2 hx => ?_⟩
      by_cases hij : i = f + j
      · subst hij
        rw [hc] at hx
        have := Option.some.inj hx
        simp at h2
        rw [← this]
        exact h2
      · exact h1.2 i x hi1 (by omega) hx
    · intro h1
      refine ⟨non_cut h1, ?_⟩
      have := h1.2 (f + j) _ (by omega) (by omega) hc
      simpa using this
theorem fairB_true {a : Int} {c : List Int} {k : Nat} : ∀ {f : Nat}, fairB a c k f = true ↔ ∀ f', f' < f → winB a c f' k = true
  | 0 => ⟨fun _ f' h => by omega, fun _ => rfl⟩
  | f + 1 => by
    rw [fairB, Bool.and_eq_true, fairB_true (f := f)]
    constructor
    · rintro ⟨h1, h2⟩ f' hf'
      by_cases he : f' = f
      · subst he; exact h2
      · exact h1 f' (by omega)
    · intro h
      exact ⟨fun f' hf' => h f' (by omega), h f (by omega)⟩
theorem fair_gap (a : Int) (c : List Int) (k : Nat) (hk : 1 ≤ k) : fairB a c k (c.length + 1 - k) = (decide ((gapR a c).1 < k) || decide (c.length < k)) := by
  obtain ⟨⟨f1, hf1⟩, _, h3⟩ := gapIs_all a c
  by_cases hc : c.length < k
  · rw [decide_eq_true hc, Bool.or_true, show c.length + 1 - k = 0 by omega]
    rfl
  · rw [decide_eq_false hc, Bool.or_false]
    by_cases hg : (gapR a c).1 < k
    · rw [decide_eq_true hg, fairB_true]
      intro f hf
      cases hw : winB a c f k with
      | true => rfl
      | false =>
        have := (h3 f k ((winB_false (by omega)).1 hw)).1
        omega
    · rw [decide_eq_false hg]
      cases hfb : fairB a c k (c.length + 1 - k) with
      | false => rfl
      | true =>
        have hl := hf1.1
        have hn : Non a c f1 k := ⟨by omega, fun i x h1 h2 => hf1.2 i x h1 (by omega)⟩
        have h1 := (fairB_true.1 hfb) f1 (by omega)
        rw [(winB_false (by omega)).2 hn] at h1
        cases h1
end Go.Proofs.Ytjpmhofpfmogiaa
