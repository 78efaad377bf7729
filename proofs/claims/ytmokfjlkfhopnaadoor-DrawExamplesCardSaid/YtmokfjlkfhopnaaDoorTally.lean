/- Tallies of heights: plain lists. -/
import Derived.Test.YtmokfjlkfhopnaaDoorMath
import Derived.Test.YtmokfjlkfhopnaaDoorWords
namespace Go.Proofs.YtmokfjlkfhopnaaDoor
open Go

/-- How often the height j + 1 is in the list. -/
def tal (l : List Int) (j : Nat) : Nat := l.count ((j : Int) + 1)
/-- The array of the tallies. -/
def talV (l : List Int) : Array Value := #[.int .i64 (tal l 0), .int .i64 (tal l 1), .int .i64 (tal l 2), .int .i64 (tal l 3), .int .i64 (tal l 4), .int .i64 (tal l 5)]
theorem tal_le (l : List Int) (j : Nat) : tal l j ≤ l.length := List.count_le_length
theorem tal_snoc (l : List Int) (h : Int) (j : Nat) : tal (l ++ [h]) j = tal l j + if h = (j : Int) + 1 then 1 else 0 := by
  unfold tal
  rw [List.count_append, List.count_singleton]
  simp
theorem talV_get (l : List Int) (j : Nat) (hj : j < 6) : (talV l)[j]? = some (.int .i64 (tal l j)) := by
  have : j = 0 ∨ j = 1 ∨ j = 2 ∨ j = 3 ∨ j = 4 ∨ j = 5 := by omega
  rcases this with rfl | rfl | rfl | rfl | rfl | rfl <;> rfl
theorem talV_set (l : List Int) (j : Nat) (hj : j < 6) : (talV l).setIfInBounds j (.int .i64 ((tal l j : Int) + 1)) = talV (l ++ [(j : Int) + 1]) := by
  have : j = 0 ∨ j = 1 ∨ j = 2 ∨ j = 3 ∨ j = 4 ∨ j = 5 := by omega
  rcases this with rfl | rfl | rfl | rfl | rfl | rfl <;> simp [talV, tal_snoc]
theorem tal_append (a b : List Int) (j : Nat) : tal (a ++ b) j = tal a j + tal b j := List.count_append
theorem tal_nil (j : Nat) : tal [] j = 0 := rfl

/-- Every height is one. -/
def okH (l : List Int) : Bool := l.all fun h => decide (1 ≤ h) && decide (h ≤ 6)
theorem okH_get {l : List Int} (h : okH l = true) {k : Nat} {v : Int} (hv : l[k]? = some v) : 1 ≤ v ∧ v ≤ 6 := by
  have := List.all_eq_true.1 h v (List.mem_of_getElem? hv)
  simpa using this
/-- The list's cells. -/
def ints (l : List Int) : List Value := l.map (Value.int .i64)
theorem ints_get (l : List Int) (k : Nat) {u : Value} (h : (ints l)[k]? = some u) : ∃ v, l[k]? = some v ∧ u = .int .i64 v := by
  unfold ints at h
  rw [List.getElem?_map] at h
  cases hv : l[k]? with
  | none => rw [hv] at h; cases h
  | some v => rw [hv] at h; exact ⟨v, rfl, by simpa using h.symm⟩
theorem take_snoc {l : List Int} {k : Nat} {v : Int} (hv : l[k]? = some v) : l.take (k + 1) = l.take k ++ [v] := by
  rw [List.take_add_one, hv]
  rfl

/-- The heights of the first i of the draws y, y + 1, .. -/
def hs (y : Nat) (i : Nat) : List Int := (List.range i).map fun t => (hgt ((y + t) % 18446744073709551616) : Int)
theorem hs_succ (y i : Nat) : hs y (i + 1) = hs y i ++ [(hgt ((y + i) % 18446744073709551616) : Int)] := by
  unfold hs
  rw [List.range_succ, List.map_append]
  rfl
theorem hs_len (y i : Nat) : (hs y i).length = i := by simp [hs]
theorem hs_mod (y i : Nat) : hs y i = (List.range i).map fun t => (hgt ((y % 32 + t) % 32) : Int) := by
  unfold hs
  apply List.map_congr_left
  intro t _
  rw [hgt_congr (x := (y + t) % 18446744073709551616) (y := (y % 32 + t) % 32) (by omega)]
theorem hs_all : ∀ r, r < 32 → (List.range 6).map (tal ((List.range 32).map fun t => (hgt ((r + t) % 32) : Int))) = [16, 8, 4, 2, 1, 1] := by decide +kernel
theorem talV_hs (y : Nat) : talV (hs y 32) = #[.int .i64 16, .int .i64 8, .int .i64 4, .int .i64 2, .int .i64 1, .int .i64 1] := by
  have h := hs_all (y % 32) (Nat.mod_lt _ (by decide))
  rw [← hs_mod] at h
  simp only [List.range_succ, List.range_zero, List.nil_append, List.cons_append, List.map_cons, List.map_nil, List.cons.injEq, and_true] at h
  obtain ⟨h0, h1, h2, h3, h4, h5⟩ := h
  unfold talV
  rw [h0, h1, h2, h3, h4, h5]
  rfl

/-! ### The heights of a seed -/
/-- The number of a draw as a uint64. -/
def hl (s : Nat) (k : Nat) : List Int := (List.range k).map fun i => (hgt (mix s i) : Int)
theorem hl_succ (s k : Nat) : hl s (k + 1) = hl s k ++ [(hgt (mix s k) : Int)] := by
  unfold hl
  rw [List.range_succ, List.map_append]
  rfl
theorem hl_len (s k : Nat) : (hl s k).length = k := by simp [hl]
theorem hl_get (s n k : Nat) (h : k < n) : (hl s n)[k]? = some (hgt (mix s k) : Int) := by simp [hl, h]
theorem hl_take (s : Nat) {m n : Nat} (h : m ≤ n) : (hl s n).take m = hl s m := by
  unfold hl
  rw [← List.map_take, List.take_range, Nat.min_eq_left h]
theorem ints_len (l : List Int) : (ints l).length = l.length := by simp [ints]
theorem ints_append (a b : List Int) : ints (a ++ b) = ints a ++ ints b := by simp [ints]
/-- The array that is filled: k heights, and noughts. -/
def harr (s n k : Nat) : List Value := ints (hl s k) ++ List.replicate (n - k) (.int .i64 0)
theorem harr_set (s n k : Nat) (h : k < n) : (harr s n k).set k (.int .i64 (hgt (mix s k) : Int)) = harr s n (k + 1) := by
  unfold harr
  obtain ⟨m, hm⟩ : ∃ m, n - k = m + 1 := ⟨n - k - 1, by omega⟩
  rw [hm, show n - (k + 1) = m by omega, List.replicate_succ, hl_succ, ints_append]
  have e : (ints (hl s k)).length = k := by rw [ints_len, hl_len]
  rw [List.set_append_right _ _ (by omega), e, Nat.sub_self]
  simp [ints]
theorem harr_zero (s n : Nat) : harr s n 0 = List.replicate n (.int .i64 0) := by simp [harr, hl, ints]
theorem harr_full (s n : Nat) : harr s n n = ints (hl s n) := by simp [harr]
theorem harr_len (s n k : Nat) (h : k ≤ n) : (harr s n k).length = n := by
  unfold harr
  rw [List.length_append, ints_len, hl_len, List.length_replicate]
  omega
theorem emod_nat (k : Nat) (h : k < 9223372036854775808) : ((k : Int) % 18446744073709551616).toNat = k := by omega
theorem mix_zero : mix 0 0 = 16294208416658607535 ∧ mix 0 1 = 7960286522194355700 ∧ mix 0 2 = 487617019471545679 := by decide +kernel
/-- The tallies add up. -/
theorem tal_sum : ∀ (l : List Int), okH l = true → tal l 0 + tal l 1 + tal l 2 + tal l 3 + tal l 4 + tal l 5 = l.length
  | [], _ => rfl
  | v :: l, h => by
    unfold okH at h
    rw [List.all_cons, Bool.and_eq_true] at h
    have ih := tal_sum l h.2
    have hv : 1 ≤ v ∧ v ≤ 6 := by simpa using h.1
    have c : ∀ j, tal (v :: l) j = tal l j + if v = (j : Int) + 1 then 1 else 0 := by
      intro j
      unfold tal
      rw [List.count_cons]
      simp
    rw [c, c, c, c, c, c, List.length_cons]
    have : v = 1 ∨ v = 2 ∨ v = 3 ∨ v = 4 ∨ v = 5 ∨ v = 6 := by omega
    rcases this with rfl | rfl | rfl | rfl | rfl | rfl <;> simp <;> omega
end Go.Proofs.YtmokfjlkfhopnaaDoor
