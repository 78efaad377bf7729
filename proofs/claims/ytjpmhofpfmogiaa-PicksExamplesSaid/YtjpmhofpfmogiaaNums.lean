/- The numbers' functions of chapter 10 (picks.of, picks.check and the reference's), each walked once (printed by gen_nums.py). -/
import Derived.Test.YtjpmhofpfmogiaaWords
import Derived.Test.YtjpmhofpfmogiaaChecked
import Derived.WalkKit
import Derived.WalkSpells
import Derived.WalkLawsBesides
import Derived.Lib.Hide
import Derived.Deep.QuietTactic
import Derived.BigQuiet
import Derived.RangeFuncNested
import Derived.RangeFuncBound
import Derived.RangeFuncCalls
import Derived.RangeFuncLeaves
import Derived.RangeFuncBox
import Derived.OwnWalkIn
import Derived.TacticsInMore
import Derived.LoopNIn
import Derived.LoopIn
namespace Go.Proofs.Ytjpmhofpfmogiaa
open Go Go.RowKit
set_option linter.unusedVariables false

/-- A number that an int holds. -/
def I64 (p : Int) : Prop := -9223372036854775808 ≤ p ∧ p < 9223372036854775808

theorem tmod_small (t p : Int) (h1 : 1 ≤ t) : -t < p.tmod t ∧ p.tmod t < t := by
  rcases Int.le_total 0 p with h | h
  · have := Int.tmod_eq_emod_of_nonneg h (b := t)
    have h2 := Int.emod_nonneg p (by omega : t ≠ 0)
    have h3 := Int.emod_lt_of_pos p (by omega : 0 < t)
    omega
  · have e : p.tmod t = -((-p) % t) := by
      rw [← Int.tmod_eq_emod_of_nonneg (by omega : 0 ≤ -p), Int.neg_tmod, Int.neg_neg]
    have h2 := Int.emod_nonneg (-p) (by omega : t ≠ 0)
    have h3 := Int.emod_lt_of_pos (-p) (by omega : 0 < t)
    omega
theorem tmod_off (t p : Int) (h1 : 1 ≤ t) : (p.tmod t + t) % t = p % t := by
  rw [Int.add_emod_right]
  rcases Int.le_total 0 p with h | h
  · rw [Int.tmod_eq_emod_of_nonneg h, Int.emod_emod]
  · have e : p.tmod t = -((-p) % t) := by
      rw [← Int.tmod_eq_emod_of_nonneg (by omega : 0 ≤ -p), Int.neg_tmod, Int.neg_neg]
    rw [e]
    have := Int.emod_add_mul_ediv (-p) t
    have e2 : -((-p) % t) = p + t * ((-p) / t) := by omega
    rw [e2, Int.add_mul_emod_self_left]
theorem wrap_in (n : Int) (h : -9223372036854775808 ≤ n ∧ n ≤ 9223372036854775807) : wrap64 n = n := by unfold wrap64; omega
theorem of_core (t p : Int) (h1 : 1 ≤ t) (h2 : t ≤ 64) : (wrap64 (p.tmod t + t)).tmod t = p % t := by
  have := tmod_small t p h1
  rw [wrap_in _ (by omega), Int.tmod_eq_emod_of_nonneg (by omega), tmod_off t p h1]
theorem mod_lo (t p : Int) (h1 : 1 ≤ t) : 0 ≤ p % t ∧ p % t < t := ⟨Int.emod_nonneg p (by omega), Int.emod_lt_of_pos p (by omega)⟩

/-- The error of a number of threads, a thread and a number of picks. -/
def chk (t a n : Int) : Int := if t < 1 ∨ 64 < t ∨ a < 0 ∨ t ≤ a then 2 else if 65536 < n then 5 else 0
theorem chk_cases (t a n : Int) : ((t < 1 ∨ 64 < t ∨ a < 0 ∨ t ≤ a) ∧ chk t a n = 2) ∨ (1 ≤ t ∧ t ≤ 64 ∧ 0 ≤ a ∧ a < t ∧ 65536 < n ∧ chk t a n = 5) ∨ (1 ≤ t ∧ t ≤ 64 ∧ 0 ≤ a ∧ a < t ∧ n ≤ 65536 ∧ chk t a n = 0) := by
  unfold chk
  by_cases h : t < 1 ∨ 64 < t ∨ a < 0 ∨ t ≤ a
  · rw [if_pos h]; exact .inl ⟨h, rfl⟩
  · rw [if_neg h]
    by_cases h2 : 65536 < n
    · rw [if_pos h2]; exact .inr (.inl ⟨by omega, by omega, by omega, by omega, h2, rfl⟩)
    · rw [if_neg h2]; exact .inr (.inr ⟨by omega, by omega, by omega, by omega, by omega, rfl⟩)
theorem of_in (F : Fence) (m : Nat) (hF : F.fn 36) (hro : F.round = none) (t p : Int) (h1 : 1 ≤ t) (h2 : t ≤ 64) (w : World) :
    CallsIn F m Try.prog 36 #[.int .i64 t, .int .i64 p] w fun e w' => e = .returned (.int .i64 (p % t)) ∧ w = w' := by
  have hc := of_core t p h1 h2
  refine callsIn_of_wp Try.func36 rfl hF ?_ hro
  simp only [Try.ntmps36, List.size_toArray, List.length_cons, List.length_nil, Nat.reduceAdd, Nat.reduceSub, Array.replicate_succ, Array.replicate_zero, List.push_toArray, List.append_toArray, List.nil_append, List.cons_append]
  gi_wp2
  go_ret
  exact ⟨rfl, rfl⟩
theorem rchosen_in (F : Fence) (m : Nat) (hF : F.fn 35) (hro : F.round = none) (t p : Int) (h1 : 1 ≤ t) (h2 : t ≤ 64) (w : World) :
    CallsIn F m Try.prog 35 #[.int .i64 t, .int .i64 p] w fun e w' => e = .returned (.int .i64 (p % t)) ∧ w = w' := by
  have hc := of_core t p h1 h2
  refine callsIn_of_wp Try.func35 rfl hF ?_ hro
  simp only [Try.ntmps35, List.size_toArray, List.length_cons, List.length_nil, Nat.reduceAdd, Nat.reduceSub, Array.replicate_succ, Array.replicate_zero, List.push_toArray, List.append_toArray, List.nil_append, List.cons_append]
  gi_wp2
  go_ret
  exact ⟨rfl, rfl⟩
set_option maxHeartbeats 1000000 in
theorem check_in (F : Fence) (m : Nat) (hF : F.fn 32) (hro : F.round = none) (t a n : Int) (w : World) :
    CallsIn F m Try.prog 32 #[.int .i64 t, .int .i64 a, .int .i64 n] w fun e w' => e = .returned (.int .i64 (chk t a n)) ∧ w = w' := by
  rcases chk_cases t a n with ⟨h, hc⟩ | ⟨h1, h2, h3, h4, h5, hc⟩ | ⟨h1, h2, h3, h4, h5, hc⟩
  · rw [hc]
    by_cases g1 : t < 1
    · refine callsIn_of_wp Try.func32 rfl hF ?_ hro
      simp only [Try.ntmps32, List.size_toArray, List.length_cons, List.length_nil, Nat.reduceAdd, Nat.reduceSub, Array.replicate_succ, Array.replicate_zero, List.push_toArray, List.append_toArray, List.nil_append, List.cons_append]
      gi_wp2
      go_ret
      exact ⟨rfl, rfl⟩
    · by_cases g2 : 64 < t
      · refine callsIn_of_wp Try.func32 rfl hF ?_ hro
        simp only [Try.ntmps32, List.size_toArray, List.length_cons, List.length_nil, Nat.reduceAdd, Nat.reduceSub, Array.replicate_succ, Array.replicate_zero, List.push_toArray, List.append_toArray, List.nil_append, List.cons_append]
        gi_wp2
        go_ret
        exact ⟨rfl, rfl⟩
      · by_cases g3 : a < 0
        · refine callsIn_of_wp Try.func32 rfl hF ?_ hro
          simp only [Try.ntmps32, List.size_toArray, List.length_cons, List.length_nil, Nat.reduceAdd, Nat.reduceSub, Array.replicate_succ, Array.replicate_zero, List.push_toArray, List.append_toArray, List.nil_append, List.cons_append]
          gi_wp2
          go_ret
          exact ⟨rfl, rfl⟩
        · have g4 : t ≤ a := by omega
          refine callsIn_of_wp Try.func32 rfl hF ?_ hro
          simp only [Try.ntmps32, List.size_toArray, List.length_cons, List.length_nil, Nat.reduceAdd, Nat.reduceSub, Array.replicate_succ, Array.replicate_zero, List.push_toArray, List.append_toArray, List.nil_append, List.cons_append]
          gi_wp2
          go_ret
          exact ⟨rfl, rfl⟩
  · rw [hc]
    refine callsIn_of_wp Try.func32 rfl hF ?_ hro
    simp only [Try.ntmps32, List.size_toArray, List.length_cons, List.length_nil, Nat.reduceAdd, Nat.reduceSub, Array.replicate_succ, Array.replicate_zero, List.push_toArray, List.append_toArray, List.nil_append, List.cons_append]
    gi_wp2
    go_ret
    exact ⟨rfl, rfl⟩
  · rw [hc]
    refine callsIn_of_wp Try.func32 rfl hF ?_ hro
    simp only [Try.ntmps32, List.size_toArray, List.length_cons, List.length_nil, Nat.reduceAdd, Nat.reduceSub, Array.replicate_succ, Array.replicate_zero, List.push_toArray, List.append_toArray, List.nil_append, List.cons_append]
    gi_wp2
    go_ret
    exact ⟨rfl, rfl⟩

/-- Whether a machine may have that many threads. -/
def vld (t : Int) : Bool := decide (1 ≤ t ∧ t ≤ 64)
theorem valid_any (t : Int) (w : World) :
    Calls Try.prog 34 #[.int .i64 t] w fun e w' => e = .returned (.bool (vld t)) ∧ w = w' := by
  by_cases g1 : 1 ≤ t
  · by_cases g2 : t ≤ 64
    · have hv : vld t = true := by simp [vld]; omega
      rw [hv]
      go_enter Try.func34, Try.ntmps34
      go_wp2_with fail
      go_ret
      exact ⟨by simp, rfl⟩
    · have hv : vld t = false := by simp [vld]; omega
      rw [hv]
      go_enter Try.func34, Try.ntmps34
      go_wp2_with fail
      go_ret
      exact ⟨by simp, rfl⟩
  · have hv : vld t = false := by simp [vld]; omega
    rw [hv]
    go_enter Try.func34, Try.ntmps34
    go_wp2_with fail
    go_ret
    exact ⟨by simp, rfl⟩
theorem of_any (t p : Int) (h1 : 1 ≤ t) (h2 : t ≤ 64) (w : World) : Calls Try.prog 36 #[.int .i64 t, .int .i64 p] w fun e w' => e = .returned (.int .i64 (p % t)) ∧ w = w' :=
  (callsIn_wide (n := 3)).1 (of_in _ _ trivial rfl t p h1 h2 w)
theorem rchosen_any (t p : Int) (h1 : 1 ≤ t) (h2 : t ≤ 64) (w : World) : Calls Try.prog 35 #[.int .i64 t, .int .i64 p] w fun e w' => e = .returned (.int .i64 (p % t)) ∧ w = w' :=
  (callsIn_wide (n := 3)).1 (rchosen_in _ _ trivial rfl t p h1 h2 w)
theorem check_any (t a n : Int) (w : World) : Calls Try.prog 32 #[.int .i64 t, .int .i64 a, .int .i64 n] w fun e w' => e = .returned (.int .i64 (chk t a n)) ∧ w = w' :=
  (callsIn_wide (n := 3)).1 (check_in _ _ trivial rfl t a n w)
end Go.Proofs.Ytjpmhofpfmogiaa
