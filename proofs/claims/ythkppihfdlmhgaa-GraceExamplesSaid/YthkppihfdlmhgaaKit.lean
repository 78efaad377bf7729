/- Lists of events, sections, waits compared (equal ones); copies; the first 80 (printed by gen_kit.py). -/
import Derived.Test.YthkppihfdlmhgaaSecW
import Derived.Test.YthkppihfdlmhgaaDraws
namespace Go.Proofs.Ythkppihfdlmhgaa
open Go Go.RowKit
set_option linter.unusedVariables false

theorem eqEv (a b c d p q r s : Int) (w : World) :
    (Op.equalIn 10000 37 (.agg #[.int .i64 a, .int .i64 b, .int .u8 c, .int .u64 d]) (.agg #[.int .i64 p, .int .i64 q, .int .u8 r, .int .u64 s])).run Try.prog w
      = .ok (a == p && (b == q && (c == r && d == s))) w := by
  rw [run_equalIn_struct w 9999 _ _ _ (by kernel_rfl) (by kernel_rfl)]
  simp [Op.eqFields, go_sem, Try.underlying37, Try.underlying23, Try.underlying3, Try.underlying5]
  by_cases h0 : a = p <;> by_cases h1 : b = q <;> by_cases h2 : c = r <;> by_cases h3 : d = s <;> simp [h0, h1, h2, h3]

theorem eqSe (a b c d p q r s : Int) (w : World) :
    (Op.equalIn 10000 43 (.agg #[.int .i64 a, .int .u64 b, .int .i64 c, .int .i64 d]) (.agg #[.int .i64 p, .int .u64 q, .int .i64 r, .int .i64 s])).run Try.prog w
      = .ok (a == p && (b == q && (c == r && d == s))) w := by
  rw [run_equalIn_struct w 9999 _ _ _ (by kernel_rfl) (by kernel_rfl)]
  simp [Op.eqFields, go_sem, Try.underlying43, Try.underlying23, Try.underlying3]
  by_cases h0 : a = p <;> by_cases h1 : b = q <;> by_cases h2 : c = r <;> by_cases h3 : d = s <;> simp [h0, h1, h2, h3]

theorem eqWa (a b c d p q r s : Int) (w : World) :
    (Op.equalIn 10000 74 (.agg #[.int .i64 a, .int .u64 b, .int .i64 c, .int .i64 d]) (.agg #[.int .i64 p, .int .u64 q, .int .i64 r, .int .i64 s])).run Try.prog w
      = .ok (a == p && (b == q && (c == r && d == s))) w := by
  rw [run_equalIn_struct w 9999 _ _ _ (by kernel_rfl) (by kernel_rfl)]
  simp [Op.eqFields, go_sem, Try.underlying74, Try.underlying23, Try.underlying3]
  by_cases h0 : a = p <;> by_cases h1 : b = q <;> by_cases h2 : c = r <;> by_cases h3 : d = s <;> simp [h0, h1, h2, h3]

theorem sameEv (l : List Ev) (A A' : Option Addr) (n n' c c' : Nat) (w : World) (hr : Hid (Reads w w.heap.size 4 A n (evs l))) (hr' : Hid (Reads w w.heap.size 4 A' n' (evs l))) (hn : n ≤ 4611686018427387904) :
    Calls Try.prog 12 #[.slice A n c, .slice A' n' c'] w fun e w' => e = .returned (.bool true) ∧ Below w.heap.size w w' := by
  obtain rfl : n = n' := by have h1 := hr.out.1; have h2 := hr'.out.1; omega
  go_enter Try.func12, Try.ntmps12
  go_wp2_with fail
  go_loopw [5] (fun i wr => ∃ k : Nat, k ≤ n ∧ i = .int .i64 k ∧ Hid (Below w.heap.size w wr)) (fun i _ => n - (intOf i).toNat)
  case atStart => exact ⟨0, by omega, rfl, Below.refl _ _⟩
  case round =>
    obtain ⟨k, hk, rfl, hbel⟩ := hrel
    by_cases hlt : k < n
    · obtain ⟨b, o, rfl, hbB⟩ := reads_head hr.out (by omega) (by decide)
      obtain ⟨b', o', rfl, hbB'⟩ := reads_head hr'.out (by omega) (by decide)
      obtain ⟨x, hx, c0, c1, c2, c3⟩ := ev_at (hr.out.below hbel.out) hlt
      obtain ⟨y, hy, d0, d1, d2, d3⟩ := ev_at (hr'.out.below hbel.out) hlt
      obtain rfl := Option.some.inj (hx.symm.trans hy)
      obtain ⟨xa, xb, xc, xd⟩ := x
      dsimp only at c0 d0 c1 d1 c2 d2 c3 d3
      have heq : ∀ w, (Op.equalIn 10000 37 (.agg #[.int .i64 xa, .int .i64 xb, .int .u8 xc, .int .u64 xd]) (.agg #[.int .i64 xa, .int .i64 xb, .int .u8 xc, .int .u64 xd])).run Try.prog w = .ok true w := fun w => by rw [eqEv]; simp
      clear hx hy
      have i0 : (0 : Int) ≤ (k : Int) := by omega
      have i1 : (k : Int) < (n : Int) := by omega
      go_wp2_with fail
      go_quiet (fail)
      go_wp2
      go_roundw
      case rel => exact ⟨k + 1, by omega, by go_num, below_drewN hbel.out _⟩
      case measure => simp [intOf]; omega
    · go_wp2
      go_ret
      exact ⟨rfl, hbel.out⟩

theorem sameSe (l : List Sec) (A A' : Option Addr) (n n' c c' : Nat) (w : World) (hr : Hid (Reads w w.heap.size 4 A n (secs l))) (hr' : Hid (Reads w w.heap.size 4 A' n' (secs l))) (hn : n ≤ 4611686018427387904) :
    Calls Try.prog 11 #[.slice A n c, .slice A' n' c'] w fun e w' => e = .returned (.bool true) ∧ Below w.heap.size w w' := by
  obtain rfl : n = n' := by have h1 := hr.out.1; have h2 := hr'.out.1; omega
  go_enter Try.func11, Try.ntmps11
  go_wp2_with fail
  go_loopw [5] (fun i wr => ∃ k : Nat, k ≤ n ∧ i = .int .i64 k ∧ Hid (Below w.heap.size w wr)) (fun i _ => n - (intOf i).toNat)
  case atStart => exact ⟨0, by omega, rfl, Below.refl _ _⟩
  case round =>
    obtain ⟨k, hk, rfl, hbel⟩ := hrel
    by_cases hlt : k < n
    · obtain ⟨b, o, rfl, hbB⟩ := reads_head hr.out (by omega) (by decide)
      obtain ⟨b', o', rfl, hbB'⟩ := reads_head hr'.out (by omega) (by decide)
      obtain ⟨x, hx, c0, c1, c2, c3⟩ := sec_at (hr.out.below hbel.out) hlt
      obtain ⟨y, hy, d0, d1, d2, d3⟩ := sec_at (hr'.out.below hbel.out) hlt
      obtain rfl := Option.some.inj (hx.symm.trans hy)
      obtain ⟨xa, xb, xc, xd⟩ := x
      dsimp only at c0 d0 c1 d1 c2 d2 c3 d3
      have heq : ∀ w, (Op.equalIn 10000 43 (.agg #[.int .i64 xa, .int .u64 xb, .int .i64 xc, .int .i64 xd]) (.agg #[.int .i64 xa, .int .u64 xb, .int .i64 xc, .int .i64 xd])).run Try.prog w = .ok true w := fun w => by rw [eqSe]; simp
      clear hx hy
      have i0 : (0 : Int) ≤ (k : Int) := by omega
      have i1 : (k : Int) < (n : Int) := by omega
      go_wp2_with fail
      go_quiet (fail)
      go_wp2
      go_roundw
      case rel => exact ⟨k + 1, by omega, by go_num, below_drewN hbel.out _⟩
      case measure => simp [intOf]; omega
    · go_wp2
      go_ret
      exact ⟨rfl, hbel.out⟩

/-- A list is returned in new memory (or nil). -/
def CopyEnd (L : List Ev) (n : Nat) (w : World) (e : Ending) (w' : World) : Prop :=
  ∃ A c, e = .returned (.slice A n c) ∧ w'.ownsRow w.heap.size 37 4 (.slice A n c) n (evs L) ∧ Below w.heap.size w w'
theorem copy_any (l : List Ev) (A : Option Addr) (n c : Nat) (w : World) (hr : Hid (Reads w w.heap.size 4 A n (evs l))) (hn : n ≤ 65537) :
    Calls Try.prog 20 #[.slice A n c] w (CopyEnd l n w) := by
  obtain ⟨i0, hi0, hz0, hz1, hz2⟩ := info_parts infoEv
  go_enter Try.func20, Try.ntmps20
  go_wp2_with (at_builtin; refine wpList_append_any _ rfl _ _ 22 rfl w.heap.size 37 i0 _ 4 32 Try.underlying22 hi0 hz0 hz1 hz2 rfl (by decide) (.slice none 0 0) 0 [] rfl (World.ownsRow_nil _ _ _ _) w.heap.size A n c (evs l) rfl hr.out (evs_one l) (by unfold maxLen; omega) (by omega) (Nat.le_refl _) ?_; intro v' w1 hown' hgrow hat)
  simp only [Nat.zero_add, List.nil_append] at hown'
  obtain ⟨A', c', rfl, _⟩ := own_form hown'
  have hb := (Below.refl w.heap.size w).grown hgrow (Nat.le_refl _) (fun k e => by simp [Value.ownBlock] at e)
  go_ret
  exact ⟨A', c', rfl, hown', hb⟩
theorem evs_take (l : List Ev) (k : Nat) : (evs l).take (k * 4) = evs (l.take k) := flat_take evC 4 evC_len l k
theorem few_any (l : List Ev) (A : Option Addr) (n c : Nat) (w : World) (hr : Hid (Reads w w.heap.size 4 A n (evs l))) (hnc : n ≤ c) (hc : c ≤ 9223372036854775807) :
    Calls Try.prog 8 #[.slice A n c] w (CopyEnd (l.take 80) (l.take 80).length w) := by
  have hl : l.length = n := evs_n hr.out
  by_cases h4 : n ≤ 80
  · rw [List.take_of_length_le (by omega), hl]
    have h5 : (n : Int) ≤ 80 := by omega
    have h6 : (n : Int) ≤ (c : Int) := by omega
    clear hl
    go_enter Try.func8, Try.ntmps8
    go_wp2_with fail
    refine (copy_any l A _ _ _ hr (by omega)).mono ?_
    rintro e w1 ⟨A1, c1, rfl, hown, hb⟩
    go_wp2_with fail
    go_ret
    exact ⟨A1, c1, rfl, hown, hb⟩
  · have e1 : (l.take 80).length = 80 := by rw [List.length_take]; omega
    have hr2 : Hid (Reads w w.heap.size 4 A 80 (evs (l.take 80))) := by
      rw [← evs_take]
      exact hr.out.take_ (by omega)
    rw [e1]
    have h5 : ¬ (n : Int) ≤ 80 := by omega
    have h6 : (80 : Int) ≤ (c : Int) := by omega
    clear e1 hl
    go_enter Try.func8, Try.ntmps8
    go_wp2_with fail
    refine (copy_any _ _ _ _ _ hr2 (by omega)).mono ?_
    rintro e w1 ⟨A1, c1, rfl, hown, hb⟩
    go_wp2_with fail
    go_ret
    exact ⟨A1, c1, rfl, hown, hb⟩
end Go.Proofs.Ythkppihfdlmhgaa
