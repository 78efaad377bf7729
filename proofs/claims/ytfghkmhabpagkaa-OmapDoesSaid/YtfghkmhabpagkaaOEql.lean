/- The program's map, walked: Equal. -/
import Derived.Test.YtfghkmhabpagkaaOEq
import Derived.Test.YtfghkmhabpagkaaSame
import Derived.Deep.LoopGhost
namespace Go.Proofs.Ytfghkmhabpagkaa
open Go Go.RowKit
set_option linter.unusedVariables false

instance : DecidableEq Pr := fun a b => decidable_of_iff (a.key = b.key ∧ a.val = b.val) (by cases a; cases b; simp)

set_option maxHeartbeats 4000000 in
theorem eqS_any (l m : List Pr) (A A' : Option Addr) (n n' c c' : Nat) (w : World) (hr : Hid (Reads w w.heap.size 2 A n (prs l))) (hr' : Hid (Reads w w.heap.size 2 A' n' (prs m))) (hn : n ≤ 1000000) (hn' : n' ≤ 1000000) :
    Calls Try.prog 43 #[.slice A n c, .slice A' n' c'] w fun e w' => e = .returned (.bool (decide (l = m))) ∧ Below w.heap.size w w' := by
  have hll := Lib.hid (prs_n hr.out)
  have hlm := Lib.hid (prs_n hr'.out)
  by_cases hnn : n = n'
  · subst hnn
    go_enter Try.func43, Try.ntmps43
    go_wp2_with fail
    go_loopg [13] n (fun g i wr => ∃ k : Nat, k + g = n ∧ i = .int .i64 k ∧ Hid (l.take k = m.take k) ∧ Hid (Below w.heap.size w wr))
    case atStart => exact ⟨0, by omega, rfl, rfl, Below.refl _ _⟩
    case round =>
      obtain ⟨k, hk, rfl, htk, hbel⟩ := hrel
      cases gk with
      | zero =>
        obtain rfl : k = n := by omega
        have he : l = m := by
          have h1 := htk.out
          rw [List.take_of_length_le (by rw [hll.out]; exact Nat.le_refl _), List.take_of_length_le (by rw [hlm.out]; exact Nat.le_refl _)] at h1
          exact h1
        have hh := Lib.hid he
        clear htk he
        go_wp2_with fail
        go_ret
        exact ⟨by rw [decide_eq_true hh.out]; rfl, hbel.out⟩
      | succ g =>
        obtain ⟨b, o, rfl, hbB⟩ := reads_head hr.out (by omega) (by decide)
        obtain ⟨b', o', rfl, hbB'⟩ := reads_head hr'.out (by omega) (by decide)
        obtain ⟨x, hx, c0, c1⟩ := prs_at (hr.out.below hbel.out) (show k < n by omega)
        obtain ⟨y, hy, d0, d1⟩ := prs_at (hr'.out.below hbel.out) (show k < n by omega)
        have i0 : (0 : Int) ≤ (k : Int) := by omega
        have i1 : (k : Int) < (n : Int) := by omega
        by_cases hxy : x = y
        · subst hxy
          have ht2 : Hid (l.take (k + 1) = m.take (k + 1)) := by
            unfold Hid
            rw [List.take_add_one, List.take_add_one, hx, hy, htk.out]
          obtain ⟨key, val⟩ := x
          dsimp only at c0 d0 c1 d1
          have heq : ∀ w, (Op.equalIn 10000 38 (.agg #[.int .u64 key, .int .u64 val]) (.agg #[.int .u64 key, .int .u64 val])).run Try.prog w = .ok true w := fun w => by rw [eqP]; simp
          clear hx hy htk
          go_wp2_with fail
          go_quiet (fail)
          go_wp2_with fail
          go_roundg g
          case measure => omega
          case rel => exact ⟨k + 1, by omega, by go_num, ht2, below_drewN hbel.out _⟩
        · have hne : l ≠ m := fun e => by
            rw [e, hy] at hx
            exact hxy (Option.some.inj hx).symm
          have hh := Lib.hid hne
          obtain ⟨xk, xv⟩ := x
          obtain ⟨yk, yv⟩ := y
          dsimp only at c0 d0 c1 d1
          have heq : ∀ w, (Op.equalIn 10000 38 (.agg #[.int .u64 xk, .int .u64 xv]) (.agg #[.int .u64 yk, .int .u64 yv])).run Try.prog w = .ok false w := fun w => by
            rw [eqP]
            have : (xk == yk && xv == yv) = false := by
              rw [Bool.eq_false_iff]
              intro h
              simp only [Bool.and_eq_true, beq_iff_eq] at h
              exact hxy (by rw [h.1, h.2])
            rw [this]
          clear hx hy htk hne hxy
          go_wp2_with fail
          go_quiet (fail)
          go_wp2_with fail
          go_ret
          exact ⟨by rw [decide_eq_false hh.out]; rfl, below_drewN hbel.out _⟩
  · have hne : l ≠ m := fun e => hnn (by rw [← hll.out, ← hlm.out, e])
    rw [decide_eq_false hne]
    have h1 : ((n : Int) == (n' : Int)) = false := by simp; omega
    have h2 : ((n : Int) != (n' : Int)) = true := by simp; omega
    clear hne
    go_enter Try.func43, Try.ntmps43
    go_wp2_with fail
    go_ret
    exact ⟨rfl, Below.refl _ _⟩
set_option maxRecDepth 100000 in
set_option maxHeartbeats 4000000 in
theorem equalM {B B2 : World} {g g2 : Nat} {v v2 : Value} {l l2 : List Pr} (w : World) (h : Hid (MapAt B w g v l)) (h2 : Hid (MapAt B2 w g2 v2 l2)) :
    Calls Try.prog 28 #[.pointer (some ⟨g, 0, none⟩), .pointer (some ⟨g2, 0, none⟩)] w fun e w' => e = .returned (.bool (decide (l = l2))) ∧ Below w.heap.size w w' := by
  obtain ⟨A, n, c, hB, hr, hn, hnc, hc⟩ := h.out.o.q
  obtain ⟨A', n', c', hB', hr', hn', hnc', hc'⟩ := h2.out.o.q
  have hg : w.cell? ⟨g, 0, none⟩ = some (.slice A n c) := by simpa using hB.cell 0
  have hg2 : w.cell? ⟨g2, 0, none⟩ = some (.slice A' n' c') := by simpa using hB'.cell 0
  have hx := eqS_any l l2 A A' n n' c c' w.drew (Lib.hid hr) (Lib.hid hr') hn hn'
  obtain ⟨d, hd⟩ : ∃ d, decide (l = l2) = d := ⟨_, rfl⟩
  rw [hd] at hx ⊢
  clear hB hB' hr hr' h h2 hd
  go_enter Try.func28, Try.ntmps28
  go_wp2_with fail
  go_still_tail 8, (by kernel_rfl)
  change wpList _ _ _ _ _ w.drew
  go_wp2_with fail
  refine hx.mono ?_
  rintro e w1 ⟨rfl, hb⟩
  have hb1 : Hid (Below w.heap.size w w1) := (Below.refl _ w).drew.trans hb
  clear hx hb
  go_wp2_with fail
  go_ret
  exact ⟨rfl, hb1.out⟩
end Go.Proofs.Ytfghkmhabpagkaa
