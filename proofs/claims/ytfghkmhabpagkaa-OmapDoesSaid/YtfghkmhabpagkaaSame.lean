/- Lists of changes and of pairs, compared: equal ones (printed by gen_same.py). -/
import Derived.Test.YtfghkmhabpagkaaCheck
namespace Go.Proofs.Ytfghkmhabpagkaa
open Go Go.RowKit
set_option linter.unusedVariables false

theorem eqP (a b p q : Int) (w : World) :
    (Op.equalIn 10000 38 (.agg #[.int .u64 a, .int .u64 b]) (.agg #[.int .u64 p, .int .u64 q])).run Try.prog w = .ok (a == p && b == q) w := by
  rw [run_equalIn_struct w 9999 _ _ _ (by kernel_rfl) (by kernel_rfl)]
  simp [Op.eqFields, go_sem, Try.underlying38, Try.underlying23]
  by_cases h0 : a = p <;> by_cases h1 : b = q <;> simp [h0, h1]

theorem sameP (l : List Pr) (A A' : Option Addr) (n n' c c' : Nat) (w : World) (hr : Hid (Reads w w.heap.size 2 A n (prs l))) (hr' : Hid (Reads w w.heap.size 2 A' n' (prs l))) (hn : n ≤ 4611686018427387904) :
    Calls Try.prog 22 #[.slice A n c, .slice A' n' c'] w fun e w' => e = .returned (.bool true) ∧ Below w.heap.size w w' := by
  obtain rfl : n = n' := by have h1 := hr.out.1; have h2 := hr'.out.1; omega
  go_enter Try.func22, Try.ntmps22
  go_wp2_with fail
  go_loopw [5] (fun i wr => ∃ k : Nat, k ≤ n ∧ i = .int .i64 k ∧ Hid (Below w.heap.size w wr)) (fun i _ => n - (intOf i).toNat)
  case atStart => exact ⟨0, by omega, rfl, Below.refl _ _⟩
  case round =>
    obtain ⟨k, hk, rfl, hbel⟩ := hrel
    by_cases hlt : k < n
    · obtain ⟨b, o, rfl, hbB⟩ := reads_head hr.out (by omega) (by decide)
      obtain ⟨b', o', rfl, hbB'⟩ := reads_head hr'.out (by omega) (by decide)
      obtain ⟨x, hx, c0, c1⟩ := prs_at (hr.out.below hbel.out) hlt
      obtain ⟨y, hy, d0, d1⟩ := prs_at (hr'.out.below hbel.out) hlt
      obtain rfl := Option.some.inj (hx.symm.trans hy)
      obtain ⟨key, val⟩ := x
      dsimp only at c0 d0 c1 d1
      have heq : ∀ w, (Op.equalIn 10000 38 (.agg #[.int .u64 key, .int .u64 val]) (.agg #[.int .u64 key, .int .u64 val])).run Try.prog w = .ok true w := fun w => by rw [eqP]; simp
      clear hx hy
      have i0 : (0 : Int) ≤ (k : Int) := by omega
      have i1 : (k : Int) < (n : Int) := by omega
      go_wp2_with fail
      go_quiet (fail)
      go_wp2
      go_roundw
      case rel => exact ⟨k + 1, by omega, by go_num, below_drewN hbel.out _⟩
      case measure => simp [intOf]; omega
    · go_wp2
      go_ret
      exact ⟨rfl, hbel.out⟩

end Go.Proofs.Ytfghkmhabpagkaa
