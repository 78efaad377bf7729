/- The numbers' functions of chapter 04 (math/bits.TrailingZeros64, draw.Height, draw.Mix and the reference's), each walked once. -/
import Derived.Test.YtmokfjlkfhopnaaDoorMath
import Derived.Test.YtmokfjlkfhopnaaDoorChecked
import Derived.WalkKit
import Derived.WalkSpells
import Derived.WalkLawsBesides
import Derived.Lib.Hide
namespace Go.Proofs.YtmokfjlkfhopnaaDoor
open Go Go.RowKit

/-- The table of math/bits in its variable. -/
def Tab (w : World) : Prop := ∀ j, j < 64 → w.cell? ⟨0, j, none⟩ = some (.int .u8 (Lib.deBruijn64tab.getD j 0))
/-- A number that a uint64 holds. -/
def U64 (x : Int) : Prop := 0 ≤ x ∧ x < 18446744073709551616

set_option maxHeartbeats 1000000 in
theorem tz64_core (x k idx : Nat) (w : World) (hx0 : ((x : Int) == 0) = false)
    (key : IntKind.u64.wrap (bits BinOp.and IntKind.u64 (x : Int) (IntKind.u64.wrap (-(x : Int))) * 285870213051353865) / 288230376151711744 = (idx : Int))
    (hi : idx < 64) (hk : k < 64) (hcell : w.cell? ⟨0, idx, none⟩ = some (.int .u8 k)) :
    Calls Tryd.prog 20 #[.int .u64 x] w fun e w' => e = .returned (.int .i64 k) ∧ w = w' := by
  go_enter Tryd.func20, Tryd.ntmps20
  go_wp2_with (simp only [key])
  go_ret
  exact ⟨rfl, rfl⟩

theorem tz64_zero (w : World) :
    Calls Tryd.prog 20 #[.int .u64 0] w fun e w' => e = .returned (.int .i64 64) ∧ w = w' := by
  go_enter Tryd.func20, Tryd.ntmps20
  go_wp2
  go_ret
  exact ⟨rfl, rfl⟩

theorem tz64_key (x a : Nat) (hx : x < 18446744073709551616) (hx0 : x ≠ 0) (hlow : x &&& (18446744073709551616 - x) = a) :
    IntKind.u64.wrap (bits BinOp.and IntKind.u64 (x : Int) (IntKind.u64.wrap (-(x : Int))) * 285870213051353865) / 288230376151711744 = ((a * 285870213051353865 % 18446744073709551616 / 288230376151711744 : Nat) : Int) := by
  have e1 : IntKind.u64.wrap (-(x : Int)) = ((18446744073709551616 - x : Nat) : Int) := by rw [IntKind.wrap_u64]; omega
  rw [e1, bits_and_u64_nat x _ hx (by omega), hlow, IntKind.wrap_u64]
  omega

theorem tz64_any (x : Nat) (hx : x < 18446744073709551616) (w : World) (hT : Tab w) :
    Calls Tryd.prog 20 #[.int .u64 x] w fun e w' => e = .returned (.int .i64 (Lib.ctz 64 x)) ∧ w = w' := by
  by_cases hx0 : x = 0
  · subst hx0
    exact tz64_zero w
  · obtain ⟨hlow, hk⟩ := Lib.lowest_bit 64 x hx0 hx
    obtain ⟨hi, htab⟩ := Lib.deBruijn64_at _ hk
    have hcell := hT _ hi
    rw [htab] at hcell
    exact tz64_core x _ _ w (by simp; omega) (tz64_key x _ hx hx0 hlow) hi hk hcell

theorem ret_int {k : IntKind} {a b : Int} (h : a = b) : Ending.returned (.int k a) = .returned (.int k b) := by rw [h]
/-! ### draw.Height -/
theorem height_any (x : Nat) (hx : Hid (x < 18446744073709551616)) (w : World) (hT : Hid (Tab w)) :
    Calls Tryd.prog 10 #[.int .u64 x] w fun e w' => e = .returned (.int .i64 (hgt x)) ∧ w = w' := by
  have e1 := Lib.hid (not_form x hx.out)
  have h1 := Lib.hid (min_ctz x hx.out)
  have h2 : Lib.ctz 64 (18446744073709551615 - x) ≤ 64 := by
    unfold Lib.ctz
    split
    · omega
    · exact Nat.le_of_lt (Lib.ctzFrom_spec 64 _ (by omega) (by have := hx.out; omega)).choose_spec.2
  go_enter Tryd.func10, Tryd.ntmps10
  go_wp2_with fail
  rw [e1.out]
  refine (tz64_any _ (by have := hx.out; omega) _ hT.out).mono ?_
  generalize Lib.ctz 64 (18446744073709551615 - x) = c at h1 h2
  rintro e w' ⟨rfl, rfl⟩
  go_wp2_with fail
  all_goals
    go_ret
    exact ⟨ret_int (by have := h1.out; omega), rfl⟩

/-! ### Mix -/

theorem mix_any (s : Nat) (i : Int) (w : World) :
    Calls Tryd.prog 12 #[.int .u64 s, .int .i64 i] w fun e w' => e = .returned (.int .u64 (mix s (i % 18446744073709551616).toNat)) ∧ w = w' := by
  go_enter Tryd.func12, Tryd.ntmps12
  go_wp2_with fail
  go_ret
  exact ⟨ret_int (mix_form s i), rfl⟩
theorem refmix_any (s : Nat) (i : Int) (w : World) :
    Calls Tryd.prog 13 #[.int .u64 s, .int .i64 i] w fun e w' => e = .returned (.int .u64 (mix s (i % 18446744073709551616).toNat)) ∧ w = w' := by
  go_enter Tryd.func13, Tryd.ntmps13
  go_wp2_with fail
  go_ret
  exact ⟨ret_int (refmix_form s i), rfl⟩

theorem refheight_any (x : Nat) (hx : Hid (x < 18446744073709551616)) (w : World) :
    Calls Tryd.prog 11 #[.int .u64 x] w fun e w' => e = .returned (.int .i64 (hgt x)) ∧ w = w' := by
  go_enter Tryd.func11, Tryd.ntmps11
  go_wp2_with fail
  go_loop [0, 3] (fun a n => ∃ (k y : Nat), k ≤ 5 ∧ a = .int .u64 y ∧ n = .int .i64 (k + 1) ∧ Hid (hgt x = 1 + k + hgo (5 - k) y) ∧ Hid (y < 18446744073709551616)) (fun _ n => (6 - intOf n).toNat)
  case atStart => exact ⟨0, x, by omega, rfl, rfl, by unfold Hid hgt; rw [Nat.add_zero, Nat.sub_zero], hx⟩
  case round =>
    obtain ⟨k, y, hk, rfl, rfl, H, hyb⟩ := hrel
    by_cases h5 : k = 5
    · subst h5
      go_wp2
      go_ret
      exact ⟨ret_int (by rw [H.out]; simp [hgo]), rfl⟩
    · have hlt : (k : Int) + 1 < 6 := by omega
      obtain ⟨j, hj⟩ : ∃ j, 5 - k = j + 1 := ⟨4 - k, by omega⟩
      by_cases hy : y % 2 = 1
      · have hy' : (((y : Int) % 2) == 1) = true := by simp; omega
        have H2 : Hid (hgt x = 1 + (k + 1) + hgo (5 - (k + 1)) (y / 2)) := by
          unfold Hid
          rw [H.out, hj, hgo, if_pos hy, show 5 - (k + 1) = j by omega]
          omega
        clear hj hy
        go_wp2
        go_round
        case rel => exact ⟨k + 1, y / 2, by omega, congrArg (Value.int .u64) (by rw [IntKind.wrap_u64]; have := hyb.out; omega), by go_num, H2, (by have := hyb.out; omega : y / 2 < 18446744073709551616)⟩
        case measure => simp [intOf]; omega
      · have hy' : (((y : Int) % 2) == 1) = false := by simp; omega
        have H2 : Hid (hgt x = 1 + k) := by
          unfold Hid
          rw [H.out, hj, hgo, if_neg hy, Nat.add_zero]
        clear hj hy
        go_wp2
        go_ret
        exact ⟨ret_int (by rw [H2.out]; omega), rfl⟩
end Go.Proofs.YtmokfjlkfhopnaaDoor
